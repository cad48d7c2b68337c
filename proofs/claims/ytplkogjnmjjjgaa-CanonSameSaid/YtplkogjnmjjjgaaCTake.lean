/- The walk of canon.Take. -/
import Derived.Test.YtplkogjnmjjjgaaCBack
import Derived.Test.YtplkogjnmjjjgaaCNode
import Derived.Laws.EntriesVeiled
namespace Go.Proofs.Ytplkogjnmjjjgaa
open Go.ChangeShapes Go.WideShapes Go.ChangeAt Go.RowKit
set_option linter.unusedVariables false
set_option linter.unusedSimpArgs false

def parsed (s : ByteArray) : Gr × Rs := graphP ((openV s).data.toList, 0)
def takeOk (s : ByteArray) : Bool := decide (openE s = 0 ∧ (parsed s).2.2 = 0 ∧ mayG (parsed s).1 = true ∧ putS (parsed s).1 = s)
def takeG (s : ByteArray) : Gr := if takeOk s then (parsed s).1 else ⟨[], []⟩
def takeE (s : ByteArray) : Nat := if openE s ≠ 0 then openE s else if takeOk s then 0 else 2
theorem FKN.adopt {W0 w w' : World} {K : List (Nat × Obj)} {X : Nat} {o : Obj} (h : FKN W0 K w) (c : Below w.heap.size w w') (hX : w.heap.size ≤ X) (ho : w'.heap[X]? = some o) : FKN W0 ((X, o) :: K) w' := by
  refine ⟨h.1.adopt c hX ho, ?_, fun x hx => ?_⟩
  · rw [List.map_cons, List.nodup_cons]
    refine ⟨fun hm => ?_, h.2.1⟩
    rw [List.mem_map] at hm
    obtain ⟨x, hx, e⟩ := hm
    have := block_lt (h.1.block (o := x.2) (X := x.1) hx)
    simp only at e
    omega
  · simp only [List.mem_cons] at hx
    rcases hx with rfl | hx
    · exact Nat.le_trans h.1.below.size hX
    · exact h.2.2 x hx
/-- a graph copied from one block into another -/
theorem copy2 {W0 W : World} {K : List (Nat × Obj)} {b2 b3 : Nat} {a b x y : Value} (h : FKN W0 ((b3, .cells #[a, b] 25 (0, 0)) :: (b2, .cells #[x, y] 25 (0, 0)) :: K) W) :
    (W.cell? ⟨b3, 0, none⟩ = some a ∧ W.cell? ⟨b3, 1, none⟩ = some b) ∧ (W.cell? ⟨b2, 0, none⟩ = some x ∧ W.cell? ⟨b2, 1, none⟩ = some y) ∧ (W.frozen? ⟨b2, 0, none⟩ = false ∧ W.frozen? ⟨b2, 1, none⟩ = false) ∧
      ∀ p q, ∃ V, (W.setCell ⟨b2, 0, none⟩ p).setCell ⟨b2, 1, none⟩ q = V ∧ (V.cell? ⟨b2, 0, none⟩ = some p ∧ V.cell? ⟨b2, 1, none⟩ = some q) ∧ FKN W0 K V := by
  have hq := h.1.block (List.mem_cons_self ..)
  have hp := h.perm (List.Perm.swap _ _ _)
  have hq2 := hp.1.block (List.mem_cons_self ..)
  refine ⟨⟨at_cell hq 0 _ rfl, at_cell hq 1 _ rfl⟩, ⟨at_cell hq2 0 _ rfl, at_cell hq2 1 _ rfl⟩, ⟨at_free hq2 0, at_free hq2 1⟩, fun p q => ?_⟩
  have hs := (hp.set 0 p).set 1 q
  have hq3 := hs.1.block (List.mem_cons_self ..)
  exact ⟨_, rfl, ⟨at_cell hq3 0 _ rfl, at_cell hq3 1 _ rfl⟩, hs.tail.tail⟩
theorem OGr.none (base : Nat) : OGr base ⟨[], []⟩ Option.none Option.none 0 0 [] := ⟨[], [], [], [], Rw.nil _ _ _, Rw.nil _ _ _, .nil, rfl⟩
theorem fkn_nil {W0 w : World} {K : List (Nat × Obj)} (h : FKN W0 K w) : FKN W0 [] w := ⟨h.1.sub (fun x hx => by cases hx), by simp, fun x hx => by cases hx⟩
theorem str_ne {a b : ByteArray} (h : a ≠ b) : (a.toList == b.toList) = false := by
  rw [beq_eq_false_iff_ne]
  intro e
  rw [ByteArray.toList_eq, ByteArray.toList_eq] at e
  exact h (ByteArray.ext (Array.toList_inj.1 e))
theorem put_all {V : World} {ar an : Option Addr} {g : Gr} (cr cn : Nat) (hG : GRd V ar an g) (few : FewG g) (hlen : mayG g = true → (graphB (trimG g)).length ≤ 900000) :
    Calls Try.prog 32 #[.agg #[.slice ar g.rs.length cr, .slice an g.ns.length cn]] V fun e w' => e = .returned (.tuple #[.string (if mayG g then putS g else ⟨#[]⟩), .int .i64 (if mayG g then 0 else 5)]) ∧ Below V.heap.size V w' := by
  cases hm : mayG g with
  | true => exact put_any cr cn hG few hm (hlen hm)
  | false => exact put_bad cr cn hG hm
set_option maxRecDepth 100000 in
set_option maxHeartbeats 4000000 in
theorem take_bad {w : World} {s : ByteArray} (hs : s.size ≤ 100000) (he : openE s ≠ 0) :
    Calls Try.prog 30 #[.string s] w fun e w' => ∃ ar an cr cn, e = .returned (.tuple #[.agg #[.slice ar (takeG s).rs.length cr, .slice an (takeG s).ns.length cn], .int .i64 (takeE s : Nat)]) ∧ ∃ B, OGr w.heap.size (takeG s) ar an cr cn B ∧ FKN w B w' := by
  have hok : takeOk s = false := by unfold takeOk; exact decide_eq_false fun h => he h.1
  have hg : takeG s = ⟨[], []⟩ := by unfold takeG; rw [hok]; rfl
  have hE : takeE s = openE s := by unfold takeE; rw [if_pos he]
  rw [hg, hE]
  have h1 := (FKN.refl w).box #[.slice none 0 0, .slice none 0 0] 25
  have HO := Lib.hid (fun W => open_all s W (by omega))
  obtain ⟨ee, hee⟩ : ∃ ee, openE s = ee := ⟨_, rfl⟩
  rw [hee] at HO he ⊢
  have hne : (((ee : Nat) : Int) != 0) = true := by simp; exact he
  have H1 := Lib.hid h1
  clear h1 hs he hok hg hE hee
  obtain ⟨b2, hb2⟩ : ∃ b2, w.heap.size = b2 := ⟨_, rfl⟩
  simp only [hb2] at H1
  go_enter Try.func30, Try.ntmps30
  go_wp2_with (go_at_call 58; refine (HO.out _).mono ?_; rintro e w2 ⟨rfl, hb⟩; have hF := H1.out.grow hb; have hq := hF.1.block (List.mem_cons_self ..); have c0 := at_cell hq 0 _ rfl; have c1 := at_cell hq 1 _ rfl; have f0 := at_free hq 0; have f1 := at_free hq 1; have hs := (hF.set 0 (.slice none 0 0)).set 1 (.slice none 0 0); obtain ⟨V, hV⟩ : ∃ V, (w2.setCell ⟨b2, 0, none⟩ (.slice none 0 0)).setCell ⟨b2, 1, none⟩ (.slice none 0 0) = V := ⟨_, rfl⟩; rw [hV] at hs; have hq2 := hs.1.block (List.mem_cons_self ..); have r0 := at_cell hq2 0 _ rfl; have r1 := at_cell hq2 1 _ rfl; have HS := Lib.hid hs.tail; clear hb hF hq hs hq2)
  exact bodyPost_ret (v := .tuple #[.agg #[.slice none 0 0, .slice none 0 0], .int .i64 (ee : Nat)]) (by simp [results, Try.results30, go_sem, r0, r1]) rfl ⟨none, none, 0, 0, rfl, [], OGr.none _, HS.out⟩
set_option maxRecDepth 100000 in
set_option maxHeartbeats 4000000 in
theorem take_main {w : World} {s : ByteArray} (hs : s.size ≤ 100000) (he : openE s = 0) (hpfew : FewG (parsed s).1) (hplen : mayG (parsed s).1 = true → (graphB (trimG (parsed s).1)).length ≤ 900000) :
    Calls Try.prog 30 #[.string s] w fun e w' => ∃ ar an cr cn, e = .returned (.tuple #[.agg #[.slice ar (takeG s).rs.length cr, .slice an (takeG s).ns.length cn], .int .i64 (takeE s : Nat)]) ∧ ∃ B, OGr w.heap.size (takeG s) ar an cr cn B ∧ FKN w B w' := by
  have h1 := (FKN.refl w).box #[.slice none 0 0, .slice none 0 0] 25
  have HO := Lib.hid (fun W => open_all s W (by omega))
  rw [he] at HO
  have hvs := openV_size s
  have hcase : (takeOk s = false ∧ (mayG (parsed s).1 = false ∨ (mayG (parsed s).1 = true ∧ ((parsed s).2.2 ≠ 0 ∨ ((parsed s).2.2 = 0 ∧ putS (parsed s).1 ≠ s))))) ∨ (takeOk s = true ∧ mayG (parsed s).1 = true ∧ (parsed s).2.2 = 0 ∧ putS (parsed s).1 = s) := by
    unfold takeOk
    by_cases h1 : mayG (parsed s).1 = true
    · by_cases h2 : (parsed s).2.2 = 0
      · by_cases h3 : putS (parsed s).1 = s
        · exact .inr ⟨decide_eq_true ⟨he, h2, h1, h3⟩, h1, h2, h3⟩
        · exact .inl ⟨decide_eq_false fun h => h3 h.2.2.2, .inr ⟨h1, .inr ⟨h2, h3⟩⟩⟩
      · exact .inl ⟨decide_eq_false fun h => h2 h.2.1, .inr ⟨h1, .inl h2⟩⟩
    · exact .inl ⟨decide_eq_false fun h => h1 h.2.2.1, .inl (by simpa using h1)⟩
  have hE : takeE s = if takeOk s then 0 else 2 := by unfold takeE; rw [if_neg (by omega)]
  have hGt : takeG s = if takeOk s then (parsed s).1 else ⟨[], []⟩ := rfl
  have hpok : OkG (parsed s).1 := graphP_ok _
  have hL : (openV s).data.toList.length ≤ 100000 := by rw [size_list]; omega
  rw [hE, hGt]
  obtain ⟨t, ht⟩ : ∃ t, openV s = t := ⟨_, rfl⟩
  have hpar : parsed s = (⟨(rowP intP (t.data.toList, 0)).1, (rowP nodeP (rowP intP (t.data.toList, 0)).2).1⟩, (rowP nodeP (rowP intP (t.data.toList, 0)).2).2) := by rw [← ht]; rfl
  rw [ht] at HO hL
  have heat := (rowP_eats intP_eats (t.data.toList, 0)).1
  obtain ⟨xr, s1, hr⟩ : ∃ xr s1, rowP intP (t.data.toList, 0) = (xr, s1) := ⟨_, _, rfl⟩
  obtain ⟨xn, s2, hn⟩ : ∃ xn s2, rowP nodeP s1 = (xn, s2) := ⟨_, _, rfl⟩
  simp only [hr, hn] at hpar heat
  rw [hpar] at hcase hpok hpfew hplen ⊢
  simp only at hcase hpok hpfew hplen
  have HI := Lib.hid (fun W K rb (h : FKN w ((rb, rdO (t.data.toList, 0)) :: K) W) => many_int h (by simp only; omega))
  rw [hr] at HI
  have HNo := Lib.hid (fun W K rb cb fb (h : FKN w ((rb, rdO s1) :: K) W) h1 h2 => many_node (cb := cb) (fb := fb) h h1 h2 (by omega))
  rw [hn] at HNo
  simp only at HI HNo
  have HPut := Lib.hid (fun W a b c d (h : GRd W a b ⟨xr, xn⟩) => put_all c d h hpfew hplen)
  have HOK := Lib.hid hpok
  have H1 := Lib.hid h1
  clear h1 hs he hvs hE hGt hpok hpfew hplen hL ht hpar heat hr hn
  obtain ⟨b2, hb2⟩ : ∃ b2, w.heap.size = b2 := ⟨_, rfl⟩
  simp only [hb2] at H1
  generalize takeOk s = ok at *
  rcases hcase with ⟨rfl, hm | ⟨hm, hy | ⟨hy, hp⟩⟩⟩ | ⟨rfl, hm, hy, hp⟩
  all_goals
    rw [hm] at HPut
    simp only [if_true, if_false, Bool.false_eq_true] at HPut ⊢
  · clear hm
    go_enter Try.func30, Try.ntmps30
    go_wp2_with (first
      | (go_at_call 58; refine (HO.out _).mono ?_; rintro e w2 ⟨rfl, hb⟩; have H2 := Lib.hid (H1.out.grow hb); clear hb)
      | (go_at_call 59; refine (Wr.newReader_any _ _).mono ?_; rintro e w3 ⟨rfl, hR, hb⟩; have hA := H2.out.adopt (o := rdO (t.data.toList, 0)) hb (Nat.le_refl _) hR; obtain ⟨rb, hrb⟩ : ∃ rb, w2.heap.size = rb := ⟨_, rfl⟩; simp only [hrb] at hA; have hB := (hA.box #[.pointer (some ⟨rb, 0, none⟩)] 95).box #[.func (.func 60) #[] #[.pointer (some ⟨w3.heap.size, 0, none⟩)]] 100; simp only [heap_size_alloc] at hB; obtain ⟨cb, hcb⟩ : ∃ cb, w3.heap.size = cb := ⟨_, rfl⟩; simp only [hcb] at hB; obtain ⟨fb, hfb⟩ : ∃ fb, cb + 1 = fb := ⟨_, rfl⟩; simp only [hfb] at hB; obtain ⟨W5, hW5⟩ : ∃ W, (w3.alloc (.cells #[.pointer (some ⟨rb, 0, none⟩)] 95)).alloc (.cells #[.func (.func 60) #[] #[.pointer (some ⟨cb, 0, none⟩)]] 100) = W := ⟨_, rfl⟩; rw [hW5] at hB; have hB2 := hB.perm (K' := (rb, rdO (t.data.toList, 0)) :: ((fb, Obj.cells #[.func (.func 60) #[] #[.pointer (some ⟨cb, 0, none⟩)]] 100 (0, 0)) :: (cb, Obj.cells #[.pointer (some ⟨rb, 0, none⟩)] 95 (0, 0)) :: [(b2, Obj.cells #[.slice none 0 0, .slice none 0 0] 25 (0, 0))])) (permC fun x => by simp only [List.count_append, List.count_cons, List.append_assoc, List.cons_append]; ac_rfl); have c5 := at_cell (hB2.1.block (X := cb) (o := Obj.cells #[.pointer (some ⟨rb, 0, none⟩)] 95 (0, 0)) (by simp)) 0 _ rfl; have H5 := Lib.hid hB2; clear hR hb hA hB hB2)
      | (go_at_call 64; refine (HI.out _ _ _ H5.out).mono ?_; rintro e w6 ⟨al, cap, rfl, R, hr, hF⟩; have HRr := Lib.hid hr; have hB := hF.box #[.slice al xr.length cap, .slice none 0 0] 25; obtain ⟨gb, hgb⟩ : ∃ gb, w6.heap.size = gb := ⟨_, rfl⟩; simp only [hgb] at hB; have c6 := at_cell (hF.1.block (X := cb) (o := Obj.cells #[.pointer (some ⟨rb, 0, none⟩)] 95 (0, 0)) (by simp)) 0 _ rfl; have hB2 := hB.perm (K' := (rb, rdO s1) :: ((gb, Obj.cells #[.slice al xr.length cap, .slice none 0 0] 25 (0, 0)) :: (R ++ ((fb, Obj.cells #[.func (.func 60) #[] #[.pointer (some ⟨cb, 0, none⟩)]] 100 (0, 0)) :: (cb, Obj.cells #[.pointer (some ⟨rb, 0, none⟩)] 95 (0, 0)) :: [(b2, Obj.cells #[.slice none 0 0, .slice none 0 0] 25 (0, 0))])))) (permC fun x => by simp only [List.count_append, List.count_cons, List.append_assoc, List.cons_append]; ac_rfl); have c7 := at_cell (hB2.1.block (X := cb) (o := Obj.cells #[.pointer (some ⟨rb, 0, none⟩)] 95 (0, 0)) (by simp)) 0 _ rfl; have H7 := Lib.hid hB2; clear hr hF hB hB2)
      | (go_at_call 68; refine (HNo.out _ _ _ cb fb H7.out (by simp) (by simp)).mono ?_; rintro e w8 ⟨an, cn, rfl, B, ⟨Rn, xs, Rx, hrn, hxx, rfl⟩, hF⟩; have hp8 := hF.perm (K' := (gb, Obj.cells #[.slice al xr.length cap, .slice none 0 0] 25 (0, 0)) :: ((rb, rdO s2) :: ((R ++ (Rn ++ Rx)) ++ ((fb, Obj.cells #[.func (.func 60) #[] #[.pointer (some ⟨cb, 0, none⟩)]] 100 (0, 0)) :: (cb, Obj.cells #[.pointer (some ⟨rb, 0, none⟩)] 95 (0, 0)) :: [(b2, Obj.cells #[.slice none 0 0, .slice none 0 0] 25 (0, 0))])))) (permC fun x => by simp only [List.count_append, List.count_cons, List.append_assoc, List.cons_append]; ac_rfl); have hq := hp8.1.block (List.mem_cons_self ..); have y1 := at_cell hq 1 _ rfl; have k1 := at_free hq 1; have hset := hp8.set 1 (.slice an xn.length cn); obtain ⟨V9, hV9⟩ : ∃ V, w8.setCell ⟨gb, 1, none⟩ (.slice an xn.length cn) = V := ⟨_, rfl⟩; rw [hV9] at hset; have hset : FKN w ((gb, Obj.cells #[.slice al xr.length cap, .slice an xn.length cn] 25 (0, 0)) :: ((rb, rdO s2) :: ((R ++ (Rn ++ Rx)) ++ ((fb, Obj.cells #[.func (.func 60) #[] #[.pointer (some ⟨cb, 0, none⟩)]] 100 (0, 0)) :: (cb, Obj.cells #[.pointer (some ⟨rb, 0, none⟩)] 95 (0, 0)) :: [(b2, Obj.cells #[.slice none 0 0, .slice none 0 0] 25 (0, 0))])))) V9 := hset; have hq9 := hset.1.block (List.mem_cons_self ..); have g90 := at_cell hq9 0 _ rfl; have g91 := at_cell hq9 1 _ rfl; have hog : OGr w.heap.size ⟨xr, xn⟩ al an cap cn (R ++ (Rn ++ Rx)) := ⟨R, Rn, xs, Rx, HRr.out, hrn, hxx, rfl⟩; have HOG := Lib.hid hog; have HG9 := Lib.hid (hog.rd hset.1 (fun x hx => List.mem_cons_of_mem _ (List.mem_cons_of_mem _ (List.mem_append_left _ hx))) HOK.out); have H9 := Lib.hid hset; clear hF hp8 hq hset hq9 hrn hxx hog)
      | (go_at_call 32; refine (HPut.out _ _ _ _ _ HG9.out).mono ?_; rintro e w10 ⟨rfl, hb⟩; have h10 := H9.out.grow hb; have hp10 := h10.perm (K' := (rb, rdO s2) :: ((gb, Obj.cells #[.slice al xr.length cap, .slice an xn.length cn] 25 (0, 0)) :: ((R ++ (Rn ++ Rx)) ++ ((fb, Obj.cells #[.func (.func 60) #[] #[.pointer (some ⟨cb, 0, none⟩)]] 100 (0, 0)) :: (cb, Obj.cells #[.pointer (some ⟨rb, 0, none⟩)] 95 (0, 0)) :: [(b2, Obj.cells #[.slice none 0 0, .slice none 0 0] 25 (0, 0))])))) (permC fun x => by simp only [List.count_append, List.count_cons, List.append_assoc, List.cons_append]; ac_rfl); have c10 := at_cell (hp10.1.block (X := cb) (o := Obj.cells #[.pointer (some ⟨rb, 0, none⟩)] 95 (0, 0)) (by simp)) 0 _ rfl; have H10 := Lib.hid hp10; obtain ⟨⟨q0, q1⟩, ⟨z0, z1⟩, ⟨k0, k1⟩, hcp⟩ := copy2 (h10.perm (K' := (gb, Obj.cells #[.slice al xr.length cap, .slice an xn.length cn] 25 (0, 0)) :: (b2, Obj.cells #[.slice none 0 0, .slice none 0 0] 25 (0, 0)) :: ((rb, rdO s2) :: ((R ++ (Rn ++ Rx)) ++ ((fb, Obj.cells #[.func (.func 60) #[] #[.pointer (some ⟨cb, 0, none⟩)]] 100 (0, 0)) :: [(cb, Obj.cells #[.pointer (some ⟨rb, 0, none⟩)] 95 (0, 0))])))) (permC fun x => by simp only [List.count_append, List.count_cons, List.append_assoc, List.cons_append]; ac_rfl)); obtain ⟨V, hV, ⟨r0, r1⟩, hFV⟩ := hcp (.slice none 0 0) (.slice none 0 0); have HFV := Lib.hid hFV; clear hb h10 hp10 hcp hFV)
      | (go_at_call 69; refine (err_fk H10.out).mono ?_; rintro e w11 ⟨rfl, rfl⟩))
    exact bodyPost_ret (v := .tuple #[.agg #[.slice none 0 0, .slice none 0 0], .int .i64 2]) (by simp [results, Try.results30, go_sem, r0, r1]) rfl ⟨none, none, 0, 0, rfl, [], OGr.none _, fkn_nil HFV.out⟩
  · have hye : (((s2.2 : Nat) : Int) != 0) = true := by simp; exact hy
    clear hm hy
    go_enter Try.func30, Try.ntmps30
    go_wp2_with (first
      | (go_at_call 58; refine (HO.out _).mono ?_; rintro e w2 ⟨rfl, hb⟩; have H2 := Lib.hid (H1.out.grow hb); clear hb)
      | (go_at_call 59; refine (Wr.newReader_any _ _).mono ?_; rintro e w3 ⟨rfl, hR, hb⟩; have hA := H2.out.adopt (o := rdO (t.data.toList, 0)) hb (Nat.le_refl _) hR; obtain ⟨rb, hrb⟩ : ∃ rb, w2.heap.size = rb := ⟨_, rfl⟩; simp only [hrb] at hA; have hB := (hA.box #[.pointer (some ⟨rb, 0, none⟩)] 95).box #[.func (.func 60) #[] #[.pointer (some ⟨w3.heap.size, 0, none⟩)]] 100; simp only [heap_size_alloc] at hB; obtain ⟨cb, hcb⟩ : ∃ cb, w3.heap.size = cb := ⟨_, rfl⟩; simp only [hcb] at hB; obtain ⟨fb, hfb⟩ : ∃ fb, cb + 1 = fb := ⟨_, rfl⟩; simp only [hfb] at hB; obtain ⟨W5, hW5⟩ : ∃ W, (w3.alloc (.cells #[.pointer (some ⟨rb, 0, none⟩)] 95)).alloc (.cells #[.func (.func 60) #[] #[.pointer (some ⟨cb, 0, none⟩)]] 100) = W := ⟨_, rfl⟩; rw [hW5] at hB; have hB2 := hB.perm (K' := (rb, rdO (t.data.toList, 0)) :: ((fb, Obj.cells #[.func (.func 60) #[] #[.pointer (some ⟨cb, 0, none⟩)]] 100 (0, 0)) :: (cb, Obj.cells #[.pointer (some ⟨rb, 0, none⟩)] 95 (0, 0)) :: [(b2, Obj.cells #[.slice none 0 0, .slice none 0 0] 25 (0, 0))])) (permC fun x => by simp only [List.count_append, List.count_cons, List.append_assoc, List.cons_append]; ac_rfl); have c5 := at_cell (hB2.1.block (X := cb) (o := Obj.cells #[.pointer (some ⟨rb, 0, none⟩)] 95 (0, 0)) (by simp)) 0 _ rfl; have H5 := Lib.hid hB2; clear hR hb hA hB hB2)
      | (go_at_call 64; refine (HI.out _ _ _ H5.out).mono ?_; rintro e w6 ⟨al, cap, rfl, R, hr, hF⟩; have HRr := Lib.hid hr; have hB := hF.box #[.slice al xr.length cap, .slice none 0 0] 25; obtain ⟨gb, hgb⟩ : ∃ gb, w6.heap.size = gb := ⟨_, rfl⟩; simp only [hgb] at hB; have c6 := at_cell (hF.1.block (X := cb) (o := Obj.cells #[.pointer (some ⟨rb, 0, none⟩)] 95 (0, 0)) (by simp)) 0 _ rfl; have hB2 := hB.perm (K' := (rb, rdO s1) :: ((gb, Obj.cells #[.slice al xr.length cap, .slice none 0 0] 25 (0, 0)) :: (R ++ ((fb, Obj.cells #[.func (.func 60) #[] #[.pointer (some ⟨cb, 0, none⟩)]] 100 (0, 0)) :: (cb, Obj.cells #[.pointer (some ⟨rb, 0, none⟩)] 95 (0, 0)) :: [(b2, Obj.cells #[.slice none 0 0, .slice none 0 0] 25 (0, 0))])))) (permC fun x => by simp only [List.count_append, List.count_cons, List.append_assoc, List.cons_append]; ac_rfl); have c7 := at_cell (hB2.1.block (X := cb) (o := Obj.cells #[.pointer (some ⟨rb, 0, none⟩)] 95 (0, 0)) (by simp)) 0 _ rfl; have H7 := Lib.hid hB2; clear hr hF hB hB2)
      | (go_at_call 68; refine (HNo.out _ _ _ cb fb H7.out (by simp) (by simp)).mono ?_; rintro e w8 ⟨an, cn, rfl, B, ⟨Rn, xs, Rx, hrn, hxx, rfl⟩, hF⟩; have hp8 := hF.perm (K' := (gb, Obj.cells #[.slice al xr.length cap, .slice none 0 0] 25 (0, 0)) :: ((rb, rdO s2) :: ((R ++ (Rn ++ Rx)) ++ ((fb, Obj.cells #[.func (.func 60) #[] #[.pointer (some ⟨cb, 0, none⟩)]] 100 (0, 0)) :: (cb, Obj.cells #[.pointer (some ⟨rb, 0, none⟩)] 95 (0, 0)) :: [(b2, Obj.cells #[.slice none 0 0, .slice none 0 0] 25 (0, 0))])))) (permC fun x => by simp only [List.count_append, List.count_cons, List.append_assoc, List.cons_append]; ac_rfl); have hq := hp8.1.block (List.mem_cons_self ..); have y1 := at_cell hq 1 _ rfl; have k1 := at_free hq 1; have hset := hp8.set 1 (.slice an xn.length cn); obtain ⟨V9, hV9⟩ : ∃ V, w8.setCell ⟨gb, 1, none⟩ (.slice an xn.length cn) = V := ⟨_, rfl⟩; rw [hV9] at hset; have hset : FKN w ((gb, Obj.cells #[.slice al xr.length cap, .slice an xn.length cn] 25 (0, 0)) :: ((rb, rdO s2) :: ((R ++ (Rn ++ Rx)) ++ ((fb, Obj.cells #[.func (.func 60) #[] #[.pointer (some ⟨cb, 0, none⟩)]] 100 (0, 0)) :: (cb, Obj.cells #[.pointer (some ⟨rb, 0, none⟩)] 95 (0, 0)) :: [(b2, Obj.cells #[.slice none 0 0, .slice none 0 0] 25 (0, 0))])))) V9 := hset; have hq9 := hset.1.block (List.mem_cons_self ..); have g90 := at_cell hq9 0 _ rfl; have g91 := at_cell hq9 1 _ rfl; have hog : OGr w.heap.size ⟨xr, xn⟩ al an cap cn (R ++ (Rn ++ Rx)) := ⟨R, Rn, xs, Rx, HRr.out, hrn, hxx, rfl⟩; have HOG := Lib.hid hog; have HG9 := Lib.hid (hog.rd hset.1 (fun x hx => List.mem_cons_of_mem _ (List.mem_cons_of_mem _ (List.mem_append_left _ hx))) HOK.out); have H9 := Lib.hid hset; clear hF hp8 hq hset hq9 hrn hxx hog)
      | (go_at_call 32; refine (HPut.out _ _ _ _ _ HG9.out).mono ?_; rintro e w10 ⟨rfl, hb⟩; have h10 := H9.out.grow hb; have hp10 := h10.perm (K' := (rb, rdO s2) :: ((gb, Obj.cells #[.slice al xr.length cap, .slice an xn.length cn] 25 (0, 0)) :: ((R ++ (Rn ++ Rx)) ++ ((fb, Obj.cells #[.func (.func 60) #[] #[.pointer (some ⟨cb, 0, none⟩)]] 100 (0, 0)) :: (cb, Obj.cells #[.pointer (some ⟨rb, 0, none⟩)] 95 (0, 0)) :: [(b2, Obj.cells #[.slice none 0 0, .slice none 0 0] 25 (0, 0))])))) (permC fun x => by simp only [List.count_append, List.count_cons, List.append_assoc, List.cons_append]; ac_rfl); have c10 := at_cell (hp10.1.block (X := cb) (o := Obj.cells #[.pointer (some ⟨rb, 0, none⟩)] 95 (0, 0)) (by simp)) 0 _ rfl; have H10 := Lib.hid hp10; obtain ⟨⟨q0, q1⟩, ⟨z0, z1⟩, ⟨k0, k1⟩, hcp⟩ := copy2 (h10.perm (K' := (gb, Obj.cells #[.slice al xr.length cap, .slice an xn.length cn] 25 (0, 0)) :: (b2, Obj.cells #[.slice none 0 0, .slice none 0 0] 25 (0, 0)) :: ((rb, rdO s2) :: ((R ++ (Rn ++ Rx)) ++ ((fb, Obj.cells #[.func (.func 60) #[] #[.pointer (some ⟨cb, 0, none⟩)]] 100 (0, 0)) :: [(cb, Obj.cells #[.pointer (some ⟨rb, 0, none⟩)] 95 (0, 0))])))) (permC fun x => by simp only [List.count_append, List.count_cons, List.append_assoc, List.cons_append]; ac_rfl)); obtain ⟨V, hV, ⟨r0, r1⟩, hFV⟩ := hcp (.slice none 0 0) (.slice none 0 0); have HFV := Lib.hid hFV; clear hb h10 hp10 hcp hFV)
      | (go_at_call 69; refine (err_fk H10.out).mono ?_; rintro e w11 ⟨rfl, rfl⟩))
    exact bodyPost_ret (v := .tuple #[.agg #[.slice none 0 0, .slice none 0 0], .int .i64 2]) (by simp [results, Try.results30, go_sem, r0, r1]) rfl ⟨none, none, 0, 0, rfl, [], OGr.none _, fkn_nil HFV.out⟩
  · have hye : (((s2.2 : Nat) : Int) != 0) = false := by simp [hy]
    have hpe := str_ne hp
    generalize putS ⟨xr, xn⟩ = ps at *
    clear hm hy hp
    go_enter Try.func30, Try.ntmps30
    go_wp2_with (first
      | (go_at_call 58; refine (HO.out _).mono ?_; rintro e w2 ⟨rfl, hb⟩; have H2 := Lib.hid (H1.out.grow hb); clear hb)
      | (go_at_call 59; refine (Wr.newReader_any _ _).mono ?_; rintro e w3 ⟨rfl, hR, hb⟩; have hA := H2.out.adopt (o := rdO (t.data.toList, 0)) hb (Nat.le_refl _) hR; obtain ⟨rb, hrb⟩ : ∃ rb, w2.heap.size = rb := ⟨_, rfl⟩; simp only [hrb] at hA; have hB := (hA.box #[.pointer (some ⟨rb, 0, none⟩)] 95).box #[.func (.func 60) #[] #[.pointer (some ⟨w3.heap.size, 0, none⟩)]] 100; simp only [heap_size_alloc] at hB; obtain ⟨cb, hcb⟩ : ∃ cb, w3.heap.size = cb := ⟨_, rfl⟩; simp only [hcb] at hB; obtain ⟨fb, hfb⟩ : ∃ fb, cb + 1 = fb := ⟨_, rfl⟩; simp only [hfb] at hB; obtain ⟨W5, hW5⟩ : ∃ W, (w3.alloc (.cells #[.pointer (some ⟨rb, 0, none⟩)] 95)).alloc (.cells #[.func (.func 60) #[] #[.pointer (some ⟨cb, 0, none⟩)]] 100) = W := ⟨_, rfl⟩; rw [hW5] at hB; have hB2 := hB.perm (K' := (rb, rdO (t.data.toList, 0)) :: ((fb, Obj.cells #[.func (.func 60) #[] #[.pointer (some ⟨cb, 0, none⟩)]] 100 (0, 0)) :: (cb, Obj.cells #[.pointer (some ⟨rb, 0, none⟩)] 95 (0, 0)) :: [(b2, Obj.cells #[.slice none 0 0, .slice none 0 0] 25 (0, 0))])) (permC fun x => by simp only [List.count_append, List.count_cons, List.append_assoc, List.cons_append]; ac_rfl); have c5 := at_cell (hB2.1.block (X := cb) (o := Obj.cells #[.pointer (some ⟨rb, 0, none⟩)] 95 (0, 0)) (by simp)) 0 _ rfl; have H5 := Lib.hid hB2; clear hR hb hA hB hB2)
      | (go_at_call 64; refine (HI.out _ _ _ H5.out).mono ?_; rintro e w6 ⟨al, cap, rfl, R, hr, hF⟩; have HRr := Lib.hid hr; have hB := hF.box #[.slice al xr.length cap, .slice none 0 0] 25; obtain ⟨gb, hgb⟩ : ∃ gb, w6.heap.size = gb := ⟨_, rfl⟩; simp only [hgb] at hB; have c6 := at_cell (hF.1.block (X := cb) (o := Obj.cells #[.pointer (some ⟨rb, 0, none⟩)] 95 (0, 0)) (by simp)) 0 _ rfl; have hB2 := hB.perm (K' := (rb, rdO s1) :: ((gb, Obj.cells #[.slice al xr.length cap, .slice none 0 0] 25 (0, 0)) :: (R ++ ((fb, Obj.cells #[.func (.func 60) #[] #[.pointer (some ⟨cb, 0, none⟩)]] 100 (0, 0)) :: (cb, Obj.cells #[.pointer (some ⟨rb, 0, none⟩)] 95 (0, 0)) :: [(b2, Obj.cells #[.slice none 0 0, .slice none 0 0] 25 (0, 0))])))) (permC fun x => by simp only [List.count_append, List.count_cons, List.append_assoc, List.cons_append]; ac_rfl); have c7 := at_cell (hB2.1.block (X := cb) (o := Obj.cells #[.pointer (some ⟨rb, 0, none⟩)] 95 (0, 0)) (by simp)) 0 _ rfl; have H7 := Lib.hid hB2; clear hr hF hB hB2)
      | (go_at_call 68; refine (HNo.out _ _ _ cb fb H7.out (by simp) (by simp)).mono ?_; rintro e w8 ⟨an, cn, rfl, B, ⟨Rn, xs, Rx, hrn, hxx, rfl⟩, hF⟩; have hp8 := hF.perm (K' := (gb, Obj.cells #[.slice al xr.length cap, .slice none 0 0] 25 (0, 0)) :: ((rb, rdO s2) :: ((R ++ (Rn ++ Rx)) ++ ((fb, Obj.cells #[.func (.func 60) #[] #[.pointer (some ⟨cb, 0, none⟩)]] 100 (0, 0)) :: (cb, Obj.cells #[.pointer (some ⟨rb, 0, none⟩)] 95 (0, 0)) :: [(b2, Obj.cells #[.slice none 0 0, .slice none 0 0] 25 (0, 0))])))) (permC fun x => by simp only [List.count_append, List.count_cons, List.append_assoc, List.cons_append]; ac_rfl); have hq := hp8.1.block (List.mem_cons_self ..); have y1 := at_cell hq 1 _ rfl; have k1 := at_free hq 1; have hset := hp8.set 1 (.slice an xn.length cn); obtain ⟨V9, hV9⟩ : ∃ V, w8.setCell ⟨gb, 1, none⟩ (.slice an xn.length cn) = V := ⟨_, rfl⟩; rw [hV9] at hset; have hset : FKN w ((gb, Obj.cells #[.slice al xr.length cap, .slice an xn.length cn] 25 (0, 0)) :: ((rb, rdO s2) :: ((R ++ (Rn ++ Rx)) ++ ((fb, Obj.cells #[.func (.func 60) #[] #[.pointer (some ⟨cb, 0, none⟩)]] 100 (0, 0)) :: (cb, Obj.cells #[.pointer (some ⟨rb, 0, none⟩)] 95 (0, 0)) :: [(b2, Obj.cells #[.slice none 0 0, .slice none 0 0] 25 (0, 0))])))) V9 := hset; have hq9 := hset.1.block (List.mem_cons_self ..); have g90 := at_cell hq9 0 _ rfl; have g91 := at_cell hq9 1 _ rfl; have hog : OGr w.heap.size ⟨xr, xn⟩ al an cap cn (R ++ (Rn ++ Rx)) := ⟨R, Rn, xs, Rx, HRr.out, hrn, hxx, rfl⟩; have HOG := Lib.hid hog; have HG9 := Lib.hid (hog.rd hset.1 (fun x hx => List.mem_cons_of_mem _ (List.mem_cons_of_mem _ (List.mem_append_left _ hx))) HOK.out); have H9 := Lib.hid hset; clear hF hp8 hq hset hq9 hrn hxx hog)
      | (go_at_call 32; refine (HPut.out _ _ _ _ _ HG9.out).mono ?_; rintro e w10 ⟨rfl, hb⟩; have h10 := H9.out.grow hb; have hp10 := h10.perm (K' := (rb, rdO s2) :: ((gb, Obj.cells #[.slice al xr.length cap, .slice an xn.length cn] 25 (0, 0)) :: ((R ++ (Rn ++ Rx)) ++ ((fb, Obj.cells #[.func (.func 60) #[] #[.pointer (some ⟨cb, 0, none⟩)]] 100 (0, 0)) :: (cb, Obj.cells #[.pointer (some ⟨rb, 0, none⟩)] 95 (0, 0)) :: [(b2, Obj.cells #[.slice none 0 0, .slice none 0 0] 25 (0, 0))])))) (permC fun x => by simp only [List.count_append, List.count_cons, List.append_assoc, List.cons_append]; ac_rfl); have c10 := at_cell (hp10.1.block (X := cb) (o := Obj.cells #[.pointer (some ⟨rb, 0, none⟩)] 95 (0, 0)) (by simp)) 0 _ rfl; have H10 := Lib.hid hp10; obtain ⟨⟨q0, q1⟩, ⟨z0, z1⟩, ⟨k0, k1⟩, hcp⟩ := copy2 (h10.perm (K' := (gb, Obj.cells #[.slice al xr.length cap, .slice an xn.length cn] 25 (0, 0)) :: (b2, Obj.cells #[.slice none 0 0, .slice none 0 0] 25 (0, 0)) :: ((rb, rdO s2) :: ((R ++ (Rn ++ Rx)) ++ ((fb, Obj.cells #[.func (.func 60) #[] #[.pointer (some ⟨cb, 0, none⟩)]] 100 (0, 0)) :: [(cb, Obj.cells #[.pointer (some ⟨rb, 0, none⟩)] 95 (0, 0))])))) (permC fun x => by simp only [List.count_append, List.count_cons, List.append_assoc, List.cons_append]; ac_rfl)); obtain ⟨V, hV, ⟨r0, r1⟩, hFV⟩ := hcp (.slice none 0 0) (.slice none 0 0); have HFV := Lib.hid hFV; clear hb h10 hp10 hcp hFV)
      | (go_at_call 69; refine (err_fk H10.out).mono ?_; rintro e w11 ⟨rfl, rfl⟩))
    exact bodyPost_ret (v := .tuple #[.agg #[.slice none 0 0, .slice none 0 0], .int .i64 2]) (by simp [results, Try.results30, go_sem, r0, r1]) rfl ⟨none, none, 0, 0, rfl, [], OGr.none _, fkn_nil HFV.out⟩
  · have hye : (((s2.2 : Nat) : Int) != 0) = false := by simp [hy]
    rw [hp] at HPut
    clear hm hy hp
    go_enter Try.func30, Try.ntmps30
    go_wp2_with (first
      | (go_at_call 58; refine (HO.out _).mono ?_; rintro e w2 ⟨rfl, hb⟩; have H2 := Lib.hid (H1.out.grow hb); clear hb)
      | (go_at_call 59; refine (Wr.newReader_any _ _).mono ?_; rintro e w3 ⟨rfl, hR, hb⟩; have hA := H2.out.adopt (o := rdO (t.data.toList, 0)) hb (Nat.le_refl _) hR; obtain ⟨rb, hrb⟩ : ∃ rb, w2.heap.size = rb := ⟨_, rfl⟩; simp only [hrb] at hA; have hB := (hA.box #[.pointer (some ⟨rb, 0, none⟩)] 95).box #[.func (.func 60) #[] #[.pointer (some ⟨w3.heap.size, 0, none⟩)]] 100; simp only [heap_size_alloc] at hB; obtain ⟨cb, hcb⟩ : ∃ cb, w3.heap.size = cb := ⟨_, rfl⟩; simp only [hcb] at hB; obtain ⟨fb, hfb⟩ : ∃ fb, cb + 1 = fb := ⟨_, rfl⟩; simp only [hfb] at hB; obtain ⟨W5, hW5⟩ : ∃ W, (w3.alloc (.cells #[.pointer (some ⟨rb, 0, none⟩)] 95)).alloc (.cells #[.func (.func 60) #[] #[.pointer (some ⟨cb, 0, none⟩)]] 100) = W := ⟨_, rfl⟩; rw [hW5] at hB; have hB2 := hB.perm (K' := (rb, rdO (t.data.toList, 0)) :: ((fb, Obj.cells #[.func (.func 60) #[] #[.pointer (some ⟨cb, 0, none⟩)]] 100 (0, 0)) :: (cb, Obj.cells #[.pointer (some ⟨rb, 0, none⟩)] 95 (0, 0)) :: [(b2, Obj.cells #[.slice none 0 0, .slice none 0 0] 25 (0, 0))])) (permC fun x => by simp only [List.count_append, List.count_cons, List.append_assoc, List.cons_append]; ac_rfl); have c5 := at_cell (hB2.1.block (X := cb) (o := Obj.cells #[.pointer (some ⟨rb, 0, none⟩)] 95 (0, 0)) (by simp)) 0 _ rfl; have H5 := Lib.hid hB2; clear hR hb hA hB hB2)
      | (go_at_call 64; refine (HI.out _ _ _ H5.out).mono ?_; rintro e w6 ⟨al, cap, rfl, R, hr, hF⟩; have HRr := Lib.hid hr; have hB := hF.box #[.slice al xr.length cap, .slice none 0 0] 25; obtain ⟨gb, hgb⟩ : ∃ gb, w6.heap.size = gb := ⟨_, rfl⟩; simp only [hgb] at hB; have c6 := at_cell (hF.1.block (X := cb) (o := Obj.cells #[.pointer (some ⟨rb, 0, none⟩)] 95 (0, 0)) (by simp)) 0 _ rfl; have hB2 := hB.perm (K' := (rb, rdO s1) :: ((gb, Obj.cells #[.slice al xr.length cap, .slice none 0 0] 25 (0, 0)) :: (R ++ ((fb, Obj.cells #[.func (.func 60) #[] #[.pointer (some ⟨cb, 0, none⟩)]] 100 (0, 0)) :: (cb, Obj.cells #[.pointer (some ⟨rb, 0, none⟩)] 95 (0, 0)) :: [(b2, Obj.cells #[.slice none 0 0, .slice none 0 0] 25 (0, 0))])))) (permC fun x => by simp only [List.count_append, List.count_cons, List.append_assoc, List.cons_append]; ac_rfl); have c7 := at_cell (hB2.1.block (X := cb) (o := Obj.cells #[.pointer (some ⟨rb, 0, none⟩)] 95 (0, 0)) (by simp)) 0 _ rfl; have H7 := Lib.hid hB2; clear hr hF hB hB2)
      | (go_at_call 68; refine (HNo.out _ _ _ cb fb H7.out (by simp) (by simp)).mono ?_; rintro e w8 ⟨an, cn, rfl, B, ⟨Rn, xs, Rx, hrn, hxx, rfl⟩, hF⟩; have hp8 := hF.perm (K' := (gb, Obj.cells #[.slice al xr.length cap, .slice none 0 0] 25 (0, 0)) :: ((rb, rdO s2) :: ((R ++ (Rn ++ Rx)) ++ ((fb, Obj.cells #[.func (.func 60) #[] #[.pointer (some ⟨cb, 0, none⟩)]] 100 (0, 0)) :: (cb, Obj.cells #[.pointer (some ⟨rb, 0, none⟩)] 95 (0, 0)) :: [(b2, Obj.cells #[.slice none 0 0, .slice none 0 0] 25 (0, 0))])))) (permC fun x => by simp only [List.count_append, List.count_cons, List.append_assoc, List.cons_append]; ac_rfl); have hq := hp8.1.block (List.mem_cons_self ..); have y1 := at_cell hq 1 _ rfl; have k1 := at_free hq 1; have hset := hp8.set 1 (.slice an xn.length cn); obtain ⟨V9, hV9⟩ : ∃ V, w8.setCell ⟨gb, 1, none⟩ (.slice an xn.length cn) = V := ⟨_, rfl⟩; rw [hV9] at hset; have hset : FKN w ((gb, Obj.cells #[.slice al xr.length cap, .slice an xn.length cn] 25 (0, 0)) :: ((rb, rdO s2) :: ((R ++ (Rn ++ Rx)) ++ ((fb, Obj.cells #[.func (.func 60) #[] #[.pointer (some ⟨cb, 0, none⟩)]] 100 (0, 0)) :: (cb, Obj.cells #[.pointer (some ⟨rb, 0, none⟩)] 95 (0, 0)) :: [(b2, Obj.cells #[.slice none 0 0, .slice none 0 0] 25 (0, 0))])))) V9 := hset; have hq9 := hset.1.block (List.mem_cons_self ..); have g90 := at_cell hq9 0 _ rfl; have g91 := at_cell hq9 1 _ rfl; have hog : OGr w.heap.size ⟨xr, xn⟩ al an cap cn (R ++ (Rn ++ Rx)) := ⟨R, Rn, xs, Rx, HRr.out, hrn, hxx, rfl⟩; have HOG := Lib.hid hog; have HG9 := Lib.hid (hog.rd hset.1 (fun x hx => List.mem_cons_of_mem _ (List.mem_cons_of_mem _ (List.mem_append_left _ hx))) HOK.out); have H9 := Lib.hid hset; clear hF hp8 hq hset hq9 hrn hxx hog)
      | (go_at_call 32; refine (HPut.out _ _ _ _ _ HG9.out).mono ?_; rintro e w10 ⟨rfl, hb⟩; have h10 := H9.out.grow hb; have hp10 := h10.perm (K' := (rb, rdO s2) :: ((gb, Obj.cells #[.slice al xr.length cap, .slice an xn.length cn] 25 (0, 0)) :: ((R ++ (Rn ++ Rx)) ++ ((fb, Obj.cells #[.func (.func 60) #[] #[.pointer (some ⟨cb, 0, none⟩)]] 100 (0, 0)) :: (cb, Obj.cells #[.pointer (some ⟨rb, 0, none⟩)] 95 (0, 0)) :: [(b2, Obj.cells #[.slice none 0 0, .slice none 0 0] 25 (0, 0))])))) (permC fun x => by simp only [List.count_append, List.count_cons, List.append_assoc, List.cons_append]; ac_rfl); have c10 := at_cell (hp10.1.block (X := cb) (o := Obj.cells #[.pointer (some ⟨rb, 0, none⟩)] 95 (0, 0)) (by simp)) 0 _ rfl; have H10 := Lib.hid hp10; obtain ⟨⟨q0, q1⟩, ⟨z0, z1⟩, ⟨k0, k1⟩, hcp⟩ := copy2 (h10.perm (K' := (gb, Obj.cells #[.slice al xr.length cap, .slice an xn.length cn] 25 (0, 0)) :: (b2, Obj.cells #[.slice none 0 0, .slice none 0 0] 25 (0, 0)) :: ((rb, rdO s2) :: ((R ++ (Rn ++ Rx)) ++ ((fb, Obj.cells #[.func (.func 60) #[] #[.pointer (some ⟨cb, 0, none⟩)]] 100 (0, 0)) :: [(cb, Obj.cells #[.pointer (some ⟨rb, 0, none⟩)] 95 (0, 0))])))) (permC fun x => by simp only [List.count_append, List.count_cons, List.append_assoc, List.cons_append]; ac_rfl)); obtain ⟨V, hV, ⟨r0, r1⟩, hFV⟩ := hcp (.slice al xr.length cap) (.slice an xn.length cn); have HFV := Lib.hid hFV; clear hb h10 hp10 hcp hFV)
      | (go_at_call 69; refine (err_fk H10.out).mono ?_; rintro e w11 ⟨rfl, rfl⟩))
    exact bodyPost_ret (v := .tuple #[.agg #[.slice al xr.length cap, .slice an xn.length cn], .int .i64 0]) (by simp [results, Try.results30, go_sem, r0, r1]) rfl ⟨al, an, cap, cn, rfl, _, HOG.out, FKN.drop (K' := [(rb, rdO s2), (fb, Obj.cells #[.func (.func 60) #[] #[.pointer (some ⟨cb, 0, none⟩)]] 100 (0, 0)), (cb, Obj.cells #[.pointer (some ⟨rb, 0, none⟩)] 95 (0, 0))]) (HFV.out.perm (permC fun x => by simp only [List.count_append, List.count_cons, List.append_assoc, List.cons_append]; ac_rfl))⟩
theorem take_any {w : World} {s : ByteArray} (hs : s.size ≤ 100000) (hpfew : FewG (parsed s).1) (hplen : mayG (parsed s).1 = true → (graphB (trimG (parsed s).1)).length ≤ 900000) :
    Calls Try.prog 30 #[.string s] w fun e w' => ∃ ar an cr cn, e = .returned (.tuple #[.agg #[.slice ar (takeG s).rs.length cr, .slice an (takeG s).ns.length cn], .int .i64 (takeE s : Nat)]) ∧ ∃ B, OGr w.heap.size (takeG s) ar an cr cn B ∧ FKN w B w' := by
  by_cases he : openE s = 0
  · exact take_main hs he hpfew hplen
  · exact take_bad hs he
theorem parsed_few {s : ByteArray} (hs : s.size ≤ 2100) : FewG (parsed s).1 := graphP_few (by have := openV_size s; rw [size_list]; omega)
theorem parsed_len {s : ByteArray} (hs : s.size ≤ 2100) : mayG (parsed s).1 = true → (graphB (trimG (parsed s).1)).length ≤ 900000 := graphP_len (by have := openV_size s; rw [size_list]; omega)
/-- a graph's bytes are taken as its trim -/
theorem parsed_put {g : Gr} (ho : OkG (trimG g)) (hf : FewG (trimG g)) : parsed (putS g) = (trimG g, ([], 0)) := by
  have h := graphP_back ho hf []
  rw [List.append_nil] at h
  unfold parsed putS
  rw [openV_sealed, str_data]
  exact h
theorem take_put {g : Gr} (ho : OkG (trimG g)) (hf : FewG (trimG g)) (hm : mayG g = true) : takeG (putS g) = trimG g ∧ takeE (putS g) = 0 := by
  have hp := parsed_put ho hf
  have h0 : openE (putS g) = 0 := openE_sealed _
  have hok : takeOk (putS g) = true := by
    unfold takeOk
    rw [hp]
    refine decide_eq_true ⟨h0, rfl, trimG_may hm, ?_⟩
    unfold putS
    rw [trimG_twice hm]
  unfold takeG takeE
  rw [hok, hp, h0]
  exact ⟨rfl, rfl⟩
end Go.Proofs.Ytplkogjnmjjjgaa
