/- The walk of TrapUndoes. -/
import Derived.Test.YtkcijlndblbidaaTUndoes1
import Derived.Test.YtkcijlndblbidaaTLives
namespace Go.Proofs.Ytkcijlndblbidaa
open Go.ChangeShapes Go.WideShapes Go.ChangeAt Go.RowKit
set_option linter.unusedVariables false

def g100 : Nat → Nat := fun a => 100 + a
theorem undo_all (n : Nat) (g : Nat → Nat) (ps : List A10.Act) (b : Nat) : undoG (runS n g [] ps).1 ((runS n g [] ps).2.drop 0) b = g b := by
  obtain ⟨ext, h1, h2⟩ := runS_take n g [] ps
  rw [List.drop_zero, h1, List.nil_append]
  exact h2 b
section
variable {W0 : World} {m n t b4 b7 b10 b11 cap k : Nat} {g : Nat → Nat} {K E : List (Nat × Obj)} {a : Option Addr} {ps : List A10.Act}
theorem undoes1_run (h4 : W0.heap[b4]? = some (.cells #[.slice a ps.length cap] 66 (0, 0))) (h7 : W0.heap[b7]? = some (.cells #[.int .i64 n] 3 (0, 0)))
    (hA : A10.Acts W0 a ps) (hk : k ≤ ps.length) (hcap : ps.length ≤ cap) (hcap2 : cap ≤ maxLen) (hg : ∀ b, b < n → g b < 18446744073709551616) (hps : ps.length ≤ 150) (w : World) (h : FK W0 m n t g (E ++ [(b10, .cells #[.int .i64 k] 3 (0, 0))]) w) :
    Calls Try.prog 52 #[.iface 26 (.pointer (some ⟨m, 0, none⟩)), .func (.func 56) #[] #[.pointer (some ⟨b4, 0, none⟩), .pointer (some ⟨b10, 0, none⟩), .pointer (some ⟨b7, 0, none⟩), .pointer (some ⟨b11, 0, none⟩)]] w fun e' W' => e' = .returned (.agg #[.int .i64 8, .int .i64 9]) ∧ FK W0 m n t g E W' := by
  have hnf : ∀ x ∈ [(b10, Obj.cells #[.int .i64 k] 3 (0, 0))], ∀ cs, x.2 ≠ .cells cs 83 (0, 0) := by
    intro x hx cs e
    simp at hx
    subst hx
    simp at e
  refine (run_ret (W0 := W0) (m := m) (n := n) (t := t) (g := g) (K := [(b10, .cells #[.int .i64 k] 3 (0, 0))]) (R := fun g' K' => ∀ b, g' b = g b) (fun wk E W hW => (part_thrown undoes1_enter (undoes1_does (b11 := b11) h4 h7 (by simp) hnf hA hk hcap hcap2 hg hps) (fun g' l' K' hr => ?_) E W hW).mono fun e' W' ⟨he, g', l', K', hr, hk', hT⟩ => ⟨he, _, _, K', ?_, hk', hT⟩) E w h).mono fun e' W' ⟨he, g', K', hr, hk', hF⟩ => ⟨he, (hF.same fun p hp => (hr p).symm).sub fun x hx => List.mem_append_left _ hx⟩
  · rw [hr.2.1, runS_length, List.length_take]
    exact ⟨by simp, by simp; omega⟩
  · intro b
    rw [hr.1, hr.2.1]
    exact undo_all n g _ b
theorem undoes2_run (h4 : W0.heap[b4]? = some (.cells #[.slice a ps.length cap] 66 (0, 0))) (h7 : W0.heap[b7]? = some (.cells #[.int .i64 n] 3 (0, 0)))
    (hA : A10.Acts W0 a ps) (hg : ∀ b, b < n → g b < 18446744073709551616) (hps : ps.length ≤ 150) (w : World) (h : FK W0 m n t g E w) :
    Calls Try.prog 52 #[.iface 26 (.pointer (some ⟨m, 0, none⟩)), .func (.func 60) #[] #[.pointer (some ⟨b4, 0, none⟩), .pointer (some ⟨b7, 0, none⟩)]] w fun e' W' => e' = .returned (.agg #[.int .i64 0, .int .i64 0]) ∧ FK W0 m n t (runS n g [] ps).1 E W' := by
  refine (run_ret (W0 := W0) (m := m) (n := n) (t := t) (g := g) (K := []) (R := fun g' K' => g' = (runS n g [] ps).1 ∧ K' = []) (fun wk E W hW => (part_ok undoes2_enter (undoes2_does h4 h7 (by simp) hA hg hps) E W hW).mono fun e' W' ⟨he, g', l', K', hr, hk', hT⟩ => ⟨he, g', l', K', ⟨hr.1, hr.2.2⟩, hk', hT⟩) E w (by simpa using h)).mono fun e' W' ⟨he, g', K', hr, hk', hF⟩ => ⟨he, ?_⟩
  rw [hr.1, hr.2, List.append_nil] at hF
  exact hF
end
set_option maxRecDepth 100000 in
theorem undoes_many (x y : Int) (a : Option Addr) (len cap : Nat) (w : World) (hl : 150 < len) (hm : len ≤ maxLen) :
    Calls Try.prog 9 #[.int .u8 x, .slice a len cap, .int .u8 y] w fun e w' => e = .returned (.bool true) ∧ Below w.heap.size w w' := by
  unfold maxLen at hm
  have Hv := Lib.hid lives_yes
  go_enter Try.func9, Try.ntmps9
  go_wp2_with (go_at_call 47; refine (Hv.out _).mono ?_; rintro e w2 ⟨rfl, hb⟩)
  go_ret
  exact ⟨rfl, seq (below_new w _) hb⟩
set_option maxRecDepth 100000 in
set_option maxHeartbeats 4000000 in
theorem undoes_walk (x y : Nat) (hx : x < 256) (hy : y < 256) (a : Option Addr) (cap : Nat) (ps : List A10.Act) (w : World) (hl : ps.length ≤ 150) (hcap : ps.length ≤ cap) (hcap2 : cap ≤ maxLen) (hP : A10.Acts w a ps) :
    Calls Try.prog 9 #[.int .u8 x, .slice a ps.length cap, .int .u8 y] w fun e w' => e = .returned (.bool true) ∧ Below w.heap.size w w' := by
  obtain ⟨n, hn⟩ : ∃ n, x % 16 + 1 = n := ⟨_, rfl⟩
  have hn1 : 1 ≤ n ∧ n ≤ 16 := by omega
  have q1 : decide (150 < (ps.length : Int)) = false := decide_eq_false (by omega)
  have hx1 : (x : Int) < 256 := by omega
  have hy1 : (y : Int) < 256 := by omega
  have hc1 : (ps.length : Int) ≤ cap := by omega
  have hl1 : (ps.length : Int) ≤ 150 := by omega
  have Hx := Lib.hid hn
  have HP := Lib.hid hP
  clear hP hn
  go_enter Try.func9, Try.ntmps9
  go_wp2_with (fail)
  have hxi : (x : Int) % 16 + 1 = n := by have := Hx.out; omega
  have hW1 := heap_alloc_new w (.cells #[.slice a ps.length cap] 66)
  have hW2 := blockB (below_new (w.alloc (.cells #[.slice a ps.length cap] 66)) (.cells #[.int .i64 n] 3)) (Nat.le_refl _) hW1
  have hW3 := heap_alloc_new (w.alloc (.cells #[.slice a ps.length cap] 66)) (.cells #[.int .i64 n] 3)
  have hbW : Below w.heap.size w ((w.alloc (.cells #[.slice a ps.length cap] 66)).alloc (.cells #[.int .i64 n] 3)) := seq (below_new w _) (below_new _ _)
  rw [heap_size_alloc] at hW3
  rw [hxi]
  clear hW1
  generalize (w.alloc (.cells #[.slice a ps.length cap] 66)).alloc (.cells #[.int .i64 n] 3) = W0 at *
  have HW := Lib.hid (And.intro hW2 hW3)
  have HbW := Lib.hid hbW
  have HPW := Lib.hid (HP.out.below hbW)
  have Hfr := Lib.hid (fresh_any n hn1.1 (by omega) W0)
  clear hW2 hW3 hbW HP
  refine Hfr.out.mono ?_
  rintro e w1 ⟨m, t, rfl, h1⟩
  have H1 := Lib.hid h1
  have HWD := Lib.hid (words_any h1)
  have c7 := at_cell (blockB h1.below (Nat.le_refl _) HW.out.2) 0 _ rfl
  clear h1 Hfr
  go_wp2_with (go_at_call 49; refine HWD.out.mono ?_; rintro e w2 ⟨al, cp, rfl, h2⟩; obtain ⟨b9, cur, rfl, hb9, -, hcur, h3⟩ := h2.kept hn1.1; have c4 := at_cell (blockB h3.below (Nat.le_refl _) HW.out.1) 0 _ rfl; have Hcur := Lib.hid hcur; have Hb9 := Lib.hid hb9; have H3 := Lib.hid h3; clear h2 h3 hcur hb9)
  all_goals
    have HR := Lib.hid (fun (k : Nat) (hk : k ≤ ps.length) => undoes1_run (b11 := w2.heap.size + 1) (b10 := w2.heap.size) (k := k) (E := [(w2.heap.size + 1, .cells #[.bool false] 4 (0, 0)), (b9, .cells cur 23 (0, 0))]) HW.out.1 HW.out.2 HPW.out hk hcap hcap2 (g := fun a => 100 + a) (fun b _ => by omega) hl _ (((H3.out.box #[.int .i64 k] 3).box #[.bool false] 4).sub (by simp)))
    clear H1 HWD H3 c4 c7
    go_wp2_with (first
      | (go_at_call 52; refine (HR.out _ (by omega)).mono ?_; rintro e w3 ⟨rfl, h4⟩; have h5 := h4.box #[.int .i64 8, .int .i64 9] 83; have q := h5.block (List.mem_cons_self ..); have d0 := at_cell q 0 _ rfl; have d1 := at_cell q 1 _ rfl; have c11 := at_cell (h5.block (List.mem_cons_of_mem _ (List.mem_cons_self ..))) 0 _ rfl; have HL3 := Lib.hid h4.below.size; have H9 := Lib.hid (block_lt (h4.block (X := b9) (o := .cells cur 23 (0, 0)) (by simp))); have HWD := Lib.hid (words_any h5); clear h4 h5 q HR)
      | (go_at_call 49; refine HWD.out.mono ?_; rintro e w4 ⟨al, cp4, rfl, h6⟩; obtain ⟨b13, cur2, rfl, -, hd, hcur2, h7⟩ := h6.kept hn1.1; have HS := Lib.hid (same_yes (hcur2.row (h7.block (List.mem_cons_self ..))) (Hcur.out.row (h7.block (X := b9) (o := .cells cur 23 (0, 0)) (by simp))) (by unfold maxLen; omega)); have H7 := Lib.hid h7; clear HWD h6 h7 hcur2 hd d0 d1 c11)
      | (go_at_call 55; refine (HS.out _ _).mono ?_; rintro e w5 ⟨rfl, hb⟩; have H8 := Lib.hid (H7.out.grow hb); clear HS H7 hb))
    have HR2 := Lib.hid (undoes2_run (E := [(w3.heap.size, .cells #[.int .i64 8, .int .i64 9] 83 (0, 0)), (b9, .cells cur 23 (0, 0))]) HW.out.1 HW.out.2 HPW.out (g := fun a => 100 + a) (fun b _ => by omega) hl _ (H8.out.sub (by simp)))
    clear H8
    obtain ⟨gE, hgE⟩ : ∃ gE, (runS n (fun a => 100 + a) [] ps).1 = gE := ⟨_, rfl⟩
    rw [hgE] at HR2
    have HgE := Lib.hid hgE
    clear hgE
    go_wp2_with (go_at_call 52; refine HR2.out.mono ?_; rintro e w6 ⟨rfl, h9⟩; have q := h9.block (List.mem_cons_self ..); have f4 := at_free q 0; have f5 := at_free q 1; have d4 := at_cell q 0 _ rfl; have d5 := at_cell q 1 _ rfl; have h10 := h9.set HL3.out (by simp; have := H9.out; omega) 0 (.int .i64 0); have c4 := at_cell (blockB h10.below (Nat.le_refl _) HW.out.1) 0 _ rfl; have h11 := h10.set HL3.out (by simp; have := H9.out; omega) 1 (.int .i64 0); have c4b := at_cell (blockB h11.below (Nat.le_refl _) HW.out.1) 0 _ rfl; have H10 := Lib.hid h11; clear h9 h10 h11 q HR2)
    have HT := Lib.hid H10.out.tail
    clear H10 f4 f5 d4 d5 c4 c4b
    go_loopw [60] (fun i wr => ∃ (k : Nat) (cu : Array Value), i = .int .i64 k ∧ k ≤ ps.length ∧ UCells n (runS n (fun a => 100 + a) [] (ps.take k)).1 cu ∧ FK W0 m n t gE [(b9, .cells cu 23 (0, 0))] wr) (fun i _ => ps.length - (intOf i).toNat)
    case atStart => exact ⟨0, cur, rfl, by omega, Hcur.out, HT.out⟩
    case round =>
      clear HT Hcur
      obtain ⟨k, cu, rfl, hk, hcu, hF⟩ := hrel
      have hb := hF.below
      by_cases hlt : k < ps.length
      · have hP2 := HPW.out.below hb
        obtain ⟨b1, off, ha, hcell⟩ := hP2.cell
        obtain rfl : a = some ⟨b1, off, none⟩ := by
          rcases ha with rfl | ha
          · simp at hlt
          · exact ha
        obtain ⟨c0, c1, c2, c3⟩ := hcell k hlt
        have hact := hP2.each k hlt
        have hsn := runS_snoc n (fun a => 100 + a) [] (ps.take k) (ps.getD k default)
        have htk : ps.take k ++ [ps.getD k default] = ps.take (k + 1) := by
          rw [List.take_add_one, List.getElem?_eq_getElem hlt, List.getD_eq_getElem?_getD, List.getElem?_eq_getElem hlt]
          rfl
        rw [htk] at hsn
        have hsn1 := congrArg Prod.fst hsn
        simp only at hsn1
        obtain ⟨g1, hg1⟩ : ∃ g1, (runS n (fun a => 100 + a) [] (ps.take k)).1 = g1 := ⟨_, rfl⟩
        rw [hg1] at hsn1 hcu
        have hadr := adr_spell (n := n) (by omega) (ps.getD k default)
        have hadl := adrS_lt (n := n) (by omega) (ps.getD k default)
        generalize adrS n (ps.getD k default) = p at *
        clear hcell ha hP2 hb htk hg1 hsn
        generalize ps.getD k default = q at *
        obtain ⟨kd, pa, px, pe⟩ := q
        obtain ⟨hkd, hpa, hpx, hpe⟩ := hact
        simp only at *
        have Hsn := Lib.hid hsn1
        have Hcu := Lib.hid hcu
        have HS := Lib.hid (hF.box #[.int .u8 kd, .int .i64 pa, .int .u64 px, .int .i64 pe] 93)
        have k1 : (k : Int) < ps.length := by omega
        have k2 : (0 : Int) ≤ k := by omega
        have k3 : ((k : Int)).toNat = k := by omega
        have n1 : (1 : Int) ≤ n := by omega
        have n2 : (n : Int) ≤ 4096 := by omega
        have p1 : (p : Int) ≤ 4096 := by omega
        have p2 : (p : Int) < n := by omega
        have p3 : (0 : Int) ≤ p := by omega
        have p4 : ((p : Int)).toNat = p := by omega
        clear hF hcu hsn1 hkd hpa hpe
        go_wp2_with (fail)
        have w1 := wrapu_small (p := n) (by omega)
        have w2 := wrap_small (p := p) (by omega)
        have n3 : (n : Int) ≠ 0 := by omega
        have n4 : n ≠ 0 := by omega
        refine wp_region_still_tail 10 (by kernel_rfl) (by kernel_rfl) ?_
        simp only [List.take_succ_cons, List.take_zero, List.drop_succ_cons, List.drop_zero]
        have HS2 := Lib.hid (HS.out.grow (below_drew _))
        unfold World.drew at HS2
        generalize ({ wr.alloc (.cells #[.int .u8 kd, .int .i64 pa, .int .u64 px, .int .i64 pe] 93) with drawn := (wr.alloc (.cells #[.int .u8 kd, .int .i64 pa, .int .u64 px, .int .i64 pe] 93)).drawn + 1 } : World) = W at *
        have hblk := HS2.out.block (List.mem_cons_self ..)
        have hbl9 := HS2.out.block (X := b9) (o := .cells cu 23 (0, 0)) (by simp)
        clear HS c0 c1 c2 c3
        have d1 := at_cell hblk 1 _ rfl
        have d2 := at_cell hblk 2 _ rfl
        have d7 := at_cell (blockB HS2.out.below (Nat.le_refl _) HW.out.2) 0 _ rfl
        have d9 := at_cell hbl9 p _ (Hcu.out p hadl)
        have f9 := at_free hbl9 p
        have HS3 := Lib.hid (HS2.out.tail.set Hb9.out (by simp) p (.int .u64 px))
        have Hcu2 := Lib.hid (Hcu.out.set p px hadl)
        clear hblk hbl9 HS2
        repeat still_step
        refine wpStill_nil ?_
        go_wp2
        go_roundw
        case rel => exact ⟨k + 1, _, by go_num, by omega, by rw [Hsn.out]; exact Hcu2.out, HS3.out⟩
        case measure => simp [intOf]; omega
      · obtain rfl : k = ps.length := by omega
        rw [List.take_length, HgE.out] at hcu
        have Hcu := Lib.hid hcu
        have HWD := Lib.hid (words_any hF)
        clear hF hcu hb
        go_wp2_with (first
          | (go_at_call 49; refine HWD.out.mono ?_; rintro e w8 ⟨al, cp8, rfl, h6⟩; obtain ⟨b8, cur8, rfl, -, -, hcur8, h7⟩ := h6.kept hn1.1; have HS := Lib.hid (same_yes (hcur8.row (h7.block (List.mem_cons_self ..))) (Hcu.out.row (h7.block (X := b9) (o := .cells cu 23 (0, 0)) (by simp))) (by unfold maxLen; omega)); have H7 := Lib.hid h7; clear HWD h6 h7 hcur8)
          | (go_at_call 55; refine (HS.out _ _).mono ?_; rintro e w9 ⟨rfl, hb⟩; have H8 := Lib.hid (H7.out.grow hb); clear HS H7 hb)
          | (go_at_call 47; refine (lives_yes _).mono ?_; rintro e w10 ⟨rfl, hb⟩; have HB := Lib.hid (seq (HbW.out.trans (H8.out.below.mono HbW.out.size)) hb); clear hb))
        go_ret
        exact ⟨rfl, HB.out⟩
theorem undoes_any (x y : Int) (hx : 0 ≤ x) (hx2 : x < 256) (hy : 0 ≤ y) (hy2 : y < 256) (a : Option Addr) (cap : Nat) (ps : List A10.Act) (w : World) (hf : ps.length ≤ cap ∧ cap ≤ maxLen) (hP : A10.Acts w a ps) :
    Calls Try.prog 9 #[.int .u8 x, .slice a ps.length cap, .int .u8 y] w fun e w' => e = .returned (.bool true) ∧ Below w.heap.size w w' := by
  obtain ⟨xn, rfl⟩ : ∃ n : Nat, x = n := ⟨x.toNat, by omega⟩
  obtain ⟨yn, rfl⟩ : ∃ n : Nat, y = n := ⟨y.toNat, by omega⟩
  by_cases hl : 150 < ps.length
  · exact undoes_many _ _ _ _ _ _ hl hP.many
  · exact undoes_walk xn yn (by omega) (by omega) a cap ps w (by omega) hf.1 hf.2 hP
end Go.Proofs.Ytkcijlndblbidaa
