/- The walks of graph.Trim at a graph that may not be, and of graph.Same. -/
import Derived.Test.YtplkogjnmjjjgaaGSame2
namespace Go.Proofs.Ytplkogjnmjjjgaa
open Go.ChangeShapes Go.WideShapes Go.ChangeAt Go.RowKit Go.Maps
set_option linter.unusedVariables false
set_option linter.unusedSimpArgs false

theorem posP_lo (l : List Int) (k : Int) : -1 ≤ posP l k ∧ posP l k < l.length := by
  unfold posP
  split
  · rename_i h
    have := List.idxOf_lt_length_iff.2 h
    omega
  · omega
theorem okI_of {l : List Int} (h : ∀ z ∈ l, IsI z) : OkI l := fun i hi => WalkArith.wf_i64 (h _ (getD_mem 0 hi))
theorem okI_map {l al : List Int} (hl : al.length ≤ 10000) : OkI (l.map (posP al)) := okI_of fun z hz => by
  rw [List.mem_map] at hz
  obtain ⟨k, -, rfl⟩ := hz
  have := posP_lo al k
  unfold IsI
  omega
theorem GRd.ok {w : World} {ar an : Option Addr} {g : Gr} (h : GRd w ar an g) : OkG g := by
  refine ⟨h.roots.each, fun x hx => ?_⟩
  obtain ⟨i, hi, rfl⟩ := List.getElem_of_mem hx
  obtain ⟨b, off, ap, af, aw, cp, cf, cw, -, hn, -⟩ := h.nodes.at_ hi
  rw [List.getD_eq_getElem?_getD, List.getElem?_eq_getElem hi] at hn
  exact ⟨hn.ps.each, hn.fs.each, hn.ws.each⟩
theorem OkN.default : OkN (Inhabited.default : Nd) := ⟨fun i hi => absurd hi (by show ¬ i < 0; omega), fun i hi => absurd hi (by show ¬ i < 0; omega), fun i hi => absurd hi (by show ¬ i < 0; omega)⟩
theorem trimG_rlen (g : Gr) : (trimG g).rs.length = g.rs.length := List.length_map ..
theorem trimG_nlen (g : Gr) : (trimG g).ns.length = (walkG g).al.length := List.length_map ..
theorem OkG.at_ {g : Gr} (h : OkG g) (i : Nat) : OkN (g.ns.getD i default) := by
  by_cases hi : i < g.ns.length
  · exact h.ns _ (getD_mem default hi)
  · rw [List.getD_eq_getElem?_getD, List.getElem?_eq_none (by omega)]
    exact OkN.default
theorem OkG.trim {g : Gr} (h : OkG g) (hl : (walkG g).al.length ≤ 10000) : OkG (trimG g) := by
  refine ⟨okI_map hl, fun x hx => ?_⟩
  rw [trimG_ns, List.mem_map] at hx
  obtain ⟨k, -, rfl⟩ := hx
  exact ⟨okI_map hl, (h.at_ _).fs, (h.at_ _).ws⟩
set_option maxRecDepth 100000 in
theorem trim_bad {w : World} {ar an : Option Addr} {g : Gr} (cr cn : Nat) (hG : GRd w ar an g) (hmay : mayG g = false) :
    Calls Try.prog 13 #[.agg #[.slice ar g.rs.length cr, .slice an g.ns.length cn]] w fun e w' => e = .returned (.tuple #[.agg #[.slice none 0 0, .slice none 0 0], .int .i64 5]) ∧ Below w.heap.size w w' := by
  have h1 := (FKN.refl w).obj (.cells #[.slice ar g.rs.length cr, .slice an g.ns.length cn] 25)
  have h2 := h1.obj (.cells #[.slice none 0 0, .slice none 0 0] 25)
  simp only [heap_size_alloc] at h2
  have HC := Lib.hid (check_graph g ar an cr cn _ (hG.below h2.below))
  rw [hmay, if_neg (by decide)] at HC
  have H2 := Lib.hid h2
  clear h1 h2 hG
  obtain ⟨gb, hgb⟩ : ∃ gb, w.heap.size = gb := ⟨_, rfl⟩
  simp only [hgb] at H2
  go_enter Try.func13, Try.ntmps13
  go_wp2_with (go_at_call 18; refine HC.out.mono ?_; rintro e w2 ⟨rfl, hb2⟩; have H3 := Lib.hid (H2.out.grow hb2); clear hb2; have hrb := H3.out.1.block (X := gb + 1) (o := .cells #[.slice none 0 0, .slice none 0 0] 25) (List.mem_cons_self ..); have r0 := at_cell hrb 0 _ rfl; have r1 := at_cell hrb 1 _ rfl; have f0 := at_free hrb 0; have f1 := at_free hrb 1; clear hrb)
  have hset2 := (H3.out.set 0 (.slice none 0 0)).set 1 (.slice none 0 0)
  obtain ⟨w9, hw9⟩ : ∃ w9, (w2.setCell ⟨gb + 1, 0, none⟩ (.slice none 0 0)).setCell ⟨gb + 1, 1, none⟩ (.slice none 0 0) = w9 := ⟨_, rfl⟩
  rw [hw9] at hset2 ⊢
  have hq := hset2.1.block (List.mem_cons_self ..)
  have c0 := at_cell hq 0 (.slice none 0 0) rfl
  have c1 := at_cell hq 1 (.slice none 0 0) rfl
  have hbb := hset2.below
  subst hgb
  exact bodyPost_ret (v := .tuple #[.agg #[.slice none 0 0, .slice none 0 0], .int .i64 5]) (by simp [results, Try.results13, go_sem, c0, c1]) rfl ⟨rfl, hbb⟩
set_option maxRecDepth 100000 in
set_option maxHeartbeats 1000000 in
theorem same_any {w : World} {ar an br bn : Option Addr} {x y : Gr} (cr cn dr dn : Nat) (hx : GRd w ar an x) (hy : GRd w br bn y) (fx : FewG x) (fy : FewG y) :
    Calls Try.prog 26 #[.agg #[.slice ar x.rs.length cr, .slice an x.ns.length cn], .agg #[.slice br y.rs.length dr, .slice bn y.ns.length dn]] w fun e w' => e = .returned (.tuple #[.bool (mayG x && (mayG y && sameG (trimG x) (trimG y))), .int .i64 (if mayG x && mayG y then 0 else 5)]) ∧ Below w.heap.size w w' := by
  have h1 := (FKN.refl w).box #[.slice ar x.rs.length cr, .slice an x.ns.length cn] 25
  have h2 := h1.box #[.slice br y.rs.length dr, .slice bn y.ns.length dn] 25
  simp only [heap_size_alloc] at h2
  obtain ⟨gb, hgb⟩ : ∃ gb, w.heap.size = gb := ⟨_, rfl⟩
  have hb12 := h2.below
  simp only [hgb] at h2
  obtain ⟨w1, hw1⟩ : ∃ w1, (w.alloc (.cells #[.slice ar x.rs.length cr, .slice an x.ns.length cn] 25)).alloc (.cells #[.slice br y.rs.length dr, .slice bn y.ns.length dn] 25) = w1 := ⟨_, rfl⟩
  rw [hw1] at h2 hb12
  have hw1s : w1.heap.size = gb + 1 + 1 := by rw [← hw1, ← hgb]; simp
  obtain ⟨⟨p0, p1⟩, q0, q1⟩ := two_graphs (List.mem_cons_of_mem _ (List.mem_cons_self ..)) (List.mem_cons_self ..) h2
  have Hcs := Lib.hid (show ∀ K W, FKN w (K ++ [(gb + 1, Obj.cells #[.slice br y.rs.length dr, .slice bn y.ns.length dn] 25 (0, 0)), (gb, Obj.cells #[.slice ar x.rs.length cr, .slice an x.ns.length cn] 25 (0, 0))]) W → (W.cell? ⟨gb, 0, none⟩ = some (.slice ar x.rs.length cr) ∧ W.cell? ⟨gb, 1, none⟩ = some (.slice an x.ns.length cn)) ∧ (W.cell? ⟨gb + 1, 0, none⟩ = some (.slice br y.rs.length dr) ∧ W.cell? ⟨gb + 1, 1, none⟩ = some (.slice bn y.ns.length dn)) from fun K W hW =>
    two_graphs (List.mem_append_right _ (List.mem_cons_of_mem _ (List.mem_cons_self ..))) (List.mem_append_right _ (List.mem_cons_self ..)) hW)
  have hx1 := hx.below hb12
  have H2 := Lib.hid h2
  have HY := Lib.hid hy
  have HX := Lib.hid hx
  have Fy := Lib.hid fy
  cases hmx : mayG x with
  | false =>
    have HT := Lib.hid (trim_bad cr cn hx1 hmx)
    clear h1 h2 hx1 hx hy fx fy
    go_enter Try.func26, Try.ntmps26
    have HB := Lib.hid hb12
    clear hb12
    go_wp2_with (go_at_call 13; refine HT.out.mono ?_; rintro e w2 ⟨rfl, hb⟩; have HB2 := Lib.hid (seq HB.out hb); clear hb)
    go_ret2
    subst hgb
    exact ⟨rfl, HB2.out.trans ((below_new _ _).mono HB2.out.size)⟩
  | true =>
    have HT := Lib.hid (trim_any cr cn hx1 fx hmx)
    have hokx := walkG_ok hmx
    have hlx := hokx.len
    have hf := fx.ns
    have HOKX := Lib.hid (hx.ok.trim (by omega))
    clear h1 h2 hx1 hx hy fx fy hokx
    cases hmy : mayG y with
    | false =>
      have HB := Lib.hid hb12
      clear hb12
      go_enter Try.func26, Try.ntmps26
      go_wp2_with (first
        | (go_at_call 13; refine HT.out.mono ?_; rintro e w2 ⟨ax, nx, cx, dx, rfl, B, hO, hF⟩; have HB2 := Lib.hid (seq HB.out hF.below); have H3 := Lib.hid ((H2.out.grow hF.below).box #[.slice ax x.rs.length cx, .slice nx (walkG x).al.length dx] 25); obtain ⟨⟨p0, p1⟩, q0, q1⟩ := Hcs.out [_] _ H3.out; have HT2 := Lib.hid (trim_bad dr dn (HY.out.below H3.out.below) hmy); clear hO hF HT)
        | (go_at_call 13; refine HT2.out.mono ?_; rintro e w3 ⟨rfl, hb⟩; have HB3 := Lib.hid (H3.out.below.trans (hb.mono H3.out.below.size)); clear hb))
      go_ret2
      subst hgb
      exact ⟨rfl, HB3.out.trans ((below_new _ _).mono HB3.out.size)⟩
    | true =>
      have hoky := walkG_ok hmy
      have hly := hoky.len
      have hfy := Fy.out.ns
      have HOKY := Lib.hid (HY.out.ok.trim (by omega))
      have HB := Lib.hid hb12
      clear hb12 hoky
      obtain ⟨v, hv⟩ : ∃ v, sameG (trimG x) (trimG y) = v := ⟨_, rfl⟩
      simp only [Bool.true_and, if_true, Bool.and_true]
      rw [hv]
      unfold sameG at hv
      obtain ⟨o1, ho1⟩ : ∃ o1, decide ((trimG x).rs = (trimG y).rs) = o1 := ⟨_, rfl⟩
      obtain ⟨o2, ho2⟩ : ∃ o2, sameL (trimG x).ns (trimG y).ns = o2 := ⟨_, rfl⟩
      rw [ho1, ho2] at hv
      have HV := Lib.hid hv
      have Ho1 := Lib.hid ho1
      have Ho2 := Lib.hid ho2
      clear hv ho1 ho2
      cases o1
      all_goals
        go_enter Try.func26, Try.ntmps26
        go_wp2_with (first
          | (go_at_call 13; refine HT.out.mono ?_; rintro e w2 ⟨ax, nx, cx, dx, rfl, B, hO, hF⟩; have HO := Lib.hid hO; have HF := Lib.hid hF; have H3 := Lib.hid ((H2.out.grow hF.below).box #[.slice ax x.rs.length cx, .slice nx (walkG x).al.length dx] 25); have hb3 := below_new w2 (.cells #[.slice ax x.rs.length cx, .slice nx (walkG x).al.length dx] 25); have HRX := Lib.hid ((hO.rd hF.1 (fun x hx => hx) HOKX.out).below hb3); obtain ⟨⟨p0, p1⟩, q0, q1⟩ := Hcs.out [_] _ H3.out; have HT2 := Lib.hid (trim_any dr dn (HY.out.below H3.out.below) Fy.out hmy); clear hO hF HT hb3)
          | (go_at_call 13; refine HT2.out.mono ?_; rintro e w3 ⟨ay, ny, cy, dy, rfl, B2, hO2, hF2⟩; have HF2 := Lib.hid hF2; have H4 := Lib.hid ((H3.out.grow hF2.below).box #[.slice ay y.rs.length cy, .slice ny (walkG y).al.length dy] 25); have hb4 := below_new w3 (.cells #[.slice ay y.rs.length cy, .slice ny (walkG y).al.length dy] 25); have HRY := Lib.hid ((hO2.rd hF2.1 (fun x hx => hx) HOKY.out).below hb4); have HRX2 := Lib.hid ((HRX.out.below hF2.below).below hb4); obtain ⟨⟨s0, s1⟩, t0, t1⟩ := two_graphs (List.mem_cons_of_mem _ (List.mem_cons_self ..)) (List.mem_cons_self ..) H4.out; clear hO2 hF2 HT2 hb4)
          | (go_at_call 54; have he := eqi_any cx cy HRX2.out.roots HRY.out.roots; rw [trimG_rlen, trimG_rlen, Ho1.out] at he; refine he.mono ?_; clear he; rintro e w5 ⟨rfl, hb5⟩; have H5 := Lib.hid (H4.out.grow hb5); obtain ⟨⟨s0, s1⟩, t0, t1⟩ := two_graphs (List.mem_cons_of_mem _ (List.mem_cons_self ..)) (List.mem_cons_self ..) H5.out; have HRX3 := Lib.hid (HRX2.out.below hb5); have HRY3 := Lib.hid (HRY.out.below hb5); clear hb5)
          | (go_at_call 55; have he := equalFunc_any dx dy HRX3.out.nodes HRY3.out.nodes; rw [trimG_nlen, trimG_nlen, Ho2.out] at he; refine he.mono ?_; clear he; rintro e w6 ⟨rfl, hb6⟩; have H6 := Lib.hid (H5.out.grow hb6); clear hb6))
        go_ret2
        subst hgb
        first
          | exact ⟨by rw [← HV.out]; rfl, H6.out.below⟩
          | exact ⟨by rw [← HV.out]; rfl, H5.out.below⟩
end Go.Proofs.Ytplkogjnmjjjgaa
