/- The walk of the example. -/
import Derived.Test.YtplkogjnmjjjgaaGPath2
namespace Go.Proofs.Ytplkogjnmjjjgaa
open Go.ChangeShapes Go.WideShapes Go.ChangeAt Go.RowKit Go.Maps
set_option linter.unusedVariables false
set_option linter.unusedSimpArgs false

def exG : Gr := ⟨[1, -1], [⟨[], [], []⟩, ⟨[0], [], []⟩]⟩
theorem exG_may : mayG exG = true := by decide +kernel
theorem exG_al : (walkG exG).al = [1, 0] := by decide +kernel
theorem exG_path : pathG exG 0 = [0, 0] := by decide +kernel
theorem exG_few : FewG exG := ⟨by decide, by decide, by decide⟩
theorem introw_two {k : IntKind} {w : World} {b : Nat} {x y : Int} {t : TypeId} (h : w.heap[b]? = some (.cells #[.int k x, .int k y] t (0, 0))) (h1 : (Lit.int k x).wf = true) (h2 : (Lit.int k y).wf = true) : IntRow k w (some ⟨b, 0, none⟩) [x, y] := by
  refine ⟨by simp [maxLen], fun i hi => ?_, b, 0, .inr rfl, fun i hi => ?_⟩
  · match i, hi with
    | 0, _ => exact h1
    | 1, _ => exact h2
  · rw [Nat.zero_add]
    match i, hi with
    | 0, _ => exact at_cell h 0 _ rfl
    | 1, _ => exact at_cell h 1 _ rfl
set_option maxRecDepth 100000 in
set_option maxHeartbeats 1000000 in
theorem lives_any (w : World) :
    Calls Try.prog 11 #[] w fun e w' => e = .returned (.bool true) ∧ Below w.heap.size w w' := by
  have h1 := (FKN.refl w).box #[.int .i64 1, .int .i64 (-1)] 3
  have h2 := h1.box #[.int .i64 0] 3
  have h3 := h2.box #[.slice none 0 0, .slice none 0 0, .slice none 0 0, .slice (some ⟨w.heap.size + 1, 0, none⟩) 1 1, .slice none 0 0, .slice none 0 0] 47
  have h4 := h3.box #[.slice (some ⟨w.heap.size, 0, none⟩) 2 2, .slice (some ⟨w.heap.size + 1 + 1, 0, none⟩) 2 2] 25
  simp only [heap_size_alloc] at h4
  obtain ⟨gb, hgb⟩ : ∃ gb, w.heap.size = gb := ⟨_, rfl⟩
  simp only [hgb] at h4
  obtain ⟨W4, hW4⟩ : ∃ W4, ((((w.alloc (.cells #[.int .i64 1, .int .i64 (-1)] 3)).alloc (.cells #[.int .i64 0] 3)).alloc (.cells #[.slice none 0 0, .slice none 0 0, .slice none 0 0, .slice (some ⟨gb + 1, 0, none⟩) 1 1, .slice none 0 0, .slice none 0 0] 47)).alloc (.cells #[.slice (some ⟨gb, 0, none⟩) 2 2, .slice (some ⟨gb + 1 + 1, 0, none⟩) 2 2] 25)) = W4 := ⟨_, rfl⟩
  rw [hW4] at h4
  have k3 := h4.1.block (List.mem_cons_self ..)
  have k2 := h4.1.tail.block (List.mem_cons_self ..)
  have k1 := h4.1.tail.tail.block (List.mem_cons_self ..)
  have k0 := h4.1.tail.tail.tail.block (List.mem_cons_self ..)
  have hG : GRd W4 (some ⟨gb, 0, none⟩) (some ⟨gb + 1 + 1, 0, none⟩) exG := by
    refine ⟨introw_two k0 (by decide) (by decide), ⟨by simp [exG, maxLen], gb + 1 + 1, 0, .inr rfl, fun i hi => ?_⟩⟩
    have e0 : ∀ k, IntRow k W4 none [] := fun k => ⟨by simp, fun i hi => absurd hi (by simp), 0, 0, .inl rfl, fun i hi => absurd hi (by simp)⟩
    match i, hi with
    | 0, _ => exact ⟨⟨none, 0, at_cell k2 0 _ rfl, e0 _⟩, ⟨none, 0, at_cell k2 1 _ rfl, e0 _⟩, ⟨none, 0, at_cell k2 2 _ rfl, e0 _⟩⟩
    | 1, _ =>
      refine ⟨⟨some ⟨gb + 1, 0, none⟩, 1, at_cell k2 3 _ rfl, ⟨by simp [exG, maxLen], fun i hi => ?_, gb + 1, 0, .inr rfl, fun i hi => ?_⟩⟩, ⟨none, 0, at_cell k2 4 _ rfl, e0 _⟩, ⟨none, 0, at_cell k2 5 _ rfl, e0 _⟩⟩
      · match i, hi with
        | 0, _ => exact (by decide : (Lit.int .i64 0).wf = true)
      · match i, hi with
        | 0, _ => exact at_cell k1 0 _ rfl
  have HR := Lib.hid (reach_any (g := exG) 2 2 hG exG_few exG_may)
  rw [exG_al] at HR
  have H4 := Lib.hid h4
  have HG := Lib.hid hG
  have HW4 := Lib.hid hW4
  have HP := Lib.hid (fun W (h : Below W4.heap.size W4 W) => path_any (g := exG) 2 2 0 (by unfold IsI; omega) (hG.below h) exG_few exG_may)
  rw [exG_al, exG_path] at HP
  have g0 := at_cell k3 0 _ rfl
  have g1 := at_cell k3 1 _ rfl
  rw [← hW4] at g0 g1
  clear h1 h2 h3 h4 hG hW4 k0 k1 k2 k3
  go_enter Try.func11, Try.ntmps11
  go_wp2_with (first
    | (go_at_call 12; rw [HW4.out]; refine HR.out.mono ?_; rintro e w5 ⟨al, cap, rfl, R, hr, hF⟩; have H5 := Lib.hid (H4.out.grow hF.below); have HF := Lib.hid hF; have HI1 := Lib.hid (hr.introw (kd := .i64) (zs := [1, 0]) hF.1 (fun x hx => hx) (okI_of (by intro z hz; simp only [List.mem_cons, List.not_mem_nil, or_false] at hz; unfold IsI; omega))); have k5 := H5.out.1.block (List.mem_cons_self ..); have g50 := at_cell k5 0 _ rfl; have g51 := at_cell k5 1 _ rfl; clear hF hr k5)
    | (go_at_call 15; refine (HP.out _ HF.out.below).mono ?_; rintro e w6 ⟨al2, cap2, rfl, R2, hr2, hF2⟩; have H6 := Lib.hid (H5.out.grow hF2.below); have HF2 := Lib.hid hF2; have HI2 := Lib.hid (hr2.introw (kd := .i64) (zs := [0, 0]) hF2.1 (fun x hx => hx) (okI_of (by intro z hz; simp only [List.mem_cons, List.not_mem_nil, or_false] at hz; unfold IsI; omega))); clear hF2 hr2)
    | (go_at_call 20; refine (same17_any (xs := [1, 0]) (ys := [1, 0]) cap 2 ((HI1.out.below HF2.out.below).below (below_new _ _)) (introw_two (heap_alloc_new w6 _) (by decide) (by decide))).mono ?_; rw [decide_eq_true rfl]; rintro e w7 ⟨rfl, hb7⟩; have H7 := Lib.hid (seq (below_new w6 (.cells #[.int .i64 1, .int .i64 0] 3)) hb7); clear hb7 HI1)
    | (go_at_call 20; refine (same17_any (xs := [0, 0]) (ys := [0, 0]) cap2 2 ((HI2.out.below H7.out).below (below_new _ _)) (introw_two (heap_alloc_new w7 _) (by decide) (by decide))).mono ?_; rw [decide_eq_true rfl]; rintro e w8 ⟨rfl, hb8⟩; have H8 := Lib.hid (seq (below_new w7 (.cells #[.int .i64 0, .int .i64 0] 3)) hb8); clear hb8))
  go_ret
  subst hgb
  exact ⟨rfl, ((H6.out.grow H7.out).grow H8.out).below⟩
end Go.Proofs.Ytplkogjnmjjjgaa
