/- The walk of CanonSame. -/
import Derived.Test.YtplkogjnmjjjgaaCPutsW
namespace Go.Proofs.Ytplkogjnmjjjgaa
open Go.ChangeShapes Go.WideShapes Go.ChangeAt Go.RowKit
set_option linter.unusedVariables false
set_option linter.unusedSimpArgs false

theorem put_iff {x y : Gr} (hx : OkG (trimG x)) (hy : OkG (trimG y)) (fx : FewG (trimG x)) (fy : FewG (trimG y)) : ((putS x).toList == (putS y).toList) = sameG (trimG x) (trimG y) := by
  rw [Bool.eq_iff_iff, sameG_iff, beq_iff_eq, ByteArray.toList_eq, ByteArray.toList_eq]
  constructor
  · intro h
    have e : putS x = putS y := ByteArray.ext (Array.toList_inj.1 h)
    have h1 := parsed_put hx fx
    rw [e, parsed_put hy fy] at h1
    exact ((Prod.mk.injEq .. ▸ h1).1).symm
  · intro h
    unfold putS
    rw [h]
set_option maxRecDepth 100000 in
set_option maxHeartbeats 4000000 in
theorem csame_any {w : World} {ar an br bn : Option Addr} {x y : Gr} (cr cn dr dn : Nat) (hx : GRd w ar an x) (hy : GRd w br bn y) (sx : SmG x) (sy : SmG y) :
    Calls Try.prog 8 #[.agg #[.slice ar x.rs.length cr, .slice an x.ns.length cn], .agg #[.slice br y.rs.length dr, .slice bn y.ns.length dn]] w fun e w' => e = .returned (.bool true) ∧ Below w.heap.size w w' := by
  have h1 := (FKN.refl w).box #[.slice ar x.rs.length cr, .slice an x.ns.length cn] 25
  have h2 := h1.box #[.slice br y.rs.length dr, .slice bn y.ns.length dn] 25
  simp only [heap_size_alloc] at h2
  obtain ⟨gb, hgb⟩ : ∃ gb, w.heap.size = gb := ⟨_, rfl⟩
  simp only [hgb] at h2
  obtain ⟨⟨p0, p1⟩, q0, q1⟩ := two_graphs (List.mem_cons_of_mem _ (List.mem_cons_self ..)) (List.mem_cons_self ..) h2
  obtain ⟨E0, hE0⟩ : ∃ E0, [(gb + 1, Obj.cells #[.slice br y.rs.length dr, .slice bn y.ns.length dn] 25 (0, 0)), (gb, Obj.cells #[.slice ar x.rs.length cr, .slice an x.ns.length cn] 25 (0, 0))] = E0 := ⟨_, rfl⟩
  rw [hE0] at h2
  have Hcs := Lib.hid (show ∀ W, FKN w E0 W → (W.cell? ⟨gb, 0, none⟩ = some (.slice ar x.rs.length cr) ∧ W.cell? ⟨gb, 1, none⟩ = some (.slice an x.ns.length cn)) ∧ (W.cell? ⟨gb + 1, 0, none⟩ = some (.slice br y.rs.length dr) ∧ W.cell? ⟨gb + 1, 1, none⟩ = some (.slice bn y.ns.length dn)) from fun W hW => by
    subst hE0
    exact two_graphs (List.mem_cons_of_mem _ (List.mem_cons_self ..)) (List.mem_cons_self ..) hW)
  have H2 := Lib.hid h2
  have HX := Lib.hid hx
  have HY := Lib.hid hy
  have HFX := Lib.hid (fun W (h : Below w.heap.size w W) => far_any cr cn (hx.below h) sx)
  have HFY := Lib.hid (fun W (h : Below w.heap.size w W) => far_any dr dn (hy.below h) sy)
  have HMX := Lib.hid (fun W (h : Below w.heap.size w W) => refMay_any cr cn (hx.below h))
  have HMY := Lib.hid (fun W (h : Below w.heap.size w W) => refMay_any dr dn (hy.below h))
  have HL := Lib.hid clives_any
  clear h1 h2 hx hy hE0
  cases hfx : farG x with
  | true =>
    rw [hfx] at HFX
    clear hfx sx sy
    go_enter Try.func8, Try.ntmps8
    go_wp2_with (first
      | (go_at_call 10; refine (HFX.out _ H2.out.below).mono ?_; rintro e w2 ⟨rfl, hb⟩; have H3 := Lib.hid (H2.out.grow hb); obtain ⟨⟨p30, p31⟩, q30, q31⟩ := Hcs.out _ H3.out; clear hb HFX)
      | (go_at_call 28; refine (HL.out _).mono ?_; rintro e w9 ⟨rfl, hb⟩; have H9 := Lib.hid (H3.out.grow hb); clear hb))
    go_ret
    subst hgb
    exact ⟨rfl, H9.out.below⟩
  | false =>
    rw [hfx] at HFX
    cases hfy : farG y with
    | true =>
      rw [hfy] at HFY
      clear hfx hfy sx sy
      go_enter Try.func8, Try.ntmps8
      go_wp2_with (first
        | (go_at_call 10; refine (HFX.out _ H2.out.below).mono ?_; rintro e w2 ⟨rfl, hb⟩; have H3 := Lib.hid (H2.out.grow hb); obtain ⟨⟨p30, p31⟩, q30, q31⟩ := Hcs.out _ H3.out; clear hb HFX)
        | (go_at_call 10; refine (HFY.out _ H3.out.below).mono ?_; rintro e w3 ⟨rfl, hb⟩; have H4 := Lib.hid (H3.out.grow hb); obtain ⟨⟨p40, p41⟩, q40, q41⟩ := Hcs.out _ H4.out; clear hb)
        | (go_at_call 28; refine (HL.out _).mono ?_; rintro e w9 ⟨rfl, hb⟩; have H9 := Lib.hid (H4.out.grow hb); clear hb))
      go_ret
      subst hgb
      exact ⟨rfl, H9.out.below⟩
    | false =>
      rw [hfy] at HFY
      cases hmx : mayG x with
      | false =>
        rw [hmx] at HMX
        clear hfx hfy sx sy hmx
        go_enter Try.func8, Try.ntmps8
        go_wp2_with (first
          | (go_at_call 10; refine (HFX.out _ H2.out.below).mono ?_; rintro e w2 ⟨rfl, hb⟩; have H3 := Lib.hid (H2.out.grow hb); obtain ⟨⟨p30, p31⟩, q30, q31⟩ := Hcs.out _ H3.out; clear hb HFX)
          | (go_at_call 10; refine (HFY.out _ H3.out.below).mono ?_; rintro e w3 ⟨rfl, hb⟩; have H4 := Lib.hid (H3.out.grow hb); obtain ⟨⟨p40, p41⟩, q40, q41⟩ := Hcs.out _ H4.out; clear hb)
          | (go_at_call 17; refine (HMX.out _ H4.out.below).mono ?_; rintro e w5 ⟨rfl, hb⟩; have H5 := Lib.hid (H4.out.grow hb); obtain ⟨⟨p50, p51⟩, q50, q51⟩ := Hcs.out _ H5.out; clear hb HMX)
          | (go_at_call 28; refine (HL.out _).mono ?_; rintro e w9 ⟨rfl, hb⟩; have H9 := Lib.hid (H5.out.grow hb); clear hb))
        go_ret
        subst hgb
        exact ⟨rfl, H9.out.below⟩
      | true =>
        rw [hmx] at HMX
        cases hmy : mayG y with
        | false =>
          rw [hmy] at HMY
          clear hfx hfy sx sy hmx hmy
          go_enter Try.func8, Try.ntmps8
          go_wp2_with (first
            | (go_at_call 10; refine (HFX.out _ H2.out.below).mono ?_; rintro e w2 ⟨rfl, hb⟩; have H3 := Lib.hid (H2.out.grow hb); obtain ⟨⟨p30, p31⟩, q30, q31⟩ := Hcs.out _ H3.out; clear hb HFX)
            | (go_at_call 10; refine (HFY.out _ H3.out.below).mono ?_; rintro e w3 ⟨rfl, hb⟩; have H4 := Lib.hid (H3.out.grow hb); obtain ⟨⟨p40, p41⟩, q40, q41⟩ := Hcs.out _ H4.out; clear hb)
            | (go_at_call 17; refine (HMX.out _ H4.out.below).mono ?_; rintro e w5 ⟨rfl, hb⟩; have H5 := Lib.hid (H4.out.grow hb); obtain ⟨⟨p50, p51⟩, q50, q51⟩ := Hcs.out _ H5.out; clear hb HMX)
            | (go_at_call 17; refine (HMY.out _ H5.out.below).mono ?_; rintro e w6 ⟨rfl, hb⟩; have H6 := Lib.hid (H5.out.grow hb); obtain ⟨⟨p60, p61⟩, q60, q61⟩ := Hcs.out _ H6.out; clear hb)
            | (go_at_call 28; refine (HL.out _).mono ?_; rintro e w9 ⟨rfl, hb⟩; have H9 := Lib.hid (H6.out.grow hb); clear hb))
          go_ret
          subst hgb
          exact ⟨rfl, H9.out.below⟩
        | true =>
          rw [hmy] at HMY
          have fx := (near_of hfx).few
          have fy := (near_of hfy).few
          have hlx := (walkG_ok hmx).len
          have hly := (walkG_ok hmy).len
          have hnx := fx.ns
          have hny := fy.ns
          have hox := HX.out.ok.trim (show (walkG x).al.length ≤ 10000 by omega)
          have hoy := HY.out.ok.trim (show (walkG y).al.length ≤ 10000 by omega)
          have fxT := trimG_few hmx fx
          have fyT := trimG_few hmy fy
          have lx := near_len hfx hmx
          have ly := near_len hfy hmy
          have HPX := Lib.hid (fun W (h : Below w.heap.size w W) => put_any cr cn (HX.out.below h) fx hmx lx)
          have HPY := Lib.hid (fun W (h : Below w.heap.size w W) => put_any dr dn (HY.out.below h) fy hmy ly)
          have hpt := fun W a b c d (h : GRd W a b (trimG x)) => put_any c d h fxT (trimG_may hmx) (by rw [trimG_twice hmx]; exact lx)
          rw [trimG_rlen, trimG_nlen, show putS (trimG x) = putS x by unfold putS; rw [trimG_twice hmx]] at hpt
          have HPT := Lib.hid hpt
          have HTX := Lib.hid (fun W (h : Below w.heap.size w W) => refTrim_any cr cn (HX.out.below h) fx hmx)
          have HTY := Lib.hid (fun W (h : Below w.heap.size w W) => refTrim_any dr dn (HY.out.below h) fy hmy)
          have HOX := Lib.hid hox
          have HOY := Lib.hid hoy
          have hiff := put_iff hox hoy fxT fyT
          obtain ⟨v, hv⟩ : ∃ v, sameG (trimG x) (trimG y) = v := ⟨_, rfl⟩
          rw [hv] at hiff
          have HV := Lib.hid hv
          clear hfx hfy sx sy fx fy hlx hly hnx hny hox hoy fxT fyT lx ly hmx hmy hv hpt
          generalize putS x = px at *
          generalize putS y = py at *
          go_enter Try.func8, Try.ntmps8
          go_wp2_with (first
            | (go_at_call 10; refine (HFX.out _ H2.out.below).mono ?_; rintro e w2 ⟨rfl, hb⟩; have H3 := Lib.hid (H2.out.grow hb); obtain ⟨⟨p30, p31⟩, q30, q31⟩ := Hcs.out _ H3.out; clear hb HFX)
            | (go_at_call 10; refine (HFY.out _ H3.out.below).mono ?_; rintro e w3 ⟨rfl, hb⟩; have H4 := Lib.hid (H3.out.grow hb); obtain ⟨⟨p40, p41⟩, q40, q41⟩ := Hcs.out _ H4.out; clear hb)
            | (go_at_call 17; refine (HMX.out _ H4.out.below).mono ?_; rintro e w5 ⟨rfl, hb⟩; have H5 := Lib.hid (H4.out.grow hb); obtain ⟨⟨p50, p51⟩, q50, q51⟩ := Hcs.out _ H5.out; clear hb HMX)
            | (go_at_call 17; refine (HMY.out _ H5.out.below).mono ?_; rintro e w6 ⟨rfl, hb⟩; have H6 := Lib.hid (H5.out.grow hb); obtain ⟨⟨p60, p61⟩, q60, q61⟩ := Hcs.out _ H6.out; clear hb)
            | (go_at_call 32; refine (HPX.out _ H6.out.below).mono ?_; clear HPX; rintro e w7 ⟨rfl, hb⟩; have H7 := Lib.hid (H6.out.grow hb); obtain ⟨⟨p70, p71⟩, q70, q71⟩ := Hcs.out _ H7.out; clear hb)
            | (go_at_call 32; refine (HPY.out _ H7.out.below).mono ?_; clear HPY; rintro e w8 ⟨rfl, hb⟩; have H8 := Lib.hid (H7.out.grow hb); obtain ⟨⟨p80, p81⟩, q80, q81⟩ := Hcs.out _ H8.out; clear hb)
            | (go_at_call 25; refine (HTX.out _ H8.out.below).mono ?_; rintro e w10 ⟨tr, tn, tc, td, rfl, B, hO, hF⟩; have H10 := Lib.hid (H8.out.grow hF.below); have HR10 := Lib.hid (hO.rd hF.1 (fun x hx => hx) HOX.out); clear hO hF)
            | (go_at_call 32; refine (HPT.out _ _ _ _ _ HR10.out).mono ?_; clear HPT; rintro e w11 ⟨rfl, hb⟩; have H11 := Lib.hid (H10.out.grow hb); clear hb))
          clear p0 p1 q0 q1 p30 p31 q30 q31 p40 p41 q40 q41 p50 p51 q50 q51 p60 p61 q60 q61 p70 p71 q70 q71 p80 p81 q80 q81
          have H12 := Lib.hid (H11.out.grow (below_drew w11))
          have hpp := str_eq px
          refine wp_region_heldL (S := fun W => (W.cell? ⟨gb, 0, none⟩ = some (.slice ar x.rs.length cr) ∧ W.cell? ⟨gb, 1, none⟩ = some (.slice an x.ns.length cn)) ∧ (W.cell? ⟨gb + 1, 0, none⟩ = some (.slice br y.rs.length dr) ∧ W.cell? ⟨gb + 1, 1, none⟩ = some (.slice bn y.ns.length dn))) (by kernel_rfl) (Hcs.out _ H12.out) (fun hHeld => ?_)
          generalize w11.drew = V0 at *
          refine wpAnyL_take (i := 0) (v := ?_) rfl (by kernel_rfl) (by kernel_rfl) (by kernel_rfl) (by kernel_rfl) (fun _ _ _ h => h) (Or.inl ⟨by kernel_rfl, ?_⟩) (by assumption) ?_
          rotate_left
          · (intro w hSw; (try dsimp only at hSw); go_simp; try with_reducible rfl)
          simp only [Act.put, List.setIfInBounds_toArray, List.set_cons_zero, List.set_cons_succ]
          refine wpAnyL_take (i := 1) (v := ?_) rfl (by kernel_rfl) (by kernel_rfl) (by kernel_rfl) (by kernel_rfl) (fun _ _ _ h => h) (Or.inl ⟨by kernel_rfl, ?_⟩) (by assumption) ?_
          rotate_left
          · (intro w hSw; (try dsimp only at hSw); go_simp; try with_reducible rfl)
          simp only [Act.put, List.setIfInBounds_toArray, List.set_cons_zero, List.set_cons_succ]
          refine wpAnyL_take (i := 2) (v := ?_) rfl (by kernel_rfl) (by kernel_rfl) (by kernel_rfl) (by kernel_rfl) (fun _ _ _ h => h) (Or.inl ⟨by kernel_rfl, ?_⟩) (by assumption) ?_
          rotate_left
          · (intro w hSw; (try dsimp only at hSw); go_simp; try with_reducible rfl)
          simp only [Act.put, List.setIfInBounds_toArray, List.set_cons_zero, List.set_cons_succ]
          refine wpAnyL_take (i := 3) (v := ?_) rfl (by kernel_rfl) (by kernel_rfl) (by kernel_rfl) (by kernel_rfl) (fun _ _ _ h => h) (Or.inl ⟨by kernel_rfl, ?_⟩) (by assumption) ?_
          rotate_left
          · (intro w hSw; (try dsimp only at hSw); go_simp; try with_reducible rfl)
          simp only [Act.put, List.setIfInBounds_toArray, List.set_cons_zero, List.set_cons_succ]
          refine wpAnyL_take (i := 4) (v := ?_) rfl (by kernel_rfl) (by kernel_rfl) (by kernel_rfl) (by kernel_rfl) (fun _ _ _ h => h) (Or.inl ⟨by kernel_rfl, ?_⟩) (by assumption) ?_
          rotate_left
          · (intro w hSw; (try dsimp only at hSw); go_simp; try with_reducible rfl)
          simp only [Act.put, List.setIfInBounds_toArray, List.set_cons_zero, List.set_cons_succ]
          refine wpAnyL_take (i := 5) (v := ?_) rfl (by kernel_rfl) (by kernel_rfl) (by kernel_rfl) (by kernel_rfl) (fun _ _ _ h => h) (Or.inl ⟨by kernel_rfl, ?_⟩) (by assumption) ?_
          rotate_left
          · (intro w hSw; (try dsimp only at hSw); go_simp; try with_reducible rfl)
          simp only [Act.put, List.setIfInBounds_toArray, List.set_cons_zero, List.set_cons_succ]
          refine wpAnyL_take (i := 6) (v := ?_) rfl (by kernel_rfl) (by kernel_rfl) (by kernel_rfl) (by kernel_rfl) (fun _ _ _ h => h) (Or.inl ⟨by kernel_rfl, ?_⟩) (by assumption) ?_
          rotate_left
          · (intro w hSw; (try dsimp only at hSw); go_simp; try with_reducible rfl)
          simp only [Act.put, List.setIfInBounds_toArray, List.set_cons_zero, List.set_cons_succ]
          refine wpAnyL_take (i := 7) (v := ?_) rfl (by kernel_rfl) (by kernel_rfl) (by kernel_rfl) (by kernel_rfl) (fun _ _ _ h => h) (Or.inl ⟨by kernel_rfl, ?_⟩) (by assumption) ?_
          rotate_left
          · (intro w hSw; (try dsimp only at hSw); go_simp; try with_reducible rfl)
          simp only [Act.put, List.setIfInBounds_toArray, List.set_cons_zero, List.set_cons_succ]
          refine wpAnyL_take (i := 8) (v := ?_) rfl (by kernel_rfl) (by kernel_rfl) (by kernel_rfl) (by kernel_rfl) (fun _ _ _ h => h) (Or.inl ⟨by kernel_rfl, ?_⟩) (by assumption) ?_
          rotate_left
          · (intro w hSw; (try dsimp only at hSw); go_simp; try with_reducible rfl)
          simp only [Act.put, List.setIfInBounds_toArray, List.set_cons_zero, List.set_cons_succ]
          refine wpAnyL_take (i := 9) (v := ?_) rfl (by kernel_rfl) (by kernel_rfl) (by kernel_rfl) (by kernel_rfl) (fun _ _ _ h => h) (Or.inl ⟨by kernel_rfl, ?_⟩) (by assumption) ?_
          rotate_left
          · (intro w hSw; (try dsimp only at hSw); go_simp; try with_reducible rfl)
          simp only [Act.put, List.setIfInBounds_toArray, List.set_cons_zero, List.set_cons_succ]
          refine wpAnyL_take (i := 10) (v := ?_) rfl (by kernel_rfl) (by kernel_rfl) (by kernel_rfl) (by kernel_rfl) (fun _ _ _ h => h) (Or.inl ⟨by kernel_rfl, ?_⟩) (by assumption) ?_
          rotate_left
          · (intro w hSw; (try dsimp only at hSw); go_simp; try with_reducible rfl)
          simp only [Act.put, List.setIfInBounds_toArray, List.set_cons_zero, List.set_cons_succ]
          refine wpAnyL_take (i := 11) (v := ?_) rfl (by kernel_rfl) (by kernel_rfl) (by kernel_rfl) (by kernel_rfl) (fun _ _ _ h => h) (Or.inl ⟨by kernel_rfl, ?_⟩) (by assumption) ?_
          rotate_left
          · (intro w hSw; (try dsimp only at hSw); go_simp; try with_reducible rfl)
          simp only [Act.put, List.setIfInBounds_toArray, List.set_cons_zero, List.set_cons_succ]
          refine wpAnyL_take (i := 12) (v := ?_) rfl (by kernel_rfl) (by kernel_rfl) (by kernel_rfl) (by kernel_rfl) (fun _ _ _ h => h) (Or.inl ⟨by kernel_rfl, ?_⟩) (by assumption) ?_
          rotate_left
          · (intro w hSw; (try dsimp only at hSw); go_simp; try with_reducible rfl)
          simp only [Act.put, List.setIfInBounds_toArray, List.set_cons_zero, List.set_cons_succ]
          refine wpAnyL_take (i := 13) (v := ?_) rfl (by kernel_rfl) (by kernel_rfl) (by kernel_rfl) (by kernel_rfl) (fun _ _ _ h => h) (Or.inl ⟨by kernel_rfl, ?_⟩) (by assumption) ?_
          rotate_left
          · (intro w hSw; (try dsimp only at hSw); go_simp; try with_reducible rfl)
          simp only [Act.put, List.setIfInBounds_toArray, List.set_cons_zero, List.set_cons_succ]
          refine wpAnyL_take (i := 14) (v := ?_) rfl (by kernel_rfl) (by kernel_rfl) (by kernel_rfl) (by kernel_rfl) (fun _ _ _ h => h) (Or.inl ⟨by kernel_rfl, ?_⟩) (by assumption) ?_
          rotate_left
          · (intro w hSw; (try dsimp only at hSw); go_simp; try with_reducible rfl)
          simp only [Act.put, List.setIfInBounds_toArray, List.set_cons_zero, List.set_cons_succ]
          refine wpAnyL_take (i := 15) (v := ?_) rfl (by kernel_rfl) (by kernel_rfl) (by kernel_rfl) (by kernel_rfl) (fun _ _ _ h => h) (Or.inl ⟨by kernel_rfl, ?_⟩) (by assumption) ?_
          rotate_left
          · (intro w hSw; (try dsimp only at hSw); go_simp; try with_reducible rfl)
          simp only [Act.put, List.setIfInBounds_toArray, List.set_cons_zero, List.set_cons_succ]
          refine wpAnyL_take (i := 16) (v := ?_) rfl (by kernel_rfl) (by kernel_rfl) (by kernel_rfl) (by kernel_rfl) (fun _ _ _ h => h) (Or.inl ⟨by kernel_rfl, ?_⟩) (by assumption) ?_
          rotate_left
          · (intro w hSw; (try dsimp only at hSw); go_simp; try with_reducible rfl)
          simp only [Act.put, List.setIfInBounds_toArray, List.set_cons_zero, List.set_cons_succ]
          refine wpAnyL_take (i := 17) (v := ?_) rfl (by kernel_rfl) (by kernel_rfl) (by kernel_rfl) (by kernel_rfl) (fun _ _ _ h => h) (Or.inl ⟨by kernel_rfl, ?_⟩) (by assumption) ?_
          rotate_left
          · (intro w hSw; (try dsimp only at hSw); go_simp; try with_reducible rfl)
          simp only [Act.put, List.setIfInBounds_toArray, List.set_cons_zero, List.set_cons_succ]
          refine wpAnyL_take (i := 18) (v := ?_) rfl (by kernel_rfl) (by kernel_rfl) (by kernel_rfl) (by kernel_rfl) (fun _ _ _ h => h) (Or.inl ⟨by kernel_rfl, ?_⟩) (by assumption) ?_
          rotate_left
          · (intro w hSw; (try dsimp only at hSw); go_simp; try with_reducible rfl)
          simp only [Act.put, List.setIfInBounds_toArray, List.set_cons_zero, List.set_cons_succ]
          refine wpAnyL_take (i := 19) (v := ?_) rfl (by kernel_rfl) (by kernel_rfl) (by kernel_rfl) (by kernel_rfl) (fun _ _ _ h => h) (Or.inl ⟨by kernel_rfl, ?_⟩) (by assumption) ?_
          rotate_left
          · (intro w hSw; (try dsimp only at hSw); go_simp; try with_reducible rfl)
          simp only [Act.put, List.setIfInBounds_toArray, List.set_cons_zero, List.set_cons_succ]
          refine wpAnyL_take (i := 21) (v := ?_) rfl (by kernel_rfl) (by kernel_rfl) (by kernel_rfl) (by kernel_rfl) (fun _ _ _ h => h) (Or.inl ⟨by kernel_rfl, ?_⟩) (by assumption) ?_
          rotate_left
          · (intro w hSw; (try dsimp only at hSw); go_simp; try with_reducible rfl)
          simp only [Act.put, List.setIfInBounds_toArray, List.set_cons_zero, List.set_cons_succ]
          refine wpAnyL_one (i := 20) (by decide +kernel) rfl (fun K hK => ?_)
          go_simp
          go_at_call 25
          refine (HTX.out _ H12.out.below).mono ?_
          rintro e V1 ⟨ur, un, uc, ud, rfl, B, hO, hF⟩
          have H13 := Lib.hid (H12.out.grow hF.below)
          have HU := Lib.hid (hO.rd hF.1 (fun x hx => hx) HOX.out)
          clear hO hF
          refine hK.out _ _ (Hcs.out _ H13.out) (fun hHeld => ?_)
          clear hK K
          try simp only [Act.put, List.setIfInBounds_toArray, List.set_cons_zero, List.set_cons_succ]
          refine wpAnyL_one (i := 22) (by decide +kernel) rfl (fun K hK => ?_)
          go_simp
          go_at_call 25
          refine (HTY.out _ H13.out.below).mono ?_
          rintro e V2 ⟨vr, vn, vc, vd, rfl, B2, hO2, hF2⟩
          have H14 := Lib.hid (H13.out.grow hF2.below)
          have HU2 := Lib.hid (HU.out.below hF2.below)
          have HW := Lib.hid (hO2.rd hF2.1 (fun x hx => hx) HOY.out)
          clear hO2 hF2
          refine hK.out _ _ (Hcs.out _ H14.out) (fun hHeld => ?_)
          clear hK K
          try simp only [Act.put, List.setIfInBounds_toArray, List.set_cons_zero, List.set_cons_succ]
          refine wpAnyL_one (i := 23) (by decide +kernel) rfl (fun K hK => ?_)
          go_simp
          go_at_call 24
          have hsg := sameGraph_any uc ud vc vd HU2.out HW.out
          rw [trimG_rlen, trimG_nlen, trimG_rlen, trimG_nlen, HV.out] at hsg
          refine hsg.mono ?_
          clear hsg
          rintro e V3 ⟨rfl, hb⟩
          have H15 := Lib.hid (H14.out.grow hb)
          clear hb
          refine hK.out _ _ (Hcs.out _ H15.out) (fun hHeld => ?_)
          clear hK K
          try simp only [Act.put, List.setIfInBounds_toArray, List.set_cons_zero, List.set_cons_succ]
          refine wpAnyL_take (i := 24) (v := ?_) rfl (by kernel_rfl) (by kernel_rfl) (by kernel_rfl) (by kernel_rfl) (fun _ _ _ h => h) (Or.inl ⟨by kernel_rfl, ?_⟩) (by assumption) ?_
          rotate_left
          · (intro w hSw; (try dsimp only at hSw); go_simp; try with_reducible rfl)
          simp only [Act.put, List.setIfInBounds_toArray, List.set_cons_zero, List.set_cons_succ]
          refine wpAnyL_take (i := 25) (v := ?_) rfl (by kernel_rfl) (by kernel_rfl) (by kernel_rfl) (by kernel_rfl) (fun _ _ _ h => h) (Or.inl ⟨by kernel_rfl, ?_⟩) (by assumption) ?_
          rotate_left
          · (intro w hSw; (try dsimp only at hSw); go_simp; try with_reducible rfl)
          simp only [Act.put, List.setIfInBounds_toArray, List.set_cons_zero, List.set_cons_succ]
          refine wpAnyL_take (i := 26) (v := ?_) rfl (by kernel_rfl) (by kernel_rfl) (by kernel_rfl) (by kernel_rfl) (fun _ _ _ h => h) (Or.inl ⟨by kernel_rfl, ?_⟩) (by assumption) ?_
          rotate_left
          · (intro w hSw; (try dsimp only at hSw); go_simp; try with_reducible rfl)
          simp only [Act.put, List.setIfInBounds_toArray, List.set_cons_zero, List.set_cons_succ]
          refine wpAnyL_one (i := 27) (by decide +kernel) rfl (fun K hK => ?_)
          go_simp
          go_at_call 28
          refine (HL.out _).mono ?_
          rintro e V4 ⟨rfl, hb⟩
          have H16 := Lib.hid (H15.out.grow hb)
          clear hb
          refine hK.out _ _ (Hcs.out _ H16.out) (fun hHeld => ?_)
          clear hK K
          try simp only [Act.put, List.setIfInBounds_toArray, List.set_cons_zero, List.set_cons_succ]
          refine wpAnyL_take (i := 28) (v := ?_) rfl (by kernel_rfl) (by kernel_rfl) (by kernel_rfl) (by kernel_rfl) (fun _ _ _ h => h) (Or.inl ⟨by kernel_rfl, ?_⟩) (by assumption) ?_
          rotate_left
          · (intro w hSw; (try dsimp only at hSw); go_simp; try with_reducible rfl)
          simp only [Act.put, List.setIfInBounds_toArray, List.set_cons_zero, List.set_cons_succ]
          refine wpAnyL_last (i := 29) (by kernel_rfl) rfl (by kernel_rfl) (by kernel_rfl) (fun K hK => ?_)
          go_simp
          refine hK.out _ _ ?_
          clear hK K
          try simp only [Act.put, List.setIfInBounds_toArray, List.set_cons_zero, List.set_cons_succ]
          go_wp2_with (fail)
          go_ret
          subst hgb
          exact ⟨rfl, H16.out.below⟩
end Go.Proofs.Ytplkogjnmjjjgaa
