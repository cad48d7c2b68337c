/- The walk of GraphSame. -/
import Derived.Test.YtplkogjnmjjjgaaGLives
namespace Go.Proofs.Ytplkogjnmjjjgaa
open Go.ChangeShapes Go.WideShapes Go.ChangeAt Go.RowKit Go.Maps
set_option linter.unusedVariables false
set_option linter.unusedSimpArgs false

set_option maxRecDepth 100000 in
set_option maxHeartbeats 4000000 in
theorem gsame_any {w : World} {ar an br bn : Option Addr} {x y : Gr} (cr cn dr dn : Nat) (hx : GRd w ar an x) (hy : GRd w br bn y) (sx : SmG x) (sy : SmG y) :
    Calls Try.prog 4 #[.agg #[.slice ar x.rs.length cr, .slice an x.ns.length cn], .agg #[.slice br y.rs.length dr, .slice bn y.ns.length dn]] w fun e w' => e = .returned (.bool true) ∧ Below w.heap.size w w' := by
  have h1 := (FKN.refl w).box #[.slice ar x.rs.length cr, .slice an x.ns.length cn] 25
  have h2 := h1.box #[.slice br y.rs.length dr, .slice bn y.ns.length dn] 25
  simp only [heap_size_alloc] at h2
  obtain ⟨gb, hgb⟩ : ∃ gb, w.heap.size = gb := ⟨_, rfl⟩
  simp only [hgb] at h2
  obtain ⟨⟨p0, p1⟩, q0, q1⟩ := two_graphs (List.mem_cons_of_mem _ (List.mem_cons_self ..)) (List.mem_cons_self ..) h2
  obtain ⟨E0, hE0⟩ : ∃ E0, [(gb + 1, Obj.cells #[.slice br y.rs.length dr, .slice bn y.ns.length dn] 25 (0, 0)), (gb, Obj.cells #[.slice ar x.rs.length cr, .slice an x.ns.length cn] 25 (0, 0))] = E0 := ⟨_, rfl⟩
  rw [hE0] at h2
  have Hcs := Lib.hid (show ∀ W, FKN w E0 W → (W.cell? ⟨gb, 0, none⟩ = some (.slice ar x.rs.length cr) ∧ W.cell? ⟨gb, 1, none⟩ = some (.slice an x.ns.length cn)) ∧ (W.cell? ⟨gb + 1, 0, none⟩ = some (.slice br y.rs.length dr) ∧ W.cell? ⟨gb + 1, 1, none⟩ = some (.slice bn y.ns.length dn)) from fun W hW => by
    subst hE0
    exact two_graphs (List.mem_cons_of_mem _ (List.mem_cons_self ..)) (List.mem_cons_self ..) hW)
  have H2 := Lib.hid h2
  have HX := Lib.hid hx
  have HY := Lib.hid hy
  have SX := Lib.hid sx
  have SY := Lib.hid sy
  have HFX := Lib.hid (fun W (h : Below w.heap.size w W) => far_any cr cn (hx.below h) sx)
  have HFY := Lib.hid (fun W (h : Below w.heap.size w W) => far_any dr dn (hy.below h) sy)
  have HMX := Lib.hid (fun W (h : Below w.heap.size w W) => refMay_any cr cn (hx.below h))
  have HMY := Lib.hid (fun W (h : Below w.heap.size w W) => refMay_any dr dn (hy.below h))
  have HL := Lib.hid lives_any
  clear h1 h2 hx hy hE0
  cases hfx : farG x with
  | true =>
    rw [hfx] at HFX
    clear hfx sx sy
    go_enter Try.func4, Try.ntmps4
    go_wp2_with (first
      | (go_at_call 10; refine (HFX.out _ H2.out.below).mono ?_; rintro e w2 ⟨rfl, hb⟩; have H3 := Lib.hid (H2.out.grow hb); clear hb)
      | (go_at_call 11; refine (HL.out _).mono ?_; rintro e w3 ⟨rfl, hb⟩; have H4 := Lib.hid (H3.out.grow hb); clear hb))
    go_ret
    subst hgb
    exact ⟨rfl, H4.out.below⟩
  | false =>
    have fx := (near_of hfx).few
    rw [hfx] at HFX
    cases hfy : farG y with
    | true =>
      rw [hfy] at HFY
      clear hfx hfy sx sy fx
      go_enter Try.func4, Try.ntmps4
      go_wp2_with (first
        | (go_at_call 10; refine (HFX.out _ H2.out.below).mono ?_; rintro e w2 ⟨rfl, hb⟩; have H3 := Lib.hid (H2.out.grow hb); obtain ⟨⟨p0, p1⟩, q0, q1⟩ := Hcs.out _ H3.out; clear hb HFX)
        | (go_at_call 10; refine (HFY.out _ H3.out.below).mono ?_; rintro e w3 ⟨rfl, hb⟩; have H4 := Lib.hid (H3.out.grow hb); clear hb)
        | (go_at_call 11; refine (HL.out _).mono ?_; rintro e w4 ⟨rfl, hb⟩; have H5 := Lib.hid (H4.out.grow hb); clear hb))
      go_ret
      subst hgb
      exact ⟨rfl, H5.out.below⟩
    | false =>
      have fy := (near_of hfy).few
      rw [hfy] at HFY
      have HSM := Lib.hid (fun W (h : Below w.heap.size w W) => same_any cr cn dr dn (HX.out.below h) (HY.out.below h) fx fy)
      cases hmx : mayG x with
      | false =>
        rw [hmx] at HMX HSM
        simp only [Bool.false_and, Bool.false_eq_true, if_false] at HSM
        clear hfx hfy sx sy fx fy hmx
        go_enter Try.func4, Try.ntmps4
        go_wp2_with (first
          | (go_at_call 10; refine (HFX.out _ H2.out.below).mono ?_; rintro e w2 ⟨rfl, hb⟩; have H3 := Lib.hid (H2.out.grow hb); obtain ⟨⟨p0, p1⟩, q0, q1⟩ := Hcs.out _ H3.out; clear hb HFX)
          | (go_at_call 10; refine (HFY.out _ H3.out.below).mono ?_; rintro e w3 ⟨rfl, hb⟩; have H4 := Lib.hid (H3.out.grow hb); obtain ⟨⟨p0, p1⟩, q0, q1⟩ := Hcs.out _ H4.out; clear hb)
          | (go_at_call 26; refine (HSM.out _ H4.out.below).mono ?_; rintro e w4 ⟨rfl, hb⟩; have H5 := Lib.hid (H4.out.grow hb); obtain ⟨⟨p0, p1⟩, q0, q1⟩ := Hcs.out _ H5.out; clear hb)
          | (go_at_call 17; refine (HMX.out _ H5.out.below).mono ?_; rintro e w5 ⟨rfl, hb⟩; have H6 := Lib.hid (H5.out.grow hb); clear hb)
          | (go_at_call 11; refine (HL.out _).mono ?_; rintro e w6 ⟨rfl, hb⟩; have H7 := Lib.hid (H6.out.grow hb); clear hb))
        go_ret
        subst hgb
        exact ⟨rfl, H7.out.below⟩
      | true =>
        rw [hmx] at HMX HSM
        cases hmy : mayG y with
        | false =>
          rw [hmy] at HMY HSM
          simp only [Bool.false_and, Bool.and_false, Bool.false_eq_true, if_false] at HSM
          clear hfx hfy sx sy fx fy hmx hmy
          go_enter Try.func4, Try.ntmps4
          go_wp2_with (first
            | (go_at_call 10; refine (HFX.out _ H2.out.below).mono ?_; rintro e w2 ⟨rfl, hb⟩; have H3 := Lib.hid (H2.out.grow hb); obtain ⟨⟨p0, p1⟩, q0, q1⟩ := Hcs.out _ H3.out; clear hb HFX)
            | (go_at_call 10; refine (HFY.out _ H3.out.below).mono ?_; rintro e w3 ⟨rfl, hb⟩; have H4 := Lib.hid (H3.out.grow hb); obtain ⟨⟨p0, p1⟩, q0, q1⟩ := Hcs.out _ H4.out; clear hb)
            | (go_at_call 26; refine (HSM.out _ H4.out.below).mono ?_; rintro e w4 ⟨rfl, hb⟩; have H5 := Lib.hid (H4.out.grow hb); obtain ⟨⟨p0, p1⟩, q0, q1⟩ := Hcs.out _ H5.out; clear hb)
            | (go_at_call 17; refine (HMX.out _ H5.out.below).mono ?_; rintro e w5 ⟨rfl, hb⟩; have H6 := Lib.hid (H5.out.grow hb); obtain ⟨⟨p0, p1⟩, q0, q1⟩ := Hcs.out _ H6.out; clear hb HMX)
            | (go_at_call 17; refine (HMY.out _ H6.out.below).mono ?_; rintro e w6 ⟨rfl, hb⟩; have H7 := Lib.hid (H6.out.grow hb); clear hb)
            | (go_at_call 11; refine (HL.out _).mono ?_; rintro e w7 ⟨rfl, hb⟩; have H8 := Lib.hid (H7.out.grow hb); clear hb))
          go_ret
          subst hgb
          exact ⟨rfl, H8.out.below⟩
        | true =>
          have HTX := Lib.hid (fun W (h : Below w.heap.size w W) => refTrim_any cr cn (HX.out.below h) fx hmx)
          have HTY := Lib.hid (fun W (h : Below w.heap.size w W) => refTrim_any dr dn (HY.out.below h) fy hmy)
          have hlx := (walkG_ok hmx).len
          have hly := (walkG_ok hmy).len
          have hnx := fx.ns
          have hny := fy.ns
          have HOX := Lib.hid (HX.out.ok.trim (by omega))
          have HOY := Lib.hid (HY.out.ok.trim (by omega))
          rw [hmy] at HMY HSM
          simp only [Bool.true_and, Bool.and_self, if_true] at HSM
          obtain ⟨v, hv⟩ : ∃ v, sameG (trimG x) (trimG y) = v := ⟨_, rfl⟩
          rw [hv] at HSM
          have HV := Lib.hid hv
          clear hfx hfy sx sy fx fy hmx hmy hv
          go_enter Try.func4, Try.ntmps4
          go_wp2_with (first
            | (go_at_call 10; refine (HFX.out _ H2.out.below).mono ?_; rintro e w2 ⟨rfl, hb⟩; have H3 := Lib.hid (H2.out.grow hb); obtain ⟨⟨p0, p1⟩, q0, q1⟩ := Hcs.out _ H3.out; clear hb HFX)
            | (go_at_call 10; refine (HFY.out _ H3.out.below).mono ?_; rintro e w3 ⟨rfl, hb⟩; have H4 := Lib.hid (H3.out.grow hb); obtain ⟨⟨p0, p1⟩, q0, q1⟩ := Hcs.out _ H4.out; clear hb)
            | (go_at_call 26; refine (HSM.out _ H4.out.below).mono ?_; rintro e w4 ⟨rfl, hb⟩; have H5 := Lib.hid (H4.out.grow hb); obtain ⟨⟨p0, p1⟩, q0, q1⟩ := Hcs.out _ H5.out; clear hb)
            | (go_at_call 17; refine (HMX.out _ H5.out.below).mono ?_; rintro e w5 ⟨rfl, hb⟩; have H6 := Lib.hid (H5.out.grow hb); obtain ⟨⟨p0, p1⟩, q0, q1⟩ := Hcs.out _ H6.out; clear hb HMX)
            | (go_at_call 17; refine (HMY.out _ H6.out.below).mono ?_; rintro e w6 ⟨rfl, hb⟩; have H7 := Lib.hid (H6.out.grow hb); clear hb))
          clear p0 p1 q0 q1 HFY HSM HMY
          have H8 := Lib.hid (H7.out.grow (below_drew w6))
          refine wp_region_heldL (S := fun W => (W.cell? ⟨gb, 0, none⟩ = some (.slice ar x.rs.length cr) ∧ W.cell? ⟨gb, 1, none⟩ = some (.slice an x.ns.length cn)) ∧ (W.cell? ⟨gb + 1, 0, none⟩ = some (.slice br y.rs.length dr) ∧ W.cell? ⟨gb + 1, 1, none⟩ = some (.slice bn y.ns.length dn))) (by kernel_rfl) (Hcs.out _ H8.out) (fun hHeld => ?_)
          generalize w6.drew = w8 at *
          refine wpAnyL_take (i := 0) (v := ?_) rfl (by kernel_rfl) (by kernel_rfl) (by kernel_rfl) (by kernel_rfl) (fun _ _ _ h => h) (Or.inl ⟨by rfl, ?_⟩) (by assumption) ?_
          rotate_left
          · (intro w hSw; (try dsimp only at hSw); go_simp; try with_reducible rfl)
          simp only [Act.put, List.setIfInBounds_toArray, List.set_cons_zero, List.set_cons_succ]
          refine wpAnyL_take (i := 1) (v := ?_) rfl (by kernel_rfl) (by kernel_rfl) (by kernel_rfl) (by kernel_rfl) (fun _ _ _ h => h) (Or.inl ⟨by rfl, ?_⟩) (by assumption) ?_
          rotate_left
          · (intro w hSw; (try dsimp only at hSw); go_simp; try with_reducible rfl)
          simp only [Act.put, List.setIfInBounds_toArray, List.set_cons_zero, List.set_cons_succ]
          refine wpAnyL_take (i := 3) (v := ?_) rfl (by kernel_rfl) (by kernel_rfl) (by kernel_rfl) (by kernel_rfl) (fun _ _ _ h => h) (Or.inl ⟨by rfl, ?_⟩) (by assumption) ?_
          rotate_left
          · (intro w hSw; (try dsimp only at hSw); go_simp; try with_reducible rfl)
          simp only [Act.put, List.setIfInBounds_toArray, List.set_cons_zero, List.set_cons_succ]
          refine wpAnyL_one (i := 2) (by kernel_rfl) rfl (fun K hK => ?_)
          go_simp
          go_at_call 25
          refine (HTX.out _ H8.out.below).mono ?_
          rintro e w9 ⟨ax, nx, cx, dx, rfl, B, hO, hF⟩
          have H9 := Lib.hid (H8.out.grow hF.below)
          have HRX := Lib.hid (hO.rd hF.1 (fun x hx => hx) HOX.out)
          clear hO hF HTX
          refine hK.out _ _ (Hcs.out _ H9.out) (fun hHeld => ?_)
          clear hK K
          try simp only [Act.put, List.setIfInBounds_toArray, List.set_cons_zero, List.set_cons_succ]
          refine wpAnyL_one (i := 4) (by kernel_rfl) rfl (fun K hK => ?_)
          go_simp
          go_at_call 25
          refine (HTY.out _ H9.out.below).mono ?_
          rintro e w10 ⟨ay, ny, cy, dy, rfl, B2, hO2, hF2⟩
          have H10 := Lib.hid (H9.out.grow hF2.below)
          have HRY := Lib.hid (hO2.rd hF2.1 (fun x hx => hx) HOY.out)
          have HRX2 := Lib.hid (HRX.out.below hF2.below)
          clear hO2 hF2 HTY HRX
          refine hK.out _ _ (Hcs.out _ H10.out) (fun hHeld => ?_)
          clear hK K
          try simp only [Act.put, List.setIfInBounds_toArray, List.set_cons_zero, List.set_cons_succ]
          refine wpAnyL_one (i := 5) (by kernel_rfl) rfl (fun K hK => ?_)
          go_simp
          go_at_call 24
          have hsg := sameGraph_any cx dx cy dy HRX2.out HRY.out
          rw [trimG_rlen, trimG_nlen, trimG_rlen, trimG_nlen, HV.out] at hsg
          refine hsg.mono ?_
          clear hsg
          rintro e w11 ⟨rfl, hb⟩
          have H11 := Lib.hid (H10.out.grow hb)
          clear hb
          refine hK.out _ _ (Hcs.out _ H11.out) (fun hHeld => ?_)
          clear hK K
          try simp only [Act.put, List.setIfInBounds_toArray, List.set_cons_zero, List.set_cons_succ]
          refine wpAnyL_take (i := 6) (v := ?_) rfl (by kernel_rfl) (by kernel_rfl) (by kernel_rfl) (by kernel_rfl) (fun _ _ _ h => h) (Or.inl ⟨by rfl, ?_⟩) (by assumption) ?_
          rotate_left
          · (intro w hSw; (try dsimp only at hSw); go_simp; try with_reducible rfl)
          simp only [Act.put, List.setIfInBounds_toArray, List.set_cons_zero, List.set_cons_succ]
          refine wpAnyL_take (i := 7) (v := ?_) rfl (by kernel_rfl) (by kernel_rfl) (by kernel_rfl) (by kernel_rfl) (fun _ _ _ h => h) (Or.inl ⟨by rfl, ?_⟩) (by assumption) ?_
          rotate_left
          · (intro w hSw; (try dsimp only at hSw); go_simp; try with_reducible rfl)
          simp only [Act.put, List.setIfInBounds_toArray, List.set_cons_zero, List.set_cons_succ]
          refine wpAnyL_take (i := 8) (v := ?_) rfl (by kernel_rfl) (by kernel_rfl) (by kernel_rfl) (by kernel_rfl) (fun _ _ _ h => h) (Or.inl ⟨by rfl, ?_⟩) (by assumption) ?_
          rotate_left
          · (intro w hSw; (try dsimp only at hSw); go_simp; try with_reducible rfl)
          simp only [Act.put, List.setIfInBounds_toArray, List.set_cons_zero, List.set_cons_succ]
          refine wpAnyL_take (i := 9) (v := ?_) rfl (by kernel_rfl) (by kernel_rfl) (by kernel_rfl) (by kernel_rfl) (fun _ _ _ h => h) (Or.inl ⟨by rfl, ?_⟩) (by assumption) ?_
          rotate_left
          · (intro w hSw; (try dsimp only at hSw); go_simp; try with_reducible rfl)
          simp only [Act.put, List.setIfInBounds_toArray, List.set_cons_zero, List.set_cons_succ]
          refine wpAnyL_take (i := 10) (v := ?_) rfl (by kernel_rfl) (by kernel_rfl) (by kernel_rfl) (by kernel_rfl) (fun _ _ _ h => h) (Or.inl ⟨by rfl, ?_⟩) (by assumption) ?_
          rotate_left
          · (intro w hSw; (try dsimp only at hSw); go_simp; try with_reducible rfl)
          simp only [Act.put, List.setIfInBounds_toArray, List.set_cons_zero, List.set_cons_succ]
          refine wpAnyL_take (i := 11) (v := ?_) rfl (by kernel_rfl) (by kernel_rfl) (by kernel_rfl) (by kernel_rfl) (fun _ _ _ h => h) (Or.inl ⟨by rfl, ?_⟩) (by assumption) ?_
          rotate_left
          · (intro w hSw; (try dsimp only at hSw); go_simp; try with_reducible rfl)
          simp only [Act.put, List.setIfInBounds_toArray, List.set_cons_zero, List.set_cons_succ]
          refine wpAnyL_one (i := 12) (by kernel_rfl) rfl (fun K hK => ?_)
          go_simp
          go_at_call 11
          refine (HL.out _).mono ?_
          rintro e w12 ⟨rfl, hb⟩
          have H12 := Lib.hid (H11.out.grow hb)
          clear hb
          refine hK.out _ _ (Hcs.out _ H12.out) (fun hHeld => ?_)
          clear hK K
          try simp only [Act.put, List.setIfInBounds_toArray, List.set_cons_zero, List.set_cons_succ]
          refine wpAnyL_take (i := 13) (v := ?_) rfl (by kernel_rfl) (by kernel_rfl) (by kernel_rfl) (by kernel_rfl) (fun _ _ _ h => h) (Or.inl ⟨by rfl, ?_⟩) (by assumption) ?_
          rotate_left
          · (intro w hSw; (try dsimp only at hSw); go_simp; try with_reducible rfl)
          simp only [Act.put, List.setIfInBounds_toArray, List.set_cons_zero, List.set_cons_succ]
          refine wpAnyL_last (i := 14) (by kernel_rfl) rfl (by kernel_rfl) (by kernel_rfl) (fun K hK => ?_)
          go_simp
          refine hK.out _ _ ?_
          clear hK K
          try simp only [Act.put, List.setIfInBounds_toArray, List.set_cons_zero, List.set_cons_succ]
          go_wp2_with (fail)
          go_ret
          subst hgb
          exact ⟨rfl, H12.out.below⟩
end Go.Proofs.Ytplkogjnmjjjgaa
