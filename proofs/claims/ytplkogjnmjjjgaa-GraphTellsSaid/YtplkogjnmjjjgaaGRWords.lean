/- The walk of the reference's Words. -/
import Derived.Test.YtplkogjnmjjjgaaGWords
namespace Go.Proofs.Ytplkogjnmjjjgaa
open Go.ChangeShapes Go.WideShapes Go.ChangeAt Go.RowKit Go.Maps
set_option linter.unusedVariables false
set_option linter.unusedSimpArgs false

set_option maxRecDepth 100000 in
set_option maxHeartbeats 1000000 in
theorem refWords_any {w : World} {ar an : Option Addr} {g : Gr} (cr cn : Nat) (hG : GRd w ar an g) (hfew : FewG g) (hmay : mayG g = true) :
    Calls Try.prog 23 #[.agg #[.slice ar g.rs.length cr, .slice an g.ns.length cn]] w fun e w' => e = .returned (.int .i64 (wordsG g : Int)) ∧ Below w.heap.size w w' := by
  have h1 := (FKN.refl w).box #[.slice ar g.rs.length cr, .slice an g.ns.length cn] 25
  have HR := Lib.hid (refReach_any cr cn (hG.below h1.below) hfew hmay)
  have hOk := walkG_ok hmay
  have hal := hOk.len
  have hN := hfew.ns
  have l2 : (g.ns.length : Int) ≤ 100 := by omega
  have HOk := Lib.hid hOk
  have HG := Lib.hid hG
  have Hmay := Lib.hid hmay
  obtain ⟨gb, hgb⟩ : ∃ gb, w.heap.size = gb := ⟨_, rfl⟩
  simp only [hgb] at h1
  have H1 := Lib.hid h1
  have hq := h1.1.block (List.mem_cons_self ..)
  have c0 := at_cell hq 0 _ rfl
  have c1 := at_cell hq 1 _ rfl
  clear h1 hG hfew hmay hOk hq
  go_enter Try.func23, Try.ntmps23
  go_wp2_with (go_at_call 22; refine HR.out.mono ?_; rintro e w2 ⟨la, lc, rfl, Rl, hrl, hF⟩; have hs := H1.out.below.size; have HRl := Lib.hid (hrl.mono hs); have H2 := Lib.hid (H1.out.join hF); clear hF hrl)
  clear c0 c1 HR
  go_loopw [4, 5] (fun nv iv wr => ∃ i n : Nat, nv = .int .i64 n ∧ iv = .int .i64 i ∧ i ≤ (walkG g).al.length ∧ n = totN ((nodesG g).take i) ∧ n ≤ 256 * i ∧ FKN w (Rl ++ [(gb, .cells #[.slice ar g.rs.length cr, .slice an g.ns.length cn] 25 (0, 0))]) wr) (fun _ iv _ => (walkG g).al.length - (intOf iv).toNat)
  case atStart => exact ⟨0, 0, rfl, rfl, by omega, by simp [totN], by omega, H2.out⟩
  case round =>
    clear H2
    obtain ⟨i, n, rfl, rfl, hi, hn, hnb, hF⟩ := hrel
    have Hn := Lib.hid hn
    clear hn
    by_cases hlt : i < (walkG g).al.length
    · obtain ⟨b0, rfl, hz0⟩ := HRl.out.at_ (hF.grow (below_drew wr)).1 (fun x hx => List.mem_append_left _ hx) (icI_get _ i hlt)
      have hzz := HOk.out.lt ((walkG g).al.getD i 0) (getD_mem 0 hlt)
      have hnx := words_next hlt
      generalize (walkG g).al.getD i 0 = z at *
      obtain ⟨q, rfl⟩ : ∃ q : Nat, z = q := ⟨z.toNat, by omega⟩
      have hqN : q < g.ns.length := by omega
      obtain ⟨bn, on, ap, af, aw, cp, cf, cw, rfl, hx0, n0, n1, n2⟩ := (HG.out.nodes.below (hF.grow (below_drew wr)).below).at_ hqN
      have hok := node_ok Hmay.out hqN
      rw [Int.toNat_natCast] at hnx
      generalize g.ns.getD q default = x at *
      obtain ⟨hsz, hs256⟩ := node_size hok
      have hqb := (hF.grow (below_drew wr)).1.block (List.mem_append_right _ (List.mem_cons_self ..))
      have e1 := at_cell hqb 1 _ rfl
      have HF := Lib.hid (hF.grow (below_drew wr))
      have Hnx := Lib.hid hnx
      have HSH := Lib.hid (fun w => refShape_any ap x.ps.length cp af x.fs.length cf aw x.ws.length cw w)
      have HSZ := Lib.hid (fun w => Hd.refSize_any (x.ps.length : Int) (x.fs.length : Int) (x.ws.length : Int) w)
      rw [hsz] at HSZ
      have k1 : (i : Int) < (walkG g).al.length := by omega
      have k2 : (0 : Int) ≤ i := by omega
      have k3 : ((i : Int)).toNat = i := by omega
      have q1 : (q : Int) < g.ns.length := by omega
      have q2 : (0 : Int) ≤ q := by omega
      have q3 : ((q : Int)).toNat = q := by omega
      generalize szN x = sz at *
      have y1 : (n : Int) ≤ 25600 := by omega
      have y2 : (sz : Int) ≤ 256 := by omega
      have y4 : IntKind.i64.wrap ((n : Int) + sz) = n + sz := by rw [IntKind.wrap_i64]; omega
      have HS := Lib.hid (fun W (hW : Below wr.drew.heap.size wr.drew W) => (show W.cell? ⟨gb, 1, none⟩ = some (.slice (some ⟨bn, on, none⟩) g.ns.length cn) ∧ W.cell? ⟨b0, i, none⟩ = some (.int .i64 (q : Int)) ∧ W.cell? ⟨bn, on + q * 3, none⟩ = some (.slice ap x.ps.length cp) ∧ W.cell? ⟨bn, on + q * 3 + 1, none⟩ = some (.slice af x.fs.length cf) ∧ W.cell? ⟨bn, on + q * 3 + 2, none⟩ = some (.slice aw x.ws.length cw) from
        ⟨cellB hW (Nat.le_refl _) e1, cellB hW (Nat.le_refl _) hz0, cellB hW (Nat.le_refl _) n0, cellB hW (Nat.le_refl _) n1, cellB hW (Nat.le_refl _) n2⟩))
      clear hF hx0 hnx hok hsz hqb hzz e1 hz0 n0 n1 n2
      go_wp2_with (fail)
      refine wp_region_heldL (S := fun W => W.cell? ⟨gb, 1, none⟩ = some (.slice (some ⟨bn, on, none⟩) g.ns.length cn) ∧ W.cell? ⟨b0, i, none⟩ = some (.int .i64 (q : Int)) ∧ W.cell? ⟨bn, on + q * 3, none⟩ = some (.slice ap x.ps.length cp) ∧ W.cell? ⟨bn, on + q * 3 + 1, none⟩ = some (.slice af x.fs.length cf) ∧ W.cell? ⟨bn, on + q * 3 + 2, none⟩ = some (.slice aw x.ws.length cw)) (by kernel_rfl) (HS.out _ (Below.refl _ _)) (fun hHeld => ?_)
      generalize wr.drew = V at *
      refine wpAnyL_take (i := 0) (v := ?_) rfl (by kernel_rfl) (by kernel_rfl) (by kernel_rfl) (by kernel_rfl) (fun _ _ _ h => h) (Or.inl ⟨by kernel_rfl, ?_⟩) (by assumption) ?_
      rotate_left
      · (intro w hSw; (try dsimp only at hSw); go_simp; try with_reducible rfl)
      simp only [Act.put, List.setIfInBounds_toArray, List.set_cons_zero, List.set_cons_succ]
      refine wpAnyL_take (i := 1) (v := ?_) rfl (by kernel_rfl) (by kernel_rfl) (by kernel_rfl) (by kernel_rfl) (fun _ _ _ h => h) (Or.inl ⟨by kernel_rfl, ?_⟩) (by assumption) ?_
      rotate_left
      · (intro w hSw; (try dsimp only at hSw); go_simp; try with_reducible rfl)
      simp only [Act.put, List.setIfInBounds_toArray, List.set_cons_zero, List.set_cons_succ]
      refine wpAnyL_take (i := 2) (v := ?_) rfl (by kernel_rfl) (by kernel_rfl) (by kernel_rfl) (by kernel_rfl) (fun _ _ _ h => h) (Or.inl ⟨by kernel_rfl, ?_⟩) (by assumption) ?_
      rotate_left
      · (intro w hSw; (try dsimp only at hSw); go_simp; try with_reducible rfl)
      simp only [Act.put, List.setIfInBounds_toArray, List.set_cons_zero, List.set_cons_succ]
      refine wpAnyL_take (i := 3) (v := ?_) rfl (by kernel_rfl) (by kernel_rfl) (by kernel_rfl) (by kernel_rfl) (fun _ _ _ h => h) (Or.inl ⟨by kernel_rfl, ?_⟩) (by assumption) ?_
      rotate_left
      · (intro w hSw; (try dsimp only at hSw); go_simp; try with_reducible rfl)
      simp only [Act.put, List.setIfInBounds_toArray, List.set_cons_zero, List.set_cons_succ]
      refine wpAnyL_take (i := 4) (v := ?_) rfl (by kernel_rfl) (by kernel_rfl) (by kernel_rfl) (by kernel_rfl) (fun _ _ _ h => h) (Or.inl ⟨by kernel_rfl, ?_⟩) (by assumption) ?_
      rotate_left
      · (intro w hSw; (try dsimp only at hSw); go_simp; try with_reducible rfl)
      simp only [Act.put, List.setIfInBounds_toArray, List.set_cons_zero, List.set_cons_succ]
      refine wpAnyL_take (i := 5) (v := ?_) rfl (by kernel_rfl) (by kernel_rfl) (by kernel_rfl) (by kernel_rfl) (fun _ _ _ h => h) (Or.inl ⟨by kernel_rfl, ?_⟩) (by assumption) ?_
      rotate_left
      · (intro w hSw; (try dsimp only at hSw); go_simp; try with_reducible rfl)
      simp only [Act.put, List.setIfInBounds_toArray, List.set_cons_zero, List.set_cons_succ]
      refine wpAnyL_take (i := 6) (v := ?_) rfl (by kernel_rfl) (by kernel_rfl) (by kernel_rfl) (by kernel_rfl) (fun _ _ _ h => h) (Or.inl ⟨by kernel_rfl, ?_⟩) (by assumption) ?_
      rotate_left
      · (intro w hSw; (try dsimp only at hSw); go_simp; try with_reducible rfl)
      simp only [Act.put, List.setIfInBounds_toArray, List.set_cons_zero, List.set_cons_succ]
      refine wpAnyL_take (i := 7) (v := ?_) rfl (by kernel_rfl) (by kernel_rfl) (by kernel_rfl) (by kernel_rfl) (fun _ _ _ h => h) (Or.inl ⟨by kernel_rfl, ?_⟩) (by assumption) ?_
      rotate_left
      · (intro w hSw; (try dsimp only at hSw); go_simp; try with_reducible rfl)
      simp only [Act.put, List.setIfInBounds_toArray, List.set_cons_zero, List.set_cons_succ]
      refine wpAnyL_take (i := 8) (v := ?_) rfl (by kernel_rfl) (by kernel_rfl) (by kernel_rfl) (by kernel_rfl) (fun _ _ _ h => h) (Or.inl ⟨by kernel_rfl, ?_⟩) (by assumption) ?_
      rotate_left
      · (intro w hSw; (try dsimp only at hSw); go_simp; try with_reducible rfl)
      simp only [Act.put, List.setIfInBounds_toArray, List.set_cons_zero, List.set_cons_succ]
      refine wpAnyL_one (i := 9) (by decide +kernel) rfl (fun K hK => ?_)
      go_simp
      go_at_call 45
      refine (HSH.out _).mono ?_
      rintro e w3 ⟨rfl, hb3⟩
      have H3 := Lib.hid (HF.out.grow hb3)
      refine hK.out _ _ (HS.out _ hb3) (fun hHeld => ?_)
      clear hK K
      try simp only [Act.put, List.setIfInBounds_toArray, List.set_cons_zero, List.set_cons_succ]
      refine wpAnyL_one (i := 10) (by decide +kernel) rfl (fun K hK => ?_)
      go_simp
      go_at_call 51
      refine (HSZ.out _).mono ?_
      rintro e w4 ⟨rfl, hb4⟩
      have H4 := Lib.hid (H3.out.grow hb4)
      refine hK.out _ _ (HS.out _ (seq hb3 hb4)) (fun hHeld => ?_)
      clear hK K
      try simp only [Act.put, List.setIfInBounds_toArray, List.set_cons_zero, List.set_cons_succ]
      refine wpAnyL_take (i := 11) (v := ?_) rfl (by kernel_rfl) (by kernel_rfl) (by kernel_rfl) (by kernel_rfl) (fun _ _ _ h => h) (Or.inl ⟨by kernel_rfl, ?_⟩) (by assumption) ?_
      rotate_left
      · (intro w hSw; (try dsimp only at hSw); go_simp; try with_reducible rfl)
      simp only [Act.put, List.setIfInBounds_toArray, List.set_cons_zero, List.set_cons_succ]
      refine wpAnyL_last (i := 12) (by kernel_rfl) rfl (by kernel_rfl) (by kernel_rfl) (fun K hK => ?_)
      go_simp
      refine hK.out _ _ ?_
      clear hK K
      try simp only [Act.put, List.setIfInBounds_toArray, List.set_cons_zero, List.set_cons_succ]
      clear hb3 hb4 hHeld
      go_wp2_with (fail)
      go_roundw
      case rel => exact ⟨i + 1, n + sz, by go_num, by go_num, by omega, by have h1 := Hnx.out; have h2 := Hn.out; omega, by omega, H4.out⟩
      case measure => simp [intOf]; omega
    · obtain rfl : i = (walkG g).al.length := by omega
      have k1 : ¬ ((walkG g).al.length : Int) < (walkG g).al.length := by omega
      have HF := Lib.hid hF
      clear hF
      go_wp2_with (fail)
      go_ret
      subst hgb
      refine ⟨?_, HF.out.below⟩
      have h2 := Hn.out
      rw [List.take_of_length_le (by unfold nodesG; rw [List.length_map]; omega)] at h2
      rw [h2]
      rfl
end Go.Proofs.Ytplkogjnmjjjgaa
