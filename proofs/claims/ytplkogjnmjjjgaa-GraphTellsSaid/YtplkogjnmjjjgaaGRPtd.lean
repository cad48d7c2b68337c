/- The walk of the reference's Pointed. -/
import Derived.Test.YtplkogjnmjjjgaaGLives
namespace Go.Proofs.Ytplkogjnmjjjgaa
open Go.ChangeShapes Go.WideShapes Go.ChangeAt Go.RowKit Go.Maps
set_option linter.unusedVariables false
set_option linter.unusedSimpArgs false

/-- how often a number stands in the rows of some nodes -/
def cntN (ns : List Nd) (k : Int) (l : List Int) : Nat := (l.map fun a => (psAt ns a).count k).sum
def ptdG (g : Gr) (k : Int) : Nat := g.rs.count k + cntN g.ns k (walkG g).al
theorem count_next {l : List Int} {i : Nat} (k : Int) (h : i < l.length) : (l.take (i + 1)).count k = (l.take i).count k + if l.getD i 0 = k then 1 else 0 := by
  rw [take_succ_getD 0 h, List.count_append, List.count_singleton]
  congr 1
  by_cases e : l.getD i 0 = k
  · rw [if_pos e, if_pos (by rw [e]; exact beq_self_eq_true k)]
  · rw [if_neg e, if_neg (by rw [beq_iff_eq]; exact e)]
theorem cntN_next {ns : List Nd} {l : List Int} {i : Nat} (k : Int) (h : i < l.length) : cntN ns k (l.take (i + 1)) = cntN ns k (l.take i) + (psAt ns (l.getD i 0)).count k := by
  unfold cntN
  rw [take_succ_getD 0 h]
  simp
theorem count_le (l : List Int) (k : Int) (i : Nat) : (l.take i).count k ≤ l.length := Nat.le_trans List.count_le_length (by simp; omega)
set_option maxRecDepth 100000 in
set_option maxHeartbeats 2000000 in
theorem refPtd_any {w : World} {ar an : Option Addr} {g : Gr} (cr cn : Nat) (kk : Int) (hG : GRd w ar an g) (hfew : FewG g) (hmay : mayG g = true) :
    Calls Try.prog 21 #[.agg #[.slice ar g.rs.length cr, .slice an g.ns.length cn], .int .i64 kk] w fun e w' => e = .returned (.int .i64 (ptdG g kk : Int)) ∧ Below w.heap.size w w' := by
  have h1 := (FKN.refl w).box #[.slice ar g.rs.length cr, .slice an g.ns.length cn] 25
  have HR := Lib.hid (refReach_any cr cn (hG.below h1.below) hfew hmay)
  have hOk := walkG_ok hmay
  have hal := hOk.len
  have hN := hfew.ns
  have hrs := hfew.rs
  have l1 : (g.rs.length : Int) ≤ 1500 := by omega
  have l2 : (g.ns.length : Int) ≤ 100 := by omega
  have HOk := Lib.hid hOk
  have HG := Lib.hid hG
  have Hfew := Lib.hid hfew
  obtain ⟨gb, hgb⟩ : ∃ gb, w.heap.size = gb := ⟨_, rfl⟩
  simp only [hgb] at h1
  have H1 := Lib.hid h1
  have hq := h1.1.block (List.mem_cons_self ..)
  have c0 := at_cell hq 0 _ rfl
  have c1 := at_cell hq 1 _ rfl
  have Hcs := Lib.hid (show ∀ K W, ((gb, Obj.cells #[.slice ar g.rs.length cr, .slice an g.ns.length cn] 25 (0, 0))) ∈ K → KB w K W → W.cell? ⟨gb, 0, none⟩ = some (.slice ar g.rs.length cr) ∧ W.cell? ⟨gb, 1, none⟩ = some (.slice an g.ns.length cn) from fun K W hm hW =>
    ⟨at_cell (hW.block hm) 0 _ rfl, at_cell (hW.block hm) 1 _ rfl⟩)
  clear h1 hG hfew hmay hOk hq
  go_enter Try.func21, Try.ntmps21
  go_wp2_with (go_at_call 22; refine HR.out.mono ?_; rintro e w2 ⟨la, lc, rfl, Rl, hrl, hF⟩; have hs := H1.out.below.size; have HRl := Lib.hid (hrl.mono hs); have H2 := Lib.hid (H1.out.join hF); clear hF hrl)
  clear c0 c1 HR
  obtain ⟨K, hK⟩ : ∃ K, Rl ++ [(gb, Obj.cells #[.slice ar g.rs.length cr, .slice an g.ns.length cn] 25 (0, 0))] = K := ⟨_, rfl⟩
  rw [hK] at H2
  have Hgm := Lib.hid (show (gb, Obj.cells #[.slice ar g.rs.length cr, .slice an g.ns.length cn] 25 (0, 0)) ∈ K from by rw [← hK]; simp)
  have HRm := Lib.hid (show ∀ x ∈ Rl, x ∈ K from fun x hx => by rw [← hK]; simp [hx])
  clear hK
  go_loopw [6, 7] (fun nv iv wr => ∃ i n : Nat, nv = .int .i64 n ∧ iv = .int .i64 i ∧ i ≤ g.rs.length ∧ n = (g.rs.take i).count kk ∧ FKN w K wr) (fun _ iv _ => g.rs.length - (intOf iv).toNat)
  case atStart => exact ⟨0, 0, rfl, rfl, by omega, by simp, H2.out⟩
  case round =>
    clear H2
    obtain ⟨i, n, rfl, rfl, hi, hn, hF⟩ := hrel
    have hnb := count_le g.rs kk i
    rw [← hn] at hnb
    obtain ⟨c0, c1⟩ := Hcs.out _ _ Hgm.out hF.1
    by_cases hlt : i < g.rs.length
    · obtain ⟨b, off, ha, hc⟩ := (HG.out.roots.below hF.below).cell
      obtain rfl : ar = some ⟨b, off, none⟩ := by
        rcases ha with e | e
        · rw [e] at hlt; cases hlt
        · exact e
      have q0 := hc i hlt
      have hnx := count_next kk hlt
      rw [← hn] at hnx
      generalize g.rs.getD i 0 = z at *
      have k1 : (i : Int) < g.rs.length := by omega
      have k2 : (0 : Int) ≤ i := by omega
      have k3 : ((i : Int)).toNat = i := by omega
      have y1 : (n : Int) ≤ 1500 := by omega
      have HF := Lib.hid hF
      clear hF hc ha hn
      by_cases e : z = kk
      · rw [if_pos e] at hnx
        have d1 : (z == kk) = true := by simp [e]
        have Hnx := Lib.hid hnx
        clear e hnx
        go_wp2_with (fail)
        go_roundw
        case rel => exact ⟨i + 1, n + 1, by go_num, by go_num, by omega, Hnx.out.symm, HF.out⟩
        case measure => simp [intOf]; omega
      · rw [if_neg e] at hnx
        have d1 : (z == kk) = false := by rw [beq_eq_false_iff_ne]; exact e
        have Hnx := Lib.hid hnx
        clear e hnx
        go_wp2_with (fail)
        go_roundw
        case rel => exact ⟨i + 1, n, rfl, by go_num, by omega, Hnx.out.symm, HF.out⟩
        case measure => simp [intOf]; omega
    · obtain rfl : i = g.rs.length := by omega
      have k1 : ¬ (g.rs.length : Int) < g.rs.length := by omega
      rw [List.take_length] at hn
      have HF := Lib.hid hF
      have Hn0 := Lib.hid hn
      obtain ⟨m0, hm0⟩ : ∃ m0, g.rs.count kk = m0 := ⟨_, rfl⟩
      rw [hm0] at Hn0
      have Hm0 := Lib.hid hm0
      have hnb2 : n ≤ 1500 := by omega
      clear hF hn hm0
      go_wp2_with (fail)
      clear c0 c1
      go_loopw [6, 8] (fun nv iv wr => ∃ i n : Nat, nv = .int .i64 n ∧ iv = .int .i64 i ∧ i ≤ (walkG g).al.length ∧ n = m0 + cntN g.ns kk ((walkG g).al.take i) ∧ n ≤ 1500 + 1500 * i ∧ FKN w K wr) (fun _ iv _ => (walkG g).al.length - (intOf iv).toNat)
      case atStart => exact ⟨0, n, rfl, rfl, by omega, by rw [Hn0.out]; simp [cntN], by omega, HF.out⟩
      case round =>
        clear HF
        obtain ⟨i, n, rfl, rfl, hi, hn, hnb, hF⟩ := hrel
        have Hn := Lib.hid hn
        clear hn
        by_cases hlt : i < (walkG g).al.length
        · have hFd := hF.grow (below_drew wr)
          obtain ⟨b0, rfl, hz0⟩ := HRl.out.at_ hFd.1 (fun x hx => HRm.out x hx) (icI_get _ i hlt)
          have hzz := HOk.out.lt ((walkG g).al.getD i 0) (getD_mem 0 hlt)
          have hnx := cntN_next (ns := g.ns) kk hlt
          generalize (walkG g).al.getD i 0 = z at *
          obtain ⟨q, rfl⟩ : ∃ q : Nat, z = q := ⟨z.toNat, by omega⟩
          have hqN : q < g.ns.length := by omega
          obtain ⟨bn, on, ap, af, aw, cp, cf, cw, rfl, hx0, n0, n1, n2⟩ := (HG.out.nodes.below hFd.below).at_ hqN
          have hps : psAt g.ns (q : Int) = (g.ns.getD q default).ps := by unfold psAt; rw [Int.toNat_natCast]
          have hpl := (Hfew.out.each _ (getD_mem default hqN)).1
          rw [hps] at hnx
          generalize g.ns.getD q default = xx at *
          obtain ⟨ps, fs, ws⟩ := xx
          simp only at n0 n1 n2 hx0 hnx hpl
          obtain ⟨e0, e1⟩ := Hcs.out _ _ Hgm.out hFd.1
          have HF := Lib.hid hFd
          have Hnx := Lib.hid hnx
          have HX := Lib.hid (show IntRow .i64 wr.drew ap ps from hx0.ps)
          have k1 : (i : Int) < (walkG g).al.length := by omega
          have k2 : (0 : Int) ≤ i := by omega
          have k3 : ((i : Int)).toNat = i := by omega
          have q1 : (q : Int) < g.ns.length := by omega
          have q2 : (0 : Int) ≤ q := by omega
          have q3 : ((q : Int)).toNat = q := by omega
          have p1 : (ps.length : Int) ≤ 1500 := by omega
          have HS := Lib.hid (fun W (hW : Below wr.drew.heap.size wr.drew W) => (show W.cell? ⟨gb, 1, none⟩ = some (.slice (some ⟨bn, on, none⟩) g.ns.length cn) ∧ W.cell? ⟨b0, i, none⟩ = some (.int .i64 (q : Int)) ∧ W.cell? ⟨bn, on + q * 3, none⟩ = some (.slice ap ps.length cp) ∧ W.cell? ⟨bn, on + q * 3 + 1, none⟩ = some (.slice af fs.length cf) ∧ W.cell? ⟨bn, on + q * 3 + 2, none⟩ = some (.slice aw ws.length cw) from
            ⟨cellB hW (Nat.le_refl _) e1, cellB hW (Nat.le_refl _) hz0, cellB hW (Nat.le_refl _) n0, cellB hW (Nat.le_refl _) n1, cellB hW (Nat.le_refl _) n2⟩))
          clear hF hFd hx0 hnx hps hzz e0 e1 hz0 n0 n1 n2
          go_wp2_with (fail)
          refine wp_region_heldL (S := fun W => W.cell? ⟨gb, 1, none⟩ = some (.slice (some ⟨bn, on, none⟩) g.ns.length cn) ∧ W.cell? ⟨b0, i, none⟩ = some (.int .i64 (q : Int)) ∧ W.cell? ⟨bn, on + q * 3, none⟩ = some (.slice ap ps.length cp) ∧ W.cell? ⟨bn, on + q * 3 + 1, none⟩ = some (.slice af fs.length cf) ∧ W.cell? ⟨bn, on + q * 3 + 2, none⟩ = some (.slice aw ws.length cw)) (by kernel_rfl) (HS.out _ (Below.refl _ _)) (fun hHeld => ?_)
          generalize wr.drew = V at *
          refine wpAnyL_take (i := 0) (v := ?_) rfl (by kernel_rfl) (by kernel_rfl) (by kernel_rfl) (by kernel_rfl) (fun _ _ _ h => h) (Or.inl ⟨by kernel_rfl, ?_⟩) (by assumption) ?_
          rotate_left
          · (intro w hSw; (try dsimp only at hSw); go_simp; try with_reducible rfl)
          simp only [Act.put, List.setIfInBounds_toArray, List.set_cons_zero, List.set_cons_succ]
          refine wpAnyL_take (i := 1) (v := ?_) rfl (by kernel_rfl) (by kernel_rfl) (by kernel_rfl) (by kernel_rfl) (fun _ _ _ h => h) (Or.inl ⟨by kernel_rfl, ?_⟩) (by assumption) ?_
          rotate_left
          · (intro w hSw; (try dsimp only at hSw); go_simp; try with_reducible rfl)
          simp only [Act.put, List.setIfInBounds_toArray, List.set_cons_zero, List.set_cons_succ]
          refine wpAnyL_take (i := 2) (v := ?_) rfl (by kernel_rfl) (by kernel_rfl) (by kernel_rfl) (by kernel_rfl) (fun _ _ _ h => h) (Or.inl ⟨by kernel_rfl, ?_⟩) (by assumption) ?_
          rotate_left
          · (intro w hSw; (try dsimp only at hSw); go_simp; try with_reducible rfl)
          simp only [Act.put, List.setIfInBounds_toArray, List.set_cons_zero, List.set_cons_succ]
          refine wpAnyL_take (i := 3) (v := ?_) rfl (by kernel_rfl) (by kernel_rfl) (by kernel_rfl) (by kernel_rfl) (fun _ _ _ h => h) (Or.inl ⟨by kernel_rfl, ?_⟩) (by assumption) ?_
          rotate_left
          · (intro w hSw; (try dsimp only at hSw); go_simp; try with_reducible rfl)
          simp only [Act.put, List.setIfInBounds_toArray, List.set_cons_zero, List.set_cons_succ]
          refine wpAnyL_take (i := 4) (v := ?_) rfl (by kernel_rfl) (by kernel_rfl) (by kernel_rfl) (by kernel_rfl) (fun _ _ _ h => h) (Or.inl ⟨by kernel_rfl, ?_⟩) (by assumption) ?_
          rotate_left
          · (intro w hSw; (try dsimp only at hSw); go_simp; try with_reducible rfl)
          simp only [Act.put, List.setIfInBounds_toArray, List.set_cons_zero, List.set_cons_succ]
          refine wpAnyL_take (i := 5) (v := ?_) rfl (by kernel_rfl) (by kernel_rfl) (by kernel_rfl) (by kernel_rfl) (fun _ _ _ h => h) (Or.inl ⟨by kernel_rfl, ?_⟩) (by assumption) ?_
          rotate_left
          · (intro w hSw; (try dsimp only at hSw); go_simp; try with_reducible rfl)
          simp only [Act.put, List.setIfInBounds_toArray, List.set_cons_zero, List.set_cons_succ]
          refine wpAnyL_take (i := 6) (v := ?_) rfl (by kernel_rfl) (by kernel_rfl) (by kernel_rfl) (by kernel_rfl) (fun _ _ _ h => h) (Or.inl ⟨by kernel_rfl, ?_⟩) (by assumption) ?_
          rotate_left
          · (intro w hSw; (try dsimp only at hSw); go_simp; try with_reducible rfl)
          simp only [Act.put, List.setIfInBounds_toArray, List.set_cons_zero, List.set_cons_succ]
          refine wpAnyL_take (i := 7) (v := ?_) rfl (by kernel_rfl) (by kernel_rfl) (by kernel_rfl) (by kernel_rfl) (fun _ _ _ h => h) (Or.inl ⟨by kernel_rfl, ?_⟩) (by assumption) ?_
          rotate_left
          · (intro w hSw; (try dsimp only at hSw); go_simp; try with_reducible rfl)
          simp only [Act.put, List.setIfInBounds_toArray, List.set_cons_zero, List.set_cons_succ]
          refine wpAnyL_one (i := 8) (by decide +kernel) rfl (fun K hK => ?_)
          go_simp
          refine hK.out _ _ (HS.out _ (below_new _ _)) (fun hHeld => ?_)
          clear hK K
          try simp only [Act.put, List.setIfInBounds_toArray, List.set_cons_zero, List.set_cons_succ]
          refine wpAnyL_last (i := 9) (by kernel_rfl) rfl (by kernel_rfl) (by kernel_rfl) (fun K hK => ?_)
          go_simp
          refine hK.out _ _ ?_
          clear hK K
          try simp only [Act.put, List.setIfInBounds_toArray, List.set_cons_zero, List.set_cons_succ]
          have hB := HF.out.box #[.slice ap ps.length cp, .slice af fs.length cf, .slice aw ws.length cw] 47
          have hx4 := HX.out.below (below_new V (.cells #[.slice ap ps.length cp, .slice af fs.length cf, .slice aw ws.length cw] 47))
          obtain ⟨bx, hbx⟩ : ∃ bx, V.heap.size = bx := ⟨_, rfl⟩
          simp only [hbx] at hB ⊢
          have HB := Lib.hid hB
          have HX4 := Lib.hid hx4
          clear hHeld HS hB hx4 HF HX hbx
          generalize V.alloc (.cells #[.slice ap ps.length cp, .slice af fs.length cf, .slice aw ws.length cw] 47) = V2 at *
          go_wp2_with (fail)
          have Hbl := Lib.hid (Below.refl V2.heap.size V2)
          go_loopw [6, 10] (fun nv jv wr => ∃ j m : Nat, nv = .int .i64 m ∧ jv = .int .i64 j ∧ j ≤ ps.length ∧ m = n + (ps.take j).count kk ∧ Below V2.heap.size V2 wr) (fun _ jv _ => ps.length - (intOf jv).toNat)
          case atStart => exact ⟨0, n, rfl, rfl, by omega, by simp, Hbl.out⟩
          case round =>
            clear Hbl
            obtain ⟨j, m, rfl, rfl, hj, hm, hbj⟩ := hrel
            have hmb := count_le ps kk j
            have hF4 := HB.out.grow hbj
            have hqx := hF4.1.block (List.mem_cons_self ..)
            have x0 := at_cell hqx 0 _ rfl
            by_cases hltj : j < ps.length
            · obtain ⟨b2, o2, ha, hc⟩ := (HX4.out.below hbj).cell
              obtain rfl : ap = some ⟨b2, o2, none⟩ := by
                rcases ha with e | e
                · rw [e] at hltj; cases hltj
                · exact e
              have q0 := hc j hltj
              have hnj := count_next kk hltj
              generalize ps.getD j 0 = z at *
              have j1 : (j : Int) < ps.length := by omega
              have j2 : (0 : Int) ≤ j := by omega
              have j3 : ((j : Int)).toNat = j := by omega
              have y1 : (m : Int) ≤ 200000 := by omega
              have HBJ := Lib.hid hbj
              have Hm := Lib.hid hm
              clear hF4 hc ha hqx hbj hm
              by_cases e : z = kk
              · rw [if_pos e] at hnj
                have d1 : (z == kk) = true := by simp [e]
                have Hnj := Lib.hid hnj
                clear e hnj
                go_wp2_with (fail)
                go_roundw
                case rel => exact ⟨j + 1, m + 1, by go_num, by go_num, by omega, by have h1 := Hnj.out; have h2 := Hm.out; omega, HBJ.out⟩
                case measure => simp [intOf]; omega
              · rw [if_neg e] at hnj
                have d1 : (z == kk) = false := by rw [beq_eq_false_iff_ne]; exact e
                have Hnj := Lib.hid hnj
                clear e hnj
                go_wp2_with (fail)
                go_roundw
                case rel => exact ⟨j + 1, m, rfl, by go_num, by omega, by have h1 := Hnj.out; have h2 := Hm.out; omega, HBJ.out⟩
                case measure => simp [intOf]; omega
            · obtain rfl : j = ps.length := by omega
              have j1 : ¬ (ps.length : Int) < ps.length := by omega
              rw [List.take_length] at hm
              have HF4 := Lib.hid hF4.tail
              have Hm := Lib.hid hm
              have hcl : ps.count kk ≤ ps.length := List.count_le_length
              have hmm : m ≤ 1500 + 1500 * (i + 1) := by omega
              clear hF4 hqx hbj hm
              go_wp2_with (fail)
              go_roundw
              case rel => exact ⟨i + 1, m, rfl, by go_num, by omega, by have h1 := Hnx.out; have h2 := Hn.out; have h3 := Hm.out; omega, hmm, HF4.out⟩
              case measure => simp [intOf]; omega
        · obtain rfl : i = (walkG g).al.length := by omega
          have k1 : ¬ ((walkG g).al.length : Int) < (walkG g).al.length := by omega
          have HF := Lib.hid hF
          clear hF
          go_wp2_with (fail)
          go_ret
          subst hgb
          refine ⟨?_, HF.out.below⟩
          have h2 := Hn.out
          rw [List.take_length, ← Hm0.out] at h2
          rw [h2]
          rfl
end Go.Proofs.Ytplkogjnmjjjgaa
