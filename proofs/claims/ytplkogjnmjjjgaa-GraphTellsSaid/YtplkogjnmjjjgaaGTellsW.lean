/- The walk of GraphTells. -/
import Derived.Test.YtplkogjnmjjjgaaGTells
namespace Go.Proofs.Ytplkogjnmjjjgaa
open Go.ChangeShapes Go.WideShapes Go.ChangeAt Go.RowKit Go.Maps
set_option linter.unusedVariables false
set_option linter.unusedSimpArgs false

set_option maxRecDepth 100000 in
set_option maxHeartbeats 4000000 in
theorem gtells_far {w : World} {ar an : Option Addr} {g : Gr} (cr cn : Nat) (k : Int) (hG : GRd w ar an g) (hs : SmG g) (hf : farG g = true) :
    Calls Try.prog 3 #[.agg #[.slice ar g.rs.length cr, .slice an g.ns.length cn], .int .i64 k] w fun e w' => e = .returned (.bool true) ∧ Below w.heap.size w w' := by
  have h1 := (FKN.refl w).box #[.slice ar g.rs.length cr, .slice an g.ns.length cn] 25
  have hq := h1.1.block (List.mem_cons_self ..)
  have c0 := at_cell hq 0 _ rfl
  have c1 := at_cell hq 1 _ rfl
  have HF := Lib.hid (far_any cr cn (hG.below h1.below) hs)
  rw [hf] at HF
  have HL := Lib.hid lives_any
  have H1 := Lib.hid h1
  clear h1 hq hG hs hf
  go_enter Try.func3, Try.ntmps3
  go_wp2_with (first
    | (go_at_call 10; refine HF.out.mono ?_; rintro e w2 ⟨rfl, hb⟩; have H3 := Lib.hid (H1.out.grow hb); clear hb)
    | (go_at_call 11; refine (HL.out _).mono ?_; rintro e w3 ⟨rfl, hb⟩; have H4 := Lib.hid (H3.out.grow hb); clear hb))
  go_ret
  exact ⟨rfl, H4.out.below⟩
set_option maxRecDepth 100000 in
set_option maxHeartbeats 4000000 in
theorem gtells_bad {w : World} {ar an : Option Addr} {g : Gr} (cr cn : Nat) (k : Int) (hG : GRd w ar an g) (hs : SmG g) (hf : farG g = false) (hm : mayG g = false) :
    Calls Try.prog 3 #[.agg #[.slice ar g.rs.length cr, .slice an g.ns.length cn], .int .i64 k] w fun e w' => e = .returned (.bool true) ∧ Below w.heap.size w w' := by
  have h1 := (FKN.refl w).box #[.slice ar g.rs.length cr, .slice an g.ns.length cn] 25
  obtain ⟨gb, hgb⟩ : ∃ gb, w.heap.size = gb := ⟨_, rfl⟩
  simp only [hgb] at h1
  have hq := h1.1.block (List.mem_cons_self ..)
  have c0 := at_cell hq 0 _ rfl
  have c1 := at_cell hq 1 _ rfl
  have HF := Lib.hid (far_any cr cn (hG.below h1.below) hs)
  rw [hf] at HF
  have HL := Lib.hid lives_any
  have H1 := Lib.hid h1
  have HRE := Lib.hid (fun W (h : Below w.heap.size w W) => reach_bad cr cn (hG.below h) hm)
  have HTR := Lib.hid (fun W (h : Below w.heap.size w W) => trim_bad cr cn (hG.below h) hm)
  have HWO := Lib.hid (fun W (h : Below w.heap.size w W) => words_bad cr cn (hG.below h) hm)
  have HPA := Lib.hid (fun W (h : Below w.heap.size w W) => path_bad cr cn k (hG.below h) hm)
  have HPT := Lib.hid (fun W (h : Below w.heap.size w W) => ptd_bad cr cn (hG.below h) hm)
  have HMA := Lib.hid (fun W (h : Below w.heap.size w W) => refMay_any cr cn (hG.below h))
  have HCH := Lib.hid (fun W (h : Below w.heap.size w W) => check_graph g ar an cr cn W (hG.below h))
  rw [hm] at HMA HCH
  simp only [Bool.false_eq_true, if_false] at HCH
  have Hcs := Lib.hid (show ∀ K W, FKN w (K ++ [(gb, Obj.cells #[.slice ar g.rs.length cr, .slice an g.ns.length cn] 25 (0, 0))]) W → W.cell? ⟨gb, 0, none⟩ = some (.slice ar g.rs.length cr) ∧ W.cell? ⟨gb, 1, none⟩ = some (.slice an g.ns.length cn) from fun K W hW =>
    ⟨at_cell (hW.1.block (List.mem_append_right _ (List.mem_cons_self ..))) 0 _ rfl, at_cell (hW.1.block (List.mem_append_right _ (List.mem_cons_self ..))) 1 _ rfl⟩)
  clear h1 hq hG hs hf hm
  go_enter Try.func3, Try.ntmps3
  go_wp2_with (first
    | (go_at_call 10; refine HF.out.mono ?_; rintro e w2 ⟨rfl, hb⟩; have H2 := Lib.hid (H1.out.grow hb); obtain ⟨c20, c21⟩ := Hcs.out [] _ H2.out; clear hb)
    | (go_at_call 12; refine (HRE.out _ H2.out.below).mono ?_; rintro e w3 ⟨rfl, hb⟩; have H3 := Lib.hid (H2.out.grow hb); obtain ⟨c30, c31⟩ := Hcs.out [] _ H3.out; clear hb)
    | (go_at_call 13; refine (HTR.out _ H3.out.below).mono ?_; rintro e w4 ⟨rfl, hb⟩; have H4 := Lib.hid ((H3.out.grow hb).box #[.slice none 0 0, .slice none 0 0] 25); obtain ⟨c40, c41⟩ := Hcs.out [_] _ H4.out; clear hb)
    | (go_at_call 14; refine (HWO.out _ H4.out.below).mono ?_; rintro e w5 ⟨rfl, hb⟩; have H5 := Lib.hid (H4.out.grow hb); obtain ⟨c50, c51⟩ := Hcs.out [_] _ H5.out; clear hb)
    | (go_at_call 15; refine (HPA.out _ H5.out.below).mono ?_; rintro e w6 ⟨rfl, hb⟩; have H6 := Lib.hid (H5.out.grow hb); obtain ⟨c60, c61⟩ := Hcs.out [_] _ H6.out; clear hb)
    | (go_at_call 16; refine (HPT.out _ H6.out.below).mono ?_; rintro e w7 ⟨rfl, hb⟩; have H7 := Lib.hid (H6.out.grow hb); obtain ⟨c70, c71⟩ := Hcs.out [_] _ H7.out; clear hb)
    | (go_at_call 17; refine (HMA.out _ H7.out.below).mono ?_; rintro e w8 ⟨rfl, hb⟩; have H8 := Lib.hid (H7.out.grow hb); obtain ⟨c80, c81⟩ := Hcs.out [_] _ H8.out; clear hb)
    | (go_at_call 18; refine (HCH.out _ H8.out.below).mono ?_; rintro e w9 ⟨rfl, hb⟩; have H9 := Lib.hid (H8.out.grow hb); obtain ⟨t0, t1⟩ := (show w9.cell? ⟨w4.heap.size, 0, none⟩ = some (.slice none 0 0) ∧ w9.cell? ⟨w4.heap.size, 1, none⟩ = some (.slice none 0 0) from ⟨at_cell (H9.out.1.block (List.mem_cons_self ..)) 0 _ rfl, at_cell (H9.out.1.block (List.mem_cons_self ..)) 1 _ rfl⟩); clear hb)
    | (go_at_call 11; refine (HL.out _).mono ?_; rintro e w10 ⟨rfl, hb⟩; have H10 := Lib.hid (H9.out.grow hb); clear hb))
  go_ret
  subst hgb
  exact ⟨rfl, H10.out.below⟩
set_option maxRecDepth 100000 in
set_option maxHeartbeats 6000000 in
theorem gtells_may {w : World} {ar an : Option Addr} {g : Gr} (cr cn : Nat) (k : Int) (hkI : IsI k) (hG : GRd w ar an g) (hs : SmG g) (hf : farG g = false) (hm : mayG g = true) :
    Calls Try.prog 3 #[.agg #[.slice ar g.rs.length cr, .slice an g.ns.length cn], .int .i64 k] w fun e w' => e = .returned (.bool true) ∧ Below w.heap.size w w' := by
  have few := (near_of hf).few
  have h1 := (FKN.refl w).box #[.slice ar g.rs.length cr, .slice an g.ns.length cn] 25
  obtain ⟨gb, hgb⟩ : ∃ gb, w.heap.size = gb := ⟨_, rfl⟩
  simp only [hgb] at h1
  have hq := h1.1.block (List.mem_cons_self ..)
  have c0 := at_cell hq 0 _ rfl
  have c1 := at_cell hq 1 _ rfl
  have HF := Lib.hid (far_any cr cn (hG.below h1.below) hs)
  rw [hf] at HF
  have HL := Lib.hid lives_any
  have HRE := Lib.hid (fun W (h : Below w.heap.size w W) => reach_any cr cn (hG.below h) few hm)
  have HTR := Lib.hid (fun W (h : Below w.heap.size w W) => trim_any cr cn (hG.below h) few hm)
  have HWO := Lib.hid (fun W (h : Below w.heap.size w W) => words_any cr cn (hG.below h) few hm)
  have HPA := Lib.hid (fun W (h : Below w.heap.size w W) => path_any cr cn k hkI (hG.below h) few hm)
  have HPT := Lib.hid (fun W (h : Below w.heap.size w W) => ptd_any cr cn (hG.below h) few hm)
  have HMA := Lib.hid (fun W (h : Below w.heap.size w W) => refMay_any cr cn (hG.below h))
  have HCH := Lib.hid (fun W (h : Below w.heap.size w W) => check_graph g ar an cr cn W (hG.below h))
  have HRP := Lib.hid (fun W (h : Below w.heap.size w W) => refPath_any cr cn k hkI (hG.below h) few hm)
  have HRT := Lib.hid (fun W (i : Nat) (h : Below w.heap.size w W) => refPtd_any cr cn (i : Int) (hG.below h) few hm)
  have HRR := Lib.hid (fun W (h : Below w.heap.size w W) => refReach_any cr cn (hG.below h) few hm)
  have HRW := Lib.hid (fun W (h : Below w.heap.size w W) => refWords_any cr cn (hG.below h) few hm)
  have HRM := Lib.hid (fun W (h : Below w.heap.size w W) => refTrim_any cr cn (hG.below h) few hm)
  rw [hm] at HMA HCH
  simp only [if_true] at HCH
  have hns := few.ns
  have hal := (walkG_ok hm).len
  have Lal : ((walkG g).al.length : Int) ≤ 100 := by omega
  have Lns : (g.ns.length : Int) ≤ 100 := by omega
  have Hfs := Lib.hid (show ∀ j, ((trimG g).ns.getD j default).fs.length ≤ 1500 from fun j => by
    by_cases hj : j < (trimG g).ns.length
    · exact ((trimG_few hm few).each _ (getD_mem default hj)).2.1
    · rw [List.getD_eq_getElem?_getD, List.getElem?_eq_none (by omega)]
      exact Nat.zero_le _)
  have HO := Lib.hid (hG.ok.trim (show (walkG g).al.length ≤ 1000 by omega))
  have HOA := Lib.hid (al_okI few hm)
  have HOP := Lib.hid (pathG_okI few hm k)
  have Hal := Lib.hid (show (walkG g).al.length ≤ 100 by omega)
  have Hns := Lib.hid hns
  have HSG := Lib.hid (fun W a b c d a' b' c' d' (h : GRd W a b (trimG g)) (h' : GRd W a' b' (trimG g)) => sameGraph_any c d c' d' h h')
  rw [sameG_self, trimG_rlen, trimG_nlen] at HSG
  have Hnl := Lib.hid (trimG_nlen g)
  have Hg := Lib.hid (show ∀ K W, (gb, Obj.cells #[.slice ar g.rs.length cr, .slice an g.ns.length cn] 25 (0, 0)) ∈ K → FKN w K W → W.cell? ⟨gb, 0, none⟩ = some (.slice ar g.rs.length cr) ∧ W.cell? ⟨gb, 1, none⟩ = some (.slice an g.ns.length cn) from fun K W hm hW =>
    ⟨at_cell (hW.1.block hm) 0 _ rfl, at_cell (hW.1.block hm) 1 _ rfl⟩)
  obtain ⟨E0, hE0⟩ : ∃ E0, [(gb, Obj.cells #[.slice ar g.rs.length cr, .slice an g.ns.length cn] 25 (0, 0))] = E0 := ⟨_, rfl⟩
  have HgE := Lib.hid (show (gb, Obj.cells #[.slice ar g.rs.length cr, .slice an g.ns.length cn] 25 (0, 0)) ∈ E0 by rw [← hE0]; exact List.mem_cons_self ..)
  rw [hE0] at h1
  have H1 := Lib.hid h1
  clear h1 hq hG hs hf hm few hE0 hns hal
  obtain ⟨al, hal⟩ : ∃ al, (walkG g).al = al := ⟨_, rfl⟩
  obtain ⟨pa, hpa⟩ : ∃ pa, pathG g k = pa := ⟨_, rfl⟩
  obtain ⟨nw, hnw⟩ : ∃ nw, wordsG g = nw := ⟨_, rfl⟩
  simp only [hal, hpa, hnw] at Hnl Lal HO HOA HOP Hal HSG HRE HTR HWO HPA HPT HRP HRR HRW HRM
  have HAL := Lib.hid hal
  clear hal hpa hnw
  by_cases hkm : k ∈ al
  all_goals
    first
      | simp only [if_pos hkm, decide_eq_true hkm] at HPA HRP
      | simp only [if_neg hkm, decide_eq_false hkm] at HPA HRP
    clear hkm
    go_enter Try.func3, Try.ntmps3
    go_wp2_with (first
      | (go_at_call 10; refine HF.out.mono ?_; rintro e w2 ⟨rfl, hb⟩; have H2 := Lib.hid (H1.out.grow hb); obtain ⟨c20, c21⟩ := Hg.out _ _ HgE.out H2.out; clear hb)
      | (go_at_call 12; refine (HRE.out _ H2.out.below).mono ?_; rintro e w3 ⟨la, lc, rfl, R1, hr1, hF⟩; have HR1 := Lib.hid (hr1.mono H2.out.below.size); have H3 := Lib.hid (H2.out.join hF); obtain ⟨c30, c31⟩ := Hg.out _ _ (List.mem_append_right _ HgE.out) H3.out; clear hr1 hF)
      | (go_at_call 13; refine (HTR.out _ H3.out.below).mono ?_; rintro e w4 ⟨ta, tn, tc, td, rfl, B, ⟨Tr, Tn, xs, Tx, hTr, hTn, hTx, rfl⟩, hF⟩; have HTr := Lib.hid (hTr.mono H3.out.below.size); have HTn := Lib.hid (hTn.mono H3.out.below.size); have HTx := Lib.hid (hTx.mono H3.out.below.size); have H4 := Lib.hid ((H3.out.join hF).box #[.slice ta g.rs.length tc, .slice tn al.length td] 25); obtain ⟨c40, c41⟩ := Hg.out _ _ (List.mem_cons_of_mem _ (List.mem_append_right _ (List.mem_append_right _ HgE.out))) H4.out; clear hTr hTn hTx hF)
      | (go_at_call 14; refine (HWO.out _ H4.out.below).mono ?_; rintro e w5 ⟨rfl, hb⟩; have H5 := Lib.hid (H4.out.grow hb); obtain ⟨c50, c51⟩ := Hg.out _ _ (List.mem_cons_of_mem _ (List.mem_append_right _ (List.mem_append_right _ HgE.out))) H5.out; clear hb)
      | (go_at_call 15; refine (HPA.out _ H5.out.below).mono ?_; rintro e w6 ⟨pla, plc, rfl, R2, hr2, hF⟩; have HR2 := Lib.hid (hr2.mono H5.out.below.size); have H6 := Lib.hid (H5.out.join hF); obtain ⟨c60, c61⟩ := Hg.out _ _ (List.mem_append_right _ (List.mem_cons_of_mem _ (List.mem_append_right _ (List.mem_append_right _ HgE.out)))) H6.out; clear hr2 hF)
      | (go_at_call 16; refine (HPT.out _ H6.out.below).mono ?_; rintro e w7 ⟨bR, rfl, hF⟩; have H7 := Lib.hid (H6.out.join hF); obtain ⟨c70, c71⟩ := Hg.out _ _ (List.mem_cons_of_mem _ (List.mem_append_right _ (List.mem_cons_of_mem _ (List.mem_append_right _ (List.mem_append_right _ HgE.out))))) H7.out; clear hF)
      | (go_at_call 17; refine (HMA.out _ H7.out.below).mono ?_; rintro e w8 ⟨rfl, hb⟩; have H8 := Lib.hid (H7.out.grow hb); obtain ⟨c80, c81⟩ := Hg.out _ _ (List.mem_cons_of_mem _ (List.mem_append_right _ (List.mem_cons_of_mem _ (List.mem_append_right _ (List.mem_append_right _ HgE.out))))) H8.out; clear hb)
      | (go_at_call 19; refine (HRP.out _ H8.out.below).mono ?_; rintro e w9 ⟨qla, qlc, rfl, R3, hr3, hF⟩; have HR3 := Lib.hid (hr3.mono H8.out.below.size); have H9 := Lib.hid (H8.out.join hF); obtain ⟨c90, c91⟩ := Hg.out _ _ (List.mem_append_right _ (List.mem_cons_of_mem _ (List.mem_append_right _ (List.mem_cons_of_mem _ (List.mem_append_right _ (List.mem_append_right _ HgE.out)))))) H9.out; clear hr3 hF)
      | (go_at_call 20; refine (same17_any plc qlc (HR2.out.introw H9.out.1 (by intro x hx; simp [hx]) HOP.out) (HR3.out.introw H9.out.1 (by intro x hx; simp [hx]) HOP.out)).mono ?_; rw [decide_eq_true rfl]; rintro e w10 ⟨rfl, hb⟩; have H10 := Lib.hid (H9.out.grow hb); obtain ⟨c100, c101⟩ := Hg.out _ _ (List.mem_append_right _ (List.mem_cons_of_mem _ (List.mem_append_right _ (List.mem_cons_of_mem _ (List.mem_append_right _ (List.mem_append_right _ HgE.out)))))) H10.out; clear hb))
    clear c20 c21 c30 c31 c40 c41 c50 c51 c60 c61 c70 c71 c80 c81 c90 c91 H1 H2 H3 H4 H5 H6 H7 H8 H9 HF HMA HRE HWO HPA HPT HRP HR2 HR3 HOP
    obtain ⟨tb, htb⟩ : ∃ tb, w4.heap.size = tb := ⟨_, rfl⟩
    simp only [htb] at H10 ⊢
    clear htb
    obtain ⟨Kr, hKr⟩ : ∃ Kr, R3 ++ ([(bR, rowC (ptdL g al.length))] ++ (R2 ++ (R1 ++ E0))) = Kr := ⟨_, rfl⟩
    have H11 := Lib.hid (H10.out.perm (K' := (tb, Obj.cells #[.slice ta g.rs.length tc, .slice tn al.length td] 25 (0, 0)) :: ((Tr ++ (Tn ++ Tx)) ++ Kr)) (by rw [← hKr]; exact (permC fun x => by simp only [List.count_append, List.count_cons, List.append_assoc, List.cons_append]; ac_rfl)))
    have HgK := Lib.hid (show (gb, Obj.cells #[.slice ar g.rs.length cr, .slice an g.ns.length cn] 25 (0, 0)) ∈ Kr by rw [← hKr]; have := HgE.out; simp [this])
    have HbK := Lib.hid (show (bR, rowC (ptdL g al.length)) ∈ Kr by rw [← hKr]; simp)
    have HRK := Lib.hid (show ∀ x ∈ R1, x ∈ Kr by intro x hx; rw [← hKr]; simp [hx])
    clear H10 hKr
    go_loopw [139] (fun iv wr => ∃ i : Nat, iv = .int .i64 i ∧ i ≤ g.ns.length ∧ FKN w ((tb, Obj.cells #[.slice ta g.rs.length tc, .slice tn al.length td] 25 (0, 0)) :: ((Tr ++ (Tn ++ Tx)) ++ Kr)) wr) (fun iv _ => g.ns.length - (intOf iv).toNat)
    case atStart => exact ⟨0, rfl, by omega, H11.out⟩
    case round =>
      clear H11 c100 c101
      obtain ⟨i, rfl, hi, hF⟩ := hrel
      by_cases hlt : i < g.ns.length
      · have hF1 := hF.grow (below_drew wr)
        have HS := Lib.hid (fun W (hW : FKN w ((tb, Obj.cells #[.slice ta g.rs.length tc, .slice tn al.length td] 25 (0, 0)) :: ((Tr ++ (Tn ++ Tx)) ++ Kr)) W) => (show (W.cell? ⟨gb, 0, none⟩ = some (.slice ar g.rs.length cr) ∧ W.cell? ⟨gb, 1, none⟩ = some (.slice an g.ns.length cn)) ∧ W.cell? ⟨bR, i, none⟩ = some (.int .i64 (ptdG g (i : Int) : Int)) from
          ⟨Hg.out _ _ (List.mem_cons_of_mem _ (List.mem_append_right _ HgK.out)) hW, at_cell (hW.1.block (List.mem_cons_of_mem _ (List.mem_append_right _ HbK.out))) i _ (by
            have h := icI_get (ptdL g al.length) i (by rw [ptdL_len]; exact hlt)
            rw [show (ptdL g al.length).getD i 0 = (ptdG g (i : Int) : Int) by rw [← HAL.out]; exact ptd_at hlt] at h
            simpa using h)⟩))
        have HF1 := Lib.hid hF1
        have k1 : (i : Int) < g.ns.length := by omega
        have k2 : (0 : Int) ≤ i := by omega
        have k3 : ((i : Int)).toNat = i := by omega
        obtain ⟨m, hm⟩ : ∃ m, ptdG g (i : Int) = m := ⟨_, rfl⟩
        rw [hm] at HS
        have Hm := Lib.hid hm
        clear hF hF1 hm
        go_wp2_with (fail)
        refine wp_region_heldL (S := fun W => (W.cell? ⟨gb, 0, none⟩ = some (.slice ar g.rs.length cr) ∧ W.cell? ⟨gb, 1, none⟩ = some (.slice an g.ns.length cn)) ∧ W.cell? ⟨bR, i, none⟩ = some (.int .i64 (m : Int))) (by kernel_rfl) (HS.out _ HF1.out) (fun hHeld => ?_)
        generalize wr.drew = V at *
        refine wpAnyL_take (i := 0) (v := ?_) rfl (by kernel_rfl) (by kernel_rfl) (by kernel_rfl) (by kernel_rfl) (fun _ _ _ h => h) (Or.inl ⟨by kernel_rfl, ?_⟩) (by assumption) ?_
        rotate_left
        · (intro w hSw; (try dsimp only at hSw); go_simp; try with_reducible rfl)
        simp only [Act.put, List.setIfInBounds_toArray, List.set_cons_zero, List.set_cons_succ]
        refine wpAnyL_take (i := 1) (v := ?_) rfl (by kernel_rfl) (by kernel_rfl) (by kernel_rfl) (by kernel_rfl) (fun _ _ _ h => h) (Or.inl ⟨by kernel_rfl, ?_⟩) (by assumption) ?_
        rotate_left
        · (intro w hSw; (try dsimp only at hSw); go_simp; try with_reducible rfl)
        simp only [Act.put, List.setIfInBounds_toArray, List.set_cons_zero, List.set_cons_succ]
        refine wpAnyL_take (i := 2) (v := ?_) rfl (by kernel_rfl) (by kernel_rfl) (by kernel_rfl) (by kernel_rfl) (fun _ _ _ h => h) (Or.inl ⟨by kernel_rfl, ?_⟩) (by assumption) ?_
        rotate_left
        · (intro w hSw; (try dsimp only at hSw); go_simp; try with_reducible rfl)
        simp only [Act.put, List.setIfInBounds_toArray, List.set_cons_zero, List.set_cons_succ]
        refine wpAnyL_take (i := 3) (v := ?_) rfl (by kernel_rfl) (by kernel_rfl) (by kernel_rfl) (by kernel_rfl) (fun _ _ _ h => h) (Or.inl ⟨by kernel_rfl, ?_⟩) (by assumption) ?_
        rotate_left
        · (intro w hSw; (try dsimp only at hSw); go_simp; try with_reducible rfl)
        simp only [Act.put, List.setIfInBounds_toArray, List.set_cons_zero, List.set_cons_succ]
        refine wpAnyL_take (i := 4) (v := ?_) rfl (by kernel_rfl) (by kernel_rfl) (by kernel_rfl) (by kernel_rfl) (fun _ _ _ h => h) (Or.inl ⟨by kernel_rfl, ?_⟩) (by assumption) ?_
        rotate_left
        · (intro w hSw; (try dsimp only at hSw); go_simp; try with_reducible rfl)
        simp only [Act.put, List.setIfInBounds_toArray, List.set_cons_zero, List.set_cons_succ]
        refine wpAnyL_take (i := 5) (v := ?_) rfl (by kernel_rfl) (by kernel_rfl) (by kernel_rfl) (by kernel_rfl) (fun _ _ _ h => h) (Or.inl ⟨by kernel_rfl, ?_⟩) (by assumption) ?_
        rotate_left
        · (intro w hSw; (try dsimp only at hSw); go_simp; try with_reducible rfl)
        simp only [Act.put, List.setIfInBounds_toArray, List.set_cons_zero, List.set_cons_succ]
        refine wpAnyL_one (i := 6) (by decide +kernel) rfl (fun K hK => ?_)
        go_simp
        go_at_call 21
        refine (HRT.out _ i HF1.out.below).mono ?_
        rw [Hm.out]
        rintro e V2 ⟨rfl, hb⟩
        have HF2 := Lib.hid (HF1.out.grow hb)
        clear hb
        refine hK.out _ _ (HS.out _ HF2.out) (fun hHeld => ?_)
        clear hK K
        try simp only [Act.put, List.setIfInBounds_toArray, List.set_cons_zero, List.set_cons_succ]
        refine wpAnyL_last (i := 7) (by kernel_rfl) rfl (by kernel_rfl) (by kernel_rfl) (fun K hK => ?_)
        go_simp
        refine hK.out _ _ ?_
        clear hK K
        try simp only [Act.put, List.setIfInBounds_toArray, List.set_cons_zero, List.set_cons_succ]
        go_wp2_with (fail)
        go_roundw
        case rel => exact ⟨i + 1, by go_num, by omega, HF2.out⟩
        case measure => simp [intOf]; omega
      · obtain rfl : i = g.ns.length := by omega
        have k1 : ¬ (g.ns.length : Int) < g.ns.length := by omega
        have HS := Lib.hid (fun W (hW : FKN w ((tb, Obj.cells #[.slice ta g.rs.length tc, .slice tn al.length td] 25 (0, 0)) :: ((Tr ++ (Tn ++ Tx)) ++ Kr)) W) => (show (W.cell? ⟨gb, 0, none⟩ = some (.slice ar g.rs.length cr) ∧ W.cell? ⟨gb, 1, none⟩ = some (.slice an g.ns.length cn)) ∧ (W.cell? ⟨tb, 0, none⟩ = some (.slice ta g.rs.length tc) ∧ W.cell? ⟨tb, 1, none⟩ = some (.slice tn al.length td)) from
          ⟨Hg.out _ _ (List.mem_cons_of_mem _ (List.mem_append_right _ HgK.out)) hW, at_cell (hW.1.block (List.mem_cons_self ..)) 0 _ rfl, at_cell (hW.1.block (List.mem_cons_self ..)) 1 _ rfl⟩))
        have H13 := Lib.hid (hF.grow (below_drew wr))
        clear hF
        go_wp2_with (fail)
        refine wp_region_heldL (S := fun W => (W.cell? ⟨gb, 0, none⟩ = some (.slice ar g.rs.length cr) ∧ W.cell? ⟨gb, 1, none⟩ = some (.slice an g.ns.length cn)) ∧ (W.cell? ⟨tb, 0, none⟩ = some (.slice ta g.rs.length tc) ∧ W.cell? ⟨tb, 1, none⟩ = some (.slice tn al.length td))) (by kernel_rfl) (HS.out _ H13.out) (fun hHeld => ?_)
        generalize wr.drew = V0 at *
        refine wpAnyL_take (i := 0) (v := ?_) rfl (by kernel_rfl) (by kernel_rfl) (by kernel_rfl) (by kernel_rfl) (fun _ _ _ h => h) (Or.inl ⟨by kernel_rfl, ?_⟩) (by assumption) ?_
        rotate_left
        · (intro w hSw; (try dsimp only at hSw); go_simp; try with_reducible rfl)
        simp only [Act.put, List.setIfInBounds_toArray, List.set_cons_zero, List.set_cons_succ]
        refine wpAnyL_one (i := 1) (by decide +kernel) rfl (fun K hK => ?_)
        go_simp
        go_at_call 18
        refine (HCH.out _ H13.out.below).mono ?_
        rintro e V1 ⟨rfl, hb⟩
        have H14 := Lib.hid (H13.out.grow hb)
        clear hb
        refine hK.out _ _ (HS.out _ H14.out) (fun hHeld => ?_)
        clear hK K
        try simp only [Act.put, List.setIfInBounds_toArray, List.set_cons_zero, List.set_cons_succ]
        refine wpAnyL_take (i := 2) (v := ?_) rfl (by kernel_rfl) (by kernel_rfl) (by kernel_rfl) (by kernel_rfl) (fun _ _ _ h => h) (Or.inl ⟨by kernel_rfl, ?_⟩) (by assumption) ?_
        rotate_left
        · (intro w hSw; (try dsimp only at hSw); go_simp; try with_reducible rfl)
        simp only [Act.put, List.setIfInBounds_toArray, List.set_cons_zero, List.set_cons_succ]
        refine wpAnyL_take (i := 3) (v := ?_) rfl (by kernel_rfl) (by kernel_rfl) (by kernel_rfl) (by kernel_rfl) (fun _ _ _ h => h) (Or.inl ⟨by kernel_rfl, ?_⟩) (by assumption) ?_
        rotate_left
        · (intro w hSw; (try dsimp only at hSw); go_simp; try with_reducible rfl)
        simp only [Act.put, List.setIfInBounds_toArray, List.set_cons_zero, List.set_cons_succ]
        refine wpAnyL_take (i := 4) (v := ?_) rfl (by kernel_rfl) (by kernel_rfl) (by kernel_rfl) (by kernel_rfl) (fun _ _ _ h => h) (Or.inl ⟨by kernel_rfl, ?_⟩) (by assumption) ?_
        rotate_left
        · (intro w hSw; (try dsimp only at hSw); go_simp; try with_reducible rfl)
        simp only [Act.put, List.setIfInBounds_toArray, List.set_cons_zero, List.set_cons_succ]
        refine wpAnyL_take (i := 5) (v := ?_) rfl (by kernel_rfl) (by kernel_rfl) (by kernel_rfl) (by kernel_rfl) (fun _ _ _ h => h) (Or.inl ⟨by kernel_rfl, ?_⟩) (by assumption) ?_
        rotate_left
        · (intro w hSw; (try dsimp only at hSw); go_simp; try with_reducible rfl)
        simp only [Act.put, List.setIfInBounds_toArray, List.set_cons_zero, List.set_cons_succ]
        refine wpAnyL_take (i := 6) (v := ?_) rfl (by kernel_rfl) (by kernel_rfl) (by kernel_rfl) (by kernel_rfl) (fun _ _ _ h => h) (Or.inl ⟨by kernel_rfl, ?_⟩) (by assumption) ?_
        rotate_left
        · (intro w hSw; (try dsimp only at hSw); go_simp; try with_reducible rfl)
        simp only [Act.put, List.setIfInBounds_toArray, List.set_cons_zero, List.set_cons_succ]
        refine wpAnyL_take (i := 7) (v := ?_) rfl (by kernel_rfl) (by kernel_rfl) (by kernel_rfl) (by kernel_rfl) (fun _ _ _ h => h) (Or.inl ⟨by kernel_rfl, ?_⟩) (by assumption) ?_
        rotate_left
        · (intro w hSw; (try dsimp only at hSw); go_simp; try with_reducible rfl)
        simp only [Act.put, List.setIfInBounds_toArray, List.set_cons_zero, List.set_cons_succ]
        refine wpAnyL_take (i := 8) (v := ?_) rfl (by kernel_rfl) (by kernel_rfl) (by kernel_rfl) (by kernel_rfl) (fun _ _ _ h => h) (Or.inl ⟨by kernel_rfl, ?_⟩) (by assumption) ?_
        rotate_left
        · (intro w hSw; (try dsimp only at hSw); go_simp; try with_reducible rfl)
        simp only [Act.put, List.setIfInBounds_toArray, List.set_cons_zero, List.set_cons_succ]
        refine wpAnyL_take (i := 9) (v := ?_) rfl (by kernel_rfl) (by kernel_rfl) (by kernel_rfl) (by kernel_rfl) (fun _ _ _ h => h) (Or.inl ⟨by kernel_rfl, ?_⟩) (by assumption) ?_
        rotate_left
        · (intro w hSw; (try dsimp only at hSw); go_simp; try with_reducible rfl)
        simp only [Act.put, List.setIfInBounds_toArray, List.set_cons_zero, List.set_cons_succ]
        refine wpAnyL_take (i := 10) (v := ?_) rfl (by kernel_rfl) (by kernel_rfl) (by kernel_rfl) (by kernel_rfl) (fun _ _ _ h => h) (Or.inl ⟨by kernel_rfl, ?_⟩) (by assumption) ?_
        rotate_left
        · (intro w hSw; (try dsimp only at hSw); go_simp; try with_reducible rfl)
        simp only [Act.put, List.setIfInBounds_toArray, List.set_cons_zero, List.set_cons_succ]
        refine wpAnyL_take (i := 11) (v := ?_) rfl (by kernel_rfl) (by kernel_rfl) (by kernel_rfl) (by kernel_rfl) (fun _ _ _ h => h) (Or.inl ⟨by kernel_rfl, ?_⟩) (by assumption) ?_
        rotate_left
        · (intro w hSw; (try dsimp only at hSw); go_simp; try with_reducible rfl)
        simp only [Act.put, List.setIfInBounds_toArray, List.set_cons_zero, List.set_cons_succ]
        refine wpAnyL_take (i := 12) (v := ?_) rfl (by kernel_rfl) (by kernel_rfl) (by kernel_rfl) (by kernel_rfl) (fun _ _ _ h => h) (Or.inl ⟨by kernel_rfl, ?_⟩) (by assumption) ?_
        rotate_left
        · (intro w hSw; (try dsimp only at hSw); go_simp; try with_reducible rfl)
        simp only [Act.put, List.setIfInBounds_toArray, List.set_cons_zero, List.set_cons_succ]
        refine wpAnyL_take (i := 13) (v := ?_) rfl (by kernel_rfl) (by kernel_rfl) (by kernel_rfl) (by kernel_rfl) (fun _ _ _ h => h) (Or.inl ⟨by kernel_rfl, ?_⟩) (by assumption) ?_
        rotate_left
        · (intro w hSw; (try dsimp only at hSw); go_simp; try with_reducible rfl)
        simp only [Act.put, List.setIfInBounds_toArray, List.set_cons_zero, List.set_cons_succ]
        refine wpAnyL_take (i := 14) (v := ?_) rfl (by kernel_rfl) (by kernel_rfl) (by kernel_rfl) (by kernel_rfl) (fun _ _ _ h => h) (Or.inl ⟨by kernel_rfl, ?_⟩) (by assumption) ?_
        rotate_left
        · (intro w hSw; (try dsimp only at hSw); go_simp; try with_reducible rfl)
        simp only [Act.put, List.setIfInBounds_toArray, List.set_cons_zero, List.set_cons_succ]
        refine wpAnyL_take (i := 15) (v := ?_) rfl (by kernel_rfl) (by kernel_rfl) (by kernel_rfl) (by kernel_rfl) (fun _ _ _ h => h) (Or.inl ⟨by kernel_rfl, ?_⟩) (by assumption) ?_
        rotate_left
        · (intro w hSw; (try dsimp only at hSw); go_simp; try with_reducible rfl)
        simp only [Act.put, List.setIfInBounds_toArray, List.set_cons_zero, List.set_cons_succ]
        refine wpAnyL_take (i := 16) (v := ?_) rfl (by kernel_rfl) (by kernel_rfl) (by kernel_rfl) (by kernel_rfl) (fun _ _ _ h => h) (Or.inl ⟨by kernel_rfl, ?_⟩) (by assumption) ?_
        rotate_left
        · (intro w hSw; (try dsimp only at hSw); go_simp; try with_reducible rfl)
        simp only [Act.put, List.setIfInBounds_toArray, List.set_cons_zero, List.set_cons_succ]
        refine wpAnyL_take (i := 17) (v := ?_) rfl (by kernel_rfl) (by kernel_rfl) (by kernel_rfl) (by kernel_rfl) (fun _ _ _ h => h) (Or.inl ⟨by kernel_rfl, ?_⟩) (by assumption) ?_
        rotate_left
        · (intro w hSw; (try dsimp only at hSw); go_simp; try with_reducible rfl)
        simp only [Act.put, List.setIfInBounds_toArray, List.set_cons_zero, List.set_cons_succ]
        refine wpAnyL_take (i := 18) (v := ?_) rfl (by kernel_rfl) (by kernel_rfl) (by kernel_rfl) (by kernel_rfl) (fun _ _ _ h => h) (Or.inl ⟨by kernel_rfl, ?_⟩) (by assumption) ?_
        rotate_left
        · (intro w hSw; (try dsimp only at hSw); go_simp; try with_reducible rfl)
        simp only [Act.put, List.setIfInBounds_toArray, List.set_cons_zero, List.set_cons_succ]
        refine wpAnyL_take (i := 19) (v := ?_) rfl (by kernel_rfl) (by kernel_rfl) (by kernel_rfl) (by kernel_rfl) (fun _ _ _ h => h) (Or.inl ⟨by kernel_rfl, ?_⟩) (by assumption) ?_
        rotate_left
        · (intro w hSw; (try dsimp only at hSw); go_simp; try with_reducible rfl)
        simp only [Act.put, List.setIfInBounds_toArray, List.set_cons_zero, List.set_cons_succ]
        refine wpAnyL_take (i := 20) (v := ?_) rfl (by kernel_rfl) (by kernel_rfl) (by kernel_rfl) (by kernel_rfl) (fun _ _ _ h => h) (Or.inl ⟨by kernel_rfl, ?_⟩) (by assumption) ?_
        rotate_left
        · (intro w hSw; (try dsimp only at hSw); go_simp; try with_reducible rfl)
        simp only [Act.put, List.setIfInBounds_toArray, List.set_cons_zero, List.set_cons_succ]
        refine wpAnyL_take (i := 21) (v := ?_) rfl (by kernel_rfl) (by kernel_rfl) (by kernel_rfl) (by kernel_rfl) (fun _ _ _ h => h) (Or.inl ⟨by kernel_rfl, ?_⟩) (by assumption) ?_
        rotate_left
        · (intro w hSw; (try dsimp only at hSw); go_simp; try with_reducible rfl)
        simp only [Act.put, List.setIfInBounds_toArray, List.set_cons_zero, List.set_cons_succ]
        refine wpAnyL_one (i := 22) (by decide +kernel) rfl (fun K hK => ?_)
        go_simp
        go_at_call 22
        refine (HRR.out _ H14.out.below).mono ?_
        rintro e V2 ⟨ra, rc, rfl, R4, hr4, hF⟩
        have H15 := Lib.hid (H14.out.grow hF.below)
        have HI4 := Lib.hid (hr4.introw (kd := .i64) hF.1 (fun x hx => hx) HOA.out)
        clear hF hr4
        refine hK.out _ _ (HS.out _ H15.out) (fun hHeld => ?_)
        clear hK K
        try simp only [Act.put, List.setIfInBounds_toArray, List.set_cons_zero, List.set_cons_succ]
        refine wpAnyL_one (i := 23) (by decide +kernel) rfl (fun K hK => ?_)
        go_simp
        go_at_call 20
        refine (same17_any lc rc (HR1.out.introw H15.out.1 (fun x hx => List.mem_cons_of_mem _ (List.mem_append_right _ (HRK.out x hx))) HOA.out) HI4.out).mono ?_
        rw [decide_eq_true rfl]
        rintro e V3 ⟨rfl, hb⟩
        have H16 := Lib.hid (H15.out.grow hb)
        clear hb
        refine hK.out _ _ (HS.out _ H16.out) (fun hHeld => ?_)
        clear hK K
        try simp only [Act.put, List.setIfInBounds_toArray, List.set_cons_zero, List.set_cons_succ]
        refine wpAnyL_take (i := 24) (v := ?_) rfl (by kernel_rfl) (by kernel_rfl) (by kernel_rfl) (by kernel_rfl) (fun _ _ _ h => h) (Or.inl ⟨by kernel_rfl, ?_⟩) (by assumption) ?_
        rotate_left
        · (intro w hSw; (try dsimp only at hSw); go_simp; try with_reducible rfl)
        simp only [Act.put, List.setIfInBounds_toArray, List.set_cons_zero, List.set_cons_succ]
        refine wpAnyL_take (i := 25) (v := ?_) rfl (by kernel_rfl) (by kernel_rfl) (by kernel_rfl) (by kernel_rfl) (fun _ _ _ h => h) (Or.inl ⟨by kernel_rfl, ?_⟩) (by assumption) ?_
        rotate_left
        · (intro w hSw; (try dsimp only at hSw); go_simp; try with_reducible rfl)
        simp only [Act.put, List.setIfInBounds_toArray, List.set_cons_zero, List.set_cons_succ]
        refine wpAnyL_take (i := 26) (v := ?_) rfl (by kernel_rfl) (by kernel_rfl) (by kernel_rfl) (by kernel_rfl) (fun _ _ _ h => h) (Or.inl ⟨by kernel_rfl, ?_⟩) (by assumption) ?_
        rotate_left
        · (intro w hSw; (try dsimp only at hSw); go_simp; try with_reducible rfl)
        simp only [Act.put, List.setIfInBounds_toArray, List.set_cons_zero, List.set_cons_succ]
        refine wpAnyL_take (i := 27) (v := ?_) rfl (by kernel_rfl) (by kernel_rfl) (by kernel_rfl) (by kernel_rfl) (fun _ _ _ h => h) (Or.inl ⟨by kernel_rfl, ?_⟩) (by assumption) ?_
        rotate_left
        · (intro w hSw; (try dsimp only at hSw); go_simp; try with_reducible rfl)
        simp only [Act.put, List.setIfInBounds_toArray, List.set_cons_zero, List.set_cons_succ]
        refine wpAnyL_take (i := 28) (v := ?_) rfl (by kernel_rfl) (by kernel_rfl) (by kernel_rfl) (by kernel_rfl) (fun _ _ _ h => h) (Or.inl ⟨by kernel_rfl, ?_⟩) (by assumption) ?_
        rotate_left
        · (intro w hSw; (try dsimp only at hSw); go_simp; try with_reducible rfl)
        simp only [Act.put, List.setIfInBounds_toArray, List.set_cons_zero, List.set_cons_succ]
        refine wpAnyL_one (i := 29) (by decide +kernel) rfl (fun K hK => ?_)
        go_simp
        go_at_call 23
        refine (HRW.out _ H16.out.below).mono ?_
        rintro e V4 ⟨rfl, hb⟩
        have H17 := Lib.hid (H16.out.grow hb)
        clear hb
        refine hK.out _ _ (HS.out _ H17.out) (fun hHeld => ?_)
        clear hK K
        try simp only [Act.put, List.setIfInBounds_toArray, List.set_cons_zero, List.set_cons_succ]
        refine wpAnyL_take (i := 30) (v := ?_) rfl (by kernel_rfl) (by kernel_rfl) (by kernel_rfl) (by kernel_rfl) (fun _ _ _ h => h) (Or.inl ⟨by kernel_rfl, ?_⟩) (by assumption) ?_
        rotate_left
        · (intro w hSw; (try dsimp only at hSw); go_simp; try with_reducible rfl)
        simp only [Act.put, List.setIfInBounds_toArray, List.set_cons_zero, List.set_cons_succ]
        refine wpAnyL_take (i := 31) (v := ?_) rfl (by kernel_rfl) (by kernel_rfl) (by kernel_rfl) (by kernel_rfl) (fun _ _ _ h => h) (Or.inl ⟨by kernel_rfl, ?_⟩) (by assumption) ?_
        rotate_left
        · (intro w hSw; (try dsimp only at hSw); go_simp; try with_reducible rfl)
        simp only [Act.put, List.setIfInBounds_toArray, List.set_cons_zero, List.set_cons_succ]
        refine wpAnyL_take (i := 32) (v := ?_) rfl (by kernel_rfl) (by kernel_rfl) (by kernel_rfl) (by kernel_rfl) (fun _ _ _ h => h) (Or.inl ⟨by kernel_rfl, ?_⟩) (by assumption) ?_
        rotate_left
        · (intro w hSw; (try dsimp only at hSw); go_simp; try with_reducible rfl)
        simp only [Act.put, List.setIfInBounds_toArray, List.set_cons_zero, List.set_cons_succ]
        refine wpAnyL_take (i := 33) (v := ?_) rfl (by kernel_rfl) (by kernel_rfl) (by kernel_rfl) (by kernel_rfl) (fun _ _ _ h => h) (Or.inl ⟨by kernel_rfl, ?_⟩) (by assumption) ?_
        rotate_left
        · (intro w hSw; (try dsimp only at hSw); go_simp; try with_reducible rfl)
        simp only [Act.put, List.setIfInBounds_toArray, List.set_cons_zero, List.set_cons_succ]
        refine wpAnyL_take (i := 34) (v := ?_) rfl (by kernel_rfl) (by kernel_rfl) (by kernel_rfl) (by kernel_rfl) (fun _ _ _ h => h) (Or.inl ⟨by kernel_rfl, ?_⟩) (by assumption) ?_
        rotate_left
        · (intro w hSw; (try dsimp only at hSw); go_simp; try with_reducible rfl)
        simp only [Act.put, List.setIfInBounds_toArray, List.set_cons_zero, List.set_cons_succ]
        refine wpAnyL_one (i := 35) (by decide +kernel) rfl (fun K hK => ?_)
        go_simp
        go_at_call 25
        refine (HRM.out _ H17.out.below).mono ?_
        rintro e V5 ⟨ua, un, uc, ud, rfl, B, hO5, hF⟩
        have H18 := Lib.hid (H17.out.grow hF.below)
        have HU := Lib.hid (hO5.rd hF.1 (fun x hx => hx) HO.out)
        clear hF hO5
        refine hK.out _ _ (HS.out _ H18.out) (fun hHeld => ?_)
        clear hK K
        try simp only [Act.put, List.setIfInBounds_toArray, List.set_cons_zero, List.set_cons_succ]
        refine wpAnyL_one (i := 36) (by decide +kernel) rfl (fun K hK => ?_)
        go_simp
        go_at_call 24
        refine (HSG.out _ _ _ _ _ _ _ _ _ ((show OGr w.heap.size (trimG g) ta tn tc td (Tr ++ (Tn ++ Tx)) from ⟨Tr, Tn, xs, Tx, HTr.out, HTn.out, HTx.out, rfl⟩).rd H18.out.1 (fun x hx => List.mem_cons_of_mem _ (List.mem_append_left _ hx)) HO.out) HU.out).mono ?_
        rintro e V6 ⟨rfl, hb⟩
        have H19 := Lib.hid (H18.out.grow hb)
        clear hb
        refine hK.out _ _ (HS.out _ H19.out) (fun hHeld => ?_)
        clear hK K
        try simp only [Act.put, List.setIfInBounds_toArray, List.set_cons_zero, List.set_cons_succ]
        refine wpAnyL_take (i := 37) (v := ?_) rfl (by kernel_rfl) (by kernel_rfl) (by kernel_rfl) (by kernel_rfl) (fun _ _ _ h => h) (Or.inl ⟨by kernel_rfl, ?_⟩) (by assumption) ?_
        rotate_left
        · (intro w hSw; (try dsimp only at hSw); go_simp; try with_reducible rfl)
        simp only [Act.put, List.setIfInBounds_toArray, List.set_cons_zero, List.set_cons_succ]
        refine wpAnyL_last (i := 38) (by kernel_rfl) rfl (by kernel_rfl) (by kernel_rfl) (fun K hK => ?_)
        go_simp
        refine hK.out _ _ ?_
        clear hK K
        try simp only [Act.put, List.setIfInBounds_toArray, List.set_cons_zero, List.set_cons_succ]
        obtain ⟨-, t0, t1⟩ := HS.out _ H19.out
        clear hHeld H13 H14 H15 H16 H17 H18 HI4 HU
        go_wp2_with (fail)
        clear t0 t1
        go_loopw [193] (fun iv wr => ∃ (i : Nat) (ns : List Nd) (Rx : List (Nat × Obj)), iv = .int .i64 i ∧ i ≤ al.length ∧ NsB w.heap.size ns xs Rx ∧ ns.length = al.length ∧ (∀ j, (ns.getD j default).fs.length ≤ 1500) ∧ FKN w ((tb, Obj.cells #[.slice ta g.rs.length tc, .slice tn al.length td] 25 (0, 0)) :: ((Tr ++ (Tn ++ Rx)) ++ Kr)) wr) (fun iv _ => al.length - (intOf iv).toNat)
        case atStart => exact ⟨0, _, Tx, rfl, by omega, HTx.out, Hnl.out, Hfs.out, H19.out⟩
        case round =>
          clear H19 HS HTx
          obtain ⟨i, ns, Rx, rfl, hi, hN, hnl, hfl, hF⟩ := hrel
          have HF := Lib.hid hF
          have hbq := hF.1.block (List.mem_cons_self ..)
          have t1 := at_cell hbq 1 _ rfl
          by_cases hlt : i < al.length
          · obtain ⟨af, cf, hys⟩ := hN.fcell (show i < ns.length by omega)
            obtain ⟨bT, rfl, e2⟩ := HTn.out.at_ hF.1 (fun x hx => List.mem_cons_of_mem _ (List.mem_append_left _ (List.mem_append_right _ (List.mem_append_left _ hx)))) hys
            have hn15 := hfl i
            obtain ⟨n, hn⟩ : ∃ n, (ns.getD i default).fs.length = n := ⟨_, rfl⟩
            rw [hn] at e2 hn15
            have k1 : (i : Int) < al.length := by omega
            have k2 : (0 : Int) ≤ i := by omega
            have k3 : ((i : Int)).toNat = i := by omega
            have n1 : (n : Int) ≤ 1500 := by omega
            have HN := Lib.hid hN
            have Hn := Lib.hid hn
            have Hnl2 := Lib.hid hnl
            have Hfl := Lib.hid hfl
            clear hN hn hnl hfl hF hbq hys
            go_wp2_with (fail)
            clear t1 e2
            go_loopw [203] (fun lv wr => ∃ (l : Nat) (ns : List Nd) (Rx : List (Nat × Obj)), lv = .int .i64 l ∧ l ≤ n ∧ NsB w.heap.size ns xs Rx ∧ ns.length = al.length ∧ (∀ j, (ns.getD j default).fs.length ≤ 1500) ∧ (ns.getD i default).fs.length = n ∧ FKN w ((tb, Obj.cells #[.slice ta g.rs.length tc, .slice (some ⟨bT, 0, none⟩) al.length td] 25 (0, 0)) :: ((Tr ++ (Tn ++ Rx)) ++ Kr)) wr) (fun lv _ => n - (intOf lv).toNat)
            case atStart => exact ⟨0, ns, Rx, rfl, by omega, HN.out, Hnl2.out, Hfl.out, Hn.out, HF.out⟩
            case round =>
              clear HF HN Hn Hnl2 Hfl
              obtain ⟨l, ns, Rx, rfl, hl, hN, hnl, hfl, hn, hF⟩ := hrel
              by_cases hltl : l < n
              · obtain ⟨bf, cur, A, C, cf2, rfl, hys, hc0, hmod⟩ := hN.flt (j := i) (l := l) (by omega) (by omega)
                obtain ⟨bT', e4, e2⟩ := HTn.out.at_ hF.1 (fun x hx => List.mem_cons_of_mem _ (List.mem_append_left _ (List.mem_append_right _ (List.mem_append_left _ hx)))) hys
                cases e4
                rw [hn] at e2
                have hbq := hF.1.block (List.mem_cons_self ..)
                have t1 := at_cell hbq 1 _ rfl
                have hF1 := hF.perm (K' := (bf, Obj.cells cur 48 (0, 0)) :: ((tb, Obj.cells #[.slice ta g.rs.length tc, .slice (some ⟨bT, 0, none⟩) al.length td] 25 (0, 0)) :: ((Tr ++ (Tn ++ (A ++ C))) ++ Kr))) (permC fun x => by simp only [List.count_append, List.count_cons, List.append_assoc, List.cons_append]; ac_rfl)
                have hq := hF1.1.block (List.mem_cons_self ..)
                have e3 := at_cell hq l _ hc0
                have f3 := at_free hq l
                have HSet := Lib.hid (fun z => (show FKN w ((tb, Obj.cells #[.slice ta g.rs.length tc, .slice (some ⟨bT, 0, none⟩) al.length td] 25 (0, 0)) :: ((Tr ++ (Tn ++ (A ++ (bf, Obj.cells (cur.setIfInBounds l (.int .u64 z)) 48 (0, 0)) :: C))) ++ Kr)) (wr.setCell ⟨bf, l, none⟩ (.int .u64 z)) from (hF1.set l (.int .u64 z)).perm (permC fun x => by simp only [List.count_append, List.count_cons, List.append_assoc, List.cons_append]; ac_rfl)))
                have Hmod := Lib.hid (fun z => (show NsB w.heap.size (ns.set i (fltN (ns.getD i default) l z)) xs (A ++ (bf, Obj.cells (cur.setIfInBounds l (.int .u64 z)) 48 (0, 0)) :: C) ∧ (ns.set i (fltN (ns.getD i default) l z)).length = al.length ∧ (∀ j, ((ns.set i (fltN (ns.getD i default) l z)).getD j default).fs.length ≤ 1500) ∧ ((ns.set i (fltN (ns.getD i default) l z)).getD i default).fs.length = n from
                  ⟨hmod z, by rw [List.length_set]; exact hnl, fun j => by rw [flt_at]; exact hfl j, by rw [flt_at]; exact hn⟩))
                have l1 : (l : Int) < n := by omega
                have l2 : (0 : Int) ≤ l := by omega
                have l3 : ((l : Int)).toNat = l := by omega
                clear hN hnl hfl hn hF hys hc0 hmod hbq hF1 hq
                generalize (ns.getD i default).fs.getD l 0 = v at *
                go_wp2_with (fail)
                go_roundw
                case rel => exact ⟨l + 1, _, _, by go_num, by omega, (Hmod.out _).1, (Hmod.out _).2.1, (Hmod.out _).2.2.1, (Hmod.out _).2.2.2, HSet.out _⟩
                case measure => simp [intOf]; omega
              · obtain rfl : l = n := by omega
                have l1 : ¬ (l : Int) < l := by omega
                have HN := Lib.hid hN
                have Hnl2 := Lib.hid hnl
                have Hfl := Lib.hid hfl
                have HF := Lib.hid hF
                clear hN hnl hfl hn hF
                go_wp2_with (fail)
                go_roundw
                case rel => exact ⟨i + 1, ns, Rx, by go_num, by omega, HN.out, Hnl2.out, Hfl.out, HF.out⟩
                case measure => simp [intOf]; omega
          · obtain rfl : i = al.length := by omega
            have k1 : ¬ (al.length : Int) < al.length := by omega
            obtain ⟨c0', c1'⟩ := Hg.out _ _ (List.mem_cons_of_mem _ (List.mem_append_right _ HgK.out)) hF
            clear hN hnl hfl hF hbq
            go_wp2_with (go_at_call 13; refine (HTR.out _ HF.out.below).mono ?_; rintro e w12 ⟨ua, un, uc, ud, rfl, B, hO, hFB⟩; have H20 := Lib.hid ((HF.out.grow hFB.below).box #[.slice ua g.rs.length uc, .slice un al.length ud] 25); have HU := Lib.hid ((hO.rd hFB.1 (fun x hx => hx) HO.out).below (below_new w12 (.cells #[.slice ua g.rs.length uc, .slice un al.length ud] 25))); clear hO hFB)
            obtain ⟨ub, hub⟩ : ∃ ub, w12.heap.size = ub := ⟨_, rfl⟩
            simp only [hub] at H20 ⊢
            generalize w12.alloc (.cells #[.slice ua g.rs.length uc, .slice un al.length ud] 25) = V12 at *
            have HS := Lib.hid (fun W (hW : FKN w ((ub, Obj.cells #[.slice ua g.rs.length uc, .slice un al.length ud] 25 (0, 0)) :: ((tb, Obj.cells #[.slice ta g.rs.length tc, .slice tn al.length td] 25 (0, 0)) :: ((Tr ++ (Tn ++ Rx)) ++ Kr))) W) => (show (W.cell? ⟨gb, 0, none⟩ = some (.slice ar g.rs.length cr) ∧ W.cell? ⟨gb, 1, none⟩ = some (.slice an g.ns.length cn)) ∧ (W.cell? ⟨ub, 0, none⟩ = some (.slice ua g.rs.length uc) ∧ W.cell? ⟨ub, 1, none⟩ = some (.slice un al.length ud)) from
              ⟨Hg.out _ _ (List.mem_cons_of_mem _ (List.mem_cons_of_mem _ (List.mem_append_right _ HgK.out))) hW, at_cell (hW.1.block (List.mem_cons_self ..)) 0 _ rfl, at_cell (hW.1.block (List.mem_cons_self ..)) 1 _ rfl⟩))
            have H21 := Lib.hid (H20.out.grow (below_drew V12))
            have HU2 := Lib.hid (HU.out.below (below_drew V12))
            clear hub t1 c0' c1' H20 HU HF
            refine wp_region_heldL (S := fun W => (W.cell? ⟨gb, 0, none⟩ = some (.slice ar g.rs.length cr) ∧ W.cell? ⟨gb, 1, none⟩ = some (.slice an g.ns.length cn)) ∧ (W.cell? ⟨ub, 0, none⟩ = some (.slice ua g.rs.length uc) ∧ W.cell? ⟨ub, 1, none⟩ = some (.slice un al.length ud))) (by kernel_rfl) (HS.out _ H21.out) (fun hHeld => ?_)
            generalize V12.drew = V13 at *
            refine wpAnyL_take (i := 0) (v := ?_) rfl (by kernel_rfl) (by kernel_rfl) (by kernel_rfl) (by kernel_rfl) (fun _ _ _ h => h) (Or.inl ⟨by kernel_rfl, ?_⟩) (by assumption) ?_
            rotate_left
            · (intro w hSw; (try dsimp only at hSw); go_simp; try with_reducible rfl)
            simp only [Act.put, List.setIfInBounds_toArray, List.set_cons_zero, List.set_cons_succ]
            refine wpAnyL_take (i := 1) (v := ?_) rfl (by kernel_rfl) (by kernel_rfl) (by kernel_rfl) (by kernel_rfl) (fun _ _ _ h => h) (Or.inl ⟨by kernel_rfl, ?_⟩) (by assumption) ?_
            rotate_left
            · (intro w hSw; (try dsimp only at hSw); go_simp; try with_reducible rfl)
            simp only [Act.put, List.setIfInBounds_toArray, List.set_cons_zero, List.set_cons_succ]
            refine wpAnyL_one (i := 2) (by decide +kernel) rfl (fun K hK => ?_)
            go_simp
            go_at_call 25
            refine (HRM.out _ H21.out.below).mono ?_
            rintro e V14 ⟨va, vn, vc, vd, rfl, B, hO5, hF⟩
            have H22 := Lib.hid (H21.out.grow hF.below)
            have HV := Lib.hid (hO5.rd hF.1 (fun x hx => hx) HO.out)
            have HU3 := Lib.hid (HU2.out.below hF.below)
            clear hF hO5
            refine hK.out _ _ (HS.out _ H22.out) (fun hHeld => ?_)
            clear hK K
            try simp only [Act.put, List.setIfInBounds_toArray, List.set_cons_zero, List.set_cons_succ]
            refine wpAnyL_one (i := 3) (by decide +kernel) rfl (fun K hK => ?_)
            go_simp
            go_at_call 24
            refine (HSG.out _ _ _ _ _ _ _ _ _ HU3.out HV.out).mono ?_
            rintro e V15 ⟨rfl, hb⟩
            have H23 := Lib.hid (H22.out.grow hb)
            clear hb
            refine hK.out _ _ (HS.out _ H23.out) (fun hHeld => ?_)
            clear hK K
            try simp only [Act.put, List.setIfInBounds_toArray, List.set_cons_zero, List.set_cons_succ]
            refine wpAnyL_take (i := 4) (v := ?_) rfl (by kernel_rfl) (by kernel_rfl) (by kernel_rfl) (by kernel_rfl) (fun _ _ _ h => h) (Or.inl ⟨by kernel_rfl, ?_⟩) (by assumption) ?_
            rotate_left
            · (intro w hSw; (try dsimp only at hSw); go_simp; try with_reducible rfl)
            simp only [Act.put, List.setIfInBounds_toArray, List.set_cons_zero, List.set_cons_succ]
            refine wpAnyL_one (i := 5) (by decide +kernel) rfl (fun K hK => ?_)
            go_simp
            go_at_call 11
            refine (HL.out _).mono ?_
            rintro e V16 ⟨rfl, hb⟩
            have H24 := Lib.hid (H23.out.grow hb)
            clear hb
            refine hK.out _ _ (HS.out _ H24.out) (fun hHeld => ?_)
            clear hK K
            try simp only [Act.put, List.setIfInBounds_toArray, List.set_cons_zero, List.set_cons_succ]
            refine wpAnyL_take (i := 6) (v := ?_) rfl (by kernel_rfl) (by kernel_rfl) (by kernel_rfl) (by kernel_rfl) (fun _ _ _ h => h) (Or.inl ⟨by kernel_rfl, ?_⟩) (by assumption) ?_
            rotate_left
            · (intro w hSw; (try dsimp only at hSw); go_simp; try with_reducible rfl)
            simp only [Act.put, List.setIfInBounds_toArray, List.set_cons_zero, List.set_cons_succ]
            refine wpAnyL_last (i := 7) (by kernel_rfl) rfl (by kernel_rfl) (by kernel_rfl) (fun K hK => ?_)
            go_simp
            refine hK.out _ _ ?_
            clear hK K
            try simp only [Act.put, List.setIfInBounds_toArray, List.set_cons_zero, List.set_cons_succ]
            go_wp2_with (fail)
            go_ret
            subst hgb
            exact ⟨rfl, H24.out.below⟩
theorem gtells_any {w : World} {ar an : Option Addr} {g : Gr} (cr cn : Nat) (k : Int) (hkI : IsI k) (hG : GRd w ar an g) (hs : SmG g) :
    Calls Try.prog 3 #[.agg #[.slice ar g.rs.length cr, .slice an g.ns.length cn], .int .i64 k] w fun e w' => e = .returned (.bool true) ∧ Below w.heap.size w w' := by
  cases hf : farG g with
  | true => exact gtells_far cr cn k hG hs hf
  | false =>
    cases hm : mayG g with
    | true => exact gtells_may cr cn k hkI hG hs hf hm
    | false => exact gtells_bad cr cn k hG hs hf hm
end Go.Proofs.Ytplkogjnmjjjgaa
