/- The walks of the reference's ints and Put: the same bytes. -/
import Derived.Test.YtplkogjnmjjjgaaCPut
namespace Go.Proofs.Ytplkogjnmjjjgaa
open Go.ChangeShapes Go.WideShapes Go.ChangeAt Go.RowKit
set_option linter.unusedVariables false
set_option linter.unusedSimpArgs false

theorem str_app (a b : List UInt8) : str a ++ str b = str (a ++ b) := by
  apply ByteArray.ext
  apply Array.toList_inj.1
  rw [ByteArray.data_append, Array.toList_append, str_data, str_data, str_data]
set_option maxRecDepth 100000 in
set_option maxHeartbeats 1000000 in
theorem refInts_any {w : World} {a : Option Addr} {zs : List Int} (cap : Nat) (hz : IntRow .i64 w a zs) (hlen : (intsB zs).length ≤ 900000) (hm : zs.length ≤ 100000) :
    Calls Try.prog 74 #[.slice a zs.length cap] w fun e w' => e = .returned (.string (str (intsB zs))) ∧ Below w.heap.size w w' := by
  have hwl := wrap_len hm
  have HN := Lib.hid (Wr.refNum_any zs.length w (by omega))
  have HZ := Lib.hid hz
  obtain ⟨tot, htot⟩ : ∃ tot, intsB zs = tot := ⟨_, rfl⟩
  rw [htot] at hlen ⊢
  have Hst := Lib.hid (show Wr.Wire.num zs.length ++ (zs.drop 0).flatMap Wr.Wire.int = tot by rw [← htot]; rfl)
  have Hlen := Lib.hid hlen
  have HI := Lib.hid (isI_row hz)
  have l1 : (zs.length : Int) ≤ 100000 := by omega
  obtain ⟨nz, hnz⟩ : ∃ nz, Wr.Wire.num zs.length = nz := ⟨_, rfl⟩
  rw [hnz] at HN Hst
  clear hz hlen htot hm hnz
  go_enter Try.func74, Try.ntmps74
  go_wp2_with (go_at_call 75; refine HN.out.mono ?_; rintro e w1 ⟨rfl, hb⟩; have HB := Lib.hid hb; clear hb)
  clear HN hwl
  go_loopw [3, 4] (fun sv iv wr => ∃ (i : Nat) (dn : List UInt8), sv = .string (str dn) ∧ iv = .int .i64 i ∧ i ≤ zs.length ∧ dn ++ (zs.drop i).flatMap Wr.Wire.int = tot ∧ Below w.heap.size w wr) (fun _ iv _ => zs.length - (intOf iv).toNat)
  case atStart => exact ⟨0, nz, rfl, rfl, by omega, Hst.out, HB.out⟩
  case round =>
    clear HB Hst
    obtain ⟨i, dn, rfl, rfl, hi, hd, hb⟩ := hrel
    by_cases hlt : i < zs.length
    · obtain ⟨b0, off, ha, hc⟩ := (HZ.out.below hb).cell
      obtain rfl : a = some ⟨b0, off, none⟩ := by
        rcases ha with e | e
        · rw [e] at hlt; cases hlt
        · exact e
      have q0 := hc i hlt
      rw [drop_cons 0 hlt, List.flatMap_cons] at hd
      have hzI := HI.out _ (getD_mem 0 hlt)
      generalize zs.getD i 0 = z at *
      have hs1 : (str dn).size ≤ 900000 := by rw [str_size]; have h1 := Hlen.out; rw [← hd] at h1; simp only [List.length_append] at h1; omega
      have hs2 : (str (Wr.Wire.int z)).size ≤ 900000 := by rw [str_size]; have h1 := Hlen.out; rw [← hd] at h1; simp only [List.length_append] at h1; omega
      have HC := Lib.hid (fun W => Wr.refInt_any z W hzI.1 hzI.2)
      have HB := Lib.hid hb
      have Hd := Lib.hid hd
      have Hap := Lib.hid (str_app dn (Wr.Wire.int z))
      generalize str (Wr.Wire.int z) = sz at *
      have k1 : (i : Int) < zs.length := by omega
      have k2 : (0 : Int) ≤ i := by omega
      have k3 : ((i : Int)).toNat = i := by omega
      clear hc ha hb hd hzI
      go_wp2_with (go_at_call 97; refine (HC.out _).mono ?_; rintro e w2 ⟨rfl, hb2⟩; have HB2 := Lib.hid (HB.out.trans (hb2.mono HB.out.size)); clear hb2)
      go_roundw
      case rel => exact ⟨i + 1, dn ++ Wr.Wire.int z, by rw [← Hap.out], by go_num, by omega, by rw [List.append_assoc]; exact Hd.out, HB2.out⟩
      case measure => simp [intOf]; omega
    · obtain rfl : i = zs.length := by omega
      rw [flat_nil, List.append_nil] at hd
      have k1 : ¬ (zs.length : Int) < zs.length := by omega
      have HB := Lib.hid hb
      have Hd := Lib.hid hd
      clear hb hd
      go_wp2_with (fail)
      go_ret
      have := Hd.out
      subst this
      exact ⟨rfl, HB.out⟩
set_option maxRecDepth 100000 in
theorem refPut_bad {V : World} {ar an : Option Addr} {g : Gr} (cr cn : Nat) (hG : GRd V ar an g) (hm : mayG g = false) :
    Calls Try.prog 33 #[.agg #[.slice ar g.rs.length cr, .slice an g.ns.length cn]] V fun e w' => e = .returned (.tuple #[.string ⟨#[]⟩, .int .i64 5]) ∧ Below V.heap.size V w' := by
  have h1 := (FKN.refl V).box #[.slice ar g.rs.length cr, .slice an g.ns.length cn] 25
  have hq := h1.1.block (List.mem_cons_self ..)
  have c0 := at_cell hq 0 _ rfl
  have c1 := at_cell hq 1 _ rfl
  have HT := Lib.hid (refMay_any cr cn (hG.below h1.below))
  rw [hm] at HT
  have H1 := Lib.hid h1
  clear h1 hq hG hm
  go_enter Try.func33, Try.ntmps33
  go_wp2_with (go_at_call 17; refine HT.out.mono ?_; rintro e w2 ⟨rfl, hb⟩; have H2 := Lib.hid (H1.out.grow hb); clear hb)
  go_ret2
  exact ⟨rfl, H2.out.below⟩
set_option maxRecDepth 100000 in
set_option maxHeartbeats 1000000 in
theorem refPut_any {V : World} {ar an : Option Addr} {g : Gr} (cr cn : Nat) (hG : GRd V ar an g) (few : FewG g) (hm : mayG g = true) (hlen : (graphB (trimG g)).length ≤ 900000) :
    Calls Try.prog 33 #[.agg #[.slice ar g.rs.length cr, .slice an g.ns.length cn]] V fun e w' => e = .returned (.tuple #[.string (putS g), .int .i64 0]) ∧ Below V.heap.size V w' := by
  have h1 := (FKN.refl V).box #[.slice ar g.rs.length cr, .slice an g.ns.length cn] 25
  obtain ⟨gb, hgb⟩ : ∃ gb, V.heap.size = gb := ⟨_, rfl⟩
  simp only [hgb] at h1
  have hq := h1.1.block (List.mem_cons_self ..)
  have c0 := at_cell hq 0 _ rfl
  have c1 := at_cell hq 1 _ rfl
  have HM := Lib.hid (refMay_any cr cn (hG.below h1.below))
  rw [hm] at HM
  have HTR := Lib.hid (fun W (h : Below V.heap.size V W) => refTrim_any cr cn (hG.below h) few hm)
  have H1 := Lib.hid h1
  have hns := few.ns
  have hlx := (walkG_ok hm).len
  have HO := Lib.hid (hG.ok.trim (show (walkG g).al.length ≤ 10000 by omega))
  have fewT := trimG_few hm few
  rw [show putS g = Sl.sealedStr (str (graphB (trimG g))) from rfl]
  have hTr := trimG_rlen g
  have hTn := trimG_nlen g
  obtain ⟨T, hT⟩ : ∃ T, trimG g = T := ⟨_, rfl⟩
  rw [hT] at hlen HO fewT HTR hTr hTn ⊢
  obtain ⟨N, hN⟩ : ∃ N, (walkG g).al.length = N := ⟨_, rfl⟩
  rw [hN] at HTR hTn
  have HTr := Lib.hid hTr
  have HTn := Lib.hid hTn
  obtain ⟨tot, htot⟩ : ∃ tot, graphB T = tot := ⟨_, rfl⟩
  rw [htot] at hlen ⊢
  have Htot := Lib.hid htot
  have Hlen := Lib.hid hlen
  have Hfew := Lib.hid fewT
  have HSl := Lib.hid (fun W => Sl.refSeal_any (str tot) W (by rw [str_size]; omega))
  have hTN := fewT.ns
  have l1 : (N : Int) ≤ 3000 := by omega
  have hwl := wrap_len (show N ≤ 100000 by omega)
  clear h1 hq hG hm few hlen fewT hns hlx hT htot hTr hTn hTN hN
  go_enter Try.func33, Try.ntmps33
  go_wp2_with (first
    | (go_at_call 17; refine HM.out.mono ?_; rintro e w2 ⟨rfl, hb⟩; have H2 := Lib.hid (H1.out.grow hb); have hq2 := H2.out.1.block (List.mem_cons_self ..); have c20 := at_cell hq2 0 _ rfl; have c21 := at_cell hq2 1 _ rfl; clear hb hq2)
    | (go_at_call 25; refine (HTR.out _ H2.out.below).mono ?_; rintro e w3 ⟨ta, tn, tc, td, rfl, B, hO, hF⟩; have H3 := Lib.hid (H2.out.below.trans (hF.below.mono H2.out.below.size)); have HR3 := Lib.hid (hO.rd hF.1 (fun x hx => hx) HO.out); clear hO hF))
  have hbx := below_new w3 (.cells #[.slice ta g.rs.length tc, .slice tn N td] 25)
  have hnew := heap_alloc_new w3 (.cells #[.slice ta g.rs.length tc, .slice tn N td] 25)
  obtain ⟨tb, htb⟩ : ∃ tb, w3.heap.size = tb := ⟨_, rfl⟩
  simp only [htb] at hnew ⊢
  have HV1 := Lib.hid (H3.out.trans (hbx.mono H3.out.size))
  have HR := Lib.hid (HR3.out.below hbx)
  generalize w3.alloc (.cells #[.slice ta g.rs.length tc, .slice tn N td] 25) = V1 at *
  have HS := Lib.hid (fun W (h : Below V1.heap.size V1 W) => (show W.cell? ⟨tb, 0, none⟩ = some (.slice ta g.rs.length tc) ∧ W.cell? ⟨tb, 1, none⟩ = some (.slice tn N td) from ⟨cellB h (Nat.le_refl _) (at_cell hnew 0 _ rfl), cellB h (Nat.le_refl _) (at_cell hnew 1 _ rfl)⟩))
  clear c20 c21 hbx hnew H1 H2 H3 HR3 HM HTR htb
  have hi1 : (intsB T.rs).length ≤ 900000 := by have h1 := Hlen.out; rw [← Htot.out] at h1; unfold graphB at h1; simp only [List.length_append] at h1; omega
  have hi2 : (Wr.Wire.num N).length ≤ 900000 := by have := Wr.Wire.num_length N; omega
  have hs1 : (str (intsB T.rs)).size ≤ 900000 := by rw [str_size]; exact hi1
  have hs2 : (str (Wr.Wire.num N)).size ≤ 900000 := by rw [str_size]; exact hi2
  have HIr := Lib.hid (fun W (h : Below V1.heap.size V1 W) => refInts_any tc (HR.out.roots.below h) hi1 (by have := Hfew.out.rs; omega))
  rw [HTr.out] at HIr
  have HNu := Lib.hid (fun W => Wr.refNum_any N W (by omega))
  have Hap := Lib.hid (str_app (intsB T.rs) (Wr.Wire.num N))
  have Hst := Lib.hid (show (intsB T.rs ++ Wr.Wire.num N) ++ (T.ns.drop 0).flatMap nodeB = tot by rw [← Htot.out, ← HTn.out]; unfold graphB; rw [List.append_assoc]; rfl)
  generalize str (intsB T.rs) = sg1 at *
  generalize str (Wr.Wire.num N) = sg2 at *
  obtain ⟨d0, hd0⟩ : ∃ d0, intsB T.rs ++ Wr.Wire.num N = d0 := ⟨_, rfl⟩
  rw [hd0] at Hap Hst
  clear hd0 hi1 hi2
  have H4 := Lib.hid (below_drew V1)
  go_wp2_with (fail)
  refine wp_region_heldL (S := fun W => W.cell? ⟨tb, 0, none⟩ = some (.slice ta g.rs.length tc) ∧ W.cell? ⟨tb, 1, none⟩ = some (.slice tn N td)) (by kernel_rfl) (HS.out _ H4.out) (fun hHeld => ?_)
  generalize V1.drew = V2 at *
  refine wpAnyL_take (i := 0) (v := ?_) rfl (by kernel_rfl) (by kernel_rfl) (by kernel_rfl) (by kernel_rfl) (fun _ _ _ h => h) (Or.inl ⟨by kernel_rfl, ?_⟩) (by assumption) ?_
  rotate_left
  · (intro w hSw; (try dsimp only at hSw); go_simp; try with_reducible rfl)
  simp only [Act.put, List.setIfInBounds_toArray, List.set_cons_zero, List.set_cons_succ]
  refine wpAnyL_take (i := 1) (v := ?_) rfl (by kernel_rfl) (by kernel_rfl) (by kernel_rfl) (by kernel_rfl) (fun _ _ _ h => h) (Or.inl ⟨by kernel_rfl, ?_⟩) (by assumption) ?_
  rotate_left
  · (intro w hSw; (try dsimp only at hSw); go_simp; try with_reducible rfl)
  simp only [Act.put, List.setIfInBounds_toArray, List.set_cons_zero, List.set_cons_succ]
  refine wpAnyL_take (i := 3) (v := ?_) rfl (by kernel_rfl) (by kernel_rfl) (by kernel_rfl) (by kernel_rfl) (fun _ _ _ h => h) (Or.inl ⟨by kernel_rfl, ?_⟩) (by assumption) ?_
  rotate_left
  · (intro w hSw; (try dsimp only at hSw); go_simp; try with_reducible rfl)
  simp only [Act.put, List.setIfInBounds_toArray, List.set_cons_zero, List.set_cons_succ]
  refine wpAnyL_take (i := 4) (v := ?_) rfl (by kernel_rfl) (by kernel_rfl) (by kernel_rfl) (by kernel_rfl) (fun _ _ _ h => h) (Or.inl ⟨by kernel_rfl, ?_⟩) (by assumption) ?_
  rotate_left
  · (intro w hSw; (try dsimp only at hSw); go_simp; try with_reducible rfl)
  simp only [Act.put, List.setIfInBounds_toArray, List.set_cons_zero, List.set_cons_succ]
  refine wpAnyL_take (i := 5) (v := ?_) rfl (by kernel_rfl) (by kernel_rfl) (by kernel_rfl) (by kernel_rfl) (fun _ _ _ h => h) (Or.inl ⟨by kernel_rfl, ?_⟩) (by assumption) ?_
  rotate_left
  · (intro w hSw; (try dsimp only at hSw); go_simp; try with_reducible rfl)
  simp only [Act.put, List.setIfInBounds_toArray, List.set_cons_zero, List.set_cons_succ]
  refine wpAnyL_take (i := 6) (v := ?_) rfl (by kernel_rfl) (by kernel_rfl) (by kernel_rfl) (by kernel_rfl) (fun _ _ _ h => h) (Or.inl ⟨by kernel_rfl, ?_⟩) (by assumption) ?_
  rotate_left
  · (intro w hSw; (try dsimp only at hSw); go_simp; try with_reducible rfl)
  simp only [Act.put, List.setIfInBounds_toArray, List.set_cons_zero, List.set_cons_succ]
  refine wpAnyL_one (i := 2) (by decide +kernel) rfl (fun K hK => ?_)
  go_simp
  go_at_call 74
  refine (HIr.out _ H4.out).mono ?_
  rintro e V3 ⟨rfl, hb⟩
  have H5 := Lib.hid (seq H4.out hb)
  clear hb
  refine hK.out _ _ (HS.out _ H5.out) (fun hHeld => ?_)
  clear hK K
  try simp only [Act.put, List.setIfInBounds_toArray, List.set_cons_zero, List.set_cons_succ]
  refine wpAnyL_one (i := 7) (by decide +kernel) rfl (fun K hK => ?_)
  go_simp
  go_at_call 75
  refine (HNu.out _).mono ?_
  rintro e V4 ⟨rfl, hb⟩
  have H6 := Lib.hid (seq H5.out hb)
  clear hb
  refine hK.out _ _ (HS.out _ H6.out) (fun hHeld => ?_)
  clear hK K
  try simp only [Act.put, List.setIfInBounds_toArray, List.set_cons_zero, List.set_cons_succ]
  have hcat : ¬ 9223372036854775807 < sg1.size + sg2.size := by omega
  refine wpAnyL_take (i := 8) (v := ?_) rfl (by kernel_rfl) (by kernel_rfl) (by kernel_rfl) (by kernel_rfl) (fun _ _ _ h => h) (Or.inl ⟨by kernel_rfl, ?_⟩) (by assumption) ?_
  rotate_left
  · (intro w hSw; (try dsimp only at hSw); go_simp; try with_reducible rfl)
  simp only [Act.put, List.setIfInBounds_toArray, List.set_cons_zero, List.set_cons_succ]
  refine wpAnyL_last (i := 9) (by kernel_rfl) rfl (by kernel_rfl) (by kernel_rfl) (fun K hK => ?_)
  go_simp
  refine hK.out _ _ ?_
  clear hK K
  try simp only [Act.put, List.setIfInBounds_toArray, List.set_cons_zero, List.set_cons_succ]
  clear H4 H5 HIr HNu hs1 hs2 hwl hcat
  rw [Hap.out]
  clear Hap
  go_wp2_with (fail)
  clear hHeld
  go_loopw [5, 6] (fun sv iv wr => ∃ (i : Nat) (dn : List UInt8), sv = .string (str dn) ∧ iv = .int .i64 i ∧ i ≤ N ∧ dn ++ (T.ns.drop i).flatMap nodeB = tot ∧ Below V1.heap.size V1 wr) (fun _ iv _ => N - (intOf iv).toNat)
  case atStart => exact ⟨0, d0, rfl, rfl, by omega, Hst.out, H6.out⟩
  case round =>
    clear H6 Hst
    obtain ⟨i, dn, rfl, rfl, hi, hd, hb⟩ := hrel
    obtain ⟨t0, t1⟩ := HS.out wr hb
    by_cases hlt : i < N
    · have hltT : i < T.ns.length := by rw [HTn.out]; exact hlt
      rw [drop_cons default hltT, List.flatMap_cons] at hd
      obtain ⟨bn, on, ap, af, aw, cp, cf, cw, rfl, hx0, n0, n1, n2⟩ := (HR.out.nodes.below hb).at_ hltT
      have hfx := Hfew.out.each _ (getD_mem default hltT)
      generalize T.ns.getD i default = x at *
      have k1 : (i : Int) < N := by omega
      have k2 : (0 : Int) ≤ i := by omega
      have k3 : ((i : Int)).toNat = i := by omega
      have hbA := below_new wr (.cells #[.slice ap x.ps.length cp, .slice af x.fs.length cf, .slice aw x.ws.length cw] 47)
      have hnA := heap_alloc_new wr (.cells #[.slice ap x.ps.length cp, .slice af x.fs.length cf, .slice aw x.ws.length cw] 47)
      obtain ⟨bx, hbx⟩ : ∃ bx, wr.heap.size = bx := ⟨_, rfl⟩
      rw [hbx] at hnA
      have HA0 := Lib.hid (seq hb hbA)
      have HX := Lib.hid (NdR.below hx0 hbA)
      obtain ⟨wA, hwA⟩ : ∃ wA, wr.alloc (.cells #[.slice ap x.ps.length cp, .slice af x.fs.length cf, .slice aw x.ws.length cw] 47) = wA := ⟨_, rfl⟩
      rw [hwA] at hbA hnA HA0 HX
      have Hx := Lib.hid (fun W (h : Below wA.heap.size wA W) => (show W.cell? ⟨bx, 0, none⟩ = some (.slice ap x.ps.length cp) ∧ W.cell? ⟨bx, 1, none⟩ = some (.slice af x.fs.length cf) ∧ W.cell? ⟨bx, 2, none⟩ = some (.slice aw x.ws.length cw) from ⟨cellB h (Nat.le_refl _) (at_cell hnA 0 _ rfl), cellB h (Nat.le_refl _) (at_cell hnA 1 _ rfl), cellB h (Nat.le_refl _) (at_cell hnA 2 _ rfl)⟩))
      have hdl : dn.length + (nodeB x).length ≤ 900000 := by have h1 := Hlen.out; rw [← hd] at h1; simp only [List.length_append] at h1; omega
      have hnl : (nodeB x).length = (intsB x.ps).length + ((fltsB x.fs).length + (wrdsB x.ws).length) := by unfold nodeB; simp
      have hflb : (Wr.Wire.num x.fs.length).length ≤ (fltsB x.fs).length := by unfold fltsB; simp
      have hwlb : (Wr.Wire.num x.ws.length).length ≤ (wrdsB x.ws).length := by unfold wrdsB; simp
      have HIx := Lib.hid (fun W (h : Below wA.heap.size wA W) => refInts_any cp (HX.out.ps.below h) (by omega) (by omega))
      have HNf := Lib.hid (fun W => Wr.refNum_any x.fs.length W (by omega))
      have HNw := Lib.hid (fun W => Wr.refNum_any x.ws.length W (by omega))
      have hfl1 := wrap_len (show x.fs.length ≤ 100000 by omega)
      have hwl1 := wrap_len (show x.ws.length ≤ 100000 by omega)
      have f1 : (x.fs.length : Int) ≤ 3000 := by omega
      have f2 : (x.ws.length : Int) ≤ 3000 := by omega
      have s1 : (str dn).size ≤ 900000 := by rw [str_size]; omega
      have s2 : (str (intsB x.ps)).size ≤ 900000 := by rw [str_size]; omega
      have s3 : (str (Wr.Wire.num x.fs.length)).size ≤ 900000 := by rw [str_size]; omega
      have s4 : (str (Wr.Wire.num x.ws.length)).size ≤ 900000 := by rw [str_size]; omega
      have hap : str dn ++ (str (intsB x.ps) ++ str (Wr.Wire.num x.fs.length)) = str ((dn ++ intsB x.ps) ++ Wr.Wire.num x.fs.length) := by rw [str_app, str_app, List.append_assoc]
      have s5 : (str (intsB x.ps) ++ str (Wr.Wire.num x.fs.length)).size ≤ 1800000 := by rw [ByteArray.size_append]; omega
      have hcat1 : ¬ 9223372036854775807 < (str (intsB x.ps)).size + (str (Wr.Wire.num x.fs.length)).size := by omega
      have hcat2 : ¬ 9223372036854775807 < (str dn).size + ((str (intsB x.ps)).size + (str (Wr.Wire.num x.fs.length)).size) := by omega
      have hp3 : ((dn ++ intsB x.ps) ++ fltsB x.fs).length ≤ 900000 := by simp only [List.length_append]; omega
      have hp5 : (((dn ++ intsB x.ps) ++ fltsB x.fs) ++ wrdsB x.ws).length ≤ 900000 := by simp only [List.length_append]; omega
      have hend : ((dn ++ intsB x.ps) ++ fltsB x.fs) ++ wrdsB x.ws ++ (T.ns.drop (i + 1)).flatMap nodeB = tot := by rw [← hd]; unfold nodeB; simp only [List.append_assoc]
      obtain ⟨p1, hp1e⟩ : ∃ p1, dn ++ intsB x.ps = p1 := ⟨_, rfl⟩
      rw [hp1e] at hp3 hp5 hend hap
      have Hp3 := Lib.hid hp3
      have Hp5 := Lib.hid hp5
      have Hend := Lib.hid hend
      have Hlt := Lib.hid hlt
      have Hap := Lib.hid hap
      have Hst := Lib.hid (show (p1 ++ Wr.Wire.num x.fs.length) ++ (x.fs.drop 0).flatMap (fun z => Wr.Wire.fix z.toNat) = p1 ++ fltsB x.fs by unfold fltsB; rw [List.append_assoc]; rfl)
      obtain ⟨d2, hd2⟩ : ∃ d2, p1 ++ Wr.Wire.num x.fs.length = d2 := ⟨_, rfl⟩
      rw [hd2] at Hst Hap
      obtain ⟨p3, hp3e⟩ : ∃ p3, p1 ++ fltsB x.fs = p3 := ⟨_, rfl⟩
      rw [hp3e] at Hst Hp3 Hp5 Hend
      have HA1 := Lib.hid (below_drew wA)
      clear hd hx0 hfx hb hlt hltT hbA hnA hdl hnl hflb hwlb hp3 hp5 hend hap hp1e hd2 hp3e
      generalize str (intsB x.ps) = sg1 at *
      generalize str (Wr.Wire.num x.fs.length) = sg2 at *
      generalize str dn = sg0 at *
      go_wp2_with (fail)
      clear t0 t1 n0 n1 n2
      refine wp_region_heldL (S := fun W => W.cell? ⟨bx, 0, none⟩ = some (.slice ap x.ps.length cp) ∧ W.cell? ⟨bx, 1, none⟩ = some (.slice af x.fs.length cf) ∧ W.cell? ⟨bx, 2, none⟩ = some (.slice aw x.ws.length cw)) (by kernel_rfl) (Hx.out _ HA1.out) (fun hHeld => ?_)
      generalize wA.drew = V2 at *
      refine wpAnyL_take (i := 0) (v := ?_) rfl (by kernel_rfl) (by kernel_rfl) (by kernel_rfl) (by kernel_rfl) (fun _ _ _ h => h) (Or.inl ⟨by kernel_rfl, ?_⟩) (by assumption) ?_
      rotate_left
      · (intro w hSw; (try dsimp only at hSw); go_simp; try with_reducible rfl)
      simp only [Act.put, List.setIfInBounds_toArray, List.set_cons_zero, List.set_cons_succ]
      refine wpAnyL_take (i := 1) (v := ?_) rfl (by kernel_rfl) (by kernel_rfl) (by kernel_rfl) (by kernel_rfl) (fun _ _ _ h => h) (Or.inl ⟨by kernel_rfl, ?_⟩) (by assumption) ?_
      rotate_left
      · (intro w hSw; (try dsimp only at hSw); go_simp; try with_reducible rfl)
      simp only [Act.put, List.setIfInBounds_toArray, List.set_cons_zero, List.set_cons_succ]
      refine wpAnyL_take (i := 2) (v := ?_) rfl (by kernel_rfl) (by kernel_rfl) (by kernel_rfl) (by kernel_rfl) (fun _ _ _ h => h) (Or.inl ⟨by kernel_rfl, ?_⟩) (by assumption) ?_
      rotate_left
      · (intro w hSw; (try dsimp only at hSw); go_simp; try with_reducible rfl)
      simp only [Act.put, List.setIfInBounds_toArray, List.set_cons_zero, List.set_cons_succ]
      refine wpAnyL_take (i := 4) (v := ?_) rfl (by kernel_rfl) (by kernel_rfl) (by kernel_rfl) (by kernel_rfl) (fun _ _ _ h => h) (Or.inl ⟨by kernel_rfl, ?_⟩) (by assumption) ?_
      rotate_left
      · (intro w hSw; (try dsimp only at hSw); go_simp; try with_reducible rfl)
      simp only [Act.put, List.setIfInBounds_toArray, List.set_cons_zero, List.set_cons_succ]
      refine wpAnyL_take (i := 5) (v := ?_) rfl (by kernel_rfl) (by kernel_rfl) (by kernel_rfl) (by kernel_rfl) (fun _ _ _ h => h) (Or.inl ⟨by kernel_rfl, ?_⟩) (by assumption) ?_
      rotate_left
      · (intro w hSw; (try dsimp only at hSw); go_simp; try with_reducible rfl)
      simp only [Act.put, List.setIfInBounds_toArray, List.set_cons_zero, List.set_cons_succ]
      refine wpAnyL_take (i := 6) (v := ?_) rfl (by kernel_rfl) (by kernel_rfl) (by kernel_rfl) (by kernel_rfl) (fun _ _ _ h => h) (Or.inl ⟨by kernel_rfl, ?_⟩) (by assumption) ?_
      rotate_left
      · (intro w hSw; (try dsimp only at hSw); go_simp; try with_reducible rfl)
      simp only [Act.put, List.setIfInBounds_toArray, List.set_cons_zero, List.set_cons_succ]
      refine wpAnyL_take (i := 7) (v := ?_) rfl (by kernel_rfl) (by kernel_rfl) (by kernel_rfl) (by kernel_rfl) (fun _ _ _ h => h) (Or.inl ⟨by kernel_rfl, ?_⟩) (by assumption) ?_
      rotate_left
      · (intro w hSw; (try dsimp only at hSw); go_simp; try with_reducible rfl)
      simp only [Act.put, List.setIfInBounds_toArray, List.set_cons_zero, List.set_cons_succ]
      refine wpAnyL_one (i := 3) (by decide +kernel) rfl (fun K hK => ?_)
      go_simp
      go_at_call 74
      refine (HIx.out _ HA1.out).mono ?_
      rintro e V3 ⟨rfl, hb⟩
      have HA2 := Lib.hid (seq HA1.out hb)
      clear hb
      refine hK.out _ _ (Hx.out _ HA2.out) (fun hHeld => ?_)
      clear hK K
      try simp only [Act.put, List.setIfInBounds_toArray, List.set_cons_zero, List.set_cons_succ]
      refine wpAnyL_one (i := 8) (by decide +kernel) rfl (fun K hK => ?_)
      go_simp
      go_at_call 75
      refine (HNf.out _).mono ?_
      rintro e V4 ⟨rfl, hb⟩
      have HA3 := Lib.hid (seq HA2.out hb)
      clear hb
      refine hK.out _ _ (Hx.out _ HA3.out) (fun hHeld => ?_)
      clear hK K
      try simp only [Act.put, List.setIfInBounds_toArray, List.set_cons_zero, List.set_cons_succ]
      refine wpAnyL_take (i := 9) (v := ?_) rfl (by kernel_rfl) (by kernel_rfl) (by kernel_rfl) (by kernel_rfl) (fun _ _ _ h => h) (Or.inl ⟨by kernel_rfl, ?_⟩) (by assumption) ?_
      rotate_left
      · (intro w hSw; (try dsimp only at hSw); go_simp; try with_reducible rfl)
      simp only [Act.put, List.setIfInBounds_toArray, List.set_cons_zero, List.set_cons_succ]
      refine wpAnyL_take (i := 10) (v := ?_) rfl (by kernel_rfl) (by kernel_rfl) (by kernel_rfl) (by kernel_rfl) (fun _ _ _ h => h) (Or.inl ⟨by kernel_rfl, ?_⟩) (by assumption) ?_
      rotate_left
      · (intro w hSw; (try dsimp only at hSw); go_simp; try with_reducible rfl)
      simp only [Act.put, List.setIfInBounds_toArray, List.set_cons_zero, List.set_cons_succ]
      refine wpAnyL_last (i := 11) (by kernel_rfl) rfl (by kernel_rfl) (by kernel_rfl) (fun K hK => ?_)
      go_simp
      refine hK.out _ _ ?_
      clear hK K
      try simp only [Act.put, List.setIfInBounds_toArray, List.set_cons_zero, List.set_cons_succ]
      rw [Hap.out]
      clear Hap HIx HNf HA1 HA2 hcat1 hcat2 s1 s2 s3 s5
      go_wp2_with (fail)
      clear hHeld
      go_loopw [5, 8] (fun sv jv wr => ∃ (j : Nat) (dn : List UInt8), sv = .string (str dn) ∧ jv = .int .i64 j ∧ j ≤ x.fs.length ∧ dn ++ (x.fs.drop j).flatMap (fun z => Wr.Wire.fix z.toNat) = p3 ∧ Below wA.heap.size wA wr) (fun _ jv _ => x.fs.length - (intOf jv).toNat)
      case atStart => exact ⟨0, d2, rfl, rfl, by omega, Hst.out, HA3.out⟩
      case round =>
        clear HA3 Hst
        obtain ⟨j, dn, rfl, rfl, hj, hd, hb⟩ := hrel
        obtain ⟨x0, x1, x2⟩ := Hx.out wr hb
        by_cases hltj : j < x.fs.length
        · have hrow := HX.out.fs.below hb
          obtain ⟨z, hz, hz2⟩ := isU_row hrow hltj
          obtain ⟨b0, off, ha, hc⟩ := hrow.cell
          obtain rfl : af = some ⟨b0, off, none⟩ := by
            rcases ha with e | e
            · rw [e] at hltj; cases hltj
            · exact e
          have q0 := hc j hltj
          rw [drop_cons 0 hltj, List.flatMap_cons, hz] at hd
          rw [hz] at q0
          simp only [Int.toNat_natCast] at hd
          have hdl : dn.length + (Wr.Wire.fix z).length ≤ 900000 := by have h1 := Hp3.out; rw [← hd] at h1; simp only [List.length_append] at h1; omega
          have s1 : (str dn).size ≤ 900000 := by rw [str_size]; omega
          have s2 : (str (Wr.Wire.fix z)).size ≤ 900000 := by rw [str_size]; omega
          have HC := Lib.hid (fun W => Wr.refFloat_any z W hz2)
          have Hap := Lib.hid (str_app dn (Wr.Wire.fix z))
          have HB := Lib.hid hb
          have Hd := Lib.hid hd
          generalize str (Wr.Wire.fix z) = sz at *
          have j1 : (j : Int) < x.fs.length := by omega
          have j2 : (0 : Int) ≤ j := by omega
          have j3 : ((j : Int)).toNat = j := by omega
          clear hrow hz hz2 ha hc hd hdl hb
          go_wp2_with (go_at_call 76; refine (HC.out _).mono ?_; rintro e w2 ⟨rfl, hb2⟩; have HB2 := Lib.hid (seq HB.out hb2); clear hb2)
          go_roundw
          case rel => exact ⟨j + 1, dn ++ Wr.Wire.fix z, by rw [← Hap.out], by go_num, by omega, by rw [List.append_assoc]; exact Hd.out, HB2.out⟩
          case measure => simp [intOf]; omega
        · obtain rfl : j = x.fs.length := by omega
          rw [flat_nil, List.append_nil] at hd
          subst hd
          have j1 : ¬ (x.fs.length : Int) < x.fs.length := by omega
          have s1 : (str dn).size ≤ 900000 := by rw [str_size]; exact Hp3.out
          have Hap := Lib.hid (str_app dn (Wr.Wire.num x.ws.length))
          have Hst := Lib.hid (show (dn ++ Wr.Wire.num x.ws.length) ++ (x.ws.drop 0).flatMap (fun z => Wr.Wire.num z.toNat) = dn ++ wrdsB x.ws by unfold wrdsB; rw [List.append_assoc]; rfl)
          obtain ⟨d2, hd2⟩ : ∃ d2, dn ++ Wr.Wire.num x.ws.length = d2 := ⟨_, rfl⟩
          rw [hd2] at Hst Hap
          clear hd2
          obtain ⟨p5, hp5e⟩ : ∃ p5, dn ++ wrdsB x.ws = p5 := ⟨_, rfl⟩
          rw [hp5e] at Hst Hp5 Hend
          clear hp5e
          generalize str (Wr.Wire.num x.ws.length) = sw at *
          have HB := Lib.hid hb
          clear hb
          go_wp2_with (go_at_call 75; refine (HNw.out _).mono ?_; rintro e w2 ⟨rfl, hb2⟩; have HB2 := Lib.hid (seq HB.out hb2); clear hb2)
          rw [Hap.out]
          clear x0 x1 x2 Hap s1 s4
          go_loopw [5, 9] (fun sv jv wr => ∃ (j : Nat) (dn : List UInt8), sv = .string (str dn) ∧ jv = .int .i64 j ∧ j ≤ x.ws.length ∧ dn ++ (x.ws.drop j).flatMap (fun z => Wr.Wire.num z.toNat) = p5 ∧ Below wA.heap.size wA wr) (fun _ jv _ => x.ws.length - (intOf jv).toNat)
          case atStart => exact ⟨0, d2, rfl, rfl, by omega, Hst.out, HB2.out⟩
          case round =>
            clear HB HB2 Hst
            obtain ⟨j, dn, rfl, rfl, hj, hd, hb⟩ := hrel
            obtain ⟨x0, x1, x2⟩ := Hx.out wr hb
            by_cases hltj : j < x.ws.length
            · have hrow := HX.out.ws.below hb
              obtain ⟨z, hz, hz2⟩ := isU_row hrow hltj
              obtain ⟨b0, off, ha, hc⟩ := hrow.cell
              obtain rfl : aw = some ⟨b0, off, none⟩ := by
                rcases ha with e | e
                · rw [e] at hltj; cases hltj
                · exact e
              have q0 := hc j hltj
              rw [drop_cons 0 hltj, List.flatMap_cons, hz] at hd
              rw [hz] at q0
              simp only [Int.toNat_natCast] at hd
              have hdl : dn.length + (Wr.Wire.num z).length ≤ 900000 := by have h1 := Hp5.out; rw [← hd] at h1; simp only [List.length_append] at h1; omega
              have s1 : (str dn).size ≤ 900000 := by rw [str_size]; omega
              have s2 : (str (Wr.Wire.num z)).size ≤ 900000 := by rw [str_size]; omega
              have HC := Lib.hid (fun W => Wr.refNum_any z W hz2)
              have Hap := Lib.hid (str_app dn (Wr.Wire.num z))
              have HB := Lib.hid hb
              have Hd := Lib.hid hd
              generalize str (Wr.Wire.num z) = sz at *
              have j1 : (j : Int) < x.ws.length := by omega
              have j2 : (0 : Int) ≤ j := by omega
              have j3 : ((j : Int)).toNat = j := by omega
              clear hrow hz hz2 ha hc hd hdl hb
              go_wp2_with (go_at_call 75; refine (HC.out _).mono ?_; rintro e w2 ⟨rfl, hb2⟩; have HB2 := Lib.hid (seq HB.out hb2); clear hb2)
              go_roundw
              case rel => exact ⟨j + 1, dn ++ Wr.Wire.num z, by rw [← Hap.out], by go_num, by omega, by rw [List.append_assoc]; exact Hd.out, HB2.out⟩
              case measure => simp [intOf]; omega
            · obtain rfl : j = x.ws.length := by omega
              rw [flat_nil, List.append_nil] at hd
              subst hd
              have j1 : ¬ (x.ws.length : Int) < x.ws.length := by omega
              have HB := Lib.hid hb
              clear hb
              go_wp2_with (fail)
              go_roundw
              case rel => exact ⟨i + 1, dn, rfl, by go_num, by have := Hlt.out; omega, Hend.out, HA0.out.trans (HB.out.mono HA0.out.size)⟩
              case measure => simp [intOf]; have := Hlt.out; omega
    · obtain rfl : i = N := by omega
      have hn : (T.ns.drop i).flatMap nodeB = [] := by rw [← HTn.out]; exact flat_nil nodeB
      rw [hn, List.append_nil] at hd
      subst hd
      have k1 : ¬ (i : Int) < i := by omega
      have HB := Lib.hid hb
      clear hb hn
      go_wp2_with (go_at_call 29; refine (HSl.out _).mono ?_; rintro e w5 ⟨rfl, hb5⟩; have H5 := Lib.hid (HV1.out.trans ((seq HB.out hb5).mono HV1.out.size)); clear hb5)
      go_ret2
      subst hgb
      exact ⟨rfl, H5.out⟩
end Go.Proofs.Ytplkogjnmjjjgaa
