/- The walk of the reference's Take. -/
import Derived.Test.YtplkogjnmjjjgaaCTake
import Derived.Test.YtplkogjnmjjjgaaCRPut
namespace Go.Proofs.Ytplkogjnmjjjgaa
open Go.ChangeShapes Go.WideShapes Go.ChangeAt Go.RowKit
set_option linter.unusedVariables false
set_option linter.unusedSimpArgs false

theorem nodeR_eats : Eats nodeR := fun s => by
  rw [(nodeR_P s).1]
  exact nodeP_eats s
theorem str_self (s : ByteArray) : str s.data.toList = s := by
  apply ByteArray.ext
  apply Array.toList_inj.1
  rw [str_data]
theorem refPut_all {V : World} {ar an : Option Addr} {g : Gr} (cr cn : Nat) (hG : GRd V ar an g) (few : FewG g) (hlen : mayG g = true → (graphB (trimG g)).length ≤ 900000) :
    Calls Try.prog 33 #[.agg #[.slice ar g.rs.length cr, .slice an g.ns.length cn]] V fun e w' => e = .returned (.tuple #[.string (if mayG g then putS g else ⟨#[]⟩), .int .i64 (if mayG g then 0 else 5)]) ∧ Below V.heap.size V w' := by
  cases hm : mayG g with
  | true => exact refPut_any cr cn hG few hm (hlen hm)
  | false => exact refPut_bad cr cn hG hm
set_option maxRecDepth 100000 in
set_option maxHeartbeats 4000000 in
theorem refTake_bad {w : World} {s : ByteArray} (hs : s.size ≤ 2100) (he : openE s ≠ 0) :
    Calls Try.prog 31 #[.string s] w fun e w' => ∃ ar an cr cn, e = .returned (.tuple #[.agg #[.slice ar (takeG s).rs.length cr, .slice an (takeG s).ns.length cn], .int .i64 (takeE s : Nat)]) ∧ ∃ B, OGr w.heap.size (takeG s) ar an cr cn B ∧ FKN w B w' := by
  have hok : takeOk s = false := by unfold takeOk; exact decide_eq_false fun h => he h.1
  have hg : takeG s = ⟨[], []⟩ := by unfold takeG; rw [hok]; rfl
  have hE : takeE s = openE s := by unfold takeE; rw [if_pos he]
  rw [hg, hE]
  have h1 := (FKN.refl w).box #[.slice none 0 0, .slice none 0 0] 25
  have HO := Lib.hid (fun W => refOpen_all s W (by omega))
  obtain ⟨ee, hee⟩ : ∃ ee, openE s = ee := ⟨_, rfl⟩
  rw [hee] at HO he ⊢
  have hne : (((ee : Nat) : Int) != 0) = true := by simp; exact he
  have H1 := Lib.hid h1
  clear h1 hs he hok hg hE hee
  obtain ⟨b2, hb2⟩ : ∃ b2, w.heap.size = b2 := ⟨_, rfl⟩
  simp only [hb2] at H1
  go_enter Try.func31, Try.ntmps31
  go_wp2_with (go_at_call 35; refine (HO.out _).mono ?_; rintro e w2 ⟨rfl, hb⟩; have hF := H1.out.grow hb; have hq := hF.1.block (List.mem_cons_self ..); have c0 := at_cell hq 0 _ rfl; have c1 := at_cell hq 1 _ rfl; have f0 := at_free hq 0; have f1 := at_free hq 1; have hs := (hF.set 0 (.slice none 0 0)).set 1 (.slice none 0 0); obtain ⟨V, hV⟩ : ∃ V, (w2.setCell ⟨b2, 0, none⟩ (.slice none 0 0)).setCell ⟨b2, 1, none⟩ (.slice none 0 0) = V := ⟨_, rfl⟩; rw [hV] at hs; have hq2 := hs.1.block (List.mem_cons_self ..); have r0 := at_cell hq2 0 _ rfl; have r1 := at_cell hq2 1 _ rfl; have HS := Lib.hid hs.tail; clear hb hF hq hs hq2)
  exact bodyPost_ret (v := .tuple #[.agg #[.slice none 0 0, .slice none 0 0], .int .i64 (ee : Nat)]) (by simp [results, Try.results31, go_sem, r0, r1]) rfl ⟨none, none, 0, 0, rfl, [], OGr.none _, HS.out⟩
set_option maxRecDepth 100000 in
set_option maxHeartbeats 4000000 in
theorem refTake_main {w : World} {s : ByteArray} (hs : s.size ≤ 2100) (he : openE s = 0) :
    Calls Try.prog 31 #[.string s] w fun e w' => ∃ ar an cr cn, e = .returned (.tuple #[.agg #[.slice ar (takeG s).rs.length cr, .slice an (takeG s).ns.length cn], .int .i64 (takeE s : Nat)]) ∧ ∃ B, OGr w.heap.size (takeG s) ar an cr cn B ∧ FKN w B w' := by
  obtain ⟨i3, hj3, hv0, hv1, hv2⟩ := info_parts node_info
  have h1 := (FKN.refl w).box #[.slice none 0 0, .slice none 0 0] 25
  have HO := Lib.hid (fun W => refOpen_all s W (by omega))
  rw [he] at HO
  have hvs := openV_size s
  have hE : takeE s = if takeOk s then 0 else 2 := by unfold takeE; rw [if_neg (by omega)]
  have hGt : takeG s = if takeOk s then (parsed s).1 else ⟨[], []⟩ := rfl
  have hpok : OkG (parsed s).1 := graphP_ok _
  have hpfew : FewG (parsed s).1 := graphP_few (by rw [size_list]; omega)
  have hplen : mayG (parsed s).1 = true → (graphB (trimG (parsed s).1)).length ≤ 900000 := graphP_len (by rw [size_list]; omega)
  have hL : (openV s).data.toList.length ≤ 2100 := by rw [size_list]; omega
  obtain ⟨hP1, hP2⟩ := graphR_P ((openV s).data.toList, 0)
  rw [hE, hGt]
  have hok : takeOk s = decide ((parsed s).2.2 = 0 ∧ mayG (parsed s).1 = true ∧ putS (parsed s).1 = s) := by
    unfold takeOk
    simp only [he, true_and]
  rw [show graphP ((openV s).data.toList, 0) = parsed s from rfl] at hP1 hP2
  obtain ⟨t, ht⟩ : ∃ t, openV s = t := ⟨_, rfl⟩
  rw [ht] at HO hL hP1 hP2
  have heat := (rowP_eats intP_eats (t.data.toList, 0)).1
  rw [← (rowR_P intP (t.data.toList, 0)).1] at heat
  obtain ⟨xr, s1, hr⟩ : ∃ xr s1, rowR intP (t.data.toList, 0) = (xr, s1) := ⟨_, _, rfl⟩
  rw [hr] at heat
  simp only at heat
  have hln := (manyP_len nodeR_eats (numP s1).1 (numP s1).2).1
  have hel := (numP_eats s1).1
  have hlt := numP_lt s1
  obtain ⟨xn, s2, hn⟩ : ∃ xn s2, manyP nodeR (numP s1).1 (numP s1).2 = (xn, s2) := ⟨_, _, rfl⟩
  have hgR : graphR (t.data.toList, 0) = (⟨xr, xn⟩, s2) := by
    unfold graphR
    simp only [hr, hn]
  rw [hgR] at hP1 hP2
  rw [hn] at hln
  simp only at hP1 hP2 hln
  have HI := Lib.hid (fun W M rb (h : FKN w ((rb, rrO (t.data.toList, 0)) :: M) W) => rints_fk h (by simp only; omega))
  rw [hr] at HI
  have HNu := Lib.hid (fun W M rb (h : FKN w ((rb, rrO s1) :: M) W) => rnum_fk h (by omega))
  obtain ⟨n0, hn0⟩ : ∃ n0, (numP s1).1 = n0 := ⟨_, rfl⟩
  obtain ⟨s1b, hs1⟩ : ∃ s1b, (numP s1).2 = s1b := ⟨_, rfl⟩
  simp only [hn0, hs1] at hn HNu hlt hel
  simp only at HI
  have Hn := Lib.hid hn
  have Hxn := Lib.hid (show xn.length ≤ 100001 by rw [hs1] at hln; omega)
  have hs1l : s1b.1.length ≤ 100000 := by omega
  have H1 := Lib.hid h1
  have HP1 := Lib.hid hP1
  have HP2 := Lib.hid hP2
  have Hok := Lib.hid hok
  have HPO := Lib.hid (And.intro hpok (And.intro hpfew hplen))
  have Hself := Lib.hid (str_self t)
  clear h1 hs he hvs hE hGt hok hpok hpfew hplen hL ht hP1 hP2 heat hr hln hel hn hgR hn0 hs1
  generalize parsed s = pq at *
  obtain ⟨pg, ps2⟩ := pq
  simp only at HP1 HP2 HPO Hok ⊢
  obtain ⟨rg, hrg⟩ : ∃ rg, (if takeOk s = true then pg else ⟨[], []⟩) = rg := ⟨_, rfl⟩
  obtain ⟨re, hre⟩ : ∃ re : Nat, (if takeOk s = true then 0 else 2) = re := ⟨_, rfl⟩
  rw [hrg, hre]
  have HRG := Lib.hid hrg
  have HRE := Lib.hid hre
  clear hrg hre
  obtain ⟨b2, hb2⟩ : ∃ b2, w.heap.size = b2 := ⟨_, rfl⟩
  simp only [hb2] at H1
  go_enter Try.func31, Try.ntmps31
  go_wp2_with (first
    | (go_at_call 35; refine (HO.out _).mono ?_; rintro e w2 ⟨rfl, hb⟩; have hB := (H1.out.grow hb).box #[.string t, .bool false] 109; obtain ⟨rb, hrb⟩ : ∃ rb, w2.heap.size = rb := ⟨_, rfl⟩; simp only [hrb] at hB; have hB : FKN w ((rb, rrO (t.data.toList, 0)) :: [(b2, Obj.cells #[.slice none 0 0, .slice none 0 0] 25 (0, 0))]) _ := (by unfold rrO; rw [Hself.out]; exact hB); have H2 := Lib.hid hB; clear hb hB)
    | (go_at_call 70; refine (HI.out _ _ _ H2.out).mono ?_; rintro e w3 ⟨al, cap, rfl, R, hr, hF⟩; have HRr := Lib.hid hr; have hB := hF.box #[.slice al xr.length cap, .slice none 0 0] 25; obtain ⟨gb, hgb⟩ : ∃ gb, w3.heap.size = gb := ⟨_, rfl⟩; simp only [hgb] at hB; have H3 := Lib.hid (hB.perm (List.Perm.swap _ _ _)); clear hr hF hB)
    | (go_at_call 71; refine (HNu.out _ _ _ H3.out).mono ?_; rintro e w4 ⟨rfl, hF⟩; have H4 := Lib.hid hF; clear hF))
  clear HI HNu H1 H2 H3 HO
  go_loopw [8] (fun nv wr => ∃ (n : Nat) (st : Rs) (ns : List Nd) (xs : List Value) (an : Option Addr) (cn : Nat) (Rn Rx : List (Nat × Obj)), nv = .int .u64 n ∧ n < 18446744073709551616 ∧ st.1.length ≤ 100000 ∧ (ns ++ (manyP nodeR n st).1, (manyP nodeR n st).2) = (xn, s2) ∧ Rw w.heap.size 47 3 ns.length xs an cn Rn ∧ NsB w.heap.size ns xs Rx ∧ FKN w ((rb, rrO st) :: ((gb, Obj.cells #[.slice al xr.length cap, .slice an ns.length cn] 25 (0, 0)) :: (b2, Obj.cells #[.slice none 0 0, .slice none 0 0] 25 (0, 0)) :: (Rn ++ (Rx ++ R)))) wr) (fun nv _ => (intOf nv).toNat)
  case atStart => exact ⟨n0, s1b, [], [], none, 0, [], [], rfl, hlt, hs1l, by rw [List.nil_append]; exact Hn.out, Rw.nil _ _ _, .nil, H4.out.perm (permC fun x => by simp only [List.count_append, List.count_cons, List.append_assoc, List.cons_append]; ac_rfl)⟩
  case round =>
    clear H4 Hn hlt hs1l
    obtain ⟨n, st, ns, xs, an, cn, Rn, Rx, rfl, hn, hsl, htot, hrn, hns, hF⟩ := hrel
    by_cases hgo : n ≠ 0 ∧ st.2 = 0
    · obtain ⟨h0, hy⟩ := hgo
      obtain ⟨m, hm⟩ : ∃ m, n = m + 1 := ⟨n - 1, by omega⟩
      have hpos : (0 : Int) < (n : Int) := by omega
      have hw : IntKind.u64.wrap ((n : Int) - 1) = (m : Int) := by rw [hm]; exact wrap_pred (by omega)
      obtain ⟨⟨c0, c1⟩, f0, f1⟩ := rr_cells hF _ (noted hy)
      rw [hm, manyP_more hy] at htot
      have hel := (nodeR_eats st).1
      have Htl := Lib.hid (show ns.length ≤ 100000 by
        have h1 := congrArg (fun q => q.1.length) htot
        have h2 := Hxn.out
        simp at h1
        omega)
      have hF1 := hF.grow (below_drew wr)
      have HNd := Lib.hid (rnode_fk hF1 (by omega))
      obtain ⟨v, hv2⟩ : ∃ v, (nodeR st).1 = v := ⟨_, rfl⟩
      obtain ⟨st2, hs2⟩ : ∃ st2, (nodeR st).2 = st2 := ⟨_, rfl⟩
      simp only [hv2, hs2] at htot HNd hel
      have Htot := Lib.hid htot
      have Hsl2 := Lib.hid (Nat.le_trans hel hsl)
      have Hm := Lib.hid hm
      have Hrn := Lib.hid hrn
      have Hns := Lib.hid hns
      have HS := Lib.hid (fun W K' (hW : FKN w ((gb, Obj.cells #[.slice al xr.length cap, .slice an ns.length cn] 25 (0, 0)) :: K') W) => (show W.cell? ⟨gb, 1, none⟩ = some (.slice an ns.length cn) from at_cell (hW.1.block (List.mem_cons_self ..)) 1 _ rfl))
      have HF1 := Lib.hid (hF1.perm (K' := (gb, Obj.cells #[.slice al xr.length cap, .slice an ns.length cn] 25 (0, 0)) :: ((rb, rrO st) :: (b2, Obj.cells #[.slice none 0 0, .slice none 0 0] 25 (0, 0)) :: (Rn ++ (Rx ++ R)))) (permC fun x => by simp only [List.count_append, List.count_cons, List.append_assoc, List.cons_append]; ac_rfl))
      clear htot hel hm h0 hsl hF hF1 hv2 hs2 hrn hns hy
      go_wp2_with (fail)
      refine wp_region_heldL (S := fun W => W.cell? ⟨gb, 1, none⟩ = some (.slice an ns.length cn)) (by kernel_rfl) (HS.out _ _ HF1.out) (fun hHeld => ?_)
      generalize wr.drew = V0 at *
      refine wpAnyL_take (i := 0) (v := ?_) rfl (by kernel_rfl) (by kernel_rfl) (by kernel_rfl) (by kernel_rfl) (fun _ _ _ h => h) (Or.inl ⟨by kernel_rfl, ?_⟩) (by assumption) ?_
      rotate_left
      · (intro w hSw; (try dsimp only at hSw); go_simp; try with_reducible rfl)
      simp only [Act.put, List.setIfInBounds_toArray, List.set_cons_zero, List.set_cons_succ]
      refine wpAnyL_take (i := 1) (v := ?_) rfl (by kernel_rfl) (by kernel_rfl) (by kernel_rfl) (by kernel_rfl) (fun _ _ _ h => h) (Or.inl ⟨by kernel_rfl, ?_⟩) (by assumption) ?_
      rotate_left
      · (intro w hSw; (try dsimp only at hSw); go_simp; try with_reducible rfl)
      simp only [Act.put, List.setIfInBounds_toArray, List.set_cons_zero, List.set_cons_succ]
      refine wpAnyL_take (i := 2) (v := ?_) rfl (by kernel_rfl) (by kernel_rfl) (by kernel_rfl) (by kernel_rfl) (fun _ _ _ h => h) (Or.inl ⟨by kernel_rfl, ?_⟩) (by assumption) ?_
      rotate_left
      · (intro w hSw; (try dsimp only at hSw); go_simp; try with_reducible rfl)
      simp only [Act.put, List.setIfInBounds_toArray, List.set_cons_zero, List.set_cons_succ]
      refine wpAnyL_one (i := 3) (by decide +kernel) rfl (fun K hK => ?_)
      go_simp
      go_at_call 72
      refine HNd.out.mono ?_
      rintro e V1 ⟨ap, af, aw, cp, cf, cw, rfl, Rp, Rf, Rw2, hrp, hrf, hrw, hF⟩
      have hF3 := hF.perm (K' := (gb, Obj.cells #[.slice al xr.length cap, .slice an ns.length cn] 25 (0, 0)) :: ((rb, rrO st2) :: (b2, Obj.cells #[.slice none 0 0, .slice none 0 0] 25 (0, 0)) :: (Rp ++ (Rf ++ (Rw2 ++ (Rn ++ (Rx ++ R))))))) (permC fun x => by simp only [List.count_append, List.count_cons, List.append_assoc, List.cons_append]; ac_rfl)
      refine hK.out _ _ (HS.out _ _ hF3) (fun hHeld => ?_)
      clear hK K
      try simp only [Act.put, List.setIfInBounds_toArray, List.set_cons_zero, List.set_cons_succ]
      obtain ⟨al', cap', w5, R', hrun, hr', hN⟩ := Hrn.out.app1 (hF3.perm (K' := Rn ++ ((gb, Obj.cells #[.slice al xr.length cap, .slice an ns.length cn] 25 (0, 0)) :: ((rb, rrO st2) :: (b2, Obj.cells #[.slice none 0 0, .slice none 0 0] 25 (0, 0)) :: (Rp ++ (Rf ++ (Rw2 ++ (Rx ++ R))))))) (permC fun x => by simp only [List.count_append, List.count_cons, List.append_assoc, List.cons_append]; ac_rfl)) hj3 hv0 hv1 hv2 rfl (by decide) Try.underlying23 #[.slice ap v.ps.length cp, .slice af v.fs.length cf, .slice aw v.ws.length cw] rfl (by intro u hu; simp only [List.mem_cons, List.not_mem_nil, or_false] at hu; rcases hu with rfl | rfl | rfl <;> rfl) (by have := Htl.out; unfold maxLen; omega) (by have := Htl.out; omega)
      have hB := (hF3.box #[.slice ap v.ps.length cp, .slice af v.fs.length cf, .slice aw v.ws.length cw] 47).perm (K' := (gb, Obj.cells #[.slice al xr.length cap, .slice an ns.length cn] 25 (0, 0)) :: ((V1.heap.size, Obj.cells #[.slice ap v.ps.length cp, .slice af v.fs.length cf, .slice aw v.ws.length cw] 47 (0, 0)) :: ((rb, rrO st2) :: (b2, Obj.cells #[.slice none 0 0, .slice none 0 0] 25 (0, 0)) :: (Rp ++ (Rf ++ (Rw2 ++ (Rn ++ (Rx ++ R)))))))) (permC fun x => by simp only [List.count_append, List.count_cons, List.append_assoc, List.cons_append]; ac_rfl)
      have hN2 := hN.perm (K' := (gb, Obj.cells #[.slice al xr.length cap, .slice an ns.length cn] 25 (0, 0)) :: ((rb, rrO st2) :: (b2, Obj.cells #[.slice none 0 0, .slice none 0 0] 25 (0, 0)) :: (R' ++ ((Rp ++ (Rf ++ (Rw2 ++ Rx))) ++ R)))) (permC fun x => by simp only [List.count_append, List.count_cons, List.append_assoc, List.cons_append]; ac_rfl)
      have HRUN := Lib.hid hrun
      have Hr' := Lib.hid hr'
      have Hns2 := Lib.hid (NsB.snoc (x := v) Hns.out hrp hrf hrw)
      refine wpAnyL_one (i := 4) (by decide +kernel) rfl (fun K hK => ?_)
      go_simp
      refine hK.out _ _ (HS.out _ _ hB) (fun hHeld => ?_)
      clear hK K
      try simp only [Act.put, List.setIfInBounds_toArray, List.set_cons_zero, List.set_cons_succ]
      refine wpAnyL_one (i := 5) (by decide +kernel) rfl (fun K hK => ?_)
      refine step_append_run _ (by rfl) (.tmp 40) (.tmp 43) 23 23 _ (by rfl) (by rfl) _ _ (by rfl) (by rfl) _ w5 HRUN.out ?_
      refine hK.out _ _ (HS.out _ _ hN2) (fun hHeld => ?_)
      clear hK K
      try simp only [Act.put, List.setIfInBounds_toArray, List.set_cons_zero, List.set_cons_succ]
      have hq := hN2.1.block (List.mem_cons_self ..)
      have b1 := at_cell hq 1 _ rfl
      have g1 := at_free hq 1
      refine wpAnyL_take (i := 6) (v := ?_) rfl (by kernel_rfl) (by kernel_rfl) (by kernel_rfl) (by kernel_rfl) (fun _ _ _ h => h) (Or.inl ⟨by kernel_rfl, ?_⟩) (by assumption) ?_
      rotate_left
      · (intro w hSw; (try dsimp only at hSw); go_simp; try with_reducible rfl)
      simp only [Act.put, List.setIfInBounds_toArray, List.set_cons_zero, List.set_cons_succ]
      refine wpAnyL_last (i := 7) (by kernel_rfl) rfl (by kernel_rfl) (by kernel_rfl) (fun K hK => ?_)
      go_simp
      refine hK.out _ _ ?_
      clear hK K
      try simp only [Act.put, List.setIfInBounds_toArray, List.set_cons_zero, List.set_cons_succ]
      have hfin : FKN w ((gb, Obj.cells #[.slice al xr.length cap, .slice al' (ns.length + 1) cap'] 25 (0, 0)) :: ((rb, rrO st2) :: (b2, Obj.cells #[.slice none 0 0, .slice none 0 0] 25 (0, 0)) :: (R' ++ ((Rp ++ (Rf ++ (Rw2 ++ Rx))) ++ R)))) _ := hN2.set 1 (.slice al' (ns.length + 1) cap')
      have HFIN := Lib.hid (hfin.perm (K' := (rb, rrO st2) :: ((gb, Obj.cells #[.slice al xr.length cap, .slice al' (ns.length + 1) cap'] 25 (0, 0)) :: (b2, Obj.cells #[.slice none 0 0, .slice none 0 0] 25 (0, 0)) :: (R' ++ ((Rp ++ (Rf ++ (Rw2 ++ Rx))) ++ R)))) (permC fun x => by simp only [List.count_append, List.count_cons, List.append_assoc, List.cons_append]; ac_rfl))
      clear hfin hN2 hB hN hrun hr' hF3 hF hq b1 g1 hHeld hrp hrf hrw
      go_wp2_with (fail)
      go_roundw
      case rel => exact ⟨m, st2, ns ++ [v], _, al', cap', R', _, rfl, by have := Hm.out; omega, Hsl2.out, by simpa using Htot.out, by rw [List.length_append]; exact Hr'.out, Hns2.out, by rw [List.length_append]; exact HFIN.out⟩
      case measure => simp [intOf]; have := Hm.out; omega
    · have hxs : ns = xn ∧ st = s2 := by
        by_cases h0 : n = 0
        · rw [h0, manyP_zero, List.append_nil, Prod.mk.injEq] at htot
          exact htot
        · rw [manyP_bad (fun h => hgo ⟨h0, h⟩), List.append_nil, Prod.mk.injEq] at htot
          exact htot
      obtain ⟨rfl, rfl⟩ := hxs
      by_cases hy : st.2 = 0
      · obtain rfl : n = 0 := Classical.byContradiction fun h => hgo ⟨h, hy⟩
        obtain ⟨⟨c0, c1⟩, f0, f1⟩ := rr_cells hF _ (noted hy)
        have hps : ps2 = st := HP1.out.symm
        have hpg : pg = ⟨xr, ns⟩ := (HP2.out (by rw [hps]; exact hy)).symm
        subst hps
        subst hpg
        obtain ⟨hpok, hpfew, hplen⟩ := HPO.out
        have hok := Hok.out
        have hcase : (takeOk s = false ∧ (mayG ⟨xr, ns⟩ = false ∨ (mayG ⟨xr, ns⟩ = true ∧ putS ⟨xr, ns⟩ ≠ s))) ∨ (takeOk s = true ∧ mayG ⟨xr, ns⟩ = true ∧ putS ⟨xr, ns⟩ = s) := by
          rw [hok]
          by_cases h1 : mayG ⟨xr, ns⟩ = true
          · by_cases h3 : putS ⟨xr, ns⟩ = s
            · exact .inr ⟨decide_eq_true ⟨hy, h1, h3⟩, h1, h3⟩
            · exact .inl ⟨decide_eq_false fun h => h3 h.2.2, .inr ⟨h1, h3⟩⟩
          · exact .inl ⟨decide_eq_false fun h => h1 h.2.1, .inl (by simpa using h1)⟩
        have hF2 := hF.perm (K' := (gb, Obj.cells #[.slice al xr.length cap, .slice an ns.length cn] 25 (0, 0)) :: (b2, Obj.cells #[.slice none 0 0, .slice none 0 0] 25 (0, 0)) :: ((rb, rrO ps2) :: (Rn ++ (Rx ++ R)))) (permC fun x => by simp only [List.count_append, List.count_cons, List.append_assoc, List.cons_append]; ac_rfl)
        have hog : OGr w.heap.size ⟨xr, ns⟩ al an cap cn (R ++ (Rn ++ Rx)) := ⟨R, Rn, xs, Rx, HRr.out, hrn, hns, rfl⟩
        have HOG := Lib.hid hog
        have hrd := hog.rd hF.1 (fun x hx => by simp only [List.mem_append] at hx; simp only [List.mem_cons, List.mem_append]; rcases hx with h | h | h <;> simp [h]) hpok
        have HPut := Lib.hid (refPut_all cap cn hrd hpfew hplen)
        have hq := hF2.1.block (List.mem_cons_self ..)
        have q0 := at_cell hq 0 _ rfl
        have q1 := at_cell hq 1 _ rfl
        have HF2 := Lib.hid hF2
        clear htot hgo hF hF2 hog hrd hq hpok hpfew hplen hok hrn hns Hok HP1 HP2 HPO
        rcases hcase with ⟨hokf, hm | ⟨hm, hp⟩⟩ | ⟨hokf, hm, hp⟩
        all_goals
          rw [hm] at HPut
          simp only [if_true, if_false, Bool.false_eq_true] at HPut
          have HOKF := Lib.hid hokf
          clear hokf
        · clear hm hy
          go_wp2_with (go_at_call 33; refine HPut.out.mono ?_; rintro e w5 ⟨rfl, hb⟩; obtain ⟨⟨q50, q51⟩, ⟨z0, z1⟩, ⟨k0, k1⟩, hcp⟩ := copy2 (HF2.out.grow hb); obtain ⟨V, hV, ⟨r0, r1⟩, hFV⟩ := hcp (.slice none 0 0) (.slice none 0 0); have HFV := Lib.hid hFV; clear hb hcp hFV)
          have e1 := HRG.out
          have e2 := HRE.out
          rw [HOKF.out] at e1 e2
          simp only [Bool.false_eq_true, if_false, if_true] at e1 e2
          subst e1
          subst e2
          subst hb2
          exact bodyPost_ret (v := .tuple #[.agg #[.slice none 0 0, .slice none 0 0], .int .i64 2]) (by simp [results, Try.results31, go_sem, r0, r1]) rfl ⟨none, none, 0, 0, rfl, [], OGr.none _, fkn_nil HFV.out⟩
        · have hpe := str_ne hp
          generalize putS ⟨xr, ns⟩ = ps at *
          clear hm hy hp
          go_wp2_with (go_at_call 33; refine HPut.out.mono ?_; rintro e w5 ⟨rfl, hb⟩; obtain ⟨⟨q50, q51⟩, ⟨z0, z1⟩, ⟨k0, k1⟩, hcp⟩ := copy2 (HF2.out.grow hb); obtain ⟨V, hV, ⟨r0, r1⟩, hFV⟩ := hcp (.slice none 0 0) (.slice none 0 0); have HFV := Lib.hid hFV; clear hb hcp hFV)
          have e1 := HRG.out
          have e2 := HRE.out
          rw [HOKF.out] at e1 e2
          simp only [Bool.false_eq_true, if_false, if_true] at e1 e2
          subst e1
          subst e2
          subst hb2
          exact bodyPost_ret (v := .tuple #[.agg #[.slice none 0 0, .slice none 0 0], .int .i64 2]) (by simp [results, Try.results31, go_sem, r0, r1]) rfl ⟨none, none, 0, 0, rfl, [], OGr.none _, fkn_nil HFV.out⟩
        · rw [hp] at HPut
          clear hm hy hp
          go_wp2_with (go_at_call 33; refine HPut.out.mono ?_; rintro e w5 ⟨rfl, hb⟩; obtain ⟨⟨q50, q51⟩, ⟨z0, z1⟩, ⟨k0, k1⟩, hcp⟩ := copy2 (HF2.out.grow hb); obtain ⟨V, hV, ⟨r0, r1⟩, hFV⟩ := hcp (.slice al xr.length cap) (.slice an ns.length cn); have HFV := Lib.hid hFV; clear hb hcp hFV)
          have e1 := HRG.out
          have e2 := HRE.out
          rw [HOKF.out] at e1 e2
          simp only [Bool.false_eq_true, if_false, if_true] at e1 e2
          subst e1
          subst e2
          subst hb2
          exact bodyPost_ret (v := .tuple #[.agg #[.slice al xr.length cap, .slice an ns.length cn], .int .i64 0]) (by simp [results, Try.results31, go_sem, r0, r1]) rfl ⟨al, an, cap, cn, rfl, _, HOG.out, FKN.drop (K' := [(rb, rrO ps2)]) (HFV.out.perm (permC fun x => by simp only [List.count_append, List.count_cons, List.append_assoc, List.cons_append]; ac_rfl))⟩
      · have hok : takeOk s = false := by
          rw [Hok.out]
          exact decide_eq_false fun h => hy (by rw [HP1.out]; exact h.1)
        have HOKF := Lib.hid hok
        obtain ⟨⟨c0, c1⟩, f0, f1⟩ := rr_cells hF _ (noted' hy)
        have hF2 := hF.perm (K' := (gb, Obj.cells #[.slice al xr.length cap, .slice an ns.length cn] 25 (0, 0)) :: (b2, Obj.cells #[.slice none 0 0, .slice none 0 0] 25 (0, 0)) :: ((rb, rrO st) :: (Rn ++ (Rx ++ R)))) (permC fun x => by simp only [List.count_append, List.count_cons, List.append_assoc, List.cons_append]; ac_rfl)
        obtain ⟨⟨q50, q51⟩, ⟨z0, z1⟩, ⟨k0, k1⟩, hcp⟩ := copy2 hF2
        obtain ⟨V, hV, ⟨r0, r1⟩, hFV⟩ := hcp (.slice none 0 0) (.slice none 0 0)
        have HFV := Lib.hid hFV
        by_cases h0 : n = 0
        · subst h0
          clear htot hgo hF hF2 hrn hns hcp hFV Hok HP1 HP2 HPO hok hy
          go_wp2_with (fail)
          have e1 := HRG.out
          have e2 := HRE.out
          rw [HOKF.out] at e1 e2
          simp only [Bool.false_eq_true, if_false, if_true] at e1 e2
          subst e1
          subst e2
          subst hb2
          exact bodyPost_ret (v := .tuple #[.agg #[.slice none 0 0, .slice none 0 0], .int .i64 2]) (by simp [results, Try.results31, go_sem, r0, r1]) rfl ⟨none, none, 0, 0, rfl, [], OGr.none _, fkn_nil HFV.out⟩
        · have hpos : (0 : Int) < (n : Int) := by omega
          clear htot hgo hF hF2 hrn hns hcp hFV Hok HP1 HP2 HPO hok hy h0
          go_wp2_with (fail)
          have e1 := HRG.out
          have e2 := HRE.out
          rw [HOKF.out] at e1 e2
          simp only [Bool.false_eq_true, if_false, if_true] at e1 e2
          subst e1
          subst e2
          subst hb2
          exact bodyPost_ret (v := .tuple #[.agg #[.slice none 0 0, .slice none 0 0], .int .i64 2]) (by simp [results, Try.results31, go_sem, r0, r1]) rfl ⟨none, none, 0, 0, rfl, [], OGr.none _, fkn_nil HFV.out⟩
theorem refTake_any {w : World} {s : ByteArray} (hs : s.size ≤ 2100) :
    Calls Try.prog 31 #[.string s] w fun e w' => ∃ ar an cr cn, e = .returned (.tuple #[.agg #[.slice ar (takeG s).rs.length cr, .slice an (takeG s).ns.length cn], .int .i64 (takeE s : Nat)]) ∧ ∃ B, OGr w.heap.size (takeG s) ar an cr cn B ∧ FKN w B w' := by
  by_cases he : openE s = 0
  · exact refTake_main hs he
  · exact refTake_bad hs he
end Go.Proofs.Ytplkogjnmjjjgaa
