/- The walk of CanonPuts. -/
import Derived.Test.YtplkogjnmjjjgaaCLives
import Derived.Test.YtplkogjnmjjjgaaCRPut
namespace Go.Proofs.Ytplkogjnmjjjgaa
open Go.ChangeShapes Go.WideShapes Go.ChangeAt Go.RowKit
set_option linter.unusedVariables false
set_option linter.unusedSimpArgs false

theorem near_size {g : Gr} (hf : farG g = false) (h : mayG g = true) : (putS g).size ≤ 100000 := by
  have h1 := trimB_len h
  unfold farG at hf
  rw [Bool.or_eq_false_iff, decide_eq_false_iff_not, decide_eq_false_iff_not] at hf
  unfold putS
  rw [sealed_size, str_size]
  omega
theorem str_eq (s : ByteArray) : (s.toList == s.toList) = true := beq_self_eq_true _
set_option maxRecDepth 100000 in
set_option maxHeartbeats 4000000 in
theorem cputs_any {w : World} {ar an : Option Addr} {g : Gr} (cr cn : Nat) (hG : GRd w ar an g) (hs : SmG g) :
    Calls Try.prog 9 #[.agg #[.slice ar g.rs.length cr, .slice an g.ns.length cn]] w fun e w' => e = .returned (.bool true) ∧ Below w.heap.size w w' := by
  have h1 := (FKN.refl w).box #[.slice ar g.rs.length cr, .slice an g.ns.length cn] 25
  obtain ⟨gb, hgb⟩ : ∃ gb, w.heap.size = gb := ⟨_, rfl⟩
  simp only [hgb] at h1
  have hq := h1.1.block (List.mem_cons_self ..)
  have c0 := at_cell hq 0 _ rfl
  have c1 := at_cell hq 1 _ rfl
  have H1 := Lib.hid h1
  have HG := Lib.hid hG
  have HF := Lib.hid (fun W (h : Below w.heap.size w W) => far_any cr cn (hG.below h) hs)
  have HL := Lib.hid clives_any
  have Hcs := Lib.hid (show ∀ K W, FKN w (K ++ [(gb, Obj.cells #[.slice ar g.rs.length cr, .slice an g.ns.length cn] 25 (0, 0))]) W → W.cell? ⟨gb, 0, none⟩ = some (.slice ar g.rs.length cr) ∧ W.cell? ⟨gb, 1, none⟩ = some (.slice an g.ns.length cn) from fun K W hW =>
    ⟨at_cell (hW.1.block (List.mem_append_right _ (List.mem_cons_self ..))) 0 _ rfl, at_cell (hW.1.block (List.mem_append_right _ (List.mem_cons_self ..))) 1 _ rfl⟩)
  clear h1 hq hG
  cases hf : farG g with
  | true =>
    rw [hf] at HF
    clear hf hs
    go_enter Try.func9, Try.ntmps9
    go_wp2_with (first
      | (go_at_call 10; refine (HF.out _ H1.out.below).mono ?_; rintro e w2 ⟨rfl, hb⟩; have H3 := Lib.hid (H1.out.grow hb); clear hb)
      | (go_at_call 28; refine (HL.out _).mono ?_; rintro e w3 ⟨rfl, hb⟩; have H4 := Lib.hid (H3.out.grow hb); clear hb))
    go_ret
    subst hgb
    exact ⟨rfl, H4.out.below⟩
  | false =>
    have few := (near_of hf).few
    rw [hf] at HF
    cases hm : mayG g with
    | false =>
      have HP := Lib.hid (fun W (h : Below w.heap.size w W) => put_bad cr cn (HG.out.below h) hm)
      have HRP := Lib.hid (fun W (h : Below w.heap.size w W) => refPut_bad cr cn (HG.out.below h) hm)
      have HD := Lib.hid (fun W (h : Below w.heap.size w W) => digest_bad cr cn (HG.out.below h) hm)
      clear hf hs few hm
      go_enter Try.func9, Try.ntmps9
      go_wp2_with (first
        | (go_at_call 10; refine (HF.out _ H1.out.below).mono ?_; rintro e w2 ⟨rfl, hb⟩; have H2 := Lib.hid (H1.out.grow hb); obtain ⟨c20, c21⟩ := Hcs.out [] _ H2.out; clear hb)
        | (go_at_call 32; refine (HP.out _ H2.out.below).mono ?_; rintro e w3 ⟨rfl, hb⟩; have H3 := Lib.hid (H2.out.grow hb); obtain ⟨c30, c31⟩ := Hcs.out [] _ H3.out; clear hb)
        | (go_at_call 33; refine (HRP.out _ H3.out.below).mono ?_; rintro e w4 ⟨rfl, hb⟩; have H4 := Lib.hid (H3.out.grow hb); obtain ⟨c40, c41⟩ := Hcs.out [] _ H4.out; clear hb)
        | (go_at_call 34; refine (HD.out _ H4.out.below).mono ?_; rintro e w5 ⟨rfl, hb⟩; have H5 := Lib.hid (H4.out.grow hb); obtain ⟨c50, c51⟩ := Hcs.out [] _ H5.out; clear hb)
        | (go_at_call 28; refine (HL.out _).mono ?_; rintro e w6 ⟨rfl, hb⟩; have H6 := Lib.hid (H5.out.grow hb); clear hb))
      go_ret
      subst hgb
      exact ⟨rfl, H6.out.below⟩
    | true =>
      have hlen := near_len hf hm
      have hsz := near_size hf hm
      have hns := few.ns
      have hlx := (walkG_ok hm).len
      have hO := HG.out.ok.trim (show (walkG g).al.length ≤ 10000 by omega)
      have fewT := trimG_few hm few
      have HP := Lib.hid (fun W (h : Below w.heap.size w W) => put_any cr cn (HG.out.below h) few hm hlen)
      have HRP := Lib.hid (fun W (h : Below w.heap.size w W) => refPut_any cr cn (HG.out.below h) few hm hlen)
      have HD := Lib.hid (fun W (h : Below w.heap.size w W) => digest_any cr cn (HG.out.below h) few hm hlen)
      have hpp := parsed_put hO fewT
      obtain ⟨htg, hte⟩ := take_put hO fewT hm
      have htk := fun W => take_any (w := W) (s := putS g) hsz (by rw [hpp]; exact fewT) (fun _ => by rw [hpp, trimG_twice hm]; exact hlen)
      rw [htg, hte, trimG_rlen, trimG_nlen] at htk
      have HT := Lib.hid htk
      have HOp := Lib.hid (fun W => refOpen_all (putS g) W (by omega))
      rw [show openE (putS g) = 0 from openE_sealed _, show openV (putS g) = str (graphB (trimG g)) from openV_sealed _] at HOp
      have HOf := Lib.hid (fun W => Sl.refOf_any (str (graphB (trimG g))) W (by rw [str_size]; omega))
      simp only [str_data] at HOf
      have HRT := Lib.hid (fun W (h : Below w.heap.size w W) => refTrim_any cr cn (HG.out.below h) few hm)
      have HSG := Lib.hid (fun W a b c d a' b' c' d' (h : GRd W a b (trimG g)) (h' : GRd W a' b' (trimG g)) => sameGraph_any c d c' d' h h')
      rw [show sameG (trimG g) (trimG g) = true from sameG_iff.2 rfl, trimG_rlen, trimG_nlen] at HSG
      have HO := Lib.hid hO
      clear hf hs few hm hlen hsz hns hlx hO fewT hpp htg hte htk
      generalize putS g = ps at *
      generalize str (graphB (trimG g)) = sg at *
      generalize Sl.Crc.sum (graphB (trimG g)) = sm at *
      go_enter Try.func9, Try.ntmps9
      go_wp2_with (first
        | (go_at_call 10; refine (HF.out _ H1.out.below).mono ?_; rintro e w2 ⟨rfl, hb⟩; have H2 := Lib.hid (H1.out.grow hb); obtain ⟨c20, c21⟩ := Hcs.out [] _ H2.out; clear hb)
        | (go_at_call 32; refine (HP.out _ H2.out.below).mono ?_; rintro e w3 ⟨rfl, hb⟩; have H3 := Lib.hid (H2.out.grow hb); obtain ⟨c30, c31⟩ := Hcs.out [] _ H3.out; clear hb)
        | (go_at_call 33; refine (HRP.out _ H3.out.below).mono ?_; rintro e w4 ⟨rfl, hb⟩; have H4 := Lib.hid (H3.out.grow hb); obtain ⟨c40, c41⟩ := Hcs.out [] _ H4.out; clear hb)
        | (go_at_call 34; refine (HD.out _ H4.out.below).mono ?_; rintro e w5 ⟨rfl, hb⟩; have H5 := Lib.hid (H4.out.grow hb); clear hb)
        | (go_at_call 30; refine (HT.out _).mono ?_; rintro e w6 ⟨hr, hn, dr, dn, rfl, B, hO, hF⟩; have hbx := (H5.out.grow hF.below).box #[.slice hr g.rs.length dr, .slice hn (walkG g).al.length dn] 25; have HR6 := Lib.hid ((hO.rd hF.1 (fun x hx => hx) HO.out).below (below_new w6 (.cells #[.slice hr g.rs.length dr, .slice hn (walkG g).al.length dn] 25))); obtain ⟨tb, htb⟩ : ∃ tb, w6.heap.size = tb := ⟨_, rfl⟩; simp only [htb] at hbx; have H6 := Lib.hid hbx; clear hO hF hbx)
        | (go_at_call 35; refine (HOp.out _).mono ?_; rintro e w7 ⟨rfl, hb⟩; have H7 := Lib.hid (H6.out.grow hb); have HR7 := Lib.hid (HR6.out.below hb); clear hb))
      have H8 := Lib.hid (H7.out.grow (below_drew w7))
      have HR8 := Lib.hid (HR7.out.below (below_drew w7))
      clear c0 c1 c20 c21 c30 c31 c40 c41
      have HS := Lib.hid (fun W (hW : FKN w ((tb, Obj.cells #[.slice hr g.rs.length dr, .slice hn (walkG g).al.length dn] 25 (0, 0)) :: [(gb, Obj.cells #[.slice ar g.rs.length cr, .slice an g.ns.length cn] 25 (0, 0))]) W) => (show (W.cell? ⟨gb, 0, none⟩ = some (.slice ar g.rs.length cr) ∧ W.cell? ⟨gb, 1, none⟩ = some (.slice an g.ns.length cn)) ∧ (W.cell? ⟨tb, 0, none⟩ = some (.slice hr g.rs.length dr) ∧ W.cell? ⟨tb, 1, none⟩ = some (.slice hn (walkG g).al.length dn)) from ⟨Hcs.out [_] _ hW, at_cell (hW.1.block (List.mem_cons_self ..)) 0 _ rfl, at_cell (hW.1.block (List.mem_cons_self ..)) 1 _ rfl⟩))
      refine wp_region_heldL (S := fun W => (W.cell? ⟨gb, 0, none⟩ = some (.slice ar g.rs.length cr) ∧ W.cell? ⟨gb, 1, none⟩ = some (.slice an g.ns.length cn)) ∧ (W.cell? ⟨tb, 0, none⟩ = some (.slice hr g.rs.length dr) ∧ W.cell? ⟨tb, 1, none⟩ = some (.slice hn (walkG g).al.length dn))) (by kernel_rfl) (HS.out _ H8.out) (fun hHeld => ?_)
      generalize w7.drew = V8 at *
      refine wpAnyL_take (i := 0) (v := ?_) rfl (by kernel_rfl) (by kernel_rfl) (by kernel_rfl) (by kernel_rfl) (fun _ _ _ h => h) (Or.inl ⟨by kernel_rfl, ?_⟩) (by assumption) ?_
      rotate_left
      · (intro w hSw; (try dsimp only at hSw); go_simp; try with_reducible rfl)
      simp only [Act.put, List.setIfInBounds_toArray, List.set_cons_zero, List.set_cons_succ]
      refine wpAnyL_take (i := 1) (v := ?_) rfl (by kernel_rfl) (by kernel_rfl) (by kernel_rfl) (by kernel_rfl) (fun _ _ _ h => h) (Or.inl ⟨by kernel_rfl, ?_⟩) (by assumption) ?_
      rotate_left
      · (intro w hSw; (try dsimp only at hSw); go_simp; try with_reducible rfl)
      simp only [Act.put, List.setIfInBounds_toArray, List.set_cons_zero, List.set_cons_succ]
      refine wpAnyL_one (i := 2) (by decide +kernel) rfl (fun K hK => ?_)
      go_simp
      go_at_call 36
      refine (HOf.out _).mono ?_
      rintro e V9 ⟨rfl, rfl⟩
      refine hK.out _ _ (HS.out _ H8.out) (fun hHeld => ?_)
      clear hK K
      try simp only [Act.put, List.setIfInBounds_toArray, List.set_cons_zero, List.set_cons_succ]
      refine wpAnyL_take (i := 3) (v := ?_) rfl (by kernel_rfl) (by kernel_rfl) (by kernel_rfl) (by kernel_rfl) (fun _ _ _ h => h) (Or.inl ⟨by kernel_rfl, ?_⟩) (by assumption) ?_
      rotate_left
      · (intro w hSw; (try dsimp only at hSw); go_simp; try with_reducible rfl)
      simp only [Act.put, List.setIfInBounds_toArray, List.set_cons_zero, List.set_cons_succ]
      refine wpAnyL_take (i := 4) (v := ?_) rfl (by kernel_rfl) (by kernel_rfl) (by kernel_rfl) (by kernel_rfl) (fun _ _ _ h => h) (Or.inl ⟨by kernel_rfl, ?_⟩) (by assumption) ?_
      rotate_left
      · (intro w hSw; (try dsimp only at hSw); go_simp; try with_reducible rfl)
      simp only [Act.put, List.setIfInBounds_toArray, List.set_cons_zero, List.set_cons_succ]
      refine wpAnyL_take (i := 5) (v := ?_) rfl (by kernel_rfl) (by kernel_rfl) (by kernel_rfl) (by kernel_rfl) (fun _ _ _ h => h) (Or.inl ⟨by kernel_rfl, ?_⟩) (by assumption) ?_
      rotate_left
      · (intro w hSw; (try dsimp only at hSw); go_simp; try with_reducible rfl)
      simp only [Act.put, List.setIfInBounds_toArray, List.set_cons_zero, List.set_cons_succ]
      refine wpAnyL_take (i := 6) (v := ?_) rfl (by kernel_rfl) (by kernel_rfl) (by kernel_rfl) (by kernel_rfl) (fun _ _ _ h => h) (Or.inl ⟨by kernel_rfl, ?_⟩) (by assumption) ?_
      rotate_left
      · (intro w hSw; (try dsimp only at hSw); go_simp; try with_reducible rfl)
      simp only [Act.put, List.setIfInBounds_toArray, List.set_cons_zero, List.set_cons_succ]
      refine wpAnyL_take (i := 7) (v := ?_) rfl (by kernel_rfl) (by kernel_rfl) (by kernel_rfl) (by kernel_rfl) (fun _ _ _ h => h) (Or.inl ⟨by kernel_rfl, ?_⟩) (by assumption) ?_
      rotate_left
      · (intro w hSw; (try dsimp only at hSw); go_simp; try with_reducible rfl)
      simp only [Act.put, List.setIfInBounds_toArray, List.set_cons_zero, List.set_cons_succ]
      refine wpAnyL_take (i := 8) (v := ?_) rfl (by kernel_rfl) (by kernel_rfl) (by kernel_rfl) (by kernel_rfl) (fun _ _ _ h => h) (Or.inl ⟨by kernel_rfl, ?_⟩) (by assumption) ?_
      rotate_left
      · (intro w hSw; (try dsimp only at hSw); go_simp; try with_reducible rfl)
      simp only [Act.put, List.setIfInBounds_toArray, List.set_cons_zero, List.set_cons_succ]
      refine wpAnyL_take (i := 9) (v := ?_) rfl (by kernel_rfl) (by kernel_rfl) (by kernel_rfl) (by kernel_rfl) (fun _ _ _ h => h) (Or.inl ⟨by kernel_rfl, ?_⟩) (by assumption) ?_
      rotate_left
      · (intro w hSw; (try dsimp only at hSw); go_simp; try with_reducible rfl)
      simp only [Act.put, List.setIfInBounds_toArray, List.set_cons_zero, List.set_cons_succ]
      refine wpAnyL_take (i := 10) (v := ?_) rfl (by kernel_rfl) (by kernel_rfl) (by kernel_rfl) (by kernel_rfl) (fun _ _ _ h => h) (Or.inl ⟨by kernel_rfl, ?_⟩) (by assumption) ?_
      rotate_left
      · (intro w hSw; (try dsimp only at hSw); go_simp; try with_reducible rfl)
      simp only [Act.put, List.setIfInBounds_toArray, List.set_cons_zero, List.set_cons_succ]
      refine wpAnyL_one (i := 11) (by decide +kernel) rfl (fun K hK => ?_)
      go_simp
      go_at_call 25
      refine (HRT.out _ H8.out.below).mono ?_
      rintro e V10 ⟨ur, un, ec, en, rfl, B, hO, hF⟩
      have H10 := Lib.hid (H8.out.grow hF.below)
      have HU := Lib.hid (hO.rd hF.1 (fun x hx => hx) HO.out)
      have HR10 := Lib.hid (HR8.out.below hF.below)
      clear hO hF
      refine hK.out _ _ (HS.out _ H10.out) (fun hHeld => ?_)
      clear hK K
      try simp only [Act.put, List.setIfInBounds_toArray, List.set_cons_zero, List.set_cons_succ]
      refine wpAnyL_one (i := 12) (by decide +kernel) rfl (fun K hK => ?_)
      go_simp
      go_at_call 24
      refine (HSG.out _ _ _ _ _ _ _ _ _ HR10.out HU.out).mono ?_
      rintro e V11 ⟨rfl, hb⟩
      have H11 := Lib.hid (H10.out.grow hb)
      clear hb
      refine hK.out _ _ (HS.out _ H11.out) (fun hHeld => ?_)
      clear hK K
      try simp only [Act.put, List.setIfInBounds_toArray, List.set_cons_zero, List.set_cons_succ]
      refine wpAnyL_take (i := 13) (v := ?_) rfl (by kernel_rfl) (by kernel_rfl) (by kernel_rfl) (by kernel_rfl) (fun _ _ _ h => h) (Or.inl ⟨by kernel_rfl, ?_⟩) (by assumption) ?_
      rotate_left
      · (intro w hSw; (try dsimp only at hSw); go_simp; try with_reducible rfl)
      simp only [Act.put, List.setIfInBounds_toArray, List.set_cons_zero, List.set_cons_succ]
      refine wpAnyL_take (i := 14) (v := ?_) rfl (by kernel_rfl) (by kernel_rfl) (by kernel_rfl) (by kernel_rfl) (fun _ _ _ h => h) (Or.inl ⟨by kernel_rfl, ?_⟩) (by assumption) ?_
      rotate_left
      · (intro w hSw; (try dsimp only at hSw); go_simp; try with_reducible rfl)
      simp only [Act.put, List.setIfInBounds_toArray, List.set_cons_zero, List.set_cons_succ]
      refine wpAnyL_one (i := 15) (by decide +kernel) rfl (fun K hK => ?_)
      go_simp
      go_at_call 28
      refine (HL.out _).mono ?_
      rintro e V12 ⟨rfl, hb⟩
      have H12 := Lib.hid (H11.out.grow hb)
      clear hb
      refine hK.out _ _ (HS.out _ H12.out) (fun hHeld => ?_)
      clear hK K
      try simp only [Act.put, List.setIfInBounds_toArray, List.set_cons_zero, List.set_cons_succ]
      refine wpAnyL_take (i := 16) (v := ?_) rfl (by kernel_rfl) (by kernel_rfl) (by kernel_rfl) (by kernel_rfl) (fun _ _ _ h => h) (Or.inl ⟨by kernel_rfl, ?_⟩) (by assumption) ?_
      rotate_left
      · (intro w hSw; (try dsimp only at hSw); go_simp; try with_reducible rfl)
      simp only [Act.put, List.setIfInBounds_toArray, List.set_cons_zero, List.set_cons_succ]
      refine wpAnyL_last (i := 17) (by kernel_rfl) rfl (by kernel_rfl) (by kernel_rfl) (fun K hK => ?_)
      go_simp
      refine hK.out _ _ ?_
      clear hK K
      try simp only [Act.put, List.setIfInBounds_toArray, List.set_cons_zero, List.set_cons_succ]
      go_wp2_with (fail)
      go_ret
      subst hgb
      exact ⟨rfl, H12.out.below⟩
end Go.Proofs.Ytplkogjnmjjjgaa
