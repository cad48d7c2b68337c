/- The walk of GraphTrims. -/
import Derived.Test.YtplkogjnmjjjgaaGLives
import Derived.Test.YtplkogjnmjjjgaaGHom
namespace Go.Proofs.Ytplkogjnmjjjgaa
open Go.ChangeShapes Go.WideShapes Go.ChangeAt Go.RowKit Go.Maps
set_option linter.unusedVariables false
set_option linter.unusedSimpArgs false

theorem sameG_refl (g : Gr) : sameG g g = true := sameG_iff.2 rfl
set_option maxRecDepth 100000 in
set_option maxHeartbeats 4000000 in
theorem gtrims_any {w : World} {ar an : Option Addr} {g : Gr} (cr cn : Nat) (hG : GRd w ar an g) (hs : SmG g) :
    Calls Try.prog 5 #[.agg #[.slice ar g.rs.length cr, .slice an g.ns.length cn]] w fun e w' => e = .returned (.bool true) ∧ Below w.heap.size w w' := by
  have h1 := (FKN.refl w).box #[.slice ar g.rs.length cr, .slice an g.ns.length cn] 25
  obtain ⟨gb, hgb⟩ : ∃ gb, w.heap.size = gb := ⟨_, rfl⟩
  simp only [hgb] at h1
  have hq := h1.1.block (List.mem_cons_self ..)
  have c0 := at_cell hq 0 _ rfl
  have c1 := at_cell hq 1 _ rfl
  have H1 := Lib.hid h1
  have HG := Lib.hid hG
  have HF := Lib.hid (fun W (h : Below w.heap.size w W) => far_any cr cn (hG.below h) hs)
  have HM := Lib.hid (fun W (h : Below w.heap.size w W) => refMay_any cr cn (hG.below h))
  have HL := Lib.hid lives_any
  have Hcs := Lib.hid (show ∀ K W, FKN w (K ++ [(gb, Obj.cells #[.slice ar g.rs.length cr, .slice an g.ns.length cn] 25 (0, 0))]) W → W.cell? ⟨gb, 0, none⟩ = some (.slice ar g.rs.length cr) ∧ W.cell? ⟨gb, 1, none⟩ = some (.slice an g.ns.length cn) from fun K W hW =>
    ⟨at_cell (hW.1.block (List.mem_append_right _ (List.mem_cons_self ..))) 0 _ rfl, at_cell (hW.1.block (List.mem_append_right _ (List.mem_cons_self ..))) 1 _ rfl⟩)
  clear h1 hq hG
  cases hf : farG g with
  | true =>
    rw [hf] at HF
    clear hf hs
    go_enter Try.func5, Try.ntmps5
    go_wp2_with (first
      | (go_at_call 10; refine (HF.out _ H1.out.below).mono ?_; rintro e w2 ⟨rfl, hb⟩; have H3 := Lib.hid (H1.out.grow hb); clear hb)
      | (go_at_call 11; refine (HL.out _).mono ?_; rintro e w3 ⟨rfl, hb⟩; have H4 := Lib.hid (H3.out.grow hb); clear hb))
    go_ret
    subst hgb
    exact ⟨rfl, H4.out.below⟩
  | false =>
    have few := (near_of hf).few
    rw [hf] at HF
    cases hm : mayG g with
    | false =>
      rw [hm] at HM
      clear hf hs few hm
      go_enter Try.func5, Try.ntmps5
      go_wp2_with (first
        | (go_at_call 10; refine (HF.out _ H1.out.below).mono ?_; rintro e w2 ⟨rfl, hb⟩; have H3 := Lib.hid (H1.out.grow hb); obtain ⟨c0, c1⟩ := Hcs.out [] _ H3.out; clear hb)
        | (go_at_call 17; refine (HM.out _ H3.out.below).mono ?_; rintro e w5 ⟨rfl, hb⟩; have H6 := Lib.hid (H3.out.grow hb); clear hb)
        | (go_at_call 11; refine (HL.out _).mono ?_; rintro e w3 ⟨rfl, hb⟩; have H7 := Lib.hid (H6.out.grow hb); clear hb))
      go_ret
      subst hgb
      exact ⟨rfl, H7.out.below⟩
    | true =>
      rw [hm] at HM
      have HT := Lib.hid (fun W (h : Below w.heap.size w W) => trim_any cr cn (HG.out.below h) few hm)
      have hlx := (walkG_ok hm).len
      have hnx := few.ns
      have hO := HG.out.ok.trim (show (walkG g).al.length ≤ 1000 by omega)
      have hm2 := trimG_may hm
      have few2 := trimG_few hm few
      have hlx2 := (walkG_ok hm2).len
      have hnx2 := few2.ns
      have hO2 := hO.trim (show (walkG (trimG g)).al.length ≤ 1000 by omega)
      have HT2 := Lib.hid (fun W a b c d (h : GRd W a b (trimG g)) => trim_any c d h few2 hm2)
      have HSM := Lib.hid (fun W a b c d a' b' c' d' (h : GRd W a b g) (h' : GRd W a' b' (trimG g)) => same_any c d c' d' h h' few few2)
      rw [hm, hm2, trimG_twice hm, sameG_refl] at HSM
      simp only [Bool.and_self, if_true] at HSM
      have HSG := Lib.hid (fun W a b c d a' b' c' d' (h : GRd W a b (trimG g)) (h' : GRd W a' b' (trimG (trimG g))) => sameGraph_any c d c' d' h h')
      have htt := trimG_twice hm
      have Htt := Lib.hid htt
      have hsg : sameG (trimG g) (trimG (trimG g)) = true := by rw [htt]; exact sameG_refl _
      rw [hsg] at HSG
      rw [show (trimG (trimG g)).rs.length = g.rs.length from by rw [trimG_rlen, trimG_rlen], trimG_nlen] at HSG
      rw [trimG_rlen, trimG_nlen] at HT2 HSM HSG
      have HO := Lib.hid hO
      have HO2 := Lib.hid hO2
      clear hf hs few hm hO hm2 few2 hO2 htt hsg
      go_enter Try.func5, Try.ntmps5
      go_wp2_with (first
        | (go_at_call 10; refine (HF.out _ H1.out.below).mono ?_; rintro e w2 ⟨rfl, hb⟩; have H2 := Lib.hid (H1.out.grow hb); obtain ⟨c0, c1⟩ := Hcs.out [] _ H2.out; clear hb)
        | (go_at_call 17; refine (HM.out _ H2.out.below).mono ?_; rintro e w3 ⟨rfl, hb⟩; have H3 := Lib.hid (H2.out.grow hb); obtain ⟨c0, c1⟩ := Hcs.out [] _ H3.out; clear hb)
        | (go_at_call 13; refine (HT.out _ H3.out.below).mono ?_; rintro e w4 ⟨a1, b1, d1, e1, rfl, B, hO, hF⟩; have H4 := Lib.hid ((H3.out.grow hF.below).box #[.slice a1 g.rs.length d1, .slice b1 (walkG g).al.length e1] 25); have hbb := below_new w4 (.cells #[.slice a1 g.rs.length d1, .slice b1 (walkG g).al.length e1] 25); have HR := Lib.hid ((hO.rd hF.1 (fun x hx => hx) HO.out).below hbb); obtain ⟨⟨c0, c1⟩, t0, t1⟩ := two_graphs (List.mem_cons_of_mem _ (List.mem_cons_self ..)) (List.mem_cons_self ..) H4.out; clear hO hF HT hbb)
        | (go_at_call 13; refine (HT2.out _ _ _ _ _ HR.out).mono ?_; rintro e w5 ⟨a2, b2, d2, e2, rfl, B2, hO2, hF2⟩; have H5 := Lib.hid ((H4.out.grow hF2.below).box #[.slice a2 g.rs.length d2, .slice b2 (walkG (trimG g)).al.length e2] 25); have hbb := below_new w5 (.cells #[.slice a2 g.rs.length d2, .slice b2 (walkG (trimG g)).al.length e2] 25); have HU := Lib.hid ((hO2.rd hF2.1 (fun x hx => hx) HO2.out).below hbb); have HR2 := Lib.hid ((HR.out.below hF2.below).below hbb); obtain ⟨⟨c0, c1⟩, t0, t1⟩ := two_graphs (List.mem_cons_of_mem _ (List.mem_cons_of_mem _ (List.mem_cons_self ..))) (List.mem_cons_of_mem _ (List.mem_cons_self ..)) H5.out; clear hO2 hF2 hbb HT2)
        | (go_at_call 26; refine (HSM.out _ _ _ _ _ _ _ _ _ (HG.out.below H5.out.below) HR2.out).mono ?_; rintro e w6 ⟨rfl, hb⟩; have H6 := Lib.hid (H5.out.grow hb); have HR3 := Lib.hid (HR2.out.below hb); have HU3 := Lib.hid (HU.out.below hb); obtain ⟨⟨t0, t1⟩, u0, u1⟩ := two_graphs (List.mem_cons_of_mem _ (List.mem_cons_self ..)) (List.mem_cons_self ..) H6.out; clear hb)
        | (go_at_call 24; refine (HSG.out _ _ _ _ _ _ _ _ _ HR3.out HU3.out).mono ?_; rintro e w7 ⟨rfl, hb⟩; have H7 := Lib.hid (H6.out.grow hb); clear hb)
        | (go_at_call 11; refine (HL.out _).mono ?_; rintro e w8 ⟨rfl, hb⟩; have H8 := Lib.hid (H7.out.grow hb); clear hb))
      go_ret
      subst hgb
      exact ⟨rfl, H8.out.below⟩
end Go.Proofs.Ytplkogjnmjjjgaa
