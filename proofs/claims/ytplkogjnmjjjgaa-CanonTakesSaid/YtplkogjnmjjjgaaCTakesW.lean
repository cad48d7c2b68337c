/- The walk of CanonTakes. -/
import Derived.Test.YtplkogjnmjjjgaaCLives
import Derived.Test.YtplkogjnmjjjgaaCRTake
namespace Go.Proofs.Ytplkogjnmjjjgaa
open Go.ChangeShapes Go.WideShapes Go.ChangeAt Go.RowKit
set_option linter.unusedVariables false
set_option linter.unusedSimpArgs false

theorem takeG_ok {s : ByteArray} : OkG (takeG s) := by
  unfold takeG
  split
  · exact graphP_ok _
  · exact ⟨fun i hi => (by cases hi), fun x hx => (by cases hx)⟩
theorem takeG_of {s : ByteArray} (h : takeE s = 0) : takeG s = (parsed s).1 ∧ mayG (takeG s) = true ∧ putS (takeG s) = s := by
  unfold takeE at h
  split at h
  · rename_i h1
    omega
  · split at h
    · rename_i h1 h2
      have h3 := h2
      unfold takeOk at h3
      have h4 := of_decide_eq_true h3
      have e : takeG s = (parsed s).1 := by unfold takeG; rw [h2]; rfl
      rw [e]
      exact ⟨rfl, h4.2.2.1, h4.2.2.2⟩
    · omega
set_option maxRecDepth 100000 in
set_option maxHeartbeats 4000000 in
/-- the law behind the sealing -/
theorem ctakes_far {w : World} {s : ByteArray} (b : Bool) (hs : 2000 < s.size) (hm : s.size ≤ maxLen) :
    Calls Try.prog 7 #[.string s, .bool b] w fun e w' => e = .returned (.bool true) ∧ Below w.heap.size w w' := by
  have h1 : (2000 : Int) < s.size := by omega
  unfold maxLen at hm
  have HL := Lib.hid (clives_any w)
  go_enter Try.func7, Try.ntmps7
  go_wp2_with (go_at_call 28; refine HL.out.mono ?_; rintro e w2 ⟨rfl, hb⟩; have H2 := Lib.hid hb; clear hb)
  go_ret
  exact ⟨rfl, H2.out⟩
set_option maxRecDepth 100000 in
set_option maxHeartbeats 4000000 in
theorem ctakes_near {w : World} {s : ByteArray} (b : Bool) (hs : s.size ≤ 2000) :
    Calls Try.prog 7 #[.string s, .bool b] w fun e w' => e = .returned (.bool true) ∧ Below w.heap.size w w' := by
  have h1 : ¬ (2000 : Int) < s.size := by omega
  have hsz : (Sl.sealedStr s).size = s.size + 4 := sealed_size s
  obtain ⟨q, hq⟩ : ∃ q, (if b then Sl.sealedStr s else s) = q := ⟨_, rfl⟩
  have hq2 : q.size ≤ 2100 := by rw [← hq]; split <;> omega
  have HSe := Lib.hid (fun W => Sl.refSeal_any s W (by omega))
  have HT := Lib.hid (fun W => take_any (w := W) (s := q) (by omega) (parsed_few hq2) (parsed_len hq2))
  have HRT := Lib.hid (fun W => refTake_any (w := W) (s := q) hq2)
  have HSG := Lib.hid (fun W a b c d a' b' c' d' (h : GRd W a b (takeG q)) (h' : GRd W a' b' (takeG q)) => sameGraph_any c d c' d' h h')
  rw [show sameG (takeG q) (takeG q) = true from sameG_iff.2 rfl] at HSG
  have HO := Lib.hid (takeG_ok (s := q))
  have HL := Lib.hid clives_any
  have hput : takeE q = 0 → ∀ W a b c d, GRd W a b (takeG q) → Calls Try.prog 32 #[.agg #[.slice a (takeG q).rs.length c, .slice b (takeG q).ns.length d]] W fun e w' => e = .returned (.tuple #[.string q, .int .i64 0]) ∧ Below W.heap.size W w' := fun h0 W a b c d h => by
    obtain ⟨e1, e2, e3⟩ := takeG_of h0
    have hp := put_any c d h (by rw [e1]; exact parsed_few hq2) e2 (by have := parsed_len hq2; rw [← e1] at this; exact this e2)
    rw [e3] at hp
    exact hp
  have HPut := Lib.hid hput
  obtain ⟨tg, htg⟩ : ∃ tg, takeG q = tg := ⟨_, rfl⟩
  obtain ⟨te, hte⟩ : ∃ te, takeE q = te := ⟨_, rfl⟩
  simp only [htg, hte] at HT HRT HSG HO HPut
  clear hput htg hte hq2
  have hbl := Lib.hid (Below.refl w.heap.size w)
  by_cases h0 : te = 0
  · subst h0
    have HPut2 := Lib.hid (HPut.out rfl)
    cases b
    all_goals
      simp only [if_true, if_false, Bool.false_eq_true] at hq
      subst hq
    · have H0 := hbl
      go_enter Try.func7, Try.ntmps7
      go_wp2_with (first
        | (go_at_call 30; refine (HT.out _).mono ?_; rintro e w3 ⟨ar, an, cr, cn, rfl, B, hO, hF⟩; have hbx := ((FKN.refl w).grow (seq H0.out hF.below)).box #[.slice ar tg.rs.length cr, .slice an tg.ns.length cn] 25; have HR := Lib.hid ((hO.rd hF.1 (fun x hx => hx) HO.out).below (below_new w3 (.cells #[.slice ar tg.rs.length cr, .slice an tg.ns.length cn] 25))); obtain ⟨tb, htb⟩ : ∃ tb, w3.heap.size = tb := ⟨_, rfl⟩; simp only [htb] at hbx; have H3 := Lib.hid hbx; clear hO hF hbx)
        | (go_at_call 31; refine (HRT.out _).mono ?_; rintro e w4 ⟨br, bn, dr, dn, rfl, B2, hO2, hF2⟩; have hbx := (H3.out.grow hF2.below).box #[.slice br tg.rs.length dr, .slice bn tg.ns.length dn] 25; have HU := Lib.hid ((hO2.rd hF2.1 (fun x hx => hx) HO.out).below (below_new w4 (.cells #[.slice br tg.rs.length dr, .slice bn tg.ns.length dn] 25))); have HR2 := Lib.hid ((HR.out.below hF2.below).below (below_new w4 (.cells #[.slice br tg.rs.length dr, .slice bn tg.ns.length dn] 25))); obtain ⟨ub, hub⟩ : ∃ ub, w4.heap.size = ub := ⟨_, rfl⟩; simp only [hub] at hbx; have hq3 := hbx.1.block (X := tb) (o := .cells #[.slice ar tg.rs.length cr, .slice an tg.ns.length cn] 25 (0, 0)) (by simp); have hq4 := hbx.1.block (List.mem_cons_self ..); have t30 := at_cell hq3 0 _ rfl; have t31 := at_cell hq3 1 _ rfl; have t40 := at_cell hq4 0 _ rfl; have t41 := at_cell hq4 1 _ rfl; have H4 := Lib.hid hbx; clear hO2 hF2 hbx hq3 hq4)
        | (go_at_call 24; refine (HSG.out _ _ _ _ _ _ _ _ _ HR2.out HU.out).mono ?_; rintro e w5 ⟨rfl, hb⟩; have h5 := H4.out.grow hb; have HR5 := Lib.hid (HR2.out.below hb); have hq5 := h5.1.block (X := tb) (o := .cells #[.slice ar tg.rs.length cr, .slice an tg.ns.length cn] 25 (0, 0)) (by simp); have t50 := at_cell hq5 0 _ rfl; have t51 := at_cell hq5 1 _ rfl; have H5 := Lib.hid h5; clear hb h5 hq5)
        | (go_at_call 32; refine (HPut2.out _ _ _ _ _ HR5.out).mono ?_; rintro e w6 ⟨rfl, hb⟩; have H6 := Lib.hid (H5.out.grow hb); clear hb)
        | (go_at_call 28; refine (HL.out _).mono ?_; rintro e w7 ⟨rfl, hb⟩; have H7 := Lib.hid (H6.out.grow hb); clear hb))
      go_ret
      exact ⟨rfl, H7.out.below⟩
    · clear hbl
      go_enter Try.func7, Try.ntmps7
      go_wp2_with (first
        | (go_at_call 29; refine (HSe.out _).mono ?_; rintro e w1 ⟨rfl, hb⟩; have H0 := Lib.hid hb; clear hb)
        | (go_at_call 30; refine (HT.out _).mono ?_; rintro e w3 ⟨ar, an, cr, cn, rfl, B, hO, hF⟩; have hbx := ((FKN.refl w).grow (seq H0.out hF.below)).box #[.slice ar tg.rs.length cr, .slice an tg.ns.length cn] 25; have HR := Lib.hid ((hO.rd hF.1 (fun x hx => hx) HO.out).below (below_new w3 (.cells #[.slice ar tg.rs.length cr, .slice an tg.ns.length cn] 25))); obtain ⟨tb, htb⟩ : ∃ tb, w3.heap.size = tb := ⟨_, rfl⟩; simp only [htb] at hbx; have H3 := Lib.hid hbx; clear hO hF hbx)
        | (go_at_call 31; refine (HRT.out _).mono ?_; rintro e w4 ⟨br, bn, dr, dn, rfl, B2, hO2, hF2⟩; have hbx := (H3.out.grow hF2.below).box #[.slice br tg.rs.length dr, .slice bn tg.ns.length dn] 25; have HU := Lib.hid ((hO2.rd hF2.1 (fun x hx => hx) HO.out).below (below_new w4 (.cells #[.slice br tg.rs.length dr, .slice bn tg.ns.length dn] 25))); have HR2 := Lib.hid ((HR.out.below hF2.below).below (below_new w4 (.cells #[.slice br tg.rs.length dr, .slice bn tg.ns.length dn] 25))); obtain ⟨ub, hub⟩ : ∃ ub, w4.heap.size = ub := ⟨_, rfl⟩; simp only [hub] at hbx; have hq3 := hbx.1.block (X := tb) (o := .cells #[.slice ar tg.rs.length cr, .slice an tg.ns.length cn] 25 (0, 0)) (by simp); have hq4 := hbx.1.block (List.mem_cons_self ..); have t30 := at_cell hq3 0 _ rfl; have t31 := at_cell hq3 1 _ rfl; have t40 := at_cell hq4 0 _ rfl; have t41 := at_cell hq4 1 _ rfl; have H4 := Lib.hid hbx; clear hO2 hF2 hbx hq3 hq4)
        | (go_at_call 24; refine (HSG.out _ _ _ _ _ _ _ _ _ HR2.out HU.out).mono ?_; rintro e w5 ⟨rfl, hb⟩; have h5 := H4.out.grow hb; have HR5 := Lib.hid (HR2.out.below hb); have hq5 := h5.1.block (X := tb) (o := .cells #[.slice ar tg.rs.length cr, .slice an tg.ns.length cn] 25 (0, 0)) (by simp); have t50 := at_cell hq5 0 _ rfl; have t51 := at_cell hq5 1 _ rfl; have H5 := Lib.hid h5; clear hb h5 hq5)
        | (go_at_call 32; refine (HPut2.out _ _ _ _ _ HR5.out).mono ?_; rintro e w6 ⟨rfl, hb⟩; have H6 := Lib.hid (H5.out.grow hb); clear hb)
        | (go_at_call 28; refine (HL.out _).mono ?_; rintro e w7 ⟨rfl, hb⟩; have H7 := Lib.hid (H6.out.grow hb); clear hb))
      go_ret
      exact ⟨rfl, H7.out.below⟩
  · have hne : (((te : Nat) : Int) != 0) = true := by simp; exact h0
    clear h0 HPut
    cases b
    all_goals
      simp only [if_true, if_false, Bool.false_eq_true] at hq
      subst hq
    · have H0 := hbl
      go_enter Try.func7, Try.ntmps7
      go_wp2_with (first
        | (go_at_call 30; refine (HT.out _).mono ?_; rintro e w3 ⟨ar, an, cr, cn, rfl, B, hO, hF⟩; have hbx := ((FKN.refl w).grow (seq H0.out hF.below)).box #[.slice ar tg.rs.length cr, .slice an tg.ns.length cn] 25; have HR := Lib.hid ((hO.rd hF.1 (fun x hx => hx) HO.out).below (below_new w3 (.cells #[.slice ar tg.rs.length cr, .slice an tg.ns.length cn] 25))); obtain ⟨tb, htb⟩ : ∃ tb, w3.heap.size = tb := ⟨_, rfl⟩; simp only [htb] at hbx; have H3 := Lib.hid hbx; clear hO hF hbx)
        | (go_at_call 31; refine (HRT.out _).mono ?_; rintro e w4 ⟨br, bn, dr, dn, rfl, B2, hO2, hF2⟩; have hbx := (H3.out.grow hF2.below).box #[.slice br tg.rs.length dr, .slice bn tg.ns.length dn] 25; have HU := Lib.hid ((hO2.rd hF2.1 (fun x hx => hx) HO.out).below (below_new w4 (.cells #[.slice br tg.rs.length dr, .slice bn tg.ns.length dn] 25))); have HR2 := Lib.hid ((HR.out.below hF2.below).below (below_new w4 (.cells #[.slice br tg.rs.length dr, .slice bn tg.ns.length dn] 25))); obtain ⟨ub, hub⟩ : ∃ ub, w4.heap.size = ub := ⟨_, rfl⟩; simp only [hub] at hbx; have hq3 := hbx.1.block (X := tb) (o := .cells #[.slice ar tg.rs.length cr, .slice an tg.ns.length cn] 25 (0, 0)) (by simp); have hq4 := hbx.1.block (List.mem_cons_self ..); have t30 := at_cell hq3 0 _ rfl; have t31 := at_cell hq3 1 _ rfl; have t40 := at_cell hq4 0 _ rfl; have t41 := at_cell hq4 1 _ rfl; have H4 := Lib.hid hbx; clear hO2 hF2 hbx hq3 hq4)
        | (go_at_call 24; refine (HSG.out _ _ _ _ _ _ _ _ _ HR2.out HU.out).mono ?_; rintro e w5 ⟨rfl, hb⟩; have h5 := H4.out.grow hb; have HR5 := Lib.hid (HR2.out.below hb); have hq5 := h5.1.block (X := tb) (o := .cells #[.slice ar tg.rs.length cr, .slice an tg.ns.length cn] 25 (0, 0)) (by simp); have t50 := at_cell hq5 0 _ rfl; have t51 := at_cell hq5 1 _ rfl; have H5 := Lib.hid h5; clear hb h5 hq5)
        | (go_at_call 28; refine (HL.out _).mono ?_; rintro e w7 ⟨rfl, hb⟩; have H7 := Lib.hid (H5.out.grow hb); clear hb))
      go_ret
      exact ⟨rfl, H7.out.below⟩
    · clear hbl
      go_enter Try.func7, Try.ntmps7
      go_wp2_with (first
        | (go_at_call 29; refine (HSe.out _).mono ?_; rintro e w1 ⟨rfl, hb⟩; have H0 := Lib.hid hb; clear hb)
        | (go_at_call 30; refine (HT.out _).mono ?_; rintro e w3 ⟨ar, an, cr, cn, rfl, B, hO, hF⟩; have hbx := ((FKN.refl w).grow (seq H0.out hF.below)).box #[.slice ar tg.rs.length cr, .slice an tg.ns.length cn] 25; have HR := Lib.hid ((hO.rd hF.1 (fun x hx => hx) HO.out).below (below_new w3 (.cells #[.slice ar tg.rs.length cr, .slice an tg.ns.length cn] 25))); obtain ⟨tb, htb⟩ : ∃ tb, w3.heap.size = tb := ⟨_, rfl⟩; simp only [htb] at hbx; have H3 := Lib.hid hbx; clear hO hF hbx)
        | (go_at_call 31; refine (HRT.out _).mono ?_; rintro e w4 ⟨br, bn, dr, dn, rfl, B2, hO2, hF2⟩; have hbx := (H3.out.grow hF2.below).box #[.slice br tg.rs.length dr, .slice bn tg.ns.length dn] 25; have HU := Lib.hid ((hO2.rd hF2.1 (fun x hx => hx) HO.out).below (below_new w4 (.cells #[.slice br tg.rs.length dr, .slice bn tg.ns.length dn] 25))); have HR2 := Lib.hid ((HR.out.below hF2.below).below (below_new w4 (.cells #[.slice br tg.rs.length dr, .slice bn tg.ns.length dn] 25))); obtain ⟨ub, hub⟩ : ∃ ub, w4.heap.size = ub := ⟨_, rfl⟩; simp only [hub] at hbx; have hq3 := hbx.1.block (X := tb) (o := .cells #[.slice ar tg.rs.length cr, .slice an tg.ns.length cn] 25 (0, 0)) (by simp); have hq4 := hbx.1.block (List.mem_cons_self ..); have t30 := at_cell hq3 0 _ rfl; have t31 := at_cell hq3 1 _ rfl; have t40 := at_cell hq4 0 _ rfl; have t41 := at_cell hq4 1 _ rfl; have H4 := Lib.hid hbx; clear hO2 hF2 hbx hq3 hq4)
        | (go_at_call 24; refine (HSG.out _ _ _ _ _ _ _ _ _ HR2.out HU.out).mono ?_; rintro e w5 ⟨rfl, hb⟩; have h5 := H4.out.grow hb; have HR5 := Lib.hid (HR2.out.below hb); have hq5 := h5.1.block (X := tb) (o := .cells #[.slice ar tg.rs.length cr, .slice an tg.ns.length cn] 25 (0, 0)) (by simp); have t50 := at_cell hq5 0 _ rfl; have t51 := at_cell hq5 1 _ rfl; have H5 := Lib.hid h5; clear hb h5 hq5)
        | (go_at_call 28; refine (HL.out _).mono ?_; rintro e w7 ⟨rfl, hb⟩; have H7 := Lib.hid (H5.out.grow hb); clear hb))
      go_ret
      exact ⟨rfl, H7.out.below⟩
theorem ctakes_any {w : World} {s : ByteArray} (b : Bool) (hs : s.size ≤ maxLen) :
    Calls Try.prog 7 #[.string s, .bool b] w fun e w' => e = .returned (.bool true) ∧ Below w.heap.size w w' := by
  by_cases h : s.size ≤ 2000
  · exact ctakes_near b h
  · exact ctakes_far b (by omega) hs
end Go.Proofs.Ytplkogjnmjjjgaa
