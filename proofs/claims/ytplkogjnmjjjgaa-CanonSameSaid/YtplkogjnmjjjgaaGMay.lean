/- The walk of the reference's May. -/
import Derived.Test.YtplkogjnmjjjgaaGFar
namespace Go.Proofs.Ytplkogjnmjjjgaa
open Go.ChangeShapes Go.WideShapes Go.ChangeAt Go.RowKit Go.Maps
set_option linter.unusedVariables false
set_option linter.unusedSimpArgs false

/-- a number out of its range, or within, as the guarded test shows it -/
theorem inr_cases (N : Nat) (z : Int) : (decide (z < -1) = true ∧ inr N z = false) ∨ (decide (z < -1) = false ∧ decide ((N : Int) ≤ z) = true ∧ inr N z = false) ∨ (decide (z < -1) = false ∧ decide ((N : Int) ≤ z) = false ∧ inr N z = true) := by
  unfold inr
  by_cases h1 : z < -1
  · exact .inl ⟨decide_eq_true h1, decide_eq_false (by omega)⟩
  · by_cases h2 : (N : Int) ≤ z
    · exact .inr (.inl ⟨decide_eq_false h1, decide_eq_true h2, decide_eq_false (by omega)⟩)
    · exact .inr (.inr ⟨decide_eq_false h1, decide_eq_false h2, decide_eq_true (by omega)⟩)
theorem all_bad {l : List Int} {N i : Nat} (hi : i < l.length) (h : inr N (l.getD i 0) = false) : l.all (inr N) = false := by
  rw [← Bool.not_eq_true, List.all_eq_true]
  intro hall
  have := hall _ (getD_mem 0 hi)
  rw [h] at this
  cases this
theorem all_good {l : List Int} {N : Nat} (h : ∀ j, j < l.length → inr N (l.getD j 0) = true) : l.all (inr N) = true := by
  rw [List.all_eq_true]
  intro x hx
  obtain ⟨j, hj, rfl⟩ := List.getElem_of_mem hx
  have := h j hj
  rwa [List.getD_eq_getElem?_getD, List.getElem?_eq_getElem hj] at this
set_option maxRecDepth 100000 in
set_option maxHeartbeats 4000000 in
theorem refMay_any {w : World} {ar an : Option Addr} {g : Gr} (cr cn : Nat) (hG : GRd w ar an g) :
    Calls Try.prog 17 #[.agg #[.slice ar g.rs.length cr, .slice an g.ns.length cn]] w fun e w' => e = .returned (.bool (mayG g)) ∧ Below w.heap.size w w' := by
  have h1 := (FKN.refl w).box #[.slice ar g.rs.length cr, .slice an g.ns.length cn] 25
  have hm1 := hG.roots.many
  have hm2 := hG.nodes.many
  unfold maxLen at hm1 hm2
  have l1 : (g.rs.length : Int) ≤ 9223372036854775807 := by omega
  have l2 : (g.ns.length : Int) ≤ 9223372036854775807 := by omega
  have HG := Lib.hid hG
  obtain ⟨V, hV⟩ : ∃ V, mayG g = V := ⟨_, rfl⟩
  rw [hV]
  have HV := Lib.hid hV
  obtain ⟨gb, hgb⟩ : ∃ gb, w.heap.size = gb := ⟨_, rfl⟩
  simp only [hgb] at h1
  have Hcs := Lib.hid (show ∀ K W, FKN w (K ++ [(gb, Obj.cells #[.slice ar g.rs.length cr, .slice an g.ns.length cn] 25 (0, 0))]) W → W.cell? ⟨gb, 0, none⟩ = some (.slice ar g.rs.length cr) ∧ W.cell? ⟨gb, 1, none⟩ = some (.slice an g.ns.length cn) from fun K W hW =>
    ⟨at_cell (hW.1.block (List.mem_append_right _ (List.mem_cons_self ..))) 0 _ rfl, at_cell (hW.1.block (List.mem_append_right _ (List.mem_cons_self ..))) 1 _ rfl⟩)
  have H1 := Lib.hid h1
  clear h1 hG hm1 hm2 hV
  go_enter Try.func17, Try.ntmps17
  go_wp2_with (fail)
  go_loopw [3] (fun iv wr => ∃ i : Nat, iv = .int .i64 i ∧ i ≤ g.rs.length ∧ (∀ j, j < i → inr g.ns.length (g.rs.getD j 0) = true) ∧ FKN w [(gb, .cells #[.slice ar g.rs.length cr, .slice an g.ns.length cn] 25 (0, 0))] wr) (fun iv _ => g.rs.length - (intOf iv).toNat)
  case atStart => exact ⟨0, rfl, by omega, fun j hj => by omega, H1.out⟩
  case round =>
    clear H1
    obtain ⟨i, rfl, hi, hpre, hF⟩ := hrel
    have Hpre := Lib.hid hpre
    clear hpre
    obtain ⟨c0, c1⟩ := Hcs.out [] _ hF
    by_cases hlt : i < g.rs.length
    · obtain ⟨b, off, ha, hc⟩ := (HG.out.roots.below hF.below).cell
      obtain rfl : ar = some ⟨b, off, none⟩ := by
        rcases ha with e | e
        · rw [e] at hlt; cases hlt
        · exact e
      have q0 := hc i hlt
      have k1 : (i : Int) < g.rs.length := by omega
      have k2 : (0 : Int) ≤ i := by omega
      have k3 : ((i : Int)).toNat = i := by omega
      have HF := Lib.hid (fun nq => hF.grow (below_drewN' nq wr))
      have Hn := Lib.hid (fun (e : inr g.ns.length (g.rs.getD i 0) = true) j (hj : j < i + 1) => (show inr g.ns.length (g.rs.getD j 0) = true by
        rcases Nat.lt_or_ge j i with h2 | h2
        · exact Hpre.out j h2
        · rw [show j = i by omega]; exact e))
      have Hbad := Lib.hid (fun (e : inr g.ns.length (g.rs.getD i 0) = false) => (show mayG g = false by unfold mayG; rw [all_bad hlt e]; rfl))
      have hcas := inr_cases g.ns.length (g.rs.getD i 0)
      generalize g.rs.getD i 0 = z at *
      clear hF hc ha
      rcases hcas with ⟨h1, h2⟩ | ⟨h1, h2, h3⟩ | ⟨h1, h2, h3⟩
      · have HB := Lib.hid h2
        clear h2
        go_wp2_with (fail)
        go_quiet (fail)
        go_wp2_with (fail)
        go_ret
        subst hgb
        exact ⟨by rw [← HV.out, Hbad.out HB.out]; rfl, (HF.out nq).below⟩
      · have HB := Lib.hid h3
        clear h3
        go_wp2_with (fail)
        go_quiet (fail)
        go_wp2_with (fail)
        go_ret
        subst hgb
        exact ⟨by rw [← HV.out, Hbad.out HB.out]; rfl, (HF.out nq).below⟩
      · have HB := Lib.hid (Hn.out h3)
        clear h3
        go_wp2_with (fail)
        go_quiet (fail)
        go_wp2_with (fail)
        go_roundw
        case rel => exact ⟨i + 1, by go_num, by omega, HB.out, HF.out nq⟩
        case measure => simp [intOf]; omega
    · obtain rfl : i = g.rs.length := by omega
      have k1 : ¬ (g.rs.length : Int) < g.rs.length := by omega
      have HF := Lib.hid hF
      have Hall := Lib.hid (all_good Hpre.out)
      clear hF
      go_wp2_with (fail)
      clear c0 c1 Hpre
      go_loopw [4] (fun iv wr => ∃ i : Nat, iv = .int .i64 i ∧ i ≤ g.ns.length ∧ (∀ j, j < i → mayN g.ns.length (g.ns.getD j default) = true) ∧ FKN w [(gb, .cells #[.slice ar g.rs.length cr, .slice an g.ns.length cn] 25 (0, 0))] wr) (fun iv _ => g.ns.length - (intOf iv).toNat)
      case atStart => exact ⟨0, rfl, by omega, fun j hj => by omega, HF.out⟩
      case round =>
        clear HF
        obtain ⟨i, rfl, hi, hpre, hF⟩ := hrel
        have Hpre := Lib.hid hpre
        clear hpre
        obtain ⟨c0, c1⟩ := Hcs.out [] _ hF
        by_cases hlt : i < g.ns.length
        · obtain ⟨b, off, ap, af, aw, cp, cf, cw, rfl, hx, m0, m1, m2⟩ := (HG.out.nodes.below hF.below).at_ hlt
          have k1 : (i : Int) < g.ns.length := by omega
          have k2 : (0 : Int) ≤ i := by omega
          have k3 : ((i : Int)).toNat = i := by omega
          have Hn := Lib.hid (fun (e : mayN g.ns.length (g.ns.getD i default) = true) j (hj : j < i + 1) => (show mayN g.ns.length (g.ns.getD j default) = true by
            rcases Nat.lt_or_ge j i with h2 | h2
            · exact Hpre.out j h2
            · rw [show j = i by omega]; exact e))
          have Hbad := Lib.hid (fun (e : mayN g.ns.length (g.ns.getD i default) = false) => (show mayG g = false by
            unfold mayG
            rw [Bool.and_eq_false_iff]
            right
            rw [← Bool.not_eq_true, List.all_eq_true]
            intro hall
            have := hall _ (getD_mem default hlt)
            rw [e] at this
            cases this))
          generalize g.ns.getD i default = x at *
          obtain ⟨ps, fs, ws⟩ := x
          simp only [mayN] at *
          have hpm : ps.length ≤ maxLen := hx.ps.many
          unfold maxLen at hpm
          have l3 : (ps.length : Int) ≤ 9223372036854775807 := by omega
          have hF1 := hF.box #[.slice ap ps.length cp, .slice af fs.length cf, .slice aw ws.length cw] 47
          have hx1 := hx.below (below_new wr (.cells #[.slice ap ps.length cp, .slice af fs.length cf, .slice aw ws.length cw] 47))
          obtain ⟨bx, hbx⟩ : ∃ bx, wr.heap.size = bx := ⟨_, rfl⟩
          simp only [hbx] at hF1
          have hq := hF1.1.block (List.mem_cons_self ..)
          have q0 := at_cell hq 0 _ rfl
          have q1 := at_cell hq 1 _ rfl
          have q2 := at_cell hq 2 _ rfl
          have HF1 := Lib.hid hF1
          have HX := Lib.hid hx1.ps
          have HSH := Lib.hid (fun w => refShape_any ap ps.length cp af fs.length cf aw ws.length cw w)
          clear hF hF1 hx hx1 hq hpm
          obtain ⟨ok, hok⟩ : ∃ ok, decide (Hd.Ok (ps.length : Int) (fs.length : Int) (ws.length : Int)) = ok := ⟨_, rfl⟩
          have HM := Lib.hid (fun w => Hd.may_any (ps.length : Int) (fs.length : Int) (ws.length : Int) w)
          rw [hok] at HM Hn Hbad
          clear hok
          cases ok
          · go_wp2_with (first
              | (go_at_call 45; refine (HSH.out _).mono ?_; rintro e w2 ⟨rfl, hb2⟩; have H2 := Lib.hid (HF1.out.grow hb2); clear hb2)
              | (go_at_call 44; refine (HM.out _).mono ?_; rintro e w3 ⟨rfl, hb3⟩; have H3 := Lib.hid (H2.out.grow hb3); clear hb3))
            go_ret
            subst hgb
            exact ⟨by rw [← HV.out, Hbad.out rfl]; rfl, H3.out.below⟩
          · go_wp2_with (first
              | (go_at_call 45; refine (HSH.out _).mono ?_; rintro e w2 ⟨rfl, hb2⟩; have H2 := Lib.hid (HF1.out.grow hb2); have HX2 := Lib.hid (HX.out.below hb2); clear hb2)
              | (go_at_call 44; refine (HM.out _).mono ?_; rintro e w3 ⟨rfl, hb3⟩; have H3 := Lib.hid (H2.out.grow hb3); have HX3 := Lib.hid (HX2.out.below hb3); clear hb3))
            clear q0 q1 q2 c0 c1 m0 m1 m2
            obtain ⟨B3, hB3⟩ : ∃ B3, w3.heap.size = B3 := ⟨_, rfl⟩
            go_loopw [6] (fun jv wq => ∃ j : Nat, jv = .int .i64 j ∧ j ≤ ps.length ∧ (∀ l, l < j → inr g.ns.length (ps.getD l 0) = true) ∧ Below B3 w3 wq) (fun jv _ => ps.length - (intOf jv).toNat)
            case atStart => exact ⟨0, rfl, by omega, fun j hj => by omega, by rw [← hB3]; exact Below.refl _ _⟩
            case round =>
              obtain ⟨j, rfl, hj, hpj, hbj⟩ := hrel
              have Hpj := Lib.hid hpj
              clear hpj
              rw [← hB3] at hbj
              have hF4 := H3.out.grow hbj
              have hq := hF4.1.block (List.mem_cons_self ..)
              have q0 := at_cell hq 0 _ rfl
              obtain ⟨d0, d1⟩ := Hcs.out [_] _ hF4
              by_cases hltj : j < ps.length
              · obtain ⟨b2, o2, ha, hc⟩ := (HX3.out.below hbj).cell
                obtain rfl : ap = some ⟨b2, o2, none⟩ := by
                  rcases ha with e | e
                  · rw [e] at hltj; cases hltj
                  · exact e
                have q1 := hc j hltj
                have j1 : (j : Int) < ps.length := by omega
                have j2 : (0 : Int) ≤ j := by omega
                have j3 : ((j : Int)).toNat = j := by omega
                have HBL := Lib.hid (fun nq => hbj.trans ((below_drewN' nq wr).mono hbj.size))
                have Hnj := Lib.hid (fun (e : inr g.ns.length (ps.getD j 0) = true) l (hl : l < j + 1) => (show inr g.ns.length (ps.getD l 0) = true by
                  rcases Nat.lt_or_ge l j with h2 | h2
                  · exact Hpj.out l h2
                  · rw [show l = j by omega]; exact e))
                have Hbj := Lib.hid (fun (e : inr g.ns.length (ps.getD j 0) = false) => Hbad.out (by rw [all_bad hltj e]; rfl))
                have hcas := inr_cases g.ns.length (ps.getD j 0)
                generalize ps.getD j 0 = z at *
                have HF4 := Lib.hid (fun nq => hF4.grow (below_drewN' nq wr))
                clear hF4 hc ha hq hbj
                rcases hcas with ⟨h1, h2⟩ | ⟨h1, h2, h3⟩ | ⟨h1, h2, h3⟩
                · have HB := Lib.hid h2
                  clear h2
                  go_wp2_with (fail)
                  go_quiet (fail)
                  go_wp2_with (fail)
                  go_ret
                  subst hgb
                  exact ⟨by rw [← HV.out, Hbj.out HB.out]; rfl, (HF4.out nq).below⟩
                · have HB := Lib.hid h3
                  clear h3
                  go_wp2_with (fail)
                  go_quiet (fail)
                  go_wp2_with (fail)
                  go_ret
                  subst hgb
                  exact ⟨by rw [← HV.out, Hbj.out HB.out]; rfl, (HF4.out nq).below⟩
                · have HB := Lib.hid (Hnj.out h3)
                  clear h3
                  go_wp2_with (fail)
                  go_quiet (fail)
                  go_wp2_with (fail)
                  go_roundw
                  case rel => exact ⟨j + 1, by go_num, by omega, HB.out, by rw [← hB3]; exact HBL.out nq⟩
                  case measure => simp [intOf]; omega
              · obtain rfl : j = ps.length := by omega
                have j1 : ¬ (ps.length : Int) < ps.length := by omega
                have HF4 := Lib.hid hF4
                have HN := Lib.hid (Hn.out (by rw [all_good Hpj.out]; rfl))
                clear hF4 hbj hq
                go_wp2_with (fail)
                go_roundw
                case rel => exact ⟨i + 1, by go_num, by omega, HN.out, HF4.out.tail⟩
                case measure => simp [intOf]; omega
        · obtain rfl : i = g.ns.length := by omega
          have k1 : ¬ (g.ns.length : Int) < g.ns.length := by omega
          have HF := Lib.hid hF
          clear hF
          go_wp2_with (fail)
          go_ret
          subst hgb
          refine ⟨?_, HF.out.below⟩
          rw [← HV.out]
          unfold mayG
          rw [Hall.out, Bool.true_and, List.all_eq_true.2 (fun x hx => by
            obtain ⟨j, hj, rfl⟩ := List.getElem_of_mem hx
            have := Hpre.out j hj
            rwa [List.getD_eq_getElem?_getD, List.getElem?_eq_getElem hj] at this)]
          rfl
end Go.Proofs.Ytplkogjnmjjjgaa
