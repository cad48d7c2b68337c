/- The walk of the reference's SameGraph. -/
import Derived.Test.YtplkogjnmjjjgaaGSame1
namespace Go.Proofs.Ytplkogjnmjjjgaa
open Go.ChangeShapes Go.WideShapes Go.ChangeAt Go.RowKit Go.Maps
set_option linter.unusedVariables false
set_option linter.unusedSimpArgs false

theorem two_nodes {W0 W : World} {K : List (Nat × Obj)} {b c : Nat} {x0 x1 x2 y0 y1 y2 : Value} (h : FKN W0 ((c, .cells #[y0, y1, y2] 47 (0, 0)) :: (b, .cells #[x0, x1, x2] 47 (0, 0)) :: K) W) :
    (W.cell? ⟨b, 0, none⟩ = some x0 ∧ W.cell? ⟨b, 1, none⟩ = some x1 ∧ W.cell? ⟨b, 2, none⟩ = some x2) ∧ (W.cell? ⟨c, 0, none⟩ = some y0 ∧ W.cell? ⟨c, 1, none⟩ = some y1 ∧ W.cell? ⟨c, 2, none⟩ = some y2) :=
  ⟨⟨at_cell (h.1.block (List.mem_cons_of_mem _ (List.mem_cons_self ..))) 0 _ rfl, at_cell (h.1.block (List.mem_cons_of_mem _ (List.mem_cons_self ..))) 1 _ rfl, at_cell (h.1.block (List.mem_cons_of_mem _ (List.mem_cons_self ..))) 2 _ rfl⟩, ⟨at_cell (h.1.block (List.mem_cons_self ..)) 0 _ rfl, at_cell (h.1.block (List.mem_cons_self ..)) 1 _ rfl, at_cell (h.1.block (List.mem_cons_self ..)) 2 _ rfl⟩⟩
theorem two_graphs {W0 W : World} {K : List (Nat × Obj)} {b c : Nat} {x0 x1 y0 y1 : Value} (h1 : (b, Obj.cells #[x0, x1] 25 (0, 0)) ∈ K) (h2 : (c, Obj.cells #[y0, y1] 25 (0, 0)) ∈ K) (h : FKN W0 K W) :
    (W.cell? ⟨b, 0, none⟩ = some x0 ∧ W.cell? ⟨b, 1, none⟩ = some x1) ∧ (W.cell? ⟨c, 0, none⟩ = some y0 ∧ W.cell? ⟨c, 1, none⟩ = some y1) :=
  ⟨⟨at_cell (h.1.block h1) 0 _ rfl, at_cell (h.1.block h1) 1 _ rfl⟩, ⟨at_cell (h.1.block h2) 0 _ rfl, at_cell (h.1.block h2) 1 _ rfl⟩⟩
set_option maxRecDepth 100000 in
set_option maxHeartbeats 2000000 in
theorem sameGraph_any {w : World} {ar an br bn : Option Addr} {x y : Gr} (cr cn dr dn : Nat) (hx : GRd w ar an x) (hy : GRd w br bn y) :
    Calls Try.prog 24 #[.agg #[.slice ar x.rs.length cr, .slice an x.ns.length cn], .agg #[.slice br y.rs.length dr, .slice bn y.ns.length dn]] w fun e w' => e = .returned (.bool (sameG x y)) ∧ Below w.heap.size w w' := by
  have h1 := (FKN.refl w).box #[.slice ar x.rs.length cr, .slice an x.ns.length cn] 25
  have h2 := h1.box #[.slice br y.rs.length dr, .slice bn y.ns.length dn] 25
  simp only [heap_size_alloc] at h2
  obtain ⟨gb, hgb⟩ : ∃ gb, w.heap.size = gb := ⟨_, rfl⟩
  have hm := hx.nodes.many
  have hm2 := hy.nodes.many
  unfold maxLen at hm hm2
  have l1 : (x.ns.length : Int) ≤ 9223372036854775807 := by omega
  have HX := Lib.hid hx
  have HY := Lib.hid hy
  have hs2 := two_graphs (List.mem_cons_of_mem _ (List.mem_cons_self ..)) (List.mem_cons_self ..) h2
  obtain ⟨E0, hE0⟩ : ∃ E0, [(w.heap.size + 1, Obj.cells #[.slice br y.rs.length dr, .slice bn y.ns.length dn] 25 (0, 0)), (w.heap.size, Obj.cells #[.slice ar x.rs.length cr, .slice an x.ns.length cn] 25 (0, 0))] = E0 := ⟨_, rfl⟩
  rw [hE0] at h2
  have Hcs := Lib.hid (show ∀ K W, FKN w (K ++ E0) W → (W.cell? ⟨gb, 0, none⟩ = some (.slice ar x.rs.length cr) ∧ W.cell? ⟨gb, 1, none⟩ = some (.slice an x.ns.length cn)) ∧ (W.cell? ⟨gb + 1, 0, none⟩ = some (.slice br y.rs.length dr) ∧ W.cell? ⟨gb + 1, 1, none⟩ = some (.slice bn y.ns.length dn)) from fun K W hW => by
    subst hE0 hgb
    exact two_graphs (List.mem_append_right _ (List.mem_cons_of_mem _ (List.mem_cons_self ..))) (List.mem_append_right _ (List.mem_cons_self ..)) hW)
  have H2 := Lib.hid h2
  obtain ⟨⟨p0, p1⟩, q0, q1⟩ := hs2
  have HE1 := Lib.hid (fun (W : World) (h : FKN w E0 W) => rints_any cr dr (hx.roots.below h.below) (hy.roots.below h.below))
  obtain ⟨v, hv⟩ : ∃ v, sameG x y = v := ⟨_, rfl⟩
  rw [hv]
  unfold sameG sameL at hv
  obtain ⟨o1, ho1⟩ : ∃ o1, decide (x.rs = y.rs) = o1 := ⟨_, rfl⟩
  rw [ho1] at hv HE1
  have HV := Lib.hid hv
  clear hE0 h1 h2 hx hy hv ho1
  cases o1
  · go_enter Try.func24, Try.ntmps24
    go_wp2_with (go_at_call 52; refine (HE1.out _ H2.out).mono ?_; rintro e w2 ⟨rfl, hb⟩; have H3 := Lib.hid (H2.out.grow hb); clear hb)
    go_ret
    exact ⟨by rw [← HV.out]; rfl, H3.out.below⟩
  · by_cases hl : x.ns.length = y.ns.length
    · have hl2 : ((x.ns.length : Int) != y.ns.length) = false := by simp [hl]
      have Hl := Lib.hid hl
      clear hl
      go_enter Try.func24, Try.ntmps24
      go_wp2_with (go_at_call 52; refine (HE1.out _ H2.out).mono ?_; rintro e w2 ⟨rfl, hb⟩; have H3 := Lib.hid (H2.out.grow hb); obtain ⟨⟨p0, p1⟩, q0, q1⟩ := Hcs.out [] _ H3.out; clear hb)
      clear HE1 p0 p1 q0 q1 H2
      go_loopw [5] (fun iv wr => ∃ i : Nat, iv = .int .i64 i ∧ i ≤ x.ns.length ∧ FKN w E0 wr ∧ ∀ j, j < i → sameN (x.ns.getD j default) (y.ns.getD j default) = true) (fun iv _ => x.ns.length - (intOf iv).toNat)
      case atStart => exact ⟨0, rfl, by omega, H3.out, fun j hj => by omega⟩
      case round =>
        clear H3
        obtain ⟨i, rfl, hi, hF, hpre⟩ := hrel
        have Hpre := Lib.hid hpre
        obtain ⟨⟨p0, p1⟩, q0, q1⟩ := Hcs.out [] _ hF
        clear hpre
        by_cases hlt : i < x.ns.length
        · have hlt2 : i < y.ns.length := by rw [← Hl.out]; exact hlt
          obtain ⟨b1, o1, ap, af, aw, cp, cf, cw, ha1, hx, m0, m1, m2⟩ := (HX.out.nodes.below hF.below).at_ hlt
          obtain ⟨b2, o2, bp, bf, bw, dp, df, dw, ha2, hy, n0, n1, n2⟩ := (HY.out.nodes.below hF.below).at_ hlt2
          subst ha1 ha2
          have k1 : (i : Int) < x.ns.length := by omega
          have k2 : (0 : Int) ≤ i := by omega
          have k3 : ((i : Int)).toNat = i := by omega
          have k4 : (i : Int) < y.ns.length := by omega
          obtain ⟨ok, hok⟩ : ∃ ok, sameN (x.ns.getD i default) (y.ns.getD i default) = ok := ⟨_, rfl⟩
          have Hn := Lib.hid (fun (e : ok = true) j (hj : j < i + 1) => (show sameN (x.ns.getD j default) (y.ns.getD j default) = true by
            rcases Nat.lt_or_ge j i with h2 | h2
            · exact Hpre.out j h2
            · rw [show j = i by omega, hok, e]))
          have Hbad := Lib.hid (fun (e : ok = false) => (show (true && (decide (x.ns.length = y.ns.length) && (List.range x.ns.length).all fun i => sameN (x.ns.getD i default) (y.ns.getD i default))) = false by
            rw [Bool.true_and, Bool.and_eq_false_iff]
            right
            rw [← Bool.not_eq_true, List.all_eq_true]
            intro hall
            have := hall i (by simp [hlt])
            rw [hok, e] at this
            cases this))
          generalize x.ns.getD i default = s at *
          generalize y.ns.getD i default = t at *
          have hF1 := hF.box #[.slice ap s.ps.length cp, .slice af s.fs.length cf, .slice aw s.ws.length cw] 47
          have hF2 := hF1.box #[.slice bp t.ps.length dp, .slice bf t.fs.length df, .slice bw t.ws.length dw] 47
          obtain ⟨⟨-, r1⟩, s0, s1⟩ := Hcs.out [(wr.heap.size, .cells #[.slice ap s.ps.length cp, .slice af s.fs.length cf, .slice aw s.ws.length cw] 47 (0, 0))] _ hF1
          have hb1 := below_new wr (.cells #[.slice ap s.ps.length cp, .slice af s.fs.length cf, .slice aw s.ws.length cw] 47)
          have hb2 := seq hb1 (below_new _ (.cells #[.slice bp t.ps.length dp, .slice bf t.fs.length df, .slice bw t.ws.length dw] 47))
          have n0 := cellB hb1 (Nat.le_refl _) n0
          have n1 := cellB hb1 (Nat.le_refl _) n1
          have n2 := cellB hb1 (Nat.le_refl _) n2
          simp only [heap_size_alloc] at hF2
          obtain ⟨⟨u0, u1, u2⟩, v0, v1, v2⟩ := two_nodes hF2
          have HF2 := Lib.hid hF2
          have hx2 := hx.below hb2
          have hy2 := hy.below hb2
          clear hF1 hF2 hb1 hb2 hx hy
          obtain ⟨bx, hbx⟩ : ∃ bx, wr.heap.size = bx := ⟨_, rfl⟩
          simp only [hbx] at HF2 u0 u1 u2 v0 v1 v2
          have HG1 := Lib.hid (rints_any cp dp hx2.ps hy2.ps)
          have HG2 := Lib.hid (fun W (h : Below _ _ W) => rwords_any cf df (hx2.fs.below h) (hy2.fs.below h))
          have HG3 := Lib.hid (fun W (h : Below _ _ W) => rwords_any cw dw (hx2.ws.below h) (hy2.ws.below h))
          unfold sameN at hok
          obtain ⟨o1, ho1⟩ : ∃ o1, decide (s.ps = t.ps) = o1 := ⟨_, rfl⟩
          obtain ⟨o2, ho2⟩ : ∃ o2, decide (s.fs = t.fs) = o2 := ⟨_, rfl⟩
          obtain ⟨o3, ho3⟩ : ∃ o3, decide (s.ws = t.ws) = o3 := ⟨_, rfl⟩
          rw [ho1] at hok HG1
          rw [ho2] at hok HG2
          rw [ho3] at hok HG3
          clear ho1 ho2 ho3 hx2 hy2
          cases o1
          · simp only [Bool.false_and] at hok
            subst hok
            go_wp2_with (go_at_call 52; refine HG1.out.mono ?_; rintro e w2 ⟨rfl, hb⟩; have H3 := Lib.hid (HF2.out.grow hb); clear hb)
            go_ret
            exact ⟨by rw [← HV.out, Hbad.out (by trivial)]; rfl, H3.out.below⟩
          · cases o2
            · simp only [Bool.false_and, Bool.and_false] at hok
              subst hok
              go_wp2_with (first
                | (go_at_call 52; refine HG1.out.mono ?_; rintro e w2 ⟨rfl, hb⟩; have H3 := Lib.hid (HF2.out.grow hb); have HB := Lib.hid hb; obtain ⟨⟨u0, u1, u2⟩, v0, v1, v2⟩ := two_nodes H3.out; clear hb)
                | (go_at_call 53; refine (HG2.out _ HB.out).mono ?_; rintro e w3 ⟨rfl, hb⟩; have H4 := Lib.hid (H3.out.grow hb); clear hb))
              go_ret
              exact ⟨by rw [← HV.out, Hbad.out (by trivial)]; rfl, H4.out.below⟩
            · simp only [Bool.true_and] at hok
              subst hok
              cases o3
              all_goals
                go_wp2_with (first
                  | (go_at_call 52; refine HG1.out.mono ?_; rintro e w2 ⟨rfl, hb⟩; have H3 := Lib.hid (HF2.out.grow hb); have HB := Lib.hid hb; obtain ⟨⟨u0, u1, u2⟩, v0, v1, v2⟩ := two_nodes H3.out; clear hb)
                  | (go_at_call 53; refine (HG2.out _ HB.out).mono ?_; rintro e w3 ⟨rfl, hb⟩; have H4 := Lib.hid (H3.out.grow hb); have HC := Lib.hid (seq HB.out hb); obtain ⟨⟨u0, u1, u2⟩, v0, v1, v2⟩ := two_nodes H4.out; clear hb HG2)
                  | (go_at_call 53; refine (HG3.out _ HC.out).mono ?_; rintro e w4 ⟨rfl, hb⟩; have H5 := Lib.hid (H4.out.grow hb); clear hb))
              · go_ret
                exact ⟨by rw [← HV.out, Hbad.out (by trivial)]; rfl, H5.out.below⟩
              · go_roundw
                case rel => exact ⟨i + 1, by go_num, by omega, H5.out.tail.tail, Hn.out (by trivial)⟩
                case measure => simp [intOf]; omega
        · obtain rfl : i = x.ns.length := by omega
          have k1 : ¬ (x.ns.length : Int) < x.ns.length := by omega
          have HF := Lib.hid hF
          clear hF
          go_wp2_with (fail)
          go_ret
          refine ⟨?_, by rw [← hgb]; exact HF.out.below⟩
          rw [← HV.out, decide_eq_true Hl.out, Bool.true_and, Bool.true_and, List.all_eq_true.2 (fun j hj => Hpre.out j (by simpa using hj))]
          rfl
    · have hl2 : ((x.ns.length : Int) != y.ns.length) = true := by
        rw [bne_iff_ne]
        omega
      have Hne := Lib.hid hl
      clear hl
      go_enter Try.func24, Try.ntmps24
      go_wp2_with (go_at_call 52; refine (HE1.out _ H2.out).mono ?_; rintro e w2 ⟨rfl, hb⟩; have H3 := Lib.hid (H2.out.grow hb); obtain ⟨⟨p0, p1⟩, q0, q1⟩ := Hcs.out [] _ H3.out; clear hb)
      go_ret
      exact ⟨by rw [← HV.out, decide_eq_false Hne.out]; rfl, H3.out.below⟩
end Go.Proofs.Ytplkogjnmjjjgaa
