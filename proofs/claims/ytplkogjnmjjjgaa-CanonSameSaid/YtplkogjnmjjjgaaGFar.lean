/- The walk of Far: a graph that is not far has few of all. -/
import Derived.Test.YtplkogjnmjjjgaaGArg
namespace Go.Proofs.Ytplkogjnmjjjgaa
open Go.ChangeShapes Go.WideShapes Go.ChangeAt Go.RowKit Go.Maps
set_option linter.unusedVariables false
set_option linter.unusedSimpArgs false

/-- not far -/
structure NearG (g : Gr) : Prop where
  ns : g.ns.length ≤ 60
  rs : g.rs.length ≤ 1500
  each : ∀ i, i < g.ns.length → (g.ns.getD i default).ps.length ≤ 1500 ∧ (g.ns.getD i default).fs.length ≤ 1500 ∧ (g.ns.getD i default).ws.length ≤ 1500
theorem NearG.few {g : Gr} (h : NearG g) : FewG g := by
  refine ⟨by have := h.ns; omega, by have := h.rs; omega, fun x hx => ?_⟩
  obtain ⟨i, hi, rfl⟩ := List.getElem_of_mem hx
  have := h.each i hi
  rw [List.getD_eq_getElem?_getD, List.getElem?_eq_getElem hi] at this
  simp only [Option.getD_some] at this
  omega
def szN (x : Nd) : Nat := 1 + x.ps.length + x.fs.length + x.ws.length
def totN (ns : List Nd) : Nat := (ns.map szN).sum
/-- what Far answers -/
def farG (g : Gr) : Bool := decide (1500 < g.rs.length + totN g.ns) || decide (60 < g.ns.length)
theorem totN_mem : ∀ {ns : List Nd} {x : Nd}, x ∈ ns → szN x ≤ totN ns
  | y :: ns, x, h => by
    unfold totN
    rw [List.map_cons, List.sum_cons]
    rcases List.mem_cons.1 h with rfl | h
    · omega
    · have := totN_mem h
      unfold totN at this
      omega
  | [], _, h => by cases h
theorem totN_append (a b : List Nd) : totN (a ++ b) = totN a + totN b := by simp [totN]
theorem totN_take (ns : List Nd) (i : Nat) : totN (ns.take i) ≤ totN ns := by
  conv => rhs; rw [← List.take_append_drop i ns]
  rw [totN_append]
  omega
theorem totN_next {ns : List Nd} {i : Nat} (h : i < ns.length) : totN (ns.take (i + 1)) = totN (ns.take i) + szN (ns.getD i default) := by
  rw [take_succ_getD default h, totN_append]
  simp [totN]
theorem near_of {g : Gr} (h : farG g = false) : NearG g := by
  unfold farG at h
  rw [Bool.or_eq_false_iff, decide_eq_false_iff_not, decide_eq_false_iff_not] at h
  refine ⟨by omega, by omega, fun i hi => ?_⟩
  have := totN_mem (getD_mem default hi)
  unfold szN at this
  omega
set_option maxRecDepth 100000 in
set_option maxHeartbeats 1000000 in
theorem far_any {w : World} {ar an : Option Addr} {g : Gr} (cr cn : Nat) (hG : GRd w ar an g) (hs : SmG g) :
    Calls Try.prog 10 #[.agg #[.slice ar g.rs.length cr, .slice an g.ns.length cn]] w fun e w' => e = .returned (.bool (farG g)) ∧ Below w.heap.size w w' := by
  have h1 := (FKN.refl w).box #[.slice ar g.rs.length cr, .slice an g.ns.length cn] 25
  have HG := Lib.hid hG
  have HS := Lib.hid hs
  have l1 : (g.rs.length : Int) ≤ 140737488355328 := by have := hs.rs; omega
  have l2 : (g.ns.length : Int) ≤ 140737488355328 := by have := hs.ns; omega
  obtain ⟨gb, hgb⟩ : ∃ gb, w.heap.size = gb := ⟨_, rfl⟩
  simp only [hgb] at h1
  have hq := h1.1.block (List.mem_cons_self ..)
  have c0 := at_cell hq 0 _ rfl
  have c1 := at_cell hq 1 _ rfl
  have H1 := Lib.hid h1
  obtain ⟨V, hV⟩ : ∃ V, farG g = V := ⟨_, rfl⟩
  rw [hV]
  have HV := Lib.hid hV
  clear hq h1 hs hG hV
  go_enter Try.func10, Try.ntmps10
  go_wp2_with (fail)
  clear c0 c1
  go_loopw [3, 12] (fun nv iv wr => ∃ i n : Nat, nv = .int .i64 n ∧ iv = .int .i64 i ∧ i ≤ g.ns.length ∧ n ≤ 140737488355328 ∧ n = g.rs.length + totN (g.ns.take i) ∧ FKN w [(gb, .cells #[.slice ar g.rs.length cr, .slice an g.ns.length cn] 25 (0, 0))] wr) (fun _ iv _ => g.ns.length - (intOf iv).toNat)
  case atStart => exact ⟨0, g.rs.length, rfl, rfl, by omega, by omega, by simp [totN], H1.out⟩
  case round =>
    clear H1
    obtain ⟨i, n, rfl, rfl, hi, hn, hrn, hF⟩ := hrel
    have Hrn := Lib.hid hrn
    clear hrn
    by_cases hlt : i < g.ns.length
    · obtain ⟨b, off, ap, af, aw, cp, cf, cw, rfl, hx, m0, m1, m2⟩ := (HG.out.nodes.below hF.below).at_ hlt
      obtain ⟨z0, z1, z2⟩ := HS.out.each i hlt
      have Hn := Lib.hid (totN_next hlt)
      generalize g.ns.getD i default = x at *
      obtain ⟨ps, fs, ws⟩ := x
      simp only at m0 m1 m2 z0 z1 z2 Hn
      have k1 : (i : Int) < g.ns.length := by omega
      have k2 : (0 : Int) ≤ i := by omega
      have k3 : ((i : Int)).toNat = i := by omega
      have y0 : (ps.length : Int) ≤ 140737488355328 := by omega
      have y1 : (fs.length : Int) ≤ 140737488355328 := by omega
      have y2 : (ws.length : Int) ≤ 140737488355328 := by omega
      have y3 : (n : Int) ≤ 140737488355328 := by omega
      have HF := Lib.hid (hF.box #[.slice ap ps.length cp, .slice af fs.length cf, .slice aw ws.length cw] 47)
      clear hF hx
      by_cases hg : n + (1 + ps.length + fs.length + ws.length) ≤ 1500
      · have hg2 : (n : Int) + (1 + ps.length + fs.length + ws.length) ≤ 1500 := by omega
        go_wp2_with (fail)
        go_roundw
        case rel => exact ⟨i + 1, n + (1 + ps.length + fs.length + ws.length), by go_num, by go_num, by omega, by omega, by have h1 := Hn.out; have h2 := Hrn.out; unfold szN at h1; simp only at h1; omega, HF.out.tail⟩
        case measure => simp [intOf]; omega
      · have hg2 : ¬ (n : Int) + (1 + ps.length + fs.length + ws.length) ≤ 1500 := by omega
        go_wp2_with (fail)
        go_ret
        subst hgb
        refine ⟨?_, HF.out.below⟩
        rw [← HV.out]
        have h1 := Hn.out
        have h2 := Hrn.out
        have h3 := totN_take g.ns (i + 1)
        unfold szN at h1
        simp only at h1
        unfold farG
        rw [decide_eq_true (show 1500 < g.rs.length + totN g.ns by omega)]
        rfl
    · obtain rfl : i = g.ns.length := by omega
      have k1 : ¬ (g.ns.length : Int) < g.ns.length := by omega
      have hq := hF.1.block (List.mem_cons_self ..)
      have c1 := at_cell hq 1 _ rfl
      have HF := Lib.hid hF
      clear hF hq
      have y3 : (n : Int) ≤ 140737488355328 := by omega
      by_cases hg : n ≤ 1500
      · by_cases hg3 : g.ns.length ≤ 60
        · have hd : decide ((1500 : Int) < n) = false := decide_eq_false (by omega)
          have hd2 : decide ((60 : Int) < g.ns.length) = false := decide_eq_false (by omega)
          have HFIN := Lib.hid (show farG g = false from by
            have := Hrn.out
            rw [List.take_length] at this
            unfold farG
            rw [decide_eq_false (by omega), decide_eq_false (by omega)]
            rfl)
          go_wp2_with (fail)
          go_ret
          subst hgb
          exact ⟨by rw [← HV.out, HFIN.out]; rfl, HF.out.below⟩
        · have hd : decide ((1500 : Int) < n) = false := decide_eq_false (by omega)
          have hd2 : decide ((60 : Int) < g.ns.length) = true := decide_eq_true (by omega)
          have HFIN := Lib.hid (show farG g = true from by
            unfold farG
            rw [decide_eq_true (show 60 < g.ns.length by omega), Bool.or_true])
          go_wp2_with (fail)
          go_ret
          subst hgb
          exact ⟨by rw [← HV.out, HFIN.out]; rfl, HF.out.below⟩
      · have hd : decide ((1500 : Int) < n) = true := decide_eq_true (by omega)
        have HFIN := Lib.hid (show farG g = true from by
          have := Hrn.out
          rw [List.take_length] at this
          unfold farG
          rw [decide_eq_true (show 1500 < g.rs.length + totN g.ns by omega), Bool.true_or])
        go_wp2_with (fail)
        go_ret
        subst hgb
        exact ⟨by rw [← HV.out, HFIN.out]; rfl, HF.out.below⟩
end Go.Proofs.Ytplkogjnmjjjgaa
