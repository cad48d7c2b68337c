/- The walk of met.meet: a node is met, if it was not met yet. -/
import Derived.Test.YtplkogjnmjjjgaaGMet
import Derived.StillTailTactics
import Derived.WalkKit
namespace Go.Proofs.Ytplkogjnmjjjgaa
open Go.ChangeShapes Go.WideShapes Go.ChangeAt Go.RowKit Go.Maps
set_option linter.unusedVariables false
set_option linter.unusedSimpArgs false

/-- the places of the nodes met -/
def atM (al : List Int) : Int → Option Int := fun k => if k ∈ al then some ((al.idxOf k : Nat) : Int) else none
theorem atM_snoc {al : List Int} {k : Int} (h : ¬ k ∈ al) : atM (al ++ [k]) = fun g => if g = k then some (al.length : Int) else atM al g := by
  funext g
  unfold atM
  by_cases e : g = k
  · subst e
    rw [if_pos (by simp), if_pos rfl, List.idxOf_append, if_neg h]
    simp
  · rw [if_neg e]
    by_cases hg : g ∈ al
    · rw [if_pos (by simp [hg]), if_pos hg, List.idxOf_append, if_pos hg]
    · rw [if_neg (by simp [hg, e]), if_neg hg]
def MetS (W0 : World) (p mb : Nat) (S : Mt) (E : List (Nat × Obj)) (w : World) : Prop :=
  ∃ (o : Obj) (a0 a2 a3 : Option Addr) (c0 c2 c3 : Nat) (R0 R2 R3 : List (Nat × Obj)), IM S.al.length (atM S.al) o ∧ Met1 W0 p mb S.al S.fr S.st o E a0 a2 a3 c0 c2 c3 R0 R2 R3 w
theorem MetS.grow {W0 w w' : World} {p mb : Nat} {S : Mt} {E : List (Nat × Obj)} (h : MetS W0 p mb S E w) (c : Below w.heap.size w w') : MetS W0 p mb S E w' := by
  obtain ⟨o, a0, a2, a3, c0, c2, c3, R0, R2, R3, h1, h2⟩ := h
  exact ⟨o, a0, a2, a3, c0, c2, c3, R0, R2, R3, h1, h2.grow c⟩
set_option maxRecDepth 100000 in
set_option maxHeartbeats 2000000 in
theorem meet_any {W0 w : World} {p mb N : Nat} {S : Mt} {E : List (Nat × Obj)} (h : MetS W0 p mb S E w) (hOk : MOk N S) (hN : N ≤ 4096) (k f s : Int) (hk : inr N k = true) :
    Calls Try.prog 79 #[.pointer (some ⟨p, 0, none⟩), .int .i64 k, .int .i64 f, .int .i64 s] w fun e w' => e = .returned (.tuple #[]) ∧ MetS W0 p mb (meetM S k f s) E w' := by
  obtain ⟨o, a0, a2, a3, c0, c2, c3, R0, R2, R3, hM, h1⟩ := h
  have hlen := hOk.len
  have hlf := hOk.fr
  have hls := hOk.st
  unfold inr at hk
  have hk := of_decide_eq_true hk
  have hkI : IsI k := by unfold IsI; omega
  have hlk := hM.look h1.mapb hkI
  obtain ⟨al, fr, st⟩ := S
  simp only at *
  obtain ⟨u0, u1, -⟩ := h1.cell
  obtain ⟨S', hS'⟩ : ∃ S', meetM ⟨al, fr, st⟩ k f s = S' := ⟨_, rfl⟩
  rw [hS']
  unfold meetM at hS'
  by_cases hsk : k < 0 ∨ k ∈ al
  · rw [if_pos hsk] at hS'
    subst hS'
    have H1 := Lib.hid h1
    have HM := Lib.hid hM
    have hds : decide (k < 0) = true ∨ decide (k < 0) = false ∧ (atM al k).isSome = true := by
      by_cases h0 : k < 0
      · exact .inl (decide_eq_true h0)
      · refine .inr ⟨decide_eq_false h0, ?_⟩
        unfold atM
        rw [if_pos (by rcases hsk with e | e; exact absurd e h0; exact e)]
        rfl
    generalize (atM al k).getD 0 = v at *
    generalize (atM al k).isSome = ok at *
    clear h1 hM hsk
    rcases hds with hd | ⟨hd, rfl⟩
    all_goals
      go_enter Try.func79, Try.ntmps79
      go_wp2_with (fail)
      exact bodyPost_ret (v := .tuple #[]) (by simp [results, Try.results79, go_sem]) rfl ⟨rfl, o, a0, a2, a3, c0, c2, c3, R0, R2, R3, HM.out, H1.out⟩
  · rw [if_neg hsk] at hS'
    subst hS'
    rw [not_or] at hsk
    have hd : decide (k < 0) = false := decide_eq_false hsk.1
    have hno : atM al k = none := by unfold atM; rw [if_neg hsk.2]
    have hsn := atM_snoc hsk.2
    rw [hno] at hlk
    simp only [Option.getD_none, Option.isSome_none] at hlk
    have H1 := Lib.hid (h1.grow (below_drew _))
    have HM := Lib.hid hM
    have HSN := Lib.hid hsn
    have l1 : (al.length : Int) ≤ 4096 := by omega
    clear h1 hM hsk hno hsn
    go_enter Try.func79, Try.ntmps79
    go_wp2_with (fail)
    refine wp_region_still_tail 10 (by kernel_rfl) (by kernel_rfl) ?_
    simp only [List.take_succ_cons, List.take_zero, List.drop_succ_cons, List.drop_zero]
    unfold World.drew at H1
    generalize ({ w with drawn := w.drawn + 1 } : World) = W2 at *
    clear u0 u1 hlk
    obtain ⟨u0, u1, -⟩ := H1.out.cell
    repeat still_step
    refine wpStill_nil ?_
    obtain ⟨w3, o3, hput, hb3, hM3, hc3⟩ := HM.out.put (by unfold maxLen; omega) H1.out.mapb hkI (x := (al.length : Int)) (by unfold IsI; omega)
    have h3 := H1.out.putM hc3 hb3
    obtain ⟨x0, y0, w4, Q0, hrun4, hh4, h4⟩ := h3.app0 k (by omega)
    obtain ⟨v4, hv4⟩ : ∃ v, w4.setCell ⟨p, 0, none⟩ (.slice x0 (al.length + 1) y0) = v := ⟨_, rfl⟩
    rw [hv4] at h4
    obtain ⟨x2, y2, w5, Q2, hrun5, hh5, h5⟩ := h4.app2 f (by omega)
    obtain ⟨v5, hv5⟩ : ∃ v, w5.setCell ⟨p, 2, none⟩ (.slice x2 (fr.length + 1) y2) = v := ⟨_, rfl⟩
    rw [hv5] at h5
    obtain ⟨x3, y3, w6, Q3, hrun6, hh6, h6⟩ := h5.app3 s (by omega)
    have e0 := h3.cell.1
    have t0 := at_cell hh4 0 (.slice a0 al.length c0) rfl
    have f0 := at_free hh4 0
    have e2 := h4.cell.2.2.1
    have t2 := at_cell hh5 2 (.slice a2 fr.length c2) rfl
    have f2 := at_free hh5 2
    have e3 := h5.cell.2.2.2
    have t3 := at_cell hh6 3 (.slice a3 st.length c3) rfl
    have f3 := at_free hh6 3
    have H6 := Lib.hid h6
    have HM3 := Lib.hid hM3
    have HR4 := Lib.hid hrun4
    have HR5 := Lib.hid hrun5
    have HR6 := Lib.hid hrun6
    clear h3 h4 h5 h6 hh4 hh5 hh6 hrun4 hrun5 hrun6 hM3 hb3 hc3 u0 u1 hlf hls hOk
    go_wp2_with (first
      | (at_builtin; refine wpList_append_run _ rfl (.tmp 38) (.tmp 40) 22 rfl _ _ _ _ rfl rfl HR4.out ?_; clear HR4)
      | (at_builtin; refine wpList_append_run _ rfl (.tmp 48) (.tmp 50) 22 rfl _ _ _ _ rfl rfl HR5.out ?_; clear HR5)
      | (at_builtin; refine wpList_append_run _ rfl (.tmp 58) (.tmp 60) 22 rfl _ _ _ _ rfl rfl HR6.out ?_; clear HR6))
    go_end0
    refine ⟨rfl, o3, x0, x2, x3, y0, y2, y3, Q0, Q2, Q3, ?_, H6.out⟩
    show IM (al ++ [k]).length (atM (al ++ [k])) o3
    rw [HSN.out, List.length_append]
    exact HM3.out
end Go.Proofs.Ytplkogjnmjjjgaa
