/- The walk of slices.Clone at uint64: a row of the call's own with the same numbers. -/
import Derived.Test.YtplkogjnmjjjgaaGOwn
namespace Go.Proofs.Ytplkogjnmjjjgaa
open Go.ChangeShapes Go.WideShapes Go.ChangeAt Go.RowKit Go.Maps
set_option linter.unusedVariables false
set_option linter.unusedSimpArgs false

theorem IntRow.src {k : IntKind} {w : World} {a : Option Addr} {zs : List Int} (h : IntRow k w a zs) : 0 < zs.length → ∃ b off, a = some ⟨b, off, none⟩ ∧ ∀ j u, (zs.map fun z => Value.int k z)[j]? = some u → w.cell? ⟨b, off + j, none⟩ = some u := by
  intro h0
  obtain ⟨b, off, ha, hc⟩ := h.cell
  refine ⟨b, off, ?_, fun j u hu => ?_⟩
  · rcases ha with e | e
    · rw [e] at h0; cases h0
    · exact e
  · have hj : j < zs.length := by
      have := (List.getElem?_eq_some_iff.1 hu).1
      simpa using this
    rw [List.getElem?_map, List.getElem?_eq_getElem hj] at hu
    have := hc j hj
    rw [List.getD_eq_getElem?_getD, List.getElem?_eq_getElem hj] at this
    rw [this]
    exact hu
set_option maxRecDepth 100000 in
theorem clone_u64 {W0 w : World} {K : List (Nat × Obj)} (h : FKN W0 K w) {a : Option Addr} {zs : List Int} (cap : Nat) (hz : IntRow .u64 W0 a zs) (hm : zs.length ≤ 4000) :
    Calls Try.prog 39 #[.slice a zs.length cap] w fun e w' => ∃ al cap', e = .returned (.slice al zs.length cap') ∧ ∃ R, Rw W0.heap.size 48 1 zs.length (icU zs) al cap' R ∧ FKN W0 (R ++ K) w' := by
  obtain ⟨i1, hj, hy0, hy1, hy2⟩ := info_parts uint_info
  have q22 : ∀ (w : World) (a : Option Addr) (n c n' c' : Nat), (binOp .eql 45 (.slice a n c) (.slice none n' c')).run Try.prog w = .ok (.bool a.isNone) w := fun w a n c n' c' => Lib.run_eql_slice_nil w _ _ a n c n' c' Try.underlying45
  cases ha : a with
  | none =>
    obtain ⟨b, off, h1, -⟩ := hz.cell
    obtain rfl : zs = [] := by
      rcases h1 with e | e
      · exact e
      · rw [ha] at e; cases e
    have HK := Lib.hid h
    clear h hz
    go_enter Try.func39, Try.ntmps39
    go_wp2_with (fail)
    go_ret
    exact ⟨none, 0, rfl, [], Rw.nil _ _ _, HK.out⟩
  | some ad =>
    subst ha
    have hB := h.box #[] 48
    have hz2 := hz.below hB.below
    have hr0 : Rw W0.heap.size 48 1 0 [] (some ⟨w.heap.size, 0, none⟩) 0 [(w.heap.size, .cells #[] 48 (0, 0))] := .inr ⟨w.heap.size, #[], rfl, h.below.size, Nat.le_refl _, by unfold maxLen; omega, rfl, rfl, rfl, rfl⟩
    obtain ⟨al', cap', w5, R', hrun, hr, hN⟩ := hr0.appN hB hj hy0 hy1 hy2 rfl (by decide) Try.underlying45 (news := icU zs) (m := zs.length) (by simp [icU]) (a := some ad) cap (fun h0 => hz2.src h0) (fun u hu => by
      unfold icU at hu
      rw [List.mem_map] at hu
      obtain ⟨z, -, rfl⟩ := hu
      rfl) (by unfold maxLen; omega) (by omega)
    rw [Nat.zero_add] at hrun hr
    have HR := Lib.hid hrun
    have Hr := Lib.hid hr
    have HN := Lib.hid hN
    clear hrun hr hN hB hz hz2 hr0 h
    go_enter Try.func39, Try.ntmps39
    go_wp2_with (at_builtin; refine wpList_append_run _ rfl (.tmp 5) (.tmp 6) 45 rfl _ _ _ _ rfl rfl HR.out ?_)
    go_ret
    exact ⟨_, _, rfl, _, Hr.out, HN.out⟩
end Go.Proofs.Ytplkogjnmjjjgaa
