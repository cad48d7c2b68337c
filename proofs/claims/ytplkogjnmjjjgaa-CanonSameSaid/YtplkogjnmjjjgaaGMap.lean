/- A map from ints to ints of the call's own, as an object that stays or changes: lookup with its ok, store. -/
import Derived.Test.YtplkogjnmjjjgaaGB
import Derived.Maps.OwnSet
import Derived.Maps.OwnOps
import Derived.Maps.Views
import Derived.WalkArith
namespace Go.Proofs.Ytplkogjnmjjjgaa
open Go.ChangeShapes Go.WideShapes Go.ChangeAt Go.RowKit Go.Maps
set_option linter.unusedVariables false

theorem law_int : Keyed Try.prog 3 := int_keyed Try.underlying3
def IsI (f : Int) : Prop := -9223372036854775808 ≤ f ∧ f ≤ 9223372036854775807
theorem key_i64 {f : Int} (h : IsI f) : keyOf Try.prog 3 (.int .i64 f) = some (.int .i64 f) := keyOf_int_mk Try.underlying3 (WalkArith.wf_i64 h)
theorem lit_ne {f g : Int} (h : g ≠ f) : (Lit.int .i64 g) ≠ .int .i64 f := fun e => h (by injection e)
/-- an object is a map of at most n entries that holds m -/
def IM (n : Nat) (m : Int → Option Int) (o : Obj) : Prop :=
  ∃ es clock, o = .map es clock ∧ ∀ (w : World) (b : Nat), w.heap[b]? = some o → ∃ D : DataW Unit, w.ownsMap Try.prog 3 (plainElem Try.prog 3) b n D ∧ Tidy D ∧ ∀ f, IsI f → Maps.has D (.int .i64 f) = (m f).isSome ∧ D.atKey (.int .i64 f) (.lit (.int .i64 0)) = .lit (.int .i64 ((m f).getD 0))
theorem own_obj {w w' : World} {b n : Nat} {D : DataW Unit} {o : Obj} (h : w.ownsMap Try.prog 3 (plainElem Try.prog 3) b n D) (hb : w.heap[b]? = some o) {b' : Nat} (hb' : w'.heap[b']? = some o) : w'.ownsMap Try.prog 3 (plainElem Try.prog 3) b' n D := by
  obtain ⟨es, clock, h1, F, hs, hD⟩ := h
  rw [hb] at h1
  cases h1
  exact ⟨es, clock, hb', F, hs, hD⟩
theorem IM.made : IM 0 (fun _ => none) (.map #[] 0) := by
  refine ⟨#[], 0, rfl, fun w b hb => ?_⟩
  have hm := World.ownsMap_made (H := Unit) (P := Try.prog) (k := 3) (R := plainElem Try.prog 3) (w := w)
  exact ⟨.map [], own_obj hm (heap_alloc_new w (.map #[] 0)) hb, tidy_empty, fun f _ => ⟨rfl, rfl⟩⟩
theorem zero_int (w : World) : (zeroValue 3).run Try.prog w = .ok (.int .i64 0) w := by kernel_rfl
theorem IM.look {n : Nat} {m : Int → Option Int} {o : Obj} (h : IM n m o) {w : World} {b : Nat} (hb : w.heap[b]? = some o) {f : Int} (hf : IsI f) :
    (Instr.lookup 71 (.map (some b)) (.int .i64 f) true).run Try.prog w = .ok (.tuple #[.int .i64 ((m f).getD 0), .bool (m f).isSome]) w := by
  obtain ⟨es, clock, -, hD⟩ := h
  obtain ⟨D, ho, ht, hat⟩ := hD w b hb
  obtain ⟨h1, h2⟩ := hat f hf
  obtain ⟨v, ps, hrun, hv⟩ := ho.look_ok law_int Try.underlying71 (zero_int w) (plainElem_int Try.underlying3 (by decide)) (key_i64 hf)
  obtain ⟨c, rfl, hc, hwc⟩ := plainElem_int_inv Try.underlying3 hv
  rw [hrun, h1]
  simp only [Prod.mk.injEq] at hc
  rw [h2] at hc
  have : c = (m f).getD 0 := by
    have := hc.1
    simp at this
    exact this.symm
  rw [this]
theorem IM.put {n : Nat} {m : Int → Option Int} {o : Obj} (h : IM n m o) (hn : n < maxLen) {w : World} {b : Nat} (hb : w.heap[b]? = some o) {f x : Int} (hf : IsI f) (hx : IsI x) :
    ∃ w' o', (Instr.mapUpdate 71 (.map (some b)) (.int .i64 f) (.int .i64 x)).run Try.prog w = .ok () w' ∧ w'.heap[b]? = some o' ∧ IM (n + 1) (fun g => if g = f then some x else m g) o' ∧ Chg (· = b) w w' := by
  obtain ⟨es, clock, -, hD⟩ := h
  obtain ⟨D, ho, ht, hat⟩ := hD w b hb
  obtain ⟨w', hrun, ho', hg⟩ := ho.update law_int Try.underlying71 hn (key_i64 hf) (plainElem_int Try.underlying3 (WalkArith.wf_i64 hx))
  have hk : WideAt.IsKeyLit (.int .i64 f) := law_int.key (key_i64 hf)
  obtain ⟨es', clock', hb', F', hs', hD'⟩ := id ho'
  refine ⟨w', .map es' clock', hrun, hb', ⟨es', clock', rfl, fun w2 b2 hb2 => ⟨_, own_obj ho' hb' hb2, ht.put hk _, fun g hg2 => ?_⟩⟩, ⟨hg.os, hg.tape, hg.output, hg.size, fun k hk hne => hg.block k hk (fun e => hne (by simpa using e))⟩⟩
  show _ = (if g = f then some x else m g).isSome ∧ _ = DataW.lit (.int .i64 ((if g = f then some x else m g).getD 0))
  by_cases e : g = f
  · subst e
    exact ⟨by rw [has_put_same ht.isMap hk]; simp, by rw [atKey_put_same ht.isMap hk]; simp⟩
  · rw [has_put_other (lit_ne e), atKey_put_other (lit_ne e), if_neg e]
    exact hat g hg2
end Go.Proofs.Ytplkogjnmjjjgaa
