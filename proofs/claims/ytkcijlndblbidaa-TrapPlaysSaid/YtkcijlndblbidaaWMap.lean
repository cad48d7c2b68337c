/- A map from ints to bools of the call's own, as a block that stays or changes. -/
import Derived.Test.YtkcijlndblbidaaWSizesW
import Derived.Maps.OwnSet
import Derived.Maps.OwnOps
import Derived.Maps.Views
import Derived.WalkArith
namespace Go.Proofs.Ytkcijlndblbidaa
open Go.ChangeShapes Go.WideShapes Go.ChangeAt Go.RowKit Go.Maps
set_option linter.unusedVariables false

theorem wlaw_int : Keyed Try.prog 3 := int_keyed Try.underlying3
def IsI (f : Int) : Prop := -9223372036854775808 ≤ f ∧ f ≤ 9223372036854775807
theorem wkey {f : Int} (h : IsI f) : keyOf Try.prog 3 (.int .i64 f) = some (.int .i64 f) := keyOf_int_mk Try.underlying3 (WalkArith.wf_i64 h)
/-- an object is a map of at most n entries that holds true at s -/
def BM (n : Nat) (s : Int → Bool) (o : Obj) : Prop :=
  ∃ es clock, o = .map es clock ∧ ∀ (w : World) (b : Nat), w.heap[b]? = some o → ∃ D : DataW Unit, w.ownsMap Try.prog 3 (plainElem Try.prog 4) b n D ∧ Tidy D ∧ ∀ f, IsI f → D.atKey (.int .i64 f) (.lit (.bool false)) = .lit (.bool (s f))
theorem own_obj {w w' : World} {b n : Nat} {D : DataW Unit} {o : Obj} (h : w.ownsMap Try.prog 3 (plainElem Try.prog 4) b n D) (hb : w.heap[b]? = some o) {b' : Nat} (hb' : w'.heap[b']? = some o) : w'.ownsMap Try.prog 3 (plainElem Try.prog 4) b' n D := by
  obtain ⟨es, clock, h1, F, hs, hD⟩ := h
  rw [hb] at h1
  cases h1
  exact ⟨es, clock, hb', F, hs, hD⟩
theorem BM.made : BM 0 (fun _ => false) (.map #[] 0) := by
  refine ⟨#[], 0, rfl, fun w b hb => ?_⟩
  have hm := World.ownsMap_made (H := Unit) (P := Try.prog) (k := 3) (R := plainElem Try.prog 4) (w := w)
  exact ⟨.map [], own_obj hm (heap_alloc_new w (.map #[] 0)) hb, tidy_empty, fun f _ => rfl⟩
theorem zero_bool (w : World) : (zeroValue 4).run Try.prog w = .ok (.bool false) w := by kernel_rfl
theorem plain_bool_inv {P : Program} {e : TypeId} (he : P.underlying e = some .bool) {v : Value} {z : DataW Unit × List MemPlace} (h : plainElem P e v = some z) : ∃ x, v = .bool x ∧ z = (.lit (.bool x), []) := by
  unfold plainElem at h
  rw [he] at h
  cases v <;> simp at h
  exact ⟨_, rfl, h.symm⟩
theorem BM.look {n : Nat} {s : Int → Bool} {o : Obj} (h : BM n s o) {w : World} {b : Nat} (hb : w.heap[b]? = some o) {f : Int} (hf : IsI f) :
    (Instr.lookup 203 (.map (some b)) (.int .i64 f) false).run Try.prog w = .ok (.bool (s f)) w := by
  obtain ⟨es, clock, -, hD⟩ := h
  obtain ⟨D, ho, ht, hat⟩ := hD w b hb
  obtain ⟨v, ps, hrun, hv⟩ := ho.lookup wlaw_int Try.underlying203 (zero_bool w) (plainElem_bool Try.underlying4 false) (wkey hf)
  obtain ⟨x, rfl, hx⟩ := plain_bool_inv Try.underlying4 hv
  simp only [Prod.mk.injEq] at hx
  rw [hat f hf] at hx
  have : s f = x := by
    have := hx.1
    simpa using this
  rw [hrun, this]
theorem BM.put {n : Nat} {s : Int → Bool} {o : Obj} (h : BM n s o) (hn : n < maxLen) {w : World} {b : Nat} (hb : w.heap[b]? = some o) {f : Int} (hf : IsI f) :
    ∃ w' o', (Instr.mapUpdate 203 (.map (some b)) (.int .i64 f) (.bool true)).run Try.prog w = .ok () w' ∧ w'.heap[b]? = some o' ∧ BM (n + 1) (fun g => decide (g = f) || s g) o' ∧ Chg (· = b) w w' := by
  obtain ⟨es, clock, -, hD⟩ := h
  obtain ⟨D, ho, ht, hat⟩ := hD w b hb
  obtain ⟨w', hrun, ho', hg⟩ := ho.update wlaw_int Try.underlying203 hn (wkey hf) (plainElem_bool Try.underlying4 true)
  have hk : WideAt.IsKeyLit (.int .i64 f) := wlaw_int.key (wkey hf)
  obtain ⟨es', clock', hb', F', hs', hD'⟩ := id ho'
  refine ⟨w', .map es' clock', hrun, hb', ⟨es', clock', rfl, fun w2 b2 hb2 => ⟨_, own_obj ho' hb' hb2, ht.put hk _, fun g hg2 => ?_⟩⟩, ⟨hg.os, hg.tape, hg.output, hg.size, fun k hk hne => hg.block k hk (fun e => hne (by simpa using e))⟩⟩
  by_cases e : g = f
  · subst e
    rw [atKey_put_same ht.isMap hk]
    simp
  · rw [atKey_put_other (fun e2 => e (by injection e2)), hat g hg2]
    simp [e]
end Go.Proofs.Ytkcijlndblbidaa
