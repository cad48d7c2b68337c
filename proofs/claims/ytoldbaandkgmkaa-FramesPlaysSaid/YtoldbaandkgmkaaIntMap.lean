/- A map from ints to words that the call made, told by a function: lookup, store, delete, len as run equations. -/
import Derived.Test.YtoldbaandkgmkaaFramesNobodyW
import Derived.Maps.OwnSet
import Derived.Maps.OwnOps
import Derived.Maps.Views
import Derived.WalkArith
namespace Go.Proofs.Ytoldbaandkgmkaa
open Go.ChangeShapes Go.WideShapes Go.ChangeAt Go.RowKit Go.Maps
set_option linter.unusedVariables false

theorem law_int : Keyed Try.prog 3 := int_keyed Try.underlying3
def isInt (f : Int) : Prop := -9223372036854775808 ≤ f ∧ f ≤ 9223372036854775807
theorem wf_int {f : Int} (h : isInt f) : (Lit.int .i64 f).wf = true := WalkArith.wf_i64 h
theorem wf_word {x : Nat} (h : x < 18446744073709551616) : (Lit.int .u64 x).wf = true := WalkArith.wf_u64 ⟨by omega, by omega⟩
theorem keyOf_i64 {f : Int} (h : isInt f) : keyOf Try.prog 3 (.int .i64 f) = some (.int .i64 f) := keyOf_int_mk Try.underlying3 (wf_int h)
def IntMap (B n : Nat) (m : Int → Option Nat) (cnt : Nat) (w : World) : Prop :=
  ∃ D : DataW Unit, w.ownsMap Try.prog 3 (plainElem Try.prog 29) B n D ∧ Tidy D ∧ Maps.size D = cnt ∧ ∀ f, isInt f → Maps.has D (.int .i64 f) = (m f).isSome ∧ D.atKey (.int .i64 f) (.lit (.int .u64 0)) = .lit (.int .u64 (((m f).getD 0 : Nat) : Int))
theorem zero_u64 (w : World) : (zeroValue 29).run Try.prog w = .ok (.int .u64 0) w := by kernel_rfl
theorem IntMap.made (w : World) : IntMap w.heap.size 0 (fun _ => none) 0 (w.alloc (.map #[] 0)) :=
  ⟨.map [], World.ownsMap_made _ _ _ _, tidy_empty, rfl, fun f _ => ⟨rfl, rfl⟩⟩
theorem IntMap.lt {B n cnt : Nat} {m : Int → Option Nat} {w : World} (h : IntMap B n m cnt w) : B < w.heap.size := by
  obtain ⟨D, h, _⟩ := h; exact h.lt
theorem IntMap.keep {B n cnt : Nat} {m : Int → Option Nat} {w w' : World} {S : Nat → Prop} (h : IntMap B n m cnt w) (c : Chg S w w') (hn : ¬ S B) : IntMap B n m cnt w' := by
  obtain ⟨D, ⟨es, clock, hb, F, hs, hD⟩, h2⟩ := h
  exact ⟨D, ⟨es, clock, c.keep hb hn, F, hs, hD⟩, h2⟩
theorem IntMap.look {B n cnt : Nat} {m : Int → Option Nat} {w : World} (h : IntMap B n m cnt w) (f : Int) (hf : isInt f) :
    (Instr.lookup 28 (.map (some B)) (.int .i64 f) true).run Try.prog w = .ok (.tuple #[.int .u64 (((m f).getD 0 : Nat) : Int), .bool (m f).isSome]) w := by
  obtain ⟨D, ho, ht, hsz, hD⟩ := h
  obtain ⟨h1, h2⟩ := hD f hf
  obtain ⟨v, ps, hrun, hv⟩ := ho.look_ok law_int Try.underlying28 (zero_u64 w) (plainElem_int Try.underlying29 (by decide)) (keyOf_i64 hf)
  obtain ⟨c, rfl, hc, hwc⟩ := plainElem_int_inv Try.underlying29 hv
  rw [hrun, h1]
  simp only [Prod.mk.injEq] at hc
  rw [h2] at hc
  have : c = (((m f).getD 0 : Nat) : Int) := by
    have := hc.1
    simp at this
    exact this.symm
  rw [this]
theorem IntMap.len {B n cnt : Nat} {m : Int → Option Nat} {w : World} (h : IntMap B n m cnt w) (ty : TypeId) : (Builtin.len_ #[28] ty #[.map (some B)]).run Try.prog w = .ok (.int .i64 cnt) w := by
  obtain ⟨D, ho, ht, hsz, hD⟩ := h
  rw [ho.len Try.underlying28 ty, hsz]
theorem lit_ne {f g : Int} (h : g ≠ f) : (Lit.int .i64 g) ≠ .int .i64 f := fun e => h (by injection e)
theorem IntMap.put {B n cnt : Nat} {m : Int → Option Nat} {w : World} (h : IntMap B n m cnt w) (hn : n < maxLen) (f : Int) (hf : isInt f) (x : Nat) (hx : x < 18446744073709551616) (h0 : m f = none) :
    ∃ w', (Instr.mapUpdate 28 (.map (some B)) (.int .i64 f) (.int .u64 x)).run Try.prog w = .ok () w' ∧ IntMap B (n + 1) (fun g => if g = f then some x else m g) (cnt + 1) w' ∧ Chg (· = B) w w' := by
  obtain ⟨D, ho, ht, hsz, hD⟩ := h
  obtain ⟨w', hrun, ho', hg⟩ := ho.update law_int Try.underlying28 hn (keyOf_i64 hf) (plainElem_int Try.underlying29 (wf_word hx))
  have hk : WideAt.IsKeyLit (.int .i64 f) := law_int.key (keyOf_i64 hf)
  refine ⟨w', hrun, ⟨_, ho', ht.put hk _, ?_, fun g hgi => ?_⟩, ⟨hg.os, hg.tape, hg.output, hg.size, fun k hk hne => hg.block k hk (fun e => hne (by simpa using e))⟩⟩
  · rw [Maps.size_put ht, (hD f hf).1, h0]
    simp [hsz]
  · show _ = (if g = f then some x else m g).isSome ∧ _ = DataW.lit (.int .u64 (((if g = f then some x else m g).getD 0 : Nat) : Int))
    by_cases e : g = f
    · subst e
      exact ⟨by rw [has_put_same ht.isMap hk]; simp, by rw [atKey_put_same ht.isMap hk]; simp⟩
    · rw [has_put_other (lit_ne e), atKey_put_other (lit_ne e), if_neg e]
      exact hD g hgi
theorem IntMap.del {B n cnt : Nat} {m : Int → Option Nat} {w : World} (h : IntMap B n m cnt w) (f : Int) (hf : isInt f) (ty : TypeId) (h0 : (m f).isSome = true) :
    ∃ w', (Builtin.delete_ #[28, 3] ty #[.map (some B), .int .i64 f]).run Try.prog w = .ok (.tuple #[]) w' ∧ IntMap B n (fun g => if g = f then none else m g) (cnt - 1) w' ∧ 1 ≤ cnt ∧ Chg (· = B) w w' := by
  obtain ⟨D, ho, ht, hsz, hD⟩ := h
  obtain ⟨w', hrun, ho', hg⟩ := ho.drop law_int Try.underlying28 (keyOf_i64 hf) ty
  have hg := hg.grown
  have hs := Maps.size_del (k := .int .i64 f) ht
  rw [(hD f hf).1, h0, if_pos rfl] at hs
  refine ⟨w', hrun, ⟨_, ho', ht.del _, by omega, fun g hgi => ?_⟩, by omega, ⟨hg.os, hg.tape, hg.output, hg.size, fun k hk hne => hg.block k hk (fun e => hne (by simpa using e))⟩⟩
  show _ = (if g = f then none else m g).isSome ∧ _ = DataW.lit (.int .u64 (((if g = f then none else m g).getD 0 : Nat) : Int))
  by_cases e : g = f
  · subst e
    exact ⟨by rw [has_del_same]; simp, by rw [atKey_del_same]; simp⟩
  · rw [has_del_other (lit_ne e), atKey_del_other (lit_ne e), if_neg e]
    exact hD g hgi
end Go.Proofs.Ytoldbaandkgmkaa
