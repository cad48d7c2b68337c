/- How a slice of numbers that came in lies in memory, read off its reading. -/
import Derived.Test.YtplkogjnmjjjgaaKit
import Derived.Deep.Slices
import Derived.OpenShut
import Derived.SizedLaws
namespace Go.Proofs.Ytplkogjnmjjjgaa
open Go.ChangeShapes Go.WideShapes Go.ChangeAt Go.RowKit

/-- a slice reads as these numbers -/
structure IntRow (k : IntKind) (w : World) (a : Option Addr) (zs : List Int) : Prop where
  many : zs.length ≤ maxLen
  each : ∀ i, i < zs.length → (Lit.int k (zs.getD i 0)).wf = true
  cell : ∃ b off, (zs = [] ∨ a = some ⟨b, off, none⟩) ∧ ∀ i, i < zs.length → w.cell? ⟨b, off + i, none⟩ = some (.int k (zs.getD i 0))
theorem IntRow.below {k : IntKind} {w w' : World} {a : Option Addr} {zs : List Int} (h : IntRow k w a zs) (hb : Below w.heap.size w w') : IntRow k w' a zs :=
  ⟨h.many, h.each, by
    obtain ⟨b, off, ha, hc⟩ := h.cell
    exact ⟨b, off, ha, fun i hi => cellB hb (Nat.le_refl _) (hc i hi)⟩⟩
theorem introw_of {H : Type} {enc : TypeId × Value → H} {P : Program} {k : IntKind} {t e : TypeId} (ht : P.underlying t = some (.slice e)) (he : P.underlying e = some (.int k)) (hc : P.cellsOf e = 1) {w : World} {a : Option Addr} {len cap fuel : Nat} {x : DataW H × List MemPlace}
    (h : DataW.trod enc P w 0 (fun _ => true) true fuel t [.slice a len cap] = some x) : ∃ zs : List Int, zs.length = len ∧ IntRow k w a zs := by
  rcases open_ints ht he hc h with ⟨hcs, hx⟩ | ⟨ad, len', cap', zs, hcs, _, hl, hm, hz, hx, hcell, hwz⟩
  · simp at hcs
    obtain ⟨rfl, rfl, rfl⟩ := hcs
    exact ⟨[], rfl, ⟨by simp, by simp, 0, 0, .inl rfl, by simp⟩⟩
  · simp at hcs
    obtain ⟨rfl, rfl, rfl⟩ := hcs
    simp only [if_true] at hz
    have hlen : (zs.take len).length = len := by simp; omega
    have hget : ∀ i, i < len → (zs.take len).getD i 0 = zs.getD i 0 := fun i hi => by simp [List.getD_eq_getElem?_getD, hi]
    refine ⟨zs.take len, hlen, ⟨by omega, fun i hi => ?_, ?_⟩⟩
    · rw [hget i (by omega)]
      refine hwz _ ?_
      rw [List.getD_eq_getElem?_getD, List.getElem?_eq_getElem (by omega), Option.getD_some]
      exact List.getElem_mem _
    · by_cases h0 : len = 0
      · subst h0
        exact ⟨0, 0, .inl (by simp), by simp⟩
      · obtain ⟨b, off, spot⟩ := ad
        have hspot : spot = none := by simpa [Addr.add] using World.cell?_spot (hcell 0 (by omega))
        subst hspot
        refine ⟨b, off, .inr rfl, fun i hi => ?_⟩
        rw [hget i (by omega), ← add_off]
        exact hcell i (by omega)
end Go.Proofs.Ytplkogjnmjjjgaa
