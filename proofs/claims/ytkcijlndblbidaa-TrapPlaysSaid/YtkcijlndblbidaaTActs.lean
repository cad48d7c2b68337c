/- How a row of ullagelaw10.Act that came in lies in memory, read off its reading. Printed by wip/tools/genacts.py. -/
import Derived.Test.YtkcijlndblbidaaVLives
import Derived.Deep.Slices
import Derived.Deep.Strs
import Derived.SizedLaws
import Derived.OpenShut
import Derived.Lib.SmallJoins
namespace Go.Proofs.Ytkcijlndblbidaa.A10
open Go.ChangeShapes Go.WideShapes Go.ChangeAt Go.RowKit

structure Act where
  f0 : Nat
  f1 : Int
  f2 : Nat
  f3 : Int
instance : Inhabited Act := ⟨⟨0, 0, 0, 0⟩⟩
def Act.ok (p : Act) : Prop := p.f0 < 256 ∧ (-9223372036854775808 ≤ p.f1 ∧ p.f1 ≤ 9223372036854775807) ∧ p.f2 < 18446744073709551616 ∧ (-9223372036854775808 ≤ p.f3 ∧ p.f3 ≤ 9223372036854775807)
structure Acts (w : World) (a : Option Addr) (ps : List Act) : Prop where
  many : ps.length ≤ maxLen
  each : ∀ i, i < ps.length → (ps.getD i default).ok
  cell : ∃ b off, (ps = [] ∨ a = some ⟨b, off, none⟩) ∧ ∀ i, i < ps.length → w.cell? ⟨b, off + i * 4, none⟩ = some (.int .u8 (ps.getD i default).f0) ∧ w.cell? ⟨b, off + i * 4 + 1, none⟩ = some (.int .i64 (ps.getD i default).f1) ∧ w.cell? ⟨b, off + i * 4 + 2, none⟩ = some (.int .u64 (ps.getD i default).f2) ∧ w.cell? ⟨b, off + i * 4 + 3, none⟩ = some (.int .i64 (ps.getD i default).f3)
theorem Acts.below {w w' : World} {a : Option Addr} {ps : List Act} (h : Acts w a ps) (hb : Below w.heap.size w w') : Acts w' a ps :=
  ⟨h.many, h.each, by
    obtain ⟨b, off, ha, hc⟩ := h.cell
    exact ⟨b, off, ha, fun i hi => ⟨cellB hb (Nat.le_refl _) (hc i hi).1, cellB hb (Nat.le_refl _) (hc i hi).2.1, cellB hb (Nat.le_refl _) (hc i hi).2.2.1, cellB hb (Nat.le_refl _) (hc i hi).2.2.2⟩⟩⟩
theorem acts_of {H : Type} {enc : TypeId × Value → H} {w : World} {a : Option Addr} {len cap fuel : Nat} {x : DataW H × List MemPlace}
    (h : DataW.trod enc Try.prog w 0 (fun _ => true) true fuel 66 [.slice a len cap] = some x) : ∃ ps : List Act, ps.length = len ∧ Acts w a ps := by
  rcases Go.Deep.open_slice Try.underlying66 h with ⟨hcs, _⟩ | ⟨ad, l, c, m, n, D, Pl, hcs, _, hl, hm, hmm, _, hel⟩
  · simp at hcs
    obtain ⟨rfl, rfl, rfl⟩ := hcs
    exact ⟨[], rfl, ⟨by simp, by simp, 0, 0, .inl rfl, by simp⟩⟩
  · simp at hcs
    obtain ⟨rfl, rfl, rfl⟩ := hcs
    have hm' : m = cap := by simpa using hmm
    subst hm'
    have ce : Try.prog.cellsOf 93 = 4 := by kernel_rfl
    rw [ce] at hel
    have hel2 : ∀ i, i < len → ∃ p : Act, p.ok ∧ w.cell? (ad.add (i * 4)) = some (.int .u8 p.f0) ∧ w.cell? ((ad.add (i * 4)).add 1) = some (.int .i64 p.f1) ∧ w.cell? ((ad.add (i * 4)).add 2) = some (.int .u64 p.f2) ∧ w.cell? ((ad.add (i * 4)).add 3) = some (.int .i64 p.f3) := by
      intro i hi
      obtain ⟨cs', h1, h2⟩ := hel i (by omega)
      obtain ⟨_, hlen, hcell⟩ := World.cells?_some h1
      match cs', hlen with
      | [c0, c1, c2, c3], _ =>
        obtain ⟨y0, y1, y2, y3, n', hx, _, t0, t1, t2, t3⟩ := Go.Joins.trod_struct4 Try.underlying93 h2
        have e_int : Try.prog.cellsOf 3 = 1 := by kernel_rfl
        have e_uint64 : Try.prog.cellsOf 23 = 1 := by kernel_rfl
        have e_uint8 : Try.prog.cellsOf 5 = 1 := by kernel_rfl
        simp only [e_uint8, List.drop_zero, List.take_succ_cons, List.take_zero] at t0
        simp only [e_int, List.drop_zero, List.drop_succ_cons, List.take_succ_cons, List.take_zero] at t1
        simp only [e_uint64, List.drop_zero, List.drop_succ_cons, List.take_succ_cons, List.take_zero] at t2
        simp only [e_int, List.drop_zero, List.drop_succ_cons, List.take_succ_cons, List.take_zero] at t3
        obtain ⟨z0, q0, _, wz0⟩ := DataW.trod_int Try.underlying5 t0
        obtain ⟨z1, q1, _, wz1⟩ := DataW.trod_int Try.underlying3 t1
        obtain ⟨z2, q2, _, wz2⟩ := DataW.trod_int Try.underlying23 t2
        obtain ⟨z3, q3, _, wz3⟩ := DataW.trod_int Try.underlying3 t3
        simp at q0 q1 q2 q3
        subst q0 q1 q2 q3
        have b0 := bounds_u8 wz0
        have b1 := bounds_i64 wz1
        have b2 := bounds_u64 wz2
        have b3 := bounds_i64 wz3
        refine ⟨⟨z0.toNat, z1, z2.toNat, z3⟩, ⟨by show z0.toNat < 256; omega, b1, by show z2.toNat < 18446744073709551616; omega, b3⟩, ?_, ?_, ?_, ?_⟩
        · have := hcell 0 (by omega)
          rw [Go.Deep.add_add, Nat.add_zero] at this
          rw [this]
          simp; omega
        · exact hcell 1 (by omega)
        · have := hcell 2 (by omega)
          rw [this]
          simp; omega
        · exact hcell 3 (by omega)
    by_cases h0 : len = 0
    · subst h0
      exact ⟨[], rfl, ⟨by simp, by simp, 0, 0, .inl rfl, by simp⟩⟩
    · obtain ⟨b, off, spot⟩ := ad
      obtain ⟨p0, _, c0, _⟩ := hel2 0 (by omega)
      have hspot : spot = none := by simpa [Addr.add] using World.cell?_spot c0
      subst hspot
      obtain ⟨f, hf⟩ := Go.Deep.choose_lt hel2
      have hget : ∀ i, i < len → ((List.range len).map f).getD i default = f i := fun i hi => by simp [hi]
      refine ⟨(List.range len).map f, by simp, ⟨by simp; omega, fun i hi => ?_, b, off, .inr rfl, fun i hi => ?_⟩⟩
      · rw [hget i (by simpa using hi)]
        exact (hf i (by simpa using hi)).1
      · rw [hget i (by simpa using hi)]
        obtain ⟨_, g0, g1, g2, g3⟩ := hf i (by simpa using hi)
        rw [add_off] at g0
        rw [add_off, add_off] at g1 g2 g3
        exact ⟨g0, g1, g2, g3⟩
theorem fits_of {H : Type} {enc : TypeId × Value → H} {w : World} {a : Option Addr} {len cap fuel : Nat} {x : DataW H × List MemPlace}
    (h : DataW.trod enc Try.prog w 0 (fun _ => true) true fuel 66 [.slice a len cap] = some x) : len ≤ cap ∧ cap ≤ maxLen := by
  rcases Go.Deep.open_slice Try.underlying66 h with ⟨hcs, _⟩ | ⟨ad, l, c, m, n, D, Pl, hcs, _, hl, hm, hmm, _, hel⟩
  · simp at hcs
    obtain ⟨rfl, rfl, rfl⟩ := hcs
    simp
  · simp at hcs
    obtain ⟨rfl, rfl, rfl⟩ := hcs
    exact ⟨hl, hm⟩
end Go.Proofs.Ytkcijlndblbidaa.A10
