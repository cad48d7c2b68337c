/- How a slice of parts that came in lies in memory, read off its reading; what a part's bytes are. -/
import Derived.Test.YtkabpiganjjacaaWireRefW
import Derived.Deep.Slices
import Derived.Deep.Strs
import Derived.SizedLaws
import Derived.OpenShut
namespace Go.Proofs.Ytkabpiganjjacaa
open Go.ChangeShapes Go.WideShapes Go.ChangeAt Go.RowKit

/-- a part: its kind, its number, its text -/
structure Part where
  k : Nat
  n : Nat
  s : ByteArray
instance : Inhabited Part := ⟨⟨0, 0, .empty⟩⟩
def Part.ok (p : Part) : Prop := p.k < 256 ∧ p.n < 18446744073709551616 ∧ p.s.size ≤ maxLen
def Part.value (p : Part) : Value := .agg #[.int .u8 p.k, .int .u64 p.n, .string p.s]

/-- a slice reads as these parts -/
structure Parts (w : World) (a : Option Addr) (ps : List Part) : Prop where
  many : ps.length ≤ maxLen
  each : ∀ i, i < ps.length → (ps.getD i default).ok
  cell : ∃ b off, (ps = [] ∨ a = some ⟨b, off, none⟩) ∧ ∀ i, i < ps.length → w.cell? ⟨b, off + i * 3, none⟩ = some (.int .u8 (ps.getD i default).k) ∧ w.cell? ⟨b, off + i * 3 + 1, none⟩ = some (.int .u64 (ps.getD i default).n) ∧ w.cell? ⟨b, off + i * 3 + 2, none⟩ = some (.string (ps.getD i default).s)
theorem Parts.below {w w' : World} {a : Option Addr} {ps : List Part} (h : Parts w a ps) (hb : Below w.heap.size w w') : Parts w' a ps :=
  ⟨h.many, h.each, by
    obtain ⟨b, off, ha, hc⟩ := h.cell
    exact ⟨b, off, ha, fun i hi => ⟨cellB hb (Nat.le_refl _) (hc i hi).1, cellB hb (Nat.le_refl _) (hc i hi).2.1, cellB hb (Nat.le_refl _) (hc i hi).2.2⟩⟩⟩

theorem parts_of {H : Type} {enc : TypeId × Value → H} {w : World} {a : Option Addr} {len cap fuel : Nat} {x : DataW H × List MemPlace}
    (h : DataW.trod enc Try.prog w 0 (fun _ => true) true fuel 22 [.slice a len cap] = some x) : ∃ ps : List Part, ps.length = len ∧ Parts w a ps := by
  rcases Go.Deep.open_slice Try.underlying22 h with ⟨hcs, _⟩ | ⟨ad, l, c, m, n, D, Pl, hcs, _, hl, hm, hmm, _, hel⟩
  · simp at hcs
    obtain ⟨rfl, rfl, rfl⟩ := hcs
    exact ⟨[], rfl, ⟨by simp, by simp, 0, 0, .inl rfl, by simp⟩⟩
  · simp at hcs
    obtain ⟨rfl, rfl, rfl⟩ := hcs
    have hm' : m = cap := by simpa using hmm
    subst hm'
    have ce : Try.prog.cellsOf 25 = 3 := by kernel_rfl
    rw [ce] at hel
    have hel2 : ∀ i, i < len → ∃ p : Part, p.ok ∧ w.cell? (ad.add (i * 3)) = some (.int .u8 p.k) ∧ w.cell? ((ad.add (i * 3)).add 1) = some (.int .u64 p.n) ∧ w.cell? ((ad.add (i * 3)).add 2) = some (.string p.s) := by
      intro i hi
      obtain ⟨cs', h1, h2⟩ := hel i (by omega)
      obtain ⟨_, hlen, hcell⟩ := World.cells?_some h1
      match cs', hlen with
      | [c0, c1, c2], _ =>
        obtain ⟨y0, y1, y2, n', hx, _, t0, t1, t2⟩ := Go.Deep.trod_struct3 Try.underlying25 h2
        have e8 : Try.prog.cellsOf 5 = 1 := by kernel_rfl
        have e64 : Try.prog.cellsOf 23 = 1 := by kernel_rfl
        have es : Try.prog.cellsOf 9 = 1 := by kernel_rfl
        simp only [e8, List.drop_zero, List.take_succ_cons, List.take_zero] at t0
        simp only [e64, List.drop_succ_cons, List.drop_zero, List.take_succ_cons, List.take_zero] at t1
        simp only [es, List.drop_succ_cons, List.drop_zero, List.take_succ_cons, List.take_zero] at t2
        obtain ⟨k, q0, _, wk⟩ := DataW.trod_int Try.underlying5 t0
        obtain ⟨q, q1, _, wq⟩ := DataW.trod_int Try.underlying23 t1
        obtain ⟨s, q2, _, ws⟩ := DataW.trod_string Try.underlying9 t2
        simp at q0 q1 q2
        subst q0 q1 q2
        have b0 := bounds_u8 wk
        have b1 := bounds_u64 wq
        refine ⟨⟨k.toNat, q.toNat, s⟩, ⟨by show k.toNat < 256; omega, by show q.toNat < 18446744073709551616; omega, ws⟩, ?_, ?_, ?_⟩
        · have := hcell 0 (by omega)
          rw [Go.Deep.add_add, Nat.add_zero] at this
          rw [this]
          simp; omega
        · have := hcell 1 (by omega)
          rw [this]
          simp; omega
        · exact hcell 2 (by omega)
    by_cases h0 : len = 0
    · subst h0
      exact ⟨[], rfl, ⟨by simp, by simp, 0, 0, .inl rfl, by simp⟩⟩
    · obtain ⟨b, off, spot⟩ := ad
      obtain ⟨p0, _, c0, _⟩ := hel2 0 (by omega)
      have hspot : spot = none := by simpa [Addr.add] using World.cell?_spot c0
      subst hspot
      obtain ⟨f, hf⟩ := Go.Deep.choose_lt hel2
      have hget : ∀ i, i < len → ((List.range len).map f).getD i default = f i := fun i hi => by simp [hi]
      refine ⟨(List.range len).map f, by simp, ⟨by simp; omega, fun i hi => ?_, b, off, .inr rfl, fun i hi => ?_⟩⟩
      · rw [hget i (by simpa using hi)]
        exact (hf i (by simpa using hi)).1
      · rw [hget i (by simpa using hi)]
        obtain ⟨_, g0, g1, g2⟩ := hf i (by simpa using hi)
        rw [add_off] at g0
        rw [add_off, add_off] at g1 g2
        exact ⟨g0, g1, g2⟩

/-- a part's bytes, and whether it may be written -/
def Part.bytes (p : Part) : List UInt8 × Bool :=
  if p.k % 4 = 0 then (Wire.num p.n, true) else if p.k % 4 = 1 then (Wire.int (wrap64 p.n), true) else if p.k % 4 = 2 then (Wire.fix p.n, true)
  else if p.s.size ≤ 65535 then (Wire.text p.s.data.toList, true) else ([], false)
theorem wrap64_bounds (n : Int) : -9223372036854775808 ≤ wrap64 n ∧ wrap64 n ≤ 9223372036854775807 := by unfold wrap64; omega
end Go.Proofs.Ytkabpiganjjacaa
