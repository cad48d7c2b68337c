/- How a row of ullagelaw15.Act that came in lies in memory, read off its reading. -/
import Derived.Test.YtkcijlndblbidaaOSet
import Derived.Deep.Slices
import Derived.Deep.Strs
import Derived.SizedLaws
import Derived.OpenShut
import Derived.Lib.SmallJoins
namespace Go.Proofs.Ytkcijlndblbidaa.A15
open Go.ChangeShapes Go.WideShapes Go.ChangeAt Go.RowKit

theorem trod_struct6 {H : Type} {enc : TypeId × Value → H} {P : Program} {w : World} {base : Nat} {spare : Nat → Bool} {held : Bool} {t : TypeId} {f0 f1 f2 f3 f4 f5 : Field} {fuel : Nat} {cs : List Value} {x : DataW H × List MemPlace} (ht : P.underlying t = some (.struct #[f0, f1, f2, f3, f4, f5])) (h : DataW.trod enc P w base spare held fuel t cs = some x) :
    ∃ y0 y1 y2 y3 y4 y5 n, DataW.trod enc P w base spare held n f0.type ((cs.drop f0.offset).take (P.cellsOf f0.type)) = some y0 ∧
      DataW.trod enc P w base spare held n f1.type ((cs.drop f1.offset).take (P.cellsOf f1.type)) = some y1 ∧ DataW.trod enc P w base spare held n f2.type ((cs.drop f2.offset).take (P.cellsOf f2.type)) = some y2 ∧
      DataW.trod enc P w base spare held n f3.type ((cs.drop f3.offset).take (P.cellsOf f3.type)) = some y3 ∧ DataW.trod enc P w base spare held n f4.type ((cs.drop f4.offset).take (P.cellsOf f4.type)) = some y4 ∧
      DataW.trod enc P w base spare held n f5.type ((cs.drop f5.offset).take (P.cellsOf f5.type)) = some y5 := by
  obtain ⟨xs, n, _, rfl, hl, hlen, hf⟩ := DataW.trod_struct ht h
  match xs, hlen with
  | [y0, y1, y2, y3, y4, y5], _ => exact ⟨y0, y1, y2, y3, y4, y5, n, by simpa using hf 0 f0 rfl, by simpa using hf 1 f1 rfl, by simpa using hf 2 f2 rfl, by simpa using hf 3 f3 rfl, by simpa using hf 4 f4 rfl, by simpa using hf 5 f5 rfl⟩

structure Act where
  k : Nat
  a : Int
  i : Int
  b : Int
  x : Nat
  p : Int
  q : Int
  o : Int
instance : Inhabited Act := ⟨⟨0, 0, 0, 0, 0, 0, 0, 0⟩⟩
def I64 (z : Int) : Prop := -9223372036854775808 ≤ z ∧ z ≤ 9223372036854775807
def Act.ok (r : Act) : Prop := r.k < 256 ∧ I64 r.a ∧ I64 r.i ∧ I64 r.b ∧ r.x < 18446744073709551616
structure At (w : World) (b off : Nat) (r : Act) : Prop where
  c0 : w.cell? ⟨b, off, none⟩ = some (.int .u8 r.k)
  c1 : w.cell? ⟨b, off + 1, none⟩ = some (.int .i64 r.a)
  c2 : w.cell? ⟨b, off + 2, none⟩ = some (.int .i64 r.i)
  c3 : w.cell? ⟨b, off + 3, none⟩ = some (.int .i64 r.b)
  c4 : w.cell? ⟨b, off + 4, none⟩ = some (.int .u64 r.x)
  c5 : w.cell? ⟨b, off + 5, none⟩ = some (.int .i64 r.p)
  c6 : w.cell? ⟨b, off + 6, none⟩ = some (.int .i64 r.q)
  c7 : w.cell? ⟨b, off + 7, none⟩ = some (.int .i64 r.o)
structure Acts (w : World) (a : Option Addr) (ps : List Act) : Prop where
  many : ps.length ≤ maxLen
  each : ∀ i, i < ps.length → (ps.getD i default).ok
  cell : ∃ b off, (ps = [] ∨ a = some ⟨b, off, none⟩) ∧ ∀ i, i < ps.length → At w b (off + i * 8) (ps.getD i default)
theorem Acts.below {w w' : World} {a : Option Addr} {ps : List Act} (h : Acts w a ps) (hb : Below w.heap.size w w') : Acts w' a ps :=
  ⟨h.many, h.each, by
    obtain ⟨b, off, ha, hc⟩ := h.cell
    exact ⟨b, off, ha, fun i hi => ⟨cellB hb (Nat.le_refl _) (hc i hi).c0, cellB hb (Nat.le_refl _) (hc i hi).c1, cellB hb (Nat.le_refl _) (hc i hi).c2, cellB hb (Nat.le_refl _) (hc i hi).c3, cellB hb (Nat.le_refl _) (hc i hi).c4, cellB hb (Nat.le_refl _) (hc i hi).c5, cellB hb (Nat.le_refl _) (hc i hi).c6, cellB hb (Nat.le_refl _) (hc i hi).c7⟩⟩⟩
theorem acts_of {H : Type} {enc : TypeId × Value → H} {w : World} {a : Option Addr} {len cap fuel : Nat} {x : DataW H × List MemPlace}
    (h : DataW.trod enc Try.prog w 0 (fun _ => true) true fuel 104 [.slice a len cap] = some x) : ∃ ps : List Act, ps.length = len ∧ Acts w a ps := by
  rcases Go.Deep.open_slice Try.underlying104 h with ⟨hcs, _⟩ | ⟨ad, l, c, m, n, D, Pl, hcs, _, hl, hm, hmm, _, hel⟩
  · simp at hcs
    obtain ⟨rfl, rfl, rfl⟩ := hcs
    exact ⟨[], rfl, ⟨by simp, by simp, 0, 0, .inl rfl, by simp⟩⟩
  · simp at hcs
    obtain ⟨rfl, rfl, rfl⟩ := hcs
    have hm' : m = cap := by simpa using hmm
    subst hm'
    have ce : Try.prog.cellsOf 108 = 8 := by kernel_rfl
    rw [ce] at hel
    have hel2 : ∀ i, i < len → ∃ r : Act, r.ok ∧ w.cell? (ad.add (i * 8)) = some (.int .u8 r.k) ∧ w.cell? ((ad.add (i * 8)).add 1) = some (.int .i64 r.a) ∧ w.cell? ((ad.add (i * 8)).add 2) = some (.int .i64 r.i) ∧ w.cell? ((ad.add (i * 8)).add 3) = some (.int .i64 r.b) ∧ w.cell? ((ad.add (i * 8)).add 4) = some (.int .u64 r.x) ∧ w.cell? ((ad.add (i * 8)).add 5) = some (.int .i64 r.p) ∧ w.cell? ((ad.add (i * 8)).add 6) = some (.int .i64 r.q) ∧ w.cell? ((ad.add (i * 8)).add 7) = some (.int .i64 r.o) := by
      intro i hi
      obtain ⟨cs', h1, h2⟩ := hel i (by omega)
      obtain ⟨_, hlen, hcell⟩ := World.cells?_some h1
      match cs', hlen with
      | [c0, c1, c2, c3, c4, c5, c6, c7], _ =>
        obtain ⟨y0, y1, y2, y3, y4, y5, n', t0, t1, t2, t3, t4, t5⟩ := trod_struct6 Try.underlying108 h2
        have e_int : Try.prog.cellsOf 3 = 1 := by kernel_rfl
        have e_u64 : Try.prog.cellsOf 23 = 1 := by kernel_rfl
        have e_u8 : Try.prog.cellsOf 5 = 1 := by kernel_rfl
        have e_hd : Try.prog.cellsOf 106 = 3 := by kernel_rfl
        simp only [e_u8, List.drop_zero, List.take_succ_cons, List.take_zero] at t0
        simp only [e_int, List.drop_zero, List.drop_succ_cons, List.take_succ_cons, List.take_zero] at t1 t2 t3
        simp only [e_u64, List.drop_zero, List.drop_succ_cons, List.take_succ_cons, List.take_zero] at t4
        simp only [e_hd, List.drop_zero, List.drop_succ_cons, List.take_succ_cons, List.take_zero] at t5
        obtain ⟨z0, q0, _, wz0⟩ := DataW.trod_int Try.underlying5 t0
        obtain ⟨z1, q1, _, wz1⟩ := DataW.trod_int Try.underlying3 t1
        obtain ⟨z2, q2, _, wz2⟩ := DataW.trod_int Try.underlying3 t2
        obtain ⟨z3, q3, _, wz3⟩ := DataW.trod_int Try.underlying3 t3
        obtain ⟨z4, q4, _, wz4⟩ := DataW.trod_int Try.underlying23 t4
        obtain ⟨u0, u1, u2, n2, hu, _, s0, s1, s2⟩ := Go.Deep.trod_struct3 Try.underlying106 t5
        simp only [e_int, List.drop_zero, List.drop_succ_cons, List.take_succ_cons, List.take_zero] at s0 s1 s2
        obtain ⟨z5, q5, _, wz5⟩ := DataW.trod_int Try.underlying3 s0
        obtain ⟨z6, q6, _, wz6⟩ := DataW.trod_int Try.underlying3 s1
        obtain ⟨z7, q7, _, wz7⟩ := DataW.trod_int Try.underlying3 s2
        simp at q0 q1 q2 q3 q4 q5 q6 q7
        subst q0 q1 q2 q3 q4 q5 q6 q7
        have b0 := bounds_u8 wz0
        have b4 := bounds_u64 wz4
        refine ⟨⟨z0.toNat, z1, z2, z3, z4.toNat, z5, z6, z7⟩, ⟨by show z0.toNat < 256; omega, bounds_i64 wz1, bounds_i64 wz2, bounds_i64 wz3, by show z4.toNat < 18446744073709551616; omega⟩, ?_, hcell 1 (by omega), hcell 2 (by omega), hcell 3 (by omega), ?_, hcell 5 (by omega), hcell 6 (by omega), hcell 7 (by omega)⟩
        · have := hcell 0 (by omega)
          rw [Go.Deep.add_add, Nat.add_zero] at this
          rw [this]
          simp; omega
        · have := hcell 4 (by omega)
          rw [this]
          simp; omega
    by_cases h0 : len = 0
    · subst h0
      exact ⟨[], rfl, ⟨by simp, by simp, 0, 0, .inl rfl, by simp⟩⟩
    · obtain ⟨b, off, spot⟩ := ad
      obtain ⟨p0, _, c0, _⟩ := hel2 0 (by omega)
      have hspot : spot = none := by simpa [Addr.add] using World.cell?_spot c0
      subst hspot
      obtain ⟨f, hf⟩ := Go.Deep.choose_lt hel2
      have hget : ∀ i, i < len → ((List.range len).map f).getD i default = f i := fun i hi => by simp [hi]
      refine ⟨(List.range len).map f, by simp, ⟨by simp; omega, fun i hi => ?_, b, off, .inr rfl, fun i hi => ?_⟩⟩
      · rw [hget i (by simpa using hi)]
        exact (hf i (by simpa using hi)).1
      · rw [hget i (by simpa using hi)]
        obtain ⟨_, g0, g1, g2, g3, g4, g5, g6, g7⟩ := hf i (by simpa using hi)
        rw [add_off] at g0
        rw [add_off, add_off] at g1 g2 g3 g4 g5 g6 g7
        exact ⟨g0, g1, g2, g3, g4, g5, g6, g7⟩
end Go.Proofs.Ytkcijlndblbidaa.A15
