/- Plain: a graph's bytes, and how bytes are read as a graph. -/
import Derived.Test.YtplkogjnmjjjgaaWrAll
import Derived.Test.YtplkogjnmjjjgaaSlAll
import Derived.Test.YtplkogjnmjjjgaaGHom
namespace Go.Proofs.Ytplkogjnmjjjgaa
open Go.ChangeShapes Go.WideShapes Go.ChangeAt Go.RowKit
set_option linter.unusedVariables false
set_option linter.unusedSimpArgs false
open Wr.Wire (num fix int readNum readFix zag zig)

/-- ints, as bytes -/
def intsB (l : List Int) : List UInt8 := num l.length ++ l.flatMap Wr.Wire.int
def fltsB (l : List Int) : List UInt8 := num l.length ++ l.flatMap fun z => fix z.toNat
def wrdsB (l : List Int) : List UInt8 := num l.length ++ l.flatMap fun z => num z.toNat
def nodeB (x : Nd) : List UInt8 := intsB x.ps ++ (fltsB x.fs ++ wrdsB x.ws)
def graphB (g : Gr) : List UInt8 := intsB g.rs ++ (num g.ns.length ++ g.ns.flatMap nodeB)
/-- a reader: what is left, and what was noted -/
abbrev Rs := List UInt8 × Nat
def numP (s : Rs) : Nat × Rs := (Wr.Wire.got Nat 0 s.2 (readNum s.1).2.2 (readNum s.1).1, (Wr.Wire.left s.2 (readNum s.1).2.2 (readNum s.1).2.1 s.1, Wr.Wire.note s.2 (readNum s.1).2.2))
def fixP (s : Rs) : Nat × Rs := (Wr.Wire.got Nat 0 s.2 (readFix s.1).2.2 (readFix s.1).1, (Wr.Wire.left s.2 (readFix s.1).2.2 (readFix s.1).2.1 s.1, Wr.Wire.note s.2 (readFix s.1).2.2))
def intP (s : Rs) : Int × Rs := (zag (numP s).1, (numP s).2)
def wrdP (s : Rs) : Int × Rs := ((numP s).1, (numP s).2)
def fltP (s : Rs) : Int × Rs := ((fixP s).1, (fixP s).2)
/-- so many, as far as nothing is missing -/
def manyP {α : Type} (one : Rs → α × Rs) : Nat → Rs → List α × Rs
  | 0, s => ([], s)
  | n + 1, s => if s.2 = 0 then ((one s).1 :: (manyP one n (one s).2).1, (manyP one n (one s).2).2) else ([], s)
def rowP {α : Type} (one : Rs → α × Rs) (s : Rs) : List α × Rs := manyP one (numP s).1 (numP s).2
def nodeP (s : Rs) : Nd × Rs := (⟨(rowP intP s).1, (rowP fltP (rowP intP s).2).1, (rowP wrdP (rowP fltP (rowP intP s).2).2).1⟩, (rowP wrdP (rowP fltP (rowP intP s).2).2).2)
def graphP (s : Rs) : Gr × Rs := (⟨(rowP intP s).1, (rowP nodeP (rowP intP s).2).1⟩, (rowP nodeP (rowP intP s).2).2)
section
variable {α : Type} {one : Rs → α × Rs}
theorem manyP_zero (s : Rs) : manyP one 0 s = ([], s) := rfl
theorem manyP_bad {n : Nat} {s : Rs} (h : s.2 ≠ 0) : manyP one n s = ([], s) := by
  cases n with
  | zero => rfl
  | succ n => rw [manyP, if_neg h]
theorem manyP_more {n : Nat} {s : Rs} (h : s.2 = 0) : manyP one (n + 1) s = ((one s).1 :: (manyP one n (one s).2).1, (manyP one n (one s).2).2) := by rw [manyP, if_pos h]
/-- reading eats -/
def Eats (one : Rs → α × Rs) : Prop := ∀ s, (one s).2.1.length ≤ s.1.length ∧ (s.2 = 0 → (one s).2.2 = 0 → (one s).2.1.length < s.1.length) ∧ (s.2 ≠ 0 → (one s).2 = s)
theorem manyP_len (h : Eats one) : ∀ (n : Nat) (s : Rs), (manyP one n s).1.length ≤ s.1.length + 1 ∧ (manyP one n s).2.1.length ≤ s.1.length ∧ (s.2 ≠ 0 → (manyP one n s).2 = s)
  | 0, s => by simp [manyP_zero]
  | n + 1, s => by
    by_cases h0 : s.2 = 0
    · rw [manyP_more h0]
      obtain ⟨h1, h2, h3⟩ := h s
      obtain ⟨i1, i2, i3⟩ := manyP_len h n (one s).2
      refine ⟨?_, Nat.le_trans i2 h1, fun h => absurd h0 h⟩
      simp only [List.length_cons]
      by_cases e : (one s).2.2 = 0
      · have := h2 h0 e
        omega
      · rw [manyP_bad e]
        simp
    · rw [manyP_bad h0]
      simp
end
theorem rd_pos (l : List UInt8) : ∀ (i n : Nat), (Wr.Wire.rd i n l).2.2 = 0 → i < (Wr.Wire.rd i n l).2.1 := by
  induction l with
  | nil => intro i n h; simp [Wr.Wire.rd] at h
  | cons c l ih =>
    intro i n h
    unfold Wr.Wire.rd at h ⊢
    split at h
    · simp at h
    · rename_i h1
      rw [if_neg h1]
      split at h
      · rename_i h2
        rw [if_pos h2]
        simp
      · rename_i h2
        rw [if_neg h2]
        have := ih _ _ h
        omega
theorem readNum_pos {l : List UInt8} (h : (readNum l).2.2 = 0) : 0 < (readNum l).2.1 ∧ (readNum l).2.1 ≤ l.length := ⟨rd_pos l 0 0 h, (Wr.Wire.readNum_fits l).2.1⟩
theorem readFix_pos {l : List UInt8} (h : (readFix l).2.2 = 0) : 0 < (readFix l).2.1 ∧ (readFix l).2.1 ≤ l.length := by
  unfold readFix at h ⊢
  split at h
  · simp at h
  · rename_i h1
    rw [if_neg h1]
    simp
    omega
theorem numP_eats : Eats numP := by
  intro s
  unfold numP Wr.Wire.left Wr.Wire.note
  dsimp only
  by_cases h : s.2 = 0
  · by_cases e : (readNum s.1).2.2 = 0
    · have := readNum_pos e
      simp [h, e]
      omega
    · simp [h, e]
  · simp [h]
theorem fixP_eats : Eats fixP := by
  intro s
  unfold fixP Wr.Wire.left Wr.Wire.note
  dsimp only
  by_cases h : s.2 = 0
  · by_cases e : (readFix s.1).2.2 = 0
    · have := readFix_pos e
      simp [h, e]
      omega
    · simp [h, e]
  · simp [h]
theorem intP_eats : Eats intP := fun s => numP_eats s
theorem wrdP_eats : Eats wrdP := fun s => numP_eats s
theorem fltP_eats : Eats fltP := fun s => fixP_eats s
theorem rowP_eats {α : Type} {one : Rs → α × Rs} (h : Eats one) : Eats (rowP one) := by
  intro s
  obtain ⟨h1, h2, h3⟩ := numP_eats s
  obtain ⟨i1, i2, i3⟩ := manyP_len h (numP s).1 (numP s).2
  refine ⟨Nat.le_trans i2 h1, fun h0 he => ?_, fun hn => ?_⟩
  · by_cases e : (numP s).2.2 = 0
    · exact Nat.lt_of_le_of_lt i2 (h2 h0 e)
    · exfalso
      have := i3 e
      unfold rowP at he
      rw [this] at he
      exact e he
  · have e := h3 hn
    have := i3 (by rw [e]; exact hn)
    unfold rowP
    rw [this, e]
theorem rowP_len {α : Type} {one : Rs → α × Rs} (h : Eats one) (s : Rs) : (rowP one s).1.length ≤ s.1.length + 1 := by
  have := (manyP_len h (numP s).1 (numP s).2).1
  have := (numP_eats s).1
  unfold rowP
  omega
theorem nodeP_eats : Eats nodeP := by
  intro s
  obtain ⟨a1, a2, a3⟩ := rowP_eats intP_eats s
  obtain ⟨b1, b2, b3⟩ := rowP_eats fltP_eats (rowP intP s).2
  obtain ⟨c1, c2, c3⟩ := rowP_eats wrdP_eats (rowP fltP (rowP intP s).2).2
  unfold nodeP
  dsimp only
  refine ⟨by omega, fun h0 he => ?_, fun hn => ?_⟩
  · by_cases e : (rowP fltP (rowP intP s).2).2.2 = 0
    · by_cases e1 : (rowP intP s).2.2 = 0
      · have := a2 h0 e1
        omega
      · have := b3 e1
        rw [this] at e
        exact absurd e e1
    · have := c3 e
      rw [this] at he
      exact absurd he e
  · have e := a3 hn
    have e2 := b3 (by rw [e]; exact hn)
    have e3 := c3 (by rw [e2, e]; exact hn)
    rw [e3, e2, e]
/-- what is read stays noted -/
theorem graphP_note (s : Rs) : (graphP s).2.2 = 0 → (rowP intP s).2.2 = 0 := by
  intro h
  by_cases e : (rowP intP s).2.2 = 0
  · exact e
  · have := (rowP_eats nodeP_eats (rowP intP s).2).2.2 e
    unfold graphP at h
    dsimp only at h
    rw [this] at h
    exact h
end Go.Proofs.Ytplkogjnmjjjgaa
