/- Worlds in which only the blocks of a set may have changed. -/
import Derived.Test.YtplkogjnmjjjgaaKit
namespace Go.Proofs.Ytplkogjnmjjjgaa
open Go.ChangeShapes Go.WideShapes Go.ChangeAt Go.RowKit

/-- of what was there only the blocks of S may have changed -/
def Chg (S : Nat → Prop) (w w' : World) : Prop := w'.os = w.os ∧ w'.tape = w.tape ∧ w'.output = w.output ∧ w.heap.size ≤ w'.heap.size ∧ ∀ k, k < w.heap.size → ¬ S k → w'.heap[k]? = w.heap[k]?
/-- every block of S is there -/
def In (S : Nat → Prop) (w : World) : Prop := ∀ k, S k → k < w.heap.size
/-- S' has blocks of S and new ones alone -/
def Grew (S S' : Nat → Prop) (w : World) : Prop := ∀ k, S' k → S k ∨ w.heap.size ≤ k
def Apart (S T : Nat → Prop) : Prop := ∀ k, S k → T k → False
theorem Apart.symm {S T : Nat → Prop} (h : Apart S T) : Apart T S := fun k a b => h k b a
theorem Grew.refl (S : Nat → Prop) (w : World) : Grew S S w := fun _ h => .inl h
theorem Grew.trans {S S' S2 : Nat → Prop} {w w' : World} (h : Grew S S' w) (k : Grew S' S2 w') (hs : w.heap.size ≤ w'.heap.size) : Grew S S2 w := fun q hq => by
  rcases k q hq with a | a
  · exact h q a
  · exact .inr (by omega)
theorem Grew.apart {S S' T : Nat → Prop} {w : World} (h : Grew S S' w) (a : Apart S T) (hT : In T w) : Apart S' T := fun k hk ht => by
  rcases h k hk with b | b
  · exact a k b ht
  · have := hT k ht; omega
theorem In.mono {S : Nat → Prop} {w w' : World} (h : In S w) (hs : w.heap.size ≤ w'.heap.size) : In S w' := fun k hk => by have := h k hk; omega
theorem Chg.refl (S : Nat → Prop) (w : World) : Chg S w w := ⟨rfl, rfl, rfl, Nat.le_refl _, fun _ _ _ => rfl⟩
theorem Chg.size {S : Nat → Prop} {w w' : World} (h : Chg S w w') : w.heap.size ≤ w'.heap.size := h.2.2.2.1
theorem Chg.of {S : Nat → Prop} {w w' : World} (h : Below w.heap.size w w') : Chg S w w' := ⟨h.os, h.tape, h.output, h.size, fun k hk _ => h.block k hk⟩
theorem Chg.mono {S T : Nat → Prop} {w w' : World} (h : Chg S w w') (hs : ∀ k, k < w.heap.size → S k → T k) : Chg T w w' := ⟨h.1, h.2.1, h.2.2.1, h.2.2.2.1, fun k hk hn => h.2.2.2.2 k hk (fun a => hn (hs k hk a))⟩
theorem Chg.trans {S T : Nat → Prop} {w a b : World} (h : Chg S w a) (k : Chg T a b) (hs : ∀ q, q < w.heap.size → T q → S q) : Chg S w b :=
  ⟨k.1.trans h.1, k.2.1.trans h.2.1, k.2.2.1.trans h.2.2.1, Nat.le_trans h.size k.size, fun q hq hn => (k.2.2.2.2 q (Nat.lt_of_lt_of_le hq h.size) (fun t => hn (hs q hq t))).trans (h.2.2.2.2 q hq hn)⟩
/-- a second change within what the first one may have made new -/
theorem Chg.then {S S' : Nat → Prop} {w a b : World} (h : Chg S w a) (k : Chg S' a b) (g : Grew S S' w) : Chg S w b :=
  h.trans k fun q hq hs => (g q hs).resolve_right (by omega)
theorem Chg.set {S : Nat → Prop} {w a : World} (h : Chg S w a) {p : Addr} (hb : S p.block ∨ w.heap.size ≤ p.block) (v : Value) : Chg S w (a.setCell p v) :=
  ⟨h.1, h.2.1, h.2.2.1, by have := h.size; simpa [World.setCell] using this, fun k hk hn => by
    rw [Below.heap_setCell a p v k (by rintro rfl; rcases hb with hb | hb; exact hn hb; omega)]; exact h.2.2.2.2 k hk hn⟩
theorem Chg.alloc {S : Nat → Prop} {w a : World} (h : Chg S w a) (o : Obj) : Chg S w (a.alloc o) :=
  ⟨h.1, h.2.1, h.2.2.1, Nat.le_trans h.size (by simp), fun k hk hn => (Below.heap_alloc a o k (Nat.lt_of_lt_of_le hk h.size)).trans (h.2.2.2.2 k hk hn)⟩
theorem Chg.drew {S : Nat → Prop} {w a : World} (h : Chg S w a) : Chg S w a.drew := ⟨h.1, h.2.1, h.2.2.1, h.2.2.2.1, h.2.2.2.2⟩
theorem Chg.below {S : Nat → Prop} {w w' : World} (h : Chg S w w') {B : Nat} (hB : ∀ k, S k → B ≤ k) (hw : B ≤ w.heap.size) : Below B w w' :=
  ⟨h.1, h.2.1, h.2.2.1, h.2.2.2.1, fun k hk => h.2.2.2.2 k (by omega) (fun a => by have := hB k a; omega)⟩
theorem Chg.keep {S : Nat → Prop} {w w' : World} (h : Chg S w w') {k : Nat} {o : Obj} (hk : w.heap[k]? = some o) (hn : ¬ S k) : w'.heap[k]? = some o := by
  rw [h.2.2.2.2 k (block_lt hk) hn]; exact hk
theorem Chg.cell {S : Nat → Prop} {w w' : World} (h : Chg S w w') {p : Addr} {v : Value} (hp : w.cell? p = some v) (hn : ¬ S p.block) : w'.cell? p = some v :=
  (World.cell?_of_block (h.2.2.2.2 p.block (block_lt_of_cell hp) hn)).trans hp
theorem in_grow {S : Nat → Prop} {w w' : World} (h : In S w) (hs : w.heap.size ≤ w'.heap.size) : In (fun k => S k ∨ (w.heap.size ≤ k ∧ k < w'.heap.size)) w' := fun k hk => by
  rcases hk with a | a
  · have := h k a; omega
  · omega
/-- a block that came since -/
theorem Chg.newBelow {S : Nat → Prop} {w a b : World} (h : Chg S w a) (k : Below a.heap.size a b) : Chg S w b := h.trans (T := fun _ => False) (Chg.of k) (fun _ _ h => h.elim)
end Go.Proofs.Ytplkogjnmjjjgaa
