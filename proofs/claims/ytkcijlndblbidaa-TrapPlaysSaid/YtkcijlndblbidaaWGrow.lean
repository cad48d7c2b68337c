/- A row that grows by append, beside a full memory. -/
import Derived.Test.YtkcijlndblbidaaORef4
namespace Go.Proofs.Ytkcijlndblbidaa
open Go.ChangeShapes Go.WideShapes Go.ChangeAt Go.RowKit
set_option linter.unusedVariables false

section
variable {W0 w w' : World} {m n t : Nat} {g : Nat → Nat} {K K' : List (Nat × Obj)}
/-- one block changes, or a new one comes: what stood beside it stays -/
theorem FK.swap {b X : Nat} {o o' : Obj} (h : FK W0 m n t g ((b, o) :: K) w) (hb : W0.heap.size ≤ b) (hK : ∀ x ∈ K, x.1 ≠ b) (c : Chg (fun q => q = b) w w') (hX : X = b ∨ w.heap.size ≤ X) (ho : w'.heap[X]? = some o') : FK W0 m n t g ((X, o') :: K) w' := by
  obtain ⟨v, ⟨S, h1, h2, h3, h4⟩, hv⟩ := h
  have hbS := (h4 (b, o) (List.mem_cons_self ..)).1
  refine ⟨v, ⟨S, h1.keep c (fun q hs hq => hbS (by rw [← hq]; exact hs)), h2, h3.trans (c.below (fun q hq => by rw [hq]; exact hb) h3.size), fun x hx => ?_⟩, hv⟩
  simp only [List.mem_cons] at hx
  rcases hx with rfl | hx
  · refine ⟨fun hs => ?_, ho⟩
    rcases hX with e | e
    · simp only [] at hs
      rw [e] at hs
      exact hbS hs
    · have := h1.in _ hs
      simp only [] at this
      omega
  · have := h4 x (List.mem_cons_of_mem _ hx)
    exact ⟨this.1, c.keep this.2 (hK x hx)⟩
/-- a slice of k elements of sz cells each, xs, that grows -/
def GR (W0 : World) (m n t : Nat) (g : Nat → Nat) (K : List (Nat × Obj)) (ty : TypeId) (sz k : Nat) (xs : List Value) (al : Option Addr) (cap : Nat) (w : World) : Prop :=
  (al = none ∧ k = 0 ∧ cap = 0 ∧ xs = [] ∧ FK W0 m n t g K w) ∨
  ∃ b cur, al = some ⟨b, 0, none⟩ ∧ W0.heap.size ≤ b ∧ (∀ x ∈ K, x.1 ≠ b) ∧ k ≤ cap ∧ cap ≤ maxLen ∧ cur.size = cap * sz ∧ cur.toList.take (k * sz) = xs ∧ xs.length = k * sz ∧ FK W0 m n t g ((b, .cells cur ty (0, 0)) :: K) w
theorem GR.none' (h : FK W0 m n t g K w) (ty : TypeId) (sz : Nat) : GR W0 m n t g K ty sz 0 [] none 0 w := .inl ⟨rfl, rfl, rfl, rfl, h⟩
variable {ty : TypeId} {sz k : Nat} {xs : List Value} {al : Option Addr} {cap : Nat}
theorem GR.full (h : GR W0 m n t g K ty sz k xs al cap w) : FK W0 m n t g K w := by
  rcases h with ⟨-, -, -, -, h⟩ | ⟨b, cur, -, -, -, -, -, -, -, -, h⟩
  · exact h
  · exact h.tail
theorem GR.len (h : GR W0 m n t g K ty sz k xs al cap w) : xs.length = k * sz := by
  rcases h with ⟨-, rfl, -, rfl, h⟩ | ⟨b, cur, -, -, -, -, -, -, -, hl, h⟩
  · simp
  · exact hl
/-- what a call does to the memory, it does beside the row -/
theorem GR.mem {F : FuncId} {args : Array Value} {P : Ending → Prop} {g' : Nat → Nat} (h : GR W0 m n t g K ty sz k xs al cap w)
    (hc : ∀ K, FK W0 m n t g K w → Calls Try.prog F args w fun e w' => P e ∧ FK W0 m n t g' K w') : Calls Try.prog F args w fun e w' => P e ∧ GR W0 m n t g' K ty sz k xs al cap w' := by
  rcases h with ⟨h1, h2, h3, h4, h⟩ | ⟨b, cur, h1, h2, h3, h4, h5, h6, h7, h8, h⟩
  · exact (hc _ h).mono fun e w' ⟨he, hF⟩ => ⟨he, .inl ⟨h1, h2, h3, h4, hF⟩⟩
  · exact (hc _ h).mono fun e w' ⟨he, hF⟩ => ⟨he, .inr ⟨b, cur, h1, h2, h3, h4, h5, h6, h7, h8, hF⟩⟩
theorem GR.grow (h : GR W0 m n t g K ty sz k xs al cap w) (c : Below w.heap.size w w') : GR W0 m n t g K ty sz k xs al cap w' := by
  rcases h with ⟨h1, h2, h3, h4, h⟩ | ⟨b, cur, h1, h2, h3, h4, h5, h6, h7, h8, h⟩
  · exact .inl ⟨h1, h2, h3, h4, h.grow c⟩
  · exact .inr ⟨b, cur, h1, h2, h3, h4, h5, h6, h7, h8, h.grow c⟩
theorem GR.sub (h : GR W0 m n t g K ty sz k xs al cap w) (hs : ∀ x ∈ K', x ∈ K) : GR W0 m n t g K' ty sz k xs al cap w := by
  rcases h with ⟨h1, h2, h3, h4, h⟩ | ⟨b, cur, h1, h2, h3, h4, h5, h6, h7, h8, h⟩
  · exact .inl ⟨h1, h2, h3, h4, h.sub hs⟩
  · refine .inr ⟨b, cur, h1, h2, fun x hx => h3 x (hs x hx), h4, h5, h6, h7, h8, h.sub fun x hx => ?_⟩
    simp only [List.mem_cons] at hx ⊢
    rcases hx with e | e
    · exact .inl e
    · exact .inr (hs x e)
theorem GR.tail {x : Nat × Obj} (h : GR W0 m n t g (x :: K) ty sz k xs al cap w) : GR W0 m n t g K ty sz k xs al cap w := h.sub fun y hy => List.mem_cons_of_mem _ hy
theorem GR.block (h : GR W0 m n t g K ty sz k xs al cap w) {X : Nat} {o : Obj} (hx : (X, o) ∈ K) : w.heap[X]? = some o := h.full.block hx
theorem GR.below (h : GR W0 m n t g K ty sz k xs al cap w) : Below W0.heap.size W0 w := h.full.below
theorem mem_swap2 {a b : Nat × Obj} {L : List (Nat × Obj)} : ∀ x ∈ b :: a :: L, x ∈ a :: b :: L := by
  intro x hx
  simp only [List.mem_cons] at hx ⊢
  rcases hx with h | h | h
  · exact .inr (.inl h)
  · exact .inl h
  · exact .inr (.inr h)
theorem GR.box (h : GR W0 m n t g K ty sz k xs al cap w) (cs : Array Value) (ty2 : TypeId) : GR W0 m n t g ((w.heap.size, .cells cs ty2 (0, 0)) :: K) ty sz k xs al cap (w.alloc (.cells cs ty2)) := by
  rcases h with ⟨h1, h2, h3, h4, h⟩ | ⟨b, cur, h1, h2, h3, h4, h5, h6, h7, h8, h⟩
  · exact .inl ⟨h1, h2, h3, h4, h.box cs ty2⟩
  · have hlt := block_lt (h.block (List.mem_cons_self ..))
    refine .inr ⟨b, cur, h1, h2, fun x hx => ?_, h4, h5, h6, h7, h8, (h.box cs ty2).sub mem_swap2⟩
    simp only [List.mem_cons] at hx
    rcases hx with rfl | hx
    · simp only []; omega
    · exact h3 x hx
theorem GR.row (h : GR W0 m n t g K ty sz k xs al cap w) : w.ownsRow W0.heap.size ty sz (.slice al k cap) k xs := by
  rcases h with ⟨rfl, rfl, rfl, rfl, h⟩ | ⟨b, cur, rfl, h2, h3, h4, h5, h6, h7, h8, h⟩
  · exact World.ownsRow_nil _ _ _ _
  · exact ⟨h8, .inr ⟨b, cap, cur, rfl, h2, h.block (List.mem_cons_self ..), h4, h5, h6, h7⟩⟩
/-- an element appended (laid into a block of its own first) -/
theorem GR.push (h : GR W0 m n t g K ty sz k xs al cap w) {news : List Value} {ety : TypeId} {ecs : Array Value} {g5 cap5 : Nat} {w5 : World}
    (hown : w5.ownsRow W0.heap.size ty sz (.slice (some ⟨g5, 0, Option.none⟩) (k + 1) cap5) (k + 1) (xs ++ news))
    (hgrow : (w.alloc (.cells ecs ety)).grownBy w5 (Value.slice al k cap).ownBlock) (hat : (Value.slice al k cap).ownBlock = some g5 ∨ g5 = w.heap.size + 1) :
    GR W0 m n t g K ty sz (k + 1) (xs ++ news) (some ⟨g5, 0, Option.none⟩) cap5 w5 := by
  have hsz : w.heap.size + 1 ≤ w5.heap.size := by have := hgrow.size; simpa using this
  have hlen := hown.1
  rcases hown.2 with ⟨e, _⟩ | ⟨gb, c, cur5, e, b1, b2, b3, b4, b5, b6⟩
  · cases e
  simp at e
  obtain ⟨rfl, rfl⟩ := e
  have old : ∀ q, q < w.heap.size → some q ≠ (Value.slice al k cap).ownBlock → w5.heap[q]? = w.heap[q]? := fun q hq hn =>
    (hgrow.block q (by simp; omega) hn).trans (Below.heap_alloc w _ q hq)
  rcases h with ⟨rfl, rfl, rfl, rfl, h⟩ | ⟨b, cur, rfl, h2, h3, h4, h5, h6, h7, h8, h⟩
  · have c : Below w.heap.size w w5 := ⟨hgrow.os, hgrow.tape, hgrow.output, by omega, fun q hq => old q hq (by simp [Value.ownBlock])⟩
    have hg5 : w.heap.size ≤ g5 := by
      rcases hat with e | e
      · simp [Value.ownBlock] at e
      · omega
    refine .inr ⟨g5, cur5, rfl, b1, fun x hx => ?_, b3, b4, b5, b6, hlen, h.adopt c hg5 b2⟩
    have := h.old x hx
    omega
  · have c : Chg (fun q => q = b) w w5 := ⟨hgrow.os, hgrow.tape, hgrow.output, by omega, fun q hq hn => old q hq (fun e => hn (by simpa [Value.ownBlock] using e))⟩
    have hg5 : g5 = b ∨ w.heap.size ≤ g5 := by
      rcases hat with e | e
      · left
        simpa [Value.ownBlock] using e.symm
      · right
        omega
    refine .inr ⟨g5, cur5, rfl, b1, fun x hx => ?_, b3, b4, b5, b6, hlen, h.swap h2 h3 c hg5 b2⟩
    rcases hg5 with rfl | e
    · exact h3 x hx
    · have := h.old x (List.mem_cons_of_mem _ hx)
      omega
/-- the row's cells -/
theorem GR.at_ (h : GR W0 m n t g K ty sz k xs al cap w) {j : Nat} {v : Value} (hj : xs[j]? = some v) : ∃ b, al = some ⟨b, 0, Option.none⟩ ∧ w.cell? ⟨b, j, Option.none⟩ = some v := by
  rcases h with ⟨rfl, rfl, rfl, rfl, h⟩ | ⟨b, cur, rfl, h2, h3, h4, h5, h6, h7, h8, h⟩
  · simp at hj
  · refine ⟨b, rfl, at_cell (h.block (List.mem_cons_self ..)) j v ?_⟩
    have hlt : j < k * sz := by
      rw [← h8]
      exact (List.getElem?_eq_some_iff.1 hj).1
    rw [← h7, List.getElem?_take_of_lt hlt] at hj
    simpa using hj
/-- a row that is done, as a block that stays (or there is none) -/
theorem GR.done (h : GR W0 m n t g K ty sz k xs al cap w) : ∃ D : List (Nat × Obj), FK W0 m n t g (D ++ K) w ∧ ∀ w' g' t' K', (∀ x ∈ D, x ∈ K') → FK W0 m n t' g' K' w' → ∀ j v, xs[j]? = some v → ∃ b, al = some ⟨b, 0, Option.none⟩ ∧ w'.cell? ⟨b, j, Option.none⟩ = some v := by
  rcases h with ⟨rfl, rfl, rfl, rfl, h⟩ | ⟨b, cur, rfl, h2, h3, h4, h5, h6, h7, h8, h⟩
  · exact ⟨[], h, fun w' g' t' K' _ _ j v hj => by simp at hj⟩
  · refine ⟨[(b, .cells cur ty (0, 0))], h, fun w' g' t' K' hK hF j v hj => ⟨b, rfl, at_cell (hF.block (hK _ (List.mem_cons_self ..))) j v ?_⟩⟩
    have hlt : j < k * sz := by
      rw [← h8]
      exact (List.getElem?_eq_some_iff.1 hj).1
    rw [← h7, List.getElem?_take_of_lt hlt] at hj
    simpa using hj
end
end Go.Proofs.Ytkcijlndblbidaa
