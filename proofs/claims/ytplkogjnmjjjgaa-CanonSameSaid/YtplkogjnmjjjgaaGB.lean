/- Blocks that a call made, all apart and above a base world; a row among them that grows. Out of wip/mem's WGrow, WWhole, TRows, TApp, the memory taken out. -/
import Derived.Test.YtplkogjnmjjjgaaGCheck
import Derived.Test.YtplkogjnmjjjgaaSep
import Derived.Test.YtplkogjnmjjjgaaRowF
namespace Go.Proofs.Ytplkogjnmjjjgaa
open Go.ChangeShapes Go.WideShapes Go.ChangeAt Go.RowKit
set_option linter.unusedVariables false
set_option linter.unusedSimpArgs false

/-- the world has grown from a base, and these blocks hold these objects -/
def KB (W0 : World) (K : List (Nat × Obj)) (w : World) : Prop := Below W0.heap.size W0 w ∧ ∀ x ∈ K, w.heap[x.1]? = some x.2
section
variable {W0 w w' : World} {K K' : List (Nat × Obj)}
theorem KB.below (h : KB W0 K w) : Below W0.heap.size W0 w := h.1
theorem KB.block (h : KB W0 K w) {X : Nat} {o : Obj} (hx : (X, o) ∈ K) : w.heap[X]? = some o := h.2 (X, o) hx
theorem KB.old (h : KB W0 K w) : ∀ x ∈ K, x.1 < w.heap.size := fun x hx => block_lt (h.2 x hx)
theorem KB.sub (h : KB W0 K w) (hs : ∀ x ∈ K', x ∈ K) : KB W0 K' w := ⟨h.1, fun x hx => h.2 x (hs x hx)⟩
theorem KB.tail {x : Nat × Obj} (h : KB W0 (x :: K) w) : KB W0 K w := h.sub fun y hy => List.mem_cons_of_mem _ hy
theorem KB.grow (h : KB W0 K w) (c : Below w.heap.size w w') : KB W0 K w' := ⟨h.1.trans (c.mono h.1.size), fun x hx => blockB c (Nat.le_refl _) (h.2 x hx)⟩
theorem KB.adopt {X : Nat} {o : Obj} (h : KB W0 K w) (c : Below w.heap.size w w') (hX : w.heap.size ≤ X) (ho : w'.heap[X]? = some o) : KB W0 ((X, o) :: K) w' := by
  refine ⟨(h.grow c).1, fun x hx => ?_⟩
  simp only [List.mem_cons] at hx
  rcases hx with rfl | hx
  · exact ho
  · exact (h.grow c).2 x hx
theorem KB.box (h : KB W0 K w) (cs : Array Value) (ty : TypeId) : KB W0 ((w.heap.size, .cells cs ty (0, 0)) :: K) (w.alloc (.cells cs ty)) := h.adopt (below_new w _) (Nat.le_refl _) (heap_alloc_new w _)
theorem KB.swap {b X : Nat} {o o' : Obj} (h : KB W0 ((b, o) :: K) w) (hb : W0.heap.size ≤ b) (hK : ∀ x ∈ K, x.1 ≠ b) (c : Chg (fun q => q = b) w w') (hX : X = b ∨ w.heap.size ≤ X) (ho : w'.heap[X]? = some o') : KB W0 ((X, o') :: K) w' := by
  refine ⟨h.1.trans (c.below (fun q hq => by rw [hq]; exact hb) h.1.size), fun x hx => ?_⟩
  simp only [List.mem_cons] at hx
  rcases hx with rfl | hx
  · exact ho
  · exact c.keep (h.2 x (List.mem_cons_of_mem _ hx)) (hK x hx)
theorem KB.set {X : Nat} {cs : Array Value} {ty : TypeId} (h : KB W0 ((X, .cells cs ty (0, 0)) :: K) w) (hX : W0.heap.size ≤ X) (hK : ∀ x ∈ K, x.1 ≠ X) (j : Nat) (x : Value) : KB W0 ((X, .cells (cs.setIfInBounds j x) ty (0, 0)) :: K) (w.setCell ⟨X, j, none⟩ x) :=
  h.swap hX hK ((Chg.refl (fun q => q = X) w).set (p := ⟨X, j, none⟩) (.inl rfl) _) (.inl rfl) (heap_setCell_same w X j _ _ _ (h.2 _ (List.mem_cons_self ..)))
/-- a slice of k elements of sz cells each, xs, that grows -/
def GR (W0 : World) (K : List (Nat × Obj)) (ty : TypeId) (sz k : Nat) (xs : List Value) (al : Option Addr) (cap : Nat) (w : World) : Prop :=
  (al = none ∧ k = 0 ∧ cap = 0 ∧ xs = [] ∧ KB W0 K w) ∨
  ∃ b cur, al = some ⟨b, 0, none⟩ ∧ W0.heap.size ≤ b ∧ (∀ x ∈ K, x.1 ≠ b) ∧ k ≤ cap ∧ cap ≤ maxLen ∧ cur.size = cap * sz ∧ cur.toList.take (k * sz) = xs ∧ xs.length = k * sz ∧ KB W0 ((b, .cells cur ty (0, 0)) :: K) w
theorem GR.none' (h : KB W0 K w) (ty : TypeId) (sz : Nat) : GR W0 K ty sz 0 [] none 0 w := .inl ⟨rfl, rfl, rfl, rfl, h⟩
variable {ty : TypeId} {sz k : Nat} {xs : List Value} {al : Option Addr} {cap : Nat}
theorem GR.full (h : GR W0 K ty sz k xs al cap w) : KB W0 K w := by
  rcases h with ⟨-, -, -, -, h⟩ | ⟨b, cur, -, -, -, -, -, -, -, -, h⟩
  · exact h
  · exact h.tail
theorem GR.len (h : GR W0 K ty sz k xs al cap w) : xs.length = k * sz := by
  rcases h with ⟨-, rfl, -, rfl, h⟩ | ⟨b, cur, -, -, -, -, -, -, -, hl, h⟩
  · simp
  · exact hl
theorem GR.grow (h : GR W0 K ty sz k xs al cap w) (c : Below w.heap.size w w') : GR W0 K ty sz k xs al cap w' := by
  rcases h with ⟨h1, h2, h3, h4, h⟩ | ⟨b, cur, h1, h2, h3, h4, h5, h6, h7, h8, h⟩
  · exact .inl ⟨h1, h2, h3, h4, h.grow c⟩
  · exact .inr ⟨b, cur, h1, h2, h3, h4, h5, h6, h7, h8, h.grow c⟩
theorem GR.sub (h : GR W0 K ty sz k xs al cap w) (hs : ∀ x ∈ K', x ∈ K) : GR W0 K' ty sz k xs al cap w := by
  rcases h with ⟨h1, h2, h3, h4, h⟩ | ⟨b, cur, h1, h2, h3, h4, h5, h6, h7, h8, h⟩
  · exact .inl ⟨h1, h2, h3, h4, h.sub hs⟩
  · refine .inr ⟨b, cur, h1, h2, fun x hx => h3 x (hs x hx), h4, h5, h6, h7, h8, h.sub fun x hx => ?_⟩
    simp only [List.mem_cons] at hx ⊢
    rcases hx with e | e
    · exact .inl e
    · exact .inr (hs x e)
theorem GR.tail {x : Nat × Obj} (h : GR W0 (x :: K) ty sz k xs al cap w) : GR W0 K ty sz k xs al cap w := h.sub fun y hy => List.mem_cons_of_mem _ hy
theorem GR.block (h : GR W0 K ty sz k xs al cap w) {X : Nat} {o : Obj} (hx : (X, o) ∈ K) : w.heap[X]? = some o := h.full.block hx
theorem GR.below (h : GR W0 K ty sz k xs al cap w) : Below W0.heap.size W0 w := h.full.below
theorem mem_swap2 {a b : Nat × Obj} {L : List (Nat × Obj)} : ∀ x ∈ b :: a :: L, x ∈ a :: b :: L := by
  intro x hx
  simp only [List.mem_cons] at hx ⊢
  rcases hx with h | h | h
  · exact .inr (.inl h)
  · exact .inl h
  · exact .inr (.inr h)
theorem GR.box (h : GR W0 K ty sz k xs al cap w) (cs : Array Value) (ty2 : TypeId) : GR W0 ((w.heap.size, .cells cs ty2 (0, 0)) :: K) ty sz k xs al cap (w.alloc (.cells cs ty2)) := by
  rcases h with ⟨h1, h2, h3, h4, h⟩ | ⟨b, cur, h1, h2, h3, h4, h5, h6, h7, h8, h⟩
  · exact .inl ⟨h1, h2, h3, h4, h.box cs ty2⟩
  · have hlt := block_lt (h.block (List.mem_cons_self ..))
    refine .inr ⟨b, cur, h1, h2, fun x hx => ?_, h4, h5, h6, h7, h8, (h.box cs ty2).sub mem_swap2⟩
    simp only [List.mem_cons] at hx
    rcases hx with rfl | hx
    · simp only []; omega
    · exact h3 x hx
theorem GR.row (h : GR W0 K ty sz k xs al cap w) : w.ownsRow W0.heap.size ty sz (.slice al k cap) k xs := by
  rcases h with ⟨rfl, rfl, rfl, rfl, h⟩ | ⟨b, cur, rfl, h2, h3, h4, h5, h6, h7, h8, h⟩
  · exact World.ownsRow_nil _ _ _ _
  · exact ⟨h8, .inr ⟨b, cap, cur, rfl, h2, h.block (List.mem_cons_self ..), h4, h5, h6, h7⟩⟩
/-- an element appended (laid into a block of its own first) -/
theorem GR.push (h : GR W0 K ty sz k xs al cap w) {news : List Value} {ety : TypeId} {ecs : Array Value} {g5 cap5 : Nat} {w5 : World}
    (hown : w5.ownsRow W0.heap.size ty sz (.slice (some ⟨g5, 0, Option.none⟩) (k + 1) cap5) (k + 1) (xs ++ news))
    (hgrow : (w.alloc (.cells ecs ety)).grownBy w5 (Value.slice al k cap).ownBlock) (hat : (Value.slice al k cap).ownBlock = some g5 ∨ g5 = w.heap.size + 1) :
    GR W0 K ty sz (k + 1) (xs ++ news) (some ⟨g5, 0, Option.none⟩) cap5 w5 := by
  have hsz : w.heap.size + 1 ≤ w5.heap.size := by have := hgrow.size; simpa using this
  have hlen := hown.1
  rcases hown.2 with ⟨e, _⟩ | ⟨gb, c, cur5, e, b1, b2, b3, b4, b5, b6⟩
  · cases e
  simp at e
  obtain ⟨rfl, rfl⟩ := e
  have old : ∀ q, q < w.heap.size → some q ≠ (Value.slice al k cap).ownBlock → w5.heap[q]? = w.heap[q]? := fun q hq hn =>
    (hgrow.block q (by simp; omega) hn).trans (Below.heap_alloc w _ q hq)
  rcases h with ⟨rfl, rfl, rfl, rfl, h⟩ | ⟨b, cur, rfl, h2, h3, h4, h5, h6, h7, h8, h⟩
  · have c : Below w.heap.size w w5 := ⟨hgrow.os, hgrow.tape, hgrow.output, by omega, fun q hq => old q hq (by simp [Value.ownBlock])⟩
    have hg5 : w.heap.size ≤ g5 := by
      rcases hat with e | e
      · simp [Value.ownBlock] at e
      · omega
    refine .inr ⟨g5, cur5, rfl, b1, fun x hx => ?_, b3, b4, b5, b6, hlen, h.adopt c hg5 b2⟩
    have := h.old x hx
    omega
  · have c : Chg (fun q => q = b) w w5 := ⟨hgrow.os, hgrow.tape, hgrow.output, by omega, fun q hq hn => old q hq (fun e => hn (by simpa [Value.ownBlock] using e))⟩
    have hg5 : g5 = b ∨ w.heap.size ≤ g5 := by
      rcases hat with e | e
      · left
        simpa [Value.ownBlock] using e.symm
      · right
        omega
    refine .inr ⟨g5, cur5, rfl, b1, fun x hx => ?_, b3, b4, b5, b6, hlen, h.swap h2 h3 c hg5 b2⟩
    rcases hg5 with rfl | e
    · exact h3 x hx
    · have := h.old x (List.mem_cons_of_mem _ hx)
      omega
/-- the row's cells -/
theorem GR.at_ (h : GR W0 K ty sz k xs al cap w) {j : Nat} {v : Value} (hj : xs[j]? = some v) : ∃ b, al = some ⟨b, 0, Option.none⟩ ∧ w.cell? ⟨b, j, Option.none⟩ = some v := by
  rcases h with ⟨rfl, rfl, rfl, rfl, h⟩ | ⟨b, cur, rfl, h2, h3, h4, h5, h6, h7, h8, h⟩
  · simp at hj
  · refine ⟨b, rfl, at_cell (h.block (List.mem_cons_self ..)) j v ?_⟩
    have hlt : j < k * sz := by
      rw [← h8]
      exact (List.getElem?_eq_some_iff.1 hj).1
    rw [← h7, List.getElem?_take_of_lt hlt] at hj
    simpa using hj
theorem GR.adopt {X : Nat} {o : Obj} (h : GR W0 K ty sz k xs al cap w) (c : Below w.heap.size w w') (hX : w.heap.size ≤ X) (ho : w'.heap[X]? = some o) : GR W0 ((X, o) :: K) ty sz k xs al cap w' := by
  rcases h with ⟨h1, h2, h3, h4, h⟩ | ⟨b, cur, h1, h2, h3, h4, h5, h6, h7, h8, h⟩
  · exact .inl ⟨h1, h2, h3, h4, h.adopt c hX ho⟩
  · have hlt := block_lt (h.block (List.mem_cons_self ..))
    refine .inr ⟨b, cur, h1, h2, fun x hx => ?_, h4, h5, h6, h7, h8, (h.adopt c hX ho).sub mem_swap2⟩
    simp only [List.mem_cons] at hx
    rcases hx with rfl | hx
    · simp only []; omega
    · exact h3 x hx
theorem GR.swapK {B : Nat} {o o' : Obj} (h : GR W0 ((B, o) :: K) ty sz k xs al cap w) (hB : W0.heap.size ≤ B) (hK : ∀ x ∈ K, x.1 ≠ B) (c : Chg (fun q => q = B) w w') (ho : w'.heap[B]? = some o') : GR W0 ((B, o') :: K) ty sz k xs al cap w' := by
  rcases h with ⟨h1, h2, h3, h4, h⟩ | ⟨b, cur, h1, h2, h3, h4, h5, h6, h7, h8, h⟩
  · exact .inl ⟨h1, h2, h3, h4, h.swap hB hK c (.inl rfl) ho⟩
  · have hne := h3 (B, o) (List.mem_cons_self ..)
    have hs := (h.sub mem_swap2).swap hB (fun x hx => by
      simp only [List.mem_cons] at hx
      rcases hx with rfl | hx
      · exact fun e => hne e.symm
      · exact hK x hx) c (.inl rfl) ho
    refine .inr ⟨b, cur, h1, h2, fun x hx => ?_, h4, h5, h6, h7, h8, hs.sub mem_swap2⟩
    simp only [List.mem_cons] at hx
    rcases hx with rfl | hx
    · exact hne
    · exact h3 x (List.mem_cons_of_mem _ hx)
/-- a run of elements appended, out of cells that lie elsewhere -/
theorem GR.pushN (h : GR W0 K ty sz k xs al cap w) {news : List Value} {j g5 cap5 : Nat} {w5 : World}
    (hown : w5.ownsRow W0.heap.size ty sz (.slice (some ⟨g5, 0, Option.none⟩) (k + j) cap5) (k + j) (xs ++ news))
    (hgrow : w.grownBy w5 (Value.slice al k cap).ownBlock) (hat : (Value.slice al k cap).ownBlock = some g5 ∨ g5 = w.heap.size) :
    GR W0 K ty sz (k + j) (xs ++ news) (some ⟨g5, 0, Option.none⟩) cap5 w5 := by
  have hsz : w.heap.size ≤ w5.heap.size := hgrow.size
  have hlen := hown.1
  rcases hown.2 with ⟨e, _⟩ | ⟨gb, c, cur5, e, b1, b2, b3, b4, b5, b6⟩
  · cases e
  simp at e
  obtain ⟨rfl, rfl⟩ := e
  have old : ∀ q, q < w.heap.size → some q ≠ (Value.slice al k cap).ownBlock → w5.heap[q]? = w.heap[q]? := fun q hq hn => hgrow.block q hq hn
  rcases h with ⟨rfl, rfl, rfl, rfl, h⟩ | ⟨b, cur, rfl, h2, h3, h4, h5, h6, h7, h8, h⟩
  · have c : Below w.heap.size w w5 := ⟨hgrow.os, hgrow.tape, hgrow.output, by omega, fun q hq => old q hq (by simp [Value.ownBlock])⟩
    have hg5 : w.heap.size ≤ g5 := by
      rcases hat with e | e
      · simp [Value.ownBlock] at e
      · omega
    refine .inr ⟨g5, cur5, rfl, b1, fun x hx => ?_, b3, b4, b5, b6, hlen, h.adopt c hg5 b2⟩
    have := h.old x hx
    omega
  · have c : Chg (fun q => q = b) w w5 := ⟨hgrow.os, hgrow.tape, hgrow.output, by omega, fun q hq hn => old q hq (fun e => hn (by simpa [Value.ownBlock] using e))⟩
    have hg5 : g5 = b ∨ w.heap.size ≤ g5 := by
      rcases hat with e | e
      · left
        simpa [Value.ownBlock] using e.symm
      · right
        omega
    refine .inr ⟨g5, cur5, rfl, b1, fun x hx => ?_, b3, b4, b5, b6, hlen, h.swap h2 h3 c hg5 b2⟩
    rcases hg5 with rfl | e
    · exact h3 x hx
    · have := h.old x (List.mem_cons_of_mem _ hx)
      omega
end
/-- a row, and the block that it has (none, if it is nil) -/
def Rw (base : Nat) (ty : TypeId) (sz k : Nat) (xs : List Value) (al : Option Addr) (cap : Nat) (R : List (Nat × Obj)) : Prop :=
  (al = none ∧ k = 0 ∧ cap = 0 ∧ xs = [] ∧ R = []) ∨
  ∃ b cur, al = some ⟨b, 0, none⟩ ∧ base ≤ b ∧ k ≤ cap ∧ cap ≤ maxLen ∧ cur.size = cap * sz ∧ cur.toList.take (k * sz) = xs ∧ xs.length = k * sz ∧ R = [(b, .cells cur ty (0, 0))]
/-- a full memory, blocks that stay, each in a place of its own -/
def FKN (W0 : World) (K : List (Nat × Obj)) (w : World) : Prop := KB W0 K w ∧ (K.map (·.1)).Nodup ∧ ∀ x ∈ K, W0.heap.size ≤ x.1
section
variable {W0 w w' : World} {K K' R : List (Nat × Obj)} {ty : TypeId} {sz k : Nat} {xs : List Value} {al : Option Addr} {cap : Nat}
theorem FKN.perm (h : FKN W0 K w) (p : List.Perm K K') : FKN W0 K' w :=
  ⟨h.1.sub fun x hx => p.mem_iff.2 hx, (p.map (·.1)).nodup_iff.1 h.2.1, fun x hx => h.2.2 x (p.mem_iff.2 hx)⟩
theorem FKN.grow (h : FKN W0 K w) (c : Below w.heap.size w w') : FKN W0 K w' := ⟨h.1.grow c, h.2.1, h.2.2⟩
theorem FKN.box (h : FKN W0 K w) (cs : Array Value) (ty : TypeId) : FKN W0 ((w.heap.size, .cells cs ty (0, 0)) :: K) (w.alloc (.cells cs ty)) := by
  refine ⟨h.1.box cs ty, ?_, fun x hx => ?_⟩
  · rw [List.map_cons, List.nodup_cons]
    refine ⟨fun hm => ?_, h.2.1⟩
    rw [List.mem_map] at hm
    obtain ⟨x, hx, e⟩ := hm
    have := block_lt (h.1.block (o := x.2) (X := x.1) hx)
    simp only at e
    omega
  · simp only [List.mem_cons] at hx
    rcases hx with rfl | hx
    · exact h.1.below.size
    · exact h.2.2 x hx
theorem FKN.tail {x : Nat × Obj} (h : FKN W0 (x :: K) w) : FKN W0 K w :=
  ⟨h.1.tail, (List.nodup_cons.1 (by rw [← List.map_cons]; exact h.2.1)).2, fun y hy => h.2.2 y (List.mem_cons_of_mem _ hy)⟩
theorem FKN.apart {x : Nat × Obj} (h : FKN W0 (x :: K) w) : ∀ y ∈ K, y.1 ≠ x.1 := by
  intro y hy e
  have := (List.nodup_cons.1 (by rw [← List.map_cons]; exact h.2.1)).1
  exact this (e ▸ List.mem_map_of_mem hy)
theorem FKN.drop (h : FKN W0 (K' ++ K) w) : FKN W0 K w := by
  refine ⟨h.1.sub fun x hx => List.mem_append_right _ hx, ?_, fun x hx => h.2.2 x (List.mem_append_right _ hx)⟩
  have := h.2.1
  rw [List.map_append] at this
  exact (List.nodup_append.1 this).2.1
theorem FKN.set {X : Nat} {cs : Array Value} {ty : TypeId} (h : FKN W0 ((X, .cells cs ty (0, 0)) :: K) w) (j : Nat) (x : Value) : FKN W0 ((X, .cells (cs.setIfInBounds j x) ty (0, 0)) :: K) (w.setCell ⟨X, j, none⟩ x) :=
  ⟨h.1.set (h.2.2 (X, .cells cs ty (0, 0)) (List.mem_cons_self ..)) h.apart j x, h.2.1, fun y hy => by
    simp only [List.mem_cons] at hy
    rcases hy with rfl | hy
    · exact h.2.2 (X, .cells cs ty (0, 0)) (List.mem_cons_self ..)
    · exact h.2.2 y (List.mem_cons_of_mem _ hy)⟩
theorem Rw.nil (base : Nat) (ty : TypeId) (sz : Nat) : Rw base ty sz 0 [] none 0 [] := .inl ⟨rfl, rfl, rfl, rfl, rfl⟩
/-- a row as the one that grows -/
theorem Rw.gr (r : Rw W0.heap.size ty sz k xs al cap R) (h : FKN W0 (R ++ K) w) : GR W0 K ty sz k xs al cap w := by
  rcases r with ⟨rfl, rfl, rfl, rfl, rfl⟩ | ⟨b, cur, rfl, h2, h3, h4, h5, h6, h7, rfl⟩
  · exact .inl ⟨rfl, rfl, rfl, rfl, h.1⟩
  · exact .inr ⟨b, cur, rfl, h2, h.apart, h3, h4, h5, h6, h7, h.1⟩
theorem GR.rw (r : GR W0 K ty sz k xs al cap w) (hN : (K.map (·.1)).Nodup) (hB : ∀ x ∈ K, W0.heap.size ≤ x.1) : ∃ R, Rw W0.heap.size ty sz k xs al cap R ∧ FKN W0 (R ++ K) w := by
  rcases r with ⟨rfl, rfl, rfl, rfl, h⟩ | ⟨b, cur, rfl, h2, h3, h4, h5, h6, h7, h8, h⟩
  · exact ⟨[], Rw.nil _ _ _, h, hN, hB⟩
  · refine ⟨[(b, .cells cur ty (0, 0))], .inr ⟨b, cur, rfl, h2, h4, h5, h6, h7, h8, rfl⟩, h, ?_, fun x hx => ?_⟩
    · show ((b :: K.map (·.1))).Nodup
      rw [List.nodup_cons]
      refine ⟨fun hm => ?_, hN⟩
      rw [List.mem_map] at hm
      obtain ⟨x, hx, e⟩ := hm
      exact h3 x hx e
    · simp only [List.cons_append, List.nil_append, List.mem_cons] at hx
      rcases hx with rfl | hx
      · exact h2
      · exact hB x hx
/-- a cell of a row -/
theorem Rw.at_ (r : Rw W0.heap.size ty sz k xs al cap R) (h : KB W0 K w) (hR : ∀ x ∈ R, x ∈ K) {j : Nat} {v : Value} (hj : xs[j]? = some v) : ∃ b, al = some ⟨b, 0, none⟩ ∧ w.cell? ⟨b, j, none⟩ = some v := by
  rcases r with ⟨rfl, rfl, rfl, rfl, rfl⟩ | ⟨b, cur, rfl, h2, h3, h4, h5, h6, h7, rfl⟩
  · simp at hj
  · refine ⟨b, rfl, at_cell (h.block (hR _ (List.mem_cons_self ..))) j v ?_⟩
    have hlt : j < k * sz := by
      rw [← h7]
      exact (List.getElem?_eq_some_iff.1 hj).1
    rw [← h6, List.getElem?_take_of_lt hlt] at hj
    simpa using hj
end
section
variable {W0 w w' : World} {K : List (Nat × Obj)} {ty : TypeId}
theorem GR.append1 {k cap : Nat} {xs : List Value} {al : Option Addr} (h : GR W0 K ty 1 k xs al cap w) {i : TypeInfo} {z : Value} {by_ : Nat} (hi : Try.prog.info? ty = some i) (hz : i.zero = some z) (hs : i.size = 1) (hby : i.bytes = by_) (hzs : z.cells.size = 1) {sty : TypeId} (hu : Try.prog.underlying sty = some (.slice ty)) (v : Value) (hv : v.oneCell' = true) (hk : k + 1 ≤ maxLen) (hb : (k + 1) * by_ ≤ 140737488355328) :
    ∃ al5 cap5 w5, (Builtin.append_ #[sty, sty] sty #[.slice al k cap, .slice (some ⟨w.heap.size, 0, none⟩) 1 1]).run Try.prog (w.alloc (.cells #[v] ty)) = .ok (.slice al5 (k + 1) cap5) w5 ∧ GR W0 K ty 1 (k + 1) (xs ++ [v]) al5 cap5 w5 := by
  have hG := h.box #[v] ty
  have hq := hG.block (X := w.heap.size) (o := .cells #[v] ty (0, 0)) (List.mem_cons_self ..)
  obtain ⟨g5, cap5, w5, hrun, hown, hgrow, hat, -⟩ := run_append_lies (P := Try.prog) (w.alloc (.cells #[v] ty)) sty sty W0.heap.size ty i z 1 by_ hu hi hz hs hby hzs (by decide) _ _ _ hG.row ⟨w.heap.size, 0, none⟩ 1 1 [v] rfl (fun j u hu => by
    match j with
    | 0 =>
      cases hu
      exact at_cell hq 0 v rfl
    | j + 1 => simp at hu) (fun u hu => by
      simp only [List.mem_singleton] at hu
      subst hu
      exact hv) (by omega) hk hb hG.below.size _ rfl
  exact ⟨_, _, _, hrun, (hG.pushN hown hgrow hat).tail⟩
end
end Go.Proofs.Ytplkogjnmjjjgaa
