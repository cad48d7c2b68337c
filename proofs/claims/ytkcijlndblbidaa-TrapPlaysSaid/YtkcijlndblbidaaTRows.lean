/- Several rows beside a memory: each as entries of the blocks that stay, all blocks apart. -/
import Derived.Test.YtkcijlndblbidaaTClose
import Derived.Test.YtkcijlndblbidaaWWhole
namespace Go.Proofs.Ytkcijlndblbidaa
open Go.ChangeShapes Go.WideShapes Go.ChangeAt Go.RowKit
set_option linter.unusedVariables false

/-- a row, and the block that it has (none, if it is nil) -/
def Rw (base : Nat) (ty : TypeId) (sz k : Nat) (xs : List Value) (al : Option Addr) (cap : Nat) (R : List (Nat × Obj)) : Prop :=
  (al = none ∧ k = 0 ∧ cap = 0 ∧ xs = [] ∧ R = []) ∨
  ∃ b cur, al = some ⟨b, 0, none⟩ ∧ base ≤ b ∧ k ≤ cap ∧ cap ≤ maxLen ∧ cur.size = cap * sz ∧ cur.toList.take (k * sz) = xs ∧ xs.length = k * sz ∧ R = [(b, .cells cur ty (0, 0))]
/-- a full memory, blocks that stay, each in a place of its own -/
def FKN (W0 : World) (m n t : Nat) (g : Nat → Nat) (K : List (Nat × Obj)) (w : World) : Prop := FK W0 m n t g K w ∧ (K.map (·.1)).Nodup ∧ ∀ x ∈ K, W0.heap.size ≤ x.1
section
variable {W0 w w' : World} {m n t : Nat} {g : Nat → Nat} {K K' R : List (Nat × Obj)} {ty : TypeId} {sz k : Nat} {xs : List Value} {al : Option Addr} {cap : Nat}
theorem FKN.perm (h : FKN W0 m n t g K w) (p : List.Perm K K') : FKN W0 m n t g K' w :=
  ⟨h.1.sub fun x hx => p.mem_iff.2 hx, (p.map (·.1)).nodup_iff.1 h.2.1, fun x hx => h.2.2 x (p.mem_iff.2 hx)⟩
theorem FKN.grow (h : FKN W0 m n t g K w) (c : Below w.heap.size w w') : FKN W0 m n t g K w' := ⟨h.1.grow c, h.2.1, h.2.2⟩
theorem FKN.box (h : FKN W0 m n t g K w) (cs : Array Value) (ty : TypeId) : FKN W0 m n t g ((w.heap.size, .cells cs ty (0, 0)) :: K) (w.alloc (.cells cs ty)) := by
  refine ⟨h.1.box cs ty, ?_, fun x hx => ?_⟩
  · rw [List.map_cons, List.nodup_cons]
    refine ⟨fun hm => ?_, h.2.1⟩
    rw [List.mem_map] at hm
    obtain ⟨x, hx, e⟩ := hm
    have := block_lt (h.1.block (o := x.2) (X := x.1) hx)
    simp only at e
    omega
  · simp only [List.mem_cons] at hx
    rcases hx with rfl | hx
    · exact h.1.below.size
    · exact h.2.2 x hx
theorem FKN.tail {x : Nat × Obj} (h : FKN W0 m n t g (x :: K) w) : FKN W0 m n t g K w :=
  ⟨h.1.tail, (List.nodup_cons.1 (by rw [← List.map_cons]; exact h.2.1)).2, fun y hy => h.2.2 y (List.mem_cons_of_mem _ hy)⟩
theorem FKN.apart {x : Nat × Obj} (h : FKN W0 m n t g (x :: K) w) : ∀ y ∈ K, y.1 ≠ x.1 := by
  intro y hy e
  have := (List.nodup_cons.1 (by rw [← List.map_cons]; exact h.2.1)).1
  exact this (e ▸ List.mem_map_of_mem hy)
theorem FKN.drop (h : FKN W0 m n t g (K' ++ K) w) : FKN W0 m n t g K w := by
  refine ⟨h.1.sub fun x hx => List.mem_append_right _ hx, ?_, fun x hx => h.2.2 x (List.mem_append_right _ hx)⟩
  have := h.2.1
  rw [List.map_append] at this
  exact (List.nodup_append.1 this).2.1
theorem FKN.set {X : Nat} {cs : Array Value} {ty : TypeId} (h : FKN W0 m n t g ((X, .cells cs ty (0, 0)) :: K) w) (j : Nat) (x : Value) : FKN W0 m n t g ((X, .cells (cs.setIfInBounds j x) ty (0, 0)) :: K) (w.setCell ⟨X, j, none⟩ x) :=
  ⟨h.1.set (h.2.2 (X, .cells cs ty (0, 0)) (List.mem_cons_self ..)) h.apart j x, h.2.1, fun y hy => by
    simp only [List.mem_cons] at hy
    rcases hy with rfl | hy
    · exact h.2.2 (X, .cells cs ty (0, 0)) (List.mem_cons_self ..)
    · exact h.2.2 y (List.mem_cons_of_mem _ hy)⟩
theorem Rw.nil (base : Nat) (ty : TypeId) (sz : Nat) : Rw base ty sz 0 [] none 0 [] := .inl ⟨rfl, rfl, rfl, rfl, rfl⟩
/-- a row as the one that grows -/
theorem Rw.gr (r : Rw W0.heap.size ty sz k xs al cap R) (h : FKN W0 m n t g (R ++ K) w) : GR W0 m n t g K ty sz k xs al cap w := by
  rcases r with ⟨rfl, rfl, rfl, rfl, rfl⟩ | ⟨b, cur, rfl, h2, h3, h4, h5, h6, h7, rfl⟩
  · exact .inl ⟨rfl, rfl, rfl, rfl, h.1⟩
  · exact .inr ⟨b, cur, rfl, h2, h.apart, h3, h4, h5, h6, h7, h.1⟩
theorem GR.rw (r : GR W0 m n t g K ty sz k xs al cap w) (hN : (K.map (·.1)).Nodup) (hB : ∀ x ∈ K, W0.heap.size ≤ x.1) : ∃ R, Rw W0.heap.size ty sz k xs al cap R ∧ FKN W0 m n t g (R ++ K) w := by
  rcases r with ⟨rfl, rfl, rfl, rfl, h⟩ | ⟨b, cur, rfl, h2, h3, h4, h5, h6, h7, h8, h⟩
  · exact ⟨[], Rw.nil _ _ _, h, hN, hB⟩
  · refine ⟨[(b, .cells cur ty (0, 0))], .inr ⟨b, cur, rfl, h2, h4, h5, h6, h7, h8, rfl⟩, h, ?_, fun x hx => ?_⟩
    · show ((b :: K.map (·.1))).Nodup
      rw [List.nodup_cons]
      refine ⟨fun hm => ?_, hN⟩
      rw [List.mem_map] at hm
      obtain ⟨x, hx, e⟩ := hm
      exact h3 x hx e
    · simp only [List.cons_append, List.nil_append, List.mem_cons] at hx
      rcases hx with rfl | hx
      · exact h2
      · exact hB x hx
/-- a cell of a row -/
theorem Rw.at_ (r : Rw W0.heap.size ty sz k xs al cap R) (h : FK W0 m n t g K w) (hR : ∀ x ∈ R, x ∈ K) {j : Nat} {v : Value} (hj : xs[j]? = some v) : ∃ b, al = some ⟨b, 0, none⟩ ∧ w.cell? ⟨b, j, none⟩ = some v := by
  rcases r with ⟨rfl, rfl, rfl, rfl, rfl⟩ | ⟨b, cur, rfl, h2, h3, h4, h5, h6, h7, rfl⟩
  · simp at hj
  · refine ⟨b, rfl, at_cell (h.block (hR _ (List.mem_cons_self ..))) j v ?_⟩
    have hlt : j < k * sz := by
      rw [← h7]
      exact (List.getElem?_eq_some_iff.1 hj).1
    rw [← h6, List.getElem?_take_of_lt hlt] at hj
    simpa using hj
theorem Rw.rowc (r : Rw W0.heap.size ty sz k xs al cap R) (h : FK W0 m n t g K w) (hR : ∀ x ∈ R, x ∈ K) : RowC w al xs := fun j v hj => r.at_ h hR hj
end
end Go.Proofs.Ytkcijlndblbidaa
