/- A row of entries, each a number and a slice of words, as cells. -/
import Derived.Test.YtkcijlndblbidaaVAll
namespace Go.Proofs.Ytkcijlndblbidaa
open Go.ChangeShapes Go.WideShapes Go.ChangeAt Go.RowKit
set_option linter.unusedVariables false

/-- entries of a number and a row of words, as cells -/
def fcells (page : Nat) : List (Nat × Nat) → List Value
  | [] => []
  | e :: es => .int .i64 e.1 :: .slice (some ⟨e.2, 0, none⟩) page page :: fcells page es
def fF (fs : List (Nat × Nat)) (i : Nat) : Nat := (fs.getD i (0, 0)).1
def fG (fs : List (Nat × Nat)) (i : Nat) : Nat := (fs.getD i (0, 0)).2
theorem fcells_length (page : Nat) (es : List (Nat × Nat)) : (fcells page es).length = es.length * 2 := by
  induction es with
  | nil => rfl
  | cons e es ih => simp [fcells, ih]; omega
theorem fcells_append (page : Nat) (a b : List (Nat × Nat)) : fcells page (a ++ b) = fcells page a ++ fcells page b := by
  induction a with
  | nil => rfl
  | cons e es ih => simp [fcells, ih]
theorem fcells_one (page : Nat) (es : List (Nat × Nat)) : ∀ u ∈ fcells page es, u.oneCell' = true := by
  induction es with
  | nil => intro u hu; cases hu
  | cons e es ih =>
    intro u hu
    simp only [fcells, List.mem_cons] at hu
    rcases hu with rfl | rfl | h
    · rfl
    · rfl
    · exact ih u h
theorem fcells_get (page : Nat) (es : List (Nat × Nat)) (i : Nat) (h : i < es.length) : (fcells page es)[i * 2]? = some (.int .i64 (fF es i)) ∧ (fcells page es)[i * 2 + 1]? = some (.slice (some ⟨fG es i, 0, none⟩) page page) := by
  induction es generalizing i with
  | nil => simp at h
  | cons e es ih =>
    cases i with
    | zero => exact ⟨rfl, rfl⟩
    | succ i =>
      have := ih i (by simpa using h)
      rw [show (i + 1) * 2 = i * 2 + 2 by omega]
      simpa [fcells, fF, fG] using this
theorem fcells_take (page : Nat) (es : List (Nat × Nat)) (k : Nat) : (fcells page es).take (k * 2) = fcells page (es.take k) := by
  induction es generalizing k with
  | nil => simp [fcells]
  | cons e es ih =>
    cases k with
    | zero => simp [fcells]
    | succ k => rw [show (k + 1) * 2 = k * 2 + 2 by omega]; simp [fcells, ih]
theorem fcells_drop (page : Nat) (es : List (Nat × Nat)) (k : Nat) : (fcells page es).drop (k * 2) = fcells page (es.drop k) := by
  induction es generalizing k with
  | nil => simp [fcells]
  | cons e es ih =>
    cases k with
    | zero => simp [fcells]
    | succ k => rw [show (k + 1) * 2 = k * 2 + 2 by omega]; simp [fcells, ih]
/-- where an entry stands -/
def IsAt (es : List (Nat × Nat)) (p r : Int) : Prop :=
  (r = -1 ∧ ∀ i, i < es.length → (fF es i : Int) ≠ p) ∨ ∃ i : Nat, i < es.length ∧ r = i ∧ (fF es i : Int) = p ∧ ∀ j, j < i → (fF es j : Int) ≠ p
theorem fF_append (es : List (Nat × Nat)) (e : Nat × Nat) (i : Nat) : fF (es ++ [e]) i = if i < es.length then fF es i else if i = es.length then e.1 else 0 := by
  unfold fF
  rw [List.getD_eq_getElem?_getD, List.getD_eq_getElem?_getD, List.getElem?_append]
  split
  · rfl
  · split
    · rename_i h; subst h; simp
    · rw [List.getElem?_eq_none (by simp; omega)]; rfl
theorem fF_cut (es : List (Nat × Nat)) (k i : Nat) (hk : k < es.length) : fF (es.take k ++ es.drop (k + 1)) i = if i < k then fF es i else fF es (i + 1) := by
  unfold fF
  rw [List.getD_eq_getElem?_getD, List.getElem?_append]
  have : (es.take k).length = k := by simp; omega
  rw [this]
  split
  · rename_i h
    rw [List.getElem?_take_of_lt h, List.getD_eq_getElem?_getD]
  · rw [List.getElem?_drop, show k + 1 + (i - k) = i + 1 by omega, List.getD_eq_getElem?_getD]
theorem cut_index {n k i : Nat} (hk : k < n) (hi : i < n - 1) : (if i < k then i else i + 1) < n ∧ (if i < k then i else i + 1) ≠ k := by split <;> omega
theorem fF_cut' (es : List (Nat × Nat)) (k i : Nat) (hk : k < es.length) : fF (es.take k ++ es.drop (k + 1)) i = fF es (if i < k then i else i + 1) := by rw [fF_cut es k i hk]; split <;> rfl
theorem cut_length {es : List (Nat × Nat)} {k : Nat} (hk : k < es.length) : (es.take k ++ es.drop (k + 1)).length = k + (es.length - (k + 1)) := by simp; omega
theorem type_ne {w : World} {g g' : Nat} {c c' : Array Value} {t t' : TypeId} {x x' : Nat × Nat} (h : w.heap[g]? = some (.cells c t x)) (h' : w.heap[g']? = some (.cells c' t' x')) (ht : t ≠ t') : g ≠ g' := by
  rintro rfl
  rw [h] at h'
  simp at h'
  exact ht h'.2.1
theorem own_cur {w : World} {B size n : Nat} {e : TypeId} {v : Value} {xs : List Value} (h : w.ownsRow B e size v n xs) {k : Nat} (hk : v.ownBlock = some k) : ∃ cur, w.heap[k]? = some (.cells cur e (0, 0)) := by
  rcases h.2 with ⟨rfl, _⟩ | ⟨g, cap, cur, rfl, hb, hg, _⟩
  · cases hk
  · simp [Value.ownBlock] at hk
    subst hk
    exact ⟨cur, hg⟩
def zrow (page : Nat) : Array Value := (ftab page fun _ => .int .u64 0).toArray
theorem made_words (page : Nat) : madeCells (Value.int .u64 0).cells (page * 1) = zrow page := by
  apply Array.toList_inj.1
  rw [Nat.mul_one]
  show (madeCells #[Value.int .u64 0] page).toList = _
  rw [toList_madeCells_one]
  unfold zrow
  rw [ftab_replicate]
end Go.Proofs.Ytkcijlndblbidaa
