/- The reference's map: how it lies in memory, and the walks of May, in and At. -/
import Derived.Test.YtkonpieebemfbaaPagesCount
import Derived.Deep.AppendLies
namespace Go.Proofs.Ytkonpieebemfbaa
open Go.ChangeShapes Go.WideShapes Go.ChangeAt Go.RowKit
set_option linter.unusedVariables false

theorem entry_info : (Try.prog.info? 58).map (fun i => (i.zero, i.size, i.bytes)) = some (some (.agg #[.int .i64 0, .int .i64 0]), 2, 16) := by kernel_rfl
/-- entries as cells -/
def ecells : List (Nat × Nat) → List Value
  | [] => []
  | e :: es => .int .i64 e.1 :: .int .i64 e.2 :: ecells es
def eP (es : List (Nat × Nat)) (i : Nat) : Nat := (es.getD i (0, 0)).1
def eF (es : List (Nat × Nat)) (i : Nat) : Nat := (es.getD i (0, 0)).2
theorem ecells_length (es : List (Nat × Nat)) : (ecells es).length = es.length * 2 := by
  induction es with
  | nil => rfl
  | cons e es ih => simp [ecells, ih]; omega
theorem ecells_append (a b : List (Nat × Nat)) : ecells (a ++ b) = ecells a ++ ecells b := by
  induction a with
  | nil => rfl
  | cons e es ih => simp [ecells, ih]
theorem ecells_one (es : List (Nat × Nat)) : ∀ u ∈ ecells es, u.oneCell' = true := by
  induction es with
  | nil => intro u hu; cases hu
  | cons e es ih =>
    intro u hu
    simp only [ecells, List.mem_cons] at hu
    rcases hu with rfl | rfl | h
    · rfl
    · rfl
    · exact ih u h
theorem ecells_get (es : List (Nat × Nat)) (i : Nat) (h : i < es.length) : (ecells es)[i * 2]? = some (.int .i64 (eP es i)) ∧ (ecells es)[i * 2 + 1]? = some (.int .i64 (eF es i)) := by
  induction es generalizing i with
  | nil => simp at h
  | cons e es ih =>
    cases i with
    | zero => exact ⟨rfl, rfl⟩
    | succ i =>
      have := ih i (by simpa using h)
      rw [show (i + 1) * 2 = i * 2 + 2 by omega]
      simpa [ecells, eP, eF] using this
theorem ecells_take (es : List (Nat × Nat)) (k : Nat) : (ecells es).take (k * 2) = ecells (es.take k) := by
  induction es generalizing k with
  | nil => simp [ecells]
  | cons e es ih =>
    cases k with
    | zero => simp [ecells]
    | succ k => rw [show (k + 1) * 2 = k * 2 + 2 by omega]; simp [ecells, ih]
theorem ecells_drop (es : List (Nat × Nat)) (k : Nat) : (ecells es).drop (k * 2) = ecells (es.drop k) := by
  induction es generalizing k with
  | nil => simp [ecells]
  | cons e es ih =>
    cases k with
    | zero => simp [ecells]
    | succ k => rw [show (k + 1) * 2 = k * 2 + 2 by omega]; simp [ecells, ih]
theorem ecells_set (es : List (Nat × Nat)) (k q : Nat) (h : k < es.length) : (ecells es).set (k * 2) (.int .i64 q) = ecells (es.set k (q, eF es k)) := by
  induction es generalizing k with
  | nil => simp at h
  | cons e es ih =>
    cases k with
    | zero => simp [ecells, eF]
    | succ k =>
      rw [show (k + 1) * 2 = k * 2 + 2 by omega]
      have := ih k (by simpa using h)
      simp [ecells, this, eF]

structure RMap (rb np : Nat) (a : Option Addr) (cap : Nat) (es : List (Nat × Nat)) (w : World) : Prop where
  head : w.heap[rb]? = some (.cells #[.int .i64 np, .slice a es.length cap] 40 (0, 0))
  own : w.ownsRow (rb + 1) 58 2 (.slice a es.length cap) es.length (ecells es)
theorem RMap.form {rb np cap : Nat} {a : Option Addr} {es : List (Nat × Nat)} {w : World} (h : RMap rb np a cap es w) (h0 : 0 < es.length) : ∃ g, a = some ⟨g, 0, none⟩ ∧ rb < g ∧ g < w.heap.size := by
  obtain ⟨g, c, e, h1, h2⟩ := h.own.form h0
  simp at e
  exact ⟨g, e.1, by omega, h2⟩
theorem RMap.cell {rb np cap g : Nat} {es : List (Nat × Nat)} {w : World} (h : RMap rb np (some ⟨g, 0, none⟩) cap es w) {i : Nat} (hi : i < es.length) :
    w.cell? ⟨g, i * 2, none⟩ = some (.int .i64 (eP es i)) ∧ w.cell? ⟨g, i * 2 + 1, none⟩ = some (.int .i64 (eF es i)) := by
  have h1 := h.own.cellAt (i * 2) (by omega)
  have h2 := h.own.cellAt (i * 2 + 1) (by omega)
  obtain ⟨e1, e2⟩ := ecells_get es i hi
  exact ⟨h1.trans e1, h2.trans e2⟩
/-- where a page stands -/
def IsAt (es : List (Nat × Nat)) (p r : Int) : Prop :=
  (r = -1 ∧ ∀ i, i < es.length → (eP es i : Int) ≠ p) ∨ ∃ i : Nat, i < es.length ∧ r = i ∧ (eP es i : Int) = p ∧ ∀ j, j < i → (eP es j : Int) ≠ p
theorem may_any (n : Int) (w : World) : Calls Try.prog 12 #[.int .i64 n] w fun e w' => e = .returned (.bool (decide (1 ≤ n ∧ n ≤ 524288))) ∧ w = w' := by
  by_cases h : 1 ≤ n
  · by_cases h2 : n ≤ 524288
    · rw [decide_eq_true (⟨h, h2⟩ : 1 ≤ n ∧ n ≤ 524288)]
      go_enter Try.func12, Try.ntmps12
      go_wp2
      go_ret
      exact ⟨rfl, rfl⟩
    · rw [decide_eq_false (fun k => h2 k.2)]
      go_enter Try.func12, Try.ntmps12
      go_wp2
      go_ret
      exact ⟨rfl, rfl⟩
  · rw [decide_eq_false (fun k => h k.1)]
    go_enter Try.func12, Try.ntmps12
    go_wp2
    go_ret
    exact ⟨rfl, rfl⟩
def inB (np : Nat) (p : Int) : Bool := decide (0 ≤ p ∧ p < np)
theorem refIn_any (rb np cap : Nat) (a : Option Addr) (es : List (Nat × Nat)) (w : World) (hR : RMap rb np a cap es w) (p : Int) :
    Calls Try.prog 25 #[.pointer (some ⟨rb, 0, none⟩), .int .i64 p] w fun e w' => e = .returned (.bool (inB np p)) ∧ w = w' := by
  have c0 := at_cell hR.head 0 _ rfl
  clear hR
  unfold inB
  by_cases h : 0 ≤ p
  · by_cases h2 : p < np
    · rw [decide_eq_true (⟨h, h2⟩ : 0 ≤ p ∧ p < np)]
      go_enter Try.func25, Try.ntmps25
      go_wp2
      go_ret
      exact ⟨rfl, rfl⟩
    · rw [decide_eq_false (fun k => h2 k.2)]
      go_enter Try.func25, Try.ntmps25
      go_wp2
      go_ret
      exact ⟨rfl, rfl⟩
  · rw [decide_eq_false (fun k => h k.1)]
    go_enter Try.func25, Try.ntmps25
    go_wp2
    go_ret
    exact ⟨rfl, rfl⟩
set_option maxHeartbeats 1000000 in
theorem refAt_any (rb np cap : Nat) (a : Option Addr) (es : List (Nat × Nat)) (w : World) (hR : RMap rb np a cap es w) (hf : es.length ≤ 1000) (p r : Int) (hr : IsAt es p r) :
    Calls Try.prog 26 #[.pointer (some ⟨rb, 0, none⟩), .int .i64 p] w fun e w' => e = .returned (.int .i64 r) ∧ w = w' := by
  have HR := Lib.hid hR
  have Hr := Lib.hid hr
  have c1 := at_cell hR.head 1 _ rfl
  clear hR hr
  go_enter Try.func26, Try.ntmps26
  go_wp2
  go_loopw [5] (fun i wr => ∃ m : Nat, i = .int .i64 m ∧ m ≤ es.length ∧ (∀ j, j < m → (eP es j : Int) ≠ p) ∧ wr = w) (fun i _ => es.length - (intOf i).toNat)
  case atStart => exact ⟨0, rfl, by omega, by omega, rfl⟩
  case round =>
    obtain ⟨m, rfl, hm, hall, rfl⟩ := hrel
    have Hall := Lib.hid hall
    clear hall
    by_cases hlt : m < es.length
    · obtain ⟨g, rfl, -, -⟩ := HR.out.form (by omega)
      obtain ⟨cm, -⟩ := HR.out.cell hlt
      by_cases hp : (eP es m : Int) = p
      · have e : r = m := by
          rcases Hr.out with ⟨_, h⟩ | ⟨i, hi, rfl, h1, h2⟩
          · exact absurd hp (h m hlt)
          · have h3 : ¬ i < m := fun h => Hall.out i h h1
            have h4 : ¬ m < i := fun h => h2 m h hp
            omega
        subst e
        rw [hp] at cm
        clear hp
        go_wp2
        go_ret
        exact ⟨rfl, rfl⟩
      · obtain ⟨x, hx⟩ : ∃ x : Int, (eP es m : Int) = x := ⟨_, rfl⟩
        rw [hx] at cm hp
        have Hx := Lib.hid hx
        clear hx
        go_wp2
        go_roundw
        case rel => exact ⟨m + 1, by go_num, by omega, fun j hj => by
          by_cases e : j = m
          · rw [e, Hx.out]; exact hp
          · exact Hall.out j (by omega), trivial⟩
        case measure => simp [intOf]; omega
    · obtain rfl : es.length = m := by omega
      have e : r = -1 := by
        rcases Hr.out with ⟨h, _⟩ | ⟨i, hi, rfl, h1, h2⟩
        · exact h
        · exact absurd h1 (Hall.out i hi)
      subst e
      go_wp2
      go_ret
      exact ⟨rfl, rfl⟩
end Go.Proofs.Ytkonpieebemfbaa
