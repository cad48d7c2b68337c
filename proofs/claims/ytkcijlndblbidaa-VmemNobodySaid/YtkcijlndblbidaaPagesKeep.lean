/- What set leaves is a map again: at a table that is there. -/
import Derived.Test.YtkcijlndblbidaaPagesSet
namespace Go.Proofs.Ytkcijlndblbidaa.Pg
open Go.ChangeShapes Go.WideShapes Go.ChangeAt Go.RowKit

theorem tcells_turn {F : Nat → Nat} {i j x : Nat} (hj : j < 256) (n : Nat) (hn : cntF (turn F (i * 256 + j) x) i 256 = n) :
    ((tcells F i).setIfInBounds j (.int .u32 x)).setIfInBounds 256 (.int .i64 n) = tcells (turn F (i * 256 + j) x) i := by
  apply Array.ext_getElem?
  intro q
  rw [Array.getElem?_setIfInBounds, Array.getElem?_setIfInBounds]
  have hsz : (tcells F i).size = 257 := by simp [tcells]
  have hsz2 : (tcells (turn F (i * 256 + j) x) i).size = 257 := by simp [tcells]
  by_cases h : 256 = q
  · subst h
    rw [if_pos rfl, tcells_cnt, hn]
    simp [hsz]
  · rw [if_neg h]
    by_cases h2 : j = q
    · subst h2
      rw [if_pos rfl, tcells_get _ _ _ hj]
      have : turn F (i * 256 + j) x (i * 256 + j) = x := if_pos rfl
      rw [this]
      simp [hsz]; omega
    · rw [if_neg h2]
      by_cases hq : q < 256
      · rw [tcells_get _ _ _ hq, tcells_get _ _ _ hq]
        have : turn F (i * 256 + j) x (i * 256 + q) = F (i * 256 + q) := if_neg (by omega)
        rw [this]
      · rw [Array.getElem?_eq_none (by omega), Array.getElem?_eq_none (by omega)]
theorem tcells_other {F : Nat → Nat} {i i' j x : Nat} (hj : j < 256) (h : i' ≠ i) : tcells (turn F (i * 256 + j) x) i' = tcells F i' := by
  unfold tcells
  rw [cnt_other hj h]
  congr 2
  apply List.map_congr_left
  intro q hq
  have : turn F (i * 256 + j) x (i' * 256 + q) = F (i' * 256 + q) := if_neg (by simp at hq; omega)
  rw [this]
end Go.Proofs.Ytkcijlndblbidaa.Pg
