/- A map after set has taken the last frame of a table away: the table goes. -/
import Derived.Test.YtkcijlndblbidaaPagesClear
namespace Go.Proofs.Ytkcijlndblbidaa.Pg
open Go.ChangeShapes Go.WideShapes Go.ChangeAt Go.RowKit

theorem cnt_zero {F : Nat → Nat} {i m : Nat} (h : cntF F i m = 0) : ∀ j, j < m → F (i * 256 + j) = 0 := by
  induction m with
  | zero => intro j hj; omega
  | succ m ih =>
    intro j hj
    simp only [cntF] at h
    by_cases e : j = m
    · subst e
      by_cases h0 : F (i * 256 + j) = 0
      · exact h0
      · rw [if_neg h0] at h; omega
    · exact ih (by omega) j (by omega)
theorem getD_set {ts : List (Option Nat)} {i i' : Nat} {o : Option Nat} (hi : i < ts.length) : (ts.set i o).getD i' Option.none = if i' = i then o else ts.getD i' Option.none := by
  rw [List.getD_eq_getElem?_getD, List.getElem?_set]
  by_cases h : i' = i
  · subst h
    simp [hi]
  · rw [if_neg (fun e => h e.symm), if_neg h, List.getD_eq_getElem?_getD]
theorem PMap.clear_last {b tb np : Nat} {ts : List (Option Nat)} {F : Nat → Nat} {w : World} (hM : PMap b tb np ts F w) {i j k : Nat} (hi : i < ts.length) (hj : j < 256) (hk : ts.getD i Option.none = Option.some k) (h0 : F (i * 256 + j) ≠ 0) (hc1 : cntF F i 256 = 1) (v1 v2 : Value) :
    PMap b tb np (ts.set i Option.none) (turn F (i * 256 + j) 0) ((((w.setCell ⟨k, j, Option.none⟩ v1).setCell ⟨k, 256, Option.none⟩ v2).setCell ⟨b, 2, Option.none⟩ (.int .i64 ((sumF F ts.length : Int) - 1))).setCell ⟨tb, i, Option.none⟩ (.pointer Option.none)) := by
  have hT := (hM.some i k hi hk).1
  have hkb : k ≠ b := by
    intro e
    have h1 := hM.head
    rw [← e, hT] at h1
    simp at h1
  have hkt : tb ≠ k := by
    intro e
    have h1 := hM.row
    rw [e, hT] at h1
    simp at h1
  have hbt : tb ≠ b := by
    intro e
    have h1 := hM.row
    rw [e, hM.head] at h1
    simp at h1
  have hs := sum_clear (F := F) (m := ts.length) hi hj h0
  have hc := cnt_clear (F := F) (m := 256) hj h0
  have hz := cnt_zero (F := turn F (i * 256 + j) 0) (i := i) (m := 256) (by omega)
  have hb1 : ((w.setCell ⟨k, j, Option.none⟩ v1).setCell ⟨k, 256, Option.none⟩ v2).heap[b]? = Option.some (.cells #[.slice (Option.some ⟨tb, 0, Option.none⟩) ts.length ts.length, .int .i64 np, .int .i64 (sumF F ts.length)] 209 (0, 0)) := by
    rw [Below.heap_setCell _ ⟨k, 256, Option.none⟩ _ b (fun e => hkb e.symm), Below.heap_setCell _ ⟨k, j, Option.none⟩ _ b (fun e => hkb e.symm)]
    exact hM.head
  have hr1 : (((w.setCell ⟨k, j, Option.none⟩ v1).setCell ⟨k, 256, Option.none⟩ v2).setCell ⟨b, 2, Option.none⟩ (.int .i64 ((sumF F ts.length : Int) - 1))).heap[tb]? = Option.some (.cells (ts.map ptr).toArray 228 (0, 0)) := by
    rw [Below.heap_setCell _ ⟨b, 2, Option.none⟩ _ tb hbt, Below.heap_setCell _ ⟨k, 256, Option.none⟩ _ tb hkt, Below.heap_setCell _ ⟨k, j, Option.none⟩ _ tb hkt]
    exact hM.row
  refine ⟨?_, ?_, by rw [List.length_set]; exact hM.many, ?_, ?_, ?_, ?_⟩
  · rw [Below.heap_setCell _ ⟨tb, i, Option.none⟩ _ b (fun e => hbt e.symm), heap_setCell_same _ b 2 _ _ _ hb1, List.length_set, show ((sumF F ts.length : Int) - 1) = (sumF (turn F (i * 256 + j) 0) ts.length : Nat) by omega]
    simp
  · rw [heap_setCell_same _ tb i _ _ _ hr1]
    simp [List.map_set, ptr]
  · intro i' hi' hn q hq
    by_cases e : i' = i
    · subst e
      exact hz q hq
    · rw [getD_set hi, if_neg e] at hn
      rw [List.length_set] at hi'
      have : turn F (i * 256 + j) 0 (i' * 256 + q) = F (i' * 256 + q) := if_neg (by omega)
      rw [this]
      exact hM.none i' hi' hn q hq
  · intro i' k' hi' hk'
    rw [List.length_set] at hi'
    rw [getD_set hi] at hk'
    by_cases e : i' = i
    · rw [if_pos e] at hk'; cases hk'
    · rw [if_neg e] at hk'
      have hne : k' ≠ k := fun e2 => e (hM.apart i' i k hi' hi (by rw [← e2]; exact hk') hk)
      have hT' := hM.some i' k' hi' hk'
      have hk'b : k' ≠ b := by
        intro e
        have h1 := hM.head
        rw [← e, hT'.1] at h1
        simp at h1
      have hk't : k' ≠ tb := by
        intro e
        have h1 := hM.row
        rw [← e, hT'.1] at h1
        simp at h1
      rw [tcells_other hj e, cnt_other hj e, Below.heap_setCell _ ⟨tb, i, Option.none⟩ _ k' hk't, Below.heap_setCell _ ⟨b, 2, Option.none⟩ _ k' hk'b, Below.heap_setCell _ ⟨k, 256, Option.none⟩ _ k' hne, Below.heap_setCell _ ⟨k, j, Option.none⟩ _ k' hne]
      exact hT'
  · intro p q r hp hq h1 h2
    rw [List.length_set] at hp hq
    rw [getD_set hi] at h1 h2
    by_cases e1 : p = i
    · rw [if_pos e1] at h1; cases h1
    · by_cases e2 : q = i
      · rw [if_pos e2] at h2; cases h2
      · rw [if_neg e1] at h1
        rw [if_neg e2] at h2
        exact hM.apart p q r hp hq h1 h2
  · intro p
    unfold turn
    split
    · omega
    · exact hM.small p
end Go.Proofs.Ytkcijlndblbidaa.Pg
