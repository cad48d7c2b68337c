/- A map after set has taken a page's frame away: the table stays. -/
import Derived.Test.YtkcijlndblbidaaPagesSet3
namespace Go.Proofs.Ytkcijlndblbidaa.Pg
open Go.ChangeShapes Go.WideShapes Go.ChangeAt Go.RowKit

theorem PMap.clear_there {b tb np : Nat} {ts : List (Option Nat)} {F : Nat → Nat} {w : World} (hM : PMap b tb np ts F w) {i j k : Nat} (hi : i < ts.length) (hj : j < 256) (hk : ts.getD i Option.none = Option.some k) (h0 : F (i * 256 + j) ≠ 0) (hc1 : 1 < cntF F i 256) :
    PMap b tb np ts (turn F (i * 256 + j) 0) (((w.setCell ⟨k, j, Option.none⟩ (.int .u32 0)).setCell ⟨k, 256, Option.none⟩ (.int .i64 ((cntF F i 256 : Int) - 1))).setCell ⟨b, 2, Option.none⟩ (.int .i64 ((sumF F ts.length : Int) - 1))) := by
  have hT := (hM.some i k hi hk).1
  have hkb : k ≠ b := by
    intro e
    have h1 := hM.head
    rw [← e, hT] at h1
    simp at h1
  have hkt : tb ≠ k := by
    intro e
    have h1 := hM.row
    rw [e, hT] at h1
    simp at h1
  have hbt : tb ≠ b := by
    intro e
    have h1 := hM.row
    rw [e, hM.head] at h1
    simp at h1
  have hs := sum_clear (F := F) (m := ts.length) hi hj h0
  have hc := cnt_clear (F := F) (m := 256) hj h0
  have hb1 : ((w.setCell ⟨k, j, Option.none⟩ (.int .u32 0)).setCell ⟨k, 256, Option.none⟩ (.int .i64 ((cntF F i 256 : Int) - 1))).heap[b]? = Option.some (.cells #[.slice (Option.some ⟨tb, 0, Option.none⟩) ts.length ts.length, .int .i64 np, .int .i64 (sumF F ts.length)] 209 (0, 0)) := by
    rw [Below.heap_setCell _ ⟨k, 256, Option.none⟩ _ b (fun e => hkb e.symm), Below.heap_setCell _ ⟨k, j, Option.none⟩ _ b (fun e => hkb e.symm)]
    exact hM.head
  refine ⟨?_, ?_, hM.many, ?_, ?_, hM.apart, ?_⟩
  · rw [heap_setCell_same _ b 2 _ _ _ hb1, show ((sumF F ts.length : Int) - 1) = (sumF (turn F (i * 256 + j) 0) ts.length : Nat) by omega]
    simp
  · rw [Below.heap_setCell _ ⟨b, 2, Option.none⟩ _ tb hbt, Below.heap_setCell _ ⟨k, 256, Option.none⟩ _ tb hkt, Below.heap_setCell _ ⟨k, j, Option.none⟩ _ tb hkt]
    exact hM.row
  · intro i' hi' hn q hq
    have hne : i' ≠ i := by
      intro e
      rw [e, hk] at hn
      simp at hn
    have : turn F (i * 256 + j) 0 (i' * 256 + q) = F (i' * 256 + q) := if_neg (by omega)
    rw [this]
    exact hM.none i' hi' hn q hq
  · intro i' k' hi' hk'
    by_cases e : i' = i
    · subst e
      obtain rfl : k = k' := by rw [hk] at hk'; simpa using hk'
      refine ⟨?_, by omega⟩
      rw [Below.heap_setCell _ ⟨b, 2, Option.none⟩ _ k hkb]
      rw [heap_setCell_same _ k 256 _ _ _ (heap_setCell_same _ k j _ _ _ hT)]
      rw [show ((cntF F i' 256 : Int) - 1) = (cntF (turn F (i' * 256 + j) 0) i' 256 : Nat) by omega]
      have ht := tcells_turn (F := F) (i := i') (x := 0) hj _ rfl
      rw [← ht]
      rfl
    · have hne : k' ≠ k := fun e2 => e (hM.apart i' i k hi' hi (by rw [← e2]; exact hk') hk)
      have hT' := hM.some i' k' hi' hk'
      have hk'b : k' ≠ b := by
        intro e
        have h1 := hM.head
        rw [← e, hT'.1] at h1
        simp at h1
      rw [tcells_other hj e, cnt_other hj e, Below.heap_setCell _ ⟨b, 2, Option.none⟩ _ k' hk'b, Below.heap_setCell _ ⟨k, 256, Option.none⟩ _ k' hne, Below.heap_setCell _ ⟨k, j, Option.none⟩ _ k' hne]
      exact hT'
  · intro p
    unfold turn
    split
    · omega
    · exact hM.small p
end Go.Proofs.Ytkcijlndblbidaa.Pg
