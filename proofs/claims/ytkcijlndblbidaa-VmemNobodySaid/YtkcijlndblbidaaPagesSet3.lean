/- The walk of Map.set where a page's frame is taken away and its table goes. -/
import Derived.Test.YtkcijlndblbidaaPagesSet2
namespace Go.Proofs.Ytkcijlndblbidaa.Pg
open Go.ChangeShapes Go.WideShapes Go.ChangeAt Go.RowKit
set_option linter.unusedVariables false

set_option maxHeartbeats 1000000 in
theorem set_last (b tb np : Nat) (ts : List (Option Nat)) (F : Nat → Nat) (w : World) (hM : PMap b tb np ts F w) (i j k : Nat) (hi : i < ts.length) (hj : j < 256) (hk : ts.getD i none = some k) (h0 : F (i * 256 + j) ≠ 0) (hc : cntF F i 256 = 1) :
    Calls Try.prog 149 #[.pointer (some ⟨b, 0, none⟩), .int .i64 ((i * 256 + j : Nat) : Int), .int .u32 0] w fun e w' => e = .returned (.tuple #[]) ∧ w' = (((w.setCell ⟨k, j, none⟩ (.int .u32 0)).setCell ⟨k, 256, none⟩ (.int .i64 ((cntF F i 256 : Int) - 1))).setCell ⟨b, 2, none⟩ (.int .i64 ((sumF F ts.length : Int) - 1))).setCell ⟨tb, i, none⟩ (.pointer none) := by
  have c0 := at_cell hM.head 0 _ rfl
  have c2 := at_cell hM.head 2 _ rfl
  have f2 := at_free hM.head 2
  have ci := ts_cell hM hi
  have fi := at_free hM.row i
  have hkt : tb ≠ k := by
    intro e
    have h1 := hM.row
    rw [e, (hM.some i k hi hk).1] at h1
    simp at h1
  have hbt : tb ≠ b := by
    intro e
    have h1 := hM.row
    rw [e, hM.head] at h1
    simp at h1
  have hm := hM.many.1
  have hq : ((i * 256 + j : Nat) : Int) / 256 = i := by omega
  have hr : ((i * 256 + j : Nat) : Int) % 256 = j := by omega
  have hp0 : (0 : Int) ≤ ((i * 256 + j : Nat) : Int) := by omega
  have hp1 : ((i * 256 + j : Nat) : Int) ≤ 1000000 := by omega
  have hT := (hM.some i k hi hk).1
  have cj := at_cell hT j _ (tcells_get F i j hj)
  have cn := at_cell hT 256 _ (tcells_cnt F i)
  have fj := at_free hT j
  have fn := at_free hT 256
  have hkb : k ≠ b := by
    intro e
    have h1 := hM.head
    rw [← e, hT] at h1
    simp at h1
  have hcb : cntF F i 256 ≤ 1000000 := by have := cnt_le F i 256; omega
  have hsb : sumF F ts.length ≤ 1000000000 := by have := sum_le F ts.length; omega
  rw [hk] at ci
  unfold ptr at ci
  simp only [Option.map_some] at ci
  clear hM hk hT
  clear h0
  generalize F (i * 256 + j) = y at *
  generalize ((i * 256 + j : Nat) : Int) = p at *
  rw [hc] at *
  generalize sumF F ts.length = sm0 at *
  go_enter Try.func149, Try.ntmps149
  go_wp2
  go_end0
  exact ⟨rfl, rfl⟩
end Go.Proofs.Ytkcijlndblbidaa.Pg
