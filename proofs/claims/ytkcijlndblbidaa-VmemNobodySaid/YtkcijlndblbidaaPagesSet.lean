/- The walk of Map.set (under way). -/
import Derived.Test.YtkcijlndblbidaaPagesCnt
namespace Go.Proofs.Ytkcijlndblbidaa.Pg
open Go.ChangeShapes Go.WideShapes Go.ChangeAt Go.RowKit

theorem cnt_le (F : Nat → Nat) (i m : Nat) : cntF F i m ≤ m := by
  induction m with
  | zero => exact Nat.le_refl _
  | succ m ih => simp only [cntF]; split <;> omega
theorem sum_le (F : Nat → Nat) (m : Nat) : sumF F m ≤ 256 * m := by
  induction m with
  | zero => exact Nat.le_refl _
  | succ m ih => have := cnt_le F m 256; simp only [sumF]; omega
theorem tcells_cnt (F : Nat → Nat) (i : Nat) : (tcells F i)[256]? = some (.int .i64 (cntF F i 256)) := by
  unfold tcells
  rw [Array.getElem?_push]
  simp
set_option maxHeartbeats 1000000 in
theorem set_there (b tb np : Nat) (ts : List (Option Nat)) (F : Nat → Nat) (w : World) (hM : PMap b tb np ts F w) (i j k x : Nat) (hi : i < ts.length) (hj : j < 256) (hk : ts.getD i none = some k) (hx : x ≠ 0) (hx2 : x < 4294967296) (h0 : F (i * 256 + j) = 0) :
    Calls Try.prog 149 #[.pointer (some ⟨b, 0, none⟩), .int .i64 ((i * 256 + j : Nat) : Int), .int .u32 x] w fun e w' => e = .returned (.tuple #[]) ∧ w' = ((w.setCell ⟨k, j, none⟩ (.int .u32 x)).setCell ⟨k, 256, none⟩ (.int .i64 (cntF F i 256 + 1))).setCell ⟨b, 2, none⟩ (.int .i64 (sumF F ts.length + 1)) := by
  have c0 := at_cell hM.head 0 _ rfl
  have c2 := at_cell hM.head 2 _ rfl
  have f2 := at_free hM.head 2
  have ci := ts_cell hM hi
  have hm := hM.many.1
  have hq : ((i * 256 + j : Nat) : Int) / 256 = i := by omega
  have hr : ((i * 256 + j : Nat) : Int) % 256 = j := by omega
  have hp0 : (0 : Int) ≤ ((i * 256 + j : Nat) : Int) := by omega
  have hp1 : ((i * 256 + j : Nat) : Int) ≤ 1000000 := by omega
  have hT := (hM.some i k hi hk).1
  have cj := at_cell hT j _ (tcells_get F i j hj)
  have cn := at_cell hT 256 _ (tcells_cnt F i)
  have fj := at_free hT j
  have fn := at_free hT 256
  have hkb : k ≠ b := by
    intro e
    have h1 := hM.head
    rw [← e, hT] at h1
    simp at h1
  have hx3 : ¬ (x : Int) = 0 := by omega
  have hcb : cntF F i 256 ≤ 1000000 := by have := cnt_le F i 256; omega
  have hsb : sumF F ts.length ≤ 1000000000 := by have := sum_le F ts.length; omega
  rw [hk] at ci
  unfold ptr at ci
  simp only [Option.map_some] at ci
  clear hM hk hT
  generalize F (i * 256 + j) = y at *
  generalize ((i * 256 + j : Nat) : Int) = p at *
  generalize cntF F i 256 = cn0 at *
  generalize sumF F ts.length = sm0 at *
  go_enter Try.func149, Try.ntmps149
  go_wp2
  go_end0
  exact ⟨rfl, rfl⟩
end Go.Proofs.Ytkcijlndblbidaa.Pg
