/- The walk of Map.set where a page gets a frame and its table is made. -/
import Derived.Test.YtkcijlndblbidaaPagesLast
import Derived.Laws.Tables
import Derived.Laws.NewBlocks
namespace Go.Proofs.Ytkcijlndblbidaa.Pg
open Go.ChangeShapes Go.WideShapes Go.ChangeAt Go.RowKit
set_option linter.unusedVariables false

def tzero : Array Value := tcells (fun _ => 0) 0
theorem zero_table (w : World) : (zeroValue 231).run Try.prog w = .ok (.agg tzero) w := by kernel_rfl
theorem cnt_zeros (i m : Nat) : cntF (fun _ => 0) i m = 0 := by
  induction m with
  | zero => rfl
  | succ m ih => simp [cntF, ih]
theorem tzero_get (j : Nat) (h : j < 256) : tzero[j]? = some (.int .u32 0) := tcells_get _ _ j h
theorem tzero_size : tzero.size = 257 := by simp [tzero, tcells]
theorem tzero_cnt : tzero[256]? = some (.int .i64 0) := by have := tcells_cnt (fun _ => 0) 0; rw [cnt_zeros] at this; exact this

set_option maxRecDepth 100000 in
set_option maxHeartbeats 1000000 in
theorem set_new (b tb np : Nat) (ts : List (Option Nat)) (F : Nat → Nat) (w : World) (hM : PMap b tb np ts F w) (i j x : Nat) (hi : i < ts.length) (hj : j < 256) (hk : ts.getD i none = none) (hx : x ≠ 0) (hx2 : x < 4294967296) :
    Calls Try.prog 149 #[.pointer (some ⟨b, 0, none⟩), .int .i64 ((i * 256 + j : Nat) : Int), .int .u32 x] w fun e w' => e = .returned (.tuple #[]) ∧ w' = ((w.setCell ⟨tb, i, none⟩ (.pointer (some ⟨w.heap.size, 0, none⟩))).setCell ⟨b, 2, none⟩ (.int .i64 (sumF F ts.length + 1))).alloc (.cells ((tzero.setIfInBounds j (.int .u32 x)).setIfInBounds 256 (.int .i64 1)) 231) := by
  have c0 := at_cell hM.head 0 _ rfl
  have c2 := at_cell hM.head 2 _ rfl
  have f2 := at_free hM.head 2
  have ci := ts_cell hM hi
  have fi := at_free hM.row i
  have hm := hM.many.1
  have hq : ((i * 256 + j : Nat) : Int) / 256 = i := by omega
  have hr : ((i * 256 + j : Nat) : Int) % 256 = j := by omega
  have hp0 : (0 : Int) ≤ ((i * 256 + j : Nat) : Int) := by omega
  have hp1 : ((i * 256 + j : Nat) : Int) ≤ 1000000 := by omega
  have hbt : tb ≠ b := by
    intro e
    have h1 := hM.row
    rw [e, hM.head] at h1
    simp at h1
  have hT := heap_alloc_new w (.cells tzero 231)
  have cj := at_cell hT j _ (tzero_get j hj)
  have cn := at_cell hT 256 _ tzero_cnt
  have fj := at_free hT j
  have fn := at_free hT 256
  have hB := below_new w (.cells tzero 231)
  have ltb := block_lt hM.row
  have lb := block_lt hM.head
  have hkb : w.heap.size ≠ b := by omega
  have hkt : w.heap.size ≠ tb := by omega
  have hkt' : tb ≠ w.heap.size := by omega
  have d0 := cellB hB (Nat.le_refl _) c0
  have d2 := cellB hB (Nat.le_refl _) c2
  have e2 := (hB.frozen (p := ⟨b, 2, none⟩) lb).trans f2
  have di := cellB hB (Nat.le_refl _) ci
  have ei := (hB.frozen (p := ⟨tb, i, none⟩) ltb).trans fi
  have hx3 : ¬ (x : Int) = 0 := by omega
  have hsb : sumF F ts.length ≤ 1000000000 := by have := sum_le F ts.length; omega
  rw [hk] at ci di
  unfold ptr at ci di
  simp only [Option.map_none] at ci di
  have hbld := zero_table
  have hz := tzero_get j hj
  have hz1 : (tzero.setIfInBounds j (.int .u32 x))[256]? = some (.int .i64 0) := by
    rw [Array.getElem?_setIfInBounds, if_neg (by omega)]; exact tzero_cnt
  have hz2 : ((tzero.setIfInBounds j (.int .u32 x)).setIfInBounds 256 (.int .i64 1))[256]? = some (.int .i64 1) := by
    rw [Array.getElem?_setIfInBounds, if_pos rfl, if_pos (by simp [tzero_size])]
  clear hM hk hT hB
  generalize ((i * 256 + j : Nat) : Int) = p at *
  generalize sumF F ts.length = sm0 at *
  go_enter Try.func149, Try.ntmps149
  go_wp2
  go_end0
  exact ⟨rfl, rfl⟩
end Go.Proofs.Ytkcijlndblbidaa.Pg
