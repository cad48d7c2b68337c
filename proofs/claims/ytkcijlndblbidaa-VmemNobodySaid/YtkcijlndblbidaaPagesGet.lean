/- The walk of Map.get. -/
import Derived.Test.YtkcijlndblbidaaPagesMem
namespace Go.Proofs.Ytkcijlndblbidaa.Pg
open Go.ChangeShapes Go.WideShapes Go.ChangeAt Go.RowKit

theorem tcells_get (F : Nat → Nat) (i j : Nat) (h : j < 256) : (tcells F i)[j]? = some (.int .u32 (F (i * 256 + j))) := by
  unfold tcells
  rw [Array.getElem?_push]
  simp [h]
  omega
theorem ts_cell {b tb np : Nat} {ts : List (Option Nat)} {F : Nat → Nat} {w : World} (h : PMap b tb np ts F w) {i : Nat} (hi : i < ts.length) : w.cell? ⟨tb, i, none⟩ = some (ptr (ts.getD i none)) :=
  at_cell h.row i _ (by simp [hi])
set_option maxHeartbeats 1000000 in
theorem get_any (b tb np : Nat) (ts : List (Option Nat)) (F : Nat → Nat) (w : World) (hM : PMap b tb np ts F w) (i j : Nat) (hi : i < ts.length) (hj : j < 256) :
    Calls Try.prog 146 #[.pointer (some ⟨b, 0, none⟩), .int .i64 ((i * 256 + j : Nat) : Int)] w fun e w' => e = .returned (.int .u32 (F (i * 256 + j))) ∧ w = w' := by
  have c0 := at_cell hM.head 0 _ rfl
  have ci := ts_cell hM hi
  have hm := hM.many.1
  have hq : ((i * 256 + j : Nat) : Int) / 256 = i := by omega
  have hr : ((i * 256 + j : Nat) : Int) % 256 = j := by omega
  have hp0 : (0 : Int) ≤ ((i * 256 + j : Nat) : Int) := by omega
  have hp1 : ((i * 256 + j : Nat) : Int) ≤ 1000000 := by omega
  cases ht : ts.getD i none with
  | none =>
    have hz := hM.none i hi ht j hj
    rw [hz]
    rw [ht] at ci
    unfold ptr at ci
    simp only [Option.map_none] at ci
    clear hM hz ht
    generalize ((i * 256 + j : Nat) : Int) = p at *
    go_enter Try.func146, Try.ntmps146
    go_wp2
    go_ret
    exact ⟨rfl, rfl⟩
  | some k =>
    have cj := at_cell (hM.some i k hi ht).1 j _ (tcells_get F i j hj)
    rw [ht] at ci
    unfold ptr at ci
    simp only [Option.map_some] at ci
    clear hM ht
    generalize F (i * 256 + j) = x at *
    generalize ((i * 256 + j : Nat) : Int) = p at *
    go_enter Try.func146, Try.ntmps146
    go_wp2
    go_ret
    exact ⟨rfl, rfl⟩
end Go.Proofs.Ytkcijlndblbidaa.Pg
