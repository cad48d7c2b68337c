/- The walk of TrapNobody. -/
import Derived.Test.YtkcijlndblbidaaTLives
namespace Go.Proofs.Ytkcijlndblbidaa
open Go.ChangeShapes Go.WideShapes Go.ChangeAt Go.RowKit
set_option linter.unusedVariables false

set_option maxRecDepth 100000 in
theorem part_nil (f : Value) (w : World) : Calls Try.prog 61 #[.pointer none, f] w fun e w' => e = .returned (.agg #[.int .i64 9, .int .i64 0]) ∧ Below w.heap.size w w' := by
  go_enter Try.func61, Try.ntmps61
  go_wp2
  refine bodyPost_ret (v := .agg #[.int .i64 9, .int .i64 0]) (by simp [results, Try.results61, go_sem]) rfl ⟨rfl, ?_⟩
  exact below_new _ _
theorem store_none (a x : Value) (w : World) : Calls Try.prog 63 #[.pointer none, a, x] w fun e w' => e = .returned (.tuple #[]) ∧ w = w' := by
  go_enter Try.func63, Try.ntmps63
  go_wp2
  first | go_end0 | refine bodyPost_ret (results_none rfl _ _ _) rfl ?_
  exact ⟨rfl, rfl⟩
theorem throw_none (x : Value) (w : World) : Calls Try.prog 64 #[.pointer none, x] w fun e w' => e = .returned (.tuple #[]) ∧ w = w' := by
  go_enter Try.func64, Try.ntmps64
  go_wp2
  first | go_end0 | refine bodyPost_ret (results_none rfl _ _ _) rfl ?_
  exact ⟨rfl, rfl⟩
theorem fail_none (a x : Value) (w : World) : Calls Try.prog 59 #[.pointer none, a, x] w fun e w' => e = .returned (.tuple #[]) ∧ w = w' := by
  go_enter Try.func59, Try.ntmps59
  go_wp2
  first | go_end0 | refine bodyPost_ret (results_none rfl _ _ _) rfl ?_
  exact ⟨rfl, rfl⟩
theorem load_none (a : Value) (w : World) : Calls Try.prog 65 #[.pointer none, a] w fun e w' => e = .returned (.int .u64 0) ∧ w = w' := by
  go_enter Try.func65, Try.ntmps65
  go_wp2
  go_ret
  exact ⟨rfl, rfl⟩
theorem stores_none (w : World) : Calls Try.prog 58 #[.pointer none] w fun e w' => e = .returned (.int .i64 0) ∧ w = w' := by
  go_enter Try.func58, Try.ntmps58
  go_wp2
  go_ret
  exact ⟨rfl, rfl⟩
set_option maxRecDepth 100000 in
theorem trapNobody_walk (a x : Int) (w : World) : Calls Try.prog 10 #[.int .i64 a, .int .u64 x] w fun e w' => e = .returned (.bool true) ∧ Below w.heap.size w w' := by
  have hmf : ∀ (fn : Fn) (first cap : Array Value) (w : World), (Instr.makeFunc fn first cap).run Try.prog w = .ok (.func fn first cap) w := fun _ _ _ _ => rfl
  go_enter Try.func10, Try.ntmps10
  go_wp2_with (first | (go_at_call 61; refine (part_nil _ _).mono ?_; rintro e w1 ⟨rfl, hb⟩; have hsz : w.heap.size ≤ w1.heap.size := Nat.le_trans (Nat.le_succ _) (by have := hb.size; simpa using this); have hb1 := blockB hb (by simp) (heap_alloc_new w (.cells #[.bool false] 4)); have hb2 := blockB (below_new w1 (.cells #[.int .i64 9, .int .i64 0] 83)) (Nat.le_refl _) hb1; have c6 := at_cell hb2 0 _ rfl; have HB := Lib.hid (((below_new w (.cells #[.bool false] 4)).trans (hb.mono (by simp))).trans ((below_new w1 (.cells #[.int .i64 9, .int .i64 0] 83)).mono hsz)); clear hsz; clear hb hb1 hb2) | (go_at_call 63; refine (store_none _ _ _).mono ?_; rintro e w2 ⟨rfl, rfl⟩) | (go_at_call 64; refine (throw_none _ _).mono ?_; rintro e w2 ⟨rfl, rfl⟩) | (go_at_call 59; refine (fail_none _ _ _).mono ?_; rintro e w2 ⟨rfl, rfl⟩) | (go_at_call 65; refine (load_none _ _).mono ?_; rintro e w2 ⟨rfl, rfl⟩) | (go_at_call 58; refine (stores_none _).mono ?_; rintro e w2 ⟨rfl, rfl⟩) | (go_at_call 47; refine (lives_yes _).mono ?_; rintro e w3 ⟨rfl, h3⟩))
  go_ret
  exact ⟨rfl, seq HB.out h3⟩
end Go.Proofs.Ytkcijlndblbidaa
