/- The three values of TrapOthers: each is equal to itself, none is a fault that was thrown. -/
import Derived.Test.YtkcijlndblbidaaTGuard
import Derived.Laws.StructEq
namespace Go.Proofs.Ytkcijlndblbidaa
open Go.ChangeShapes Go.WideShapes Go.ChangeAt Go.RowKit
set_option linter.unusedVariables false
set_option linter.unusedSimpArgs false
def XV (x : Int) (i : Nat) : Value := if i = 0 then .iface 3 (.int .i64 x) else if i = 1 then .iface 83 (.agg #[.int .i64 11, .int .i64 x]) else .iface 9 (.string { data := #[97, 32, 116, 101, 120, 116] })
theorem neq_any {T : TypeId} {v : Value} (hc : (Try.prog.info? T).map (·.comparable) = some true) (h : ∀ w, (Op.equalIn 9999 T v v).run Try.prog w = .ok true w) (w : World) : (binOp .neq 20 (.iface T v) (.iface T v)).run Try.prog w = .ok (.bool false) w := by
  cases hi : Try.prog.info? T with
  | none => simp [hi] at hc
  | some i =>
    have hcc : i.comparable = true := by simpa [hi] using hc
    have h2 : (Op.equalIn 10000 20 (.iface T v) (.iface T v)).run Try.prog w = .ok true w := by
      rw [show (10000 : Nat) = 9999 + 1 from rfl, Op.equalIn]
      simp [run_underlying Try.underlying20, typeInfo, hi, hcc, h w]
    simp only [binOp]
    simp [Op.equal, Op.maxDepth, h2]
theorem neq_int (x : Int) (w : World) : (binOp .neq 20 (.iface 3 (.int .i64 x)) (.iface 3 (.int .i64 x))).run Try.prog w = .ok (.bool false) w :=
  neq_any (by kernel_rfl) (fun w => by rw [show (9999 : Nat) = 9998 + 1 from rfl, run_equalIn_int w 9998 3 .i64 .i64 x x Try.underlying3]; simp) w
theorem neq_str (w : World) : (binOp .neq 20 (.iface 9 (.string { data := #[97, 32, 116, 101, 120, 116] })) (.iface 9 (.string { data := #[97, 32, 116, 101, 120, 116] }))).run Try.prog w = .ok (.bool false) w :=
  neq_any (by kernel_rfl) (fun w => by rw [show (9999 : Nat) = 9998 + 1 from rfl, run_equalIn_string w 9998 9 _ _ Try.underlying9]; simp) w
theorem neq_fault (x : Int) (w : World) : (binOp .neq 20 (.iface 83 (.agg #[.int .i64 11, .int .i64 x])) (.iface 83 (.agg #[.int .i64 11, .int .i64 x]))).run Try.prog w = .ok (.bool false) w :=
  neq_any (by kernel_rfl) (fun w => by
    rw [show (9999 : Nat) = 9998 + 1 from rfl, run_equalIn_agg w 9998 83 _ _ (by kernel_rfl) (by kernel_rfl)]
    simp only [Program.fieldsOf, Try.underlying83]
    go_simp) w
theorem ta_int (v : Value) (w : World) : (Instr.typeAssert (.iface 3 v) 20 188 true).run Try.prog w = .ok (.tuple #[.agg #[.int .i64 0, .int .i64 0], .bool false]) w := by kernel_rfl
theorem ta_str (v : Value) (w : World) : (Instr.typeAssert (.iface 9 v) 20 188 true).run Try.prog w = .ok (.tuple #[.agg #[.int .i64 0, .int .i64 0], .bool false]) w := by kernel_rfl
theorem ta_fault (v : Value) (w : World) : (Instr.typeAssert (.iface 83 v) 20 188 true).run Try.prog w = .ok (.tuple #[.agg #[.int .i64 0, .int .i64 0], .bool false]) w := by kernel_rfl
theorem XV_facts (x : Int) (i : Nat) : ∃ T v, XV x i = .iface T v ∧ (∀ w, (Instr.typeAssert (.iface T v) 20 188 true).run Try.prog w = .ok (.tuple #[.agg #[.int .i64 0, .int .i64 0], .bool false]) w) ∧ ∀ w, (binOp .neq 20 (.iface T v) (.iface T v)).run Try.prog w = .ok (.bool false) w := by
  unfold XV
  split
  · exact ⟨_, _, rfl, ta_int _, neq_int x⟩
  · split
    · exact ⟨_, _, rfl, ta_fault _, neq_fault x⟩
    · exact ⟨_, _, rfl, ta_str _, neq_str⟩
end Go.Proofs.Ytkcijlndblbidaa
