/- The walk of part's deferred closure. -/
import Derived.Test.YtkcijlndblbidaaTUndo
import Derived.Defers
import Derived.Recover
namespace Go.Proofs.Ytkcijlndblbidaa
open Go.ChangeShapes Go.WideShapes Go.ChangeAt Go.RowKit
set_option linter.unusedVariables false

theorem slots22 (a b c x u : Value) : (#[a, b, c] ++ ((Array.replicate 19 u).setIfInBounds 3 x).setIfInBounds 0 x) = #[a, b, c, x, u, u, x, u, u, u, u, u, u, u, u, u, u, u, u, u, u, u] := by
  simp [Array.replicate_succ, Array.setIfInBounds]
theorem any_eql (T : TypeId) (v : Value) (w : World) : (binOp .eql 20 (.iface T v) .nilIface).run Try.prog w = .ok (.bool false) w := by kernel_rfl
theorem assert_mine (v : Value) (w : World) : (Instr.typeAssert (.iface 188 v) 20 188 true).run Try.prog w = .ok (.tuple #[v, .bool true]) w := by kernel_rfl
section
variable {W0 : World} {m wk n t t' k0 B2 B4 B5 : Nat} {g g' : Nat → Nat} {l : List (Nat × Nat)} {K K' : List (Nat × Obj)} {w w' : World}
theorem TW.tail {x : Nat × Obj} (h : TW W0 m wk n t g l (x :: K) w) : TW W0 m wk n t g l K w := h.sub fun y hy => List.mem_cons_of_mem _ hy
theorem part1_idle (w : World) :
    CallsD Try.prog 153 #[.pointer (some ⟨B2, 0, none⟩), .pointer (some ⟨B5, 0, none⟩), .pointer (some ⟨B4, 0, none⟩)] .returning w fun e u' w' => e = .returned (.tuple #[]) ∧ u' = .returning ∧ w' = w := by
  refine callsD_of_wpS Try.func153 rfl fun c₀ cs hu => ?_
  apply wpS_seq
  apply wpS_region
  simp [wpOpsS, go_sem, recoverD, hu, Try.ntmps153, Exit.thenS]
  rw [slots22]
  refine wpS_of_wp ?_
  go_wp2
  cases c₀
  simp_all [bodyPostS, results, Try.results153]
set_option maxRecDepth 100000 in
theorem part1_thrown (h : TW W0 m wk n t g l ((B4, .cells #[.int .i64 0, .int .i64 0] 83 (0, 0)) :: K) w) (h2 : (B2, .cells #[.pointer (some ⟨wk, 0, none⟩)] 85 (0, 0)) ∈ K) (h5 : (B5, .cells #[.int .i64 k0] 3 (0, 0)) ∈ K) (hX : W0.heap.size ≤ B4) (hK : ∀ x ∈ K, x.1 ≠ B4) (hk0 : k0 ≤ l.length) (hlen : l.length ≤ 1000000) (e a : Int) (older : List PanicEntry) :
    CallsD Try.prog 153 #[.pointer (some ⟨B2, 0, none⟩), .pointer (some ⟨B5, 0, none⟩), .pointer (some ⟨B4, 0, none⟩)] (.panicking ({ v := thrownV e a, recovered := false } :: older)) w fun E u' w' => E = .returned (.tuple #[]) ∧ u' = .panicking ({ v := thrownV e a, recovered := true } :: older) ∧ TW W0 m wk n t (undoG g (l.drop k0)) (l.take k0) ((B4, .cells #[.int .i64 e, .int .i64 a] 83 (0, 0)) :: K) w' := by
  unfold thrownV
  refine callsD_of_wpS Try.func153 rfl fun c₀ cs hu => ?_
  apply wpS_seq
  apply wpS_region
  simp [wpOpsS, go_sem, recoverD, hu, Try.ntmps153, Exit.thenS]
  have HU := Lib.hid (fun W (hW : TW W0 m wk n t g l ((B4, .cells #[.int .i64 0, .int .i64 0] 83 (0, 0)) :: K) W) => undo_tw hW hk0 hlen)
  have c2 := at_cell (h.block (List.mem_cons_of_mem _ h2)) 0 _ rfl
  have c5 := at_cell (h.block (List.mem_cons_of_mem _ h5)) 0 _ rfl
  have H := Lib.hid h
  have hta := assert_mine (.agg #[.int .i64 e, .int .i64 a])
  have hq := any_eql 188 (.agg #[.int .i64 e, .int .i64 a])
  clear h
  rw [slots22]
  refine wpS_of_wp ?_
  go_wp2_with (go_at_call 154; refine (HU.out _ H.out).mono ?_; rintro E w1 ⟨rfl, k1⟩; have k2 := k1.box #[.int .i64 e, .int .i64 a] 188; have hb4 := k2.block (List.mem_cons_of_mem _ (List.mem_cons_self ..)); have f4 := at_free hb4 0; have f5 := at_free hb4 1; have d4 := at_cell hb4 0 _ rfl; have d5 := at_cell hb4 1 _ rfl; have k2 := Lib.hid k2.tail; clear k1 hb4)
  cases c₀
  simp [bodyPostS, results, Try.results153]
  exact (k2.out.set hX hK 0 (.int .i64 e)).set hX hK 1 (.int .i64 a)
set_option maxRecDepth 100000 in
theorem part1_other (h : TW W0 m wk n t g l ((B4, .cells #[.int .i64 0, .int .i64 0] 83 (0, 0)) :: K) w) (h2 : (B2, .cells #[.pointer (some ⟨wk, 0, none⟩)] 85 (0, 0)) ∈ K) (h5 : (B5, .cells #[.int .i64 k0] 3 (0, 0)) ∈ K) (hk0 : k0 ≤ l.length) (hlen : l.length ≤ 1000000) (T : TypeId) (v : Value)
    (hta : ∀ w, (Instr.typeAssert (.iface T v) 20 188 true).run Try.prog w = .ok (.tuple #[.agg #[.int .i64 0, .int .i64 0], .bool false]) w) (older : List PanicEntry) :
    CallsD Try.prog 153 #[.pointer (some ⟨B2, 0, none⟩), .pointer (some ⟨B5, 0, none⟩), .pointer (some ⟨B4, 0, none⟩)] (.panicking ({ v := .iface T v, recovered := false } :: older)) w fun E u' w' => E = .panicked [{ v := .iface T v, recovered := false }] ∧ u' = .panicking ({ v := .iface T v, recovered := true } :: older) ∧ TW W0 m wk n t (undoG g (l.drop k0)) (l.take k0) ((B4, .cells #[.int .i64 0, .int .i64 0] 83 (0, 0)) :: K) w' := by
  refine callsD_of_wpS Try.func153 rfl fun c₀ cs hu => ?_
  apply wpS_seq
  apply wpS_region
  simp [wpOpsS, go_sem, recoverD, hu, Try.ntmps153, Exit.thenS]
  have HU := Lib.hid (fun W (hW : TW W0 m wk n t g l ((B4, .cells #[.int .i64 0, .int .i64 0] 83 (0, 0)) :: K) W) => undo_tw hW hk0 hlen)
  have c2 := at_cell (h.block (List.mem_cons_of_mem _ h2)) 0 _ rfl
  have c5 := at_cell (h.block (List.mem_cons_of_mem _ h5)) 0 _ rfl
  have H := Lib.hid h
  have hq := any_eql T v
  clear h
  rw [slots22]
  refine wpS_of_wp ?_
  go_wp2_with (go_at_call 154; refine (HU.out _ H.out).mono ?_; rintro E w1 ⟨rfl, k1⟩; have k2 := k1.box #[.int .i64 0, .int .i64 0] 188; have k2 := Lib.hid k2.tail; clear k1)
  cases c₀
  simp [bodyPostS]
  exact k2.out
end
end Go.Proofs.Ytkcijlndblbidaa
