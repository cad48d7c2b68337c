/- The walks of New and Len. -/
import Derived.Test.YtkcijlndblbidaaPagesOps2
namespace Go.Proofs.Ytkcijlndblbidaa.Pg
open Go.ChangeShapes Go.WideShapes Go.ChangeAt Go.RowKit
set_option linter.unusedVariables false

theorem ptr_info : (Try.prog.info? 228).map (fun i => (i.zero, i.size, i.bytes)) = some (some (.pointer none), 1, 8) := by kernel_rfl
def nils (n : Nat) : Array Value := ((List.replicate n (none : Option Nat)).map ptr).toArray
theorem made_ptrs (n : Nat) : madeCells (Value.pointer none).cells (n * 1) = nils n := by
  apply Array.toList_inj.1
  rw [Nat.mul_one]
  show (madeCells #[Value.pointer none] n).toList = _
  rw [toList_madeCells_one]
  simp [nils, ptr]
theorem sum_zeros (m : Nat) : sumF (fun _ => 0) m = 0 := by
  induction m with
  | zero => rfl
  | succ m ih => simp [sumF, ih, cnt_zeros]
theorem new_no (n : Int) (w : World) (h : n < 1 ∨ 524288 < n) :
    Calls Try.prog 98 #[.int .i64 n] w fun e w' => e = .returned (.tuple #[.pointer none, .int .i64 5]) ∧ w = w' := by
  rcases h with h | h
  · go_enter Try.func98, Try.ntmps98
    go_wp2
    go_ret2
    exact ⟨rfl, rfl⟩
  · have h1 : ¬ n < 1 := by omega
    go_enter Try.func98, Try.ntmps98
    go_wp2
    go_ret2
    exact ⟨rfl, rfl⟩
set_option maxRecDepth 100000 in
theorem new_yes (np : Nat) (w : World) (h1 : 1 ≤ np) (h2 : np ≤ 524288) :
    Calls Try.prog 98 #[.int .i64 np] w fun e w' => e = .returned (.tuple #[.pointer (some ⟨w.heap.size + 1, 0, none⟩), .int .i64 0]) ∧ (∃ S, Mp S (w.heap.size + 1) np (fun _ => 0) w' ∧ Up w.heap.size S) ∧ Below w.heap.size w w' := by
  obtain ⟨i0, hi, hz0, hz1, hz2⟩ := info_parts ptr_info
  obtain ⟨nt, hnt⟩ : ∃ nt, nt = (np + 255) / 256 := ⟨_, rfl⟩
  have hmk : ∀ W : World, (Instr.makeSlice 207 (.int .i64 (nt : Int)) (.int .i64 (nt : Int))).run Try.prog W = .ok (.slice (some ⟨W.heap.size, 0, none⟩) nt nt) (W.alloc (.cells (nils nt) 228)) := fun W => by
    have h := run_make (P := Try.prog) W 207 228 i0 (.pointer none) Try.underlying207 hi hz0 .i64 .i64 (nt : Int) (nt : Int) (by omega) (by omega) (by rw [hz2]; omega) (by omega)
    rw [hz1, Int.toNat_natCast, made_ptrs] at h
    exact h
  have hb1 := below_new w (.cells (nils nt) 228)
  have hg1 := heap_alloc_new w (.cells (nils nt) 228)
  have hsz : (w.alloc (.cells (nils nt) 228)).heap.size = w.heap.size + 1 := by simp
  have hq : ((np : Int) + 256 - 1) / 256 = nt := by omega
  have hx1 : (1 : Int) ≤ np := by omega
  have hx2 : (np : Int) ≤ 524288 := by omega
  obtain ⟨z, hz⟩ : ∃ z : Int, (np : Int) = z := ⟨_, rfl⟩
  rw [hz] at hq hx1 hx2 ⊢
  have Hz := Lib.hid hz
  have Hnt := Lib.hid hnt
  have Hb1 := Lib.hid hb1
  have Hg1 := Lib.hid hg1
  have Hsz := Lib.hid hsz
  have H2 := Lib.hid h2
  clear hb1 hg1 hsz hz hnt h1 h2
  go_enter Try.func98, Try.ntmps98
  go_wp2
  go_ret2
  have hb2 := below_new (w.alloc (.cells (nils nt) 228)) (.cells #[.slice (some ⟨w.heap.size, 0, none⟩) nt nt, .int .i64 z, .int .i64 0] 209)
  have hg2 := heap_alloc_new (w.alloc (.cells (nils nt) 228)) (.cells #[.slice (some ⟨w.heap.size, 0, none⟩) nt nt, .int .i64 z, .int .i64 0] 209)
  rw [Hsz.out] at hg2
  have hn := Hnt.out
  have h2 := H2.out
  refine ⟨by first | rfl | (rw [← Hsz.out]; rfl), ⟨fun k => k = w.heap.size ∨ k = w.heap.size + 1, ⟨w.heap.size, List.replicate nt none, ⟨?_, ?_, ?_, ?_, ?_, ?_, ?_⟩, ⟨.inr rfl, .inl rfl, ?_⟩, ?_, ?_⟩, ?_⟩, seq Hb1.out hb2⟩
  · rw [hg2, ← Hz.out, List.length_replicate, sum_zeros]; rfl
  · exact blockB hb2 (Nat.le_refl _) Hg1.out
  · rw [List.length_replicate]; omega
  · intro i hi _ j hj; rfl
  · intro i k hi hk
    simp at hi
    simp [hi] at hk
  · intro i j k hi hj hk
    simp at hi
    simp [hi] at hk
  · intro p; omega
  · intro i k hi hk
    simp at hi
    simp [hi] at hk
  · intro k hk
    simp
    omega
  · rw [List.length_replicate]; exact hn
  · intro k hk
    omega
end Go.Proofs.Ytkcijlndblbidaa.Pg
