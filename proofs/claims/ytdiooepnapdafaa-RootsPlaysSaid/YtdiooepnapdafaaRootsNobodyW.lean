/- The example of layer 17, the methods at a table that nobody made, and the law RootsNobody. -/
import Derived.Test.YtdiooepnapdafaaRootsFns
namespace Go.Proofs.Ytdiooepnapdafaa
open Go.ChangeShapes Go.WideShapes Go.ChangeAt Go.RowKit

set_option maxHeartbeats 1000000 in
theorem lives_any (w : World) :
    Calls Try.prog 6 #[] w fun e w' => e = .returned (.bool true) ∧ Below w.heap.size w w' := by
  have hnew := new_yes 2 w (by omega) (by omega)
  have hset : ∀ w1, Tab w.heap.size (w.heap.size + 1) [0, 0] w1 → Calls Try.prog 7 #[.pointer (some ⟨w.heap.size + 1, 0, none⟩), .int .i64 1, .int .i64 9] w1 fun e w' => e = .returned (.int .i64 0) ∧ Tab w.heap.size (w.heap.size + 1) [0, 9] w' ∧ Only w.heap.size w1 w' := fun w1 h1 => set_yes _ _ [0, 0] 1 9 w1 h1 (by simp) (by omega)
  have hcopy : ∀ w1, Tab w.heap.size (w.heap.size + 1) [0, 9] w1 → Calls Try.prog 9 #[.pointer (some ⟨w.heap.size + 1, 0, none⟩), .int .i64 0, .int .i64 1] w1 fun e w' => e = .returned (.int .i64 0) ∧ Tab w.heap.size (w.heap.size + 1) [9, 9] w' ∧ Only w.heap.size w1 w' := fun w1 h1 => copy_yes _ _ [0, 9] 0 1 w1 h1 (by simp) (by simp)
  have hget : ∀ w1, Tab w.heap.size (w.heap.size + 1) [9, 9] w1 → Calls Try.prog 14 #[.pointer (some ⟨w.heap.size + 1, 0, none⟩), .int .i64 0] w1 fun e w' => e = .returned (.tuple #[.int .i64 9, .int .i64 0]) ∧ Below w1.heap.size w1 w' := fun w1 h1 => get_yes _ _ [9, 9] 0 w1 h1 (by simp)
  have Hnew := Lib.hid hnew
  have Hset := Lib.hid hset
  have Hcopy := Lib.hid hcopy
  have Hget := Lib.hid hget
  clear hnew hset hcopy hget
  go_enter Try.func6, Try.ntmps6
  go_wp2_with (first | (go_at_call 5; refine Hnew.out.mono ?_; rintro e w1 ⟨rfl, h1, hb1⟩; have H1 := Lib.hid h1; have Hb1 := Lib.hid hb1; clear h1 hb1 Hnew) | (go_at_call 7; refine (Hset.out _ H1.out).mono ?_; rintro e w2 ⟨rfl, h2, hb2⟩; have H2 := Lib.hid h2; have Hb2 := Lib.hid hb2; clear h2 hb2 Hset) | (go_at_call 9; refine (Hcopy.out _ H2.out).mono ?_; rintro e w3 ⟨rfl, h3, hb3⟩; have H3 := Lib.hid h3; have Hb3 := Lib.hid hb3; clear h3 hb3 Hcopy) | (go_at_call 14; refine (Hget.out _ H3.out).mono ?_; rintro e w4 ⟨rfl, hb4⟩; have Hb4 := Lib.hid hb4; clear hb4 Hget))
  go_ret
  have s1 := Hb1.out.size
  have s2 := Hb2.out.2.2.2.1
  have s3 := Hb3.out.2.2.2.1
  exact ⟨rfl, Hb1.out.trans ((Hb2.out.below (Nat.le_refl _) s1).trans ((Hb3.out.below (Nat.le_refl _) (by omega)).trans (Hb4.out.mono (by omega))))⟩

theorem nilCheck (v : Value) (w : World) : Calls Try.prog 20 #[.pointer none, v] w fun e w' => e = .returned (.int .i64 9) ∧ w = w' := by
  go_enter Try.func20, Try.ntmps20
  go_wp2
  go_ret
  exact ⟨rfl, rfl⟩
theorem nilGet (i : Int) (w : World) : Calls Try.prog 14 #[.pointer none, .int .i64 i] w fun e w' => e = .returned (.tuple #[.int .i64 0, .int .i64 9]) ∧ Below w.heap.size w w' := by
  have H := Lib.hid nilCheck
  have hb := below_new w (.cells #[.int .i64 i] 3)
  go_enter Try.func14, Try.ntmps14
  go_wp2_with (go_at_call 20; refine (H.out _ _).mono ?_; rintro e w1 ⟨rfl, rfl⟩)
  go_ret2
  exact ⟨rfl, hb⟩
theorem nilSet (i a : Int) (w : World) : Calls Try.prog 7 #[.pointer none, .int .i64 i, .int .i64 a] w fun e w' => e = .returned (.int .i64 9) ∧ Below w.heap.size w w' := by
  have H := Lib.hid nilCheck
  have hb := below_new w (.cells #[.int .i64 i] 3)
  go_enter Try.func7, Try.ntmps7
  go_wp2_with (go_at_call 20; refine (H.out _ _).mono ?_; rintro e w1 ⟨rfl, rfl⟩)
  go_ret
  exact ⟨rfl, hb⟩
theorem nilCopy (i a : Int) (w : World) : Calls Try.prog 9 #[.pointer none, .int .i64 i, .int .i64 a] w fun e w' => e = .returned (.int .i64 9) ∧ Below w.heap.size w w' := by
  have H := Lib.hid nilCheck
  have hb := below_new w (.cells #[.int .i64 i, .int .i64 a] 3)
  go_enter Try.func9, Try.ntmps9
  go_wp2_with (go_at_call 20; refine (H.out _ _).mono ?_; rintro e w1 ⟨rfl, rfl⟩)
  go_ret
  exact ⟨rfl, hb⟩
theorem nilTurn (v : Value) (w : World) : Calls Try.prog 11 #[.pointer none, v] w fun e w' => e = .returned (.tuple #[]) ∧ w = w' := by
  go_enter Try.func11, Try.ntmps11
  go_wp2
  refine bodyPost_ret (results_none (by kernel_rfl) _ _ _) rfl ?_
  exact ⟨rfl, rfl⟩
theorem nilLen (w : World) : Calls Try.prog 18 #[.pointer none] w fun e w' => e = .returned (.int .i64 0) ∧ w = w' := by
  go_enter Try.func18, Try.ntmps18
  go_wp2
  go_ret
  exact ⟨rfl, rfl⟩
theorem nilAll (w : World) : Calls Try.prog 16 #[.pointer none] w fun e w' => e = .returned (.slice none 0 0) ∧ w = w' := by
  go_enter Try.func16, Try.ntmps16
  go_wp2
  go_ret
  exact ⟨rfl, rfl⟩

set_option maxHeartbeats 2000000 in
theorem nobody_walk (i a : Int) (w : World) :
    Calls Try.prog 4 #[.int .i64 i, .int .i64 a] w fun e w' => e = .returned (.bool true) ∧ Below w.heap.size w w' := by
  have H1 := Lib.hid nilGet
  have H2 := Lib.hid nilTurn
  have H3 := Lib.hid nilSet
  have H4 := Lib.hid nilCopy
  have H5 := Lib.hid nilLen
  have H6 := Lib.hid nilAll
  have hb := Below.refl w.heap.size w
  go_enter Try.func4, Try.ntmps4
  go_wp2_with (first | (go_at_call 14; refine (H1.out _ _).mono ?_; rintro e w1 ⟨rfl, hb1⟩; replace hb := seq hb hb1; clear hb1) | (go_at_call 11; refine (H2.out _ _).mono ?_; rintro e w2 ⟨rfl, rfl⟩; have c0 := at_cell (heap_alloc_new w1 (.cells #[.bool false] 4)) 0 _ rfl; replace hb := seq hb (below_new w1 (.cells #[.bool false] 4))) | (go_at_call 7; refine (H3.out _ _ _).mono ?_; rintro e w3 ⟨rfl, hb3⟩; replace hb := seq hb hb3; replace c0 := cellB hb3 (Nat.le_refl _) c0; clear hb3) | (go_at_call 9; refine (H4.out _ _ _).mono ?_; rintro e w4 ⟨rfl, hb4⟩; replace hb := seq hb hb4; replace c0 := cellB hb4 (Nat.le_refl _) c0; clear hb4) | (go_at_call 18; refine (H5.out _).mono ?_; rintro e w5 ⟨rfl, rfl⟩) | (go_at_call 16; refine (H6.out _).mono ?_; rintro e w5 ⟨rfl, rfl⟩) | (go_at_call 6; refine (lives_any _).mono ?_; rintro e w6 ⟨rfl, hb6⟩; replace hb := seq hb hb6; clear hb6 c0))
  go_ret
  exact ⟨rfl, hb⟩
end Go.Proofs.Ytdiooepnapdafaa
