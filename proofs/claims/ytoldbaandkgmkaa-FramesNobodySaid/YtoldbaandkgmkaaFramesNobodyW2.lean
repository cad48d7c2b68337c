/- The walk of the law FramesNobody: a nil pool has nothing. -/
import Derived.Test.YtoldbaandkgmkaaFramesNobodyW
namespace Go.Proofs.Ytoldbaandkgmkaa
open Go.ChangeShapes Go.WideShapes Go.ChangeAt Go.RowKit
set_option linter.unusedVariables false

theorem nilTake (w : World) : Calls Try.prog 8 #[.pointer none] w fun e w' => e = .returned (.tuple #[.int .i64 0, .int .i64 9]) ∧ w = w' := by
  go_enter Try.func8, Try.ntmps8
  go_wp2
  go_ret2
  exact ⟨rfl, rfl⟩
theorem nilCheck (f : Int) (w : World) : Calls Try.prog 26 #[.pointer none, .int .i64 f] w fun e w' => e = .returned (.int .i64 9) ∧ w = w' := by
  go_enter Try.func26, Try.ntmps26
  go_wp2
  go_ret
  exact ⟨rfl, rfl⟩
theorem nilGive (f : Int) (w : World) : Calls Try.prog 11 #[.pointer none, .int .i64 f] w fun e w' => e = .returned (.int .i64 9) ∧ w = w' := by
  have H := Lib.hid nilCheck
  go_enter Try.func11, Try.ntmps11
  go_wp2_with (go_at_call 26; refine (H.out _ _).mono ?_; rintro e w1 ⟨rfl, rfl⟩)
  go_ret
  exact ⟨rfl, rfl⟩
theorem nilWord (f i : Int) (w : World) : Calls Try.prog 25 #[.pointer none, .int .i64 f, .int .i64 i] w fun e w' => e = .returned (.tuple #[.pointer none, .int .i64 9]) ∧ w = w' := by
  have H := Lib.hid nilCheck
  go_enter Try.func25, Try.ntmps25
  go_wp2_with (go_at_call 26; refine (H.out _ _).mono ?_; rintro e w1 ⟨rfl, rfl⟩)
  go_ret2
  exact ⟨rfl, rfl⟩
theorem nilLoad (f i : Int) (w : World) : Calls Try.prog 9 #[.pointer none, .int .i64 f, .int .i64 i] w fun e w' => e = .returned (.tuple #[.int .u64 0, .int .i64 9]) ∧ w = w' := by
  have H := Lib.hid nilWord
  go_enter Try.func9, Try.ntmps9
  go_wp2_with (go_at_call 25; refine (H.out _ _ _).mono ?_; rintro e w1 ⟨rfl, rfl⟩)
  go_ret2
  exact ⟨rfl, rfl⟩
theorem nilStore (f i : Int) (x : Int) (w : World) : Calls Try.prog 10 #[.pointer none, .int .i64 f, .int .i64 i, .int .u64 x] w fun e w' => e = .returned (.int .i64 9) ∧ w = w' := by
  have H := Lib.hid nilWord
  go_enter Try.func10, Try.ntmps10
  go_wp2_with (go_at_call 25; refine (H.out _ _ _).mono ?_; rintro e w1 ⟨rfl, rfl⟩)
  go_ret
  exact ⟨rfl, rfl⟩
theorem nilPage (w : World) : Calls Try.prog 21 #[.pointer none] w fun e w' => e = .returned (.int .i64 0) ∧ w = w' := by
  go_enter Try.func21, Try.ntmps21
  go_wp2
  go_ret
  exact ⟨rfl, rfl⟩
theorem nilRoom (w : World) : Calls Try.prog 20 #[.pointer none] w fun e w' => e = .returned (.int .i64 0) ∧ w = w' := by
  go_enter Try.func20, Try.ntmps20
  go_wp2
  go_ret
  exact ⟨rfl, rfl⟩
theorem nilUsed (w : World) : Calls Try.prog 12 #[.pointer none] w fun e w' => e = .returned (.int .i64 0) ∧ w = w' := by
  go_enter Try.func12, Try.ntmps12
  go_wp2
  go_ret
  exact ⟨rfl, rfl⟩
theorem nilHigh (w : World) : Calls Try.prog 18 #[.pointer none] w fun e w' => e = .returned (.int .i64 0) ∧ w = w' := by
  go_enter Try.func18, Try.ntmps18
  go_wp2
  go_ret
  exact ⟨rfl, rfl⟩
theorem nilTaken (w : World) : Calls Try.prog 19 #[.pointer none] w fun e w' => e = .returned (.int .i64 0) ∧ w = w' := by
  go_enter Try.func19, Try.ntmps19
  go_wp2
  go_ret
  exact ⟨rfl, rfl⟩
set_option maxRecDepth 100000 in
set_option maxHeartbeats 2000000 in
theorem nobody_walk (f i x : Int) (w : World) :
    Calls Try.prog 5 #[.int .i64 f, .int .i64 i, .int .u64 x] w fun e w' => e = .returned (.bool true) ∧ Below w.heap.size w w' := by
  have H1 := Lib.hid nilTake
  have H2 := Lib.hid nilLoad
  have H3 := Lib.hid nilGive
  have H4 := Lib.hid nilStore
  have H5 := Lib.hid nilPage
  have H6 := Lib.hid nilRoom
  have H7 := Lib.hid nilUsed
  have H8 := Lib.hid nilHigh
  have H9 := Lib.hid nilTaken
  go_enter Try.func5, Try.ntmps5
  go_wp2_with (first
    | (go_at_call 8; refine (H1.out _).mono ?_; rintro e w1 ⟨rfl, rfl⟩)
    | (go_at_call 9; refine (H2.out _ _ _).mono ?_; rintro e w1 ⟨rfl, rfl⟩)
    | (go_at_call 11; refine (H3.out _ _).mono ?_; rintro e w1 ⟨rfl, rfl⟩)
    | (go_at_call 10; refine (H4.out _ _ _ _).mono ?_; rintro e w1 ⟨rfl, rfl⟩)
    | (go_at_call 21; refine (H5.out _).mono ?_; rintro e w1 ⟨rfl, rfl⟩)
    | (go_at_call 20; refine (H6.out _).mono ?_; rintro e w1 ⟨rfl, rfl⟩)
    | (go_at_call 12; refine (H7.out _).mono ?_; rintro e w1 ⟨rfl, rfl⟩)
    | (go_at_call 18; refine (H8.out _).mono ?_; rintro e w1 ⟨rfl, rfl⟩)
    | (go_at_call 19; refine (H9.out _).mono ?_; rintro e w1 ⟨rfl, rfl⟩)
    | (go_at_call 6; refine (lives_any _).mono ?_; rintro e w6 ⟨rfl, hb⟩))
  go_ret
  exact ⟨rfl, hb⟩
end Go.Proofs.Ytoldbaandkgmkaa
