/- The walk of the law PagesNobody: a nil map has nothing. -/
import Derived.Test.YtkonpieebemfbaaPagesNew
namespace Go.Proofs.Ytkonpieebemfbaa
open Go.ChangeShapes Go.WideShapes Go.ChangeAt Go.RowKit
set_option linter.unusedVariables false

theorem nilIn (v : Value) (w : World) : Calls Try.prog 22 #[.pointer none, v] w fun e w' => e = .returned (.int .i64 9) ∧ w = w' := by
  go_enter Try.func22, Try.ntmps22
  go_wp2
  go_ret
  exact ⟨rfl, rfl⟩
theorem nilFrame (p : Int) (w : World) : Calls Try.prog 11 #[.pointer none, .int .i64 p] w fun e w' => e = .returned (.tuple #[.int .i64 0, .int .i64 9]) ∧ Below w.heap.size w w' := by
  have H := Lib.hid nilIn
  have Hb := Lib.hid (below_new w (.cells #[.int .i64 p] 3))
  go_enter Try.func11, Try.ntmps11
  go_wp2_with (go_at_call 22; refine (H.out _ _).mono ?_; rintro e w1 ⟨rfl, rfl⟩)
  go_ret2
  exact ⟨rfl, Hb.out⟩
theorem nilDrop (p : Int) (w : World) : Calls Try.prog 9 #[.pointer none, .int .i64 p] w fun e w' => e = .returned (.tuple #[.int .i64 0, .int .i64 9]) ∧ Below w.heap.size w w' := by
  have H := Lib.hid nilFrame
  go_enter Try.func9, Try.ntmps9
  go_wp2_with (go_at_call 11; refine (H.out _ _).mono ?_; rintro e w1 ⟨rfl, hb⟩)
  go_ret2
  exact ⟨rfl, hb⟩
theorem nilPut (p f : Int) (w : World) : Calls Try.prog 8 #[.pointer none, .int .i64 p, .int .i64 f] w fun e w' => e = .returned (.int .i64 9) ∧ Below w.heap.size w w' := by
  have H := Lib.hid nilIn
  have Hb := Lib.hid (below_new w (.cells #[.int .i64 p] 3))
  go_enter Try.func8, Try.ntmps8
  go_wp2_with (go_at_call 22; refine (H.out _ _).mono ?_; rintro e w1 ⟨rfl, rfl⟩)
  go_ret
  exact ⟨rfl, Hb.out⟩
theorem nilMove (p f : Int) (w : World) : Calls Try.prog 10 #[.pointer none, .int .i64 p, .int .i64 f] w fun e w' => e = .returned (.int .i64 9) ∧ Below w.heap.size w w' := by
  have H := Lib.hid nilIn
  have Hb := Lib.hid (below_new w (.cells #[.int .i64 p, .int .i64 f] 3))
  go_enter Try.func10, Try.ntmps10
  go_wp2_with (go_at_call 22; refine (H.out _ _).mono ?_; rintro e w1 ⟨rfl, rfl⟩)
  go_ret
  exact ⟨rfl, Hb.out⟩
theorem nilNext (p : Int) (w : World) : Calls Try.prog 17 #[.pointer none, .int .i64 p] w fun e w' => e = .returned (.tuple #[.int .i64 0, .bool false]) ∧ w = w' := by
  go_enter Try.func17, Try.ntmps17
  go_wp2
  go_ret2
  exact ⟨rfl, rfl⟩
theorem nilLen (w : World) : Calls Try.prog 21 #[.pointer none] w fun e w' => e = .returned (.int .i64 0) ∧ w = w' := by
  go_enter Try.func21, Try.ntmps21
  go_wp2
  go_ret
  exact ⟨rfl, rfl⟩
theorem nilCount (p q : Int) (w : World) : Calls Try.prog 19 #[.pointer none, .int .i64 p, .int .i64 q] w fun e w' => e = .returned (.int .i64 0) ∧ w = w' := by
  have H := Lib.hid nilNext
  go_enter Try.func19, Try.ntmps19
  go_wp2
  go_loopw [1, 7] (fun f v wr => f = .int .i64 p ∧ v = .int .i64 0 ∧ wr = w) (fun _ _ _ => 0)
  case atStart => exact ⟨rfl, rfl, rfl⟩
  case round =>
    obtain ⟨rfl, rfl, rfl⟩ := hrel
    go_wp2_with (go_at_call 17; refine (H.out _ _).mono ?_; rintro e w1 ⟨rfl, rfl⟩)
    go_ret
    exact ⟨rfl, rfl⟩
set_option maxRecDepth 100000 in
set_option maxHeartbeats 2000000 in
theorem nobody_walk (p q : Int) (w : World) :
    Calls Try.prog 5 #[.int .i64 p, .int .i64 q] w fun e w' => e = .returned (.bool true) ∧ Below w.heap.size w w' := by
  have H1 := Lib.hid nilFrame
  have H2 := Lib.hid nilDrop
  have H3 := Lib.hid nilNext
  have H4 := Lib.hid nilPut
  have H5 := Lib.hid nilMove
  have H6 := Lib.hid nilCount
  have H7 := Lib.hid nilLen
  have hb := Below.refl w.heap.size w
  go_enter Try.func5, Try.ntmps5
  go_wp2_with (first
    | (go_at_call 11; refine (H1.out _ _).mono ?_; rintro e w1 ⟨rfl, hb1⟩; replace hb := seq hb hb1; clear hb1)
    | (go_at_call 9; refine (H2.out _ _).mono ?_; rintro e w1 ⟨rfl, hb1⟩; replace hb := seq hb hb1; clear hb1)
    | (go_at_call 17; refine (H3.out _ _).mono ?_; rintro e w1 ⟨rfl, rfl⟩)
    | (go_at_call 8; refine (H4.out _ _ _).mono ?_; rintro e w1 ⟨rfl, hb1⟩; replace hb := seq hb hb1; clear hb1)
    | (go_at_call 10; refine (H5.out _ _ _).mono ?_; rintro e w1 ⟨rfl, hb1⟩; replace hb := seq hb hb1; clear hb1)
    | (go_at_call 19; refine (H6.out _ _ _).mono ?_; rintro e w1 ⟨rfl, rfl⟩)
    | (go_at_call 21; refine (H7.out _).mono ?_; rintro e w1 ⟨rfl, rfl⟩)
    | (go_at_call 6; refine (lives_any _).mono ?_; rintro e w6 ⟨rfl, hb6⟩; replace hb := seq hb hb6; clear hb6))
  go_ret
  exact ⟨rfl, hb⟩
end Go.Proofs.Ytkonpieebemfbaa
