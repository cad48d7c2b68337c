/- The walks at a writer and a reader that nobody made, and the law WireNobody. -/
import Derived.Test.YtkabpiganjjacaaWireActs
namespace Go.Proofs.Ytkabpiganjjacaa
open Go.ChangeShapes Go.WideShapes Go.ChangeAt Go.RowKit

abbrev nilp : Value := .pointer none
theorem nilNum (n : Int) (w : World) : Calls Try.prog 24 #[.pointer none, .int .u64 n] w fun e w' => e = .returned (.tuple #[]) ∧ w = w' := by
  go_enter Try.func24, Try.ntmps24
  go_wp2
  refine bodyPost_ret (results_none (by kernel_rfl) _ _ _) rfl ?_
  exact ⟨rfl, rfl⟩
theorem nilInt (n : Int) (w : World) : Calls Try.prog 25 #[.pointer none, .int .i64 n] w fun e w' => e = .returned (.tuple #[]) ∧ w = w' := by
  have H := Lib.hid nilNum
  go_enter Try.func25, Try.ntmps25
  go_wp2_with fail
  refine (H.out _ _).mono ?_
  rintro e w1 ⟨rfl, rfl⟩
  go_wp2
  go_end0
  exact ⟨rfl, rfl⟩
theorem nilFloat (n : Nat) (w : World) : Calls Try.prog 26 #[.pointer none, .float .f64 n] w fun e w' => e = .returned (.tuple #[]) ∧ w = w' := by
  go_enter Try.func26, Try.ntmps26
  go_wp2
  refine bodyPost_ret (results_none (by kernel_rfl) _ _ _) rfl ?_
  exact ⟨rfl, rfl⟩
theorem nilText (s : ByteArray) (w : World) : Calls Try.prog 28 #[.pointer none, .string s] w fun e w' => e = .returned (.tuple #[]) ∧ w = w' := by
  go_enter Try.func28, Try.ntmps28
  go_wp2
  refine bodyPost_ret (results_none (by kernel_rfl) _ _ _) rfl ?_
  exact ⟨rfl, rfl⟩
theorem nilDone (w : World) : Calls Try.prog 11 #[.pointer none] w fun e w' => e = .returned (.tuple #[.string ⟨#[]⟩, .int .i64 9]) ∧ w = w' := by
  go_enter Try.func11, Try.ntmps11
  go_wp2
  go_ret2
  exact ⟨rfl, rfl⟩

theorem nilNextU (v : Value) (w : World) : Calls Try.prog 34 #[.pointer none, v] w fun e w' => e = .returned (.int .u64 0) ∧ w = w' := by
  go_enter Try.func34, Try.ntmps34
  go_wp2
  go_ret
  exact ⟨rfl, rfl⟩
theorem nilReadU (w : World) : Calls Try.prog 13 #[.pointer none] w fun e w' => e = .returned (.int .u64 0) ∧ w = w' := by
  have H := Lib.hid nilNextU
  go_enter Try.func13, Try.ntmps13
  go_wp2_with fail
  refine (H.out _ _).mono ?_
  rintro e w1 ⟨rfl, rfl⟩
  go_wp2
  go_ret
  exact ⟨rfl, rfl⟩

theorem nilNextS (v : Value) (w : World) : Calls Try.prog 38 #[.pointer none, v] w fun e w' => e = .returned (.string ⟨#[]⟩) ∧ w = w' := by
  go_enter Try.func38, Try.ntmps38
  go_wp2
  go_ret
  exact ⟨rfl, rfl⟩
theorem nilReadS (w : World) : Calls Try.prog 20 #[.pointer none] w fun e w' => e = .returned (.string ⟨#[]⟩) ∧ w = w' := by
  have H := Lib.hid nilNextS
  go_enter Try.func20, Try.ntmps20
  go_wp2_with fail
  refine (H.out _ _).mono ?_
  rintro e w1 ⟨rfl, rfl⟩
  go_wp2
  go_ret
  exact ⟨rfl, rfl⟩

theorem nilReadInt (w : World) : Calls Try.prog 15 #[.pointer none] w fun e w' => e = .returned (.int .i64 0) ∧ w = w' := by
  have H := Lib.hid nilReadU
  go_enter Try.func15, Try.ntmps15
  go_wp2_with fail
  refine (H.out _).mono ?_
  rintro e w1 ⟨rfl, rfl⟩
  go_wp2
  go_ret
  exact ⟨by kernel_rfl, rfl⟩
theorem nilReadFloat (w : World) : Calls Try.prog 18 #[.pointer none] w fun e w' => e = .returned (.float .f64 0) ∧ w = w' := by
  have H := Lib.hid nilNextU
  go_enter Try.func18, Try.ntmps18
  go_wp2_with (first | (go_at_call 34; refine (H.out _ _).mono ?_; rintro e w1 ⟨rfl, rfl⟩) | (go_at_call 27; refine (floatOf_any 0 _).mono ?_; rintro e w1 ⟨rfl, rfl⟩))
  go_ret
  exact ⟨rfl, rfl⟩
theorem nilLeft (w : World) : Calls Try.prog 22 #[.pointer none] w fun e w' => e = .returned (.int .i64 0) ∧ w = w' := by
  go_enter Try.func22, Try.ntmps22
  go_wp2
  go_ret
  exact ⟨rfl, rfl⟩
theorem nilErr (w : World) : Calls Try.prog 23 #[.pointer none] w fun e w' => e = .returned (.int .i64 9) ∧ w = w' := by
  go_enter Try.func23, Try.ntmps23
  go_wp2
  go_ret
  exact ⟨rfl, rfl⟩

set_option maxHeartbeats 1000000 in
theorem nilWrite (k n : Nat) (s : ByteArray) (w : World) :
    Calls Try.prog 9 #[.pointer none, .agg #[.int .u8 k, .int .u64 n, .string s]] w fun e w' => e = .returned (.tuple #[]) ∧ Below w.heap.size w w' := by
  have hb := below_new w (.cells #[.int .u8 k, .int .u64 n, .string s] 25)
  obtain ⟨⟨c0, c1, c2⟩, -⟩ := three (heap_alloc_new w (.cells #[.int .u8 k, .int .u64 n, .string s] 25))
  have H1 := Lib.hid nilNum
  have H2 := Lib.hid nilInt
  have H3 := Lib.hid nilFloat
  have H4 := Lib.hid nilText
  obtain kk | kk | kk | kk : (k : Int) % 4 = 0 ∨ (k : Int) % 4 = 1 ∨ (k : Int) % 4 = 2 ∨ (k : Int) % 4 = 3 := by omega
  all_goals
    go_enter Try.func9, Try.ntmps9
    go_wp2_with (first | (go_at_call 24; refine (H1.out _ _).mono ?_; rintro e w1 ⟨rfl, rfl⟩) | (go_at_call 25; refine (H2.out _ _).mono ?_; rintro e w1 ⟨rfl, rfl⟩) | (go_at_call 27; refine (floatOf_any n _).mono ?_; rintro e w1 ⟨rfl, rfl⟩) | (go_at_call 26; refine (H3.out _ _).mono ?_; rintro e w1 ⟨rfl, rfl⟩) | (go_at_call 28; refine (H4.out _ _).mono ?_; rintro e w1 ⟨rfl, rfl⟩))
    go_end0
    exact ⟨rfl, hb⟩

theorem nobody_walk (k n : Nat) (s : ByteArray) (w : World) :
    Calls Try.prog 5 #[.agg #[.int .u8 k, .int .u64 n, .string s]] w fun e w' => e = .returned (.bool true) ∧ Below w.heap.size w w' := by
  have hb := below_new w (.cells #[.int .u8 k, .int .u64 n, .string s] 25)
  obtain ⟨⟨c0, c1, c2⟩, -⟩ := three (heap_alloc_new w (.cells #[.int .u8 k, .int .u64 n, .string s] 25))
  have H1 := Lib.hid nilWrite
  have H2 := Lib.hid nilDone
  have H3 := Lib.hid nilReadU
  have H4 := Lib.hid nilReadInt
  have H5 := Lib.hid nilReadFloat
  have H6 := Lib.hid nilReadS
  have H7 := Lib.hid nilLeft
  have H8 := Lib.hid nilErr
  go_enter Try.func5, Try.ntmps5
  go_wp2_with (first | (go_at_call 9; refine (H1.out _ _ _ _).mono ?_; rintro e w1 ⟨rfl, hb1⟩; replace hb := seq hb hb1; clear hb1 c0 c1 c2) | (go_at_call 11; refine (H2.out _).mono ?_; rintro e w2 ⟨rfl, rfl⟩) | (go_at_call 13; refine (H3.out _).mono ?_; rintro e w2 ⟨rfl, rfl⟩) | (go_at_call 15; refine (H4.out _).mono ?_; rintro e w2 ⟨rfl, rfl⟩) | (go_at_call 18; refine (H5.out _).mono ?_; rintro e w2 ⟨rfl, rfl⟩) | (go_at_call 17; refine (floatBits_any 0 _).mono ?_; rintro e w2 ⟨rfl, rfl⟩) | (go_at_call 20; refine (H6.out _).mono ?_; rintro e w2 ⟨rfl, rfl⟩) | (go_at_call 22; refine (H7.out _).mono ?_; rintro e w2 ⟨rfl, rfl⟩) | (go_at_call 23; refine (H8.out _).mono ?_; rintro e w2 ⟨rfl, rfl⟩) | (go_at_call 7; refine (lives_any _).mono ?_; rintro e w3 ⟨rfl, hb1⟩; replace hb := seq hb hb1; clear hb1))
  go_ret
  exact ⟨rfl, hb⟩
end Go.Proofs.Ytkabpiganjjacaa
