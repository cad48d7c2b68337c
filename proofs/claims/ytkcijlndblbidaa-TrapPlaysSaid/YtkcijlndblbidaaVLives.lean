/- The walks of the example of the chapter vmem and of the law VmemNobody. -/
import Derived.Test.YtkcijlndblbidaaVAll
namespace Go.Proofs.Ytkcijlndblbidaa
open Go.ChangeShapes Go.WideShapes Go.ChangeAt Go.RowKit
set_option linter.unusedVariables false

set_option maxRecDepth 100000 in
set_option maxHeartbeats 1000000 in
theorem vlives_any (w : World) : Calls Try.prog 16 #[] w fun e w' => e = .returned (.bool true) ∧ Below w.heap.size w w' := by
  have Hnew := Lib.hid (new_vk 16 4 2 w (by omega) (by omega) (by omega) (by unfold Fr.isPage; omega) (by omega) (by omega))
  have h1 := fun m W (h : VK w m 16 4 2 0 VS.zero [] W) => need_vk h (by omega) 3 9
  have h2 := fun m W (h : VK w m 16 4 2 (0 + 16 / 4) (needV 16 4 2 VS.zero 3 9) [] W) => used_vk h
  have h3 := fun m W (h : VK w m 16 4 2 (0 + 16 / 4) (needV 16 4 2 VS.zero 3 9) [] W) => need_vk h (by omega) 3 8
  have h4 := fun m W (h : VK w m 16 4 2 (0 + 16 / 4 + 16 / 4) (needV 16 4 2 (needV 16 4 2 VS.zero 3 9) 3 8) [] W) => mapped_vk h 0
  have h5 := fun m W (h : VK w m 16 4 2 (0 + 16 / 4 + 16 / 4) (needV 16 4 2 (needV 16 4 2 VS.zero 3 9) 3 8) [] W) => mapped_vk h 1
  have h6 := fun m W (h : VK w m 16 4 2 (0 + 16 / 4 + 16 / 4) (needV 16 4 2 (needV 16 4 2 VS.zero 3 9) 3 8) [] W) => used_vk h
  rw [show needE 16 4 2 VS.zero 3 9 = 14 from by decide +kernel] at h1
  rw [show (needV 16 4 2 VS.zero 3 9).used = 0 from by decide +kernel] at h2
  rw [show needE 16 4 2 (needV 16 4 2 VS.zero 3 9) 3 8 = 0 from by decide +kernel] at h3
  rw [show isM (16 / 4) (needV 16 4 2 (needV 16 4 2 VS.zero 3 9) 3 8) 0 = true from by decide +kernel] at h4
  rw [show isM (16 / 4) (needV 16 4 2 (needV 16 4 2 VS.zero 3 9) 3 8) 1 = true from by decide +kernel] at h5
  rw [show (needV 16 4 2 (needV 16 4 2 VS.zero 3 9) 3 8).used = 2 from by decide +kernel] at h6
  generalize needV 16 4 2 (needV 16 4 2 VS.zero 3 9) 3 8 = v2 at *
  generalize needV 16 4 2 VS.zero 3 9 = v1 at *
  generalize 0 + 16 / 4 + 16 / 4 = t2 at *
  generalize 0 + 16 / 4 = t1 at *
  have H1 := Lib.hid h1
  have H2 := Lib.hid h2
  have H3 := Lib.hid h3
  have H4 := Lib.hid h4
  have H5 := Lib.hid h5
  have H6 := Lib.hid h6
  clear h1 h2 h3 h4 h5 h6
  go_enter Try.func16, Try.ntmps16
  go_wp2_with (first
    | (go_at_call 17; refine Hnew.out.mono ?_; rintro e w1 ⟨m, rfl, h⟩; have M := Lib.hid h; clear h Hnew)
    | (go_at_call 18; refine (H1.out _ _ M.out).mono ?_; rintro e w2 ⟨rfl, h⟩; clear M H1; have M := Lib.hid h; clear h)
    | (go_at_call 28; refine (H2.out _ _ M.out).mono ?_; rintro e w3 ⟨rfl, rfl⟩)
    | (go_at_call 18; refine (H3.out _ _ M.out).mono ?_; rintro e w2 ⟨rfl, h⟩; clear M H3 H2; have M := Lib.hid h; clear h)
    | (go_at_call 25; refine (H4.out _ _ M.out).mono ?_; rintro e w2 ⟨rfl, h⟩; clear M H4; have M := Lib.hid h; clear h)
    | (go_at_call 25; refine (H5.out _ _ M.out).mono ?_; rintro e w2 ⟨rfl, h⟩; clear M H5; have M := Lib.hid h; clear h)
    | (go_at_call 28; refine (H6.out _ _ M.out).mono ?_; rintro e w3 ⟨rfl, rfl⟩))
  go_ret
  exact ⟨rfl, M.out.below⟩
theorem nil_none (w : World) : Calls Try.prog 99 #[.pointer none] w fun e w' => e = .returned (.bool true) ∧ w = w' := by
  go_enter Try.func99, Try.ntmps99
  go_wp2
  go_ret
  exact ⟨rfl, rfl⟩
theorem nil_map (p : Int) (w : World) : Calls Try.prog 20 #[.pointer none, .int .i64 p] w fun e w' => e = .returned (.int .i64 9) ∧ w = w' := by
  have H := Lib.hid nil_none
  go_enter Try.func20, Try.ntmps20
  go_wp2_with (go_at_call 99; refine (H.out _).mono ?_; rintro e w1 ⟨rfl, rfl⟩)
  go_ret
  exact ⟨rfl, rfl⟩
theorem nil_unmap (p : Int) (w : World) : Calls Try.prog 21 #[.pointer none, .int .i64 p] w fun e w' => e = .returned (.int .i64 9) ∧ w = w' := by
  have H := Lib.hid nil_none
  go_enter Try.func21, Try.ntmps21
  go_wp2_with (go_at_call 99; refine (H.out _).mono ?_; rintro e w1 ⟨rfl, rfl⟩)
  go_ret
  exact ⟨rfl, rfl⟩
theorem nil_move (p q : Int) (w : World) : Calls Try.prog 22 #[.pointer none, .int .i64 p, .int .i64 q] w fun e w' => e = .returned (.int .i64 9) ∧ w = w' := by
  have H := Lib.hid nil_none
  go_enter Try.func22, Try.ntmps22
  go_wp2_with (go_at_call 99; refine (H.out _).mono ?_; rintro e w1 ⟨rfl, rfl⟩)
  go_ret
  exact ⟨rfl, rfl⟩
theorem nil_find (p : Int) (w : World) : Calls Try.prog 102 #[.pointer none, .int .i64 p] w fun e w' => e = .returned (.tuple #[.int .i64 0, .int .i64 0, .int .i64 9]) ∧ w = w' := by
  have H := Lib.hid nil_none
  go_enter Try.func102, Try.ntmps102
  go_wp2_with (go_at_call 99; refine (H.out _).mono ?_; rintro e w1 ⟨rfl, rfl⟩)
  go_ret3
  exact ⟨rfl, rfl⟩
theorem nil_load (p : Int) (w : World) : Calls Try.prog 24 #[.pointer none, .int .i64 p] w fun e w' => e = .returned (.tuple #[.int .u64 0, .int .i64 9]) ∧ w = w' := by
  have H := Lib.hid nil_find
  go_enter Try.func24, Try.ntmps24
  go_wp2_with (go_at_call 102; refine (H.out _ _).mono ?_; rintro e w1 ⟨rfl, rfl⟩)
  go_ret2
  exact ⟨rfl, rfl⟩
theorem nil_store (p x : Int) (w : World) : Calls Try.prog 19 #[.pointer none, .int .i64 p, .int .u64 x] w fun e w' => e = .returned (.int .i64 9) ∧ w = w' := by
  have H := Lib.hid nil_find
  go_enter Try.func19, Try.ntmps19
  go_wp2_with (go_at_call 102; refine (H.out _ _).mono ?_; rintro e w1 ⟨rfl, rfl⟩)
  go_ret
  exact ⟨rfl, rfl⟩
theorem nil_need (p q : Int) (w : World) : Calls Try.prog 18 #[.pointer none, .int .i64 p, .int .i64 q] w fun e w' => e = .returned (.int .i64 9) ∧ Below w.heap.size w w' := by
  have H := Lib.hid nil_none
  have Hb := Lib.hid (below_new w (.cells #[.pointer none] 26))
  go_enter Try.func18, Try.ntmps18
  go_wp2_with (go_at_call 99; refine (H.out _).mono ?_; rintro e w1 ⟨rfl, rfl⟩)
  go_ret
  exact ⟨rfl, Hb.out⟩
theorem nil_free (p q : Int) (w : World) : Calls Try.prog 23 #[.pointer none, .int .i64 p, .int .i64 q] w fun e w' => e = .returned (.int .i64 0) ∧ w = w' := by
  have H := Lib.hid nil_none
  go_enter Try.func23, Try.ntmps23
  go_wp2_with (go_at_call 99; refine (H.out _).mono ?_; rintro e w1 ⟨rfl, rfl⟩)
  go_ret
  exact ⟨rfl, rfl⟩
theorem nil_mapped (p : Int) (w : World) : Calls Try.prog 25 #[.pointer none, .int .i64 p] w fun e w' => e = .returned (.bool false) ∧ w = w' := by
  have H := Lib.hid nil_none
  go_enter Try.func25, Try.ntmps25
  go_wp2_with (go_at_call 99; refine (H.out _).mono ?_; rintro e w1 ⟨rfl, rfl⟩)
  go_ret
  exact ⟨rfl, rfl⟩
theorem nil_page (w : World) : Calls Try.prog 26 #[.pointer none] w fun e w' => e = .returned (.int .i64 0) ∧ w = w' := by
  have H := Lib.hid nil_none
  go_enter Try.func26, Try.ntmps26
  go_wp2_with (go_at_call 99; refine (H.out _).mono ?_; rintro e w1 ⟨rfl, rfl⟩)
  go_ret
  exact ⟨rfl, rfl⟩
theorem nil_words (w : World) : Calls Try.prog 27 #[.pointer none] w fun e w' => e = .returned (.int .i64 0) ∧ w = w' := by
  have H := Lib.hid nil_none
  go_enter Try.func27, Try.ntmps27
  go_wp2_with (go_at_call 99; refine (H.out _).mono ?_; rintro e w1 ⟨rfl, rfl⟩)
  go_ret
  exact ⟨rfl, rfl⟩
theorem nil_used (w : World) : Calls Try.prog 28 #[.pointer none] w fun e w' => e = .returned (.int .i64 0) ∧ w = w' := by
  have H := Lib.hid nil_none
  go_enter Try.func28, Try.ntmps28
  go_wp2_with (go_at_call 99; refine (H.out _).mono ?_; rintro e w1 ⟨rfl, rfl⟩)
  go_ret
  exact ⟨rfl, rfl⟩
theorem nil_high (w : World) : Calls Try.prog 29 #[.pointer none] w fun e w' => e = .returned (.int .i64 0) ∧ w = w' := by
  have H := Lib.hid nil_none
  go_enter Try.func29, Try.ntmps29
  go_wp2_with (go_at_call 99; refine (H.out _).mono ?_; rintro e w1 ⟨rfl, rfl⟩)
  go_ret
  exact ⟨rfl, rfl⟩
theorem nil_room (w : World) : Calls Try.prog 30 #[.pointer none] w fun e w' => e = .returned (.int .i64 0) ∧ w = w' := by
  have H := Lib.hid nil_none
  go_enter Try.func30, Try.ntmps30
  go_wp2_with (go_at_call 99; refine (H.out _).mono ?_; rintro e w1 ⟨rfl, rfl⟩)
  go_ret
  exact ⟨rfl, rfl⟩
set_option maxRecDepth 100000 in
set_option maxHeartbeats 2000000 in
theorem nobody_walk (a b x : Int) (w : World) :
    Calls Try.prog 4 #[.int .i64 a, .int .i64 b, .int .u64 x] w fun e w' => e = .returned (.bool true) ∧ Below w.heap.size w w' := by
  have H0 := Lib.hid nil_load
  have H1 := Lib.hid nil_map
  have H2 := Lib.hid nil_unmap
  have H3 := Lib.hid nil_move
  have H4 := Lib.hid nil_store
  have H5 := Lib.hid nil_free
  have H6 := Lib.hid nil_mapped
  have H7 := Lib.hid nil_page
  have H8 := Lib.hid nil_words
  have H9 := Lib.hid nil_used
  have H10 := Lib.hid nil_high
  have H11 := Lib.hid nil_room
  have Hn := Lib.hid nil_need
  have Hv := Lib.hid vlives_any
  go_enter Try.func4, Try.ntmps4
  go_wp2_with (first
    | (go_at_call 24; refine (H0.out _ _).mono ?_; rintro e w1 ⟨rfl, rfl⟩)
    | (go_at_call 20; refine (H1.out _ _).mono ?_; rintro e w1 ⟨rfl, rfl⟩)
    | (go_at_call 21; refine (H2.out _ _).mono ?_; rintro e w1 ⟨rfl, rfl⟩)
    | (go_at_call 22; refine (H3.out _ _ _).mono ?_; rintro e w1 ⟨rfl, rfl⟩)
    | (go_at_call 19; refine (H4.out _ _ _).mono ?_; rintro e w1 ⟨rfl, rfl⟩)
    | (go_at_call 23; refine (H5.out _ _ _).mono ?_; rintro e w1 ⟨rfl, rfl⟩)
    | (go_at_call 25; refine (H6.out _ _).mono ?_; rintro e w1 ⟨rfl, rfl⟩)
    | (go_at_call 26; refine (H7.out _).mono ?_; rintro e w1 ⟨rfl, rfl⟩)
    | (go_at_call 27; refine (H8.out _).mono ?_; rintro e w1 ⟨rfl, rfl⟩)
    | (go_at_call 28; refine (H9.out _).mono ?_; rintro e w1 ⟨rfl, rfl⟩)
    | (go_at_call 29; refine (H10.out _).mono ?_; rintro e w1 ⟨rfl, rfl⟩)
    | (go_at_call 30; refine (H11.out _).mono ?_; rintro e w1 ⟨rfl, rfl⟩)
    | (go_at_call 18; refine (Hn.out _ _ _).mono ?_; rintro e w1 ⟨rfl, hb1⟩; have Hb1 := Lib.hid hb1; clear hb1)
    | (go_at_call 16; refine (Hv.out _).mono ?_; rintro e w6 ⟨rfl, hb⟩))
  go_ret
  exact ⟨rfl, seq Hb1.out hb⟩
end Go.Proofs.Ytkcijlndblbidaa
