/- The walks of the example of the chapter bump and of the law BumpNobody. -/
import Derived.Test.YtkcijlndblbidaaBump
import Derived.Test.YtkcijlndblbidaaVLives
namespace Go.Proofs.Ytkcijlndblbidaa
open Go.ChangeShapes Go.WideShapes Go.ChangeAt Go.RowKit
set_option linter.unusedVariables false

set_option maxRecDepth 100000 in
set_option maxHeartbeats 1000000 in
theorem blives_any (w : World) : Calls Try.prog 31 #[] w fun e w' => e = .returned (.bool true) ∧ Below w.heap.size w w' := by
  have Hnew := Lib.hid (new_vk 8 2 4 w (by omega) (by omega) (by omega) (by unfold Fr.isPage; omega) (by omega) (by omega))
  have hbn := fun m W (h : VK w m 8 2 4 0 VS.zero [] W) => new_bk h 5 8 (by unfold okR; omega)
  have h1 := fun m r W (h : BK w m r 8 2 4 0 VS.zero 5 5 8 [] W) => alloc_bk h (by omega) 2
  have h2 := fun m r W (h : BK w m r 8 2 4 (0 + 8 / 2) (allocV 8 2 4 VS.zero 5 8 2) 5 7 8 [] W) => alloc_bk h (by omega) 2
  have h3 := fun m r W (h : BK w m r 8 2 4 (0 + 8 / 2 + 8 / 2) (allocV 8 2 4 (allocV 8 2 4 VS.zero 5 8 2) 7 8 2) 5 7 8 [] W) => alloc_bk h (by omega) 1
  rw [show allocA 8 2 4 VS.zero 5 8 2 = 5 from by decide +kernel, show allocE 8 2 4 VS.zero 5 8 2 = 0 from by decide +kernel, show allocT 8 2 4 VS.zero 5 8 2 = 7 from by decide +kernel] at h1
  rw [show allocA 8 2 4 (allocV 8 2 4 VS.zero 5 8 2) 7 8 2 = 0 from by decide +kernel, show allocE 8 2 4 (allocV 8 2 4 VS.zero 5 8 2) 7 8 2 = 21 from by decide +kernel, show allocT 8 2 4 (allocV 8 2 4 VS.zero 5 8 2) 7 8 2 = 7 from by decide +kernel] at h2
  rw [show allocA 8 2 4 (allocV 8 2 4 (allocV 8 2 4 VS.zero 5 8 2) 7 8 2) 7 8 1 = 7 from by decide +kernel, show allocE 8 2 4 (allocV 8 2 4 (allocV 8 2 4 VS.zero 5 8 2) 7 8 2) 7 8 1 = 0 from by decide +kernel, show allocT 8 2 4 (allocV 8 2 4 (allocV 8 2 4 VS.zero 5 8 2) 7 8 2) 7 8 1 = 8 from by decide +kernel] at h3
  have hus : (allocV 8 2 4 (allocV 8 2 4 (allocV 8 2 4 VS.zero 5 8 2) 7 8 2) 7 8 1).used = 2 := by decide +kernel
  generalize allocV 8 2 4 (allocV 8 2 4 (allocV 8 2 4 VS.zero 5 8 2) 7 8 2) 7 8 1 = v3 at *
  generalize allocV 8 2 4 (allocV 8 2 4 VS.zero 5 8 2) 7 8 2 = v2 at *
  generalize allocV 8 2 4 VS.zero 5 8 2 = v1 at *
  generalize 0 + 8 / 2 + 8 / 2 = t2 at *
  generalize 0 + 8 / 2 = t1 at *
  have h4 := fun m r t W (h : BK w m r 8 2 4 t v3 5 8 8 [] W) => left_bk h
  have h5 := fun m r t W (h : BK w m r 8 2 4 t v3 5 8 8 [] W) => used_vk h.vk
  rw [hus] at h5
  have Hbn := Lib.hid hbn
  have H1 := Lib.hid h1
  have H2 := Lib.hid h2
  have H3 := Lib.hid h3
  have H4 := Lib.hid h4
  have H5 := Lib.hid h5
  clear hbn h1 h2 h3 h4 h5 hus
  go_enter Try.func31, Try.ntmps31
  go_wp2_with (first
    | (go_at_call 17; refine Hnew.out.mono ?_; rintro e w1 ⟨m, rfl, h⟩; have M := Lib.hid h; clear h Hnew)
    | (go_at_call 32; refine (Hbn.out _ _ M.out).mono ?_; rintro e w2 ⟨rfl, h⟩; clear M Hbn; have M := Lib.hid h; clear h)
    | (go_at_call 33; refine (H1.out _ _ _ M.out).mono ?_; rintro e w3 ⟨rfl, h⟩; clear M H1; have M := Lib.hid h; clear h)
    | (go_at_call 33; refine (H2.out _ _ _ M.out).mono ?_; rintro e w4 ⟨rfl, h⟩; clear M H2; have M := Lib.hid h; clear h)
    | (go_at_call 33; refine (H3.out _ _ _ M.out).mono ?_; rintro e w5 ⟨rfl, h⟩; clear M H3; have M := Lib.hid h; clear h)
    | (go_at_call 38; refine (H4.out _ _ _ _ M.out).mono ?_; rintro e w6 ⟨rfl, h⟩; clear M H4; have M := Lib.hid h; clear h)
    | (go_at_call 28; refine (H5.out _ _ _ _ M.out).mono ?_; rintro e w7 ⟨rfl, rfl⟩))
  go_ret
  exact ⟨rfl, M.out.below⟩
theorem rnil_none (w : World) : Calls Try.prog 115 #[.pointer none] w fun e w' => e = .returned (.bool true) ∧ w = w' := by
  go_enter Try.func115, Try.ntmps115
  go_wp2
  go_ret
  exact ⟨rfl, rfl⟩
theorem rnil_alloc (p : Int) (w : World) : Calls Try.prog 33 #[.pointer none, .int .i64 p] w fun e w' => e = .returned (.tuple #[.int .i64 0, .int .i64 9]) ∧ w = w' := by
  have H := Lib.hid rnil_none
  go_enter Try.func33, Try.ntmps33
  go_wp2_with (go_at_call 115; refine (H.out _).mono ?_; rintro e w1 ⟨rfl, rfl⟩)
  go_ret2
  exact ⟨rfl, rfl⟩
theorem rnil_set (p : Int) (w : World) : Calls Try.prog 35 #[.pointer none, .int .i64 p] w fun e w' => e = .returned (.int .i64 9) ∧ w = w' := by
  have H := Lib.hid rnil_none
  go_enter Try.func35, Try.ntmps35
  go_wp2_with (go_at_call 115; refine (H.out _).mono ?_; rintro e w1 ⟨rfl, rfl⟩)
  go_ret
  exact ⟨rfl, rfl⟩
theorem rnil_base (w : World) : Calls Try.prog 36 #[.pointer none] w fun e w' => e = .returned (.int .i64 0) ∧ w = w' := by
  have H := Lib.hid rnil_none
  go_enter Try.func36, Try.ntmps36
  go_wp2_with (go_at_call 115; refine (H.out _).mono ?_; rintro e w1 ⟨rfl, rfl⟩)
  go_ret
  exact ⟨rfl, rfl⟩
theorem rnil_limit (w : World) : Calls Try.prog 37 #[.pointer none] w fun e w' => e = .returned (.int .i64 0) ∧ w = w' := by
  have H := Lib.hid rnil_none
  go_enter Try.func37, Try.ntmps37
  go_wp2_with (go_at_call 115; refine (H.out _).mono ?_; rintro e w1 ⟨rfl, rfl⟩)
  go_ret
  exact ⟨rfl, rfl⟩
theorem rnil_top (w : World) : Calls Try.prog 34 #[.pointer none] w fun e w' => e = .returned (.int .i64 0) ∧ w = w' := by
  have H := Lib.hid rnil_none
  go_enter Try.func34, Try.ntmps34
  go_wp2_with (go_at_call 115; refine (H.out _).mono ?_; rintro e w1 ⟨rfl, rfl⟩)
  go_ret
  exact ⟨rfl, rfl⟩
theorem rnil_left (w : World) : Calls Try.prog 38 #[.pointer none] w fun e w' => e = .returned (.int .i64 0) ∧ w = w' := by
  have H := Lib.hid rnil_none
  go_enter Try.func38, Try.ntmps38
  go_wp2_with (go_at_call 115; refine (H.out _).mono ?_; rintro e w1 ⟨rfl, rfl⟩)
  go_ret
  exact ⟨rfl, rfl⟩
theorem rnil_release (w : World) : Calls Try.prog 39 #[.pointer none] w fun e w' => e = .returned (.int .i64 0) ∧ w = w' := by
  have H := Lib.hid rnil_none
  go_enter Try.func39, Try.ntmps39
  go_wp2_with (go_at_call 115; refine (H.out _).mono ?_; rintro e w1 ⟨rfl, rfl⟩)
  go_ret
  exact ⟨rfl, rfl⟩
theorem rnil_new (a b : Int) (w : World) : Calls Try.prog 32 #[.pointer none, .int .i64 a, .int .i64 b] w fun e w' => e = .returned (.tuple #[.pointer none, .int .i64 9]) ∧ w = w' := by
  have H := Lib.hid nil_words
  go_enter Try.func32, Try.ntmps32
  go_wp2_with (go_at_call 27; refine (H.out _).mono ?_; rintro e w1 ⟨rfl, rfl⟩)
  go_ret2
  exact ⟨rfl, rfl⟩
set_option maxRecDepth 100000 in
set_option maxHeartbeats 2000000 in
theorem bnobody_walk (a b : Int) (w : World) :
    Calls Try.prog 6 #[.int .i64 a, .int .i64 b] w fun e w' => e = .returned (.bool true) ∧ Below w.heap.size w w' := by
  have H0 := Lib.hid rnil_alloc
  have H1 := Lib.hid rnil_set
  have H2 := Lib.hid rnil_base
  have H3 := Lib.hid rnil_limit
  have H4 := Lib.hid rnil_top
  have H5 := Lib.hid rnil_left
  have H6 := Lib.hid rnil_release
  have Hn := Lib.hid rnil_new
  have Hv := Lib.hid blives_any
  go_enter Try.func6, Try.ntmps6
  go_wp2_with (first
    | (go_at_call 33; refine (H0.out _ _).mono ?_; rintro e w1 ⟨rfl, rfl⟩)
    | (go_at_call 35; refine (H1.out _ _).mono ?_; rintro e w1 ⟨rfl, rfl⟩)
    | (go_at_call 36; refine (H2.out _).mono ?_; rintro e w1 ⟨rfl, rfl⟩)
    | (go_at_call 37; refine (H3.out _).mono ?_; rintro e w1 ⟨rfl, rfl⟩)
    | (go_at_call 34; refine (H4.out _).mono ?_; rintro e w1 ⟨rfl, rfl⟩)
    | (go_at_call 38; refine (H5.out _).mono ?_; rintro e w1 ⟨rfl, rfl⟩)
    | (go_at_call 39; refine (H6.out _).mono ?_; rintro e w1 ⟨rfl, rfl⟩)
    | (go_at_call 32; refine (Hn.out _ _ _).mono ?_; rintro e w1 ⟨rfl, rfl⟩)
    | (go_at_call 31; refine (Hv.out _).mono ?_; rintro e w6 ⟨rfl, hb⟩))
  go_ret
  exact ⟨rfl, hb⟩
end Go.Proofs.Ytkcijlndblbidaa
