/- The walks of the laws HeaderPuts and HeaderKinds, for any header, word and numbers. -/
import Derived.Test.YtibhlblieeflbaaHdrPlain
import Derived.Deep.QuietTactic
import Derived.BigQuiet
import Derived.Lib.QuietBelow
namespace Go.Proofs.Ytibhlblieeflbaa
open Go.ChangeShapes Go.WideShapes Go.ChangeAt Go.RowKit
open Go.Sort (grow)

theorem lives_word : wordOf 1 0 2 = 6556678101676457985 := by decide +kernel
theorem lives_any (w : World) :
    Calls Try.prog 14 #[] w fun e w' => e = .returned (.bool true) ∧ Below w.heap.size w w' := by
  have hok : Ok 1 0 2 := by decide
  have hb := below_new w (hdrBlock 1 0 2)
  have hk := hdr_kept 1 0 2 w
  have h1 := put_yes 1 0 2
  have h2 := size_any 1 0 2
  have h3 := kind_any 1 0 2 1
  have e2 : sizeOf' 1 0 2 = 4 := by decide
  have e3 : kindOf 1 0 2 1 = 3 := by decide
  rw [e2] at h2
  rw [e3] at h3
  rw [lives_word] at h1
  unfold hdrBlock at hk hb
  unfold hv at *
  have H1 := Lib.hid fun w => h1 w hok
  have H2 := Lib.hid h2
  have H3 := Lib.hid h3
  clear h1 h2 h3 e2 e3 hok
  go_enter Try.func14, Try.ntmps14
  go_wp2_with (first | (go_at_call 6; refine (H1.out _).mono ?_; rintro e w1 ⟨rfl, hb1⟩; obtain ⟨⟨c0, c1, c2⟩, -⟩ := hk _ hb1; replace hb := seq hb hb1; clear hk) | (go_at_call 12; refine (H2.out _).mono ?_; rintro e w2 ⟨rfl, hb2⟩; replace c0 := cellB hb2 (Nat.le_refl _) c0; replace c1 := cellB hb2 (Nat.le_refl _) c1; replace c2 := cellB hb2 (Nat.le_refl _) c2; replace hb := seq hb hb2; clear hb2) | (go_at_call 15; refine (H3.out _).mono ?_; rintro e w3 ⟨rfl, hb3⟩; replace hb := seq hb hb3; clear hb3))
  go_ret
  exact ⟨rfl, hb⟩

theorem kinds_walk (p f o i c : Int) (w : World) :
    Calls Try.prog 4 #[hv p f o, .int .i64 i, .int .i64 c] w fun e w' => e = .returned (.bool true) ∧ Below w.heap.size w w' := by
  have hb := below_new w (hdrBlock p f o)
  obtain ⟨⟨c0, c1, c2⟩, -⟩ := hdr_kept p f o w _ (Below.refl _ _)
  have h1 := kind_any p f o i
  have h2 := refKind_any p f o i
  have h3 := count_any p f o c
  have h4 := refCount_any p f o c
  have h5 := first_any p f o c
  have h6 := refFirst_any p f o c
  rw [kindOf_eq] at h2
  rw [countOf_eq] at h4
  rw [firstOf_eq] at h6
  generalize kindOf p f o i = r1 at *
  generalize countOf p f o c = r2 at *
  generalize firstOf p f o c = r3 at *
  obtain ⟨W, hW⟩ : ∃ W, w.alloc (hdrBlock p f o) = W := ⟨_, rfl⟩
  rw [hW] at hb c0 c1 c2
  have k0 := cell_regrown c0
  have k1 := cell_regrown c1
  have k2 := cell_regrown c2
  have q1 := fun d os => Calls.regrown_of (w := W) (d := d) (os := os) (h1 _)
  have q2 := fun d os => Calls.regrown_of (w := W) (d := d) (os := os) (h2 _)
  have q3 := fun d os => Calls.regrown_of (w := W) (d := d) (os := os) (h3 _)
  have q4 := fun d os => Calls.regrown_of (w := W) (d := d) (os := os) (h4 _)
  have q5 := fun d os => Calls.regrown_of (w := W) (d := d) (os := os) (h5 _)
  have q6 := fun d os => Calls.regrown_of (w := W) (d := d) (os := os) (h6 _)
  have q7 := fun d os => Calls.regrown_of (w := W) (d := d) (os := os) (lives_any _)
  have Q1 := Lib.hid q1
  have Q2 := Lib.hid q2
  have Q3 := Lib.hid q3
  have Q4 := Lib.hid q4
  have Q5 := Lib.hid q5
  have Q6 := Lib.hid q6
  have Q7 := Lib.hid q7
  clear q1 q2 q3 q4 q5 q6 q7 h1 h2 h3 h4 h5 h6 c0 c1 c2
  unfold hdrBlock at hW
  unfold hv at *
  go_enter Try.func4, Try.ntmps4
  go_wp2
  refine wp_region_quiet_below (by kernel_rfl) (by kernel_rfl) ?_
  repeat (quiet_step (first | (go_at_call 15; exact Q1.out _ _) | (go_at_call 16; exact Q2.out _ _) | (go_at_call 17; exact Q3.out _ _) | (go_at_call 18; exact Q4.out _ _) | (go_at_call 19; exact Q5.out _ _) | (go_at_call 20; exact Q6.out _ _) | (go_at_call 14; exact Q7.out _ _)))
  refine wpQuiet_nil ?_
  intro _ hw'
  obtain ⟨⟨dq, osq⟩, hw''⟩ := hw'
  subst hw''
  go_wp2
  go_ret
  exact ⟨rfl, seq hb (below_regrown W dq osq)⟩

set_option maxHeartbeats 1000000 in
theorem puts_walk (p f o : Int) (x : Nat) (w : World) (hx : x < 18446744073709551616) :
    Calls Try.prog 3 #[hv p f o, .int .u64 x] w fun e w' => e = .returned (.bool true) ∧ Below w.heap.size w w' := by
  have hb := below_new w (hdrBlock p f o)
  have hb0 := heap_alloc_new w (hdrBlock p f o)
  obtain ⟨W, hW⟩ : ∃ W, w.alloc (hdrBlock p f o) = W := ⟨_, rfl⟩
  rw [hW] at hb hb0
  obtain ⟨a, q, h1, h2⟩ : ∃ (a : Nat) (q : Int), (∀ w, Calls Try.prog 6 #[hv p f o] w fun e w' => e = .returned (.tuple #[.int .u64 a, .int .i64 q]) ∧ Below w.heap.size w w') ∧ (∀ w, Calls Try.prog 7 #[hv p f o] w fun e w' => e = .returned (.tuple #[.int .u64 a, .int .i64 q]) ∧ Below w.heap.size w w') := by
    by_cases hok : Ok p f o
    · obtain ⟨p, f, o, rfl, rfl, rfl⟩ := ok_nat hok
      exact ⟨_, _, fun w => put_yes p f o w hok, fun w => refPut_yes p f o w hok⟩
    · exact ⟨0, 15, fun w => put_no p f o w hok, fun w => refPut_no p f o w hok⟩
  obtain ⟨a0, a1, a2, r, h3, h4⟩ : ∃ (a0 a1 a2 : Int) (r : Int), (∀ w, Calls Try.prog 8 #[.int .u64 x] w fun e w' => e = .returned (.tuple #[hv a0 a1 a2, .int .i64 r]) ∧ Below w.heap.size w w') ∧ (∀ w, Calls Try.prog 9 #[.int .u64 x] w fun e w' => e = .returned (.tuple #[hv a0 a1 a2, .int .i64 r]) ∧ Below w.heap.size w w') := by
    have g1 := fun w => take_any x w hx
    have g2 := fun w => refTake_any x w hx
    by_cases his : Is x
    · simp only [if_pos his] at g1 g2
      exact ⟨_, _, _, _, g1, g2⟩
    · simp only [if_neg his] at g1 g2
      exact ⟨_, _, _, _, g1, g2⟩
  have h5 := check_any p f o
  have h6 := may_any p f o
  have h7 := size_any p f o
  have h8 := refSize_any p f o
  generalize sizeOf' p f o = sz at *
  obtain ⟨ok, c, hc, hd, e1, e2⟩ : ∃ (ok : Bool) (c : Int), code p f o = c ∧ decide (Ok p f o) = ok ∧ (c == 0) = ok ∧ (c == 15) = !ok := by
    by_cases hok : Ok p f o
    · exact ⟨true, 0, code_ok hok, decide_eq_true hok, rfl, rfl⟩
    · exact ⟨false, 15, code_bad hok, decide_eq_false hok, rfl, rfl⟩
  rw [hc] at h5
  rw [hd] at h6
  clear hc hd
  have H1 := Lib.hid h1
  have H2 := Lib.hid h2
  have H3 := Lib.hid h3
  have H4 := Lib.hid h4
  have H5 := Lib.hid h5
  have H6 := Lib.hid h6
  have H7 := Lib.hid h7
  have H8 := Lib.hid h8
  have HW := Lib.hid hW
  have Hb0 := Lib.hid hb0
  clear h1 h2 h3 h4 h5 h6 h7 h8 hW hb0 hx
  unfold hdrBlock at *
  unfold hv at *
  go_enter Try.func3, Try.ntmps3
  go_wp2_with (first | (go_at_call 6; rw [HW.out]; refine (H1.out _).mono ?_; rintro e w1 ⟨rfl, hb1⟩; have B1 := Lib.hid (blockB hb1 (Nat.le_refl _) Hb0.out); replace hb := seq hb hb1; obtain ⟨⟨c0, c1, c2⟩, -⟩ := three B1.out; clear hb1) | (go_at_call 7; refine (H2.out _).mono ?_; rintro e w2 ⟨rfl, hb2⟩; clear c0 c1 c2; replace B1 := Lib.hid (blockB hb2 (Nat.le_refl _) B1.out); replace hb := seq hb hb2; clear hb2) | (go_at_call 8; refine (H3.out _).mono ?_; rintro e w3 ⟨rfl, hb3⟩; replace B1 := Lib.hid (blockB hb3 (Nat.le_refl _) B1.out); replace hb := seq hb hb3; clear hb3) | (go_at_call 9; refine (H4.out _).mono ?_; rintro e w4 ⟨rfl, hb4⟩; replace B1 := Lib.hid (blockB (seq (below_new _ _) hb4) (Nat.le_refl _) B1.out); have B2 := Lib.hid (blockB hb4 (Nat.le_refl _) (heap_alloc_new _ _)); replace hb := seq (seq hb (below_new _ _)) hb4; clear hb4))
  obtain ⟨W5, hW5⟩ : ∃ W5, W5 = w4.alloc (.cells #[.int .i64 a0, .int .i64 a1, .int .i64 a2] 23) := ⟨_, rfl⟩
  rw [← hW5]
  have hb5 : Below w4.heap.size w4 W5 := by rw [hW5]; exact below_new _ _
  have B3 : W5.heap[w4.heap.size]? = some (.cells #[.int .i64 a0, .int .i64 a1, .int .i64 a2] 23 (0, 0)) := by rw [hW5]; exact heap_alloc_new _ _
  replace B1 := blockB hb5 (Nat.le_refl _) B1.out
  replace B2 := blockB hb5 (Nat.le_refl _) B2.out
  replace hb := seq hb hb5
  clear hW5 hb5 HW Hb0 H1 H2 H3 H4
  obtain ⟨⟨c0, c1, c2⟩, -⟩ := three B1
  obtain ⟨⟨d0, d1, d2⟩, -⟩ := three B2
  obtain ⟨⟨f0, f1, f2⟩, -⟩ := three B3
  have k0 := cell_regrown c0
  have k1 := cell_regrown c1
  have k2 := cell_regrown c2
  have k3 := cell_regrown d0
  have k4 := cell_regrown d1
  have k5 := cell_regrown d2
  have k6 := cell_regrown f0
  have k7 := cell_regrown f1
  have k8 := cell_regrown f2
  have q5 := fun d os => Calls.regrown_of (w := W5) (d := d) (os := os) (H5.out _)
  have q6 := fun d os => Calls.regrown_of (w := W5) (d := d) (os := os) (H6.out _)
  have q7 := fun d os => Calls.regrown_of (w := W5) (d := d) (os := os) (H7.out _)
  have q8 := fun d os => Calls.regrown_of (w := W5) (d := d) (os := os) (H8.out _)
  have q9 := fun d os => Calls.regrown_of (w := W5) (d := d) (os := os) (lives_any _)
  have Q5 := Lib.hid q5
  have Q6 := Lib.hid q6
  have Q7 := Lib.hid q7
  have Q8 := Lib.hid q8
  have Q9 := Lib.hid q9
  clear q5 q6 q7 q8 q9 H5 H6 H7 H8 B1 B2 B3 c0 c1 c2 d0 d1 d2 f0 f1 f2
  cases ok
  all_goals
    refine wp_region_quiet_below (by kernel_rfl) (by kernel_rfl) ?_
    repeat (quiet_step (first | (go_at_call 10; exact Q5.out _ _) | (go_at_call 11; exact Q6.out _ _) | (go_at_call 12; exact Q7.out _ _) | (go_at_call 13; exact Q8.out _ _) | (go_at_call 14; exact Q9.out _ _)))
    refine wpQuiet_nil ?_
    intro _ hw'
    obtain ⟨⟨dq, osq⟩, hw''⟩ := hw'
    subst hw''
    go_wp2
    go_ret
    exact ⟨rfl, seq hb (below_regrown W5 dq osq)⟩
end Go.Proofs.Ytibhlblieeflbaa
