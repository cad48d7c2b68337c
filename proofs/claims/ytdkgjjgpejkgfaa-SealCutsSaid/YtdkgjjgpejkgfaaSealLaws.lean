/- The walk of the law SealSums, for any strings within the reach and any word. -/
import Derived.Test.YtdkgjjgpejkgfaaSealOpen
namespace Go.Proofs.Ytdkgjjgpejkgfaa
open Go.ChangeShapes Go.WideShapes Go.ChangeAt Go.RowKit

theorem sum_nine : Crc.sum (joined [str [49, 50, 51, 52, 53], str [54, 55, 56, 57]]) = 3808858755 := by decide +kernel
theorem sum_none : Crc.sum (joined []) = 0 := by decide +kernel
theorem strs_nil (w : World) : Strs w none [] := ⟨by simp, by simp, 0, 0, .inl rfl, by simp⟩
theorem strs_two (w : World) : Strs (w.alloc (.cells #[.string ⟨#[49, 50, 51, 52, 53]⟩, .string ⟨#[54, 55, 56, 57]⟩] 9)) (some ⟨w.heap.size, 0, none⟩) [str [49, 50, 51, 52, 53], str [54, 55, 56, 57]] where
  many := by simp [maxLen]
  each := by simp [str_size, maxLen]
  cell := ⟨w.heap.size, 0, .inr rfl, fun i hi => by
    have : i < 2 := hi
    match i, this with
    | 0, _ => simp [str]
    | 1, _ => simp [str]⟩

theorem lives_any (w : World) :
    Calls Try.prog 6 #[] w fun e w' => e = .returned (.bool true) ∧ Below w.heap.size w w' := by
  have h2 := strs_two w
  have e2 := sum_nine
  have e0 := sum_none
  go_enter Try.func6, Try.ntmps6
  go_wp2_with (first | (go_at_call 7; refine (of_any _ 2 [str [49, 50, 51, 52, 53], str [54, 55, 56, 57]] _ h2).mono ?_; rintro e w1 ⟨rfl, hb1⟩; rw [e2]) | (go_at_call 7; refine (of_any none 0 [] _ (strs_nil _)).mono ?_; rintro e w2 ⟨rfl, hb2⟩; rw [e0]))
  go_ret
  exact ⟨rfl, seq (seq (below_new w _) hb1) hb2⟩

theorem sums_great (s t : ByteArray) (x : Nat) (w : World) (h : 5000 < s.size + t.size) (hst : s.size + t.size ≤ maxLen) :
    Calls Try.prog 5 #[.string s, .string t, .int .u32 x] w fun e w' => e = .returned (.bool true) ∧ Below w.heap.size w w' := by
  unfold maxLen at hst
  have hb := Below.refl w.heap.size w
  go_enter Try.func5, Try.ntmps5
  go_wp2_with (go_at_call 6; refine (lives_any _).mono ?_; rintro e w1 ⟨rfl, hb1⟩; replace hb := seq hb hb1)
  go_ret
  exact ⟨rfl, hb⟩

theorem sums_short (s t : ByteArray) (x : Nat) (w : World) (hx : x < 4294967296) (h : s.size + t.size ≤ 5000) (ht : t.size < 4) :
    Calls Try.prog 5 #[.string s, .string t, .int .u32 x] w fun e w' => e = .returned (.bool true) ∧ Below w.heap.size w w' := by
  have hm : s.size ≤ maxLen := by unfold maxLen; omega
  have hm6 : s.size ≤ 1000000 := by omega
  have hj := joined_one s
  have hb := Below.refl w.heap.size w
  go_enter Try.func5, Try.ntmps5
  go_wp2_with (first | (go_at_call 11; refine (open_short t _ ht).mono ?_; rintro e w1 ⟨rfl, hb1⟩; replace hb := seq hb hb1) | (go_at_call 13; refine (refOpen_short t _ ht).mono ?_; rintro e w2 ⟨rfl, hb2⟩; replace hb := seq hb hb2) | (go_at_call 7; refine (of_any _ 1 [s] _ (strs_one _ s hm _)).mono ?_; rintro e w3 ⟨rfl, hb3⟩; replace hb := seq (seq hb (below_new _ _)) hb3) | (go_at_call 9; refine (refOf_any s _ hm6).mono ?_; rintro e w4 ⟨rfl, rfl⟩) | (go_at_call 8; refine (more_any x s _ hx hm).mono ?_; rintro e w5 ⟨rfl, hb5⟩; replace hb := seq hb hb5) | (go_at_call 14; refine (refMore_any x s _ hx hm6).mono ?_; rintro e w6 ⟨rfl, rfl⟩) | (go_at_call 10; refine (seal_any s _ hm6).mono ?_; rintro e w7 ⟨rfl, hb7⟩; replace hb := seq hb hb7) | (go_at_call 15; refine (refSeal_any s _ hm6).mono ?_; rintro e w8 ⟨rfl, hb8⟩; replace hb := seq hb hb8) | (go_at_call 6; refine (lives_any _).mono ?_; rintro e w9 ⟨rfl, hb9⟩; replace hb := seq hb hb9))
  go_ret
  exact ⟨rfl, hb⟩

theorem sums_long (n : Nat) (ok : Bool) (s t : ByteArray) (x : Nat) (w : World) (hx : x < 4294967296) (h : s.size + t.size ≤ 5000) (hn : t.size = n + 4) (hok : okB n t = ok) :
    Calls Try.prog 5 #[.string s, .string t, .int .u32 x] w fun e w' => e = .returned (.bool true) ∧ Below w.heap.size w w' := by
  have hm : s.size ≤ maxLen := by unfold maxLen; omega
  have hm6 : s.size ≤ 1000000 := by omega
  obtain ⟨a, q, ho1, ho2⟩ : ∃ (a : ByteArray) (q : Int), (∀ w, Calls Try.prog 11 #[.string t] w fun e w' => e = .returned (.tuple #[.string a, .int .i64 q]) ∧ Below w.heap.size w w') ∧ (∀ w, Calls Try.prog 13 #[.string t] w fun e w' => e = .returned (.tuple #[.string a, .int .i64 q]) ∧ Below w.heap.size w w') :=
    ⟨_, _, fun w => open_long ok n t w hn (by omega) hok, fun w => refOpen_long ok n t w hn (by omega) ((okB_ref n t).trans hok)⟩
  have hj := joined_one s
  have Ho1 := Lib.hid ho1
  have Ho2 := Lib.hid ho2
  clear ho1 ho2 hn hok
  have h5 : (s.size : Int) + (t.size : Int) ≤ 5000 := by omega
  clear h
  have hb := Below.refl w.heap.size w
  go_enter Try.func5, Try.ntmps5
  go_wp2_with (first | (go_at_call 11; refine (Ho1.out _).mono ?_; rintro e w1 ⟨rfl, hb1⟩; replace hb := seq hb hb1) | (go_at_call 13; refine (Ho2.out _).mono ?_; rintro e w2 ⟨rfl, hb2⟩; replace hb := seq hb hb2) | (go_at_call 7; refine (of_any _ 1 [s] _ (strs_one _ s hm _)).mono ?_; rintro e w3 ⟨rfl, hb3⟩; replace hb := seq (seq hb (below_new _ _)) hb3) | (go_at_call 9; refine (refOf_any s _ hm6).mono ?_; rintro e w4 ⟨rfl, rfl⟩) | (go_at_call 8; refine (more_any x s _ hx hm).mono ?_; rintro e w5 ⟨rfl, hb5⟩; replace hb := seq hb hb5) | (go_at_call 14; refine (refMore_any x s _ hx hm6).mono ?_; rintro e w6 ⟨rfl, rfl⟩) | (go_at_call 10; refine (seal_any s _ hm6).mono ?_; rintro e w7 ⟨rfl, hb7⟩; replace hb := seq hb hb7) | (go_at_call 15; refine (refSeal_any s _ hm6).mono ?_; rintro e w8 ⟨rfl, hb8⟩; replace hb := seq hb hb8) | (go_at_call 6; refine (lives_any _).mono ?_; rintro e w9 ⟨rfl, hb9⟩; replace hb := seq hb hb9))
  go_ret
  exact ⟨rfl, hb⟩

theorem sums_walk (s t : ByteArray) (x : Nat) (w : World) (hx : x < 4294967296) (hst : s.size + t.size ≤ maxLen) :
    Calls Try.prog 5 #[.string s, .string t, .int .u32 x] w fun e w' => e = .returned (.bool true) ∧ Below w.heap.size w w' := by
  by_cases h : 5000 < s.size + t.size
  · exact sums_great s t x w h hst
  · by_cases ht : t.size < 4
    · exact sums_short s t x w hx (by omega) ht
    · exact sums_long (t.size - 4) _ s t x w hx (by omega) (by omega) rfl
end Go.Proofs.Ytdkgjjgpejkgfaa
