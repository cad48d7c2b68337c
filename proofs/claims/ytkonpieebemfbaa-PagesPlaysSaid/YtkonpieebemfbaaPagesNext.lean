/- The walks of Next and Count. -/
import Derived.Test.YtkonpieebemfbaaPagesNew
namespace Go.Proofs.Ytkonpieebemfbaa
open Go.ChangeShapes Go.WideShapes Go.ChangeAt Go.RowKit
set_option linter.unusedVariables false

/-- the next page that has a frame, and how many of a run have one -/
def nextN (F : Nat → Nat) : Nat → Nat → Option Nat
  | 0, _ => none
  | k + 1, s => if F s ≠ 0 then some s else nextN F k (s + 1)
def nx (np : Nat) (F : Nat → Nat) (s : Nat) : Option Nat := nextN F (np - s) s
def nextV : Option Nat → Int × Bool
  | none => (0, false)
  | some q => (q, true)
def countN (F : Nat → Nat) : Nat → Nat → Nat
  | 0, _ => 0
  | k + 1, s => (if F s = 0 then 0 else 1) + countN F k (s + 1)
def cn (np : Nat) (F : Nat → Nat) (p to : Int) : Nat := countN F (min np to.toNat - p.toNat) p.toNat
theorem nextN_some {F : Nat → Nat} {k s q : Nat} (h : nextN F k s = some q) : s ≤ q ∧ q < s + k ∧ F q ≠ 0 ∧ ∀ r, s ≤ r → r < q → F r = 0 := by
  induction k generalizing s with
  | zero => cases h
  | succ k ih =>
    unfold nextN at h
    by_cases h0 : F s ≠ 0
    · rw [if_pos h0] at h
      obtain rfl : s = q := by simpa using h
      exact ⟨by omega, by omega, h0, fun r h1 h2 => by omega⟩
    · rw [if_neg h0] at h
      obtain ⟨a, b, c, d⟩ := ih h
      refine ⟨by omega, by omega, c, fun r h1 h2 => ?_⟩
      by_cases e : r = s
      · rw [e]; exact Classical.not_not.1 h0
      · exact d r (by omega) h2
theorem nextN_none {F : Nat → Nat} {k s : Nat} (h : nextN F k s = none) : ∀ r, s ≤ r → r < s + k → F r = 0 := by
  induction k generalizing s with
  | zero => intro r h1 h2; omega
  | succ k ih =>
    unfold nextN at h
    by_cases h0 : F s ≠ 0
    · rw [if_pos h0] at h; cases h
    · rw [if_neg h0] at h
      intro r h1 h2
      by_cases e : r = s
      · rw [e]; exact Classical.not_not.1 h0
      · exact ih h r (by omega) (by omega)
theorem nx_some {np : Nat} {F : Nat → Nat} {s q : Nat} (h : nx np F s = some q) : s ≤ q ∧ q < np ∧ F q ≠ 0 ∧ ∀ r, s ≤ r → r < q → F r = 0 := by
  obtain ⟨a, b, c, d⟩ := nextN_some h
  exact ⟨a, by omega, c, d⟩
theorem nx_none {np : Nat} {F : Nat → Nat} {s : Nat} (h : nx np F s = none) : ∀ r, s ≤ r → r < np → F r = 0 := fun r h1 h2 => nextN_none h r h1 (by omega)
theorem nx_of {np : Nat} {F : Nat → Nat} {s q : Nat} (h1 : s ≤ q) (h2 : q < np) (h3 : F q ≠ 0) (h4 : ∀ r, s ≤ r → r < q → F r = 0) : nx np F s = some q := by
  cases h : nx np F s with
  | none => exact absurd (nx_none h q h1 h2) h3
  | some p =>
    obtain ⟨a, b, c, d⟩ := nx_some h
    have h5 : ¬ p < q := fun e => c (h4 p a e)
    have h6 : ¬ q < p := fun e => h3 (d q h1 e)
    rw [show p = q by omega]
theorem nx_nil {np : Nat} {F : Nat → Nat} {s : Nat} (h : ∀ r, s ≤ r → r < np → F r = 0) : nx np F s = none := by
  cases h1 : nx np F s with
  | none => rfl
  | some p =>
    obtain ⟨a, b, c, d⟩ := nx_some h1
    exact absurd (h p a b) c
theorem nx_skip {np : Nat} {F : Nat → Nat} {s t : Nat} (h : s ≤ t) (h0 : ∀ r, s ≤ r → r < t → F r = 0) : nx np F s = nx np F t := by
  cases h1 : nx np F t with
  | none =>
    have h2 := nx_none h1
    exact nx_nil fun r a b => by
      by_cases e : r < t
      · exact h0 r a e
      · exact h2 r (by omega) b
  | some q =>
    obtain ⟨a, b, c, d⟩ := nx_some h1
    exact nx_of (by omega) b c fun r x y => by
      by_cases e : r < t
      · exact h0 r x e
      · exact d r (by omega) y
theorem nx_here {np : Nat} {F : Nat → Nat} {s : Nat} (h : s < np) (h0 : F s ≠ 0) : nx np F s = some s := nx_of (Nat.le_refl _) h h0 fun r a b => by omega
theorem countN_zero {F : Nat → Nat} {k s : Nat} (h : ∀ r, s ≤ r → r < s + k → F r = 0) : countN F k s = 0 := by
  induction k generalizing s with
  | zero => rfl
  | succ k ih =>
    unfold countN
    rw [if_pos (h s (by omega) (by omega)), ih fun r a b => h r (by omega) (by omega)]
theorem countN_skip {F : Nat → Nat} {k s d : Nat} (h : ∀ r, s ≤ r → r < s + d → F r = 0) : countN F (d + k) s = countN F k (s + d) := by
  induction d generalizing s with
  | zero => rw [Nat.zero_add, Nat.add_zero]
  | succ d ih =>
    rw [show d + 1 + k = (d + k) + 1 by omega]
    conv => lhs; unfold countN
    rw [if_pos (h s (by omega) (by omega)), ih fun r a b => h r (by omega) (by omega), Nat.zero_add, show s + 1 + d = s + (d + 1) by omega]
theorem countN_le (F : Nat → Nat) (k s : Nat) : countN F k s ≤ k := by
  induction k generalizing s with
  | zero => exact Nat.le_refl _
  | succ k ih => unfold countN; have := ih (s + 1); split <;> omega
theorem cn_le (np : Nat) (F : Nat → Nat) (p to : Int) : cn np F p to ≤ np := by
  have := countN_le F (min np to.toNat - p.toNat) p.toNat
  unfold cn
  omega
theorem cn_none {np : Nat} {F : Nat → Nat} {p to : Int} (h : nx np F p.toNat = none) : cn np F p to = 0 :=
  countN_zero fun r a b => nx_none h r a (by omega)
theorem cn_far {np : Nat} {F : Nat → Nat} {p to : Int} {q : Nat} (h : nx np F p.toNat = some q) (hq : to ≤ q) : cn np F p to = 0 := by
  obtain ⟨a, b, c, d⟩ := nx_some h
  exact countN_zero fun r x y => d r x (by omega)
theorem cn_step {np : Nat} {F : Nat → Nat} {p to : Int} {q : Nat} (h : nx np F p.toNat = some q) (hq : (q : Int) < to) : cn np F p to = cn np F ((q : Int) + 1) to + 1 := by
  obtain ⟨a, b, c, d⟩ := nx_some h
  unfold cn
  obtain ⟨e, he⟩ : ∃ e, min np to.toNat = q + 1 + e := ⟨min np to.toNat - (q + 1), by omega⟩
  rw [he, show q + 1 + e - p.toNat = (q - p.toNat) + (1 + e) by omega, countN_skip fun r x y => d r x (by omega), show p.toNat + (q - p.toNat) = q by omega, show ((q : Int) + 1).toNat = q + 1 by omega, show q + 1 + e - (q + 1) = e by omega, show 1 + e = e + 1 by omega]
  conv => lhs; unfold countN
  rw [if_neg c]
  omega
theorem nil_table {b tb np : Nat} {ts : List (Option Nat)} {F : Nat → Nat} {w : World} (hM : PMap b tb np ts F w) {s : Nat} (hs : s / 256 < ts.length) (h : ts.getD (s / 256) none = none) : ∀ r, s ≤ r → r < (s / 256 + 1) * 256 → F r = 0 := by
  intro r a c
  have := hM.none (s / 256) hs h (r - s / 256 * 256) (by omega)
  rw [show s / 256 * 256 + (r - s / 256 * 256) = r by omega] at this
  exact this

set_option maxRecDepth 100000 in
set_option maxHeartbeats 4000000 in
theorem next_neg (b tb np : Nat) (ts : List (Option Nat)) (F : Nat → Nat) (w : World) (hM : PMap b tb np ts F w) (p : Int) (hp : p < 0) :
    Calls Try.prog 17 #[.pointer (some ⟨b, 0, none⟩), .int .i64 p] w fun e w' => e = .returned (.tuple #[.int .i64 (nextV (nx np F 0)).1, .bool (nextV (nx np F 0)).2]) ∧ w = w' := by
  have c0 := at_cell hM.head 0 _ rfl
  have c1 := at_cell hM.head 1 _ rfl
  have hm := hM.many
  have HM := Lib.hid hM
  obtain ⟨X, hX⟩ : ∃ X, nx np F 0 = X := ⟨_, rfl⟩
  rw [hX]
  have HX := Lib.hid hX
  clear hM hX
  go_enter Try.func17, Try.ntmps17
  go_wp2
  go_loopw [1] (fun v wr => ∃ s : Nat, v = .int .i64 s ∧ s ≤ 9223372036854775807 ∧ X = nx np F s ∧ wr = w) (fun v _ => np - (intOf v).toNat)
  case atStart => exact ⟨0, by first | rfl | simp, by omega, HX.out.symm, rfl⟩
  case round =>
    obtain ⟨s, rfl, hs, hnx, rfl⟩ := hrel
    have Hnx := Lib.hid hnx
    clear hnx HX
    by_cases hlt : s < np
    · have hi : s / 256 < ts.length := by omega
      have ci := ts_cell HM.out hi
      have Hn := fun ht => Lib.hid (nil_table HM.out hi ht)
      have Hget := get_any b tb np ts F wr HM.out (s / 256) (s % 256) hi (by omega)
      rw [show s / 256 * 256 + s % 256 = s by omega] at Hget
      obtain ⟨i, hi2⟩ : ∃ i, s / 256 = i := ⟨_, rfl⟩
      obtain ⟨j, hj2⟩ : ∃ j, s % 256 = j := ⟨_, rfl⟩
      have hq : (s : Int) / 256 = i := by omega
      have hr : (s : Int) % 256 = j := by omega
      have hs2 : (s : Int) ≤ 1000000 := by omega
      have hj : j < 256 := by omega
      have Hs3 := Lib.hid (show s = i * 256 + j by omega)
      rw [hi2] at hi ci Hn
      have Hn2 := Lib.hid Hn
      clear hi2 hj2 Hn
      cases ht : ts.getD i none with
      | none =>
        rw [ht] at ci
        unfold ptr at ci
        simp only [Option.map_none] at ci
        have Hn := Lib.hid ((Hn2.out ht).out)
        clear ht Hn2 Hget
        go_wp2
        go_roundw
        case rel => exact ⟨(i + 1) * 256, by have := Hs3.out; congr 1; omega, by omega, by rw [Hnx.out]; exact nx_skip (by have := Hs3.out; omega) Hn.out, trivial⟩
        case measure => have := Hs3.out; simp [intOf]; omega
      | some k =>
        rw [ht] at ci
        unfold ptr at ci
        simp only [Option.map_some] at ci
        clear ht Hn2
        by_cases hF : F s = 0
        · rw [hF] at Hget
          have Hsk := Lib.hid (nx_skip (np := np) (F := F) (s := s) (t := s + 1) (by omega) (fun r a b => by rw [show r = s by omega]; exact hF))
          replace Hget := Lib.hid Hget
          clear hF
          go_wp2_with (go_at_call 23; refine Hget.out.mono ?_; rintro e w1 ⟨rfl, rfl⟩)
          go_roundw
          case rel => exact ⟨s + 1, by go_num, by omega, Hnx.out.trans Hsk.out, trivial⟩
          case measure => simp [intOf]; omega
        · have hh := nx_here hlt hF
          have hF2 : ¬ (F s : Int) = 0 := by omega
          have Hres := Lib.hid (Hnx.out.trans hh)
          replace Hget := Lib.hid Hget
          generalize (F s : Int) = x at *
          clear hF hh
          go_wp2_with (go_at_call 23; refine Hget.out.mono ?_; rintro e w1 ⟨rfl, rfl⟩)
          go_ret2
          rw [Hres.out]
          exact ⟨rfl, rfl⟩
    · have hge : ¬ (s : Int) < np := by omega
      go_wp2
      go_ret2
      rw [Hnx.out, nx_nil (fun r a b => by omega)]
      exact ⟨rfl, rfl⟩
set_option maxRecDepth 100000 in
set_option maxHeartbeats 4000000 in
theorem next_pos (b tb np : Nat) (ts : List (Option Nat)) (F : Nat → Nat) (w : World) (hM : PMap b tb np ts F w) (p : Nat) (hp : (p : Int) ≤ 9223372036854775807) :
    Calls Try.prog 17 #[.pointer (some ⟨b, 0, none⟩), .int .i64 p] w fun e w' => e = .returned (.tuple #[.int .i64 (nextV (nx np F p)).1, .bool (nextV (nx np F p)).2]) ∧ w = w' := by
  have c0 := at_cell hM.head 0 _ rfl
  have c1 := at_cell hM.head 1 _ rfl
  have hm := hM.many
  have HM := Lib.hid hM
  obtain ⟨X, hX⟩ : ∃ X, nx np F p = X := ⟨_, rfl⟩
  rw [hX]
  have HX := Lib.hid hX
  clear hM hX
  have hp0 : ¬ (p : Int) < 0 := by omega
  go_enter Try.func17, Try.ntmps17
  go_wp2
  go_loopw [1] (fun v wr => ∃ s : Nat, v = .int .i64 s ∧ s ≤ 9223372036854775807 ∧ X = nx np F s ∧ wr = w) (fun v _ => np - (intOf v).toNat)
  case atStart => exact ⟨p, by first | rfl | simp, by omega, HX.out.symm, rfl⟩
  case round =>
    obtain ⟨s, rfl, hs, hnx, rfl⟩ := hrel
    have Hnx := Lib.hid hnx
    clear hnx HX
    by_cases hlt : s < np
    · have hi : s / 256 < ts.length := by omega
      have ci := ts_cell HM.out hi
      have Hn := fun ht => Lib.hid (nil_table HM.out hi ht)
      have Hget := get_any b tb np ts F wr HM.out (s / 256) (s % 256) hi (by omega)
      rw [show s / 256 * 256 + s % 256 = s by omega] at Hget
      obtain ⟨i, hi2⟩ : ∃ i, s / 256 = i := ⟨_, rfl⟩
      obtain ⟨j, hj2⟩ : ∃ j, s % 256 = j := ⟨_, rfl⟩
      have hq : (s : Int) / 256 = i := by omega
      have hr : (s : Int) % 256 = j := by omega
      have hs2 : (s : Int) ≤ 1000000 := by omega
      have hj : j < 256 := by omega
      have Hs3 := Lib.hid (show s = i * 256 + j by omega)
      rw [hi2] at hi ci Hn
      have Hn2 := Lib.hid Hn
      clear hi2 hj2 Hn
      cases ht : ts.getD i none with
      | none =>
        rw [ht] at ci
        unfold ptr at ci
        simp only [Option.map_none] at ci
        have Hn := Lib.hid ((Hn2.out ht).out)
        clear ht Hn2 Hget
        go_wp2
        go_roundw
        case rel => exact ⟨(i + 1) * 256, by have := Hs3.out; congr 1; omega, by omega, by rw [Hnx.out]; exact nx_skip (by have := Hs3.out; omega) Hn.out, trivial⟩
        case measure => have := Hs3.out; simp [intOf]; omega
      | some k =>
        rw [ht] at ci
        unfold ptr at ci
        simp only [Option.map_some] at ci
        clear ht Hn2
        by_cases hF : F s = 0
        · rw [hF] at Hget
          have Hsk := Lib.hid (nx_skip (np := np) (F := F) (s := s) (t := s + 1) (by omega) (fun r a b => by rw [show r = s by omega]; exact hF))
          replace Hget := Lib.hid Hget
          clear hF
          go_wp2_with (go_at_call 23; refine Hget.out.mono ?_; rintro e w1 ⟨rfl, rfl⟩)
          go_roundw
          case rel => exact ⟨s + 1, by go_num, by omega, Hnx.out.trans Hsk.out, trivial⟩
          case measure => simp [intOf]; omega
        · have hh := nx_here hlt hF
          have hF2 : ¬ (F s : Int) = 0 := by omega
          have Hres := Lib.hid (Hnx.out.trans hh)
          replace Hget := Lib.hid Hget
          generalize (F s : Int) = x at *
          clear hF hh
          go_wp2_with (go_at_call 23; refine Hget.out.mono ?_; rintro e w1 ⟨rfl, rfl⟩)
          go_ret2
          rw [Hres.out]
          exact ⟨rfl, rfl⟩
    · have hge : ¬ (s : Int) < np := by omega
      go_wp2
      go_ret2
      rw [Hnx.out, nx_nil (fun r a b => by omega)]
      exact ⟨rfl, rfl⟩
theorem next_mp (S : Nat → Prop) (b np : Nat) (F : Nat → Nat) (w : World) (hM : Mp S b np F w) (p : Int) (hp : p ≤ 9223372036854775807) :
    Calls Try.prog 17 #[.pointer (some ⟨b, 0, none⟩), .int .i64 p] w fun e w' => e = .returned (.tuple #[.int .i64 (nextV (nx np F p.toNat)).1, .bool (nextV (nx np F p.toNat)).2]) ∧ w = w' := by
  obtain ⟨tb, ts, hM, _⟩ := hM
  by_cases h : p < 0
  · rw [show p.toNat = 0 by omega]
    exact next_neg b tb np ts F w hM p h
  · obtain ⟨q, rfl⟩ : ∃ q : Nat, p = q := ⟨p.toNat, by omega⟩
    rw [Int.toNat_natCast]
    exact next_pos b tb np ts F w hM q hp
end Go.Proofs.Ytkonpieebemfbaa
