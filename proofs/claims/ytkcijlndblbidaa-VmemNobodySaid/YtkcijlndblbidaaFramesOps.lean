/- The walks of a pool's small methods: frame, check, word, Load, Store, and the counts. -/
import Derived.Test.YtkcijlndblbidaaFramesMem
namespace Go.Proofs.Ytkcijlndblbidaa.Fr
open Go.ChangeShapes Go.WideShapes Go.ChangeAt Go.RowKit
set_option linter.unusedVariables false

section
variable {b room page : Nat} {s : PS} {aw at_ ab : Option Addr} {cw ct cb : Nat} {w : World}
theorem frame_any (hF : FMem b room page s aw cw at_ ct ab cb w) (hr0 : 1 ≤ room ∧ room ≤ 4096) (hp0 : 1 ≤ page ∧ page ≤ 256) (hfew : s.n ≤ room) (f g : Nat) (hf : f < s.n) (ha : aw = some ⟨g, 0, none⟩) :
    Calls Try.prog 148 #[.pointer (some ⟨b, 0, none⟩), .int .i64 f] w fun e w' => e = .returned (.slice (some ⟨g, f * page, none⟩) page page) ∧ w = w' := by
  subst ha
  have c0 := at_cell hF.head 0 _ rfl
  have c4 := at_cell hF.head 4 _ rfl
  obtain ⟨-, hcap, hcm, -⟩ := hF.words.form
  obtain ⟨hr1, hr2⟩ := hr0
  obtain ⟨hp1, hp2⟩ := hp0
  obtain ⟨q, hq⟩ : ∃ q, f * page = q := ⟨_, rfl⟩
  have hq2 : (f : Int) * (page : Int) = q := by rw [← hq, Int.natCast_mul]
  have hle : q + page ≤ s.n * page := by
    have := Nat.mul_le_mul_right page (show f + 1 ≤ s.n by omega)
    rw [Nat.add_mul] at this
    omega
  have hmx : s.n * page ≤ 4096 * 256 := Nat.mul_le_mul (by omega) hp2
  generalize s.n * page = N at *
  rw [hq]
  have Hq := Lib.hid hq
  clear hF hq
  unfold maxLen at hcm
  have h1 : (0 : Int) ≤ q := by omega
  have h2 : (q : Int) ≤ q + page := by omega
  have h3 : (q : Int) + page ≤ cw := by omega
  have h4 : (q : Int) + page ≤ 1048576 := by omega
  have h5 : ¬ ((q : Int) + page).toNat = q := by omega
  have h6 : ((q : Int) + page).toNat - q = page := by omega
  have h7 : ((q : Int) + page).toNat = q + page := by omega
  have h8 : ¬ q + page = q := by omega
  have h9 : q + page - q = page := by omega
  go_enter Try.func148, Try.ntmps148
  go_wp2
  go_ret
  exact ⟨rfl, rfl⟩
/-- is a frame taken? -/
def has (s : PS) (f : Int) : Bool := decide (0 ≤ f ∧ f < s.n) && s.tk f.toNat
theorem has_iff (s : PS) (f : Int) : has s f = true ↔ (0 ≤ f ∧ f < s.n) ∧ s.tk f.toNat = true := by simp [has]
theorem check_any (hF : FMem b room page s aw cw at_ ct ab cb w) (hk : s.ok room page) (f : Int) :
    Calls Try.prog 150 #[.pointer (some ⟨b, 0, none⟩), .int .i64 f] w fun e w' => e = .returned (.int .i64 (if has s f then 0 else 6)) ∧ w = w' := by
  have c1 := at_cell hF.head 1 _ rfl
  by_cases h1 : 0 ≤ f
  · by_cases h2 : f < s.n
    · obtain ⟨f, rfl⟩ : ∃ q : Nat, f = q := ⟨f.toNat, by omega⟩
      obtain ⟨-, -, -, hform, -⟩ := hF.taken.form
      obtain ⟨g, rfl, -, -⟩ := hform (by omega)
      have cf := hF.taken.cell (show f < s.n by omega)
      unfold takenV at cf
      by_cases h3 : s.tk f = true
      · rw [if_pos ((has_iff _ _).2 ⟨⟨h1, h2⟩, h3⟩)]
        rw [h3] at cf
        clear hF hk h3
        go_enter Try.func150, Try.ntmps150
        go_wp2
        go_ret
        exact ⟨rfl, rfl⟩
      · rw [if_neg (fun h => h3 ((has_iff _ _).1 h).2)]
        rw [show s.tk f = false by simpa using h3] at cf
        clear hF hk h3
        go_enter Try.func150, Try.ntmps150
        go_wp2
        go_ret
        exact ⟨rfl, rfl⟩
    · rw [if_neg (fun h => h2 ((has_iff _ _).1 h).1.2)]
      clear hF hk
      go_enter Try.func150, Try.ntmps150
      go_wp2
      go_ret
      exact ⟨rfl, rfl⟩
  · rw [if_neg (fun h => h1 ((has_iff _ _).1 h).1.1)]
    clear hF hk
    go_enter Try.func150, Try.ntmps150
    go_wp2
    go_ret
    exact ⟨rfl, rfl⟩
/-- what word, Load and Store answer -/
def wordE (page : Nat) (s : PS) (f at_ : Int) : Int := if ¬ has s f = true then 6 else if at_ < 0 ∨ (page : Int) ≤ at_ then 11 else 0
theorem word_no (hF : FMem b room page s aw cw at_ ct ab cb w) (hk : s.ok room page) (f i : Int) (h : wordE page s f i ≠ 0) :
    Calls Try.prog 144 #[.pointer (some ⟨b, 0, none⟩), .int .i64 f, .int .i64 i] w fun e w' => e = .returned (.tuple #[.pointer none, .int .i64 (wordE page s f i)]) ∧ w = w' := by
  have c4 := at_cell hF.head 4 _ rfl
  have Hc := check_any hF hk f
  unfold wordE at h ⊢
  by_cases h1 : has s f = true
  · rw [if_neg (Classical.not_not.2 h1)] at h ⊢
    rw [if_pos h1] at Hc
    by_cases h2 : i < 0 ∨ (page : Int) ≤ i
    · rw [if_pos h2]
      replace Hc := Lib.hid Hc
      clear hF hk h h1
      rcases h2 with h2 | h2
      · go_enter Try.func144, Try.ntmps144
        go_wp2_with (go_at_call 150; refine Hc.out.mono ?_; rintro e w1 ⟨rfl, rfl⟩)
        go_ret2
        exact ⟨rfl, rfl⟩
      · have h0 : ¬ i < 0 := by omega
        go_enter Try.func144, Try.ntmps144
        go_wp2_with (go_at_call 150; refine Hc.out.mono ?_; rintro e w1 ⟨rfl, rfl⟩)
        go_ret2
        exact ⟨rfl, rfl⟩
    · rw [if_neg h2] at h
      exact absurd rfl h
  · rw [if_pos h1]
    rw [if_neg h1] at Hc
    replace Hc := Lib.hid Hc
    clear hF hk h h1
    go_enter Try.func144, Try.ntmps144
    go_wp2_with (go_at_call 150; refine Hc.out.mono ?_; rintro e w1 ⟨rfl, rfl⟩)
    go_ret2
    exact ⟨rfl, rfl⟩
theorem word_yes (hF : FMem b room page s aw cw at_ ct ab cb w) (hk : s.ok room page) (f i g : Nat) (hh : has s f = true) (hi : i < page) (ha : aw = some ⟨g, 0, none⟩) :
    Calls Try.prog 144 #[.pointer (some ⟨b, 0, none⟩), .int .i64 f, .int .i64 i] w fun e w' => e = .returned (.tuple #[.pointer (some ⟨g, f * page + i, none⟩), .int .i64 0]) ∧ w = w' := by
  have c4 := at_cell hF.head 4 _ rfl
  have Hc := check_any hF hk f
  rw [if_pos hh] at Hc
  have Hf := Lib.hid (frame_any hF hk.room1 hk.page1 hk.few f g (by have := ((has_iff _ _).1 hh).1.2; omega) ha)
  replace Hc := Lib.hid Hc
  have h0 : ¬ (i : Int) < 0 := by omega
  have h1 : ¬ (page : Int) ≤ i := by omega
  have h2 : (i : Int) < page := by omega
  obtain ⟨q, hq⟩ : ∃ q, f * page = q := ⟨_, rfl⟩
  rw [hq] at Hf ⊢
  clear hF hk hh hi ha hq
  go_enter Try.func144, Try.ntmps144
  go_wp2_with (first | (go_at_call 150; refine Hc.out.mono ?_; rintro e w1 ⟨rfl, rfl⟩) | (go_at_call 148; refine Hf.out.mono ?_; rintro e w1 ⟨rfl, rfl⟩))
  go_ret2
  exact ⟨rfl, rfl⟩
end
end Go.Proofs.Ytkcijlndblbidaa.Fr
