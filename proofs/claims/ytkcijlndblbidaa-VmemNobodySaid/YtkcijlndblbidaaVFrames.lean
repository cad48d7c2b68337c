/- Which frames are taken behind Take and Give, and their words. -/
import Derived.Test.YtkcijlndblbidaaFramesNobodyW
namespace Go.Proofs.Ytkcijlndblbidaa.Fr
open Go.ChangeShapes Go.WideShapes Go.ChangeAt Go.RowKit
set_option linter.unusedVariables false

theorem has_take {room page : Nat} {s : PS} (hk : s.ok room page) (hu : s.used < room) (g : Int) : has (takeS s) g = (decide (g = nextF s) || has s g) ∧ has s (nextF s) = false := by
  rcases List.eq_nil_or_concat s.bk with h | ⟨l, f, h⟩
  · have hfs : freshS s = moreS s := by unfold freshS; rw [if_pos h]
    have hnx : nextF s = s.n := by unfold nextF; rw [h]; rfl
    have hn : (takeS s).n = s.n + 1 := by show (freshS s).n = _; rw [hfs]; rfl
    have ht : ∀ i, (takeS s).tk i = if i = s.n then true else s.tk i := fun i => by
      show (if i = nextF s then true else (freshS s).tk i) = _
      rw [hnx, hfs]
      show (if i = s.n then true else if i = s.n then false else s.tk i) = _
      split <;> rfl
    refine ⟨?_, ?_⟩
    · unfold has
      rw [hn, ht, hnx]
      by_cases h0 : 0 ≤ g
      · by_cases h1 : g = s.n
        · subst h1
          simp
          omega
        · have h2 : ¬ g.toNat = s.n := by omega
          have h3 : (0 ≤ g ∧ g < ((s.n + 1 : Nat) : Int)) ↔ (0 ≤ g ∧ g < (s.n : Int)) := by omega
          rw [if_neg h2, decide_eq_false h1, Bool.false_or]
          simp only [h3]
      · rw [decide_eq_false (by omega), decide_eq_false (by omega), decide_eq_false (by omega)]
        rfl
    · unfold has
      rw [hnx, decide_eq_false (by omega)]
      rfl
  · rw [List.concat_eq_append] at h
    have hfs : freshS s = dropBack s l := by unfold freshS; rw [if_neg (by rw [h]; simp), h]; simp
    have hnx : nextF s = f := by unfold nextF; rw [h]; simp
    have hn : (takeS s).n = s.n := by show (freshS s).n = _; rw [hfs]; rfl
    obtain ⟨hfn, hft⟩ := hk.back f (by rw [h]; simp)
    have ht : ∀ i, (takeS s).tk i = if i = f then true else s.tk i := fun i => by
      show (if i = nextF s then true else (freshS s).tk i) = _
      rw [hnx, hfs]
      rfl
    refine ⟨?_, ?_⟩
    · unfold has
      rw [hn, ht, hnx]
      by_cases h1 : g = f
      · subst h1
        simp
        omega
      · by_cases h0 : 0 ≤ g
        · have h2 : ¬ g.toNat = f := by omega
          rw [if_neg h2, decide_eq_false h1, Bool.false_or]
        · rw [decide_eq_false (by omega), decide_eq_false (by omega)]
          rfl
    · unfold has
      rw [hnx, Int.toNat_natCast, hft]
      simp
theorem wd_take {room page : Nat} {s : PS} (hk : s.ok room page) (hu : s.used < room) (g i : Nat) (hg : g ≠ nextF s) (hn : g < s.n) : (takeS s).wd g i = s.wd g i := by
  show (if g = nextF s then 0 else (freshS s).wd g i) = _
  rw [if_neg hg]
  unfold freshS
  split
  · show (if g = s.n then 0 else s.wd g i) = _
    rw [if_neg (by omega)]
  · rfl
theorem take_zero (s : PS) (i : Nat) : (takeS s).wd (nextF s) i = 0 := by
  show (if nextF s = nextF s then 0 else _) = 0
  rw [if_pos rfl]
theorem has_give (s : PS) (f g : Int) (h0 : 0 ≤ f) : has (giveT s f.toNat) g = (!decide (g = f) && has s g) := by
  unfold has
  show (decide (0 ≤ g ∧ g < (s.n : Int)) && if g.toNat = f.toNat then false else s.tk g.toNat) = _
  by_cases e : g = f
  · subst e
    rw [if_pos rfl]
    simp
  · by_cases h1 : 0 ≤ g
    · rw [if_neg (by omega), decide_eq_false e]
      simp
    · rw [decide_eq_false (by omega)]
      simp
end Go.Proofs.Ytkcijlndblbidaa.Fr
