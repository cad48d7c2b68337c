/- The law FramesApart's own map beside the pool: what holds of both. -/
import Derived.Test.YtoldbaandkgmkaaIntMap
namespace Go.Proofs.Ytoldbaandkgmkaa
open Go.ChangeShapes Go.WideShapes Go.ChangeAt Go.RowKit
set_option linter.unusedVariables false

/-- the law's map has the taken frames, each with the word that all its cells hold -/
def Joint (page : Nat) (s : PS) (m : Int → Option Nat) : Prop :=
  (∀ f, isInt f → (m f).isSome = has s f) ∧ ∀ f x, isInt f → m f = some x → x < 18446744073709551616 ∧ ∀ i, i < page → s.wd f.toNat i = x
def fillS (s : PS) (f i x : Nat) : PS := { s with wd := fun g j => if g = f ∧ j < i then x else s.wd g j }
theorem fillS_zero (s : PS) (f x : Nat) : fillS s f 0 x = s := by
  unfold fillS
  congr 1
  funext g j
  rw [if_neg (by omega)]
theorem fillS_ok {room page : Nat} {s : PS} (hk : s.ok room page) (f i x : Nat) (hx : x < 18446744073709551616) : (fillS s f i x).ok room page :=
  ⟨hk.room1, hk.page1, hk.few, hk.less, hk.used, hk.high, hk.back, hk.once, fun g j => by
    show (if g = f ∧ j < i then x else s.wd g j) < _
    split
    · exact hx
    · exact hk.small g j⟩
theorem has_fill (s : PS) (f i x : Nat) (g : Int) : has (fillS s f i x) g = has s g := rfl
theorem fillS_store {page : Nat} {s : PS} {f i x : Nat} (h : has s f = true) (hi : i < page) : storeS page (fillS s f i x) f i x = fillS s f (i + 1) x ∧ wordE page (fillS s f i x) f i = 0 := by
  have hw : wordE page (fillS s f i x) f i = 0 := by
    unfold wordE
    rw [has_fill, if_neg (Classical.not_not.2 h), if_neg (by omega)]
  refine ⟨?_, hw⟩
  unfold storeS
  rw [if_pos hw, Int.toNat_natCast, Int.toNat_natCast]
  unfold putW fillS
  congr 1
  funext g j
  show (if g = f ∧ j = i then x else if g = f ∧ j < i then x else s.wd g j) = if g = f ∧ j < i + 1 then x else s.wd g j
  by_cases hg : g = f
  · by_cases hj : j = i
    · rw [if_pos ⟨hg, hj⟩, if_pos ⟨hg, by omega⟩]
    · rw [if_neg (by omega)]
      by_cases hl : j < i
      · rw [if_pos ⟨hg, hl⟩, if_pos ⟨hg, by omega⟩]
      · rw [if_neg (by omega), if_neg (by omega)]
  · rw [if_neg (by omega), if_neg (by omega), if_neg (by omega)]
theorem has_take {room page : Nat} {s : PS} (hk : s.ok room page) (hu : s.used < room) (g : Int) : has (takeS s) g = (decide (g = nextF s) || has s g) ∧ has s (nextF s) = false := by
  rcases List.eq_nil_or_concat s.bk with h | ⟨l, f, h⟩
  · have hfs : freshS s = moreS s := by unfold freshS; rw [if_pos h]
    have hnx : nextF s = s.n := by unfold nextF; rw [h]; rfl
    have hn : (takeS s).n = s.n + 1 := by show (freshS s).n = _; rw [hfs]; rfl
    have ht : ∀ i, (takeS s).tk i = if i = s.n then true else s.tk i := fun i => by
      show (if i = nextF s then true else (freshS s).tk i) = _
      rw [hnx, hfs]
      show (if i = s.n then true else if i = s.n then false else s.tk i) = _
      split <;> rfl
    refine ⟨?_, ?_⟩
    · unfold has
      rw [hn, ht, hnx]
      by_cases h0 : 0 ≤ g
      · by_cases h1 : g = s.n
        · subst h1
          simp
          omega
        · have h2 : ¬ g.toNat = s.n := by omega
          have h3 : (0 ≤ g ∧ g < ((s.n + 1 : Nat) : Int)) ↔ (0 ≤ g ∧ g < (s.n : Int)) := by omega
          rw [if_neg h2, decide_eq_false h1, Bool.false_or]
          simp only [h3]
      · rw [decide_eq_false (by omega), decide_eq_false (by omega), decide_eq_false (by omega)]
        rfl
    · unfold has
      rw [hnx, decide_eq_false (by omega)]
      rfl
  · rw [List.concat_eq_append] at h
    have hfs : freshS s = dropBack s l := by unfold freshS; rw [if_neg (by rw [h]; simp), h]; simp
    have hnx : nextF s = f := by unfold nextF; rw [h]; simp
    have hn : (takeS s).n = s.n := by show (freshS s).n = _; rw [hfs]; rfl
    obtain ⟨hfn, hft⟩ := hk.back f (by rw [h]; simp)
    have ht : ∀ i, (takeS s).tk i = if i = f then true else s.tk i := fun i => by
      show (if i = nextF s then true else (freshS s).tk i) = _
      rw [hnx, hfs]
      rfl
    refine ⟨?_, ?_⟩
    · unfold has
      rw [hn, ht, hnx]
      by_cases h1 : g = f
      · subst h1
        simp
        omega
      · by_cases h0 : 0 ≤ g
        · have h2 : ¬ g.toNat = f := by omega
          rw [if_neg h2, decide_eq_false h1, Bool.false_or]
        · rw [decide_eq_false (by omega), decide_eq_false (by omega)]
          rfl
    · unfold has
      rw [hnx, Int.toNat_natCast, hft]
      simp
theorem wd_take {room page : Nat} {s : PS} (hk : s.ok room page) (hu : s.used < room) (g i : Nat) (hg : g ≠ nextF s) (hn : g < s.n) : (takeS s).wd g i = s.wd g i := by
  show (if g = nextF s then 0 else (freshS s).wd g i) = _
  rw [if_neg hg]
  unfold freshS
  split
  · show (if g = s.n then 0 else s.wd g i) = _
    rw [if_neg (by omega)]
  · rfl
theorem take_zero (s : PS) (i : Nat) : (takeS s).wd (nextF s) i = 0 := by
  show (if nextF s = nextF s then 0 else _) = 0
  rw [if_pos rfl]
theorem Joint.take {room page : Nat} {s : PS} {m : Int → Option Nat} (h : Joint page s m) (hk : s.ok room page) (hu : s.used < room) (x : Nat) (hx : x < 18446744073709551616) :
    Joint page (fillS (takeS s) (nextF s) page x) (fun g => if g = (nextF s : Int) then some x else m g) := by
  refine ⟨fun f hf => ?_, fun f y hf hy => ?_⟩
  · rw [has_fill, (has_take hk hu f).1]
    show (if f = (nextF s : Int) then some x else m f).isSome = _
    by_cases e : f = (nextF s : Int)
    · rw [if_pos e, decide_eq_true e]; rfl
    · rw [if_neg e, decide_eq_false e, Bool.false_or]
      exact h.1 f hf
  · have hy' : (if f = (nextF s : Int) then some x else m f) = some y := hy
    by_cases e : f = (nextF s : Int)
    · rw [if_pos e] at hy'
      obtain rfl : x = y := by simpa using hy'
      refine ⟨hx, fun i hi => ?_⟩
      show (if f.toNat = nextF s ∧ i < page then x else _) = x
      rw [if_pos ⟨by omega, hi⟩]
    · rw [if_neg e] at hy'
      obtain ⟨h1, h2⟩ := h.2 f y hf hy'
      refine ⟨h1, fun i hi => ?_⟩
      have hh : has s f = true := by rw [← h.1 f hf, hy']; rfl
      obtain ⟨⟨a, c⟩, d⟩ := (has_iff _ _).1 hh
      show (if f.toNat = nextF s ∧ i < page then x else (takeS s).wd f.toNat i) = y
      rw [if_neg (by omega), wd_take hk hu _ _ (by omega) (by omega)]
      exact h2 i hi
theorem Joint.give {page : Nat} {s : PS} {m : Int → Option Nat} (h : Joint page s m) (f : Int) (hh : has s f = true) : Joint page (giveT s f.toNat) (fun g => if g = f then none else m g) := by
  obtain ⟨⟨a, c⟩, d⟩ := (has_iff _ _).1 hh
  refine ⟨fun g hg => ?_, fun g y hg hy => ?_⟩
  · show (if g = f then none else m g).isSome = _
    have hgive : has (giveT s f.toNat) g = (!decide (g = f) && has s g) := by
      unfold has
      show (decide (0 ≤ g ∧ g < (s.n : Int)) && if g.toNat = f.toNat then false else s.tk g.toNat) = _
      by_cases e : g = f
      · subst e
        rw [if_pos rfl]
        simp
      · by_cases h0 : 0 ≤ g
        · rw [if_neg (by omega), decide_eq_false e]
          simp
        · rw [decide_eq_false (by omega)]
          simp
    rw [hgive]
    by_cases e : g = f
    · rw [if_pos e, decide_eq_true e]; rfl
    · rw [if_neg e, decide_eq_false e]
      simpa using h.1 g hg
  · have hy' : (if g = f then none else m g) = some y := hy
    by_cases e : g = f
    · rw [if_pos e] at hy'; cases hy'
    · rw [if_neg e] at hy'
      exact h.2 g y hg hy'
theorem Joint.start (page : Nat) : Joint page start (fun _ => none) := ⟨fun f _ => by
  show false = (decide (0 ≤ f ∧ f < ((0 : Nat) : Int)) && false)
  simp, fun f x _ h => by cases h⟩
theorem pow_page (p : Int) (h0 : 0 ≤ p) : ∃ page : Nat, wrap64 (2 ^ (p % 9).toNat) = page ∧ isPage page := by
  have h : (p % 9).toNat < 9 := by omega
  generalize (p % 9).toNat = k at *
  have : k = 0 ∨ k = 1 ∨ k = 2 ∨ k = 3 ∨ k = 4 ∨ k = 5 ∨ k = 6 ∨ k = 7 ∨ k = 8 := by omega
  rcases this with rfl | rfl | rfl | rfl | rfl | rfl | rfl | rfl | rfl
  · exact ⟨1, by decide +kernel, by unfold isPage; omega⟩
  · exact ⟨2, by decide +kernel, by unfold isPage; omega⟩
  · exact ⟨4, by decide +kernel, by unfold isPage; omega⟩
  · exact ⟨8, by decide +kernel, by unfold isPage; omega⟩
  · exact ⟨16, by decide +kernel, by unfold isPage; omega⟩
  · exact ⟨32, by decide +kernel, by unfold isPage; omega⟩
  · exact ⟨64, by decide +kernel, by unfold isPage; omega⟩
  · exact ⟨128, by decide +kernel, by unfold isPage; omega⟩
  · exact ⟨256, by decide +kernel, by unfold isPage; omega⟩
end Go.Proofs.Ytoldbaandkgmkaa
