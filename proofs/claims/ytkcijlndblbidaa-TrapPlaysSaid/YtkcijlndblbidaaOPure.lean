/- Objects in plain words: an object that was made is read back. -/
import Derived.Test.YtkcijlndblbidaaOCopy2
namespace Go.Proofs.Ytkcijlndblbidaa
open Go.ChangeShapes Go.WideShapes Go.ChangeAt Go.RowKit
set_option linter.unusedVariables false

theorem word_is {p f o : Nat} (h : Hd.Ok p f o) : Hd.Is (Hd.wordOf p f o) ∧ Hd.tp (Hd.wordOf p f o) = p ∧ Hd.tf (Hd.wordOf p f o) = f ∧ Hd.to (Hd.wordOf p f o) = o := by
  have h1 : p ≤ 255 ∧ f ≤ 255 ∧ o ≤ 255 := by unfold Hd.Ok at h; omega
  have e1 : Hd.tp (Hd.wordOf p f o) = p := by unfold Hd.tp Hd.wordOf Hd.low; omega
  have e2 : Hd.tf (Hd.wordOf p f o) = f := by unfold Hd.tf Hd.wordOf Hd.low; omega
  have e3 : Hd.to (Hd.wordOf p f o) = o := by unfold Hd.to Hd.wordOf Hd.low; omega
  refine ⟨?_, e1, e2, e3⟩
  unfold Hd.Is
  rw [e1, e2, e3]
  exact ⟨h, rfl⟩
/-- a header that stands at an address -/
structure Stands (n : Nat) (g : Nat → Nat) (a : Int) (p f o : Nat) : Prop where
  e : rdE n g a = 0
  p : rdP n g a = p
  f : rdF n g a = f
  o : rdO n g a = o
theorem stands {n : Nat} {g : Nat → Nat} {a : Nat} {p f o : Nat} (ha : 0 < a) (hn : a < n) (hok : Hd.Ok p f o) (hg : g a = Hd.wordOf p f o) : Stands n g a p f o := by
  obtain ⟨h1, h2, h3, h4⟩ := word_is hok
  have e : rdE n g a = 0 := by
    unfold rdE
    rw [if_neg (by omega), if_neg (by omega), if_neg (by omega), Int.toNat_natCast, hg, if_pos h1]
  refine ⟨e, ?_, ?_, ?_⟩
  · unfold rdP; rw [if_pos e, Int.toNat_natCast, hg, h2]
  · unfold rdF; rw [if_pos e, Int.toNat_natCast, hg, h3]
  · unfold rdO; rw [if_pos e, Int.toNat_natCast, hg, h4]
/-- the kind of a field that is there -/
def kd (p f i : Nat) : Int := if i < p then 1 else if i < p + f then 2 else 3
theorem kd_pos (p f i : Nat) : kd p f i ≠ 0 := by unfold kd; split; omega; split <;> omega
theorem Stands.kind {n : Nat} {g : Nat → Nat} {a : Int} {p f o i : Nat} (h : Stands n g a p f o) (hok : Hd.Ok p f o) (hi : i < p + f + o) : kdA n g a i = kd p f i := by
  unfold kdA Hd.kindOf kd
  rw [h.p, h.f, h.o, if_pos ⟨hok, by omega, by omega⟩]
  by_cases h1 : i < p
  · rw [if_pos h1, if_pos (by omega)]
  · rw [if_neg h1, if_neg (by omega)]
    by_cases h2 : i < p + f
    · rw [if_pos h2, if_pos (by omega)]
    · rw [if_neg h2, if_neg (by omega)]
theorem Stands.get {n : Nat} {g : Nat → Nat} {a p f o i : Nat} (h : Stands n g a p f o) (hok : Hd.Ok p f o) (hi : i < p + f + o) (hn : a + (p + f + o) < n) : geE n g a i (kd p f i) = 0 ∧ geW n g a i (kd p f i) = g (a + 1 + i) := by
  have hp : plE n g a i (kd p f i) = 0 := by
    unfold plE
    rw [if_pos h.e, if_pos (h.kind hok hi)]
  have he : geE n g a i (kd p f i) = 0 := by
    unfold geE
    rw [if_pos hp, if_neg (by omega)]
  refine ⟨he, ?_⟩
  unfold geW
  rw [if_pos he]
  congr 1
theorem Stands.seG {n : Nat} {g : Nat → Nat} {a p f o i x : Nat} (h : Stands n g a p f o) (hok : Hd.Ok p f o) (hi : i < p + f + o) (hn : a + (p + f + o) < n) : seG n g a i (kd p f i) x = putG g (a + 1 + i) x := by
  unfold Go.Proofs.Ytkcijlndblbidaa.seG
  rw [if_pos (h.get hok hi hn).1]
  congr 1
theorem Stands.set {n : Nat} {g : Nat → Nat} {a p f o i x : Nat} (hok : Hd.Ok p f o) (ha : 0 < a) (hn : a < n) (hg : g a = Hd.wordOf p f o) : Stands n (putG g (a + 1 + i) x) a p f o :=
  stands ha hn hok (by unfold putG; rw [if_neg (by omega), hg])
theorem made_word (g : Nat → Nat) (a x s : Nat) : mkG g a x s a = x := if_pos rfl
theorem made_field (g : Nat → Nat) (a x s i : Nat) (hi : i < s) : mkG g a x s (a + 1 + i) = 0 := by
  unfold mkG
  rw [if_neg (by omega), if_pos (by omega)]
end Go.Proofs.Ytkcijlndblbidaa
