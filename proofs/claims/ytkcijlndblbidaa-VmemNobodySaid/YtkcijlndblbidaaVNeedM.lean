/- What mapping a run of pages one by one leaves, and unmapping them again. No program in sight. -/
import Derived.Test.YtkcijlndblbidaaVOps2
namespace Go.Proofs.Ytkcijlndblbidaa
open Go.ChangeShapes Go.WideShapes Go.ChangeAt Go.RowKit
set_option linter.unusedVariables false

/-- the pages of a run that are not mapped -/
def newP (v : VS) (p : Nat) : Nat → List Nat
  | 0 => []
  | k + 1 => newP v p k ++ (if v.mp (p + k) = true then [] else [p + k])
def mapL (page : Nat) (v : VS) (l : List Nat) : VS := l.foldl (mapV page) v
def withH (v : VS) (h : Nat) : VS := { v with high := h }
theorem mapL_snoc (page : Nat) (v : VS) (l : List Nat) (p : Nat) : mapL page v (l ++ [p]) = mapV page (mapL page v l) p := by simp [mapL]
theorem mapL_mp (page : Nat) (v : VS) (l : List Nat) (q : Nat) : (mapL page v l).mp q = (v.mp q || decide (q ∈ l)) := by
  induction l generalizing v with
  | nil => simp [mapL]
  | cons a l ih =>
    show (mapL page (mapV page v a) l).mp q = _
    rw [ih]
    show ((if q = a then true else v.mp q) || _) = _
    by_cases h : q = a
    · subst h; simp
    · simp [h]
theorem mapL_used (page : Nat) (v : VS) (l : List Nat) : (mapL page v l).used = v.used + l.length := by
  induction l generalizing v with
  | nil => rfl
  | cons a l ih =>
    show (mapL page (mapV page v a) l).used = _
    rw [ih]
    show v.used + 1 + l.length = _
    simp; omega
theorem mapL_wd (page : Nat) (v : VS) (l : List Nat) (a : Nat) : (mapL page v l).wd a = if a / page ∈ l then 0 else v.wd a := by
  induction l generalizing v with
  | nil => simp [mapL]
  | cons b l ih =>
    show (mapL page (mapV page v b) l).wd a = _
    rw [ih]
    show (if a / page ∈ l then 0 else if a / page = b then 0 else v.wd a) = _
    by_cases h : a / page = b
    · simp [h]
    · simp [h]
theorem mapL_high (page : Nat) (v : VS) (l : List Nat) : (mapL page v l).high = if l = [] then v.high else max v.high (v.used + l.length) := by
  induction l generalizing v with
  | nil => rfl
  | cons b l ih =>
    show (mapL page (mapV page v b) l).high = _
    rw [ih]
    show (if l = [] then max v.high (v.used + 1) else max (max v.high (v.used + 1)) (v.used + 1 + l.length)) = _
    by_cases h : l = []
    · subst h; simp
    · rw [if_neg h, if_neg (by simp)]
      simp only [List.length_cons]
      omega
theorem newP_mem {v : VS} {p k q : Nat} : q ∈ newP v p k ↔ (p ≤ q ∧ q < p + k) ∧ v.mp q = false := by
  induction k with
  | zero => simp [newP]; omega
  | succ k ih =>
    unfold newP
    rw [List.mem_append, ih]
    by_cases h : v.mp (p + k) = true
    · rw [if_pos h]
      refine ⟨fun hq => ?_, fun ⟨a, hq⟩ => .inl ⟨?_, hq⟩⟩
      · rcases hq with ⟨a, hq⟩ | hq
        · exact ⟨by omega, hq⟩
        · cases hq
      · have : q ≠ p + k := by rintro rfl; rw [h] at hq; cases hq
        omega
    · rw [if_neg h]
      simp at h ⊢
      constructor
      · rintro (a | rfl)
        · exact ⟨by omega, a.2⟩
        · exact ⟨by omega, h⟩
      · rintro ⟨a, c⟩
        by_cases e : q = p + k
        · exact .inr e
        · exact .inl ⟨by omega, c⟩
theorem newP_nodup (v : VS) (p k : Nat) : (newP v p k).Nodup := by
  induction k with
  | zero => exact List.nodup_nil
  | succ k ih =>
    unfold newP
    by_cases h : v.mp (p + k) = true
    · rw [if_pos h, List.append_nil]; exact ih
    · rw [if_neg h, List.nodup_append]
      refine ⟨ih, by simp, fun a ha b hb => ?_⟩
      simp at hb
      have := (newP_mem.1 ha).1
      omega
theorem newP_le (v : VS) (p k : Nat) : (newP v p k).length ≤ k := by
  induction k with
  | zero => exact Nat.le_refl _
  | succ k ih =>
    unfold newP
    split <;> simp <;> omega
theorem newP_mono (v : VS) (p : Nat) {j k : Nat} (h : j ≤ k) : ∃ r, newP v p k = newP v p j ++ r := by
  induction k with
  | zero => obtain rfl : j = 0 := by omega
            exact ⟨[], by simp⟩
  | succ k ih =>
    by_cases e : j = k + 1
    · subst e; exact ⟨[], by simp⟩
    · obtain ⟨r, hr⟩ := ih (by omega)
      exact ⟨r ++ (if v.mp (p + k) = true then [] else [p + k]), by rw [newP, hr, List.append_assoc]⟩
theorem undo_step {page np : Nat} {u : VS} {p H : Nat} (h : u.mp p = false) : (unmapV (withH (mapV page u p) H) p).like page np (withH u H) := by
  refine ⟨fun q hq => ?_, fun a ha hm => ?_, ?_, rfl⟩
  · show (if q = p then false else if q = p then true else u.mp q) = u.mp q
    by_cases e : q = p
    · rw [if_pos e, e, h]
    · rw [if_neg e, if_neg e]
  · have hm' : (if a / page = p then false else if a / page = p then true else u.mp (a / page)) = true := hm
    show (if a / page = p then 0 else u.wd a) = u.wd a
    by_cases e : a / page = p
    · rw [if_pos e] at hm'; cases hm'
    · rw [if_neg e]
  · show u.used + 1 - 1 = u.used
    omega
/-- what Need answers and leaves: of n pages from p on -/
def needN (page room : Nat) (v : VS) (p n : Nat) : Int := if v.used + (newP v p n).length ≤ room then 0 else 14
def needNV (page room : Nat) (v : VS) (p n : Nat) : VS := if v.used + (newP v p n).length ≤ room then mapL page v (newP v p n) else withH v (mapL page v ((newP v p n).take (room - v.used))).high
def needE (words page room : Nat) (v : VS) (a b : Int) : Int := if a < 0 ∨ (words : Int) < b then 11 else if b ≤ a then 0 else needN page room v (a.toNat / page) ((b.toNat - 1) / page - a.toNat / page + 1)
def needV (words page room : Nat) (v : VS) (a b : Int) : VS := if a < 0 ∨ (words : Int) < b then v else if b ≤ a then v else needNV page room v (a.toNat / page) ((b.toNat - 1) / page - a.toNat / page + 1)
end Go.Proofs.Ytkcijlndblbidaa
