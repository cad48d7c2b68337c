/- The plain law of headers: the fields' kinds, one by one, are what the program reckons. No walk in sight. -/
import Derived.Test.YtibhlblieeflbaaHdrKinds
namespace Go.Proofs.Ytibhlblieeflbaa

theorem kinds_ok {p f o : Nat} (h : Ok p f o) : kinds p f o = kindsL p f o := by
  unfold kinds; rw [if_pos h]; simp
theorem kinds_bad {p f o : Int} (h : ¬ Ok p f o) : kinds p f o = [] := by unfold kinds; rw [if_neg h]
theorem ok_nat {p f o : Int} (h : Ok p f o) : ∃ a b c : Nat, p = a ∧ f = b ∧ o = c := by
  unfold Ok at h
  exact ⟨p.toNat, f.toNat, o.toNat, by omega, by omega, by omega⟩
theorem kindOf_eq (p f o i : Int) : (if 0 ≤ i then (kinds p f o).getD i.toNat 0 else 0) = kindOf p f o i := by
  by_cases hok : Ok p f o
  · obtain ⟨p, f, o, rfl, rfl, rfl⟩ := ok_nat hok
    rw [kinds_ok hok]
    unfold kindOf
    by_cases h0 : 0 ≤ i
    · obtain ⟨i, rfl⟩ := Int.eq_ofNat_of_zero_le h0
      rw [if_pos h0, Int.toNat_natCast]
      unfold kindsL
      simp only [List.getD_eq_getElem?_getD, List.getElem?_append, List.length_append, List.length_replicate, List.getElem?_replicate]
      by_cases h1 : i < p
      · rw [if_pos (by omega), if_pos h1, if_pos (by omega), if_pos ⟨hok, by omega, by omega⟩, if_pos (by omega)]; rfl
      · by_cases h2 : i < p + f
        · rw [if_pos (by omega), if_neg h1, if_pos (by omega), if_pos ⟨hok, by omega, by omega⟩, if_neg (by omega), if_pos (by omega)]; rfl
        · by_cases h3 : i < p + f + o
          · rw [if_neg (by omega), if_pos (by omega), if_pos ⟨hok, by omega, by omega⟩, if_neg (by omega), if_neg (by omega)]; rfl
          · rw [if_neg (by omega), if_neg (by omega), if_neg (by omega)]; rfl
    · rw [if_neg h0, if_neg (by omega)]
  · rw [kinds_bad hok]
    have hz : kindOf p f o i = 0 := if_neg (fun h => hok h.1)
    rw [hz]
    simp
theorem countOf_eq (p f o c : Int) : ((kinds p f o).count c : Int) = countOf p f o c := by
  by_cases hok : Ok p f o
  · obtain ⟨p, f, o, rfl, rfl, rfl⟩ := ok_nat hok
    rw [kinds_ok hok]
    unfold countOf kindsL
    rw [if_pos hok]
    simp only [List.count_append, List.count_replicate]
    by_cases h1 : c = 1
    · subst h1; simp
    · by_cases h2 : c = 2
      · subst h2; simp
      · by_cases h3 : c = 3
        · subst h3; simp
        · have e1 : ((1 : Int) == c) = false := by rw [beq_eq_false_iff_ne]; omega
          have e2 : ((2 : Int) == c) = false := by rw [beq_eq_false_iff_ne]; omega
          have e3 : ((3 : Int) == c) = false := by rw [beq_eq_false_iff_ne]; omega
          simp [h1, h2, h3, e1, e2, e3]
  · rw [kinds_bad hok]
    unfold countOf
    rw [if_neg hok]; rfl
theorem takeWhile_rep (n : Nat) (c : Int) (p : Int → Bool) : (List.replicate n c).takeWhile p = if p c then List.replicate n c else [] := by
  induction n with
  | zero => simp
  | succ n ih =>
    rw [List.replicate_succ, List.takeWhile_cons, ih]
    by_cases h : p c <;> simp [h]
theorem firstOf_eq (p f o c : Int) : (if 1 ≤ c ∧ c ≤ 3 then (((kinds p f o).takeWhile (· < c)).length : Int) else 0) = firstOf p f o c := by
  by_cases hok : Ok p f o
  · obtain ⟨p, f, o, rfl, rfl, rfl⟩ := ok_nat hok
    rw [kinds_ok hok]
    unfold firstOf
    rw [if_pos hok]
    by_cases hc : 1 ≤ c ∧ c ≤ 3
    · rw [if_pos hc]
      have : c = 1 ∨ c = 2 ∨ c = 3 := by omega
      have hall : ∀ (n : Nat) (a c : Int) (l : List Int), a < c → (List.replicate n a ++ l).takeWhile (· < c) = List.replicate n a ++ l.takeWhile (· < c) := by
        intro n a c l h
        rw [List.takeWhile_append_of_pos]
        intro x hx
        rw [List.eq_of_mem_replicate hx]
        simpa using h
      have hnone : ∀ (n : Nat) (a c : Int), ¬ a < c → (List.replicate n a).takeWhile (· < c) = [] := by
        intro n a c h
        rw [takeWhile_rep, if_neg (by simpa using h)]
      unfold kindsL
      rw [List.append_assoc]
      rcases this with rfl | rfl | rfl
      · have h0 : (List.replicate p (1 : Int) ++ (List.replicate f 2 ++ List.replicate o 3)).takeWhile (· < 1) = [] := by
          rcases p with _ | p
          · rcases f with _ | f
            · rcases o with _ | o
              · rfl
              · simp [List.replicate_succ]
            · simp [List.replicate_succ]
          · simp [List.replicate_succ]
        rw [h0]; simp
      · have h0 : (List.replicate f (2 : Int) ++ List.replicate o 3).takeWhile (· < 2) = [] := by
          rcases f with _ | f
          · rcases o with _ | o
            · rfl
            · simp [List.replicate_succ]
          · simp [List.replicate_succ]
        rw [hall _ _ _ _ (by decide), h0]; simp
      · rw [hall _ _ _ _ (by decide), hall _ _ _ _ (by decide), hnone _ _ _ (by decide)]; simp
    · rw [if_neg hc, if_neg (by omega), if_neg (by omega)]
  · rw [kinds_bad hok]
    unfold firstOf
    rw [if_neg hok]
    simp
end Go.Proofs.Ytibhlblieeflbaa
