/- Plain, of the reference's Path: what a round of the loop keeps. -/
import Derived.Test.YtplkogjnmjjjgaaGPaths2
namespace Go.Proofs.Ytplkogjnmjjjgaa
set_option linter.unusedVariables false
set_option linter.unusedSimpArgs false

theorem IsPath.dig {g : Gr} {B : Nat} (h1 : g.rs.length ≤ B) (h2 : ∀ m, (psAt g.ns m).length ≤ B) {n : Int} {l : List Int} (h : IsPath g n l) : Dig B l := by
  induction h with
  | root hi e h0 =>
    intro x hx
    rw [List.mem_singleton] at hx
    subst hx
    omega
  | step hp hi e h0 ih =>
    rename_i m n l i
    intro x hx
    rcases List.mem_append.1 hx with hx | hx
    · exact ih x hx
    · rw [List.mem_singleton] at hx
      subst hx
      have := h2 m
      omega
/-- while the roots are laid: each path is one step -/
structure Rt (g : Gr) (P : List (List Int)) (i : Nat) : Prop where
  inv : PInv g P
  roots : RootsTo g P i
  one : ∀ n, n < P.length → P.getD n [] ≠ [] → ∃ k : Nat, k < i ∧ P.getD n [] = [(k : Int)]
theorem getD_rep {N n : Nat} : (List.replicate N ([] : List Int)).getD n [] = [] := by
  rw [List.getD_eq_getElem?_getD, List.getElem?_replicate]
  split <;> rfl
theorem Rt.start (g : Gr) : Rt g (List.replicate g.ns.length []) 0 :=
  ⟨⟨by simp, fun n _ h => absurd getD_rep h, fun n _ => by rw [getD_rep]; exact Nat.zero_le _⟩, fun k hk => by omega, fun n _ h => absurd getD_rep h⟩
theorem Rt.neg {g : Gr} {P : List (List Int)} {i : Nat} (h : Rt g P i) (hz : g.rs.getD i 0 < 0) : Rt g P (i + 1) := by
  refine ⟨h.inv, fun k hk h0 => ?_, fun n hn hne => ?_⟩
  · by_cases e : k = i
    · subst e; omega
    · exact h.roots k (by omega) h0
  · obtain ⟨k, hk, e⟩ := h.one n hn hne
    exact ⟨k, by omega, e⟩
theorem Rt.had {g : Gr} {P : List (List Int)} {i : Nat} (h : Rt g P i) {p : Nat} (hz : g.rs.getD i 0 = p) (hp : p < P.length) (hne : P.getD p [] ≠ []) : Rt g P (i + 1) := by
  refine ⟨h.inv, fun k hk h0 => ?_, fun n hn hne => ?_⟩
  · by_cases e : k = i
    · subst e
      rw [hz, Int.toNat_natCast]
      obtain ⟨k', hk', e⟩ := h.one p hp hne
      refine ⟨hne, ?_⟩
      rw [e]
      exact .of_lt (lessP_last (a := []) (by omega))
    · exact h.roots k (by omega) h0
  · obtain ⟨k, hk, e⟩ := h.one n hn hne
    exact ⟨k, by omega, e⟩
theorem Rt.put {g : Gr} {P : List (List Int)} {i : Nat} (h : Rt g P i) (hi : i < g.rs.length) {p : Nat} (hz : g.rs.getD i 0 = p) (hp : p < P.length) (hne : P.getD p [] = []) : Rt g (P.set p [(i : Int)]) (i + 1) := by
  have hP : IsPath g (p : Int) [(i : Int)] := .root hi hz (by omega)
  refine ⟨h.inv.set hp hP (by simp) (by simp) (.inl hne), fun k hk h0 => ?_, fun n hn hnn => ?_⟩
  · by_cases e : k = i
    · subst e
      rw [hz, Int.toNat_natCast, getD_set_eq hp]
      exact ⟨by simp, .refl _⟩
    · exact (h.roots.set hp (by simp) (.inl hne)) k (by omega) h0
  · rw [List.length_set] at hn
    by_cases e : p = n
    · subst e
      rw [getD_set_eq hp]
      exact ⟨i, by omega, rfl⟩
    · rw [getD_set_ne e] at hnn ⊢
      obtain ⟨k, hk, e⟩ := h.one n hn hnn
      exact ⟨k, by omega, e⟩
/-- within a round: the nodes below n, and the steps of n below i, are looked at -/
structure Rd (g : Gr) (B mu0 : Nat) (P : List (List Int)) (t : Bool) (n i : Nat) : Prop where
  inv : PInv g P
  roots : RootsTo g P g.rs.length
  up : t = true → muP B g.ns.length P < mu0
  shut : t = false → muP B g.ns.length P ≤ mu0 ∧ (∀ m, m < n → ShutN g P m (psAt g.ns m).length) ∧ ShutN g P n i
theorem Rd.start {g : Gr} {B : Nat} {P : List (List Int)} (h1 : PInv g P) (h2 : RootsTo g P g.rs.length) : Rd g B (muP B g.ns.length P) P false 0 0 :=
  ⟨h1, h2, (fun h => by cases h), fun _ => ⟨Nat.le_refl _, fun m hm => by omega, fun _ k hk => by omega⟩⟩
theorem Rd.nil {g : Gr} {B mu0 : Nat} {P : List (List Int)} {t : Bool} {n : Nat} (h : Rd g B mu0 P t n 0) (he : P.getD n [] = []) : Rd g B mu0 P t (n + 1) 0 := by
  refine ⟨h.inv, h.roots, h.up, fun ht => ?_⟩
  obtain ⟨h1, h2, h3⟩ := h.shut ht
  refine ⟨h1, fun m hm => ?_, fun _ k hk => by omega⟩
  by_cases e : m = n
  · subst e
    exact fun hne => absurd he hne
  · exact h2 m (by omega)
theorem Rd.next {g : Gr} {B mu0 : Nat} {P : List (List Int)} {t : Bool} {n : Nat} (h : Rd g B mu0 P t n (psAt g.ns n).length) : Rd g B mu0 P t (n + 1) 0 := by
  refine ⟨h.inv, h.roots, h.up, fun ht => ?_⟩
  obtain ⟨h1, h2, h3⟩ := h.shut ht
  refine ⟨h1, fun m hm => ?_, fun _ k hk => by omega⟩
  by_cases e : m = n
  · subst e
    exact h3
  · exact h2 m (by omega)
theorem Rd.neg {g : Gr} {B mu0 : Nat} {P : List (List Int)} {t : Bool} {n i : Nat} (h : Rd g B mu0 P t n i) (hz : (psAt g.ns n).getD i 0 < 0) : Rd g B mu0 P t n (i + 1) := by
  refine ⟨h.inv, h.roots, h.up, fun ht => ?_⟩
  obtain ⟨h1, h2, h3⟩ := h.shut ht
  refine ⟨h1, h2, fun hne k hk h0 => ?_⟩
  by_cases e : k = i
  · subst e; omega
  · exact h3 hne k (by omega) h0
theorem Rd.stay {g : Gr} {B mu0 : Nat} {P : List (List Int)} {t : Bool} {n i : Nat} (h : Rd g B mu0 P t n i) {p : Nat} (hz : (psAt g.ns n).getD i 0 = p) (he : P.getD p [] ≠ []) (hl : lessP (P.getD n [] ++ [(i : Int)]) (P.getD p []) = false) : Rd g B mu0 P t n (i + 1) := by
  refine ⟨h.inv, h.roots, h.up, fun ht => ?_⟩
  obtain ⟨h1, h2, h3⟩ := h.shut ht
  refine ⟨h1, h2, fun hne k hk h0 => ?_⟩
  by_cases e : k = i
  · subst e
    rw [hz, Int.toNat_natCast]
    exact ⟨he, hl⟩
  · exact h3 hne k (by omega) h0
theorem Rd.put {g : Gr} {B mu0 : Nat} {P : List (List Int)} {t : Bool} {n i : Nat} (hB1 : g.rs.length ≤ B) (hB2 : ∀ m, (psAt g.ns m).length ≤ B) (h : Rd g B mu0 P t n i) (hn : n < P.length) (hne : P.getD n [] ≠ []) (hi : i < (psAt g.ns n).length) {p : Nat} (hz : (psAt g.ns n).getD i 0 = p) (hp : p < P.length) (hl : P.getD p [] = [] ∨ lessP (P.getD n [] ++ [(i : Int)]) (P.getD p []) = true) : Rd g B mu0 (P.set p (P.getD n [] ++ [(i : Int)])) true n (i + 1) := by
  have hI : IsPath g (p : Int) (P.getD n [] ++ [(i : Int)]) := .step (h.inv.path n hn hne) hi hz (by omega)
  have hc := h.inv.cnt n hn
  have hcl := cntP_le P
  have hL := h.inv.len
  have hI2 := h.inv.set hp hI (by simp) (by rw [List.length_append, List.length_singleton]; omega) hl
  have hc2 := hI2.cnt p (by rw [List.length_set]; exact hp)
  have hcl2 := cntP_le (P.set p (P.getD n [] ++ [(i : Int)]))
  rw [getD_set_eq hp] at hc2
  rw [List.length_set] at hcl2
  refine ⟨hI2, h.roots.set hp (by simp) hl, fun _ => ?_, fun ht => by cases ht⟩
  have hd : Dig B (P.getD p []) := by
    by_cases e : P.getD p [] = []
    · rw [e]; exact fun x hx => by cases hx
    · exact (h.inv.path p hp e).dig hB1 hB2
  have hm := muP_set (B := B) (N := g.ns.length) hp (by simp) (by omega) (hI.dig hB1 hB2) hd hl
  cases t with
  | true => exact Nat.lt_trans hm (h.up rfl)
  | false => exact Nat.lt_of_lt_of_le hm (h.shut rfl).1
end Go.Proofs.Ytplkogjnmjjjgaa
