/- Plain: where each node met was met from, in which order; so the paths increase along the walk. -/
import Derived.Test.YtplkogjnmjjjgaaGLeast
namespace Go.Proofs.Ytplkogjnmjjjgaa
set_option linter.unusedVariables false
set_option linter.unusedSimpArgs false

/-- where the node in place k came from -/
def SrcOk (g : Gr) (S : Mt) (k : Nat) : Prop :=
  0 ≤ S.st.getD k 0 ∧ ((S.fr.getD k 0 = -1 ∧ (S.st.getD k 0).toNat < g.rs.length ∧ g.rs.getD (S.st.getD k 0).toNat 0 = S.al.getD k 0) ∨
    (0 ≤ S.fr.getD k 0 ∧ S.fr.getD k 0 < k ∧ (S.st.getD k 0).toNat < (psAt g.ns (S.al.getD (S.fr.getD k 0).toNat 0)).length ∧ (psAt g.ns (S.al.getD (S.fr.getD k 0).toNat 0)).getD (S.st.getD k 0).toNat 0 = S.al.getD k 0))
structure Wi (g : Gr) (S : Mt) (f s : Int) : Prop where
  fr : S.fr.length = S.al.length
  st : S.st.length = S.al.length
  bd : ∀ k, k < S.al.length → S.fr.getD k 0 < f ∨ (S.fr.getD k 0 = f ∧ S.st.getD k 0 < s)
  inc : ∀ k k', k < k' → k' < S.al.length → S.fr.getD k 0 < S.fr.getD k' 0 ∨ (S.fr.getD k 0 = S.fr.getD k' 0 ∧ S.st.getD k 0 < S.st.getD k' 0)
  src : ∀ k, k < S.al.length → SrcOk g S k
theorem getD_snoc_lt {l : List Int} {k : Nat} {x : Int} (h : k < l.length) : (l ++ [x]).getD k 0 = l.getD k 0 := getD_pre h
theorem getD_snoc_eq {l : List Int} {k : Nat} {x : Int} (h : k = l.length) : (l ++ [x]).getD k 0 = x := by
  subst h
  rw [List.getD_eq_getElem?_getD, List.getElem?_append_right (Nat.le_refl _), Nat.sub_self]
  rfl
theorem Wi.meet {g : Gr} {S : Mt} {f s z : Int} (h : Wi g S f s) (hs0 : 0 ≤ s) (hsrc : (f = -1 ∧ s.toNat < g.rs.length ∧ g.rs.getD s.toNat 0 = z) ∨ (0 ≤ f ∧ f < S.al.length ∧ s.toNat < (psAt g.ns (S.al.getD f.toNat 0)).length ∧ (psAt g.ns (S.al.getD f.toNat 0)).getD s.toNat 0 = z)) : Wi g (meetM S z f s) f (s + 1) := by
  have hw : Wi g S f (s + 1) := ⟨h.fr, h.st, fun k hk => by rcases h.bd k hk with e | e; exact .inl e; exact .inr ⟨e.1, by omega⟩, h.inc, h.src⟩
  unfold meetM
  split
  · exact hw
  · have hf := h.fr
    have hst := h.st
    refine ⟨by simp [hf], by simp [hst], fun k hk => ?_, fun k k' hkk hk' => ?_, fun k hk => ?_⟩
    · simp only [List.length_append, List.length_singleton] at hk
      by_cases e : k < S.al.length
      · simp only [getD_snoc_lt (show k < S.fr.length by omega), getD_snoc_lt (show k < S.st.length by omega)]
        exact hw.bd k e
      · simp only [getD_snoc_eq (show k = S.fr.length by omega), getD_snoc_eq (show k = S.st.length by omega)]
        right
        constructor
        · first
            | rfl
            | trivial
        · omega
    · simp only [List.length_append, List.length_singleton] at hk'
      by_cases e : k' < S.al.length
      · simp only [getD_snoc_lt (show k < S.fr.length by omega), getD_snoc_lt (show k < S.st.length by omega), getD_snoc_lt (show k' < S.fr.length by omega), getD_snoc_lt (show k' < S.st.length by omega)]
        exact h.inc k k' hkk e
      · simp only [getD_snoc_lt (show k < S.fr.length by omega), getD_snoc_lt (show k < S.st.length by omega), getD_snoc_eq (show k' = S.fr.length by omega), getD_snoc_eq (show k' = S.st.length by omega)]
        exact h.bd k (by omega)
    · simp only [List.length_append, List.length_singleton] at hk
      unfold SrcOk
      by_cases e : k < S.al.length
      · simp only [getD_snoc_lt (show k < S.fr.length by omega), getD_snoc_lt (show k < S.st.length by omega), getD_snoc_lt e]
        obtain ⟨h1, h2⟩ := h.src k e
        refine ⟨h1, ?_⟩
        rcases h2 with h2 | ⟨h3, h4, h5⟩
        · exact .inl h2
        · refine .inr ⟨h3, h4, ?_⟩
          rw [getD_snoc_lt (show (S.fr.getD k 0).toNat < S.al.length by omega)]
          exact h5
      · simp only [getD_snoc_eq (show k = S.fr.length by omega), getD_snoc_eq (show k = S.st.length by omega), getD_snoc_eq (show k = S.al.length by omega)]
        refine ⟨hs0, ?_⟩
        rcases hsrc with h2 | ⟨h3, h4, h5⟩
        · exact .inl h2
        · refine .inr ⟨h3, by omega, ?_⟩
          rw [getD_snoc_lt (show f.toNat < S.al.length by omega)]
          exact h5
theorem Wi.meetL_root {g : Gr} (l : List Int) : ∀ {S : Mt} (i : Nat), Wi g S (-1) i → (∀ j, j < l.length → i + j < g.rs.length ∧ g.rs.getD (i + j) 0 = l.getD j 0) → Wi g (meetL (-1) l i S) (-1) ((i + l.length : Nat) : Int) := by
  induction l with
  | nil => intro S i h _; simpa [meetL] using h
  | cons z l ih =>
    intro S i h hl
    have h0 := hl 0 (by simp)
    have h1 : Wi g (meetM S z (-1) i) (-1) ((i + 1 : Nat) : Int) := by
      have := h.meet (z := z) (by omega) (.inl ⟨rfl, by simpa using h0.1, by simpa using h0.2⟩)
      simpa using this
    have := ih (i + 1) h1 (fun j hj => by
      have := hl (j + 1) (by simp; omega)
      rw [show i + 1 + j = i + (j + 1) by omega]
      simpa using this)
    rw [meetL, show i + (z :: l).length = i + 1 + l.length by simp; omega]
    exact this
theorem Wi.meetL_step {g : Gr} {p : Nat} {a : Int} (l : List Int) : ∀ {S : Mt} (i : Nat), Wi g S p i → p < S.al.length → S.al.getD p 0 = a → (∀ j, j < l.length → i + j < (psAt g.ns a).length ∧ (psAt g.ns a).getD (i + j) 0 = l.getD j 0) → Wi g (meetL (p : Int) l i S) p ((i + l.length : Nat) : Int) := by
  induction l with
  | nil => intro S i h _ _ _; simpa [meetL] using h
  | cons z l ih =>
    intro S i h hp ha hl
    have h0 := hl 0 (by simp)
    have h1 : Wi g (meetM S z p i) p ((i + 1 : Nat) : Int) := by
      have := h.meet (z := z) (by omega) (.inr ⟨by omega, by omega, by rw [Int.toNat_natCast, Int.toNat_natCast, ha]; simpa using h0.1, by rw [Int.toNat_natCast, Int.toNat_natCast, ha]; simpa using h0.2⟩)
      simpa using this
    obtain ⟨t, ht⟩ := meetM_pre (S := S) (k := z) (f := (p : Int)) (s := (i : Int))
    have := ih (i + 1) h1 (by rw [ht, List.length_append]; omega) (by rw [ht, getD_pre hp]; exact ha) (fun j hj => by
      have := hl (j + 1) (by simp; omega)
      rw [show i + 1 + j = i + (j + 1) by omega]
      simpa using this)
    rw [meetL, show i + (z :: l).length = i + 1 + l.length by simp; omega]
    exact this
theorem Wi.next {g : Gr} {S : Mt} {f s : Int} (h : Wi g S f s) : Wi g S (f + 1) 0 := ⟨h.fr, h.st, fun k hk => by rcases h.bd k hk with e | e; exact .inl (by omega); exact .inl (by omega), h.inc, h.src⟩
theorem Wi.walkL {g : Gr} : ∀ (fuel i : Nat) {S : Mt}, Wi g S i 0 → ∃ f, Wi g (walkL g.ns fuel i S) f 0 := by
  intro fuel
  induction fuel with
  | zero => intro i S h; exact ⟨i, h⟩
  | succ fuel ih =>
    intro i S h
    unfold Go.Proofs.Ytplkogjnmjjjgaa.walkL
    split
    · rename_i hlt
      refine ih (i + 1) ?_
      have := (Wi.meetL_step (p := i) (a := S.al.getD i 0) (psAt g.ns (S.al.getD i 0)) 0 (by simpa using h) hlt rfl (fun j hj => ⟨by simpa using hj, by simp⟩)).next
      simpa using this
    · exact ⟨i, h⟩
theorem walkG_wi (g : Gr) : ∃ f, Wi g (walkG g) f 0 := by
  have h0 : Wi g ⟨[], [], []⟩ (-1) (0 : Nat) := ⟨rfl, rfl, (fun k hk => by cases hk), (fun k k' _ hk => by cases hk), (fun k hk => by cases hk)⟩
  have h1 := (h0.meetL_root g.rs 0 (fun j hj => ⟨by simpa using hj, by simp⟩)).next
  exact Wi.walkL (g.ns.length + 1) 0 (by simpa using h1)
end Go.Proofs.Ytplkogjnmjjjgaa
