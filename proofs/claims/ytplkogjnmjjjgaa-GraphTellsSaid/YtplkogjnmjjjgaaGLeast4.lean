/- Plain: every edge of a node met was met by its step, or before; so the path of the walk is the least. -/
import Derived.Test.YtplkogjnmjjjgaaGLeast3
namespace Go.Proofs.Ytplkogjnmjjjgaa
set_option linter.unusedVariables false
set_option linter.unusedSimpArgs false

/-- the nodes met so far were met before the step s of f -/
structure Bd (S : Mt) (f s : Int) : Prop where
  fr : S.fr.length = S.al.length
  st : S.st.length = S.al.length
  bd : ∀ k, k < S.al.length → S.fr.getD k 0 < f ∨ (S.fr.getD k 0 = f ∧ S.st.getD k 0 < s)
theorem Bd.next {S : Mt} {f s : Int} (h : Bd S f s) : Bd S (f + 1) 0 := ⟨h.fr, h.st, fun k hk => by rcases h.bd k hk with e | e; exact .inl (by omega); exact .inl (by omega)⟩
theorem Bd.meet {S : Mt} {z f s : Int} (h : Bd S f s) : Bd (meetM S z f s) f (s + 1) := by
  have hf := h.fr
  have hst := h.st
  have hw : ∀ k, k < S.al.length → S.fr.getD k 0 < f ∨ (S.fr.getD k 0 = f ∧ S.st.getD k 0 < s + 1) := fun k hk => by rcases h.bd k hk with e | e; exact .inl e; exact .inr ⟨e.1, by omega⟩
  unfold meetM
  split
  · exact ⟨hf, hst, hw⟩
  · refine ⟨by simp [hf], by simp [hst], fun k hk => ?_⟩
    simp only [List.length_append, List.length_singleton] at hk
    show (S.fr ++ [f]).getD k 0 < f ∨ ((S.fr ++ [f]).getD k 0 = f ∧ (S.st ++ [s]).getD k 0 < s + 1)
    by_cases e : k < S.al.length
    · rw [getD_snoc_lt (show k < S.fr.length by omega), getD_snoc_lt (show k < S.st.length by omega)]
      exact hw k e
    · rw [getD_snoc_eq (show k = S.fr.length by omega), getD_snoc_eq (show k = S.st.length by omega)]
      exact .inr ⟨rfl, by omega⟩
/-- a node was met by a step, or before -/
def At (S : Mt) (z f s : Int) : Prop := ∃ k, k < S.al.length ∧ S.al.getD k 0 = z ∧ (S.fr.getD k 0 < f ∨ (S.fr.getD k 0 = f ∧ S.st.getD k 0 ≤ s))
theorem At.meet {S : Mt} {z f s z' f' s' a b : Int} (hw : Bd S a b) (h : At S z f s) : At (meetM S z' f' s') z f s := by
  unfold meetM
  split
  · exact h
  · obtain ⟨k, h1, h2, h3⟩ := h
    have e1 := hw.fr
    have e2 := hw.st
    refine ⟨k, by simp; omega, ?_, ?_⟩
    · show (S.al ++ [z']).getD k 0 = z
      rw [getD_snoc_lt h1]
      exact h2
    · show (S.fr ++ [f']).getD k 0 < f ∨ ((S.fr ++ [f']).getD k 0 = f ∧ (S.st ++ [s']).getD k 0 ≤ s)
      rw [getD_snoc_lt (show k < S.fr.length by omega), getD_snoc_lt (show k < S.st.length by omega)]
      exact h3
theorem At.new {S : Mt} {z f s : Int} (hw : Bd S f s) (hz : 0 ≤ z) : At (meetM S z f s) z f s := by
  have e1 := hw.fr
  have e2 := hw.st
  unfold meetM
  split
  · rename_i h
    rcases h with h | h
    · omega
    · obtain ⟨k, hk, e⟩ := List.getElem_of_mem h
      refine ⟨k, hk, by rw [List.getD_eq_getElem?_getD, List.getElem?_eq_getElem hk]; exact e, ?_⟩
      rcases hw.bd k hk with e | e
      · exact .inl e
      · exact .inr ⟨e.1, by omega⟩
  · refine ⟨S.al.length, by simp, ?_, ?_⟩
    · show (S.al ++ [z]).getD S.al.length 0 = z
      exact getD_snoc_eq rfl
    · show (S.fr ++ [f]).getD S.al.length 0 < f ∨ ((S.fr ++ [f]).getD S.al.length 0 = f ∧ (S.st ++ [s]).getD S.al.length 0 ≤ s)
      rw [getD_snoc_eq (show S.al.length = S.fr.length by omega), getD_snoc_eq (show S.al.length = S.st.length by omega)]
      exact .inr ⟨rfl, by omega⟩
theorem meetL_at {f : Int} (l : List Int) : ∀ {S : Mt} (i : Nat), Bd S f i → Bd (meetL f l i S) f ((i + l.length : Nat) : Int) ∧ (∀ z f' s', At S z f' s' → At (meetL f l i S) z f' s') ∧ ∀ j, j < l.length → 0 ≤ l.getD j 0 → At (meetL f l i S) (l.getD j 0) f ((i + j : Nat) : Int) := by
  induction l with
  | nil => intro S i h; exact ⟨by simpa [meetL] using h, fun _ _ _ h => h, fun j hj => by cases hj⟩
  | cons z l ih =>
    intro S i h
    have h1 : Bd (meetM S z f i) f ((i + 1 : Nat) : Int) := by simpa using h.meet (z := z)
    obtain ⟨h2, h3, h4⟩ := ih (i + 1) h1
    rw [meetL]
    refine ⟨by rw [show i + (z :: l).length = i + 1 + l.length by simp; omega]; exact h2, fun z' f' s' ha => h3 _ _ _ (ha.meet h), fun j hj h0 => ?_⟩
    cases j with
    | zero => exact h3 _ _ _ (At.new h (by simpa using h0))
    | succ j =>
      have := h4 j (by simpa using hj) (by simpa using h0)
      rw [show i + (j + 1) = i + 1 + j by omega]
      simpa using this
theorem walkL_at {ns : List Nd} {N : Nat} (hN : ∀ k, ∀ q ∈ psAt ns k, inr N q = true) : ∀ (fuel i : Nat) {S : Mt}, fuel + i = N + 1 → i ≤ S.al.length → MOk N S → Bd S i 0 →
    (∀ j, j < i → ∀ t, t < (psAt ns (S.al.getD j 0)).length → 0 ≤ (psAt ns (S.al.getD j 0)).getD t 0 → At S ((psAt ns (S.al.getD j 0)).getD t 0) j t) →
    (∀ z f' s', At S z f' s' → At (walkL ns fuel i S) z f' s') ∧
    ∀ j, j < (walkL ns fuel i S).al.length → ∀ t, t < (psAt ns ((walkL ns fuel i S).al.getD j 0)).length → 0 ≤ (psAt ns ((walkL ns fuel i S).al.getD j 0)).getD t 0 → At (walkL ns fuel i S) ((psAt ns ((walkL ns fuel i S).al.getD j 0)).getD t 0) j t := by
  intro fuel
  induction fuel with
  | zero => intro i S h1 h2 h3 _ _; have := h3.len; omega
  | succ fuel ih =>
    intro i S h1 h2 h3 h4 h5
    unfold walkL
    split
    · rename_i hlt
      obtain ⟨t, ht⟩ := meetL_pre (f := (i : Int)) (psAt ns (S.al.getD i 0)) (S := S) 0
      obtain ⟨m1, m2, m3⟩ := meetL_at (f := (i : Int)) (psAt ns (S.al.getD i 0)) (S := S) 0 (by simpa using h4)
      obtain ⟨n1, n2⟩ := ih (i + 1) (S := meetL (i : Int) (psAt ns (S.al.getD i 0)) 0 S) (by omega) (by rw [ht, List.length_append]; omega) (h3.meetL _ _ (hN _)) (by simpa using m1.next) (fun j hj u hu h0 => by
        rw [ht, getD_pre (show j < S.al.length by omega)] at hu h0 ⊢
        by_cases hji : j < i
        · exact m2 _ _ _ (h5 j hji u hu h0)
        · obtain rfl : j = i := by omega
          simpa using m3 u hu h0)
      exact ⟨fun z f' s' ha => n1 _ _ _ (m2 _ _ _ ha), n2⟩
    · rename_i hge
      obtain rfl : i = S.al.length := by omega
      exact ⟨fun _ _ _ h => h, h5⟩
theorem walkG_at {g : Gr} (h : mayG g = true) : (∀ i, i < g.rs.length → 0 ≤ g.rs.getD i 0 → At (walkG g) (g.rs.getD i 0) (-1) i) ∧
    ∀ j, j < (walkG g).al.length → ∀ t, t < (psAt g.ns ((walkG g).al.getD j 0)).length → 0 ≤ (psAt g.ns ((walkG g).al.getD j 0)).getD t 0 → At (walkG g) ((psAt g.ns ((walkG g).al.getD j 0)).getD t 0) j t := by
  have h0 : Bd ⟨[], [], []⟩ (-1) (0 : Nat) := ⟨rfl, rfl, (fun k hk => by cases hk)⟩
  obtain ⟨m1, m2, m3⟩ := meetL_at (f := -1) g.rs 0 h0
  obtain ⟨n1, n2⟩ := walkL_at (mayG_ps h) (g.ns.length + 1) 0 (S := meetL (-1) g.rs 0 ⟨[], [], []⟩) (by omega) (Nat.zero_le _) ((MOk.empty _).meetL _ _ (mayG_roots h)) (by simpa using m1.next) (fun j hj => by omega)
  exact ⟨fun i hi h0 => n1 _ _ _ (by simpa using m3 i hi h0), n2⟩
theorem least {g : Gr} (h : mayG g = true) {n : Int} {l : List Int} (hp : IsPath g n l) : ∃ k, k < (walkG g).al.length ∧ (walkG g).al.getD k 0 = n ∧ LeP (PT (walkG g) k) l := by
  obtain ⟨a1, a2⟩ := walkG_at h
  obtain ⟨f, hw⟩ := walkG_wi g
  have hF := walkG_fok h
  induction hp with
  | root hi e h0 =>
    rename_i n i
    obtain ⟨k, hk, ek, hle⟩ := a1 i hi (by omega)
    have hfk := hF k hk
    refine ⟨k, hk, by rw [ek, e], ?_⟩
    rw [PT_rec hF hk, if_pos (by omega), List.nil_append]
    rcases hle with hle | ⟨-, hle⟩
    · omega
    · by_cases e : (walkG g).st.getD k 0 = i
      · rw [e]
        exact .refl _
      · exact .of_lt (lessP_last (a := []) (by omega))
  | step hp hi e h0 ih =>
    rename_i m n l i
    obtain ⟨k', hk', ek', hle'⟩ := ih
    obtain ⟨k, hk, ek, hle⟩ := a2 k' hk' i (by rw [ek']; exact hi) (by rw [ek', e]; exact h0)
    have hfk := hF k hk
    refine ⟨k, hk, by rw [ek, ek', e], LeP.trans (b := PT (walkG g) k' ++ [(i : Int)]) ?_ (hle'.app _)⟩
    rw [PT_rec hF hk]
    have hl := PT_pos hF hk'
    by_cases hn : (walkG g).fr.getD k 0 < 0
    · rw [if_pos hn]
      refine .of_lt (lessP_iff.2 (.inl ?_))
      rw [List.length_append, List.length_append]
      simp only [List.length_nil, List.length_singleton]
      omega
    · rw [if_neg hn]
      rcases hle with hle | ⟨hle1, hle2⟩
      · exact .of_lt (lessP_app (PT_mono hw hF k' _ (by omega) hk'))
      · rw [hle1, Int.toNat_natCast]
        by_cases e : (walkG g).st.getD k 0 = i
        · rw [e]
          exact .refl _
        · exact .of_lt (lessP_last (by omega))
theorem pathG_PT {g : Gr} (h : mayG g = true) {k : Int} (hk : k ∈ (walkG g).al) : pathG g k = PT (walkG g) ((walkG g).al.idxOf k) := by
  unfold pathG PT
  have := List.idxOf_lt_length_of_mem hk
  rw [if_pos hk, pathF_fuel (walkG_fok h) ((walkG g).al.idxOf k + 1) ((walkG g).al.length + 1) ((walkG g).al.idxOf k + 1) (by omega) (by omega) (by omega)]
/-- the path of the walk is a path -/
theorem pathG_is {g : Gr} (h : mayG g = true) {k : Int} (hk : k ∈ (walkG g).al) : IsPath g k (pathG g k) := by
  obtain ⟨f, hw⟩ := walkG_wi g
  rw [pathG_PT h hk]
  have hi := List.idxOf_lt_length_of_mem hk
  have := PT_path hw (walkG_fok h) (fun x hx => ((walkG_ok h).lt x hx).1) _ hi
  rw [show (walkG g).al.getD ((walkG g).al.idxOf k) 0 = k by rw [List.getD_eq_getElem?_getD, List.getElem?_eq_getElem hi]; simp] at this
  exact this
/-- and the least -/
theorem pathG_le {g : Gr} (h : mayG g = true) {k : Int} {l : List Int} (hp : IsPath g k l) : k ∈ (walkG g).al ∧ LeP (pathG g k) l := by
  obtain ⟨i, hi, e, hle⟩ := least h hp
  have hk : k ∈ (walkG g).al := by rw [← e]; exact getD_mem 0 hi
  refine ⟨hk, ?_⟩
  rw [pathG_PT h hk]
  have : (walkG g).al.idxOf k = i := by
    rw [← e, List.getD_eq_getElem?_getD, List.getElem?_eq_getElem hi]
    exact List.Nodup.idxOf_getElem (walkG_ok h).nd i hi
  rw [this]
  exact hle
end Go.Proofs.Ytplkogjnmjjjgaa
