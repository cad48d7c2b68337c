/- Plain: the order of paths (shorter, or as long and less where they part first); the paths of the nodes met increase along the walk. -/
import Derived.Test.YtplkogjnmjjjgaaGLess
import Derived.Test.YtplkogjnmjjjgaaGHom
namespace Go.Proofs.Ytplkogjnmjjjgaa
set_option linter.unusedVariables false
set_option linter.unusedSimpArgs false

theorem lexL_trans : ∀ {a b c : List Int}, a.length = b.length → b.length = c.length → lexL a b = true → lexL b c = true → lexL a c = true
  | x :: a, y :: b, z :: c, h1, h2, h3, h4 => by
    rw [lexL] at h3 h4 ⊢
    simp only [List.length_cons, Nat.add_right_cancel_iff] at h1 h2
    by_cases e1 : x = y
    · subst e1
      rw [if_pos rfl] at h3
      by_cases e2 : x = z
      · subst e2
        rw [if_pos rfl] at h4 ⊢
        exact lexL_trans h1 h2 h3 h4
      · rw [if_neg e2] at h4 ⊢
        exact h4
    · rw [if_neg e1, decide_eq_true_iff] at h3
      by_cases e2 : y = z
      · subst e2
        rw [if_neg e1]
        exact decide_eq_true h3
      · rw [if_neg e2, decide_eq_true_iff] at h4
        rw [if_neg (by omega)]
        exact decide_eq_true (by omega)
  | [], _, _, _, _, h3, _ => by simp [lexL] at h3
  | _ :: _, [], _, _, _, h3, _ => by simp [lexL] at h3
  | _ :: _, _ :: _, [], _, _, _, h4 => by simp [lexL] at h4
theorem lexL_tri : ∀ {a b : List Int}, a.length = b.length → lexL a b = true ∨ a = b ∨ lexL b a = true
  | [], [], _ => .inr (.inl rfl)
  | x :: a, y :: b, h => by
    simp only [List.length_cons, Nat.add_right_cancel_iff] at h
    rcases Int.lt_trichotomy x y with e | e | e
    · left
      rw [lexL, if_neg (by omega)]
      exact decide_eq_true e
    · subst e
      rcases lexL_tri h with h | h | h
      · left; rw [lexL, if_pos rfl]; exact h
      · right; left; rw [h]
      · right; right; rw [lexL, if_pos rfl]; exact h
    · right; right
      rw [lexL, if_neg (by omega)]
      exact decide_eq_true e
  | [], _ :: _, h => by simp at h
  | _ :: _, [], h => by simp at h
theorem lexL_app : ∀ {a b : List Int} {x y : Int}, a.length = b.length → lexL a b = true → lexL (a ++ [x]) (b ++ [y]) = true
  | u :: a, v :: b, x, y, h, hl => by
    simp only [List.length_cons, Nat.add_right_cancel_iff] at h
    rw [lexL] at hl
    rw [List.cons_append, List.cons_append, lexL]
    by_cases e : u = v
    · rw [if_pos e] at hl ⊢
      exact lexL_app h hl
    · rw [if_neg e] at hl ⊢
      exact hl
  | [], _, _, _, _, hl => by simp [lexL] at hl
  | _ :: _, [], _, _, _, hl => by simp [lexL] at hl
theorem lexL_last : ∀ {a : List Int} {x y : Int}, x < y → lexL (a ++ [x]) (a ++ [y]) = true
  | [], x, y, h => by
    rw [List.nil_append, List.nil_append, lexL, if_neg (by omega)]
    exact decide_eq_true h
  | u :: a, x, y, h => by
    rw [List.cons_append, List.cons_append, lexL, if_pos rfl]
    exact lexL_last h
theorem lessP_iff {a b : List Int} : lessP a b = true ↔ a.length < b.length ∨ (a.length = b.length ∧ lexL a b = true) := by
  unfold lessP
  by_cases e : a.length = b.length
  · rw [if_pos e]
    constructor
    · exact fun h => .inr ⟨e, h⟩
    · rintro (h | h)
      · omega
      · exact h.2
  · rw [if_neg e, decide_eq_true_iff]
    constructor
    · exact .inl
    · rintro (h | h)
      · exact h
      · exact absurd h.1 e
theorem lessP_trans {a b c : List Int} (h1 : lessP a b = true) (h2 : lessP b c = true) : lessP a c = true := by
  rw [lessP_iff] at h1 h2 ⊢
  rcases h1 with h1 | ⟨h1, h1'⟩ <;> rcases h2 with h2 | ⟨h2, h2'⟩
  · exact .inl (by omega)
  · exact .inl (by omega)
  · exact .inl (by omega)
  · exact .inr ⟨by omega, lexL_trans h1 h2 h1' h2'⟩
theorem lessP_irr (a : List Int) : lessP a a = false := by
  unfold lessP
  rw [if_pos rfl, lexL_eq rfl]
theorem lessP_tri (a b : List Int) : lessP a b = true ∨ a = b ∨ lessP b a = true := by
  rcases Nat.lt_trichotomy a.length b.length with h | h | h
  · exact .inl (lessP_iff.2 (.inl h))
  · rcases lexL_tri h with e | e | e
    · exact .inl (lessP_iff.2 (.inr ⟨h, e⟩))
    · exact .inr (.inl e)
    · exact .inr (.inr (lessP_iff.2 (.inr ⟨h.symm, e⟩)))
  · exact .inr (.inr (lessP_iff.2 (.inl h)))
theorem lessP_app {a b : List Int} {x y : Int} (h : lessP a b = true) : lessP (a ++ [x]) (b ++ [y]) = true := by
  rw [lessP_iff] at h ⊢
  simp only [List.length_append, List.length_singleton]
  rcases h with h | ⟨h, h'⟩
  · exact .inl (by omega)
  · exact .inr ⟨by omega, lexL_app h h'⟩
theorem lessP_last {a : List Int} {x y : Int} (h : x < y) : lessP (a ++ [x]) (a ++ [y]) = true := lessP_iff.2 (.inr ⟨by simp, lexL_last h⟩)
/-- not greater -/
def LeP (a b : List Int) : Prop := lessP b a = false
theorem LeP.of_lt {a b : List Int} (h : lessP a b = true) : LeP a b := by
  unfold LeP
  rw [← Bool.not_eq_true]
  intro h2
  have := lessP_trans h h2
  rw [lessP_irr] at this
  cases this
theorem LeP.refl (a : List Int) : LeP a a := lessP_irr a
theorem LeP.cases {a b : List Int} (h : LeP a b) : lessP a b = true ∨ a = b := by
  rcases lessP_tri a b with e | e | e
  · exact .inl e
  · exact .inr e
  · unfold LeP at h
    rw [h] at e
    cases e
theorem LeP.trans {a b c : List Int} (h1 : LeP a b) (h2 : LeP b c) : LeP a c := by
  rcases h1.cases with e1 | rfl
  · rcases h2.cases with e2 | rfl
    · exact .of_lt (lessP_trans e1 e2)
    · exact .of_lt e1
  · exact h2
theorem LeP.antisymm {a b : List Int} (h1 : LeP a b) (h2 : LeP b a) : a = b := by
  rcases h1.cases with e | e
  · unfold LeP at h2
    rw [h2] at e
    cases e
  · exact e
theorem LeP.app {a b : List Int} (x : Int) (h : LeP a b) : LeP (a ++ [x]) (b ++ [x]) := by
  rcases h.cases with e | rfl
  · exact .of_lt (lessP_app e)
  · exact .refl _
/-- a path from a root to a node -/
inductive IsPath (g : Gr) : Int → List Int → Prop
  | root {n : Int} {i : Nat} (h : i < g.rs.length) (e : g.rs.getD i 0 = n) (h0 : 0 ≤ n) : IsPath g n [(i : Int)]
  | step {m n : Int} {l : List Int} {i : Nat} (hp : IsPath g m l) (h : i < (psAt g.ns m).length) (e : (psAt g.ns m).getD i 0 = n) (h0 : 0 ≤ n) : IsPath g n (l ++ [(i : Int)])
end Go.Proofs.Ytplkogjnmjjjgaa
