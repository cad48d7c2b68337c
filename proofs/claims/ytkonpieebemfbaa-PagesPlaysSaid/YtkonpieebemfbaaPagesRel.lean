/- A list of entries tells the same as a function from pages to frames. No program in sight. -/
import Derived.Test.YtkonpieebemfbaaPagesRef
namespace Go.Proofs.Ytkonpieebemfbaa

/-- the entries are those pages whose F is not 0, each once -/
structure Rel (np : Nat) (F : Nat → Nat) (es : List (Nat × Nat)) : Prop where
  each : ∀ i, i < es.length → eP es i < np ∧ F (eP es i) = eF es i + 1
  all : ∀ p, F p ≠ 0 → ∃ i, i < es.length ∧ eP es i = p
  once : ∀ i j, i < es.length → j < es.length → eP es i = eP es j → i = j
  many : sumF F ((np + 255) / 256) = es.length
theorem Rel.nil (np : Nat) : Rel np (fun _ => 0) [] := ⟨by simp, fun p h => absurd rfl h, by simp, sum_zeros _⟩
theorem Rel.not {np : Nat} {F : Nat → Nat} {es : List (Nat × Nat)} (h : Rel np F es) {p : Nat} (h0 : F p = 0) : IsAt es p (-1) := .inl ⟨rfl, fun i hi e => by
  have := (h.each i hi).2
  rw [show eP es i = p by omega, h0] at this
  omega⟩
theorem Rel.at {np : Nat} {F : Nat → Nat} {es : List (Nat × Nat)} (h : Rel np F es) {p : Nat} (h0 : F p ≠ 0) : ∃ i, i < es.length ∧ IsAt es p i ∧ eP es i = p ∧ F p = eF es i + 1 := by
  obtain ⟨i, hi, e⟩ := h.all p h0
  refine ⟨i, hi, .inr ⟨i, hi, rfl, by rw [e], fun j hj k => ?_⟩, e, by rw [← e]; exact (h.each i hi).2⟩
  have := h.once i j hi (by omega) (by omega)
  omega
theorem eP_append (es : List (Nat × Nat)) (e : Nat × Nat) (i : Nat) : eP (es ++ [e]) i = if i < es.length then eP es i else if i = es.length then e.1 else 0 := by
  unfold eP
  rw [List.getD_eq_getElem?_getD, List.getD_eq_getElem?_getD, List.getElem?_append]
  split
  · rfl
  · split
    · rename_i h; subst h; simp
    · rw [List.getElem?_eq_none (by simp; omega)]; rfl
theorem eF_append (es : List (Nat × Nat)) (e : Nat × Nat) (i : Nat) : eF (es ++ [e]) i = if i < es.length then eF es i else if i = es.length then e.2 else 0 := by
  unfold eF
  rw [List.getD_eq_getElem?_getD, List.getD_eq_getElem?_getD, List.getElem?_append]
  split
  · rfl
  · split
    · rename_i h; subst h; simp
    · rw [List.getElem?_eq_none (by simp; omega)]; rfl
theorem sum_turn' {F : Nat → Nat} {np p x : Nat} (hp : p < np) (hx : x ≠ 0) (h0 : F p = 0) : sumF (turn F p x) ((np + 255) / 256) = sumF F ((np + 255) / 256) + 1 := by
  have h := sum_turn (F := F) (i := p / 256) (j := p % 256) (x := x) (m := (np + 255) / 256) (by omega) (by omega) hx (by rw [show p / 256 * 256 + p % 256 = p by omega]; exact h0)
  rw [show p / 256 * 256 + p % 256 = p by omega] at h
  exact h
theorem sum_clear' {F : Nat → Nat} {np p : Nat} (hp : p < np) (h0 : F p ≠ 0) : sumF (turn F p 0) ((np + 255) / 256) + 1 = sumF F ((np + 255) / 256) := by
  have h := sum_clear (F := F) (i := p / 256) (j := p % 256) (m := (np + 255) / 256) (by omega) (by omega) (by rw [show p / 256 * 256 + p % 256 = p by omega]; exact h0)
  rw [show p / 256 * 256 + p % 256 = p by omega] at h
  exact h
theorem Rel.put {np : Nat} {F : Nat → Nat} {es : List (Nat × Nat)} (h : Rel np F es) {p f : Nat} (hp : p < np) (h0 : F p = 0) : Rel np (turn F p (f + 1)) (es ++ [(p, f)]) := by
  refine ⟨fun i hi => ?_, fun q hq => ?_, fun i j hi hj e => ?_, ?_⟩
  · rw [eP_append, eF_append]
    by_cases hl : i < es.length
    · rw [if_pos hl, if_pos hl]
      have := h.each i hl
      refine ⟨this.1, ?_⟩
      have hne : eP es i ≠ p := fun e => by rw [e, h0] at this; omega
      unfold turn
      rw [if_neg hne]
      exact this.2
    · have : i = es.length := by simp at hi; omega
      rw [if_neg hl, if_pos this, if_neg hl, if_pos this]
      refine ⟨hp, ?_⟩
      unfold turn
      rw [if_pos rfl]
  · by_cases e : q = p
    · exact ⟨es.length, by simp, by rw [eP_append, if_neg (by omega), if_pos rfl, e]⟩
    · unfold turn at hq
      rw [if_neg e] at hq
      obtain ⟨i, hi, e2⟩ := h.all q hq
      exact ⟨i, by simp; omega, by rw [eP_append, if_pos hi]; exact e2⟩
  · simp at hi hj
    rw [eP_append, eP_append] at e
    have no : ∀ k, k < es.length → eP es k ≠ p := fun k hk e2 => by have := (h.each k hk).2; rw [e2, h0] at this; omega
    by_cases h1 : i < es.length
    · rw [if_pos h1] at e
      by_cases h2 : j < es.length
      · rw [if_pos h2] at e
        exact h.once i j h1 h2 e
      · rw [if_neg h2, if_pos (by omega)] at e
        exact absurd e (no i h1)
    · rw [if_neg h1, if_pos (by omega)] at e
      by_cases h2 : j < es.length
      · rw [if_pos h2] at e
        exact absurd e.symm (no j h2)
      · omega
  · rw [sum_turn' hp (by omega) h0, h.many]
    simp
theorem eP_cut (es : List (Nat × Nat)) (k i : Nat) (hk : k < es.length) : eP (es.take k ++ es.drop (k + 1)) i = if i < k then eP es i else eP es (i + 1) := by
  unfold eP
  rw [List.getD_eq_getElem?_getD, List.getElem?_append]
  have : (es.take k).length = k := by simp; omega
  rw [this]
  split
  · rename_i h
    rw [List.getElem?_take_of_lt h, List.getD_eq_getElem?_getD]
  · rw [List.getElem?_drop, show k + 1 + (i - k) = i + 1 by omega, List.getD_eq_getElem?_getD]
theorem eF_cut (es : List (Nat × Nat)) (k i : Nat) (hk : k < es.length) : eF (es.take k ++ es.drop (k + 1)) i = if i < k then eF es i else eF es (i + 1) := by
  unfold eF
  rw [List.getD_eq_getElem?_getD, List.getElem?_append]
  have : (es.take k).length = k := by simp; omega
  rw [this]
  split
  · rename_i h
    rw [List.getElem?_take_of_lt h, List.getD_eq_getElem?_getD]
  · rw [List.getElem?_drop, show k + 1 + (i - k) = i + 1 by omega, List.getD_eq_getElem?_getD]
theorem Rel.drop {np : Nat} {F : Nat → Nat} {es : List (Nat × Nat)} (h : Rel np F es) {k : Nat} (hk : k < es.length) : Rel np (turn F (eP es k) 0) (es.take k ++ es.drop (k + 1)) := by
  have hl : (es.take k ++ es.drop (k + 1)).length + 1 = es.length := by simp; omega
  have hone := (h.each k hk)
  refine ⟨fun i hi => ?_, fun q hq => ?_, fun i j hi hj e => ?_, ?_⟩
  · rw [eP_cut es k i hk, eF_cut es k i hk]
    by_cases c : i < k
    · rw [if_pos c, if_pos c]
      have := h.each i (by omega)
      refine ⟨this.1, ?_⟩
      have hne : eP es i ≠ eP es k := fun e => by have := h.once i k (by omega) hk e; omega
      unfold turn
      rw [if_neg hne]
      exact this.2
    · rw [if_neg c, if_neg c]
      have := h.each (i + 1) (by omega)
      refine ⟨this.1, ?_⟩
      have hne : eP es (i + 1) ≠ eP es k := fun e => by have := h.once (i + 1) k (by omega) hk e; omega
      unfold turn
      rw [if_neg hne]
      exact this.2
  · unfold turn at hq
    by_cases e : q = eP es k
    · rw [if_pos e] at hq; exact absurd rfl hq
    · rw [if_neg e] at hq
      obtain ⟨i, hi, e2⟩ := h.all q hq
      have hik : i ≠ k := fun e3 => e (by rw [← e2, e3])
      by_cases c : i < k
      · exact ⟨i, by omega, by rw [eP_cut es k i hk, if_pos c]; exact e2⟩
      · exact ⟨i - 1, by omega, by rw [eP_cut es k _ hk, if_neg (by omega), show i - 1 + 1 = i by omega]; exact e2⟩
  · rw [eP_cut es k i hk, eP_cut es k j hk] at e
    by_cases c : i < k
    · rw [if_pos c] at e
      by_cases d : j < k
      · rw [if_pos d] at e; exact h.once i j (by omega) (by omega) e
      · rw [if_neg d] at e
        have := h.once i (j + 1) (by omega) (by omega) e
        omega
    · rw [if_neg c] at e
      by_cases d : j < k
      · rw [if_pos d] at e
        have := h.once (i + 1) j (by omega) (by omega) e
        omega
      · rw [if_neg d] at e
        have := h.once (i + 1) (j + 1) (by omega) (by omega) e
        omega
  · have := sum_clear' (F := F) (np := np) hone.1 (by omega)
    have := h.many
    omega
theorem eP_set (es : List (Nat × Nat)) (k q i : Nat) (hk : k < es.length) : eP (es.set k (q, eF es k)) i = if i = k then q else eP es i := by
  unfold eP
  rw [List.getD_eq_getElem?_getD, List.getElem?_set]
  by_cases h : i = k
  · subst h; simp [hk]
  · rw [if_neg (fun e => h e.symm), if_neg h, List.getD_eq_getElem?_getD]
theorem eF_set (es : List (Nat × Nat)) (k q i : Nat) (hk : k < es.length) : eF (es.set k (q, eF es k)) i = eF es i := by
  unfold eF
  rw [List.getD_eq_getElem?_getD, List.getElem?_set]
  by_cases h : i = k
  · subst h; simp [hk]
  · rw [if_neg (fun e => h e.symm), List.getD_eq_getElem?_getD]
theorem Rel.move {np : Nat} {F : Nat → Nat} {es : List (Nat × Nat)} (h : Rel np F es) {k q : Nat} (hk : k < es.length) (hq : q < np) (h0 : F q = 0) : Rel np (turn (turn F (eP es k) 0) q (F (eP es k))) (es.set k (q, eF es k)) := by
  have hone := h.each k hk
  have hqk : q ≠ eP es k := fun e => by rw [← e, h0] at hone; omega
  have no : ∀ i, i < es.length → eP es i ≠ q := fun i hi e => by have := (h.each i hi).2; rw [e, h0] at this; omega
  refine ⟨fun i hi => ?_, fun p hp => ?_, fun i j hi hj e => ?_, ?_⟩
  · rw [List.length_set] at hi
    rw [eP_set es k q i hk, eF_set es k q i hk]
    by_cases c : i = k
    · rw [if_pos c]
      refine ⟨hq, ?_⟩
      unfold turn
      rw [if_pos rfl, hone.2, c]
    · rw [if_neg c]
      have := h.each i hi
      refine ⟨this.1, ?_⟩
      unfold turn
      rw [if_neg (no i hi), if_neg (fun e => c (h.once i k hi hk e))]
      exact this.2
  · by_cases e : p = q
    · exact ⟨k, by rw [List.length_set]; exact hk, by rw [eP_set es k q k hk, if_pos rfl, e]⟩
    · unfold turn at hp
      rw [if_neg e] at hp
      by_cases e2 : p = eP es k
      · rw [if_pos e2] at hp; exact absurd rfl hp
      · rw [if_neg e2] at hp
        obtain ⟨i, hi, e3⟩ := h.all p hp
        exact ⟨i, by rw [List.length_set]; exact hi, by rw [eP_set es k q i hk, if_neg (fun e4 => e2 (by rw [← e3, e4]))]; exact e3⟩
  · rw [List.length_set] at hi hj
    rw [eP_set es k q i hk, eP_set es k q j hk] at e
    by_cases c : i = k
    · by_cases d : j = k
      · omega
      · rw [if_pos c, if_neg d] at e
        exact absurd e.symm (no j hj)
    · by_cases d : j = k
      · rw [if_neg c, if_pos d] at e
        exact absurd e (no i hi)
      · rw [if_neg c, if_neg d] at e
        exact h.once i j hi hj e
  · have h1 := sum_clear' (F := F) (np := np) hone.1 (by omega)
    have h2 := sum_turn' (F := turn F (eP es k) 0) (np := np) (p := q) (x := F (eP es k)) hq (by omega) (by unfold turn; rw [if_neg hqk]; exact h0)
    have h3 := h.many
    rw [List.length_set]
    omega
end Go.Proofs.Ytkonpieebemfbaa
