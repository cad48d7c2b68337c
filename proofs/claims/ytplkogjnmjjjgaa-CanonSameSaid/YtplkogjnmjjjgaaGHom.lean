/- Plain: a graph whose nodes are numbered otherwise has the same trim; a trim is its own trim; what is reached is closed. -/
import Derived.Test.YtplkogjnmjjjgaaGTrim
namespace Go.Proofs.Ytplkogjnmjjjgaa
set_option linter.unusedVariables false
set_option linter.unusedSimpArgs false

theorem meetM_sub {S : Mt} {k f s : Int} : ∀ x ∈ S.al, x ∈ (meetM S k f s).al := by
  intro x hx
  unfold meetM
  split
  · exact hx
  · simp [hx]
theorem meetM_has {S : Mt} {k f s : Int} : k < 0 ∨ k ∈ (meetM S k f s).al := by
  unfold meetM
  split
  · assumption
  · right; simp
theorem meetL_sub {f : Int} (l : List Int) : ∀ {S : Mt} (i : Nat), ∀ x ∈ S.al, x ∈ (meetL f l i S).al := by
  induction l with
  | nil => intro S i x hx; exact hx
  | cons k l ih => intro S i x hx; exact ih (i + 1) x (meetM_sub x hx)
theorem meetL_has {f : Int} (l : List Int) : ∀ {S : Mt} (i : Nat), ∀ k ∈ l, k < 0 ∨ k ∈ (meetL f l i S).al := by
  induction l with
  | nil => intro S i k hk; cases hk
  | cons q l ih =>
    intro S i k hk
    rcases List.mem_cons.1 hk with rfl | hk
    · rcases meetM_has (S := S) (k := k) (f := f) (s := (i : Int)) with h | h
      · exact .inl h
      · exact .inr (meetL_sub l (i + 1) k h)
    · exact ih (i + 1) k hk
theorem walkL_sub {ns : List Nd} : ∀ (fuel i : Nat) {S : Mt}, ∀ x ∈ S.al, x ∈ (walkL ns fuel i S).al := by
  intro fuel
  induction fuel with
  | zero => intro i S x hx; exact hx
  | succ fuel ih =>
    intro i S x hx
    unfold walkL
    split
    · exact ih _ x (meetL_sub _ _ x hx)
    · exact hx
/-- the first met stay the first -/
theorem meetM_pre {S : Mt} {k f s : Int} : ∃ t, (meetM S k f s).al = S.al ++ t := by
  unfold meetM
  split
  · exact ⟨[], by simp⟩
  · exact ⟨[k], rfl⟩
theorem meetL_pre {f : Int} (l : List Int) : ∀ {S : Mt} (i : Nat), ∃ t, (meetL f l i S).al = S.al ++ t := by
  induction l with
  | nil => intro S i; exact ⟨[], by simp [meetL]⟩
  | cons k l ih =>
    intro S i
    obtain ⟨t1, h1⟩ := meetM_pre (S := S) (k := k) (f := f) (s := (i : Int))
    obtain ⟨t2, h2⟩ := ih (S := meetM S k f i) (i + 1)
    exact ⟨t1 ++ t2, by rw [meetL, h2, h1, List.append_assoc]⟩
/-- nodes met whose first i have been looked at -/
def Shut (ns : List Nd) (i : Nat) (S : Mt) : Prop := ∀ j, j < i → ∀ q ∈ psAt ns (S.al.getD j 0), q < 0 ∨ q ∈ S.al
theorem getD_pre {a t : List Int} {j : Nat} (h : j < a.length) : (a ++ t).getD j 0 = a.getD j 0 := by
  rw [List.getD_eq_getElem?_getD, List.getElem?_append_left h, ← List.getD_eq_getElem?_getD]
theorem walkL_shut {ns : List Nd} {N : Nat} (hN : ∀ k, ∀ q ∈ psAt ns k, inr N q = true) : ∀ (fuel i : Nat) {S : Mt}, fuel + i = N + 1 → i ≤ S.al.length → MOk N S → Shut ns i S → Shut ns (walkL ns fuel i S).al.length (walkL ns fuel i S) := by
  intro fuel
  induction fuel with
  | zero => intro i S h1 h2 h3 _; have := h3.len; omega
  | succ fuel ih =>
    intro i S h1 h2 h3 h4
    unfold walkL
    split
    · rename_i hlt
      obtain ⟨t, ht⟩ := meetL_pre (f := (i : Int)) (psAt ns (S.al.getD i 0)) (S := S) 0
      refine ih (i + 1) (by omega) (by rw [ht, List.length_append]; omega) (h3.meetL _ _ (hN _)) fun j hj q hq => ?_
      rw [ht, getD_pre (by omega)] at hq
      by_cases hji : j < i
      · rcases h4 j hji q hq with h | h
        · exact .inl h
        · exact .inr (by rw [ht]; simp [h])
      · obtain rfl : j = i := by omega
        exact meetL_has _ 0 q hq
    · rename_i hge
      obtain rfl : i = S.al.length := by omega
      exact h4
theorem walkG_roots {g : Gr} : ∀ k ∈ g.rs, k < 0 ∨ k ∈ (walkG g).al := by
  intro k hk
  rcases meetL_has (f := -1) g.rs (S := ⟨[], [], []⟩) 0 k hk with h | h
  · exact .inl h
  · exact .inr (walkL_sub _ _ k h)
theorem walkG_shut {g : Gr} (h : mayG g = true) : ∀ k ∈ (walkG g).al, ∀ q ∈ psAt g.ns k, q < 0 ∨ q ∈ (walkG g).al := by
  intro k hk q hq
  obtain ⟨j, hj, rfl⟩ := List.getElem_of_mem hk
  have := walkL_shut (mayG_ps h) (g.ns.length + 1) 0 (S := meetL (-1) g.rs 0 ⟨[], [], []⟩) (by omega) (Nat.zero_le _) ((MOk.empty _).meetL _ _ (mayG_roots h)) (fun j hj => by omega)
  refine this j hj q ?_
  show q ∈ psAt g.ns ((walkG g).al.getD j 0)
  rw [List.getD_eq_getElem?_getD, List.getElem?_eq_getElem hj]
  exact hq
/-- numbered otherwise -/
structure Turn (σ : Int → Int) (A : List Int) : Prop where
  neg : ∀ k, k < 0 → σ k < 0
  pos : ∀ k ∈ A, 0 ≤ σ k
  inj : ∀ j ∈ A, ∀ k ∈ A, σ j = σ k → j = k
def Alike (σ : Int → Int) (S T : Mt) : Prop := T.al = S.al.map σ ∧ T.fr = S.fr ∧ T.st = S.st
theorem Alike.meet {σ : Int → Int} {A : List Int} (hs : Turn σ A) {S T : Mt} (h : Alike σ S T) {k f s : Int} (hA : ∀ x ∈ (meetM S k f s).al, x ∈ A) (hA0 : ∀ x ∈ A, 0 ≤ x) : Alike σ (meetM S k f s) (meetM T (σ k) f s) := by
  obtain ⟨h1, h2, h3⟩ := h
  have hc : (k < 0 ∨ k ∈ S.al) ↔ (σ k < 0 ∨ σ k ∈ T.al) := by
    constructor
    · rintro (h | h)
      · exact .inl (hs.neg k h)
      · exact .inr (by rw [h1]; exact List.mem_map_of_mem h)
    · intro h
      by_cases hk : k < 0
      · exact .inl hk
      · right
        have hkA : k ∈ A := by
          rcases meetM_has (S := S) (k := k) (f := f) (s := s) with e | e
          · exact absurd e hk
          · exact hA k e
        rcases h with h | h
        · have := hs.pos k hkA; omega
        · rw [h1, List.mem_map] at h
          obtain ⟨j, hj, e⟩ := h
          rw [hs.inj k hkA j (hA j (meetM_sub j hj)) e.symm]
          exact hj
  unfold meetM
  by_cases h : k < 0 ∨ k ∈ S.al
  · rw [if_pos h, if_pos (hc.1 h)]
    exact ⟨h1, h2, h3⟩
  · rw [if_neg h, if_neg (fun e => h (hc.2 e))]
    exact ⟨by simp [h1], by simp [h2], by simp [h3]⟩
theorem Alike.meetL {σ : Int → Int} {A : List Int} (hs : Turn σ A) (hA0 : ∀ x ∈ A, 0 ≤ x) {f : Int} (l : List Int) : ∀ {S T : Mt} (i : Nat), Alike σ S T → (∀ x ∈ (Go.Proofs.Ytplkogjnmjjjgaa.meetL f l i S).al, x ∈ A) → Alike σ (Go.Proofs.Ytplkogjnmjjjgaa.meetL f l i S) (Go.Proofs.Ytplkogjnmjjjgaa.meetL f (l.map σ) i T) := by
  induction l with
  | nil => intro S T i h _; exact h
  | cons k l ih =>
    intro S T i h hA
    refine ih (i + 1) (h.meet hs (fun x hx => hA x (meetL_sub l (i + 1) x hx)) hA0) hA
theorem Alike.walkL {σ : Int → Int} {A : List Int} (hs : Turn σ A) (hA0 : ∀ x ∈ A, 0 ≤ x) {ns ms : List Nd} {N M : Nat} (hN : ∀ k, ∀ q ∈ psAt ns k, inr N q = true) (hM : ∀ k, ∀ q ∈ psAt ms k, inr M q = true) (hps : ∀ k ∈ A, psAt ms (σ k) = (psAt ns k).map σ) :
    ∀ (f f' i : Nat) {S T : Mt}, f + i = N + 1 → f' + i = M + 1 → i ≤ S.al.length → MOk N S → MOk M T → Alike σ S T → (∀ x ∈ (Go.Proofs.Ytplkogjnmjjjgaa.walkL ns f i S).al, x ∈ A) → Alike σ (Go.Proofs.Ytplkogjnmjjjgaa.walkL ns f i S) (Go.Proofs.Ytplkogjnmjjjgaa.walkL ms f' i T) := by
  intro f
  induction f with
  | zero => intro f' i S T h1 _ h2 h3 _ _ _; have := h3.len; omega
  | succ f ih =>
    intro f' i S T h1 h1' h2 h3 h3' h4 hA
    obtain ⟨g', rfl⟩ : ∃ g', f' = g' + 1 := by
      refine ⟨f' - 1, ?_⟩
      have := h3'.len
      rw [h4.1, List.length_map] at this
      omega
    have hl : T.al.length = S.al.length := by rw [h4.1, List.length_map]
    rw [Go.Proofs.Ytplkogjnmjjjgaa.walkL] at hA ⊢
    rw [Go.Proofs.Ytplkogjnmjjjgaa.walkL]
    by_cases hlt : i < S.al.length
    · rw [if_pos hlt] at hA
      rw [if_pos hlt, if_pos (by omega)]
      have hA1 : ∀ x ∈ (Go.Proofs.Ytplkogjnmjjjgaa.meetL (i : Int) (psAt ns (S.al.getD i 0)) 0 S).al, x ∈ A := fun x hx => hA x (walkL_sub _ _ x hx)
      have hz : S.al.getD i 0 ∈ A := hA1 _ (meetL_sub _ _ _ (getD_mem 0 hlt))
      have hT : T.al.getD i 0 = σ (S.al.getD i 0) := by
        rw [h4.1, List.getD_eq_getElem?_getD, List.getElem?_map, List.getElem?_eq_getElem hlt, List.getD_eq_getElem?_getD, List.getElem?_eq_getElem hlt]
        rfl
      rw [hT, hps _ hz]
      obtain ⟨t, ht⟩ := meetL_pre (f := (i : Int)) (psAt ns (S.al.getD i 0)) (S := S) 0
      refine ih g' (i + 1) (by omega) (by omega) (by rw [ht, List.length_append]; omega) (h3.meetL _ _ (hN _)) ?_ (h4.meetL hs hA0 _ 0 hA1) hA
      rw [← hps _ hz]
      exact h3'.meetL _ _ (hM _)
    · rw [if_neg hlt, if_neg (by omega)]
      exact h4
theorem idxOf_map {σ : Int → Int} : ∀ {A : List Int} {k : Int}, (∀ j ∈ A, ∀ k ∈ A, σ j = σ k → j = k) → k ∈ A → (A.map σ).idxOf (σ k) = A.idxOf k
  | a :: A, k, hi, hk => by
    rw [List.map_cons, List.idxOf_cons, List.idxOf_cons]
    by_cases e : a = k
    · subst e
      simp
    · have e2 : σ a ≠ σ k := fun h => e (hi a (List.mem_cons_self ..) k hk h)
      have hk2 : k ∈ A := by
        rcases List.mem_cons.1 hk with h | h
        · exact absurd h.symm e
        · exact h
      have := idxOf_map (fun j hj k hk => hi j (List.mem_cons_of_mem _ hj) k (List.mem_cons_of_mem _ hk)) hk2
      rw [this, show (σ a == σ k) = false by rw [beq_eq_false_iff_ne]; exact e2, show (a == k) = false by rw [beq_eq_false_iff_ne]; exact e]
  | [], k, _, hk => by cases hk
theorem posP_turn {σ : Int → Int} {A : List Int} (hs : Turn σ A) (hA0 : ∀ x ∈ A, 0 ≤ x) {k : Int} (hk : k < 0 ∨ k ∈ A) : posP (A.map σ) (σ k) = posP A k := by
  unfold posP
  rcases hk with h | h
  · have h3 : ¬ k ∈ A := fun e => by have := hA0 k e; omega
    have h4 : ¬ σ k ∈ A.map σ := fun e => by
      rw [List.mem_map] at e
      obtain ⟨j, hj, e⟩ := e
      have h1 := hs.pos j hj
      have h2 := hs.neg k h
      omega
    rw [if_neg h3, if_neg h4]
  · rw [if_pos h, if_pos (List.mem_map_of_mem h), idxOf_map hs.inj h]
/-- a graph numbered otherwise, whatever else it has, has the same trim -/
theorem trim_turn {σ : Int → Int} {g h : Gr} (hg : mayG g = true) (hh : mayG h = true) (hs : Turn σ (walkG g).al) (hr : h.rs = g.rs.map σ)
    (hn : ∀ k ∈ (walkG g).al, h.ns.getD (σ k).toNat default = ⟨(psAt g.ns k).map σ, (g.ns.getD k.toNat default).fs, (g.ns.getD k.toNat default).ws⟩) : (walkG h).al = (walkG g).al.map σ ∧ trimG h = trimG g := by
  have hA0 : ∀ x ∈ (walkG g).al, 0 ≤ x := fun x hx => ((walkG_ok hg).lt x hx).1
  have hps : ∀ k ∈ (walkG g).al, psAt h.ns (σ k) = (psAt g.ns k).map σ := fun k hk => by
    unfold psAt
    rw [hn k hk]
    rfl
  have hal : Alike σ (walkG g) (walkG h) := by
    have hm : Alike σ (meetL (-1) g.rs 0 ⟨[], [], []⟩) (meetL (-1) h.rs 0 ⟨[], [], []⟩) := by
      rw [hr]
      exact Alike.meetL hs hA0 _ 0 ⟨rfl, rfl, rfl⟩ fun x hx => walkL_sub _ _ x hx
    exact Alike.walkL hs hA0 (mayG_ps hg) (mayG_ps hh) hps _ _ 0 (by omega) (by omega) (Nat.zero_le _) ((MOk.empty _).meetL _ _ (mayG_roots hg)) ((MOk.empty _).meetL _ _ (mayG_roots hh)) hm fun x hx => hx
  refine ⟨hal.1, ?_⟩
  have hpp : ∀ k, (k < 0 ∨ k ∈ (walkG g).al) → posP (walkG h).al (σ k) = posP (walkG g).al k := fun k hk => by
    rw [hal.1]
    exact posP_turn hs hA0 hk
  unfold trimG
  congr 1
  · rw [hr, List.map_map]
    exact List.map_congr_left fun k hk => hpp k (walkG_roots k hk)
  · rw [hal.1, List.map_map]
    refine List.map_congr_left fun k hk => ?_
    show (⟨(psAt h.ns (σ k)).map _, (h.ns.getD (σ k).toNat default).fs, (h.ns.getD (σ k).toNat default).ws⟩ : Nd) = _
    rw [hps k hk, hn k hk, List.map_map]
    congr 1
    exact List.map_congr_left fun q hq => by
      rw [← hal.1]
      exact hpp q (walkG_shut hg k hk q hq)
theorem posP_idx {A : List Int} {k : Int} (h : k ∈ A) : posP A k = A.idxOf k := by unfold posP; rw [if_pos h]
theorem posP_out {A : List Int} {k : Int} (h : ¬ k ∈ A) : posP A k = -1 := by unfold posP; rw [if_neg h]
theorem trimG_may {g : Gr} (h : mayG g = true) : mayG (trimG g) = true := by
  have hin : ∀ k, inr (walkG g).al.length (posP (walkG g).al k) = true := fun k => by
    unfold inr
    refine decide_eq_true ?_
    unfold posP
    split
    · rename_i hk
      have := List.idxOf_lt_length_iff.2 hk
      omega
    · omega
  unfold mayG
  rw [show (trimG g).ns.length = (walkG g).al.length from List.length_map .., Bool.and_eq_true, List.all_eq_true, List.all_eq_true]
  refine ⟨fun x hx => ?_, fun x hx => ?_⟩
  · obtain ⟨k, -, rfl⟩ := List.mem_map.1 hx
    exact hin k
  · obtain ⟨k, hk, rfl⟩ := List.mem_map.1 hx
    have hlt := (walkG_ok h).lt k hk
    have hx := getD_mem (default : Nd) (show k.toNat < g.ns.length by omega)
    unfold mayG at h
    rw [Bool.and_eq_true, List.all_eq_true, List.all_eq_true] at h
    have hn := h.2 _ hx
    unfold mayN at hn ⊢
    rw [Bool.and_eq_true] at hn ⊢
    refine ⟨?_, ?_⟩
    · rw [List.length_map]
      exact hn.1
    · rw [List.all_eq_true]
      intro q hq
      obtain ⟨j, -, rfl⟩ := List.mem_map.1 hq
      exact hin j
theorem trimG_turn {g : Gr} (h : mayG g = true) : Turn (posP (walkG g).al) (walkG g).al := by
  refine ⟨fun k hk => ?_, fun k hk => ?_, fun j hj k hk e => ?_⟩
  · rw [posP_out (fun e => by have := ((walkG_ok h).lt k e).1; omega)]
    omega
  · rw [posP_idx hk]
    omega
  · rw [posP_idx hj, posP_idx hk] at e
    have e2 : (walkG g).al.idxOf j = (walkG g).al.idxOf k := by omega
    have h1 := List.getElem_idxOf (List.idxOf_lt_length_iff.2 hj)
    have h2 := List.getElem_idxOf (List.idxOf_lt_length_iff.2 hk)
    rw [← h1, ← h2]
    simp only [e2]
theorem trimG_twice {g : Gr} (h : mayG g = true) : trimG (trimG g) = trimG g := by
  refine (trim_turn (σ := posP (walkG g).al) h (trimG_may h) (trimG_turn h) rfl fun k hk => ?_).2
  have hlt := List.idxOf_lt_length_iff.2 hk
  rw [posP_idx hk, Int.toNat_natCast, trimG_ns, List.getD_eq_getElem?_getD, List.getElem?_map, List.getElem?_eq_getElem hlt, List.getElem_idxOf hlt]
  rfl
theorem trimG_few {g : Gr} (h : mayG g = true) (f : FewG g) : FewG (trimG g) := by
  have hlen := (walkG_ok h).len
  have := f.ns
  refine ⟨by rw [show (trimG g).ns.length = (walkG g).al.length from List.length_map ..]; omega, by rw [show (trimG g).rs.length = g.rs.length from List.length_map ..]; exact f.rs, fun x hx => ?_⟩
  obtain ⟨k, hk, rfl⟩ := List.mem_map.1 hx
  have hlt := (walkG_ok h).lt k hk
  have := f.each _ (getD_mem (default : Nd) (show k.toNat < g.ns.length by omega))
  refine ⟨?_, this.2.1, this.2.2⟩
  rw [List.length_map]
  exact this.1
end Go.Proofs.Ytplkogjnmjjjgaa
