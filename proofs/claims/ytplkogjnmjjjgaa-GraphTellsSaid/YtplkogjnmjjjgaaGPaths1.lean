/- Plain, of the reference's Path: a row of paths, made less as long as one can be: it ends, and then each is the least. -/
import Derived.Test.YtplkogjnmjjjgaaGLeast4
namespace Go.Proofs.Ytplkogjnmjjjgaa
set_option linter.unusedVariables false
set_option linter.unusedSimpArgs false

/-- the rank of a path in the order, in base B -/
def rk (B : Nat) : List Int → Nat
  | [] => 0
  | x :: l => (x.toNat + 1) * B ^ l.length + rk B l
def rkT (B : Nat) : Nat → Nat
  | 0 => 0
  | n + 1 => B ^ (n + 1) + rkT B n
def rkL (B : Nat) : Nat → Nat
  | 0 => 0
  | n + 1 => B ^ n + rkL B n
theorem rkTL (B : Nat) : ∀ n, rkT B n + 1 = rkL B n + B ^ n
  | 0 => rfl
  | n + 1 => by rw [rkT, rkL]; have := rkTL B n; omega
theorem rkLT (B : Nat) (n : Nat) : rkL B (n + 1) = rkT B n + 1 := by rw [rkTL, rkL]; omega
theorem rkT_mono (B : Nat) : ∀ {m n : Nat}, m ≤ n → rkT B m ≤ rkT B n := by
  intro m n h
  induction h with
  | refl => exact Nat.le_refl _
  | step _ ih => rw [rkT]; omega
def Dig (B : Nat) (l : List Int) : Prop := ∀ x ∈ l, 0 ≤ x ∧ x < B
theorem rk_le {B : Nat} : ∀ {l : List Int}, Dig B l → rk B l ≤ rkT B l.length
  | [], _ => Nat.le_refl _
  | x :: l, h => by
    have h1 := rk_le (l := l) fun y hy => h y (List.mem_cons_of_mem _ hy)
    have h2 := h x (List.mem_cons_self ..)
    rw [rk, List.length_cons, rkT, Nat.pow_succ]
    have := Nat.mul_le_mul_right (B ^ l.length) (show x.toNat + 1 ≤ B by omega)
    rw [Nat.mul_comm B] at this
    omega
theorem rk_ge {B : Nat} : ∀ {l : List Int}, rkL B l.length ≤ rk B l
  | [] => Nat.le_refl _
  | x :: l => by
    have h1 := rk_ge (B := B) (l := l)
    rw [rk, List.length_cons, rkL]
    have := Nat.mul_le_mul_right (B ^ l.length) (show 1 ≤ x.toNat + 1 by omega)
    omega
theorem rk_lex {B : Nat} : ∀ {a b : List Int}, a.length = b.length → Dig B a → Dig B b → lexL a b = true → rk B a < rk B b
  | [], _, _, _, _, h => by simp [lexL] at h
  | _ :: _, [], _, _, _, h => by simp [lexL] at h
  | x :: a, y :: b, hl, ha, hb, h => by
    simp only [List.length_cons, Nat.add_right_cancel_iff] at hl
    have ha' : Dig B a := fun z hz => ha z (List.mem_cons_of_mem _ hz)
    have hb' : Dig B b := fun z hz => hb z (List.mem_cons_of_mem _ hz)
    have hx := ha x (List.mem_cons_self ..)
    have hy := hb y (List.mem_cons_self ..)
    rw [lexL] at h
    rw [rk, rk, hl]
    by_cases e : x = y
    · rw [if_pos e] at h
      subst e
      have := rk_lex hl ha' hb' h
      omega
    · rw [if_neg e, decide_eq_true_iff] at h
      have h1 := rk_le ha'
      have h2 := rk_ge (B := B) (l := b)
      have h3 := rkTL B b.length
      rw [hl] at h1
      have h4 := Nat.mul_le_mul_right (B ^ b.length) (show x.toNat + 1 + 1 ≤ y.toNat + 1 by omega)
      rw [Nat.add_mul (x.toNat + 1) 1, Nat.one_mul] at h4
      omega
theorem rk_less {B : Nat} {a b : List Int} (ha : Dig B a) (hb : Dig B b) (h : lessP a b = true) : rk B a < rk B b := by
  rcases lessP_iff.1 h with h | ⟨h1, h2⟩
  · have h1 := rk_le ha
    have h2 := rk_ge (B := B) (l := b)
    obtain ⟨n, hn⟩ : ∃ n, b.length = n + 1 := ⟨b.length - 1, by omega⟩
    rw [hn, rkLT] at h2
    have h3 := rkT_mono B (show a.length ≤ n by omega)
    omega
  · exact rk_lex h1 ha hb h2
/-- what is left to be made less -/
def wkP (B N : Nat) (l : List Int) : Nat := if l = [] then rkT B N + 1 else rk B l
def muP (B N : Nat) (P : List (List Int)) : Nat := (P.map (wkP B N)).sum
theorem sum_set {f : List Int → Nat} : ∀ {P : List (List Int)} {p : Nat} {l : List Int}, p < P.length → f l < f (P.getD p []) → ((P.set p l).map f).sum < (P.map f).sum
  | x :: P, 0, l, _, h => by simpa using h
  | x :: P, p + 1, l, hp, h => by
    have := sum_set (P := P) (p := p) (l := l) (by simpa using hp) (by simpa using h)
    simp only [List.set_cons_succ, List.map_cons, List.sum_cons]
    omega
theorem muP_set {B N : Nat} {P : List (List Int)} {p : Nat} {l : List Int} (hp : p < P.length) (hl : l ≠ []) (hn : l.length ≤ N) (hd : Dig B l) (hd' : Dig B (P.getD p [])) (h : P.getD p [] = [] ∨ lessP l (P.getD p []) = true) : muP B N (P.set p l) < muP B N P := by
  refine sum_set hp ?_
  unfold wkP
  rw [if_neg hl]
  split
  · have := rk_le hd
    have := rkT_mono B hn
    omega
  · rename_i hne
    rcases h with h | h
    · exact absurd h hne
    · exact rk_less hd hd' h
/-- how many have a path -/
def cntP (P : List (List Int)) : Nat := (P.map fun l => if l = [] then 0 else 1).sum
theorem cntP_le : ∀ P : List (List Int), cntP P ≤ P.length
  | [] => Nat.le_refl _
  | x :: P => by
    have := cntP_le P
    unfold cntP at *
    simp only [List.map_cons, List.sum_cons, List.length_cons]
    split <;> omega
theorem cntP_set : ∀ {P : List (List Int)} {p : Nat} {l : List Int}, p < P.length → l ≠ [] → cntP (P.set p l) = cntP P + (if P.getD p [] = [] then 1 else 0)
  | x :: P, 0, l, _, h => by
    unfold cntP
    simp only [List.set_cons_zero, List.map_cons, List.sum_cons, if_neg h, List.getD_cons_zero]
    split <;> omega
  | x :: P, p + 1, l, hp, h => by
    have := cntP_set (P := P) (p := p) (l := l) (by simpa using hp) h
    unfold cntP at *
    simp only [List.set_cons_succ, List.map_cons, List.sum_cons, List.getD_cons_succ]
    omega
/-- a row of paths -/
structure PInv (g : Gr) (P : List (List Int)) : Prop where
  len : P.length = g.ns.length
  path : ∀ n, n < P.length → P.getD n [] ≠ [] → IsPath g n (P.getD n [])
  cnt : ∀ n, n < P.length → (P.getD n []).length ≤ cntP P
/-- the roots before i have a path that is not greater -/
def RootsTo (g : Gr) (P : List (List Int)) (i : Nat) : Prop := ∀ k, k < i → 0 ≤ g.rs.getD k 0 → P.getD (g.rs.getD k 0).toNat [] ≠ [] ∧ LeP (P.getD (g.rs.getD k 0).toNat []) [(k : Int)]
theorem getD_set_eq {P : List (List Int)} {p : Nat} {l : List Int} (h : p < P.length) : (P.set p l).getD p [] = l := by
  rw [List.getD_eq_getElem?_getD, List.getElem?_set_self h]
  rfl
theorem getD_set_ne {P : List (List Int)} {p n : Nat} {l : List Int} (h : p ≠ n) : (P.set p l).getD n [] = P.getD n [] := by
  rw [List.getD_eq_getElem?_getD, List.getElem?_set_ne h, ← List.getD_eq_getElem?_getD]
theorem PInv.set {g : Gr} {P : List (List Int)} (h : PInv g P) {p : Nat} {l : List Int} (hp : p < P.length) (hI : IsPath g p l) (hl : l ≠ []) (hc : l.length ≤ cntP P + 1) (hx : P.getD p [] = [] ∨ lessP l (P.getD p []) = true) : PInv g (P.set p l) := by
  refine ⟨by rw [List.length_set]; exact h.len, fun n hn hne => ?_, fun n hn => ?_⟩
  · rw [List.length_set] at hn
    by_cases e : p = n
    · subst e
      rw [getD_set_eq hp]
      exact hI
    · rw [getD_set_ne e] at hne ⊢
      exact h.path n hn hne
  · rw [List.length_set] at hn
    rw [cntP_set hp hl]
    by_cases e : p = n
    · subst e
      rw [getD_set_eq hp]
      by_cases he : P.getD p [] = []
      · rw [if_pos he]; exact hc
      · rw [if_neg he]
        rcases hx with hx | hx
        · exact absurd hx he
        · have := h.cnt p hp
          rcases lessP_iff.1 hx with h | ⟨h, -⟩ <;> omega
    · rw [getD_set_ne e]
      have := h.cnt n hn
      omega
/-- a lesser path keeps the roots' -/
theorem RootsTo.set {g : Gr} {P : List (List Int)} {i : Nat} (h : RootsTo g P i) {p : Nat} {l : List Int} (hp : p < P.length) (hl : l ≠ []) (hx : P.getD p [] = [] ∨ lessP l (P.getD p []) = true) : RootsTo g (P.set p l) i := by
  intro k hk h0
  obtain ⟨h1, h2⟩ := h k hk h0
  by_cases e : p = (g.rs.getD k 0).toNat
  · subst e
    rw [getD_set_eq hp]
    refine ⟨hl, ?_⟩
    rcases hx with hx | hx
    · exact absurd hx h1
    · exact (LeP.of_lt hx).trans h2
  · rw [getD_set_ne e]
    exact ⟨h1, h2⟩
/-- no step of n below i makes a path less -/
def ShutN (g : Gr) (P : List (List Int)) (n i : Nat) : Prop := P.getD n [] ≠ [] → ∀ k, k < i → 0 ≤ (psAt g.ns n).getD k 0 →
  P.getD ((psAt g.ns n).getD k 0).toNat [] ≠ [] ∧ LeP (P.getD ((psAt g.ns n).getD k 0).toNat []) (P.getD n [] ++ [(k : Int)])
theorem paths_end {g : Gr} {P : List (List Int)} (hm : mayG g = true) (h : PInv g P) (hr : RootsTo g P g.rs.length) (hs : ∀ n, n < P.length → ShutN g P n (psAt g.ns n).length) : ∀ n, n < P.length → P.getD n [] = pathG g n := by
  have hle : ∀ {n : Int} {l : List Int}, IsPath g n l → 0 ≤ n ∧ n < g.ns.length ∧ P.getD n.toNat [] ≠ [] ∧ LeP (P.getD n.toNat []) l := by
    intro n l hp
    induction hp with
    | root hi e h0 =>
      rename_i n i
      have hin := mayG_roots hm (g.rs.getD i 0) (getD_mem 0 hi)
      unfold inr at hin
      have hin := of_decide_eq_true hin
      obtain ⟨h1, h2⟩ := hr i hi (by omega)
      rw [e] at h1 h2 hin
      exact ⟨h0, by omega, h1, h2⟩
    | step hp hi e h0 ih =>
      rename_i m n l i
      obtain ⟨i0, i1, i2, i3⟩ := ih
      have hin := mayG_ps hm m ((psAt g.ns m).getD i 0) (getD_mem 0 hi)
      unfold inr at hin
      have hin := of_decide_eq_true hin
      have hL := h.len
      have hmm : ((m.toNat : Nat) : Int) = m := by omega
      obtain ⟨h1, h2⟩ := hs m.toNat (by omega) i2 i (by rw [hmm]; exact hi) (by rw [hmm, e]; exact h0)
      rw [hmm, e] at h1 h2
      rw [e] at hin
      exact ⟨h0, by omega, h1, h2.trans (i3.app _)⟩
  intro n hn
  have hL := h.len
  by_cases hk : (n : Int) ∈ (walkG g).al
  · obtain ⟨-, -, h1, h2⟩ := hle (pathG_is hm hk)
    rw [Int.toNat_natCast] at h1 h2
    exact h2.antisymm (pathG_le hm (h.path n hn h1)).2
  · rw [show pathG g n = [] by unfold pathG; rw [if_neg hk]]
    by_cases e : P.getD n [] = []
    · exact e
    · exact absurd (pathG_le hm (h.path n hn e)).1 hk
end Go.Proofs.Ytplkogjnmjjjgaa
