/- What a memory of pages has, and that each operation keeps it in step with the pool of frames and the map of pages. -/
import Derived.Test.YtkcijlndblbidaaVFrames
import Derived.Test.YtkcijlndblbidaaPagesNew
namespace Go.Proofs.Ytkcijlndblbidaa
open Go.ChangeShapes Go.WideShapes Go.ChangeAt Go.RowKit
set_option linter.unusedVariables false

/-- which pages are mapped, the words of the addresses, how many frames are in use, and ever were at once -/
structure VS where
  mp : Nat → Bool
  wd : Nat → Nat
  used : Nat
  high : Nat
def VS.zero : VS := ⟨fun _ => false, fun _ => 0, 0, 0⟩
def mapV (page : Nat) (v : VS) (p : Nat) : VS := ⟨fun q => if q = p then true else v.mp q, fun a => if a / page = p then 0 else v.wd a, v.used + 1, max v.high (v.used + 1)⟩
def unmapV (v : VS) (p : Nat) : VS := { v with mp := fun q => if q = p then false else v.mp q, used := v.used - 1 }
def moveV (page : Nat) (v : VS) (p q : Nat) : VS := { v with mp := fun r => if r = q then true else if r = p then false else v.mp r, wd := fun a => if a / page = q then v.wd (p * page + a % page) else v.wd a }
def putV (v : VS) (a x : Nat) : VS := { v with wd := fun b => if b = a then x else v.wd b }
/-- the pool s and the map F of np pages have what v tells -/
structure Vr (page np : Nat) (s : Fr.PS) (F : Nat → Nat) (v : VS) : Prop where
  mp : ∀ p, p < np → (v.mp p = true ↔ F p ≠ 0)
  has : ∀ p, p < np → F p ≠ 0 → Fr.has s ((F p - 1 : Nat) : Int) = true
  inj : ∀ p q, p < np → q < np → F p ≠ 0 → F p = F q → p = q
  wd : ∀ p i, p < np → F p ≠ 0 → i < page → s.wd (F p - 1) i = v.wd (p * page + i)
  used : s.used = v.used
  high : s.high = v.high
theorem pg_div {page p i : Nat} (hi : i < page) : (p * page + i) / page = p := by
  rw [Nat.mul_comm, Nat.mul_add_div (by omega), Nat.div_eq_of_lt hi, Nat.add_zero]
theorem pg_mod {page p i : Nat} (hi : i < page) : (p * page + i) % page = i := by
  rw [Nat.mul_comm, Nat.mul_add_mod, Nat.mod_eq_of_lt hi]
theorem pg_eq {page p i q j : Nat} (hi : i < page) (hj : j < page) : p * page + i = q * page + j ↔ p = q ∧ i = j := by
  constructor
  · intro h
    have h1 := pg_div (p := p) hi
    have h2 := pg_div (p := q) hj
    have h3 := pg_mod (p := p) hi
    have h4 := pg_mod (p := q) hj
    rw [h] at h1 h3
    omega
  · rintro ⟨rfl, rfl⟩; rfl
section
variable {page np room : Nat} {s : Fr.PS} {F : Nat → Nat} {v : VS}
theorem Vr.start (page np : Nat) : Vr page np Fr.start (fun _ => 0) VS.zero :=
  ⟨fun p _ => by simp [VS.zero], fun p _ h => absurd rfl h, fun p q _ _ h => absurd rfl h, fun p i _ h => absurd rfl h, rfl, rfl⟩
theorem Vr.map (h : Vr page np s F v) (hk : s.ok room page) (hu : s.used < room) {p : Nat} (hp : p < np) (h0 : F p = 0) :
    Vr page np (Fr.takeS s) (Pg.turn F p (Fr.nextF s + 1)) (mapV page v p) := by
  have ht := fun g => Fr.has_take hk hu g
  have ne : ∀ q, q < np → F q ≠ 0 → F q - 1 ≠ Fr.nextF s := fun q hq h1 e => by
    have := h.has q hq h1
    rw [e, (ht 0).2] at this
    cases this
  have lt : ∀ q, q < np → F q ≠ 0 → F q - 1 < s.n := fun q hq h1 => by
    have := ((Fr.has_iff _ _).1 (h.has q hq h1)).1.2
    omega
  refine ⟨fun q hq => ?_, fun q hq h1 => ?_, fun q r hq hr h1 h2 => ?_, fun q i hq h1 hi => ?_, ?_, ?_⟩
  · show (if q = p then true else v.mp q) = true ↔ (if q = p then Fr.nextF s + 1 else F q) ≠ 0
    split
    · simp
    · exact h.mp q hq
  · unfold Pg.turn at h1 ⊢
    by_cases e : q = p
    · rw [if_pos e, (ht _).1]
      simp
    · rw [if_neg e] at h1 ⊢
      rw [(ht _).1, h.has q hq h1]
      simp
  · unfold Pg.turn at h1 h2
    by_cases e : q = p
    · by_cases e2 : r = p
      · rw [e, e2]
      · rw [if_pos e, if_neg e2] at h2
        exact absurd (show F r - 1 = Fr.nextF s by omega) (ne r hr (by omega))
    · rw [if_neg e] at h1 h2
      by_cases e2 : r = p
      · rw [if_pos e2] at h2
        exact absurd (show F q - 1 = Fr.nextF s by omega) (ne q hq h1)
      · rw [if_neg e2] at h2
        exact h.inj q r hq hr h1 h2
  · show (Fr.takeS s).wd _ i = if (q * page + i) / page = p then 0 else v.wd (q * page + i)
    rw [pg_div hi]
    unfold Pg.turn at h1 ⊢
    by_cases e : q = p
    · rw [if_pos e, if_pos e, Nat.add_sub_cancel]
      exact Fr.take_zero s i
    · rw [if_neg e] at h1 ⊢
      rw [if_neg e, Fr.wd_take hk hu _ _ (ne q hq h1) (lt q hq h1)]
      exact h.wd q i hq h1 hi
  · show s.used + 1 = v.used + 1
    rw [h.used]
  · show max s.high (s.used + 1) = max v.high (v.used + 1)
    rw [h.used, h.high]
theorem Vr.unmap (h : Vr page np s F v) {p : Nat} (hp : p < np) (h0 : F p ≠ 0) :
    Vr page np (Fr.giveT s (F p - 1)) (Pg.turn F p 0) (unmapV v p) := by
  have hg := fun g => Fr.has_give s ((F p - 1 : Nat) : Int) g (by omega)
  simp only [Int.toNat_natCast] at hg
  refine ⟨fun q hq => ?_, fun q hq h1 => ?_, fun q r hq hr h1 h2 => ?_, fun q i hq h1 hi => ?_, ?_, ?_⟩
  · show (if q = p then false else v.mp q) = true ↔ (if q = p then 0 else F q) ≠ 0
    split
    · simp
    · exact h.mp q hq
  · unfold Pg.turn at h1 ⊢
    by_cases e : q = p
    · rw [if_pos e] at h1; exact absurd rfl h1
    · rw [if_neg e] at h1 ⊢
      rw [hg, h.has q hq h1, decide_eq_false]
      · rfl
      · intro e2
        exact e (h.inj q p hq hp h1 (by omega))
  · unfold Pg.turn at h1 h2
    by_cases e : q = p
    · rw [if_pos e] at h1; exact absurd rfl h1
    · rw [if_neg e] at h1 h2
      by_cases e2 : r = p
      · rw [if_pos e2] at h2; exact absurd h2 h1
      · rw [if_neg e2] at h2
        exact h.inj q r hq hr h1 h2
  · unfold Pg.turn at h1 ⊢
    by_cases e : q = p
    · rw [if_pos e] at h1; exact absurd rfl h1
    · rw [if_neg e] at h1 ⊢
      exact h.wd q i hq h1 hi
  · show s.used - 1 = v.used - 1
    rw [h.used]
  · exact h.high
theorem Vr.move (h : Vr page np s F v) {p q : Nat} (hp : p < np) (hq : q < np) (h0 : F p ≠ 0) (h1 : F q = 0) :
    Vr page np s (Pg.turn (Pg.turn F p 0) q (F p)) (moveV page v p q) := by
  have hne : p ≠ q := by rintro rfl; exact h0 h1
  have F' : ∀ r, Pg.turn (Pg.turn F p 0) q (F p) r = if r = q then F p else if r = p then 0 else F r := fun r => rfl
  refine ⟨fun r hr => ?_, fun r hr k => ?_, fun r r2 hr hr2 k k2 => ?_, fun r i hr k hi => ?_, h.used, h.high⟩
  · rw [F']
    show (if r = q then true else if r = p then false else v.mp r) = true ↔ _
    split
    · simpa using h0
    · split
      · simp
      · exact h.mp r hr
  · rw [F'] at k ⊢
    by_cases e : r = q
    · rw [if_pos e]; exact h.has p hp h0
    · rw [if_neg e] at k ⊢
      by_cases e2 : r = p
      · rw [if_pos e2] at k; exact absurd rfl k
      · rw [if_neg e2] at k ⊢
        exact h.has r hr k
  · rw [F'] at k
    rw [F', F'] at k2
    by_cases e : r = q
    · rw [if_pos e] at k2
      by_cases e2 : r2 = q
      · rw [e, e2]
      · rw [if_neg e2] at k2
        by_cases e3 : r2 = p
        · rw [if_pos e3] at k2; exact absurd k2 h0
        · rw [if_neg e3] at k2
          exact absurd (h.inj p r2 hp hr2 h0 k2).symm e3
    · rw [if_neg e] at k k2
      by_cases e1 : r = p
      · rw [if_pos e1] at k; exact absurd rfl k
      · rw [if_neg e1] at k k2
        by_cases e2 : r2 = q
        · rw [if_pos e2] at k2
          exact absurd (h.inj r p hr hp k k2) e1
        · rw [if_neg e2] at k2
          by_cases e3 : r2 = p
          · rw [if_pos e3] at k2; exact absurd k2 k
          · rw [if_neg e3] at k2
            exact h.inj r r2 hr hr2 k k2
  · rw [F'] at k ⊢
    show s.wd _ i = if (r * page + i) / page = q then v.wd (p * page + (r * page + i) % page) else v.wd (r * page + i)
    rw [pg_div hi, pg_mod hi]
    by_cases e : r = q
    · rw [if_pos e, if_pos e]; exact h.wd p i hp h0 hi
    · rw [if_neg e] at k ⊢
      rw [if_neg e]
      by_cases e2 : r = p
      · rw [if_pos e2] at k; exact absurd rfl k
      · rw [if_neg e2] at k ⊢
        exact h.wd r i hr k hi
theorem Vr.put (h : Vr page np s F v) {p i : Nat} (hp : p < np) (h0 : F p ≠ 0) (hi : i < page) (x : Nat) :
    Vr page np (Fr.putW s (F p - 1) i x) F (putV v (p * page + i) x) := by
  refine ⟨h.mp, h.has, h.inj, fun q j hq k hj => ?_, h.used, h.high⟩
  show (if F q - 1 = F p - 1 ∧ j = i then x else s.wd (F q - 1) j) = if q * page + j = p * page + i then x else v.wd (q * page + j)
  have := pg_eq (p := q) (q := p) hj hi
  by_cases e : q = p ∧ j = i
  · rw [if_pos (this.2 e), if_pos ⟨by rw [e.1], e.2⟩]
  · rw [if_neg (fun k2 => e (this.1 k2)), if_neg (fun k2 => e ⟨h.inj q p hq hp k (by omega), k2.2⟩)]
    exact h.wd q j hq k hj
end
/-- memories that tell the same as far as pages are mapped -/
structure VS.like (page np : Nat) (v v' : VS) : Prop where
  mp : ∀ p, p < np → v.mp p = v'.mp p
  wd : ∀ a, a / page < np → v.mp (a / page) = true → v.wd a = v'.wd a
  used : v.used = v'.used
  high : v.high = v'.high
theorem Vr.like {page np : Nat} {s : Fr.PS} {F : Nat → Nat} {v v' : VS} (h : Vr page np s F v) (hl : v.like page np v') : Vr page np s F v' :=
  ⟨fun p hp => by rw [← hl.mp p hp]; exact h.mp p hp, h.has, h.inj, fun p i hp h0 hi => by
    rw [h.wd p i hp h0 hi]
    have := hl.wd (p * page + i)
    rw [pg_div hi] at this
    exact this hp ((h.mp p hp).2 h0), h.used.trans hl.used, h.high.trans hl.high⟩
end Go.Proofs.Ytkcijlndblbidaa
