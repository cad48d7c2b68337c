/- VAll: several texts in one. -/
import Derived.Test.YtkcijlndblbidaaFrAll
import Derived.Test.YtkcijlndblbidaaPgAll
import Derived.Deep.RegionHeld3
import Derived.Deep.QuietTactic
import Derived.BigQuiet
import Derived.IntWalk
/- What a memory of pages has, and that each operation keeps it in step with the pool of frames and the map of pages. -/
namespace Go.Proofs.Ytkcijlndblbidaa
open Go.ChangeShapes Go.WideShapes Go.ChangeAt Go.RowKit
set_option linter.unusedVariables false

/-- which pages are mapped, the words of the addresses, how many frames are in use, and ever were at once -/
structure VS where
  mp : Nat → Bool
  wd : Nat → Nat
  used : Nat
  high : Nat
def VS.zero : VS := ⟨fun _ => false, fun _ => 0, 0, 0⟩
def mapV (page : Nat) (v : VS) (p : Nat) : VS := ⟨fun q => if q = p then true else v.mp q, fun a => if a / page = p then 0 else v.wd a, v.used + 1, max v.high (v.used + 1)⟩
def unmapV (v : VS) (p : Nat) : VS := { v with mp := fun q => if q = p then false else v.mp q, used := v.used - 1 }
def moveV (page : Nat) (v : VS) (p q : Nat) : VS := { v with mp := fun r => if r = q then true else if r = p then false else v.mp r, wd := fun a => if a / page = q then v.wd (p * page + a % page) else v.wd a }
def putV (v : VS) (a x : Nat) : VS := { v with wd := fun b => if b = a then x else v.wd b }
/-- the pool s and the map F of np pages have what v tells -/
structure Vr (page np : Nat) (s : Fr.PS) (F : Nat → Nat) (v : VS) : Prop where
  mp : ∀ p, p < np → (v.mp p = true ↔ F p ≠ 0)
  has : ∀ p, p < np → F p ≠ 0 → Fr.has s ((F p - 1 : Nat) : Int) = true
  inj : ∀ p q, p < np → q < np → F p ≠ 0 → F p = F q → p = q
  wd : ∀ p i, p < np → F p ≠ 0 → i < page → s.wd (F p - 1) i = v.wd (p * page + i)
  used : s.used = v.used
  high : s.high = v.high
theorem pg_div {page p i : Nat} (hi : i < page) : (p * page + i) / page = p := by
  rw [Nat.mul_comm, Nat.mul_add_div (by omega), Nat.div_eq_of_lt hi, Nat.add_zero]
theorem pg_mod {page p i : Nat} (hi : i < page) : (p * page + i) % page = i := by
  rw [Nat.mul_comm, Nat.mul_add_mod, Nat.mod_eq_of_lt hi]
theorem pg_eq {page p i q j : Nat} (hi : i < page) (hj : j < page) : p * page + i = q * page + j ↔ p = q ∧ i = j := by
  constructor
  · intro h
    have h1 := pg_div (p := p) hi
    have h2 := pg_div (p := q) hj
    have h3 := pg_mod (p := p) hi
    have h4 := pg_mod (p := q) hj
    rw [h] at h1 h3
    omega
  · rintro ⟨rfl, rfl⟩; rfl
section
variable {page np room : Nat} {s : Fr.PS} {F : Nat → Nat} {v : VS}
theorem Vr.start (page np : Nat) : Vr page np Fr.start (fun _ => 0) VS.zero :=
  ⟨fun p _ => by simp [VS.zero], fun p _ h => absurd rfl h, fun p q _ _ h => absurd rfl h, fun p i _ h => absurd rfl h, rfl, rfl⟩
theorem Vr.map (h : Vr page np s F v) (hk : s.ok room page) (hu : s.used < room) {p : Nat} (hp : p < np) (h0 : F p = 0) :
    Vr page np (Fr.takeS s) (Pg.turn F p (Fr.nextF s + 1)) (mapV page v p) := by
  have ht := fun g => Fr.has_take hk hu g
  have ne : ∀ q, q < np → F q ≠ 0 → F q - 1 ≠ Fr.nextF s := fun q hq h1 e => by
    have := h.has q hq h1
    rw [e, (ht 0).2] at this
    cases this
  have lt : ∀ q, q < np → F q ≠ 0 → F q - 1 < s.n := fun q hq h1 => by
    have := ((Fr.has_iff _ _).1 (h.has q hq h1)).1.2
    omega
  refine ⟨fun q hq => ?_, fun q hq h1 => ?_, fun q r hq hr h1 h2 => ?_, fun q i hq h1 hi => ?_, ?_, ?_⟩
  · show (if q = p then true else v.mp q) = true ↔ (if q = p then Fr.nextF s + 1 else F q) ≠ 0
    split
    · simp
    · exact h.mp q hq
  · unfold Pg.turn at h1 ⊢
    by_cases e : q = p
    · rw [if_pos e, (ht _).1]
      simp
    · rw [if_neg e] at h1 ⊢
      rw [(ht _).1, h.has q hq h1]
      simp
  · unfold Pg.turn at h1 h2
    by_cases e : q = p
    · by_cases e2 : r = p
      · rw [e, e2]
      · rw [if_pos e, if_neg e2] at h2
        exact absurd (show F r - 1 = Fr.nextF s by omega) (ne r hr (by omega))
    · rw [if_neg e] at h1 h2
      by_cases e2 : r = p
      · rw [if_pos e2] at h2
        exact absurd (show F q - 1 = Fr.nextF s by omega) (ne q hq h1)
      · rw [if_neg e2] at h2
        exact h.inj q r hq hr h1 h2
  · show (Fr.takeS s).wd _ i = if (q * page + i) / page = p then 0 else v.wd (q * page + i)
    rw [pg_div hi]
    unfold Pg.turn at h1 ⊢
    by_cases e : q = p
    · rw [if_pos e, if_pos e, Nat.add_sub_cancel]
      exact Fr.take_zero s i
    · rw [if_neg e] at h1 ⊢
      rw [if_neg e, Fr.wd_take hk hu _ _ (ne q hq h1) (lt q hq h1)]
      exact h.wd q i hq h1 hi
  · show s.used + 1 = v.used + 1
    rw [h.used]
  · show max s.high (s.used + 1) = max v.high (v.used + 1)
    rw [h.used, h.high]
theorem Vr.unmap (h : Vr page np s F v) {p : Nat} (hp : p < np) (h0 : F p ≠ 0) :
    Vr page np (Fr.giveT s (F p - 1)) (Pg.turn F p 0) (unmapV v p) := by
  have hg := fun g => Fr.has_give s ((F p - 1 : Nat) : Int) g (by omega)
  simp only [Int.toNat_natCast] at hg
  refine ⟨fun q hq => ?_, fun q hq h1 => ?_, fun q r hq hr h1 h2 => ?_, fun q i hq h1 hi => ?_, ?_, ?_⟩
  · show (if q = p then false else v.mp q) = true ↔ (if q = p then 0 else F q) ≠ 0
    split
    · simp
    · exact h.mp q hq
  · unfold Pg.turn at h1 ⊢
    by_cases e : q = p
    · rw [if_pos e] at h1; exact absurd rfl h1
    · rw [if_neg e] at h1 ⊢
      rw [hg, h.has q hq h1, decide_eq_false]
      · rfl
      · intro e2
        exact e (h.inj q p hq hp h1 (by omega))
  · unfold Pg.turn at h1 h2
    by_cases e : q = p
    · rw [if_pos e] at h1; exact absurd rfl h1
    · rw [if_neg e] at h1 h2
      by_cases e2 : r = p
      · rw [if_pos e2] at h2; exact absurd h2 h1
      · rw [if_neg e2] at h2
        exact h.inj q r hq hr h1 h2
  · unfold Pg.turn at h1 ⊢
    by_cases e : q = p
    · rw [if_pos e] at h1; exact absurd rfl h1
    · rw [if_neg e] at h1 ⊢
      exact h.wd q i hq h1 hi
  · show s.used - 1 = v.used - 1
    rw [h.used]
  · exact h.high
theorem Vr.move (h : Vr page np s F v) {p q : Nat} (hp : p < np) (hq : q < np) (h0 : F p ≠ 0) (h1 : F q = 0) :
    Vr page np s (Pg.turn (Pg.turn F p 0) q (F p)) (moveV page v p q) := by
  have hne : p ≠ q := by rintro rfl; exact h0 h1
  have F' : ∀ r, Pg.turn (Pg.turn F p 0) q (F p) r = if r = q then F p else if r = p then 0 else F r := fun r => rfl
  refine ⟨fun r hr => ?_, fun r hr k => ?_, fun r r2 hr hr2 k k2 => ?_, fun r i hr k hi => ?_, h.used, h.high⟩
  · rw [F']
    show (if r = q then true else if r = p then false else v.mp r) = true ↔ _
    split
    · simpa using h0
    · split
      · simp
      · exact h.mp r hr
  · rw [F'] at k ⊢
    by_cases e : r = q
    · rw [if_pos e]; exact h.has p hp h0
    · rw [if_neg e] at k ⊢
      by_cases e2 : r = p
      · rw [if_pos e2] at k; exact absurd rfl k
      · rw [if_neg e2] at k ⊢
        exact h.has r hr k
  · rw [F'] at k
    rw [F', F'] at k2
    by_cases e : r = q
    · rw [if_pos e] at k2
      by_cases e2 : r2 = q
      · rw [e, e2]
      · rw [if_neg e2] at k2
        by_cases e3 : r2 = p
        · rw [if_pos e3] at k2; exact absurd k2 h0
        · rw [if_neg e3] at k2
          exact absurd (h.inj p r2 hp hr2 h0 k2).symm e3
    · rw [if_neg e] at k k2
      by_cases e1 : r = p
      · rw [if_pos e1] at k; exact absurd rfl k
      · rw [if_neg e1] at k k2
        by_cases e2 : r2 = q
        · rw [if_pos e2] at k2
          exact absurd (h.inj r p hr hp k k2) e1
        · rw [if_neg e2] at k2
          by_cases e3 : r2 = p
          · rw [if_pos e3] at k2; exact absurd k2 k
          · rw [if_neg e3] at k2
            exact h.inj r r2 hr hr2 k k2
  · rw [F'] at k ⊢
    show s.wd _ i = if (r * page + i) / page = q then v.wd (p * page + (r * page + i) % page) else v.wd (r * page + i)
    rw [pg_div hi, pg_mod hi]
    by_cases e : r = q
    · rw [if_pos e, if_pos e]; exact h.wd p i hp h0 hi
    · rw [if_neg e] at k ⊢
      rw [if_neg e]
      by_cases e2 : r = p
      · rw [if_pos e2] at k; exact absurd rfl k
      · rw [if_neg e2] at k ⊢
        exact h.wd r i hr k hi
theorem Vr.put (h : Vr page np s F v) {p i : Nat} (hp : p < np) (h0 : F p ≠ 0) (hi : i < page) (x : Nat) :
    Vr page np (Fr.putW s (F p - 1) i x) F (putV v (p * page + i) x) := by
  refine ⟨h.mp, h.has, h.inj, fun q j hq k hj => ?_, h.used, h.high⟩
  show (if F q - 1 = F p - 1 ∧ j = i then x else s.wd (F q - 1) j) = if q * page + j = p * page + i then x else v.wd (q * page + j)
  have := pg_eq (p := q) (q := p) hj hi
  by_cases e : q = p ∧ j = i
  · rw [if_pos (this.2 e), if_pos ⟨by rw [e.1], e.2⟩]
  · rw [if_neg (fun k2 => e (this.1 k2)), if_neg (fun k2 => e ⟨h.inj q p hq hp k (by omega), k2.2⟩)]
    exact h.wd q j hq k hj
end
/-- memories that tell the same as far as pages are mapped -/
structure VS.like (page np : Nat) (v v' : VS) : Prop where
  mp : ∀ p, p < np → v.mp p = v'.mp p
  wd : ∀ a, a / page < np → v.mp (a / page) = true → v.wd a = v'.wd a
  used : v.used = v'.used
  high : v.high = v'.high
theorem Vr.like {page np : Nat} {s : Fr.PS} {F : Nat → Nat} {v v' : VS} (h : Vr page np s F v) (hl : v.like page np v') : Vr page np s F v' :=
  ⟨fun p hp => by rw [← hl.mp p hp]; exact h.mp p hp, h.has, h.inj, fun p i hp h0 hi => by
    rw [h.wd p i hp h0 hi]
    have := hl.wd (p * page + i)
    rw [pg_div hi] at this
    exact this hp ((h.mp p hp).2 h0), h.used.trans hl.used, h.high.trans hl.high⟩
end Go.Proofs.Ytkcijlndblbidaa

/- A memory of pages as it lies in memory: a pool and a map beside each other. -/
namespace Go.Proofs.Ytkcijlndblbidaa
open Go.ChangeShapes Go.WideShapes Go.ChangeAt Go.RowKit
set_option linter.unusedVariables false

structure VRaw (S : Nat → Prop) (m b pb words page room : Nat) (s : Fr.PS) (F : Nat → Nat) (w : World) : Prop where
  head : w.heap[m]? = some (.cells #[.pointer (some ⟨b, 0, none⟩), .pointer (some ⟨pb, 0, none⟩), .int .i64 words] 160 (0, 0))
  parts : ∃ S1 S2, Fr.Pl S1 b room page s w ∧ Pg.Mp S2 pb (words / page) F w ∧ Apart S1 S2 ∧ ¬ S1 m ∧ ¬ S2 m ∧ (∀ k, S1 k → S k) ∧ ∀ k, S2 k → S k
  own : S m
  ins : In S w
def RawDid (S : Nat → Prop) (m b pb words page room : Nat) (s : Fr.PS) (F : Nat → Nat) (w w' : World) : Prop := ∃ S', VRaw S' m b pb words page room s F w' ∧ Chg S w w' ∧ Grew S S' w
section
variable {S T : Nat → Prop} {m b pb words page room : Nat} {s s' : Fr.PS} {F F' : Nat → Nat} {w w1 w' : World}
theorem VRaw.keep (h : VRaw S m b pb words page room s F w) (c : Chg T w w') (ap : Apart S T) : VRaw S m b pb words page room s F w' := by
  obtain ⟨hd, ⟨S1, S2, h1, h2, h3, h4, h5, h6, h7⟩, ho, hI⟩ := h
  exact ⟨c.keep hd (fun t => ap _ ho t), ⟨S1, S2, h1.keep c (fun k a t => ap k (h6 k a) t), h2.keep c (fun k a t => ap k (h7 k a) t), h3, h4, h5, h6, h7⟩, ho, hI.mono c.size⟩
theorem VRaw.grow (h : VRaw S m b pb words page room s F w) (c : Below w.heap.size w w') : VRaw S m b pb words page room s F w' :=
  h.keep (T := fun _ => False) (Chg.of c) (fun _ _ h => h)
theorem VRaw.cells (h : VRaw S m b pb words page room s F w) : w.cell? ⟨m, 0, none⟩ = some (.pointer (some ⟨b, 0, none⟩)) ∧ w.cell? ⟨m, 1, none⟩ = some (.pointer (some ⟨pb, 0, none⟩)) ∧ w.cell? ⟨m, 2, none⟩ = some (.int .i64 words) := (three h.head).1
theorem RawDid.of (h : VRaw S m b pb words page room s F w) (c : Below w.heap.size w w') : RawDid S m b pb words page room s F w w' := ⟨S, h.grow c, Chg.of c, Grew.refl _ _⟩
theorem RawDid.then {S' : Nat → Prop} (h : Chg S w w1) (g : Grew S S' w) (k : RawDid S' m b pb words page room s F w1 w') : RawDid S m b pb words page room s F w w' := by
  obtain ⟨S2, h1, h2, h3⟩ := k
  exact ⟨S2, h1, h.then h2 g, g.trans h3 h.size⟩
theorem VRaw.pool (h : VRaw S m b pb words page room s F w) {f : FuncId} {args : Array Value} {R : Ending} (op : ∀ S1, Fr.Pl S1 b room page s w → Calls Try.prog f args w fun e w' => e = R ∧ Fr.PDid S1 b room page s' w w') :
    Calls Try.prog f args w fun e w' => e = R ∧ RawDid S m b pb words page room s' F w w' := by
  obtain ⟨hd, ⟨S1, S2, h1, h2, h3, h4, h5, h6, h7⟩, ho, hI⟩ := h
  refine (op S1 h1).mono fun e w' ⟨he, S1', k1, k2, k3⟩ => ⟨he, fun k => S k ∨ S1' k, ⟨k2.keep hd h4, ⟨S1', S2, k1, h2.keep k2 h3.symm, k3.apart h3 h2.in, fun a => ?_, h5, fun k a => .inr a, fun k a => .inl (h7 k a)⟩, .inl ho, ?_⟩, k2.mono (fun k _ a => h6 k a), ?_⟩
  · rcases k3 m a with a | a
    · exact h4 a
    · have := block_lt hd; omega
  · intro k hk
    rcases hk with a | a
    · have := hI k a; have := k2.size; omega
    · exact k1.in k a
  · intro k hk
    rcases hk with a | a
    · exact .inl a
    · exact (k3 k a).imp (h6 k) id
theorem VRaw.pages (h : VRaw S m b pb words page room s F w) {f : FuncId} {args : Array Value} {R : Ending} (op : ∀ S2, Pg.Mp S2 pb (words / page) F w → Calls Try.prog f args w fun e w' => e = R ∧ Pg.Did S2 pb (words / page) F' w w') :
    Calls Try.prog f args w fun e w' => e = R ∧ RawDid S m b pb words page room s F' w w' := by
  obtain ⟨hd, ⟨S1, S2, h1, h2, h3, h4, h5, h6, h7⟩, ho, hI⟩ := h
  refine (op S2 h2).mono fun e w' ⟨he, S2', k1, k2, k3⟩ => ⟨he, fun k => S k ∨ S2' k, ⟨k2.keep hd h5, ⟨S1, S2', h1.keep k2 h3, k1, (k3.apart h3.symm h1.in).symm, h4, fun a => ?_, fun k a => .inl (h6 k a), fun k a => .inr a⟩, .inl ho, ?_⟩, k2.mono (fun k _ a => h7 k a), ?_⟩
  · rcases k3 m a with a | a
    · exact h5 a
    · have := block_lt hd; omega
  · intro k hk
    rcases hk with a | a
    · have := hI k a; have := k2.size; omega
    · exact k1.in k a
  · intro k hk
    rcases hk with a | a
    · exact .inl a
    · exact (k3 k a).imp (h7 k) id
theorem take_raw (h : VRaw S m b pb words page room s F w) (hk : s.ok room page) (ht : s.times ≤ 1000000000) :
    Calls Try.prog 105 #[.pointer (some ⟨b, 0, none⟩)] w fun e w' => e = .returned (.tuple #[.int .i64 (Fr.takeE room s).1, .int .i64 (Fr.takeE room s).2]) ∧ RawDid S m b pb words page room (Fr.takeT room s) F w w' :=
  h.pool fun S1 h1 => Fr.take_pl S1 b room page s w h1 hk ht
theorem give_raw (h : VRaw S m b pb words page room s F w) (hk : s.ok room page) (f : Int) :
    Calls Try.prog 108 #[.pointer (some ⟨b, 0, none⟩), .int .i64 f] w fun e w' => e = .returned (.int .i64 (Fr.giveE s f)) ∧ RawDid S m b pb words page room (Fr.giveS s f) F w w' :=
  h.pool fun S1 h1 => Fr.give_pl S1 b room page s w h1 hk f
theorem store_raw (h : VRaw S m b pb words page room s F w) (hk : s.ok room page) (f i : Int) (x : Nat) :
    Calls Try.prog 103 #[.pointer (some ⟨b, 0, none⟩), .int .i64 f, .int .i64 i, .int .u64 x] w fun e w' => e = .returned (.int .i64 (Fr.wordE page s f i)) ∧ RawDid S m b pb words page room (Fr.storeS page s f i x) F w w' :=
  h.pool fun S1 h1 => Fr.store_pl S1 b room page s w h1 hk f i x
theorem load_raw (h : VRaw S m b pb words page room s F w) (hk : s.ok room page) (f i : Int) :
    Calls Try.prog 111 #[.pointer (some ⟨b, 0, none⟩), .int .i64 f, .int .i64 i] w fun e w' => e = .returned (.tuple #[.int .u64 (Fr.loadR page s f i), .int .i64 (Fr.wordE page s f i)]) ∧ w = w' := by
  obtain ⟨_, ⟨S1, S2, h1, _⟩, _⟩ := h
  exact Fr.load_pl S1 b room page s w h1 hk f i
theorem page_raw (h : VRaw S m b pb words page room s F w) : Calls Try.prog 101 #[.pointer (some ⟨b, 0, none⟩)] w fun e w' => e = .returned (.int .i64 page) ∧ w = w' := by
  obtain ⟨_, ⟨S1, S2, h1, _⟩, _⟩ := h
  exact Fr.page_pl S1 b room page s w h1
theorem room_raw (h : VRaw S m b pb words page room s F w) : Calls Try.prog 114 #[.pointer (some ⟨b, 0, none⟩)] w fun e w' => e = .returned (.int .i64 room) ∧ w = w' := by
  obtain ⟨_, ⟨S1, S2, h1, _⟩, _⟩ := h
  exact Fr.room_pl S1 b room page s w h1
theorem used_raw (h : VRaw S m b pb words page room s F w) : Calls Try.prog 112 #[.pointer (some ⟨b, 0, none⟩)] w fun e w' => e = .returned (.int .i64 s.used) ∧ w = w' := by
  obtain ⟨_, ⟨S1, S2, h1, _⟩, _⟩ := h
  exact Fr.used_pl S1 b room page s w h1
theorem high_raw (h : VRaw S m b pb words page room s F w) : Calls Try.prog 113 #[.pointer (some ⟨b, 0, none⟩)] w fun e w' => e = .returned (.int .i64 s.high) ∧ w = w' := by
  obtain ⟨_, ⟨S1, S2, h1, _⟩, _⟩ := h
  exact Fr.high_pl S1 b room page s w h1
theorem frame_raw (h : VRaw S m b pb words page room s F w) (p : Int) :
    Calls Try.prog 104 #[.pointer (some ⟨pb, 0, none⟩), .int .i64 p] w fun e w' => e = .returned (.tuple #[.int .i64 (Pg.frameR (words / page) F p).1, .int .i64 (Pg.frameR (words / page) F p).2]) ∧ Below w.heap.size w w' := by
  obtain ⟨_, ⟨S1, S2, _, h2, _⟩, _⟩ := h
  exact Pg.frame_mp S2 pb (words / page) F w h2 p
theorem put_raw (h : VRaw S m b pb words page room s F w) (p f : Int) :
    Calls Try.prog 106 #[.pointer (some ⟨pb, 0, none⟩), .int .i64 p, .int .i64 f] w fun e w' => e = .returned (.int .i64 (Pg.putR (words / page) F p f).1) ∧ RawDid S m b pb words page room s (Pg.putR (words / page) F p f).2 w w' :=
  h.pages fun S2 h2 => Pg.put_mp S2 pb (words / page) F w h2 p f
theorem drop_raw (h : VRaw S m b pb words page room s F w) (p : Int) :
    Calls Try.prog 107 #[.pointer (some ⟨pb, 0, none⟩), .int .i64 p] w fun e w' => e = .returned (.tuple #[.int .i64 (Pg.frameR (words / page) F p).1, .int .i64 (Pg.frameR (words / page) F p).2]) ∧ RawDid S m b pb words page room s (Pg.dropF (words / page) F p) w w' :=
  h.pages fun S2 h2 => Pg.drop_mp S2 pb (words / page) F w h2 p
theorem pmove_raw (h : VRaw S m b pb words page room s F w) (p q : Int) :
    Calls Try.prog 109 #[.pointer (some ⟨pb, 0, none⟩), .int .i64 p, .int .i64 q] w fun e w' => e = .returned (.int .i64 (Pg.moveR (words / page) F p q).1) ∧ RawDid S m b pb words page room s (Pg.moveR (words / page) F p q).2 w w' :=
  h.pages fun S2 h2 => Pg.move_mp S2 pb (words / page) F w h2 p q
end
/-- what sizes a memory may have -/
structure VDim (words page : Nat) : Prop where
  words1 : 1 ≤ words ∧ words ≤ 524288
  whole : words % page = 0
  pow : Fr.isPage page
/-- a memory of so many words, words of a page, and frames, that has what v tells, and took frames at most t times -/
def Vm (S : Nat → Prop) (m words page room t : Nat) (v : VS) (w : World) : Prop :=
  ∃ b pb s F, VRaw S m b pb words page room s F w ∧ s.ok room page ∧ s.times ≤ t ∧ Vr page (words / page) s F v ∧ VDim words page
def VDid (S : Nat → Prop) (m words page room t : Nat) (v : VS) (w w' : World) : Prop := ∃ S', Vm S' m words page room t v w' ∧ Chg S w w' ∧ Grew S S' w
section
variable {S T : Nat → Prop} {m words page room t : Nat} {v : VS} {w w1 w' : World}
theorem Vm.in (h : Vm S m words page room t v w) : In S w := by
  obtain ⟨b, pb, s, F, h, _⟩ := h
  exact h.ins
theorem Vm.own (h : Vm S m words page room t v w) : S m := by
  obtain ⟨b, pb, s, F, h, _⟩ := h
  exact h.own
theorem Vm.dims (h : Vm S m words page room t v w) : (1 ≤ words ∧ words ≤ 524288) ∧ words % page = 0 ∧ (1 ≤ page ∧ page ≤ 256) ∧ (1 ≤ room ∧ room ≤ 4096) ∧ v.used ≤ room ∧ v.high ≤ 4096 := by
  obtain ⟨b, pb, s, F, h, hk, ht, hV, hw, hd, _⟩ := h
  exact ⟨hw, hd, hk.page1, hk.room1, by rw [← hV.used]; exact Fr.used_le hk, by rw [← hV.high]; exact hk.high⟩
theorem Vm.isPage (h : Vm S m words page room t v w) : Fr.isPage page := by
  obtain ⟨b, pb, s, F, h, hk, ht, hV, hw⟩ := h
  exact hw.pow
theorem Vm.keep (h : Vm S m words page room t v w) (c : Chg T w w') (ap : Apart S T) : Vm S m words page room t v w' := by
  obtain ⟨b, pb, s, F, h, k⟩ := h
  exact ⟨b, pb, s, F, h.keep c ap, k⟩
theorem Vm.grow (h : Vm S m words page room t v w) (c : Below w.heap.size w w') : Vm S m words page room t v w' :=
  h.keep (T := fun _ => False) (Chg.of c) (fun _ _ h => h)
theorem Vm.more (h : Vm S m words page room t v w) {t' : Nat} (ht : t ≤ t') : Vm S m words page room t' v w := by
  obtain ⟨b, pb, s, F, h, hk, h1, k⟩ := h
  exact ⟨b, pb, s, F, h, hk, Nat.le_trans h1 ht, k⟩
theorem Vm.like {v' : VS} (h : Vm S m words page room t v w) (hl : v.like page (words / page) v') : Vm S m words page room t v' w := by
  obtain ⟨b, pb, s, F, h, hk, h1, hV, k⟩ := h
  exact ⟨b, pb, s, F, h, hk, h1, hV.like hl, k⟩
theorem VDid.of (h : Vm S m words page room t v w) (c : Below w.heap.size w w') : VDid S m words page room t v w w' := ⟨S, h.grow c, Chg.of c, Grew.refl _ _⟩
theorem VDid.then {S' : Nat → Prop} (h : Chg S w w1) (g : Grew S S' w) (k : VDid S' m words page room t v w1 w') : VDid S m words page room t v w w' := by
  obtain ⟨S2, h1, h2, h3⟩ := k
  exact ⟨S2, h1, h.then h2 g, g.trans h3 h.size⟩
theorem VDid.more (h : VDid S m words page room t v w w') {t' : Nat} (ht : t ≤ t') : VDid S m words page room t' v w w' := by
  obtain ⟨S', h1, h2⟩ := h
  exact ⟨S', h1.more ht, h2⟩
end
end Go.Proofs.Ytkcijlndblbidaa

/- The walks of a memory's small methods: none, Map, Unmap, Move. -/
namespace Go.Proofs.Ytkcijlndblbidaa
open Go.ChangeShapes Go.WideShapes Go.ChangeAt Go.RowKit
set_option linter.unusedVariables false

theorem none_cells (m b : Nat) (w : World) (c0 : w.cell? ⟨m, 0, none⟩ = some (.pointer (some ⟨b, 0, none⟩))) :
    Calls Try.prog 99 #[.pointer (some ⟨m, 0, none⟩)] w fun e w' => e = .returned (.bool false) ∧ w = w' := by
  go_enter Try.func99, Try.ntmps99
  go_wp2
  go_ret
  exact ⟨rfl, rfl⟩
/-- what Map answers and leaves -/
def mapE (np room : Nat) (v : VS) (p : Int) : Int := if ¬ (0 ≤ p ∧ p < np) then 11 else if v.mp p.toNat = true then 13 else if v.used = room then 14 else 0
def mapS (np page room : Nat) (v : VS) (p : Int) : VS := if mapE np room v p = 0 then mapV page v p.toNat else v
set_option maxRecDepth 100000 in
set_option maxHeartbeats 1000000 in
theorem map_vm (S : Nat → Prop) (m words page room t : Nat) (v : VS) (w : World) (h : Vm S m words page room t v w) (ht : t < 1000000000) (p : Int) :
    Calls Try.prog 20 #[.pointer (some ⟨m, 0, none⟩), .int .i64 p] w fun e w' => e = .returned (.int .i64 (mapE (words / page) room v p)) ∧ VDid S m words page room (t + 1) (mapS (words / page) page room v p) w w' := by
  have HV := Lib.hid h
  obtain ⟨b, pb, s, F, hR, hk, hts, hV, hdim⟩ := h
  obtain ⟨c0, c1, -⟩ := hR.cells
  have Hfr := frame_raw hR p
  have Hnone := Lib.hid (none_cells m b w c0)
  have HR := Lib.hid hR
  unfold mapS mapE
  by_cases h1 : 0 ≤ p ∧ p < (words / page : Nat)
  · rw [if_neg (Classical.not_not.2 h1)]
    obtain ⟨p, rfl⟩ : ∃ q : Nat, p = q := ⟨p.toNat, by omega⟩
    rw [Int.toNat_natCast]
    have hp : p < words / page := by omega
    unfold Pg.frameR at Hfr
    rw [if_neg (Classical.not_not.2 h1), Int.toNat_natCast] at Hfr
    by_cases h2 : v.mp p = true
    · have h3 := (hV.mp p hp).1 h2
      rw [if_neg h3] at Hfr
      rw [if_pos h2]
      obtain ⟨x, hx⟩ : ∃ x : Int, (F p : Int) - 1 = x := ⟨_, rfl⟩
      rw [hx] at Hfr
      replace Hfr := Lib.hid Hfr
      clear hR hk hV hdim h1 h2 h3 hx
      go_enter Try.func20, Try.ntmps20
      go_wp2_with (first | (go_at_call 99; refine Hnone.out.mono ?_; rintro e w1 ⟨rfl, rfl⟩) | (go_at_call 104; refine Hfr.out.mono ?_; rintro e w1 ⟨rfl, hb⟩))
      go_ret
      exact ⟨rfl, VDid.more (VDid.of HV.out hb) (by omega)⟩
    · have h3 : F p = 0 := Classical.not_not.1 fun k => h2 ((hV.mp p hp).2 k)
      rw [if_pos h3] at Hfr
      rw [if_neg h2]
      have Htk := Lib.hid fun W (hW : VRaw S m b pb words page room s F W) => take_raw hW hk (by omega)
      by_cases h4 : v.used = room
      · rw [if_pos h4]
        have h5 : s.used = room := hV.used.trans h4
        unfold Fr.takeE Fr.takeT at Htk
        rw [if_pos h5, if_pos h5] at Htk
        have Hok := Lib.hid (show s.ok room page ∧ s.times ≤ t + 1 ∧ Vr page (words / page) s F v ∧ VDim words page from ⟨hk, by omega, hV, hdim⟩)
        replace Hfr := Lib.hid Hfr
        clear hR hk hV hdim h1 h2 h3 h4 h5
        go_enter Try.func20, Try.ntmps20
        go_wp2_with (first | (go_at_call 99; refine Hnone.out.mono ?_; rintro e w1 ⟨rfl, rfl⟩) | (go_at_call 104; refine Hfr.out.mono ?_; rintro e w1 ⟨rfl, hb⟩; have Hb := Lib.hid hb; obtain ⟨d0, d1, -⟩ := (HR.out.grow hb).cells; clear hb) | (go_at_call 105; refine (Htk.out _ (HR.out.grow Hb.out)).mono ?_; rintro e w2 ⟨rfl, hd⟩; have Hd := Lib.hid hd; clear hd))
        go_ret
        obtain ⟨S', k1, k2, k3⟩ := Hd.out
        exact ⟨rfl, S', ⟨b, pb, s, F, k1, Hok.out⟩, (Chg.of Hb.out).trans k2 (fun _ _ h => h), (Grew.refl S w).trans k3 Hb.out.size⟩
      · rw [if_neg h4]
        have h5 : ¬ s.used = room := fun k => h4 (hV.used.symm.trans k)
        have hu : s.used < room := by have := Fr.used_le hk; omega
        have hnl := Fr.nextF_lt hk hu
        have hrm := hk.room1
        have Hput := Lib.hid fun S' W (hW : VRaw S' m b pb words page room (Fr.takeS s) F W) => put_raw hW p (Fr.nextF s : Int)
        unfold Fr.takeE Fr.takeT at Htk
        rw [if_neg h5, if_neg h5] at Htk
        unfold Pg.putR at Hput
        simp only [if_neg (Classical.not_not.2 h1), Int.toNat_natCast, if_neg (show ¬ ((Fr.nextF s : Int) < 0 ∨ 2147483648 ≤ (Fr.nextF s : Int)) by omega), if_neg (Classical.not_not.2 h3)] at Hput
        have Hok := Lib.hid (show (Fr.takeS s).ok room page ∧ (Fr.takeS s).times ≤ t + 1 ∧ Vr page (words / page) (Fr.takeS s) (Pg.turn F p (Fr.nextF s + 1)) (mapV page v p) ∧ VDim words page from ⟨Fr.take_ok hk hu, by show s.times + 1 ≤ t + 1; omega, hV.map hk hu hp h3, hdim⟩)
        obtain ⟨f0, hf0⟩ : ∃ f0, Fr.nextF s = f0 := ⟨_, rfl⟩
        simp only [hf0] at Htk Hput Hok
        replace Hfr := Lib.hid Hfr
        clear hR hk hV hdim h1 h2 h3 h4 h5 hu hnl hf0
        go_enter Try.func20, Try.ntmps20
        go_wp2_with (first | (go_at_call 99; refine Hnone.out.mono ?_; rintro e w1 ⟨rfl, rfl⟩) | (go_at_call 104; refine Hfr.out.mono ?_; rintro e w1 ⟨rfl, hb⟩; have Hb := Lib.hid hb; obtain ⟨d0, d1, -⟩ := (HR.out.grow hb).cells; clear hb) | (go_at_call 105; refine (Htk.out _ (HR.out.grow Hb.out)).mono ?_; rintro e w2 ⟨rfl, S2, r2, c2, g2⟩; have HR2 := Lib.hid r2; have HC2 := Lib.hid c2; have HG2 := Lib.hid g2; obtain ⟨e0, e1, -⟩ := r2.cells; clear r2 c2 g2) | (go_at_call 106; refine (Hput.out _ _ HR2.out).mono ?_; rintro e w3 ⟨rfl, hd⟩; have Hd := Lib.hid hd; clear hd))
        go_ret
        obtain ⟨S', k1, k2, k3⟩ := RawDid.then HC2.out HG2.out Hd.out
        refine ⟨rfl, S', ⟨b, pb, _, _, k1, ?_⟩, (Chg.of Hb.out).trans k2 (fun _ _ h => h), (Grew.refl S w).trans k3 Hb.out.size⟩
        exact Hok.out
  · rw [if_pos h1]
    unfold Pg.frameR at Hfr
    rw [if_pos h1] at Hfr
    replace Hfr := Lib.hid Hfr
    clear hR hk hV hdim h1
    go_enter Try.func20, Try.ntmps20
    go_wp2_with (first | (go_at_call 99; refine Hnone.out.mono ?_; rintro e w1 ⟨rfl, rfl⟩) | (go_at_call 104; refine Hfr.out.mono ?_; rintro e w1 ⟨rfl, hb⟩))
    go_ret
    exact ⟨rfl, VDid.more (VDid.of HV.out hb) (by omega)⟩
/-- what Unmap answers and leaves -/
def unmapE (np : Nat) (v : VS) (p : Int) : Int := if ¬ (0 ≤ p ∧ p < np) then 11 else if v.mp p.toNat = true then 0 else 12
def unmapS (np : Nat) (v : VS) (p : Int) : VS := if unmapE np v p = 0 then unmapV v p.toNat else v
set_option maxRecDepth 100000 in
set_option maxHeartbeats 1000000 in
theorem unmap_vm (S : Nat → Prop) (m words page room t : Nat) (v : VS) (w : World) (h : Vm S m words page room t v w) (p : Int) :
    Calls Try.prog 21 #[.pointer (some ⟨m, 0, none⟩), .int .i64 p] w fun e w' => e = .returned (.int .i64 (unmapE (words / page) v p)) ∧ VDid S m words page room t (unmapS (words / page) v p) w w' := by
  obtain ⟨b, pb, s, F, hR, hk, hts, hV, hdim⟩ := h
  obtain ⟨c0, c1, -⟩ := hR.cells
  have Hdr := drop_raw hR p
  have Hnone := Lib.hid (none_cells m b w c0)
  unfold unmapS unmapE
  by_cases h1 : 0 ≤ p ∧ p < (words / page : Nat)
  · rw [if_neg (Classical.not_not.2 h1)]
    obtain ⟨p, rfl⟩ : ∃ q : Nat, p = q := ⟨p.toNat, by omega⟩
    rw [Int.toNat_natCast]
    have hp : p < words / page := by omega
    unfold Pg.dropF Pg.frameR at Hdr
    rw [if_neg (Classical.not_not.2 h1), Int.toNat_natCast] at Hdr
    by_cases h2 : v.mp p = true
    · have h3 := (hV.mp p hp).1 h2
      rw [if_neg h3, if_pos rfl] at Hdr
      rw [if_pos h2, if_pos rfl]
      have Hgv := Lib.hid fun S' W (hW : VRaw S' m b pb words page room s (Pg.turn F p 0) W) => give_raw hW hk ((F p - 1 : Nat) : Int)
      have hh := hV.has p hp h3
      have hgok := Fr.give_ok hk _ hh
      unfold Fr.giveE Fr.giveS at Hgv
      simp only [hh, if_true, Int.toNat_natCast] at Hgv hgok
      have Hok := Lib.hid (show (Fr.giveT s (F p - 1)).ok room page ∧ (Fr.giveT s (F p - 1)).times ≤ t ∧ Vr page (words / page) (Fr.giveT s (F p - 1)) (Pg.turn F p 0) (unmapV v p) ∧ VDim words page from ⟨hgok.1, hts, hV.unmap hp h3, hdim⟩)
      rw [show (F p : Int) - 1 = ((F p - 1 : Nat) : Int) by omega] at Hdr
      obtain ⟨f0, hf0⟩ : ∃ f0, F p - 1 = f0 := ⟨_, rfl⟩
      simp only [hf0] at Hdr Hgv Hok
      replace Hdr := Lib.hid Hdr
      clear hR hk hV hdim h1 h2 h3 hh hgok hf0
      go_enter Try.func21, Try.ntmps21
      go_wp2_with (first | (go_at_call 99; refine Hnone.out.mono ?_; rintro e w1 ⟨rfl, rfl⟩) | (go_at_call 107; refine Hdr.out.mono ?_; rintro e w2 ⟨rfl, S2, r2, c2, g2⟩; have HR2 := Lib.hid r2; have HC2 := Lib.hid c2; have HG2 := Lib.hid g2; obtain ⟨e0, e1, -⟩ := r2.cells; clear r2 c2 g2) | (go_at_call 108; refine (Hgv.out _ _ HR2.out).mono ?_; rintro e w3 ⟨rfl, hd⟩; have Hd := Lib.hid hd; clear hd))
      go_ret
      obtain ⟨S', k1, k2, k3⟩ := RawDid.then HC2.out HG2.out Hd.out
      exact ⟨rfl, S', ⟨b, pb, _, _, k1, Hok.out⟩, k2, k3⟩
    · have h3 : F p = 0 := Classical.not_not.1 fun k => h2 ((hV.mp p hp).2 k)
      rw [if_pos h3, if_neg (by decide)] at Hdr
      rw [if_neg h2, if_neg (by decide)]
      have Hok := Lib.hid (show s.ok room page ∧ s.times ≤ t ∧ Vr page (words / page) s F v ∧ VDim words page from ⟨hk, hts, hV, hdim⟩)
      replace Hdr := Lib.hid Hdr
      clear hR hk hV hdim h1 h2 h3
      go_enter Try.func21, Try.ntmps21
      go_wp2_with (first | (go_at_call 99; refine Hnone.out.mono ?_; rintro e w1 ⟨rfl, rfl⟩) | (go_at_call 107; refine Hdr.out.mono ?_; rintro e w2 ⟨rfl, hd⟩; have Hd := Lib.hid hd; clear hd))
      go_ret
      obtain ⟨S', k1, k2, k3⟩ := Hd.out
      exact ⟨rfl, S', ⟨b, pb, _, _, k1, Hok.out⟩, k2, k3⟩
  · rw [if_pos h1, if_neg (by decide)]
    unfold Pg.dropF Pg.frameR at Hdr
    rw [if_pos h1, if_neg (by decide)] at Hdr
    have Hok := Lib.hid (show s.ok room page ∧ s.times ≤ t ∧ Vr page (words / page) s F v ∧ VDim words page from ⟨hk, hts, hV, hdim⟩)
    replace Hdr := Lib.hid Hdr
    clear hR hk hV hdim h1
    go_enter Try.func21, Try.ntmps21
    go_wp2_with (first | (go_at_call 99; refine Hnone.out.mono ?_; rintro e w1 ⟨rfl, rfl⟩) | (go_at_call 107; refine Hdr.out.mono ?_; rintro e w2 ⟨rfl, hd⟩; have Hd := Lib.hid hd; clear hd))
    go_ret
    obtain ⟨S', k1, k2, k3⟩ := Hd.out
    exact ⟨rfl, S', ⟨b, pb, _, _, k1, Hok.out⟩, k2, k3⟩
/-- what Move answers and leaves -/
def moveE (np : Nat) (v : VS) (p q : Int) : Int := if ¬ ((0 ≤ p ∧ p < np) ∧ 0 ≤ q ∧ q < np) then 11 else if ¬ v.mp p.toNat = true then 12 else if v.mp q.toNat = true then 13 else 0
def moveS (np page : Nat) (v : VS) (p q : Int) : VS := if moveE np v p q = 0 then moveV page v p.toNat q.toNat else v
theorem moveR_vm {page np : Nat} {s : Fr.PS} {F : Nat → Nat} {v : VS} (hV : Vr page np s F v) (p q : Int) : (Pg.moveR np F p q).1 = moveE np v p q ∧ Vr page np s (Pg.moveR np F p q).2 (moveS np page v p q) := by
  unfold moveS moveE Pg.moveR
  by_cases h1 : (0 ≤ p ∧ p < np) ∧ 0 ≤ q ∧ q < np
  · rw [if_neg (Classical.not_not.2 h1), if_neg (Classical.not_not.2 h1)]
    have hp : p.toNat < np := by omega
    have hq : q.toNat < np := by omega
    by_cases h2 : v.mp p.toNat = true
    · have h3 := (hV.mp _ hp).1 h2
      rw [if_neg h3, if_neg (Classical.not_not.2 h2)]
      by_cases h4 : v.mp q.toNat = true
      · have h5 := (hV.mp _ hq).1 h4
        rw [if_pos h5, if_pos h4]
        exact ⟨rfl, hV⟩
      · have h5 : F q.toNat = 0 := Classical.not_not.1 fun k => h4 ((hV.mp _ hq).2 k)
        rw [if_neg (Classical.not_not.2 h5), if_neg h4]
        exact ⟨rfl, hV.move hp hq h3 h5⟩
    · have h3 : F p.toNat = 0 := Classical.not_not.1 fun k => h2 ((hV.mp _ hp).2 k)
      rw [if_pos h3, if_pos h2]
      exact ⟨rfl, hV⟩
  · rw [if_pos h1, if_pos h1]
    exact ⟨rfl, hV⟩
set_option maxRecDepth 100000 in
theorem move_vm (S : Nat → Prop) (m words page room t : Nat) (v : VS) (w : World) (h : Vm S m words page room t v w) (p q : Int) :
    Calls Try.prog 22 #[.pointer (some ⟨m, 0, none⟩), .int .i64 p, .int .i64 q] w fun e w' => e = .returned (.int .i64 (moveE (words / page) v p q)) ∧ VDid S m words page room t (moveS (words / page) page v p q) w w' := by
  obtain ⟨b, pb, s, F, hR, hk, hts, hV, hdim⟩ := h
  obtain ⟨c0, c1, -⟩ := hR.cells
  have Hmv := pmove_raw hR p q
  have Hnone := Lib.hid (none_cells m b w c0)
  obtain ⟨e1, hV2⟩ := moveR_vm hV p q
  rw [e1] at Hmv
  generalize moveE (words / page) v p q = r at *
  have Hok := Lib.hid (show s.ok room page ∧ s.times ≤ t ∧ Vr page (words / page) s (Pg.moveR (words / page) F p q).2 (moveS (words / page) page v p q) ∧ VDim words page from ⟨hk, hts, hV2, hdim⟩)
  replace Hmv := Lib.hid Hmv
  clear hR hk hV hdim e1 hV2
  go_enter Try.func22, Try.ntmps22
  go_wp2_with (first | (go_at_call 99; refine Hnone.out.mono ?_; rintro e w1 ⟨rfl, rfl⟩) | (go_at_call 109; refine Hmv.out.mono ?_; rintro e w2 ⟨rfl, hd⟩; have Hd := Lib.hid hd; clear hd))
  go_ret
  obtain ⟨S', k1, k2, k3⟩ := Hd.out
  exact ⟨rfl, S', ⟨b, pb, _, _, k1, Hok.out⟩, k2, k3⟩
end Go.Proofs.Ytkcijlndblbidaa

/- The walks of a memory's find, Load, Store, Mapped and of the counts. -/
namespace Go.Proofs.Ytkcijlndblbidaa
open Go.ChangeShapes Go.WideShapes Go.ChangeAt Go.RowKit Go.IntWalk
set_option linter.unusedVariables false

section
variable {S : Nat → Prop} {m b pb words page room : Nat} {s : Fr.PS} {F : Nat → Nat} {w : World}
theorem find_out (h : VRaw S m b pb words page room s F w) (a : Int) (ha : a < 0 ∨ (words : Int) ≤ a) :
    Calls Try.prog 102 #[.pointer (some ⟨m, 0, none⟩), .int .i64 a] w fun e w' => e = .returned (.tuple #[.int .i64 0, .int .i64 0, .int .i64 11]) ∧ w = w' := by
  obtain ⟨c0, c1, c2⟩ := h.cells
  have Hnone := Lib.hid (none_cells m b w c0)
  clear h
  rcases ha with ha | ha
  · go_enter Try.func102, Try.ntmps102
    go_wp2_with (first | (go_at_call 99; refine Hnone.out.mono ?_; rintro e w1 ⟨rfl, rfl⟩))
    go_ret3
    exact ⟨rfl, rfl⟩
  · have h0 : ¬ a < 0 := by omega
    go_enter Try.func102, Try.ntmps102
    go_wp2_with (first | (go_at_call 99; refine Hnone.out.mono ?_; rintro e w1 ⟨rfl, rfl⟩))
    go_ret3
    exact ⟨rfl, rfl⟩
set_option maxRecDepth 100000 in
theorem find_in (h : VRaw S m b pb words page room s F w) (hp0 : 1 ≤ page ∧ page ≤ 256) (hw0 : words ≤ 524288) (p i : Nat) (hi : i < page) (ha : p * page + i < words) :
    Calls Try.prog 102 #[.pointer (some ⟨m, 0, none⟩), .int .i64 ((p * page + i : Nat) : Int)] w fun e w' => e = .returned (.tuple #[.int .i64 (Pg.frameR (words / page) F p).1, .int .i64 i, .int .i64 (Pg.frameR (words / page) F p).2]) ∧ Below w.heap.size w w' := by
  obtain ⟨c0, c1, c2⟩ := h.cells
  have Hnone := Lib.hid (none_cells m b w c0)
  have Hpage := Lib.hid (page_raw h)
  have Hfr := fun W (hW : VRaw S m b pb words page room s F W) => frame_raw hW p
  have HR := Lib.hid h
  obtain ⟨x, y, hx, hy⟩ : ∃ x y, (Pg.frameR (words / page) F p).1 = x ∧ (Pg.frameR (words / page) F p).2 = y := ⟨_, _, rfl, rfl⟩
  rw [hx, hy]
  simp only [hx, hy] at Hfr
  have hd1 := pg_div (p := p) hi
  have hm1 := pg_mod (p := p) hi
  obtain ⟨a, hA⟩ : ∃ a, p * page + i = a := ⟨_, rfl⟩
  rw [hA] at ha hd1 hm1 ⊢
  have hdi : (a : Int) / (page : Int) = p := by rw [← Int.natCast_ediv, hd1]
  have hmi : (a : Int) % (page : Int) = i := by rw [← Int.natCast_emod, hm1]
  have h1 : ¬ (a : Int) < 0 := by omega
  have h2 : ¬ (words : Int) ≤ a := by omega
  have h3 : (0 : Int) ≤ a := by omega
  have h4 : (a : Int) ≤ 524288 := by omega
  have h5 : (0 : Int) < page := by omega
  have h6 : (page : Int) ≤ 256 := by omega
  replace Hfr := Lib.hid Hfr
  obtain ⟨pi, hpi⟩ : ∃ pi : Int, (page : Int) = pi := ⟨_, rfl⟩
  rw [hpi] at Hpage hdi hmi h5 h6
  clear h hx hy hA hm1
  have hz : ¬ pi = 0 := by omega
  have hi6 : i ≤ 256 := by omega
  have Hdi := Lib.hid (show IntKind.i64.wrap ((a : Int) / pi) = p by rw [hdi]; exact IntWalk.i64_in _ (by have := Nat.div_le_self a page; rw [hd1] at this; omega))
  have Hmi := Lib.hid (show (a : Int).tmod pi = i by rw [Int.tmod_eq_emod_of_nonneg h3, hmi])
  have Hmi2 := Lib.hid (show IntKind.i64.wrap (i : Int) = i from IntWalk.i64_in _ (by omega))
  have Hmi3 := Lib.hid hmi
  clear hdi hmi hpi hp0 hd1
  go_enter Try.func102, Try.ntmps102
  go_wp2_with (first | (go_at_call 99; refine Hnone.out.mono ?_; rintro e w1 ⟨rfl, rfl⟩) | (go_at_call 101; refine Hpage.out.mono ?_; rintro e w1 ⟨rfl, rfl⟩))
  have hdi := Hdi.out
  go_region_held3 (fun w' => w'.cell? ⟨m, 1, none⟩ = some (.pointer (some ⟨pb, 0, none⟩))) (first | exact c1 | exact d1 | go_keep) ((go_at_call 104; refine (Hfr.out _ (HR.out.grow (below_drew w))).mono ?_; rintro e w1 ⟨rfl, hb⟩; have Hb := Lib.hid hb; have d1 := ((HR.out.grow (below_drew w)).grow hb).cells.2.1; clear hb))
  clear hdi
  go_wp2
  have hmi := Hmi.out
  have hmi2 := Hmi2.out
  have hmi3 := Hmi3.out
  go_quiet (fail)
  go_wp2
  go_ret3
  exact ⟨rfl, seq (seq (below_drew w) Hb.out) (Fr.below_drewN' _ _)⟩
end
/-- what Load and Store answer, and what Store leaves -/
def loadE (words page : Nat) (v : VS) (a : Int) : Int := if a < 0 ∨ (words : Int) ≤ a then 11 else if v.mp (a.toNat / page) = true then 0 else 12
def loadW (words page : Nat) (v : VS) (a : Int) : Nat := if loadE words page v a = 0 then v.wd a.toNat else 0
def storeV (words page : Nat) (v : VS) (a : Int) (x : Nat) : VS := if loadE words page v a = 0 then putV v a.toNat x else v
theorem word_ok {page : Nat} {s : Fr.PS} {f : Int} {i : Nat} (h : Fr.has s f = true) (hi : i < page) : Fr.wordE page s f i = 0 := by
  unfold Fr.wordE
  rw [if_neg (Classical.not_not.2 h), if_neg (by omega)]
set_option maxRecDepth 100000 in
theorem load_vm (S : Nat → Prop) (m words page room t : Nat) (v : VS) (w : World) (h : Vm S m words page room t v w) (a : Int) :
    Calls Try.prog 24 #[.pointer (some ⟨m, 0, none⟩), .int .i64 a] w fun e w' => e = .returned (.tuple #[.int .u64 (loadW words page v a), .int .i64 (loadE words page v a)]) ∧ Below w.heap.size w w' := by
  obtain ⟨b, pb, s, F, hR, hk, hts, hV, hdim, hmod, hpow⟩ := h
  obtain ⟨c0, c1, -⟩ := hR.cells
  unfold loadW loadE
  by_cases ha : a < 0 ∨ (words : Int) ≤ a
  · have Hf := Lib.hid (find_out hR a ha)
    rw [if_pos ha, if_neg (by decide)]
    clear hR hk hV hdim hmod hpow ha
    go_enter Try.func24, Try.ntmps24
    go_wp2_with (first | (go_at_call 102; refine Hf.out.mono ?_; rintro e w1 ⟨rfl, rfl⟩))
    go_ret2
    exact ⟨rfl, Below.refl _ _⟩
  · rw [if_neg ha]
    obtain ⟨a, rfl⟩ : ∃ q : Nat, a = q := ⟨a.toNat, by omega⟩
    rw [Int.toNat_natCast]
    have hp1 := hk.page1
    have hi := Nat.mod_lt a (show 0 < page by omega)
    have hap : a / page * page + a % page = a := by rw [Nat.mul_comm]; exact Nat.div_add_mod a page
    have hlt : a / page < words / page := Nat.div_lt_of_lt_mul (by rw [Nat.mul_div_cancel' (Nat.dvd_of_mod_eq_zero hmod)]; omega)
    have Hf := find_in hR hp1 hdim.2 (a / page) (a % page) hi (by rw [hap]; omega)
    rw [hap] at Hf
    unfold Pg.frameR at Hf
    rw [if_neg (Classical.not_not.2 ⟨Int.natCast_nonneg _, Int.ofNat_lt.2 hlt⟩), Int.toNat_natCast] at Hf
    by_cases h2 : v.mp (a / page) = true
    · have h3 := (hV.mp _ hlt).1 h2
      rw [if_pos h2, if_pos rfl]
      rw [if_neg h3, show (F (a / page) : Int) - 1 = ((F (a / page) - 1 : Nat) : Int) by omega] at Hf
      have Hld := fun W (hW : VRaw S m b pb words page room s F W) => load_raw hW hk ((F (a / page) - 1 : Nat) : Int) ((a % page : Nat) : Int)
      have hwe := word_ok (hV.has _ hlt h3) hi
      have hwd := hV.wd _ _ hlt h3 hi
      rw [hap] at hwd
      unfold Fr.loadR at Hld
      simp only [hwe, if_true, Int.toNat_natCast, hwd] at Hld
      have HR := Lib.hid hR
      generalize F (a / page) - 1 = f0 at *
      generalize a % page = i0 at *
      generalize v.wd a = x at *
      replace Hf := Lib.hid Hf
      replace Hld := Lib.hid Hld
      clear hR hk hV hdim hmod hpow ha h2 h3 hp1 hi hap hlt hwe hwd
      go_enter Try.func24, Try.ntmps24
      go_wp2_with (first | (go_at_call 102; refine Hf.out.mono ?_; rintro e w1 ⟨rfl, hb⟩; have Hb := Lib.hid hb; obtain ⟨d0, d1, -⟩ := (HR.out.grow hb).cells; clear hb) | (go_at_call 111; refine (Hld.out _ (HR.out.grow Hb.out)).mono ?_; rintro e w1 ⟨rfl, rfl⟩))
      go_ret2
      exact ⟨rfl, Hb.out⟩
    · have h3 : F (a / page) = 0 := Classical.not_not.1 fun k => h2 ((hV.mp _ hlt).2 k)
      rw [if_neg h2, if_neg (by decide)]
      rw [if_pos h3] at Hf
      generalize a % page = i0 at *
      replace Hf := Lib.hid Hf
      clear hR hk hV hdim hmod hpow ha h2 h3 hp1 hi hap hlt
      go_enter Try.func24, Try.ntmps24
      go_wp2_with (first | (go_at_call 102; refine Hf.out.mono ?_; rintro e w1 ⟨rfl, hb⟩; have Hb := Lib.hid hb; clear hb))
      go_ret2
      exact ⟨rfl, Hb.out⟩
set_option maxRecDepth 100000 in
theorem store_vm (S : Nat → Prop) (m words page room t : Nat) (v : VS) (w : World) (h : Vm S m words page room t v w) (a : Int) (x : Nat) (hx : x < 18446744073709551616) :
    Calls Try.prog 19 #[.pointer (some ⟨m, 0, none⟩), .int .i64 a, .int .u64 x] w fun e w' => e = .returned (.int .i64 (loadE words page v a)) ∧ VDid S m words page room t (storeV words page v a x) w w' := by
  have HV := Lib.hid h
  obtain ⟨b, pb, s, F, hR, hk, hts, hV, hdim, hmod, hpow⟩ := h
  obtain ⟨c0, c1, -⟩ := hR.cells
  unfold storeV loadE
  by_cases ha : a < 0 ∨ (words : Int) ≤ a
  · have Hf := Lib.hid (find_out hR a ha)
    rw [if_pos ha, if_neg (by decide)]
    clear hR hk hV hdim hmod hpow ha
    go_enter Try.func19, Try.ntmps19
    go_wp2_with (first | (go_at_call 102; refine Hf.out.mono ?_; rintro e w1 ⟨rfl, rfl⟩))
    go_ret
    exact ⟨rfl, VDid.of HV.out (Below.refl _ _)⟩
  · rw [if_neg ha]
    obtain ⟨a, rfl⟩ : ∃ q : Nat, a = q := ⟨a.toNat, by omega⟩
    rw [Int.toNat_natCast]
    have hp1 := hk.page1
    have hi := Nat.mod_lt a (show 0 < page by omega)
    have hap : a / page * page + a % page = a := by rw [Nat.mul_comm]; exact Nat.div_add_mod a page
    have hlt : a / page < words / page := Nat.div_lt_of_lt_mul (by rw [Nat.mul_div_cancel' (Nat.dvd_of_mod_eq_zero hmod)]; omega)
    have Hf := find_in hR hp1 hdim.2 (a / page) (a % page) hi (by rw [hap]; omega)
    rw [hap] at Hf
    unfold Pg.frameR at Hf
    rw [if_neg (Classical.not_not.2 ⟨Int.natCast_nonneg _, Int.ofNat_lt.2 hlt⟩), Int.toNat_natCast] at Hf
    by_cases h2 : v.mp (a / page) = true
    · have h3 := (hV.mp _ hlt).1 h2
      rw [if_pos h2, if_pos rfl]
      rw [if_neg h3, show (F (a / page) : Int) - 1 = ((F (a / page) - 1 : Nat) : Int) by omega] at Hf
      have Hst := fun W (hW : VRaw S m b pb words page room s F W) => store_raw hW hk ((F (a / page) - 1 : Nat) : Int) ((a % page : Nat) : Int) x
      have hwe := word_ok (hV.has _ hlt h3) hi
      have hput := hV.put hlt h3 hi x
      rw [hap] at hput
      unfold Fr.storeS at Hst
      simp only [hwe, if_true, Int.toNat_natCast] at Hst
      have Hok := Lib.hid (show (Fr.putW s (F (a / page) - 1) (a % page) x).ok room page ∧ (Fr.putW s (F (a / page) - 1) (a % page) x).times ≤ t ∧ Vr page (words / page) (Fr.putW s (F (a / page) - 1) (a % page) x) F (putV v a x) ∧ VDim words page from ⟨Fr.putW_ok hk _ _ x hx, hts, hput, hdim, hmod, hpow⟩)
      have HR := Lib.hid hR
      generalize F (a / page) - 1 = f0 at *
      generalize a % page = i0 at *
      replace Hf := Lib.hid Hf
      replace Hst := Lib.hid Hst
      clear hR hk hV hdim hmod hpow ha h2 h3 hp1 hi hap hlt hwe hput
      go_enter Try.func19, Try.ntmps19
      go_wp2_with (first | (go_at_call 102; refine Hf.out.mono ?_; rintro e w1 ⟨rfl, hb⟩; have Hb := Lib.hid hb; obtain ⟨d0, d1, -⟩ := (HR.out.grow hb).cells; clear hb) | (go_at_call 103; refine (Hst.out _ (HR.out.grow Hb.out)).mono ?_; rintro e w2 ⟨rfl, hd⟩; have Hd := Lib.hid hd; clear hd))
      go_ret
      obtain ⟨S', k1, k2, k3⟩ := Hd.out
      exact ⟨rfl, S', ⟨b, pb, _, _, k1, Hok.out⟩, (Chg.of Hb.out).trans k2 (fun _ _ h => h), (Grew.refl S w).trans k3 Hb.out.size⟩
    · have h3 : F (a / page) = 0 := Classical.not_not.1 fun k => h2 ((hV.mp _ hlt).2 k)
      rw [if_neg h2, if_neg (by decide)]
      rw [if_pos h3] at Hf
      generalize a % page = i0 at *
      replace Hf := Lib.hid Hf
      clear hR hk hV hdim hmod hpow ha h2 h3 hp1 hi hap hlt
      go_enter Try.func19, Try.ntmps19
      go_wp2_with (first | (go_at_call 102; refine Hf.out.mono ?_; rintro e w1 ⟨rfl, hb⟩; have Hb := Lib.hid hb; clear hb))
      go_ret
      exact ⟨rfl, VDid.of HV.out Hb.out⟩
/-- is a page mapped? -/
def isM (np : Nat) (v : VS) (p : Int) : Bool := decide (0 ≤ p ∧ p < np) && v.mp p.toNat
set_option maxRecDepth 100000 in
theorem mapped_vm (S : Nat → Prop) (m words page room t : Nat) (v : VS) (w : World) (h : Vm S m words page room t v w) (p : Int) :
    Calls Try.prog 25 #[.pointer (some ⟨m, 0, none⟩), .int .i64 p] w fun e w' => e = .returned (.bool (isM (words / page) v p)) ∧ Below w.heap.size w w' := by
  obtain ⟨b, pb, s, F, hR, hk, hts, hV, hdim⟩ := h
  obtain ⟨c0, c1, -⟩ := hR.cells
  have Hfr := frame_raw hR p
  have Hnone := Lib.hid (none_cells m b w c0)
  have key : isM (words / page) v p = decide ((Pg.frameR (words / page) F p).2 = 0) := by
    unfold isM Pg.frameR
    by_cases h1 : 0 ≤ p ∧ p < (words / page : Nat)
    · rw [if_neg (Classical.not_not.2 h1), decide_eq_true h1, Bool.true_and]
      have hm := hV.mp p.toNat (by omega)
      by_cases h2 : F p.toNat = 0
      · rw [if_pos h2, decide_eq_false (by decide)]
        cases hmp : v.mp p.toNat with
        | false => rfl
        | true => exact absurd h2 (hm.1 hmp)
      · rw [if_neg h2, decide_eq_true rfl]
        exact hm.2 h2
    · rw [if_pos h1, decide_eq_false h1, decide_eq_false (by decide)]
      rfl
  rw [key]
  generalize (Pg.frameR (words / page) F p).1 = x at *
  generalize (Pg.frameR (words / page) F p).2 = y at *
  replace Hfr := Lib.hid Hfr
  clear hR hk hV hdim key
  by_cases hy : y = 0
  · subst hy
    go_enter Try.func25, Try.ntmps25
    go_wp2_with (first | (go_at_call 99; refine Hnone.out.mono ?_; rintro e w1 ⟨rfl, rfl⟩) | (go_at_call 104; refine Hfr.out.mono ?_; rintro e w1 ⟨rfl, hb⟩))
    go_ret
    exact ⟨rfl, hb⟩
  · rw [decide_eq_false hy]
    have hyb : (y == 0) = false := by simpa using hy
    go_enter Try.func25, Try.ntmps25
    go_wp2_with (first | (go_at_call 99; refine Hnone.out.mono ?_; rintro e w1 ⟨rfl, rfl⟩) | (go_at_call 104; refine Hfr.out.mono ?_; rintro e w1 ⟨rfl, hb⟩))
    go_ret
    exact ⟨rfl, hb⟩
section
variable (S : Nat → Prop) (m words page room t : Nat) (v : VS) (w : World) (h : Vm S m words page room t v w)
include h
theorem page_vm : Calls Try.prog 26 #[.pointer (some ⟨m, 0, none⟩)] w fun e w' => e = .returned (.int .i64 page) ∧ w = w' := by
  obtain ⟨b, pb, s, F, hR, hk, hts, hV, hdim⟩ := h
  obtain ⟨c0, c1, -⟩ := hR.cells
  have Hx := Lib.hid (page_raw hR)
  have Hnone := Lib.hid (none_cells m b w c0)
  clear hR hk hV hdim
  go_enter Try.func26, Try.ntmps26
  go_wp2_with (first | (go_at_call 99; refine Hnone.out.mono ?_; rintro e w1 ⟨rfl, rfl⟩) | (go_at_call 101; refine Hx.out.mono ?_; rintro e w1 ⟨rfl, rfl⟩))
  go_ret
  exact ⟨rfl, rfl⟩
theorem words_vm : Calls Try.prog 27 #[.pointer (some ⟨m, 0, none⟩)] w fun e w' => e = .returned (.int .i64 words) ∧ w = w' := by
  obtain ⟨b, pb, s, F, hR, hk, hts, hV, hdim⟩ := h
  obtain ⟨c0, c1, c2⟩ := hR.cells
  have Hnone := Lib.hid (none_cells m b w c0)
  clear hR hk hV hdim
  go_enter Try.func27, Try.ntmps27
  go_wp2_with (first | (go_at_call 99; refine Hnone.out.mono ?_; rintro e w1 ⟨rfl, rfl⟩))
  go_ret
  exact ⟨rfl, rfl⟩
theorem used_vm : Calls Try.prog 28 #[.pointer (some ⟨m, 0, none⟩)] w fun e w' => e = .returned (.int .i64 v.used) ∧ w = w' := by
  obtain ⟨b, pb, s, F, hR, hk, hts, hV, hdim⟩ := h
  obtain ⟨c0, c1, -⟩ := hR.cells
  have hx := used_raw hR
  rw [hV.used] at hx
  have Hx := Lib.hid hx
  have Hnone := Lib.hid (none_cells m b w c0)
  clear hR hk hV hdim hx
  go_enter Try.func28, Try.ntmps28
  go_wp2_with (first | (go_at_call 99; refine Hnone.out.mono ?_; rintro e w1 ⟨rfl, rfl⟩) | (go_at_call 112; refine Hx.out.mono ?_; rintro e w1 ⟨rfl, rfl⟩))
  go_ret
  exact ⟨rfl, rfl⟩
end
end Go.Proofs.Ytkcijlndblbidaa

/- What mapping a run of pages one by one leaves, and unmapping them again. No program in sight. -/
namespace Go.Proofs.Ytkcijlndblbidaa
open Go.ChangeShapes Go.WideShapes Go.ChangeAt Go.RowKit
set_option linter.unusedVariables false

/-- the pages of a run that are not mapped -/
def newP (v : VS) (p : Nat) : Nat → List Nat
  | 0 => []
  | k + 1 => newP v p k ++ (if v.mp (p + k) = true then [] else [p + k])
def mapL (page : Nat) (v : VS) (l : List Nat) : VS := l.foldl (mapV page) v
def withH (v : VS) (h : Nat) : VS := { v with high := h }
theorem mapL_snoc (page : Nat) (v : VS) (l : List Nat) (p : Nat) : mapL page v (l ++ [p]) = mapV page (mapL page v l) p := by simp [mapL]
theorem mapL_mp (page : Nat) (v : VS) (l : List Nat) (q : Nat) : (mapL page v l).mp q = (v.mp q || decide (q ∈ l)) := by
  induction l generalizing v with
  | nil => simp [mapL]
  | cons a l ih =>
    show (mapL page (mapV page v a) l).mp q = _
    rw [ih]
    show ((if q = a then true else v.mp q) || _) = _
    by_cases h : q = a
    · subst h; simp
    · simp [h]
theorem mapL_used (page : Nat) (v : VS) (l : List Nat) : (mapL page v l).used = v.used + l.length := by
  induction l generalizing v with
  | nil => rfl
  | cons a l ih =>
    show (mapL page (mapV page v a) l).used = _
    rw [ih]
    show v.used + 1 + l.length = _
    simp; omega
theorem mapL_wd (page : Nat) (v : VS) (l : List Nat) (a : Nat) : (mapL page v l).wd a = if a / page ∈ l then 0 else v.wd a := by
  induction l generalizing v with
  | nil => simp [mapL]
  | cons b l ih =>
    show (mapL page (mapV page v b) l).wd a = _
    rw [ih]
    show (if a / page ∈ l then 0 else if a / page = b then 0 else v.wd a) = _
    by_cases h : a / page = b
    · simp [h]
    · simp [h]
theorem mapL_high (page : Nat) (v : VS) (l : List Nat) : (mapL page v l).high = if l = [] then v.high else max v.high (v.used + l.length) := by
  induction l generalizing v with
  | nil => rfl
  | cons b l ih =>
    show (mapL page (mapV page v b) l).high = _
    rw [ih]
    show (if l = [] then max v.high (v.used + 1) else max (max v.high (v.used + 1)) (v.used + 1 + l.length)) = _
    by_cases h : l = []
    · subst h; simp
    · rw [if_neg h, if_neg (by simp)]
      simp only [List.length_cons]
      omega
theorem newP_mem {v : VS} {p k q : Nat} : q ∈ newP v p k ↔ (p ≤ q ∧ q < p + k) ∧ v.mp q = false := by
  induction k with
  | zero => simp [newP]; omega
  | succ k ih =>
    unfold newP
    rw [List.mem_append, ih]
    by_cases h : v.mp (p + k) = true
    · rw [if_pos h]
      refine ⟨fun hq => ?_, fun ⟨a, hq⟩ => .inl ⟨?_, hq⟩⟩
      · rcases hq with ⟨a, hq⟩ | hq
        · exact ⟨by omega, hq⟩
        · cases hq
      · have : q ≠ p + k := by rintro rfl; rw [h] at hq; cases hq
        omega
    · rw [if_neg h]
      simp at h ⊢
      constructor
      · rintro (a | rfl)
        · exact ⟨by omega, a.2⟩
        · exact ⟨by omega, h⟩
      · rintro ⟨a, c⟩
        by_cases e : q = p + k
        · exact .inr e
        · exact .inl ⟨by omega, c⟩
theorem newP_nodup (v : VS) (p k : Nat) : (newP v p k).Nodup := by
  induction k with
  | zero => exact List.nodup_nil
  | succ k ih =>
    unfold newP
    by_cases h : v.mp (p + k) = true
    · rw [if_pos h, List.append_nil]; exact ih
    · rw [if_neg h, List.nodup_append]
      refine ⟨ih, by simp, fun a ha b hb => ?_⟩
      simp at hb
      have := (newP_mem.1 ha).1
      omega
theorem newP_le (v : VS) (p k : Nat) : (newP v p k).length ≤ k := by
  induction k with
  | zero => exact Nat.le_refl _
  | succ k ih =>
    unfold newP
    split <;> simp <;> omega
theorem newP_mono (v : VS) (p : Nat) {j k : Nat} (h : j ≤ k) : ∃ r, newP v p k = newP v p j ++ r := by
  induction k with
  | zero => obtain rfl : j = 0 := by omega
            exact ⟨[], by simp⟩
  | succ k ih =>
    by_cases e : j = k + 1
    · subst e; exact ⟨[], by simp⟩
    · obtain ⟨r, hr⟩ := ih (by omega)
      exact ⟨r ++ (if v.mp (p + k) = true then [] else [p + k]), by rw [newP, hr, List.append_assoc]⟩
theorem undo_step {page np : Nat} {u : VS} {p H : Nat} (h : u.mp p = false) : (unmapV (withH (mapV page u p) H) p).like page np (withH u H) := by
  refine ⟨fun q hq => ?_, fun a ha hm => ?_, ?_, rfl⟩
  · show (if q = p then false else if q = p then true else u.mp q) = u.mp q
    by_cases e : q = p
    · rw [if_pos e, e, h]
    · rw [if_neg e, if_neg e]
  · have hm' : (if a / page = p then false else if a / page = p then true else u.mp (a / page)) = true := hm
    show (if a / page = p then 0 else u.wd a) = u.wd a
    by_cases e : a / page = p
    · rw [if_pos e] at hm'; cases hm'
    · rw [if_neg e]
  · show u.used + 1 - 1 = u.used
    omega
/-- what Need answers and leaves: of n pages from p on -/
def needN (page room : Nat) (v : VS) (p n : Nat) : Int := if v.used + (newP v p n).length ≤ room then 0 else 14
def needNV (page room : Nat) (v : VS) (p n : Nat) : VS := if v.used + (newP v p n).length ≤ room then mapL page v (newP v p n) else withH v (mapL page v ((newP v p n).take (room - v.used))).high
def needE (words page room : Nat) (v : VS) (a b : Int) : Int := if a < 0 ∨ (words : Int) < b then 11 else if b ≤ a then 0 else needN page room v (a.toNat / page) ((b.toNat - 1) / page - a.toNat / page + 1)
def needV (words page room : Nat) (v : VS) (a b : Int) : VS := if a < 0 ∨ (words : Int) < b then v else if b ≤ a then v else needNV page room v (a.toNat / page) ((b.toNat - 1) / page - a.toNat / page + 1)
end Go.Proofs.Ytkcijlndblbidaa

/- The walk of Need's closure, which unmaps what was mapped. -/
namespace Go.Proofs.Ytkcijlndblbidaa
open Go.ChangeShapes Go.WideShapes Go.ChangeAt Go.RowKit
set_option linter.unusedVariables false

/-- a memory beside a box X1 of it and a variable X2 that holds a row of pages l; since W0 of what was there only S0 changed -/
structure NS (W0 : World) (S0 : Nat → Prop) (m X1 X2 words page room t : Nat) (v : VS) (l : List Nat) (a : Option Addr) (cap : Nat) (S : Nat → Prop) (w : World) : Prop where
  vm : Vm S m words page room t v w
  box : w.heap[X1]? = some (.cells #[.pointer (some ⟨m, 0, none⟩)] 26 (0, 0))
  var : w.heap[X2]? = some (.cells #[.slice a l.length cap] 71 (0, 0))
  row : OwnF W0.heap.size 3 (.slice a l.length cap) l.length (fun i => .int .i64 (l.getD i 0 : Nat)) w
  x1 : W0.heap.size ≤ X1
  x2 : W0.heap.size ≤ X2
  out1 : ¬ S X1
  out2 : ¬ S X2
  outr : ∀ ad, a = some ad → ¬ S ad.block
  chg : Chg S0 W0 w
  grew : Grew S0 S W0
section
variable {W0 : World} {S0 S : Nat → Prop} {m X1 X2 words page room t t' : Nat} {v v' : VS} {l : List Nat} {a : Option Addr} {cap : Nat} {w w' : World}
theorem NS.did (h : NS W0 S0 m X1 X2 words page room t v l a cap S w) (hd : VDid S m words page room t' v' w w') : ∃ S', NS W0 S0 m X1 X2 words page room t' v' l a cap S' w' := by
  obtain ⟨S', k1, k2, k3⟩ := hd
  have old : ∀ k, k < w.heap.size → ¬ S k → ¬ S' k := fun k hk hn hs => by
    rcases k3 k hs with a | a
    · exact hn a
    · omega
  have rowlt : ∀ ad, a = some ad → ad.block < w.heap.size := fun ad e => (h.row.lt ad.block (by rw [e]; rfl)).2
  refine ⟨S', k1, k2.keep h.box h.out1, k2.keep h.var h.out2, h.row.from fun g hg => ?_, h.x1, h.x2, old _ (block_lt h.box) h.out1, old _ (block_lt h.var) h.out2, fun ad e => old _ (rowlt ad e) (h.outr ad e), h.chg.then k2 h.grew, h.grew.trans k3 h.chg.size⟩
  obtain ⟨ad, e1, rfl⟩ := own_of_some' hg
  exact k2.2.2.2.2 ad.block (rowlt ad e1) (h.outr ad e1)
theorem NS.like (h : NS W0 S0 m X1 X2 words page room t v l a cap S w) (hl : v.like page (words / page) v') : NS W0 S0 m X1 X2 words page room t v' l a cap S w :=
  ⟨h.vm.like hl, h.box, h.var, h.row, h.x1, h.x2, h.out1, h.out2, h.outr, h.chg, h.grew⟩
theorem NS.grow (h : NS W0 S0 m X1 X2 words page room t v l a cap S w) (c : Below w.heap.size w w') : ∃ S', NS W0 S0 m X1 X2 words page room t v l a cap S' w' := h.did (VDid.of h.vm c)
theorem NS.grow' (h : NS W0 S0 m X1 X2 words page room t v l a cap S w) (c : Below w.heap.size w w') : NS W0 S0 m X1 X2 words page room t v l a cap S w' :=
  ⟨h.vm.grow c, blockB c (Nat.le_refl _) h.box, blockB c (Nat.le_refl _) h.var, h.row.from fun g hg => c.block g (h.row.lt g hg).2, h.x1, h.x2, h.out1, h.out2, h.outr, h.chg.newBelow c, h.grew⟩
theorem NS.cells (h : NS W0 S0 m X1 X2 words page room t v l a cap S w) : w.cell? ⟨X1, 0, none⟩ = some (.pointer (some ⟨m, 0, none⟩)) ∧ w.cell? ⟨X2, 0, none⟩ = some (.slice a l.length cap) := ⟨at_cell h.box 0 _ rfl, at_cell h.var 0 _ rfl⟩
theorem NS.item (h : NS W0 S0 m X1 X2 words page room t v l a cap S w) {j : Nat} (hj : j < l.length) : ∃ g, a = some ⟨g, 0, none⟩ ∧ w.cell? ⟨g, j, none⟩ = some (.int .i64 (l.getD j 0 : Nat)) := by
  obtain ⟨-, -, -, hf, -⟩ := h.row.form
  obtain ⟨g, rfl, -, -⟩ := hf (by omega)
  exact ⟨g, rfl, h.row.cell hj⟩
end
theorem take_get {l : List Nat} {j : Nat} (hj : j < l.length) : l.take (j + 1) = l.take j ++ [l.getD j 0] := by
  rw [List.take_succ_eq_append_getElem hj, List.getD_eq_getElem?_getD, List.getElem?_eq_getElem hj]
  rfl
set_option maxRecDepth 100000 in
set_option maxHeartbeats 1000000 in
theorem undo_any {W0 : World} {S0 S : Nat → Prop} {m X1 X2 words page room t H : Nat} {v : VS} {l : List Nat} {a : Option Addr} {cap : Nat} {w : World} (h : NS W0 S0 m X1 X2 words page room t (withH (mapL page v l) H) l a cap S w)
    (hl : ∀ q, q ∈ l → q < words / page ∧ v.mp q = false) (hn : l.Nodup) (hlen : l.length ≤ 1000000) :
    Calls Try.prog 100 #[.pointer (some ⟨X2, 0, none⟩), .pointer (some ⟨X1, 0, none⟩)] w fun e w' => e = .returned (.tuple #[]) ∧ ∃ S', NS W0 S0 m X1 X2 words page room t (withH v H) l a cap S' w' := by
  obtain ⟨c1, c2⟩ := h.cells
  have Hl := Lib.hid hl
  have Hn := Lib.hid hn
  have HN := Lib.hid h
  clear h hl hn
  go_enter Try.func100, Try.ntmps100
  go_wp2
  clear c1 c2
  go_loopw [2] (fun i wr => ∃ (z : Int) (k : Nat), i = .int .i64 z ∧ z + 1 = k ∧ k ≤ l.length ∧ ∃ S', NS W0 S0 m X1 X2 words page room t (withH (mapL page v (l.take k)) H) l a cap S' wr) (fun i _ => (intOf i + 1).toNat)
  case atStart => exact ⟨_, l.length, rfl, by omega, by omega, S, by rw [List.take_length]; exact HN.out⟩
  case round =>
    clear HN
    obtain ⟨z, k, rfl, hz, hk, S1, hN⟩ := hrel
    by_cases hz0 : 0 ≤ z
    · obtain ⟨j, rfl⟩ : ∃ j : Nat, z = j := ⟨z.toNat, by omega⟩
      obtain rfl : j + 1 = k := by omega
      clear hz hz0
      have hj : j < l.length := by omega
      have htk := take_get hj
      obtain ⟨g, rfl, cj⟩ := hN.item hj
      obtain ⟨c1, c2⟩ := hN.cells
      have hmem : l.getD j 0 ∈ l := by
        rw [List.getD_eq_getElem?_getD, List.getElem?_eq_getElem hj]
        exact List.getElem_mem hj
      obtain ⟨hq, hm⟩ := Hl.out _ hmem
      have hno : l.getD j 0 ∉ l.take j := fun hx => by
        have hnd := Hn.out
        have : (l.take (j + 1)).Nodup := hnd.sublist (List.take_sublist _ _)
        rw [htk, List.nodup_append] at this
        exact this.2.2 _ hx _ (List.mem_singleton.2 rfl) rfl
      rw [htk, mapL_snoc] at hN
      have hu : (mapL page v (l.take j)).mp (l.getD j 0) = false := by rw [mapL_mp, hm]; simpa using hno
      obtain ⟨p, hp⟩ : ∃ p, l.getD j 0 = p := ⟨_, rfl⟩
      rw [hp] at hq hm hno hu hmem htk hN cj
      have Hp := Lib.hid hp
      have hun := fun W S2 (hW : NS W0 S0 m X1 X2 words page room t (withH (mapV page (mapL page v (l.take j)) p) H) l (some ⟨g, 0, none⟩) cap S2 W) => unmap_vm S2 m words page room t _ W hW.vm (p : Int)
      have hmp : (withH (mapV page (mapL page v (l.take j)) p) H).mp p = true := by
        show (if p = p then true else _) = true
        rw [if_pos rfl]
      unfold unmapS unmapE at hun
      simp only [if_neg (show ¬¬(0 ≤ (p : Int) ∧ (p : Int) < ((words / page : Nat) : Int)) from Classical.not_not.2 ⟨Int.natCast_nonneg _, Int.ofNat_lt.2 hq⟩), Int.toNat_natCast, hmp, if_true] at hun
      have Hlk := Lib.hid (undo_step (page := page) (np := words / page) (H := H) hu)
      have Hun := Lib.hid hun
      have HN := Lib.hid hN
      have Hj := Lib.hid hj
      have j1 : (0 : Int) ≤ j := by omega
      have j2 : (j : Int) < l.length := by omega
      have j3 : ((j : Int) : Int).toNat = j := by omega
      have j4 : (j : Int) ≤ 1000000 := by omega
      clear hun hN hq hm hno hu hmem htk hmp hp
      go_wp2
      go_region_held3 (fun w' => w'.cell? ⟨X1, 0, none⟩ = some (.pointer (some ⟨m, 0, none⟩)) ∧ w'.cell? ⟨X2, 0, none⟩ = some (.slice (some ⟨g, 0, none⟩) l.length cap) ∧ w'.cell? ⟨g, j, none⟩ = some (.int .i64 p)) (first | exact ⟨c1, c2, cj⟩ | exact ⟨d1, d2, dj⟩ | go_keep) ((go_at_call 21; refine (Hun.out _ _ (HN.out.grow' (below_drew wr))).mono ?_; rintro e w1 ⟨rfl, hd⟩; obtain ⟨S2, hN2⟩ := (HN.out.grow' (below_drew wr)).did hd; obtain ⟨d1, d2⟩ := hN2.cells; have dj := hN2.row.cell Hj.out; simp only [Hp.out] at dj; have HN2 := Lib.hid (hN2.like Hlk.out); clear hd hN2))
      all_goals
        go_wp2
        go_roundw
        case rel => exact ⟨(j : Int) - 1, j, by go_num, by omega, by omega, _, HN2.out⟩
        case measure => simp [intOf]
    · obtain rfl : k = 0 := by omega
      clear hz
      have HN := Lib.hid hN
      clear hN
      go_wp2
      go_end0
      exact ⟨rfl, S1, HN.out⟩
end Go.Proofs.Ytkcijlndblbidaa

/- The walk of Need. -/
namespace Go.Proofs.Ytkcijlndblbidaa
open Go.ChangeShapes Go.WideShapes Go.ChangeAt Go.RowKit
set_option linter.unusedVariables false

theorem box_ne_int : (26 : Nat) ≠ 3 := by decide
theorem row_ne_int : (71 : Nat) ≠ 3 := by decide
section
variable {W0 : World} {S0 S : Nat → Prop} {m X1 X2 words page room t : Nat} {v : VS} {l : List Nat} {a : Option Addr} {cap : Nat} {w : World}
theorem pushed_row (l : List Nat) (p : Nat) : ftab l.length (fun i => Value.int .i64 (l.getD i 0 : Nat)) ++ [Value.int .i64 p] = ftab (l ++ [p]).length (fun i => Value.int .i64 ((l ++ [p]).getD i 0 : Nat)) := by
  have e : [Value.int .i64 p] = ftab 1 fun _ => Value.int .i64 p := rfl
  rw [e, ftab_append, List.length_append]
  refine ftab_congr fun i hi => ?_
  have hi' : i < l.length + 1 := hi
  by_cases h : i < l.length
  · rw [if_pos h, List.getD_eq_getElem?_getD, List.getD_eq_getElem?_getD, List.getElem?_append_left h]
  · rw [if_neg h]
    obtain rfl : i = l.length := by omega
    simp
theorem NS.var5 (h : NS W0 S0 m X1 X2 words page room t v l a cap S w) {x : Value} {w5 : World} (hgrow : (w.alloc (.cells #[x] 3)).grownBy w5 (Value.slice a l.length cap).ownBlock) :
    w5.heap[X2]? = some (.cells #[.slice a l.length cap] 71 (0, 0)) := by
  refine ((hgrow.block X2 (by have := block_lt h.var; simp; omega) fun e => ?_).trans (Below.heap_alloc w _ X2 (block_lt h.var))).trans h.var
  obtain ⟨cur, hc⟩ := h.row.block X2 e.symm
  rw [h.var] at hc
  simp at hc
theorem NS.push (h : NS W0 S0 m X1 X2 words page room t v l a cap S w) (p : Nat) {x : Int} (hx : (p : Int) = x) {g5 cap5 : Nat} {w5 : World}
    (hown : w5.ownsRow W0.heap.size 3 1 (.slice (some ⟨g5, 0, none⟩) (l.length + 1) cap5) (l.length + 1) (ftab l.length (fun i => .int .i64 (l.getD i 0 : Nat)) ++ [.int .i64 x]))
    (hgrow : (w.alloc (.cells #[.int .i64 x] 3)).grownBy w5 (Value.slice a l.length cap).ownBlock) (hat : (Value.slice a l.length cap).ownBlock = some g5 ∨ g5 = w.heap.size + 1) :
    NS W0 S0 m X1 X2 words page room t v (l ++ [p]) (some ⟨g5, 0, none⟩) cap5 S (w5.setCell ⟨X2, 0, none⟩ (.slice (some ⟨g5, 0, none⟩) (l.length + 1) cap5)) := by
  subst hx
  have hsz : w.heap.size + 1 ≤ w5.heap.size := by have := hgrow.size; simpa using this
  have old : ∀ q, q < w.heap.size → some q ≠ (Value.slice a l.length cap).ownBlock → w5.heap[q]? = w.heap[q]? := fun q hq hn =>
    (hgrow.block q (by simp; omega) hn).trans (Below.heap_alloc w _ q hq)
  have rowb : ∀ {q : Nat} {c : Array Value} {t : TypeId}, w.heap[q]? = some (.cells c t (0, 0)) → t ≠ 3 → some q ≠ (Value.slice a l.length cap).ownBlock := fun {q c t} hq hne e => by
    obtain ⟨cur, hc⟩ := h.row.block q e.symm
    rw [hq] at hc
    simp at hc
    exact hne hc.2
  have hb5 : w5.heap[X1]? = some (.cells #[.pointer (some ⟨m, 0, none⟩)] 26 (0, 0)) := (old X1 (block_lt h.box) (rowb h.box box_ne_int)).trans h.box
  have hv5 : w5.heap[X2]? = some (.cells #[.slice a l.length cap] 71 (0, 0)) := (old X2 (block_lt h.var) (rowb h.var row_ne_int)).trans h.var
  have hne : X1 ≠ X2 := by
    intro e
    have h1 := h.box
    rw [e, h.var] at h1
    simp at h1
  obtain ⟨cur5, hc5⟩ : ∃ cur, w5.heap[g5]? = some (.cells cur 3 (0, 0)) := by
    rcases hown.2 with ⟨e, _⟩ | ⟨g, c, cur, e, h1, h2, _⟩
    · cases e
    · simp at e
      obtain ⟨rfl, _⟩ := e
      exact ⟨cur, h2⟩
  have hg5 : g5 ≠ X2 := by
    rintro rfl
    rw [hv5] at hc5
    simp at hc5
  have c4 : Chg (fun q => some q = (Value.slice a l.length cap).ownBlock ∨ q = X2) w w5 := ⟨hgrow.os, hgrow.tape, hgrow.output, by omega, fun q hq hn => old q hq (fun e => hn (.inl e))⟩
  have c5 : Chg (fun q => some q = (Value.slice a l.length cap).ownBlock ∨ q = X2) w (w5.setCell ⟨X2, 0, none⟩ (.slice (some ⟨g5, 0, none⟩) (l.length + 1) cap5)) := c4.set (p := ⟨X2, 0, none⟩) (.inl (.inr rfl)) _
  refine ⟨h.vm.keep c5 (fun k hs hk => ?_), ?_, ?_, ?_, h.x1, h.x2, h.out1, h.out2, fun ad e => ?_, ?_, h.grew⟩
  · rcases hk with hk | rfl
    · obtain ⟨ad, e1, rfl⟩ := own_of_some' hk.symm
      exact h.outr ad e1 hs
    · exact h.out2 hs
  · rw [far (show X1 ≠ X2 from hne)]
    exact hb5
  · rw [heap_setCell_same w5 X2 0 _ _ _ hv5, List.length_append]
    try rfl
  · unfold OwnF
    rw [← pushed_row, List.length_append]
    exact own_from hown fun q hq => far (by simp [Value.ownBlock] at hq; show q ≠ X2; omega)
  · simp at e
    subst e
    show ¬ S g5
    rcases hat with e2 | e2
    · obtain ⟨ad, e1, e3⟩ := own_of_some' e2
      rw [← e3]
      exact h.outr ad e1
    · intro hs
      have := h.vm.in g5 hs
      omega
  · refine h.chg.trans (T := fun q => some q = (Value.slice a l.length cap).ownBlock ∨ q = X2) c5 (fun q hq hk => ?_)
    have hx2 := h.x2
    rcases hk with hk | rfl
    · have := (h.row.lt q hk.symm).1
      omega
    · omega
end
theorem int_info' : (Try.prog.info? 3).map (fun i => (i.zero, i.size, i.bytes)) = some (some (.int .i64 0), 1, 8) := by kernel_rfl
theorem needNV_full {page room : Nat} {v : VS} {p n k : Nat} (hk : k < n) (hm : ¬ v.mp (p + k) = true) (hr : (mapL page v (newP v p k)).used = room) :
    needN page room v p n = 14 ∧ needNV page room v p n = withH v (mapL page v (newP v p k)).high := by
  rw [mapL_used] at hr
  obtain ⟨r, h1⟩ := newP_mono v p (show k + 1 ≤ n by omega)
  have h2 : newP v p (k + 1) = newP v p k ++ [p + k] := by rw [newP, if_neg hm]
  have h3 : ¬ v.used + (newP v p n).length ≤ room := by
    rw [h1, h2]
    simp only [List.length_append, List.length_singleton]
    omega
  unfold needN needNV
  rw [if_neg h3, if_neg h3]
  refine ⟨rfl, ?_⟩
  congr 2
  rw [h1, h2, List.append_assoc]
  congr 1
  exact List.take_left' (by omega)
set_option maxRecDepth 100000 in
theorem need_simple (S : Nat → Prop) (m words page room t : Nat) (v : VS) (w : World) (h : Vm S m words page room t v w) (a b : Int) (hab : (a < 0 ∨ (words : Int) < b) ∨ b ≤ a) :
    Calls Try.prog 18 #[.pointer (some ⟨m, 0, none⟩), .int .i64 a, .int .i64 b] w fun e w' => e = .returned (.int .i64 (needE words page room v a b)) ∧ needV words page room v a b = v ∧ Below w.heap.size w w' := by
  obtain ⟨mb, pb, s, F, hR, -⟩ := h
  obtain ⟨c0, c1, c2⟩ := (hR.grow (below_new w (.cells #[.pointer (some ⟨m, 0, none⟩)] 26))).cells
  have Hnone := Lib.hid (none_cells m mb _ c0)
  have Hb := Lib.hid (below_new w (.cells #[.pointer (some ⟨m, 0, none⟩)] 26))
  clear hR
  unfold needE needV
  by_cases h1 : a < 0
  · rw [if_pos (.inl h1), if_pos (.inl h1)]
    clear hab
    go_enter Try.func18, Try.ntmps18
    go_wp2_with (go_at_call 99; refine Hnone.out.mono ?_; rintro e w1 ⟨rfl, rfl⟩)
    go_ret
    exact ⟨rfl, trivial, Hb.out⟩
  · by_cases h2 : (words : Int) < b
    · rw [if_pos (.inr h2), if_pos (.inr h2)]
      clear hab
      go_enter Try.func18, Try.ntmps18
      go_wp2_with (go_at_call 99; refine Hnone.out.mono ?_; rintro e w1 ⟨rfl, rfl⟩)
      go_ret
      exact ⟨rfl, trivial, Hb.out⟩
    · have h3 : b ≤ a := by omega
      have h4 : ¬ (a < 0 ∨ (words : Int) < b) := by omega
      rw [if_neg h4, if_neg h4, if_pos h3, if_pos h3]
      clear h4
      clear hab
      go_enter Try.func18, Try.ntmps18
      go_wp2_with (go_at_call 99; refine Hnone.out.mono ?_; rintro e w1 ⟨rfl, rfl⟩)
      go_ret
      exact ⟨rfl, trivial, Hb.out⟩
set_option maxRecDepth 100000 in
set_option maxHeartbeats 2000000 in
theorem need_run (S0 : Nat → Prop) (m words page room t : Nat) (v : VS) (w : World) (h : Vm S0 m words page room t v w) (ht : t ≤ 999000000) (a b : Int) (h1 : 0 ≤ a) (h2 : b ≤ words) (h3 : a < b) (p0 p1 : Nat) (hp0 : a / (page : Int) = p0) (hp1 : (b - 1) / (page : Int) = p1) (h01 : p0 ≤ p1) (hnp : p1 < words / page) :
    Calls Try.prog 18 #[.pointer (some ⟨m, 0, none⟩), .int .i64 a, .int .i64 b] w fun e w' => e = .returned (.int .i64 (needN page room v p0 (p1 - p0 + 1))) ∧ VDid S0 m words page room (t + (p1 - p0 + 1)) (needNV page room v p0 (p1 - p0 + 1)) w w' := by
  obtain ⟨hwd, hmod, hpg, hrm, husd, hhi⟩ := h.dims
  have HV := Lib.hid h
  obtain ⟨mb, pb, s, F, hR, -⟩ := h
  have hb1 := below_new w (.cells #[.pointer (some ⟨m, 0, none⟩)] 26)
  have hb2 := seq hb1 (below_new _ (.cells #[.slice none 0 0] 71))
  obtain ⟨c0, c1, c2⟩ := (hR.grow hb1).cells
  obtain ⟨d0, d1, d2⟩ := (hR.grow hb2).cells
  have Hnone := Lib.hid (none_cells m mb _ c0)
  have Hpage := Lib.hid (page_raw (hR.grow hb2))
  have HN0 := Lib.hid (show NS w S0 m w.heap.size (w.heap.size + 1) words page room t v [] none 0 S0 ((w.alloc (.cells #[.pointer (some ⟨m, 0, none⟩)] 26)).alloc (.cells #[.slice none 0 0] 71)) from
    ⟨HV.out.grow hb2, blockB (below_new _ _) (Nat.le_refl _) (heap_alloc_new w _), by
      have := heap_alloc_new (w.alloc (.cells #[.pointer (some ⟨m, 0, none⟩)] 26)) (.cells #[.slice none 0 0] 71)
      simpa using this, OwnF.nil _ _ _ _, by omega, by omega, fun hs => by have := HV.out.in _ hs; omega, fun hs => by have := HV.out.in _ hs; omega, (fun ad e => by cases e), Chg.of hb2, Grew.refl _ _⟩)
  obtain ⟨pi, hpi⟩ : ∃ pi : Int, (page : Int) = pi := ⟨_, rfl⟩
  rw [hpi] at Hpage hp0 hp1
  have hpi1 : 1 ≤ pi := by omega
  have hpi2 : pi ≤ 256 := by omega
  have h4 : ¬ a < 0 := by omega
  have h5 : ¬ (words : Int) < b := by omega
  have h6 : ¬ b ≤ a := by omega
  have q1 : decide (a < 0) = false := decide_eq_false h4
  have q2 : decide ((words : Int) < b) = false := decide_eq_false h5
  have q3 : decide (b ≤ a) = false := decide_eq_false h6
  have h7 : b ≤ 524288 := by omega
  have h8 : 0 ≤ b - 1 := by omega
  have h9 : p1 < 524288 := by have := Nat.div_le_self words page; omega
  obtain ⟨i1, hj, hy0, hy1, hy2⟩ := info_parts int_info'
  have HR0 := Lib.hid hR
  clear hR hpi hb1 hb2
  go_enter Try.func18, Try.ntmps18
  go_wp2_with (first | (go_at_call 99; refine Hnone.out.mono ?_; rintro e w1 ⟨rfl, rfl⟩) | (go_at_call 101; refine Hpage.out.mono ?_; rintro e w1 ⟨rfl, rfl⟩))
  clear c0 c1 c2 d0 d1 d2
  generalize w.heap.size = X1 at *
  have Hp0 := Lib.hid hp0
  clear hp0
  go_loopw [10] (fun i wr => ∃ (k : Nat) (l : List Nat) (a : Option Addr) (cap : Nat) (S : Nat → Prop), i = .int .i64 ((p0 + k : Nat) : Int) ∧ k ≤ p1 - p0 + 1 ∧ l = newP v p0 k ∧ NS w S0 m X1 (X1 + 1) words page room (t + k) (mapL page v l) l a cap S wr ∧ v.used + l.length ≤ room) (fun i _ => p1 + 1 - (intOf i).toNat)
  case atStart => exact ⟨0, [], none, 0, S0, by rw [Hp0.out]; rfl, by omega, rfl, HN0.out, by simpa using husd⟩
  case round =>
    clear HN0
    obtain ⟨k, l, ar, cap, S, rfl, hk, hl, hN, hfit⟩ := hrel
    have hlk : l.length ≤ k := by rw [hl]; exact newP_le v p0 k
    have Hl := Lib.hid hl
    clear hl
    by_cases hlt : k < p1 - p0 + 1
    · have hle : ((p0 + k : Nat) : Int) ≤ p1 := by omega
      have hmap := map_vm S m words page room (t + k) (mapL page v l) wr hN.vm (by omega) ((p0 + k : Nat) : Int)
      have hno : p0 + k ∉ l := fun hx => by
        rw [Hl.out] at hx
        have := (newP_mem.1 hx).1
        omega
      have hmp : (mapL page v l).mp (p0 + k) = v.mp (p0 + k) := by rw [mapL_mp, decide_eq_false hno, Bool.or_false]
      unfold mapS mapE at hmap
      rw [if_neg (Classical.not_not.2 ⟨Int.natCast_nonneg _, by omega⟩), Int.toNat_natCast, hmp] at hmap
      obtain ⟨c1, c2⟩ := hN.cells
      have HN := Lib.hid hN
      have Hno := Lib.hid hno
      have Hmp := Lib.hid hmp
      clear hN hno hmp
      by_cases hm : v.mp (p0 + k) = true
      · rw [if_pos hm, if_neg (by decide)] at hmap
        have Hmap := Lib.hid hmap
        have hsame : newP v p0 (k + 1) = newP v p0 k := by rw [newP, if_pos hm, List.append_nil]
        have Hsame := Lib.hid hsame
        clear hmap hm hsame
        go_wp2_with (go_at_call 20; refine Hmap.out.mono ?_; rintro e w1 ⟨rfl, hd⟩; obtain ⟨S2, hN2⟩ := HN.out.did hd; have HN2 := Lib.hid hN2; obtain ⟨e1, e2⟩ := hN2.cells; clear hd hN2)
        go_roundw
        case rel => exact ⟨k + 1, l, ar, cap, S2, by go_num, by omega, by rw [Hsame.out]; exact Hl.out, HN2.out, hfit⟩
        case measure => simp [intOf]; omega
      · rw [if_neg hm] at hmap
        by_cases hr : (mapL page v l).used = room
        · rw [if_pos hr, if_neg (by decide)] at hmap
          have hfull := needNV_full (page := page) (room := room) (v := v) (p := p0) hlt hm (by rw [← Hl.out]; exact hr)
          rw [← Hl.out] at hfull
          have Hfull := Lib.hid hfull
          have Hmap := Lib.hid hmap
          have hmem : ∀ q, q ∈ l → q < words / page ∧ v.mp q = false := fun q hq => by
            rw [Hl.out] at hq
            have := newP_mem.1 hq
            exact ⟨by omega, this.2⟩
          have hnd : l.Nodup := by rw [Hl.out]; exact newP_nodup v p0 k
          have Hmem := Lib.hid hmem
          have Hnd := Lib.hid hnd
          have Hlen := Lib.hid (show l.length ≤ 1000000 by omega)
          clear hmap hr hm hfull hmem hnd
          go_wp2_with (first | (go_at_call 20; refine Hmap.out.mono ?_; rintro e w1 ⟨rfl, hd⟩; obtain ⟨S2, hN2⟩ := HN.out.did hd; have HN2 := Lib.hid hN2; obtain ⟨e1, e2⟩ := hN2.cells; clear hd hN2) | (go_at_call 100; refine (undo_any (H := (mapL page v l).high) HN2.out Hmem.out Hnd.out Hlen.out).mono ?_; rintro e w2 ⟨rfl, S3, hN3⟩; have HN3 := Lib.hid hN3; clear hN3))
          go_ret
          rw [Hfull.out.1, Hfull.out.2]
          exact ⟨rfl, S3, HN3.out.vm.more (by omega), HN3.out.chg, HN3.out.grew⟩
        · rw [if_neg hr, if_pos rfl] at hmap
          have hfit2 : v.used + (l.length + 1) ≤ room := by rw [mapL_used] at hr; omega
          have hnext : newP v p0 (k + 1) = newP v p0 k ++ [p0 + k] := by rw [newP, if_neg hm]
          have Hnext := Lib.hid hnext
          have Hmap := Lib.hid hmap
          have Hsnoc := Lib.hid (mapL_snoc page v l (p0 + k))
          clear hmap hr hm hnext
          go_wp2_with (first | (go_at_call 20; refine Hmap.out.mono ?_; rintro e w1 ⟨rfl, hd⟩; obtain ⟨S2, hN2⟩ := HN.out.did hd; have HN2 := Lib.hid hN2; obtain ⟨e1, e2⟩ := hN2.cells; have hws := hN2.chg.size; clear hd hN2) | (at_builtin; refine wpList_append_lies _ rfl (.tmp 51) (.tmp 53) 71 rfl w.heap.size 3 i1 (.int .i64 0) 1 8 Try.underlying71 hj hy0 hy1 hy2 rfl (by decide) _ _ _ rfl (World.ownsRow.alloc HN2.out.row _) ⟨w1.heap.size, 0, none⟩ 1 1 [.int .i64 ((p0 : Int) + k)] rfl rfl ?k1 ?k2 ?k3 ?k4 ?k5 ?k6 (w1.heap.size + 1) ?k7 ?_))
          case k1 => exact World.news_of_block (heap_alloc_new w1 (.cells #[.int .i64 ((p0 : Int) + k)] 3))
          case k2 => intro u hu; simp at hu; subst hu; rfl
          case k3 => omega
          case k4 => unfold maxLen; omega
          case k5 => omega
          case k6 => simp; omega
          case k7 => simp
          intro g5 cap5 w5 hown5 hgrow5 hat5 hlt5
          have hv5 := HN2.out.var5 hgrow5
          have f1 := at_cell hv5 0 _ rfl
          have f2 := at_free hv5 0
          have HN5 := Lib.hid (HN2.out.push (p0 + k) (by omega) hown5 hgrow5 hat5)
          clear hown5 hgrow5 hat5 hv5 e1 e2
          go_wp2
          go_roundw
          case rel => exact ⟨k + 1, l ++ [p0 + k], some ⟨g5, 0, none⟩, cap5, S2, by go_num, by omega, by rw [Hnext.out, ← Hl.out], by rw [Hsnoc.out]; exact HN5.out, by simpa using hfit2⟩
          case measure => simp [intOf]; omega
    · obtain rfl : k = p1 - p0 + 1 := by omega
      have hgt : ¬ ((p0 + (p1 - p0 + 1) : Nat) : Int) ≤ p1 := by omega
      have hN' : VDid S0 m words page room (t + (p1 - p0 + 1)) (mapL page v l) w wr := ⟨S, hN.vm, hN.chg, hN.grew⟩
      have hres : needN page room v p0 (p1 - p0 + 1) = 0 ∧ needNV page room v p0 (p1 - p0 + 1) = mapL page v l := by
        unfold needN needNV
        rw [← Hl.out, if_pos hfit, if_pos hfit]
        exact ⟨rfl, rfl⟩
      have Hres := Lib.hid hres
      have HN2 := Lib.hid hN'
      clear hN hN' hres
      go_wp2
      go_ret
      rw [Hres.out.1, Hres.out.2]
      exact ⟨rfl, HN2.out⟩
/-- Need of any run -/
theorem need_vm (S0 : Nat → Prop) (m words page room t : Nat) (v : VS) (w : World) (h : Vm S0 m words page room t v w) (ht : t ≤ 999000000) (a b : Int) :
    Calls Try.prog 18 #[.pointer (some ⟨m, 0, none⟩), .int .i64 a, .int .i64 b] w fun e w' => e = .returned (.int .i64 (needE words page room v a b)) ∧ VDid S0 m words page room (t + words / page) (needV words page room v a b) w w' := by
  by_cases h0 : (a < 0 ∨ (words : Int) < b) ∨ b ≤ a
  · exact (need_simple S0 m words page room t v w h a b h0).mono fun e w' ⟨he, hv, hb⟩ => ⟨he, by rw [hv]; exact (VDid.of h hb).more (Nat.le_add_right _ _)⟩
  · have h1 : ¬ (a < 0 ∨ (words : Int) < b) := fun k => h0 (.inl k)
    have h2 : ¬ b ≤ a := fun k => h0 (.inr k)
    obtain ⟨hwd, hmod, hpg, -⟩ := h.dims
    obtain ⟨x, rfl⟩ : ∃ x : Nat, a = x := ⟨a.toNat, by omega⟩
    obtain ⟨y, rfl⟩ : ∃ y : Nat, b = y := ⟨b.toNat, by omega⟩
    have e1 : (x : Int) / (page : Int) = ((x / page : Nat) : Int) := rfl
    have e2 : ((y : Int) - 1) / (page : Int) = (((y - 1) / page : Nat) : Int) := by
      rw [show (y : Int) - 1 = ((y - 1 : Nat) : Int) by omega]
      rfl
    have hle : x / page ≤ (y - 1) / page := Nat.div_le_div_right (by omega)
    have hlt : (y - 1) / page < words / page := Nat.div_lt_of_lt_mul (by rw [Nat.mul_div_cancel' (Nat.dvd_of_mod_eq_zero hmod)]; omega)
    unfold needE needV
    rw [if_neg h1, if_neg h1, if_neg h2, if_neg h2, Int.toNat_natCast, Int.toNat_natCast]
    exact (need_run S0 m words page room t v w h ht x y (by omega) (by omega) (by omega) _ _ e1 e2 hle hlt).mono fun e w' ⟨he, hd⟩ => ⟨he, hd.more (by generalize (y - 1) / page = u at *; generalize x / page = z at *; generalize words / page = nn at *; omega)⟩
end Go.Proofs.Ytkcijlndblbidaa

/- The walks of masks.Up and of a memory's Free. -/
namespace Go.Proofs.Ytkcijlndblbidaa
open Go.ChangeShapes Go.WideShapes Go.ChangeAt Go.RowKit
set_option linter.unusedVariables false

theorem low_cleared (k x : Nat) (hk : k ≤ 64) (hx : x < 2 ^ 64) : x &&& (2 ^ 64 - 1 - (2 ^ k - 1)) = x / 2 ^ k * 2 ^ k := by
  have h1 : 1 ≤ 2 ^ k := Nat.one_le_two_pow
  have h2 : 2 ^ k ≤ 2 ^ 64 := Nat.pow_le_pow_right (by omega) hk
  have e1 : 2 ^ 64 - 1 - (2 ^ k - 1) = 2 ^ 64 - ((2 ^ k - 1) + 1) := by omega
  rw [e1, ← Nat.shiftRight_eq_div_pow, ← Nat.shiftLeft_eq]
  apply Nat.eq_of_testBit_eq
  intro i
  rw [Nat.testBit_and, Nat.testBit_two_pow_sub_succ (by omega), Nat.testBit_two_pow_sub_one, Nat.testBit_shiftLeft, Nat.testBit_shiftRight]
  by_cases hi : i < 64
  · by_cases hk2 : k ≤ i
    · have : k + (i - k) = i := by omega
      simp [hi, hk2, this, Nat.not_lt.2 hk2]
    · have : i < k := by omega
      simp [hi, hk2, this]
  · have h3 : x.testBit i = false := Nat.testBit_lt_two_pow (Nat.lt_of_lt_of_le hx (Nat.pow_le_pow_right (by omega) (by omega)))
    by_cases hk2 : k ≤ i
    · have : k + (i - k) = i := by omega
      simp [hi, h3, this]
    · simp [hi, h3, hk2]
theorem page_pow {page : Nat} (h : Fr.isPage page) : ∃ k, k ≤ 8 ∧ page = 2 ^ k := by
  unfold Fr.isPage at h
  rcases h with h | h | h | h | h | h | h | h | h
  · exact ⟨0, by omega, by omega⟩
  · exact ⟨1, by omega, by omega⟩
  · exact ⟨2, by omega, by omega⟩
  · exact ⟨3, by omega, by omega⟩
  · exact ⟨4, by omega, by omega⟩
  · exact ⟨5, by omega, by omega⟩
  · exact ⟨6, by omega, by omega⟩
  · exact ⟨7, by omega, by omega⟩
  · exact ⟨8, by omega, by omega⟩
theorem up_bits {page n : Nat} (h : Fr.isPage page) (hn : n ≤ 1000000) : bits .andNot .i64 ((n : Int) + page - 1) ((page : Int) - 1) = (((n + page - 1) / page * page : Nat) : Int) := by
  have hp := Fr.isPage_le h
  obtain ⟨k, hk, hpk⟩ := page_pow h
  have e1 : (n : Int) + page - 1 = ((n + page - 1 : Nat) : Int) := by omega
  have e2 : (page : Int) - 1 = ((page - 1 : Nat) : Int) := by omega
  rw [e1, e2]
  have key := low_cleared k (n + page - 1) (by omega) (by omega)
  rw [← hpk] at key
  show IntKind.i64.wrap ((BitVec.ofInt 64 ((n + page - 1 : Nat) : Int) &&& ~~~BitVec.ofInt 64 ((page - 1 : Nat) : Int)).toNat : Int) = _
  rw [BitVec.toNat_and, BitVec.toNat_not, ofInt_u64 _ (by omega), ofInt_u64 _ (by omega), key]
  have hle := Nat.div_mul_le_self (n + page - 1) page
  exact IntWalk.i64_in _ (by omega)
set_option maxRecDepth 100000 in
theorem fits_any (n : Nat) (page : Nat) (h : Fr.isPage page) (hn : n ≤ 1000000) (w : World) :
    Calls Try.prog 151 #[.int .i64 n, .int .i64 page] w fun e w' => e = .returned (.bool true) ∧ w = w' := by
  have hp := Fr.isPage_le h
  have Hpw := Fr.power_any page w (by omega)
  rw [Fr.powB_page _ (by omega), (Fr.pageB_iff _).2 h] at Hpw
  replace Hpw := Lib.hid Hpw
  have h1 : (page : Int) ≤ 256 := by omega
  have h3 : (0 : Int) ≤ n := by omega
  have h4 : (n : Int) ≤ 1000000 := by omega
  have q1 : decide ((page : Int) ≤ 1073741824) = true := decide_eq_true (by omega)
  have q2 : decide ((n : Int) ≤ 1152921504606846976) = true := decide_eq_true (by omega)
  have q3 : decide ((0 : Int) ≤ n) = true := decide_eq_true (by omega)
  clear h hp
  go_enter Try.func151, Try.ntmps151
  go_wp2_with (go_at_call 143; refine Hpw.out.mono ?_; rintro e w1 ⟨rfl, rfl⟩)
  go_ret
  exact ⟨rfl, rfl⟩
set_option maxRecDepth 100000 in
theorem up_any (n : Nat) (page : Nat) (h : Fr.isPage page) (hn : n ≤ 1000000) (w : World) :
    Calls Try.prog 110 #[.int .i64 n, .int .i64 page] w fun e w' => e = .returned (.int .i64 ((n + page - 1) / page * page : Nat)) ∧ w = w' := by
  have hp := Fr.isPage_le h
  have Hf := Lib.hid (fits_any n page h hn w)
  have hub := up_bits h hn
  have h1 : (page : Int) ≤ 256 := by omega
  have h2 : (1 : Int) ≤ page := by omega
  have h3 : (0 : Int) ≤ n := by omega
  have h4 : (n : Int) ≤ 1000000 := by omega
  generalize (((n + page - 1) / page * page : Nat) : Int) = r at *
  clear h hp
  go_enter Try.func110, Try.ntmps110
  go_wp2_with (go_at_call 151; refine Hf.out.mono ?_; rintro e w1 ⟨rfl, rfl⟩)
  go_ret
  exact ⟨rfl, rfl⟩
/-- unmapping k pages from p on: how many were mapped, and what is left -/
def freeGo (v : VS) (p : Nat) : Nat → Nat × VS
  | 0 => (0, v)
  | k + 1 => if v.mp (p + k) = true then ((freeGo v p k).1 + 1, unmapV (freeGo v p k).2 (p + k)) else freeGo v p k
theorem freeGo_mp (v : VS) (p k q : Nat) : (freeGo v p k).2.mp q = if p ≤ q ∧ q < p + k then false else v.mp q := by
  induction k with
  | zero => rw [if_neg (by omega)]; rfl
  | succ k ih =>
    unfold freeGo
    by_cases h : v.mp (p + k) = true
    · rw [if_pos h]
      show (if q = p + k then false else (freeGo v p k).2.mp q) = _
      rw [ih]
      by_cases e : q = p + k
      · rw [if_pos e, if_pos (by omega)]
      · rw [if_neg e]
        by_cases e2 : p ≤ q ∧ q < p + k
        · rw [if_pos e2, if_pos (by omega)]
        · rw [if_neg e2, if_neg (by omega)]
    · rw [if_neg h, ih]
      by_cases e : q = p + k
      · rw [if_neg (by omega), if_pos (by omega), e]
        simpa using h
      · by_cases e2 : p ≤ q ∧ q < p + k
        · rw [if_pos e2, if_pos (by omega)]
        · rw [if_neg e2, if_neg (by omega)]
theorem freeGo_le (v : VS) (p k : Nat) : (freeGo v p k).1 ≤ k := by
  induction k with
  | zero => exact Nat.le_refl _
  | succ k ih =>
    unfold freeGo
    split
    · show (freeGo v p k).1 + 1 ≤ k + 1
      omega
    · omega
def clampN (words : Nat) (a : Int) : Nat := (min (max a 0) (words : Int)).toNat
/-- the first page that lies wholly behind an address, and the page behind the last that lies wholly ahead of one -/
def pagesOf (words page : Nat) (a b : Int) : Nat × Nat := ((clampN words a + page - 1) / page, clampN words b / page)
def freeR (words page : Nat) (v : VS) (a b : Int) : Nat × VS := freeGo v (pagesOf words page a b).1 ((pagesOf words page a b).2 - (pagesOf words page a b).1)
theorem clamp_eq (words : Nat) (a : Int) : (if (words : Int) < (if a < 0 then 0 else a) then (words : Int) else (if a < 0 then 0 else a)) = clampN words a ∧ clampN words a ≤ words := by
  unfold clampN
  constructor
  · split <;> split <;> omega
  · omega
set_option maxRecDepth 100000 in
set_option maxHeartbeats 1000000 in
theorem free_vm (S0 : Nat → Prop) (m words page room t : Nat) (v : VS) (w : World) (h : Vm S0 m words page room t v w) (a b : Int) :
    Calls Try.prog 23 #[.pointer (some ⟨m, 0, none⟩), .int .i64 a, .int .i64 b] w fun e w' => e = .returned (.int .i64 (freeR words page v a b).1) ∧ VDid S0 m words page room t (freeR words page v a b).2 w w' := by
  have hpow := h.isPage
  obtain ⟨hwd, hmod, hpg, hrm, husd, hhi⟩ := h.dims
  have HV := Lib.hid h
  obtain ⟨mb, pb, s, F, hR, -⟩ := h
  obtain ⟨c0, c1, c2⟩ := hR.cells
  have Hnone := Lib.hid (none_cells m mb _ c0)
  have Hpage := Lib.hid (page_raw hR)
  obtain ⟨ea, la⟩ := clamp_eq words a
  obtain ⟨eb, lb⟩ := clamp_eq words b
  have Hup := Lib.hid (up_any (clampN words a) page hpow (by omega) w)
  have hdv : (((clampN words a + page - 1) / page * page : Nat) : Int) / (page : Int) = (((clampN words a + page - 1) / page : Nat) : Int) := by
    rw [← Int.natCast_ediv, Nat.mul_div_cancel _ (by omega)]
  have hdw : ((clampN words b : Nat) : Int) / (page : Int) = ((clampN words b / page : Nat) : Int) := rfl
  have hf1 : (clampN words a + page - 1) / page ≤ 1000000 := by have := Nat.div_le_self (clampN words a + page - 1) page; omega
  have hf2 : clampN words b / page ≤ words / page := Nat.div_le_div_right lb
  have hf3 : (clampN words a + page - 1) / page * page ≤ 1000000 := by have := Nat.div_mul_le_self (clampN words a + page - 1) page; omega
  have hnp : words / page ≤ 1000000 := by have := Nat.div_le_self words page; omega
  unfold freeR pagesOf
  generalize clampN words a = xa at *
  generalize clampN words b = xb at *
  obtain ⟨r, hr⟩ : ∃ r, (xa + page - 1) / page * page = r := ⟨_, rfl⟩
  rw [hr] at Hup hdv hf3
  generalize (xa + page - 1) / page = p0 at *
  generalize xb / page = p1 at *
  obtain ⟨pi, hpi⟩ : ∃ pi : Int, (page : Int) = pi := ⟨_, rfl⟩
  rw [hpi] at Hpage hdv hdw Hup
  have k1 : (0 : Int) ≤ r := by omega
  have k2 : (r : Int) ≤ 1000000 := by omega
  have k3 : 1 ≤ pi := by omega
  have k4 : pi ≤ 256 := by omega
  have k5 : (0 : Int) ≤ xb := by omega
  have k6 : (xb : Int) ≤ 1000000 := by omega
  clear hR hpi hr hpow
  go_enter Try.func23, Try.ntmps23
  go_wp2_with (first | (go_at_call 99; refine Hnone.out.mono ?_; rintro e w1 ⟨rfl, rfl⟩) | (go_at_call 101; refine Hpage.out.mono ?_; rintro e w1 ⟨rfl, rfl⟩) | (go_at_call 110; refine Hup.out.mono ?_; rintro e w1 ⟨rfl, rfl⟩))
  all_goals
    clear ea eb hdv hdw c0 c1 c2
    go_loopw [10, 11] (fun n i wr => ∃ (k : Nat) (S : Nat → Prop), n = .int .i64 ((freeGo v p0 k).1 : Nat) ∧ i = .int .i64 ((p0 + k : Nat) : Int) ∧ k ≤ p1 - p0 ∧ Vm S m words page room t (freeGo v p0 k).2 wr ∧ Chg S0 w wr ∧ Grew S0 S w) (fun _ i _ => p1 - (intOf i).toNat)
    case atStart => exact ⟨0, S0, rfl, rfl, by omega, HV.out, Chg.refl _ _, Grew.refl _ _⟩
    case round =>
      obtain ⟨k, S, rfl, rfl, hk, hV, hc, hg⟩ := hrel
      have hle := freeGo_le v p0 k
      by_cases hlt : p0 + k < p1
      · have hun := unmap_vm S m words page room t (freeGo v p0 k).2 wr hV ((p0 + k : Nat) : Int)
        have hmp : (freeGo v p0 k).2.mp (p0 + k) = v.mp (p0 + k) := by rw [freeGo_mp, if_neg (by omega)]
        unfold unmapS unmapE at hun
        rw [if_neg (Classical.not_not.2 ⟨Int.natCast_nonneg _, by omega⟩), Int.toNat_natCast, hmp] at hun
        have hs := show freeGo v p0 (k + 1) = if v.mp (p0 + k) = true then ((freeGo v p0 k).1 + 1, unmapV (freeGo v p0 k).2 (p0 + k)) else freeGo v p0 k from rfl
        have hl1 : ((p0 + k : Nat) : Int) < p1 := by omega
        have hl2 : (p0 : Int) + k < p1 := by omega
        have Hc := Lib.hid hc
        have Hg := Lib.hid hg
        have hk7 : p0 + k ≤ 1000000 := by omega
        by_cases hm : v.mp (p0 + k) = true
        · rw [if_pos hm, if_pos rfl] at hun
          rw [if_pos hm] at hs
          have Hs := Lib.hid hs
          have Hun := Lib.hid hun
          generalize hgo : (freeGo v p0 k).1 = cnt at *
          have Hgo := Lib.hid hgo
          clear hun hs hm hmp hV hc hg hgo
          go_wp2_with (go_at_call 21; refine Hun.out.mono ?_; rintro e w1 ⟨rfl, hd⟩; have Hd := Lib.hid hd; clear hd)
          go_roundw
          case rel =>
            obtain ⟨S', k1, k2, k3⟩ := Hd.out
            exact ⟨k + 1, S', by rw [Hs.out]; go_num, by go_num, by omega, by rw [Hs.out]; exact k1, Hc.out.then k2 Hg.out, Hg.out.trans k3 Hc.out.size⟩
          case measure => simp [intOf]; omega
        · rw [if_neg hm, if_neg (by decide)] at hun
          rw [if_neg hm] at hs
          have Hs := Lib.hid hs
          have Hun := Lib.hid hun
          generalize hgo : (freeGo v p0 k).1 = cnt at *
          have Hgo := Lib.hid hgo
          clear hun hs hm hmp hV hc hg hgo
          go_wp2_with (go_at_call 21; refine Hun.out.mono ?_; rintro e w1 ⟨rfl, hd⟩; have Hd := Lib.hid hd; clear hd)
          go_roundw
          case rel =>
            obtain ⟨S', k1, k2, k3⟩ := Hd.out
            exact ⟨k + 1, S', by rw [Hs.out, Hgo.out], by go_num, by omega, by rw [Hs.out]; exact k1, Hc.out.then k2 Hg.out, Hg.out.trans k3 Hc.out.size⟩
          case measure => simp [intOf]; omega
      · obtain rfl : k = p1 - p0 := by omega
        have hl1 : ¬ ((p0 + (p1 - p0) : Nat) : Int) < p1 := by omega
        have HN := Lib.hid (show VDid S0 m words page room t (freeGo v p0 (p1 - p0)).2 w wr from ⟨S, hV, hc, hg⟩)
        generalize hx : p0 + (p1 - p0) = x at *
        clear hV hc hg hx
        go_wp2
        go_ret
        exact ⟨rfl, HN.out⟩
end Go.Proofs.Ytkcijlndblbidaa

/- A memory above a base world, with blocks beside it that stay: the contracts of all methods at that state; New; the example. -/
namespace Go.Proofs.Ytkcijlndblbidaa
open Go.ChangeShapes Go.WideShapes Go.ChangeAt Go.RowKit
set_option linter.unusedVariables false

def VK (W0 : World) (m words page room t : Nat) (v : VS) (K : List (Nat × Obj)) (w : World) : Prop :=
  ∃ S, Vm S m words page room t v w ∧ Fr.Up W0.heap.size S ∧ Below W0.heap.size W0 w ∧ ∀ x ∈ K, ¬ S x.1 ∧ w.heap[x.1]? = some x.2
section
variable {W0 w w' : World} {m words page room t t' : Nat} {v v' : VS} {K K' : List (Nat × Obj)}
theorem VK.below (h : VK W0 m words page room t v K w) : Below W0.heap.size W0 w := by
  obtain ⟨S, _, _, h, _⟩ := h; exact h
theorem VK.did {S : Nat → Prop} (hu : Fr.Up W0.heap.size S) (hb : Below W0.heap.size W0 w) (hK : ∀ x ∈ K, ¬ S x.1 ∧ w.heap[x.1]? = some x.2) (hd : VDid S m words page room t v w w') : VK W0 m words page room t v K w' := by
  obtain ⟨S', k1, k2, k3⟩ := hd
  refine ⟨S', k1, fun k hk => ?_, hb.trans (k2.below hu hb.size), fun x hx => ⟨fun hs => ?_, k2.keep (hK x hx).2 (hK x hx).1⟩⟩
  · rcases k3 k hk with a | a
    · exact hu k a
    · have := hb.size; omega
  · rcases k3 _ hs with a | a
    · exact (hK x hx).1 a
    · have := block_lt (hK x hx).2; omega
theorem VK.grow (h : VK W0 m words page room t v K w) (c : Below w.heap.size w w') : VK W0 m words page room t v K w' := by
  obtain ⟨S, h1, h2, h3, h4⟩ := h
  exact VK.did h2 h3 h4 (VDid.of h1 c)
theorem VK.drew (h : VK W0 m words page room t v K w) : VK W0 m words page room t v K w.drew := h.grow (below_drew w)
theorem VK.drewN (h : VK W0 m words page room t v K w) (n : Nat) : VK W0 m words page room t v K (w.drewN n) := h.grow (Fr.below_drewN' n w)
theorem VK.box (h : VK W0 m words page room t v K w) (cs : Array Value) (ty : TypeId) : VK W0 m words page room t v ((w.heap.size, .cells cs ty (0, 0)) :: K) (w.alloc (.cells cs ty)) := by
  obtain ⟨S, h1, h2, h3, h4⟩ := h
  refine ⟨S, h1.grow (below_new w _), h2, h3.alloc h3.size _, fun x hx => ?_⟩
  simp only [List.mem_cons] at hx
  rcases hx with rfl | hx
  · exact ⟨fun hs => by have := h1.in _ hs; simp at this, heap_alloc_new w _⟩
  · exact ⟨(h4 x hx).1, blockB (below_new w _) (Nat.le_refl _) (h4 x hx).2⟩
theorem VK.sub (h : VK W0 m words page room t v K w) (hs : ∀ x ∈ K', x ∈ K) : VK W0 m words page room t v K' w := by
  obtain ⟨S, h1, h2, h3, h4⟩ := h
  exact ⟨S, h1, h2, h3, fun x hx => h4 x (hs x hx)⟩
theorem VK.tail {x : Nat × Obj} (h : VK W0 m words page room t v (x :: K) w) : VK W0 m words page room t v K w := h.sub fun y hy => List.mem_cons_of_mem _ hy
theorem VK.more (h : VK W0 m words page room t v K w) (ht : t ≤ t') : VK W0 m words page room t' v K w := by
  obtain ⟨S, h1, h2⟩ := h
  exact ⟨S, h1.more ht, h2⟩
theorem VK.like (h : VK W0 m words page room t v K w) (hl : v.like page (words / page) v') : VK W0 m words page room t v' K w := by
  obtain ⟨S, h1, h2⟩ := h
  exact ⟨S, h1.like hl, h2⟩
theorem VK.block (h : VK W0 m words page room t v K w) {X : Nat} {o : Obj} (hx : (X, o) ∈ K) : w.heap[X]? = some o := by
  obtain ⟨S, h1, h2, h3, h4⟩ := h
  exact (h4 _ hx).2
/-- a block that stays is written -/
theorem VK.set {X : Nat} {cs : Array Value} {ty : TypeId} (h : VK W0 m words page room t v ((X, .cells cs ty (0, 0)) :: K) w) (hX : W0.heap.size ≤ X) (hK : ∀ x ∈ K, x.1 ≠ X) (j : Nat) (x : Value) : VK W0 m words page room t v ((X, .cells (cs.setIfInBounds j x) ty (0, 0)) :: K) (w.setCell ⟨X, j, none⟩ x) := by
  obtain ⟨S, h1, h2, h3, h4⟩ := h
  have hx := h4 _ (List.mem_cons_self ..)
  have hc : Chg (fun k => k = X) w (w.setCell ⟨X, j, none⟩ x) := (Chg.refl (fun k => k = X) w).set (p := ⟨X, j, none⟩) (.inl rfl) _
  refine ⟨S, h1.keep hc (fun k hs e => hx.1 (by rw [← e]; exact hs)), h2, h3.setCell hX x, fun y hy => ?_⟩
  simp only [List.mem_cons] at hy
  rcases hy with rfl | hy
  · exact ⟨hx.1, heap_setCell_same w X j _ _ _ hx.2⟩
  · exact ⟨(h4 y (List.mem_cons_of_mem _ hy)).1, (far (show y.1 ≠ X from hK y hy)).trans (h4 y (List.mem_cons_of_mem _ hy)).2⟩
theorem map_vk (h : VK W0 m words page room t v K w) (ht : t < 1000000000) (p : Int) :
    Calls Try.prog 20 #[.pointer (some ⟨m, 0, none⟩), .int .i64 p] w fun e w' => e = .returned (.int .i64 (mapE (words / page) room v p)) ∧ VK W0 m words page room (t + 1) (mapS (words / page) page room v p) K w' := by
  obtain ⟨S, h1, h2, h3, h4⟩ := h
  exact (map_vm S m words page room t v w h1 ht p).mono fun e w' ⟨he, hd⟩ => ⟨he, VK.did h2 h3 h4 hd⟩
theorem unmap_vk (h : VK W0 m words page room t v K w) (p : Int) :
    Calls Try.prog 21 #[.pointer (some ⟨m, 0, none⟩), .int .i64 p] w fun e w' => e = .returned (.int .i64 (unmapE (words / page) v p)) ∧ VK W0 m words page room t (unmapS (words / page) v p) K w' := by
  obtain ⟨S, h1, h2, h3, h4⟩ := h
  exact (unmap_vm S m words page room t v w h1 p).mono fun e w' ⟨he, hd⟩ => ⟨he, VK.did h2 h3 h4 hd⟩
theorem move_vk (h : VK W0 m words page room t v K w) (p q : Int) :
    Calls Try.prog 22 #[.pointer (some ⟨m, 0, none⟩), .int .i64 p, .int .i64 q] w fun e w' => e = .returned (.int .i64 (moveE (words / page) v p q)) ∧ VK W0 m words page room t (moveS (words / page) page v p q) K w' := by
  obtain ⟨S, h1, h2, h3, h4⟩ := h
  exact (move_vm S m words page room t v w h1 p q).mono fun e w' ⟨he, hd⟩ => ⟨he, VK.did h2 h3 h4 hd⟩
theorem need_vk (h : VK W0 m words page room t v K w) (ht : t ≤ 999000000) (a b : Int) :
    Calls Try.prog 18 #[.pointer (some ⟨m, 0, none⟩), .int .i64 a, .int .i64 b] w fun e w' => e = .returned (.int .i64 (needE words page room v a b)) ∧ VK W0 m words page room (t + words / page) (needV words page room v a b) K w' := by
  obtain ⟨S, h1, h2, h3, h4⟩ := h
  exact (need_vm S m words page room t v w h1 ht a b).mono fun e w' ⟨he, hd⟩ => ⟨he, VK.did h2 h3 h4 hd⟩
theorem free_vk (h : VK W0 m words page room t v K w) (a b : Int) :
    Calls Try.prog 23 #[.pointer (some ⟨m, 0, none⟩), .int .i64 a, .int .i64 b] w fun e w' => e = .returned (.int .i64 (freeR words page v a b).1) ∧ VK W0 m words page room t (freeR words page v a b).2 K w' := by
  obtain ⟨S, h1, h2, h3, h4⟩ := h
  exact (free_vm S m words page room t v w h1 a b).mono fun e w' ⟨he, hd⟩ => ⟨he, VK.did h2 h3 h4 hd⟩
theorem load_vk (h : VK W0 m words page room t v K w) (a : Int) :
    Calls Try.prog 24 #[.pointer (some ⟨m, 0, none⟩), .int .i64 a] w fun e w' => e = .returned (.tuple #[.int .u64 (loadW words page v a), .int .i64 (loadE words page v a)]) ∧ VK W0 m words page room t v K w' := by
  obtain ⟨S, h1, h2, h3, h4⟩ := h
  exact (load_vm S m words page room t v w h1 a).mono fun e w' ⟨he, hb⟩ => ⟨he, VK.did h2 h3 h4 (VDid.of h1 hb)⟩
theorem store_vk (h : VK W0 m words page room t v K w) (a : Int) (x : Nat) (hx : x < 18446744073709551616) :
    Calls Try.prog 19 #[.pointer (some ⟨m, 0, none⟩), .int .i64 a, .int .u64 x] w fun e w' => e = .returned (.int .i64 (loadE words page v a)) ∧ VK W0 m words page room t (storeV words page v a x) K w' := by
  obtain ⟨S, h1, h2, h3, h4⟩ := h
  exact (store_vm S m words page room t v w h1 a x hx).mono fun e w' ⟨he, hd⟩ => ⟨he, VK.did h2 h3 h4 hd⟩
theorem mapped_vk (h : VK W0 m words page room t v K w) (p : Int) :
    Calls Try.prog 25 #[.pointer (some ⟨m, 0, none⟩), .int .i64 p] w fun e w' => e = .returned (.bool (isM (words / page) v p)) ∧ VK W0 m words page room t v K w' := by
  obtain ⟨S, h1, h2, h3, h4⟩ := h
  exact (mapped_vm S m words page room t v w h1 p).mono fun e w' ⟨he, hb⟩ => ⟨he, VK.did h2 h3 h4 (VDid.of h1 hb)⟩
theorem used_vk (h : VK W0 m words page room t v K w) : Calls Try.prog 28 #[.pointer (some ⟨m, 0, none⟩)] w fun e w' => e = .returned (.int .i64 v.used) ∧ w = w' := by
  obtain ⟨S, h1, h2, h3, h4⟩ := h
  exact used_vm S m words page room t v w h1
theorem words_vk (h : VK W0 m words page room t v K w) : Calls Try.prog 27 #[.pointer (some ⟨m, 0, none⟩)] w fun e w' => e = .returned (.int .i64 words) ∧ w = w' := by
  obtain ⟨S, h1, h2, h3, h4⟩ := h
  exact words_vm S m words page room t v w h1
end
theorem new_end {w w1 w2 : World} {b words page room : Nat} {S2 : Nat → Prop} (hP : Fr.PSt w b room page Fr.start w1) (hdim : VDim words page) (hk : Fr.start.ok room page)
    (hM : Pg.Mp S2 (w1.heap.size + 1 + 1) (words / page) (fun _ => 0) w2) (hU : Pg.Up (w1.heap.size + 1) S2)
    (hB : Below (w1.heap.size + 1) (w1.alloc (.cells #[.pointer (some ⟨b, 0, none⟩), .pointer none, .int .i64 words] 160)) w2) :
    VK w w1.heap.size words page room 0 VS.zero [] (w2.setCell ⟨w1.heap.size, 1, none⟩ (.pointer (some ⟨w1.heap.size + 1 + 1, 0, none⟩))) := by
  obtain ⟨S1, p1, u1, b1⟩ := hP
  have hin := p1.in
  have hB' : Below (w1.alloc (.cells #[.pointer (some ⟨b, 0, none⟩), .pointer none, .int .i64 words] 160)).heap.size (w1.alloc (.cells #[.pointer (some ⟨b, 0, none⟩), .pointer none, .int .i64 words] 160)) w2 := by simpa using hB
  have hd := blockB hB' (Nat.le_refl _) (heap_alloc_new w1 (.cells #[.pointer (some ⟨b, 0, none⟩), .pointer none, .int .i64 words] 160))
  have hc : Chg (fun k => k = w1.heap.size) w2 (w2.setCell ⟨w1.heap.size, 1, none⟩ (.pointer (some ⟨w1.heap.size + 1 + 1, 0, none⟩))) := (Chg.refl (fun k => k = w1.heap.size) w2).set (p := ⟨w1.heap.size, 1, none⟩) (.inl rfl) _
  have h1 := b1.size
  have h2 := hB'.size
  simp at h2
  have hs : (w2.setCell ⟨w1.heap.size, 1, none⟩ (.pointer (some ⟨w1.heap.size + 1 + 1, 0, none⟩))).heap.size = w2.heap.size := by simp [World.setCell]
  refine ⟨fun k => S1 k ∨ k = w1.heap.size ∨ S2 k, ⟨b, w1.heap.size + 1 + 1, Fr.start, fun _ => 0, ⟨heap_setCell_same w2 _ 1 _ _ _ hd, ⟨S1, S2, ((p1.grow (below_new w1 _)).grow hB').keep hc (fun k a e => ?_), hM.keep hc (fun k a e => ?_), fun k a c => ?_, fun a => ?_, fun a => ?_, fun k a => .inl a, fun k a => .inr (.inr a)⟩, .inr (.inl rfl), fun k hk => ?_⟩, hk, Nat.le_refl _, Vr.start _ _, hdim⟩, fun k hk => ?_, ?_, by simp⟩
  · have := hin k a; omega
  · have := hU k a; omega
  · have := hin k a
    have := hU k c
    omega
  · have := hin _ a; omega
  · have := hU _ a; omega
  · rw [hs]
    rcases hk with a | rfl | a
    · have := hin k a; omega
    · omega
    · exact hM.in k a
  · rcases hk with a | rfl | a
    · exact u1 k a
    · exact h1
    · have := hU k a; omega
  · exact (b1.trans ((below_new w1 _).mono h1 |>.trans (hB'.mono (by simp; omega)))).setCell h1 _
set_option maxRecDepth 100000 in
set_option maxHeartbeats 1000000 in
theorem new_vk (words page room : Nat) (w : World) (hw1 : 1 ≤ words) (hw2 : words ≤ 524288) (hmod : words % page = 0) (hpow : Fr.isPage page) (hr1 : 1 ≤ room) (hr2 : room ≤ 4096) :
    Calls Try.prog 17 #[.int .i64 words, .int .i64 page, .int .i64 room] w fun e w' => ∃ m, e = .returned (.tuple #[.pointer (some ⟨m, 0, none⟩), .int .i64 0]) ∧ VK w m words page room 0 VS.zero [] w' := by
  have hpg := Fr.isPage_le hpow
  have Hfn := Lib.hid (Fr.new_ps room page w hr1 hr2 hpow)
  have hnp1 : 1 ≤ words / page := by
    rcases Nat.eq_zero_or_pos (words / page) with e | e
    · have := Nat.div_add_mod words page
      rw [e, hmod] at this
      omega
    · exact e
  have hnp2 : words / page ≤ 524288 := by have := Nat.div_le_self words page; omega
  have hpn := fun W => Pg.new_yes (words / page) W hnp1 hnp2
  have hq : (words : Int) / (page : Int) = ((words / page : Nat) : Int) := rfl
  have hm : (words : Int) % (page : Int) = 0 := by rw [← Int.natCast_emod, hmod]; rfl
  have Hok := Lib.hid (show Fr.start.ok room page ∧ VDim words page from ⟨Fr.start_ok ⟨hr1, hr2⟩ hpg, ⟨hw1, hw2⟩, hmod, hpow⟩)
  obtain ⟨np, hnp⟩ : ∃ np, words / page = np := ⟨_, rfl⟩
  rw [hnp] at hq hnp1 hnp2
  simp only [hnp] at hpn
  have Hpn := Lib.hid hpn
  have Hnp := Lib.hid hnp
  have g1 : ¬ (words : Int) < 1 := by omega
  have g2 : ¬ 524288 < (words : Int) := by omega
  have g3 : (1 : Int) ≤ page := by omega
  have g4 : (page : Int) ≤ 256 := by omega
  have g5 : (0 : Int) ≤ words := by omega
  have g6 : (np : Int) ≤ 524288 := by omega
  have g7 : (0 : Int) ≤ np := by omega
  have q1 : decide ((words : Int) < 1) = false := decide_eq_false g1
  have q2 : decide (524288 < (words : Int)) = false := decide_eq_false g2
  clear hpn hnp hmod hpow hw1 hw2 hr1 hr2 hnp1 hnp2
  go_enter Try.func17, Try.ntmps17
  go_wp2_with (first | (go_at_call 97; refine Hfn.out.mono ?_; rintro e w1 ⟨rfl, hps⟩; have HP := Lib.hid hps; clear hps) | (go_at_call 98; refine (Hpn.out _).mono ?_; rintro e w2 ⟨rfl, ⟨S2, m2, u2⟩, b2⟩; have HM := Lib.hid m2; have HU := Lib.hid u2; have HB := Lib.hid b2; have hd2 := blockB b2 (Nat.le_refl _) (heap_alloc_new w1 _); have f1 := at_cell hd2 1 _ rfl; have f2 := at_free hd2 1; clear m2 u2 b2 hd2))
  go_ret2
  exact ⟨_, rfl, new_end HP.out Hok.out.2 Hok.out.1 (by rw [Hnp.out]; simpa using HM.out) (by simpa using HU.out) (by simpa using HB.out)⟩
end Go.Proofs.Ytkcijlndblbidaa
