/- The walks of the reference's Next and Count. -/
import Derived.Test.YtkonpieebemfbaaPagesRefW3
namespace Go.Proofs.Ytkonpieebemfbaa
open Go.ChangeShapes Go.WideShapes Go.ChangeAt Go.RowKit
set_option linter.unusedVariables false

/-- the best of the first m entries, from page p on -/
def Best (es : List (Nat × Nat)) (p : Int) (m : Nat) (b : Int) : Prop :=
  (b = -1 ∧ ∀ j, j < m → (eP es j : Int) < p) ∨ ∃ q : Nat, b = q ∧ (∃ j, j < m ∧ eP es j = q) ∧ p ≤ q ∧ ∀ j, j < m → p ≤ (eP es j : Int) → q ≤ eP es j
theorem Best.end {np : Nat} {F : Nat → Nat} {es : List (Nat × Nat)} (h : Rel np F es) {p b : Int} (hb : Best es p es.length b) : (b < 0 ∧ nx np F p.toNat = none) ∨ ∃ q : Nat, b = q ∧ nx np F p.toNat = some q := by
  rcases hb with ⟨rfl, hb⟩ | ⟨q, rfl, ⟨j, hj, rfl⟩, hp, hm⟩
  · refine .inl ⟨by omega, nx_nil fun r h1 h2 => ?_⟩
    apply Classical.byContradiction
    intro h0
    obtain ⟨i, hi, e⟩ := h.all r h0
    have := hb i hi
    omega
  · refine .inr ⟨eP es j, rfl, nx_of (by omega) (h.each j hj).1 (by have := (h.each j hj).2; omega) fun r h1 h2 => ?_⟩
    apply Classical.byContradiction
    intro h0
    obtain ⟨i, hi, e⟩ := h.all r h0
    have := hm i hi (by omega)
    omega
set_option maxRecDepth 100000 in
set_option maxHeartbeats 2000000 in
theorem refNext_any (T : Nat → Prop) (rb np k : Nat) (F : Nat → Nat) (w : World) (hP : Rp T rb np F k w) (hk : k ≤ 900) (p : Int) :
    Calls Try.prog 18 #[.pointer (some ⟨rb, 0, none⟩), .int .i64 p] w fun e w' => e = .returned (.tuple #[.int .i64 (nextV (nx np F p.toNat)).1, .bool (nextV (nx np F p.toNat)).2]) ∧ w = w' := by
  obtain ⟨a, cap, es, hR, hF, hes, ⟨t1, t2⟩, hI⟩ := hP
  have HR := Lib.hid hR
  have HF := Lib.hid hF
  have c1 := at_cell hR.head 1 _ rfl
  obtain ⟨X, hX⟩ : ∃ X, nx np F p.toNat = X := ⟨_, rfl⟩
  rw [hX]
  have HX := Lib.hid hX
  clear hR hF hI t1 t2 hX
  go_enter Try.func18, Try.ntmps18
  go_wp2
  go_loopw [6, 7, 8] (fun b i _ wr => ∃ (c : Int) (m : Nat), b = .int .i64 c ∧ i = .int .i64 m ∧ m ≤ es.length ∧ Best es p m c ∧ wr = w) (fun _ i _ _ => es.length - (intOf i).toNat)
  case atStart => exact ⟨-1, 0, rfl, rfl, by omega, .inl ⟨rfl, by omega⟩, rfl⟩
  case round =>
    obtain ⟨c, m, rfl, rfl, hm, hbest, rfl⟩ := hrel
    by_cases hlt : m < es.length
    · obtain ⟨g, rfl, -, -⟩ := HR.out.form (by omega)
      obtain ⟨cm, -⟩ := HR.out.cell hlt
      have hep : eP es m < np := (HF.out.each m hlt).1
      obtain ⟨x, hx⟩ : ∃ x : Int, (eP es m : Int) = x := ⟨_, rfl⟩
      rw [hx] at cm
      have hx0 : 0 ≤ x := by omega
      have Hx := Lib.hid hx
      have Hbest := Lib.hid hbest
      clear hx hbest hep
      have keep : (x < p ∨ 0 ≤ c ∧ c ≤ x) → Best es p (m + 1) c := fun hh => by
        rcases Hbest.out with ⟨rfl, h1⟩ | ⟨q, rfl, ⟨j, hj, e⟩, h2, h3⟩
        · refine .inl ⟨rfl, fun j hj => ?_⟩
          by_cases e : j = m
          · have := Hx.out; rw [e]; omega
          · exact h1 j (by omega)
        · refine .inr ⟨q, rfl, ⟨j, by omega, e⟩, h2, fun j' hj' hp => ?_⟩
          by_cases e : j' = m
          · rw [e] at hp ⊢
            have := Hx.out
            omega
          · exact h3 j' (by omega) hp
      have take : p ≤ x → (c < 0 ∨ x < c) → Best es p (m + 1) x := fun h0 hh => by
        refine .inr ⟨eP es m, Hx.out.symm, ⟨m, by omega, rfl⟩, by have := Hx.out; omega, fun j hj hp => ?_⟩
        by_cases e : j = m
        · rw [e]; exact Nat.le_refl _
        · have := Hx.out
          rcases Hbest.out with ⟨rfl, h1⟩ | ⟨q, rfl, _, h2, h3⟩
          · have := h1 j (by omega); omega
          · have := h3 j (by omega) hp; omega
      have Keep := Lib.hid keep
      have Take := Lib.hid take
      clear keep take
      by_cases h1 : p ≤ x
      · by_cases h2 : c < 0
        · go_wp2
          go_roundw
          case rel => exact ⟨x, m + 1, rfl, by go_num, by omega, Take.out h1 (.inl h2), trivial⟩
          case measure => simp [intOf]; omega
        · by_cases h3 : x < c
          · go_wp2
            go_roundw
            case rel => exact ⟨x, m + 1, rfl, by go_num, by omega, Take.out h1 (.inr h3), trivial⟩
            case measure => simp [intOf]; omega
          · go_wp2
            go_roundw
            case rel => exact ⟨c, m + 1, rfl, by go_num, by omega, Keep.out (.inr ⟨by omega, by omega⟩), trivial⟩
            case measure => simp [intOf]; omega
      · have h4 : x < p := by omega
        go_wp2
        go_roundw
        case rel => exact ⟨c, m + 1, rfl, by go_num, by omega, Keep.out (.inl h4), trivial⟩
        case measure => simp [intOf]; omega
    · obtain rfl : es.length = m := by omega
      have hend := hbest.end HF.out
      rw [HX.out] at hend
      rcases hend with ⟨h1, h2⟩ | ⟨q, h1, h2⟩
      · have H2 := Lib.hid h2
        clear h2 hbest
        go_wp2
        go_ret2
        rw [H2.out]
        exact ⟨rfl, rfl⟩
      · have H2 := Lib.hid h2
        obtain rfl : c = q := h1
        have h3 : ¬ (q : Int) < 0 := by omega
        clear h2 hbest
        go_wp2
        go_ret2
        rw [H2.out]
        exact ⟨rfl, rfl⟩
/-- how many of the first m entries lie in a run -/
def ec (es : List (Nat × Nat)) (p to : Int) : Nat → Nat
  | 0 => 0
  | m + 1 => ec es p to m + if p ≤ (eP es m : Int) ∧ (eP es m : Int) < to then 1 else 0
theorem ec_split (es : List (Nat × Nat)) (a b c : Int) (h1 : a ≤ b) (h2 : b ≤ c) (m : Nat) : ec es a c m = ec es a b m + ec es b c m := by
  induction m with
  | zero => rfl
  | succ m ih =>
    unfold ec
    rw [ih]
    generalize (eP es m : Int) = x
    by_cases h3 : a ≤ x ∧ x < b
    · rw [if_pos h3, if_pos (by omega), if_neg (by omega)]; omega
    · rw [if_neg h3]
      by_cases h4 : b ≤ x ∧ x < c
      · rw [if_pos h4, if_pos (by omega)]; omega
      · rw [if_neg h4, if_neg (by omega)]; omega
theorem ec_none {es : List (Nat × Nat)} {a b : Int} {m : Nat} (h : ∀ j, j < m → ¬ (a ≤ (eP es j : Int) ∧ (eP es j : Int) < b)) : ec es a b m = 0 := by
  induction m with
  | zero => rfl
  | succ m ih => unfold ec; rw [ih (fun j hj => h j (by omega)), if_neg (h m (by omega))]
theorem ec_one {es : List (Nat × Nat)} {a b : Int} {m i : Nat} (hi : i < m) (hp : a ≤ (eP es i : Int) ∧ (eP es i : Int) < b) (h : ∀ j, j < m → j ≠ i → ¬ (a ≤ (eP es j : Int) ∧ (eP es j : Int) < b)) : ec es a b m = 1 := by
  induction m with
  | zero => omega
  | succ m ih =>
    unfold ec
    by_cases e : i = m
    · subst e
      rw [ec_none (fun j hj => h j (by omega) (by omega)), if_pos hp]
    · rw [ih (by omega) (fun j hj => h j (by omega)), if_neg (h m (by omega) (fun k => e k.symm))]
theorem ec_countN {np : Nat} {F : Nat → Nat} {es : List (Nat × Nat)} (h : Rel np F es) (k s : Nat) : countN F k s = ec es s (s + k : Nat) es.length := by
  induction k generalizing s with
  | zero => exact (ec_none fun j _ => by omega).symm
  | succ k ih =>
    unfold countN
    rw [ih (s + 1), ec_split es s (s + 1 : Nat) (s + (k + 1) : Nat) (by omega) (by omega), show s + 1 + k = s + (k + 1) by omega]
    congr 1
    by_cases h0 : F s = 0
    · rw [if_pos h0]
      refine (ec_none fun j hj e => ?_).symm
      have := (h.each j hj).2
      rw [show eP es j = s by omega, h0] at this
      omega
    · rw [if_neg h0]
      obtain ⟨i, hi, e⟩ := h.all s h0
      refine (ec_one hi (by omega) fun j hj hne hh => ?_).symm
      exact hne (h.once j i hj hi (by omega))
theorem ec_same {np : Nat} {F : Nat → Nat} {es : List (Nat × Nat)} (h : Rel np F es) (p to : Int) : ∀ m, m ≤ es.length → ec es p to m = ec es (p.toNat : Nat) ((p.toNat + (min np to.toNat - p.toNat) : Nat)) m := by
  intro m
  induction m with
  | zero => intro _; rfl
  | succ m ih =>
    intro hm
    unfold ec
    rw [ih (by omega)]
    have := (h.each m (by omega)).1
    generalize eP es m = x at *
    congr 1
    by_cases h1 : p ≤ (x : Int) ∧ (x : Int) < to
    · rw [if_pos h1, if_pos (by omega)]
    · rw [if_neg h1, if_neg (by omega)]
theorem ec_cn {np : Nat} {F : Nat → Nat} {es : List (Nat × Nat)} (h : Rel np F es) (p to : Int) : ec es p to es.length = cn np F p to := by
  unfold cn
  rw [ec_countN h, ec_same h p to _ (Nat.le_refl _)]
theorem ec_le (es : List (Nat × Nat)) (p to : Int) (m : Nat) : ec es p to m ≤ m := by
  induction m with
  | zero => exact Nat.le_refl _
  | succ m ih => unfold ec; split <;> omega
set_option maxRecDepth 100000 in
set_option maxHeartbeats 2000000 in
theorem refCount_any (T : Nat → Prop) (rb np k : Nat) (F : Nat → Nat) (w : World) (hP : Rp T rb np F k w) (hk : k ≤ 900) (p to : Int) :
    Calls Try.prog 20 #[.pointer (some ⟨rb, 0, none⟩), .int .i64 p, .int .i64 to] w fun e w' => e = .returned (.int .i64 (cn np F p to)) ∧ w = w' := by
  obtain ⟨a, cap, es, hR, hF, hes, ⟨t1, t2⟩, hI⟩ := hP
  have HR := Lib.hid hR
  have c1 := at_cell hR.head 1 _ rfl
  rw [← ec_cn hF]
  clear hR hF hI t1 t2
  go_enter Try.func20, Try.ntmps20
  go_wp2
  go_loopw [7, 8] (fun b i wr => ∃ m : Nat, b = .int .i64 (ec es p to m) ∧ i = .int .i64 m ∧ m ≤ es.length ∧ wr = w) (fun _ i _ => es.length - (intOf i).toNat)
  case atStart => exact ⟨0, rfl, rfl, by omega, rfl⟩
  case round =>
    obtain ⟨m, rfl, rfl, hm, rfl⟩ := hrel
    by_cases hlt : m < es.length
    · obtain ⟨g, rfl, -, -⟩ := HR.out.form (by omega)
      obtain ⟨cm, -⟩ := HR.out.cell hlt
      have hs : ec es p to (m + 1) = ec es p to m + if p ≤ (eP es m : Int) ∧ (eP es m : Int) < to then 1 else 0 := rfl
      obtain ⟨x, hx⟩ : ∃ x : Int, (eP es m : Int) = x := ⟨_, rfl⟩
      rw [hx] at cm hs
      have hle := ec_le es p to m
      have hle2 : (ec es p to m : Int) ≤ 1000000 := by omega
      by_cases h1 : p ≤ x
      · by_cases h2 : x < to
        · rw [if_pos ⟨h1, h2⟩] at hs
          have Hs := Lib.hid hs
          clear hs hx hle
          generalize ec es p to m = n at *
          go_wp2
          go_roundw
          case rel => exact ⟨m + 1, by rw [Hs.out]; go_num, by go_num, by omega, trivial⟩
          case measure => simp [intOf]; omega
        · rw [if_neg (fun h => h2 h.2)] at hs
          have Hs := Lib.hid hs
          clear hs hx hle
          generalize ec es p to m = n at *
          go_wp2
          go_roundw
          case rel => exact ⟨m + 1, by rw [Hs.out]; rfl, by go_num, by omega, trivial⟩
          case measure => simp [intOf]; omega
      · rw [if_neg (fun h => h1 h.1)] at hs
        have Hs := Lib.hid hs
        clear hs hx hle
        generalize ec es p to m = n at *
        go_wp2
        go_roundw
        case rel => exact ⟨m + 1, by rw [Hs.out]; rfl, by go_num, by omega, trivial⟩
        case measure => simp [intOf]; omega
    · obtain rfl : es.length = m := by omega
      go_wp2
      go_ret
      exact ⟨rfl, rfl⟩
end Go.Proofs.Ytkonpieebemfbaa
