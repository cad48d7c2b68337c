/- How the counts turn where one page turns. No program in sight. -/
import Derived.Test.YtkcijlndblbidaaPagesIn
namespace Go.Proofs.Ytkcijlndblbidaa.Pg

/-- one page turned -/
def turn (F : Nat → Nat) (p x : Nat) : Nat → Nat := fun q => if q = p then x else F q
theorem cnt_same {F G : Nat → Nat} {i m : Nat} (h : ∀ j, j < m → G (i * 256 + j) = F (i * 256 + j)) : cntF G i m = cntF F i m := by
  induction m with
  | zero => rfl
  | succ m ih => simp only [cntF]; rw [ih (fun j hj => h j (by omega)), h m (by omega)]
theorem cnt_turn {F : Nat → Nat} {i j x m : Nat} (hj : j < m) (hx : x ≠ 0) (h0 : F (i * 256 + j) = 0) : cntF (turn F (i * 256 + j) x) i m = cntF F i m + 1 := by
  induction m with
  | zero => omega
  | succ m ih =>
    simp only [cntF]
    by_cases e : j = m
    · subst e
      rw [cnt_same (F := F) (fun q hq => by unfold turn; rw [if_neg (by omega)])]
      have : turn F (i * 256 + j) x (i * 256 + j) = x := if_pos rfl
      rw [this, if_neg hx, if_pos h0]
    · rw [ih (by omega)]
      have : turn F (i * 256 + j) x (i * 256 + m) = F (i * 256 + m) := if_neg (by omega)
      rw [this]
      omega
theorem cnt_clear {F : Nat → Nat} {i j m : Nat} (hj : j < m) (h0 : F (i * 256 + j) ≠ 0) : cntF (turn F (i * 256 + j) 0) i m + 1 = cntF F i m := by
  induction m with
  | zero => omega
  | succ m ih =>
    simp only [cntF]
    by_cases e : j = m
    · subst e
      rw [cnt_same (F := F) (fun q hq => by unfold turn; rw [if_neg (by omega)])]
      have : turn F (i * 256 + j) 0 (i * 256 + j) = 0 := if_pos rfl
      rw [this, if_pos rfl, if_neg h0]
    · have := ih (by omega)
      have e2 : turn F (i * 256 + j) 0 (i * 256 + m) = F (i * 256 + m) := if_neg (by omega)
      rw [e2]
      omega
theorem cnt_other {F : Nat → Nat} {i i' j x : Nat} (hj : j < 256) (h : i' ≠ i) : cntF (turn F (i * 256 + j) x) i' 256 = cntF F i' 256 :=
  cnt_same fun q hq => by unfold turn; rw [if_neg (by omega)]
theorem sum_turn {F : Nat → Nat} {i j x m : Nat} (hi : i < m) (hj : j < 256) (hx : x ≠ 0) (h0 : F (i * 256 + j) = 0) : sumF (turn F (i * 256 + j) x) m = sumF F m + 1 := by
  have below : ∀ q, q ≤ i → sumF (turn F (i * 256 + j) x) q = sumF F q := by
    intro q
    induction q with
    | zero => intro _; rfl
    | succ q ih => intro h; simp only [sumF]; rw [ih (by omega), cnt_other hj (by omega)]
  induction m with
  | zero => omega
  | succ m ih =>
    simp only [sumF]
    by_cases e : i = m
    · subst e
      rw [below i (by omega), cnt_turn hj hx h0]
      omega
    · rw [ih (by omega), cnt_other hj (by omega)]
      omega
theorem sum_clear {F : Nat → Nat} {i j m : Nat} (hi : i < m) (hj : j < 256) (h0 : F (i * 256 + j) ≠ 0) : sumF (turn F (i * 256 + j) 0) m + 1 = sumF F m := by
  have below : ∀ q, q ≤ i → sumF (turn F (i * 256 + j) 0) q = sumF F q := by
    intro q
    induction q with
    | zero => intro _; rfl
    | succ q ih => intro h; simp only [sumF]; rw [ih (by omega), cnt_other hj (by omega)]
  induction m with
  | zero => omega
  | succ m ih =>
    simp only [sumF]
    by_cases e : i = m
    · subst e
      rw [below i (by omega)]
      have := cnt_clear (m := 256) hj h0
      omega
    · have := ih (by omega)
      rw [cnt_other hj (by omega)]
      omega
end Go.Proofs.Ytkcijlndblbidaa.Pg
