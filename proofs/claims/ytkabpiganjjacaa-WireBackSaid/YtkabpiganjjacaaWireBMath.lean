/- The plain law of WireBack: what was written is read as it was. No program in sight. -/
import Derived.Test.YtkabpiganjjacaaWireM
import Derived.Test.YtkabpiganjjacaaWireWritesW
namespace Go.Proofs.Ytkabpiganjjacaa
namespace Wire
theorem ofNat_toNat {m : Nat} (h : m < 256) : (UInt8.ofNat m).toNat = m := by rw [UInt8.toNat_ofNat']; omega
theorem rd_num (k : Nat) : ∀ (i n m : Nat) (r : List UInt8), i + k = 9 → m < 128 ^ (k + 1) → m * 128 ^ i < 18446744073709551616 → (0 < i → m ≠ 0) →
    rd i n (numF k m ++ r) = (n + m * 128 ^ i, i + (numF k m).length, 0) := by
  induction k with
  | zero =>
    intro i n m r hik hm hb h0
    obtain rfl : i = 9 := by omega
    have e9 : (128 : Nat) ^ 9 = 9223372036854775808 := by decide
    have h1 : m ≤ 1 := by rw [e9] at hb; omega
    have hc := ofNat_toNat (m := m) (by omega)
    unfold numF
    rw [List.singleton_append, rd_end (by rw [hc]; omega) (by rw [hc]; omega), hc, Nat.mod_eq_of_lt (by omega : m < 128)]
    rfl
  | succ k ih =>
    intro i n m r hik hm hb h0
    by_cases hs : m < 128
    · have hc := ofNat_toNat (m := m) (by omega)
      rw [numF_small hs, List.singleton_append, rd_end (by rw [hc]; omega) (by rw [hc]; omega), hc, Nat.mod_eq_of_lt hs]
      rfl
    · have hc := ofNat_toNat (m := m % 128 + 128) (by omega)
      have e1 : m / 128 * 128 ^ (i + 1) + m % 128 * 128 ^ i = m * 128 ^ i := by
        rw [Nat.pow_succ, Nat.mul_comm (128 ^ i) 128, ← Nat.mul_assoc, ← Nat.add_mul]
        congr 1
        omega
      rw [numF_great (by omega), List.cons_append, rd_more (by rw [hc]; omega) (by rw [hc]; omega), hc, show (m % 128 + 128) % 128 = m % 128 by omega]
      rw [ih (i + 1) _ (m / 128) r (by omega) (by
        rw [Nat.pow_succ] at hm
        omega) (by omega) (by omega)]
      rw [List.length_cons, show n + m % 128 * 128 ^ i + m / 128 * 128 ^ (i + 1) = n + m * 128 ^ i by omega, show i + 1 + (numF k (m / 128)).length = i + ((numF k (m / 128)).length + 1) by omega]
theorem readNum_num {n : Nat} (h : n < 18446744073709551616) (r : List UInt8) : readNum (num n ++ r) = (n, (num n).length, 0) := by
  unfold readNum num
  rw [rd_num 9 0 0 n r rfl (by have e : (128 : Nat) ^ (9 + 1) = 1180591620717411303424 := by decide
                               omega) (by omega) (by omega)]
  simp
theorem un_fix (k : Nat) : ∀ n, un (fixF k n) = n % 256 ^ k := by
  induction k with
  | zero => intro n; simp [fixF, un, Nat.mod_one]
  | succ k ih =>
    intro n
    have h : n % 256 ^ (k + 1) = n % 256 + 256 * (n / 256 % 256 ^ k) := by rw [Nat.pow_succ, Nat.mul_comm, Nat.mod_mul]
    simp only [fixF, un, ih]
    rw [h, UInt8.toNat_ofNat']
theorem readFix_fix {n : Nat} (h : n < 18446744073709551616) (r : List UInt8) : readFix (fix n ++ r) = (n, 8, 0) := by
  have hl : (fix n).length = 8 := fixF_length 8 n
  unfold readFix
  rw [if_neg (by rw [List.length_append]; omega), List.take_append_of_le_length (by omega), List.take_of_length_le (by omega)]
  unfold fix
  rw [un_fix, Nat.mod_eq_of_lt (by have e : (256 : Nat) ^ 8 = 18446744073709551616 := by decide
                                   omega)]
theorem readText_text {s : List UInt8} (h : s.length ≤ 65535) (r : List UInt8) : readText (text s ++ r) = (s, (text s).length, 0) := by
  have hn := readNum_num (n := s.length) (by omega) (s ++ r)
  unfold readText text
  rw [List.append_assoc, hn]
  rw [if_neg (by simp), if_neg (by simp only; omega), if_neg (by simp only [List.length_append]; omega)]
  simp
theorem zag_zig {x : Int} (_h0 : -9223372036854775808 ≤ x) (_h1 : x ≤ 9223372036854775807) : zag (zig x) = x := by
  unfold zag zig
  split <;> split <;> omega
theorem zig_lt {x : Int} (h0 : -9223372036854775808 ≤ x) (h1 : x ≤ 9223372036854775807) : zig x < 18446744073709551616 := by
  unfold zig; split <;> omega
end Wire
theorem wants_prefix (ps : List Part) {j n : Nat} (h : j ≤ n) : ∃ t, wants ps n = wants ps j ++ t := by
  induction n with
  | zero => obtain rfl : j = 0 := by omega
            exact ⟨[], by simp⟩
  | succ n ih =>
    by_cases e : j = n + 1
    · subst e; exact ⟨[], by simp⟩
    · obtain ⟨t, ht⟩ := ih (by omega)
      exact ⟨t ++ (ps.getD n default).bytes.1, by rw [← List.append_assoc, ← ht]; rfl⟩
/-- what is left behind the first parts -/
def rest (ps : List Part) (j : Nat) : List UInt8 := (wants ps ps.length).drop (wants ps j).length
theorem rest_zero (ps : List Part) : rest ps 0 = wants ps ps.length := by simp [rest, wants]
theorem rest_end (ps : List Part) : rest ps ps.length = [] := by simp [rest]
theorem rest_step (ps : List Part) {j : Nat} (h : j < ps.length) : rest ps j = (ps.getD j default).bytes.1 ++ rest ps (j + 1) := by
  obtain ⟨t, ht⟩ := wants_prefix ps (show j + 1 ≤ ps.length by omega)
  have e : wants ps (j + 1) = wants ps j ++ (ps.getD j default).bytes.1 := rfl
  unfold rest
  rw [ht, List.drop_left, e, List.append_assoc, List.drop_left]
end Go.Proofs.Ytkabpiganjjacaa
