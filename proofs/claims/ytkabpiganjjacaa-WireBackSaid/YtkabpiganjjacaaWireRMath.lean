/- The plain law of reading: what is read of any bytes. No program in sight. -/
import Derived.Test.YtkabpiganjjacaaWireMath
namespace Go.Proofs.Ytkabpiganjjacaa
namespace Wire

/-- a number, how many bytes it has, and why it is none (i: how many bytes are behind; n: their number) -/
def rd : Nat → Nat → List UInt8 → Nat × Nat × Nat
  | _, _, [] => (0, 0, 1)
  | i, n, c :: r => if (0 < i ∧ c.toNat = 0) ∨ (9 ≤ i ∧ 1 < c.toNat) then (0, 0, 2) else if c.toNat < 128 then (n + c.toNat % 128 * 128 ^ i, i + 1, 0) else rd (i + 1) (n + c.toNat % 128 * 128 ^ i) r
def readNum (l : List UInt8) : Nat × Nat × Nat := rd 0 0 l
theorem rd_bad {i n : Nat} {c : UInt8} {r : List UInt8} (h : (0 < i ∧ c.toNat = 0) ∨ (9 ≤ i ∧ 1 < c.toNat)) : rd i n (c :: r) = (0, 0, 2) := if_pos h
theorem rd_end {i n : Nat} {c : UInt8} {r : List UInt8} (h : ¬ ((0 < i ∧ c.toNat = 0) ∨ (9 ≤ i ∧ 1 < c.toNat))) (h2 : c.toNat < 128) : rd i n (c :: r) = (n + c.toNat % 128 * 128 ^ i, i + 1, 0) := (if_neg h).trans (if_pos h2)
theorem rd_more {i n : Nat} {c : UInt8} {r : List UInt8} (h : ¬ ((0 < i ∧ c.toNat = 0) ∨ (9 ≤ i ∧ 1 < c.toNat))) (h2 : ¬ c.toNat < 128) : rd i n (c :: r) = rd (i + 1) (n + c.toNat % 128 * 128 ^ i) r := (if_neg h).trans (if_neg h2)
/-- what a byte adds stays in its place -/
theorem rd_small {i n : Nat} {c : UInt8} (hi : i ≤ 9) (hn : n < 128 ^ i) (h : ¬ (9 ≤ i ∧ 1 < c.toNat)) : n + c.toNat % 128 * 128 ^ i < 18446744073709551616 := by
  by_cases h9 : i = 9
  · subst h9
    have : c.toNat ≤ 1 := by omega
    have e : c.toNat % 128 * 128 ^ 9 ≤ 1 * 128 ^ 9 := Nat.mul_le_mul_right _ (by omega)
    have e2 : (128 : Nat) ^ 9 = 9223372036854775808 := by decide
    omega
  · have h8 : 128 ^ (i + 1) ≤ 128 ^ 9 := Nat.pow_le_pow_right (by omega) (by omega)
    have e : c.toNat % 128 * 128 ^ i ≤ 127 * 128 ^ i := Nat.mul_le_mul_right _ (by omega)
    have e2 : (128 : Nat) ^ 9 = 9223372036854775808 := by decide
    rw [Nat.pow_succ] at h8
    omega
theorem rd_step {i n : Nat} {c : UInt8} (hn : n < 128 ^ i) : n + c.toNat % 128 * 128 ^ i < 128 ^ (i + 1) := by
  have e : c.toNat % 128 * 128 ^ i ≤ 127 * 128 ^ i := Nat.mul_le_mul_right _ (by omega)
  rw [Nat.pow_succ]
  omega
/-- the number is one of 64 bits, and its bytes are there -/
theorem rd_fits (l : List UInt8) : ∀ (i n : Nat), i ≤ 9 → n < 128 ^ i → (rd i n l).1 < 18446744073709551616 ∧ (rd i n l).2.1 ≤ i + l.length ∧ ((rd i n l).2.2 = 0 ∨ (rd i n l).2.2 = 1 ∨ (rd i n l).2.2 = 2) := by
  induction l with
  | nil => intro i n _ _; simp [rd]
  | cons c r ih =>
    intro i n hi hn
    by_cases h : (0 < i ∧ c.toNat = 0) ∨ (9 ≤ i ∧ 1 < c.toNat)
    · rw [rd_bad h]; simp
    · have hs := rd_small (c := c) hi hn (by omega)
      by_cases h2 : c.toNat < 128
      · rw [rd_end h h2]; simp; omega
      · rw [rd_more h h2]
        have := ih (i + 1) _ (by omega) (rd_step (c := c) hn)
        simp only [List.length_cons]
        omega
theorem readNum_fits (l : List UInt8) : (readNum l).1 < 18446744073709551616 ∧ (readNum l).2.1 ≤ l.length ∧ ((readNum l).2.2 = 0 ∨ (readNum l).2.2 = 1 ∨ (readNum l).2.2 = 2) := by
  have := rd_fits l 0 0 (by omega) (by decide)
  unfold readNum; omega

theorem put_shift (m x k : Nat) (hm : m < 2 ^ k) (hx : x * 2 ^ k < 18446744073709551616) (hm2 : m < 18446744073709551616) :
    bits BinOp.or IntKind.u64 (m : Int) (IntKind.u64.wrap ((x : Int) * 2 ^ k)) = ((m + x * 2 ^ k : Nat) : Int) := by
  have e : IntKind.u64.wrap ((x : Int) * 2 ^ k) = ((x * 2 ^ k : Nat) : Int) := by
    rw [IntKind.wrap_u64]
    have e1 : (x : Int) * 2 ^ k = ((x * 2 ^ k : Nat) : Int) := by rw [Int.natCast_mul, Int.natCast_pow]; rfl
    rw [e1]
    generalize x * 2 ^ k = q at *
    omega
  rw [e, u64_or_nat _ _ hm2 hx]
  apply congrArg
  rw [Nat.or_comm, Nat.mul_comm x, ← Nat.two_pow_add_eq_or_of_lt hm x, Nat.add_comm]
theorem and127 (c : Nat) (hc : c < 256) : bits BinOp.and IntKind.u8 (c : Int) 127 = ((c % 128 : Nat) : Int) := by
  rw [show (127 : Int) = ((127 : Nat) : Int) from rfl, u8_and_nat c 127 hc (by decide)]
  apply congrArg
  exact Nat.and_two_pow_sub_one_eq_mod c 7
theorem pow128 (j : Nat) : (128 : Nat) ^ j = 2 ^ (7 * j) := by rw [Nat.pow_mul]
theorem put_byte {j m : Nat} {c : UInt8} (hj : j ≤ 9) (hm : m < 128 ^ j) (h : ¬ (9 ≤ j ∧ 1 < c.toNat)) :
    bits BinOp.or IntKind.u64 (m : Int) (IntKind.u64.wrap (IntKind.u64.wrap (bits BinOp.and IntKind.u8 (c.toNat : Int) 127) * 2 ^ (7 * j))) = ((m + c.toNat % 128 * 128 ^ j : Nat) : Int) := by
  have hs := rd_small hj hm h
  have hw : IntKind.u64.wrap ((c.toNat % 128 : Nat) : Int) = ((c.toNat % 128 : Nat) : Int) := by rw [IntKind.wrap_u64]; omega
  rw [and127 _ c.toNat_lt, hw]
  rw [pow128] at *
  exact put_shift _ _ _ hm (by omega) (by omega)
theorem put_byte0 {m : Nat} {c : UInt8} (hm : m < 128 ^ 0) :
    bits BinOp.or IntKind.u64 (m : Int) (IntKind.u64.wrap (IntKind.u64.wrap (bits BinOp.and IntKind.u8 (c.toNat : Int) 127))) = ((m + c.toNat % 128 * 128 ^ 0 : Nat) : Int) := by
  have := put_byte (j := 0) (m := m) (c := c) (by omega) hm (by omega)
  rw [← this]; simp
theorem put_byte9 {m : Nat} {c : UInt8} (hm : m < 128 ^ 9) (h : ¬ (9 ≤ 9 ∧ 1 < c.toNat)) :
    bits BinOp.or IntKind.u64 (m : Int) (IntKind.u64.wrap (IntKind.u64.wrap (bits BinOp.and IntKind.u8 (c.toNat : Int) 127) * 9223372036854775808)) = ((m + c.toNat % 128 * 128 ^ 9 : Nat) : Int) := by
  have := put_byte (j := 9) (m := m) (c := c) (by omega) hm h
  rw [← this]; rfl
theorem mul_byte {m c p : Nat} (h : m + c % 128 * p < 18446744073709551616) :
    IntKind.u64.wrap ((m : Int) + IntKind.u64.wrap ((c : Int) % 128 * (p : Int))) = ((m + c % 128 * p : Nat) : Int) := by
  have e1 : (c : Int) % 128 * (p : Int) = ((c % 128 * p : Nat) : Int) := by rw [Int.natCast_mul]; rfl
  rw [e1, IntKind.wrap_u64, IntKind.wrap_u64]
  generalize c % 128 * p = q at *
  omega
theorem mul_worth {j : Nat} (hj : j < 9) : IntKind.u64.wrap (((128 ^ j : Nat) : Int) * 128) = ((128 ^ (j + 1) : Nat) : Int) := by
  have h8 : 128 ^ (j + 1) ≤ 128 ^ 9 := Nat.pow_le_pow_right (by omega) (by omega)
  have e2 : (128 : Nat) ^ 9 = 9223372036854775808 := by decide
  rw [Nat.pow_succ] at *
  rw [IntKind.wrap_u64]
  generalize 128 ^ j = q at *
  omega
theorem pow256 (j : Nat) : (256 : Nat) ^ j = 2 ^ (8 * j) := by rw [Nat.pow_mul]
theorem put8 {j m c : Nat} (hj : j ≤ 7) (hm : m < 256 ^ j) (hc : c < 256) :
    bits BinOp.or IntKind.u64 (m : Int) (IntKind.u64.wrap ((c : Int) * 2 ^ (8 * j))) = ((m + c * 256 ^ j : Nat) : Int) := by
  have h8 : 256 ^ j ≤ 256 ^ 7 := Nat.pow_le_pow_right (by omega) hj
  have e : c * 256 ^ j ≤ 255 * 256 ^ j := Nat.mul_le_mul_right _ (by omega)
  have e2 : (256 : Nat) ^ 7 = 72057594037927936 := by decide
  have hx : c * 256 ^ j < 18446744073709551616 := by omega
  have hm2 : m < 18446744073709551616 := by omega
  rw [pow256] at *
  exact put_shift _ _ _ hm hx hm2
theorem put8_0 {c : Nat} (hc : c < 256) : bits BinOp.or IntKind.u64 0 (c : Int) = ((0 + c * 256 ^ 0 : Nat) : Int) := by
  rw [show (0 : Int) = ((0 : Nat) : Int) from rfl, u64_or_nat 0 c (by decide) (by omega)]
  apply congrArg
  simp
theorem horner {m c : Nat} (hm : m < 72057594037927936) (hc : c < 256) : IntKind.u64.wrap (IntKind.u64.wrap ((m : Int) * 256) + (c : Int)) = ((c + 256 * m : Nat) : Int) := by
  rw [IntKind.wrap_u64, IntKind.wrap_u64]; omega
/-- eight bytes' number -/
def un : List UInt8 → Nat
  | [] => 0
  | c :: r => c.toNat + 256 * un r
theorem un_lt (l : List UInt8) : un l < 256 ^ l.length := by
  induction l with
  | nil => simp [un]
  | cons c r ih =>
    have : c.toNat < 256 := c.toNat_lt
    simp only [un, List.length_cons, Nat.pow_succ]
    omega
theorem un_append (a : List UInt8) (c : UInt8) : un (a ++ [c]) = un a + c.toNat * 256 ^ a.length := by
  induction a with
  | nil => simp [un]
  | cons d a ih => simp only [List.cons_append, un, ih, List.length_cons, Nat.pow_succ]; rw [Nat.mul_add, Nat.add_assoc, Nat.mul_left_comm, Nat.mul_comm 256 (256 ^ a.length)]
def readFix (l : List UInt8) : Nat × Nat × Nat := if l.length < 8 then (0, 0, 1) else (un (l.take 8), 8, 0)
def readText (l : List UInt8) : List UInt8 × Nat × Nat :=
  if (readNum l).2.2 ≠ 0 then ([], 0, (readNum l).2.2) else if 65535 < (readNum l).1 then ([], 0, 3) else if l.length < (readNum l).2.1 + (readNum l).1 then ([], 0, 1)
  else ((l.drop (readNum l).2.1).take (readNum l).1, (readNum l).2.1 + (readNum l).1, 0)
theorem readFix_fits (l : List UInt8) : (readFix l).2.1 ≤ l.length := by
  unfold readFix
  split
  · simp
  · simp; omega
theorem readFix_lt (l : List UInt8) : (readFix l).1 < 18446744073709551616 := by
  unfold readFix
  split
  · simp
  · have := un_lt (l.take 8)
    have h8 : 256 ^ (l.take 8).length ≤ 256 ^ 8 := Nat.pow_le_pow_right (by omega) (by rw [List.length_take]; omega)
    have e2 : (256 : Nat) ^ 8 = 18446744073709551616 := by decide
    simp only; omega
theorem readText_fits (l : List UInt8) : (readText l).2.1 ≤ l.length := by
  unfold readText
  split
  · simp
  split
  · simp
  split
  · simp
  · simp only; omega
end Wire
end Go.Proofs.Ytkabpiganjjacaa
