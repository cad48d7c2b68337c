/- The plain law of the encoding: numbers, ints, floats and texts as bytes, and what is read of bytes. No program in sight. -/
import Derived.Test.YtkabpiganjjacaaKit
namespace Go.Proofs.Ytkabpiganjjacaa
namespace Wire

/-- a number's bytes: seven bits a byte, the lowest first (k: how many bytes may still follow) -/
def numF : Nat → Nat → List UInt8
  | 0, n => [UInt8.ofNat n]
  | k + 1, n => if n < 128 then [UInt8.ofNat n] else UInt8.ofNat (n % 128 + 128) :: numF k (n / 128)
def num (n : Nat) : List UInt8 := numF 9 n
theorem numF_small {k n : Nat} (h : n < 128) : numF k n = [UInt8.ofNat n] := by
  cases k with
  | zero => rfl
  | succ k => exact if_pos h
theorem numF_great {k n : Nat} (h : 128 ≤ n) : numF (k + 1) n = UInt8.ofNat (n % 128 + 128) :: numF k (n / 128) := if_neg (by omega)
theorem numF_length (k n : Nat) : (numF k n).length ≤ k + 1 := by
  induction k generalizing n with
  | zero => simp [numF]
  | succ k ih =>
    unfold numF
    split
    · simp
    · have := ih (n / 128); simp; omega
theorem num_length (n : Nat) : (num n).length ≤ 10 := numF_length 9 n
/-- an int's number: its sign in the lowest bit -/
def zig (n : Int) : Nat := if 0 ≤ n then (2 * n).toNat else (2 * (-n - 1) + 1).toNat
def int (n : Int) : List UInt8 := num (zig n)
/-- eight bytes, the lowest first -/
def fixF : Nat → Nat → List UInt8
  | 0, _ => []
  | k + 1, n => UInt8.ofNat n :: fixF k (n / 256)
def fix (n : Nat) : List UInt8 := fixF 8 n
theorem fixF_length (k n : Nat) : (fixF k n).length = k := by
  induction k generalizing n with
  | zero => rfl
  | succ k ih => simp [fixF, ih]
def text (s : List UInt8) : List UInt8 := num s.length ++ s

theorem or128 : ∀ x : Nat, x < 256 → x ||| 128 = x % 128 + 128 := by decide +kernel
theorem byte_or (n : Nat) : bits BinOp.or IntKind.u8 ((n : Int) % 256) 128 = (((UInt8.ofNat (n % 128 + 128)).toNat : Nat) : Int) := by
  have h := u8_or_nat (n % 256) 128 (by omega) (by decide)
  rw [or128 _ (by omega)] at h
  rw [UInt8.toNat_ofNat']
  have e : (n : Int) % 256 = ((n % 256 : Nat) : Int) := by omega
  rw [e, show (128 : Int) = ((128 : Nat) : Int) from rfl, h]
  omega
theorem byte_mod (n : Nat) : (n : Int) % 256 = (((UInt8.ofNat n).toNat : Nat) : Int) := by
  rw [UInt8.toNat_ofNat']; omega
theorem zig_bits (n : Int) (h0 : -9223372036854775808 ≤ n) (h1 : n ≤ 9223372036854775807) :
    bits BinOp.xor IntKind.u64 (IntKind.u64.wrap (RowKit.wrap64 (n * 2))) (IntKind.u64.wrap (n / 9223372036854775808)) = (zig n : Nat) := by
  rw [IntKind.wrap_u64, IntKind.wrap_u64]
  unfold RowKit.wrap64 zig
  by_cases h : 0 ≤ n
  · rw [if_pos h]
    have e1 : ((n * 2 + 9223372036854775808) % 18446744073709551616 - 9223372036854775808) % 18446744073709551616 = ((2 * n).toNat : Int) := by omega
    have e2 : n / 9223372036854775808 % 18446744073709551616 = ((0 : Nat) : Int) := by omega
    rw [e1, e2, u64_xor_nat _ _ (by omega) (by decide), Nat.xor_zero]
  · rw [if_neg h]
    have e1 : ((n * 2 + 9223372036854775808) % 18446744073709551616 - 9223372036854775808) % 18446744073709551616 = ((2 * n + 18446744073709551616).toNat : Int) := by omega
    have e2 : n / 9223372036854775808 % 18446744073709551616 = ((18446744073709551615 : Nat) : Int) := by omega
    rw [e1, e2, u64_xor_nat _ _ (by omega) (by decide)]
    have := xor_ones 64 (2 * n + 18446744073709551616).toNat (by omega)
    rw [show (2 ^ 64 - 1 : Nat) = 18446744073709551615 from rfl] at this
    rw [this]
    omega
end Wire
end Go.Proofs.Ytkabpiganjjacaa
