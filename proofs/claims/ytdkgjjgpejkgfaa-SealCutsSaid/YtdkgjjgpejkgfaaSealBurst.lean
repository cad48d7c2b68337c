/- The plain law: a change of the bytes of one word in a sealed text is found, unless the word is 0. No program in sight. -/
import Derived.Test.YtdkgjjgpejkgfaaSealMath
namespace Go.Proofs.Ytdkgjjgpejkgfaa
namespace Crc

theorem ofNat_xor (a b : Nat) : UInt8.ofNat (a ^^^ b) = UInt8.ofNat a ^^^ UInt8.ofNat b := by
  apply UInt8.toNat.inj
  rw [UInt8.toNat_xor, UInt8.toNat_ofNat', UInt8.toNat_ofNat', UInt8.toNat_ofNat', Nat.xor_mod_two_pow]
theorem xor_div (a b k : Nat) : (a ^^^ b) / 2 ^ k = a / 2 ^ k ^^^ b / 2 ^ k := by
  have := Nat.shiftRight_xor_distrib (a := a) (b := b) (i := k)
  simpa only [Nat.shiftRight_eq_div_pow] using this
/-- any four bytes are a number's -/
theorem exists_four (a b c d : UInt8) : ∃ m, m < 2 ^ 32 ∧ four m = [a, b, c, d] := by
  have ha := UInt8.toNat_lt a
  have hb := UInt8.toNat_lt b
  have hc := UInt8.toNat_lt c
  have hd := UInt8.toNat_lt d
  refine ⟨a.toNat + 256 * b.toNat + 65536 * c.toNat + 16777216 * d.toNat, by omega, ?_⟩
  unfold four
  simp only [List.cons.injEq, and_true]
  refine ⟨?_, ?_, ?_, ?_⟩ <;> apply UInt8.toNat.inj <;> rw [UInt8.toNat_ofNat'] <;> omega
theorem exists_four' (l : List UInt8) (h : l.length = 4) : ∃ m, m < 2 ^ 32 ∧ four m = l := by
  match l, h with
  | [a, b, c, d], _ => exact exists_four a b c d
theorem four_xor (m x : Nat) : four (m ^^^ x) = [UInt8.ofNat m ^^^ UInt8.ofNat x, UInt8.ofNat (m / 256) ^^^ UInt8.ofNat (x / 256), UInt8.ofNat (m / 65536) ^^^ UInt8.ofNat (x / 65536), UInt8.ofNat (m / 16777216) ^^^ UInt8.ofNat (x / 16777216)] := by
  unfold four
  rw [show (256 : Nat) = 2 ^ 8 from rfl, show (65536 : Nat) = 2 ^ 16 from rfl, show (16777216 : Nat) = 2 ^ 24 from rfl]
  simp only [xor_div, ofNat_xor]
/-- the sum over a text of which one word was turned -/
theorem crc_turned (r : Nat) (a b : List UInt8) (m x : Nat) (hm : m < 2 ^ 32) (hx : x < 2 ^ 32) :
    crc r (a ++ four (m ^^^ x) ++ b) = crc r (a ++ four m ++ b) ^^^ stN (8 * b.length + 32) x := by
  rw [crc_append, crc_append, crc_append, crc_append, crc_four _ _ (xor_lt hm hx), crc_four _ _ hm, ← Nat.xor_assoc, stN_xor, crc_xor, ← stN_add]
/-- what was sealed, and then turned by a word, is sealed just if the word is 0 -/
theorem sealed_turned (l a b : List UInt8) (m x : Nat) (hm : m < 2 ^ 32) (hx : x < 2 ^ 32) (hl : sealed l = a ++ four m ++ b) (l' t' : List UInt8) (ht : t'.length = 4) (hl' : a ++ four (m ^^^ x) ++ b = l' ++ t') :
    four (sum l') = t' ↔ x = 0 := by
  obtain ⟨q, hq, rfl⟩ := exists_four' t' ht
  have h0 : crc 4294967295 (a ++ four m ++ b) = stN 32 4294967295 := by rw [← hl]; exact (sealed_iff l _ (sum_lt l)).1 rfl
  rw [sealed_iff l' q hq, ← hl', crc_turned _ _ _ _ _ hm hx, h0]
  constructor
  · intro h
    have h1 : stN 32 4294967295 ^^^ (stN 32 4294967295 ^^^ stN (8 * b.length + 32) x) = stN 32 4294967295 ^^^ stN 32 4294967295 := congrArg _ h
    rw [← Nat.xor_assoc, Nat.xor_self, Nat.zero_xor] at h1
    exact stN_zero hx h1
  · rintro rfl
    have : ∀ k, stN k 0 = 0 := by
      intro k
      induction k with
      | zero => rfl
      | succ k ih => show st (stN k 0) = 0; rw [ih]; rfl
    rw [this, Nat.xor_zero]
end Crc
end Go.Proofs.Ytdkgjjgpejkgfaa
