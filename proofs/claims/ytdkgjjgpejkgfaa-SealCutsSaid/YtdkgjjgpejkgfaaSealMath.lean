/- The plain law of the checksum: the shift register, its linearity, and that no change of up to four bytes side by side is missed. No program in sight. -/
namespace Go.Proofs.Ytdkgjjgpejkgfaa
namespace Crc

/-- one step of the register -/
def st (r : Nat) : Nat := if r % 2 = 0 then r / 2 else (r / 2) ^^^ 2197175160
/-- k steps -/
def stN : Nat → Nat → Nat
  | 0, r => r
  | k + 1, r => st (stN k r)
/-- a byte comes -/
def byte (r c : Nat) : Nat := stN 8 (r ^^^ c)
def crc (r : Nat) (l : List UInt8) : Nat := l.foldl (fun r c => byte r c.toNat) r

theorem xor_lt {a b n : Nat} (ha : a < 2 ^ n) (hb : b < 2 ^ n) : a ^^^ b < 2 ^ n := Nat.xor_lt_two_pow ha hb
theorem xor_div2 (a b : Nat) : (a ^^^ b) / 2 = a / 2 ^^^ b / 2 := by
  have := Nat.shiftRight_xor_distrib (a := a) (b := b) (i := 1)
  simpa [Nat.shiftRight_succ] using this
theorem xor_mod2 (a b : Nat) : (a ^^^ b) % 2 = if a % 2 = b % 2 then 0 else 1 := by
  have h : (a ^^^ b) % 2 = (a % 2) ^^^ (b % 2) := Nat.xor_mod_two_pow (n := 1)
  rw [h]
  rcases Nat.mod_two_eq_zero_or_one a with x | x <;> rcases Nat.mod_two_eq_zero_or_one b with y | y <;> simp [x, y]

theorem st_lt {r : Nat} (h : r < 2 ^ 32) : st r < 2 ^ 32 := by
  unfold st
  split
  · omega
  · exact xor_lt (by omega) (by decide)
theorem stN_lt {k r : Nat} (h : r < 2 ^ 32) : stN k r < 2 ^ 32 := by
  induction k with
  | zero => exact h
  | succ k ih => exact st_lt ih
theorem st_xor (a b : Nat) : st (a ^^^ b) = st a ^^^ st b := by
  unfold st
  rw [xor_mod2, xor_div2]
  rcases Nat.mod_two_eq_zero_or_one a with x | x <;> rcases Nat.mod_two_eq_zero_or_one b with y | y <;> simp [x, y]
  · ac_rfl
  · ac_rfl
  · rw [show a / 2 ^^^ 2197175160 ^^^ (b / 2 ^^^ 2197175160) = a / 2 ^^^ b / 2 ^^^ (2197175160 ^^^ 2197175160) from by ac_rfl, Nat.xor_self, Nat.xor_zero]
theorem xor_eq_zero {a b : Nat} (h : a ^^^ b = 0) : a = b := by
  have : a ^^^ b ^^^ b = b := by rw [h, Nat.zero_xor]
  rwa [Nat.xor_assoc, Nat.xor_self, Nat.xor_zero] at this
theorem stN_xor (k a b : Nat) : stN k (a ^^^ b) = stN k a ^^^ stN k b := by
  induction k with
  | zero => rfl
  | succ k ih => show st (stN k (a ^^^ b)) = _; rw [ih, st_xor]; rfl
theorem stN_add (j k r : Nat) : stN (j + k) r = stN j (stN k r) := by
  induction j with
  | zero => simp [stN]
  | succ j ih => rw [Nat.add_right_comm]; show st _ = st _; rw [ih]
theorem stN_succ' (k r : Nat) : stN (k + 1) r = stN k (st r) := by rw [stN_add k 1]; rfl
theorem stN_mul (k a : Nat) : stN k (a * 2 ^ k) = a := by
  induction k generalizing a with
  | zero => simp [stN]
  | succ k ih =>
    rw [stN_succ']
    have : st (a * 2 ^ (k + 1)) = a * 2 ^ k := by
      unfold st
      have e : a * 2 ^ (k + 1) = 2 * (a * 2 ^ k) := by rw [Nat.pow_succ]; ac_rfl
      rw [e]; simp
    rw [this, ih]
theorem st_zero {r : Nat} (h : r < 2 ^ 32) (h0 : st r = 0) : r = 0 := by
  unfold st at h0
  split at h0
  · omega
  · have := xor_eq_zero h0; omega
theorem stN_zero {k r : Nat} (h : r < 2 ^ 32) (h0 : stN k r = 0) : r = 0 := by
  induction k with
  | zero => exact h0
  | succ k ih => exact ih (st_zero (stN_lt h) h0)
theorem stN_inj {k a b : Nat} (ha : a < 2 ^ 32) (hb : b < 2 ^ 32) (h : stN k a = stN k b) : a = b := by
  have : stN k (a ^^^ b) = 0 := by rw [stN_xor, h, Nat.xor_self]
  exact xor_eq_zero (stN_zero (xor_lt ha hb) this)
theorem split8 (x : Nat) : (x % 256) ^^^ (x / 256 * 2 ^ 8) = x := by
  apply Nat.eq_of_testBit_eq
  intro i
  rw [Nat.testBit_xor, show (256 : Nat) = 2 ^ 8 from rfl, Nat.testBit_mod_two_pow, Nat.testBit_mul_two_pow, Nat.testBit_div_two_pow]
  by_cases h : i < 8
  · simp [h, show ¬ 8 ≤ i from by omega]
  · simp [h, show 8 ≤ i from by omega, show i - 8 + 8 = i from by omega]
/-- the table's way -/
theorem byte_table (r c : Nat) (hc : c < 256) : byte r c = stN 8 ((r % 256) ^^^ c) ^^^ r / 256 := by
  unfold byte
  rw [← split8 (r ^^^ c), stN_xor, stN_mul]
  have h1 : (r ^^^ c) % 256 = (r % 256) ^^^ c := by
    rw [show (256 : Nat) = 2 ^ 8 from rfl, Nat.xor_mod_two_pow, Nat.mod_eq_of_lt (a := c) hc]
  have h2 : (r ^^^ c) / 256 = r / 256 := by
    have := Nat.shiftRight_xor_distrib (a := r) (b := c) (i := 8)
    simp only [Nat.shiftRight_eq_div_pow] at this
    rw [show (256 : Nat) = 2 ^ 8 from rfl, this, Nat.div_eq_of_lt (a := c) hc, Nat.xor_zero]
  rw [h1, h2]
/-- the bitwise way: the register and what is left of the byte after k bits -/
def refN (r c : Nat) : Nat → Nat
  | 0 => r
  | k + 1 => if refN r c k % 2 = c / 2 ^ k % 2 then refN r c k / 2 else refN r c k / 2 ^^^ 2197175160
theorem refN_eq (r c k : Nat) : refN r c k ^^^ c / 2 ^ k = stN k (r ^^^ c) := by
  induction k with
  | zero => simp [refN, stN]
  | succ k ih =>
    show _ = st (stN k (r ^^^ c))
    rw [← ih]
    have e : refN r c (k + 1) = if refN r c k % 2 = c / 2 ^ k % 2 then refN r c k / 2 else refN r c k / 2 ^^^ 2197175160 := rfl
    rw [e]
    unfold st
    rw [xor_mod2, xor_div2, Nat.div_div_eq_div_mul, ← Nat.pow_succ]
    by_cases h : refN r c k % 2 = c / 2 ^ k % 2
    · rw [if_pos h, if_pos h, if_pos rfl]
    · rw [if_neg h, if_neg h, if_neg (by decide)]
      ac_rfl
theorem refN_8 (r c : Nat) (hc : c < 256) : refN r c 8 = byte r c := by
  have := refN_eq r c 8
  rw [Nat.div_eq_of_lt (a := c) hc, Nat.xor_zero] at this
  exact this
theorem refN_lt {r : Nat} (h : r < 2 ^ 32) (c k : Nat) : refN r c k < 2 ^ 32 := by
  induction k with
  | zero => exact h
  | succ k ih =>
    unfold refN
    split
    · omega
    · exact xor_lt (by omega) (by decide)

theorem byte_lt {r c : Nat} (hr : r < 2 ^ 32) (hc : c < 256) : byte r c < 2 ^ 32 := stN_lt (xor_lt hr (by omega))
theorem crc_lt {r : Nat} (h : r < 2 ^ 32) (l : List UInt8) : crc r l < 2 ^ 32 := by
  induction l generalizing r with
  | nil => exact h
  | cons c l ih => exact ih (byte_lt h (UInt8.toNat_lt c))
theorem crc_append (r : Nat) (a b : List UInt8) : crc r (a ++ b) = crc (crc r a) b := List.foldl_append
theorem crc_snoc (r : Nat) (a : List UInt8) (c : UInt8) : crc r (a ++ [c]) = byte (crc r a) c.toNat := by rw [crc_append]; rfl

/-- linear in the register -/
theorem crc_xor (r q : Nat) (l : List UInt8) : crc (r ^^^ q) l = crc r l ^^^ stN (8 * l.length) q := by
  induction l generalizing r q with
  | nil => rfl
  | cons c l ih =>
    show crc (byte (r ^^^ q) c.toNat) l = crc (byte r c.toNat) l ^^^ _
    have : byte (r ^^^ q) c.toNat = byte r c.toNat ^^^ stN 8 q := by
      unfold byte
      rw [← stN_xor]; congr 1; ac_rfl
    rw [this, ih, ← stN_add]
    rfl

/-- the four bytes of a number, the lowest first -/
def four (n : Nat) : List UInt8 := [UInt8.ofNat n, UInt8.ofNat (n / 256), UInt8.ofNat (n / 65536), UInt8.ofNat (n / 16777216)]
theorem four_length (n : Nat) : (four n).length = 4 := rfl
theorem four_inj {a b : Nat} (ha : a < 2 ^ 32) (hb : b < 2 ^ 32) (h : four a = four b) : a = b := by
  unfold four at h
  simp only [List.cons.injEq, and_true] at h
  obtain ⟨h0, h1, h2, h3⟩ := h
  have e0 := congrArg UInt8.toNat h0
  have e1 := congrArg UInt8.toNat h1
  have e2 := congrArg UInt8.toNat h2
  have e3 := congrArg UInt8.toNat h3
  simp only [UInt8.toNat_ofNat'] at e0 e1 e2 e3
  omega
/-- four bytes that come are a word that comes -/
theorem crc_four (r n : Nat) (hn : n < 2 ^ 32) : crc r (four n) = stN 32 (r ^^^ n) := by
  have hx : r ^^^ n = ((((r ^^^ n % 256) ^^^ (n / 256 % 256) * 2 ^ 8) ^^^ (n / 65536 % 256) * 2 ^ 16) ^^^ (n / 16777216) * 2 ^ 24) := by
    have s0 := split8 n
    have s1 := split8 (n / 256)
    have s2 := split8 (n / 65536)
    have d1 : n / 256 / 256 = n / 65536 := by omega
    have d2 : n / 65536 / 256 = n / 16777216 := by omega
    rw [d1] at s1
    rw [d2] at s2
    have m (a b k : Nat) : (a ^^^ b) * 2 ^ k = a * 2 ^ k ^^^ b * 2 ^ k := by
      simp only [← Nat.shiftLeft_eq]; exact Nat.shiftLeft_xor_distrib
    have : n = n % 256 ^^^ (n / 256 % 256) * 2 ^ 8 ^^^ (n / 65536 % 256) * 2 ^ 16 ^^^ (n / 16777216) * 2 ^ 24 := by
      have e2 : n / 256 * 2 ^ 8 = (n / 256 % 256) * 2 ^ 8 ^^^ n / 65536 * 2 ^ 16 := by
        conv => lhs; rw [← s1]
        rw [m, Nat.mul_assoc]
      have e3 : n / 65536 * 2 ^ 16 = (n / 65536 % 256) * 2 ^ 16 ^^^ n / 16777216 * 2 ^ 24 := by
        conv => lhs; rw [← s2]
        rw [m, Nat.mul_assoc]
      conv => lhs; rw [← s0, e2, e3]
      simp only [Nat.xor_assoc]
    conv => lhs; rw [this]
    simp only [Nat.xor_assoc]
  have b3 : n / 16777216 < 256 := by omega
  unfold crc four
  simp only [List.foldl_cons, List.foldl_nil, UInt8.toNat_ofNat']
  rw [show n / 16777216 % 2 ^ 8 = n / 16777216 from Nat.mod_eq_of_lt b3]
  show byte (byte (byte (byte r (n % 256)) (n / 256 % 256)) (n / 65536 % 256)) (n / 16777216) = _
  have fold (q c k j : Nat) : byte (stN k q) c = stN (8 + k) (q ^^^ c * 2 ^ k) := by
    unfold byte; rw [stN_add 8 k, stN_xor k, stN_mul]
  rw [show byte r (n % 256) = stN 8 (r ^^^ n % 256) from rfl, fold _ _ 8 0, fold _ _ (8 + 8) 0, fold _ _ (8 + (8 + 8)) 0, hx]

/-- the checksum -/
def sum (l : List UInt8) : Nat := 4294967295 - crc 4294967295 l
theorem sub_eq_xor {x : Nat} (h : x < 2 ^ 32) : 4294967295 - x = x ^^^ 4294967295 := by
  have e : 2 ^ 32 - 1 - x = 2 ^ 32 - (x + 1) := by omega
  rw [show (4294967295 : Nat) = 2 ^ 32 - 1 from rfl, e]
  apply Nat.eq_of_testBit_eq
  intro i
  rw [Nat.testBit_two_pow_sub_succ h, Nat.testBit_xor, Nat.testBit_two_pow_sub_one]
  by_cases hi : i < 32
  · simp [hi]
  · have : x.testBit i = false := Nat.testBit_lt_two_pow (Nat.lt_of_lt_of_le h (Nat.pow_le_pow_right (by omega) (by omega)))
    simp [hi, this]
theorem sum_lt (l : List UInt8) : sum l < 2 ^ 32 := by unfold sum; omega
def sealed (l : List UInt8) : List UInt8 := l ++ four (sum l)
/-- what it comes to that a text and a word behind it are sealed -/
theorem sealed_iff (l : List UInt8) (n : Nat) (hn : n < 2 ^ 32) : four (sum l) = four n ↔ crc 4294967295 (l ++ four n) = stN 32 4294967295 := by
  have hc := crc_lt (r := 4294967295) (by decide) l
  rw [crc_append, crc_four _ _ hn]
  constructor
  · intro h
    have := four_inj (sum_lt l) hn h
    rw [← this]
    unfold sum
    rw [sub_eq_xor hc, ← Nat.xor_assoc, Nat.xor_self, Nat.zero_xor]
  · intro h
    have := stN_inj (xor_lt hc hn) (by decide) h
    have e : n = crc 4294967295 l ^^^ 4294967295 := by
      have h2 : crc 4294967295 l ^^^ (crc 4294967295 l ^^^ n) = crc 4294967295 l ^^^ 4294967295 := congrArg _ this
      rwa [← Nat.xor_assoc, Nat.xor_self, Nat.zero_xor] at h2
    unfold sum
    rw [sub_eq_xor hc, ← e]
end Crc
end Go.Proofs.Ytdkgjjgpejkgfaa
