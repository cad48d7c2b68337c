/- SlAll: several texts in one. -/
import Derived.Test.YtplkogjnmjjjgaaRows
import Derived.WalkKit
import Derived.ProofKit
import Derived.WalkLawsBesides
import Derived.WalkSpells
import Derived.Laws.Rows
import Derived.Laws.BitsAllLaws
import Derived.Below
import Derived.Outline
import Derived.Lib.Hide
import Derived.Laws.BytesArg
import Derived.Deep.RegionWith
import Derived.RegionTactic
import Derived.Deep.QuietTactic
import Derived.BigQuiet
import Derived.Lib.ConvBytes
import Derived.Lib.IndexBytes
import Derived.Lib.Strings
/- The plain law of the checksum: the shift register, its linearity, and that no change of up to four bytes side by side is missed. No program in sight. -/
namespace Go.Proofs.Ytplkogjnmjjjgaa.Sl
namespace Crc

/-- one step of the register -/
def st (r : Nat) : Nat := if r % 2 = 0 then r / 2 else (r / 2) ^^^ 2197175160
/-- k steps -/
def stN : Nat → Nat → Nat
  | 0, r => r
  | k + 1, r => st (stN k r)
/-- a byte comes -/
def byte (r c : Nat) : Nat := stN 8 (r ^^^ c)
def crc (r : Nat) (l : List UInt8) : Nat := l.foldl (fun r c => byte r c.toNat) r

theorem xor_lt {a b n : Nat} (ha : a < 2 ^ n) (hb : b < 2 ^ n) : a ^^^ b < 2 ^ n := Nat.xor_lt_two_pow ha hb
theorem xor_div2 (a b : Nat) : (a ^^^ b) / 2 = a / 2 ^^^ b / 2 := by
  have := Nat.shiftRight_xor_distrib (a := a) (b := b) (i := 1)
  simpa [Nat.shiftRight_succ] using this
theorem xor_mod2 (a b : Nat) : (a ^^^ b) % 2 = if a % 2 = b % 2 then 0 else 1 := by
  have h : (a ^^^ b) % 2 = (a % 2) ^^^ (b % 2) := Nat.xor_mod_two_pow (n := 1)
  rw [h]
  rcases Nat.mod_two_eq_zero_or_one a with x | x <;> rcases Nat.mod_two_eq_zero_or_one b with y | y <;> simp [x, y]

theorem st_lt {r : Nat} (h : r < 2 ^ 32) : st r < 2 ^ 32 := by
  unfold st
  split
  · omega
  · exact xor_lt (by omega) (by decide)
theorem stN_lt {k r : Nat} (h : r < 2 ^ 32) : stN k r < 2 ^ 32 := by
  induction k with
  | zero => exact h
  | succ k ih => exact st_lt ih
theorem st_xor (a b : Nat) : st (a ^^^ b) = st a ^^^ st b := by
  unfold st
  rw [xor_mod2, xor_div2]
  rcases Nat.mod_two_eq_zero_or_one a with x | x <;> rcases Nat.mod_two_eq_zero_or_one b with y | y <;> simp [x, y]
  · ac_rfl
  · ac_rfl
  · rw [show a / 2 ^^^ 2197175160 ^^^ (b / 2 ^^^ 2197175160) = a / 2 ^^^ b / 2 ^^^ (2197175160 ^^^ 2197175160) from by ac_rfl, Nat.xor_self, Nat.xor_zero]
theorem xor_eq_zero {a b : Nat} (h : a ^^^ b = 0) : a = b := by
  have : a ^^^ b ^^^ b = b := by rw [h, Nat.zero_xor]
  rwa [Nat.xor_assoc, Nat.xor_self, Nat.xor_zero] at this
theorem stN_xor (k a b : Nat) : stN k (a ^^^ b) = stN k a ^^^ stN k b := by
  induction k with
  | zero => rfl
  | succ k ih => show st (stN k (a ^^^ b)) = _; rw [ih, st_xor]; rfl
theorem stN_add (j k r : Nat) : stN (j + k) r = stN j (stN k r) := by
  induction j with
  | zero => simp [stN]
  | succ j ih => rw [Nat.add_right_comm]; show st _ = st _; rw [ih]
theorem stN_succ' (k r : Nat) : stN (k + 1) r = stN k (st r) := by rw [stN_add k 1]; rfl
theorem stN_mul (k a : Nat) : stN k (a * 2 ^ k) = a := by
  induction k generalizing a with
  | zero => simp [stN]
  | succ k ih =>
    rw [stN_succ']
    have : st (a * 2 ^ (k + 1)) = a * 2 ^ k := by
      unfold st
      have e : a * 2 ^ (k + 1) = 2 * (a * 2 ^ k) := by rw [Nat.pow_succ]; ac_rfl
      rw [e]; simp
    rw [this, ih]
theorem st_zero {r : Nat} (h : r < 2 ^ 32) (h0 : st r = 0) : r = 0 := by
  unfold st at h0
  split at h0
  · omega
  · have := xor_eq_zero h0; omega
theorem stN_zero {k r : Nat} (h : r < 2 ^ 32) (h0 : stN k r = 0) : r = 0 := by
  induction k with
  | zero => exact h0
  | succ k ih => exact ih (st_zero (stN_lt h) h0)
theorem stN_inj {k a b : Nat} (ha : a < 2 ^ 32) (hb : b < 2 ^ 32) (h : stN k a = stN k b) : a = b := by
  have : stN k (a ^^^ b) = 0 := by rw [stN_xor, h, Nat.xor_self]
  exact xor_eq_zero (stN_zero (xor_lt ha hb) this)
theorem split8 (x : Nat) : (x % 256) ^^^ (x / 256 * 2 ^ 8) = x := by
  apply Nat.eq_of_testBit_eq
  intro i
  rw [Nat.testBit_xor, show (256 : Nat) = 2 ^ 8 from rfl, Nat.testBit_mod_two_pow, Nat.testBit_mul_two_pow, Nat.testBit_div_two_pow]
  by_cases h : i < 8
  · simp [h, show ¬ 8 ≤ i from by omega]
  · simp [h, show 8 ≤ i from by omega, show i - 8 + 8 = i from by omega]
/-- the table's way -/
theorem byte_table (r c : Nat) (hc : c < 256) : byte r c = stN 8 ((r % 256) ^^^ c) ^^^ r / 256 := by
  unfold byte
  rw [← split8 (r ^^^ c), stN_xor, stN_mul]
  have h1 : (r ^^^ c) % 256 = (r % 256) ^^^ c := by
    rw [show (256 : Nat) = 2 ^ 8 from rfl, Nat.xor_mod_two_pow, Nat.mod_eq_of_lt (a := c) hc]
  have h2 : (r ^^^ c) / 256 = r / 256 := by
    have := Nat.shiftRight_xor_distrib (a := r) (b := c) (i := 8)
    simp only [Nat.shiftRight_eq_div_pow] at this
    rw [show (256 : Nat) = 2 ^ 8 from rfl, this, Nat.div_eq_of_lt (a := c) hc, Nat.xor_zero]
  rw [h1, h2]
/-- the bitwise way: the register and what is left of the byte after k bits -/
def refN (r c : Nat) : Nat → Nat
  | 0 => r
  | k + 1 => if refN r c k % 2 = c / 2 ^ k % 2 then refN r c k / 2 else refN r c k / 2 ^^^ 2197175160
theorem refN_eq (r c k : Nat) : refN r c k ^^^ c / 2 ^ k = stN k (r ^^^ c) := by
  induction k with
  | zero => simp [refN, stN]
  | succ k ih =>
    show _ = st (stN k (r ^^^ c))
    rw [← ih]
    have e : refN r c (k + 1) = if refN r c k % 2 = c / 2 ^ k % 2 then refN r c k / 2 else refN r c k / 2 ^^^ 2197175160 := rfl
    rw [e]
    unfold st
    rw [xor_mod2, xor_div2, Nat.div_div_eq_div_mul, ← Nat.pow_succ]
    by_cases h : refN r c k % 2 = c / 2 ^ k % 2
    · rw [if_pos h, if_pos h, if_pos rfl]
    · rw [if_neg h, if_neg h, if_neg (by decide)]
      ac_rfl
theorem refN_8 (r c : Nat) (hc : c < 256) : refN r c 8 = byte r c := by
  have := refN_eq r c 8
  rw [Nat.div_eq_of_lt (a := c) hc, Nat.xor_zero] at this
  exact this
theorem refN_lt {r : Nat} (h : r < 2 ^ 32) (c k : Nat) : refN r c k < 2 ^ 32 := by
  induction k with
  | zero => exact h
  | succ k ih =>
    unfold refN
    split
    · omega
    · exact xor_lt (by omega) (by decide)

theorem byte_lt {r c : Nat} (hr : r < 2 ^ 32) (hc : c < 256) : byte r c < 2 ^ 32 := stN_lt (xor_lt hr (by omega))
theorem crc_lt {r : Nat} (h : r < 2 ^ 32) (l : List UInt8) : crc r l < 2 ^ 32 := by
  induction l generalizing r with
  | nil => exact h
  | cons c l ih => exact ih (byte_lt h (UInt8.toNat_lt c))
theorem crc_append (r : Nat) (a b : List UInt8) : crc r (a ++ b) = crc (crc r a) b := List.foldl_append
theorem crc_snoc (r : Nat) (a : List UInt8) (c : UInt8) : crc r (a ++ [c]) = byte (crc r a) c.toNat := by rw [crc_append]; rfl

/-- linear in the register -/
theorem crc_xor (r q : Nat) (l : List UInt8) : crc (r ^^^ q) l = crc r l ^^^ stN (8 * l.length) q := by
  induction l generalizing r q with
  | nil => rfl
  | cons c l ih =>
    show crc (byte (r ^^^ q) c.toNat) l = crc (byte r c.toNat) l ^^^ _
    have : byte (r ^^^ q) c.toNat = byte r c.toNat ^^^ stN 8 q := by
      unfold byte
      rw [← stN_xor]; congr 1; ac_rfl
    rw [this, ih, ← stN_add]
    rfl

/-- the four bytes of a number, the lowest first -/
def four (n : Nat) : List UInt8 := [UInt8.ofNat n, UInt8.ofNat (n / 256), UInt8.ofNat (n / 65536), UInt8.ofNat (n / 16777216)]
theorem four_length (n : Nat) : (four n).length = 4 := rfl
theorem four_inj {a b : Nat} (ha : a < 2 ^ 32) (hb : b < 2 ^ 32) (h : four a = four b) : a = b := by
  unfold four at h
  simp only [List.cons.injEq, and_true] at h
  obtain ⟨h0, h1, h2, h3⟩ := h
  have e0 := congrArg UInt8.toNat h0
  have e1 := congrArg UInt8.toNat h1
  have e2 := congrArg UInt8.toNat h2
  have e3 := congrArg UInt8.toNat h3
  simp only [UInt8.toNat_ofNat'] at e0 e1 e2 e3
  omega
/-- four bytes that come are a word that comes -/
theorem crc_four (r n : Nat) (hn : n < 2 ^ 32) : crc r (four n) = stN 32 (r ^^^ n) := by
  have hx : r ^^^ n = ((((r ^^^ n % 256) ^^^ (n / 256 % 256) * 2 ^ 8) ^^^ (n / 65536 % 256) * 2 ^ 16) ^^^ (n / 16777216) * 2 ^ 24) := by
    have s0 := split8 n
    have s1 := split8 (n / 256)
    have s2 := split8 (n / 65536)
    have d1 : n / 256 / 256 = n / 65536 := by omega
    have d2 : n / 65536 / 256 = n / 16777216 := by omega
    rw [d1] at s1
    rw [d2] at s2
    have m (a b k : Nat) : (a ^^^ b) * 2 ^ k = a * 2 ^ k ^^^ b * 2 ^ k := by
      simp only [← Nat.shiftLeft_eq]; exact Nat.shiftLeft_xor_distrib
    have : n = n % 256 ^^^ (n / 256 % 256) * 2 ^ 8 ^^^ (n / 65536 % 256) * 2 ^ 16 ^^^ (n / 16777216) * 2 ^ 24 := by
      have e2 : n / 256 * 2 ^ 8 = (n / 256 % 256) * 2 ^ 8 ^^^ n / 65536 * 2 ^ 16 := by
        conv => lhs; rw [← s1]
        rw [m, Nat.mul_assoc]
      have e3 : n / 65536 * 2 ^ 16 = (n / 65536 % 256) * 2 ^ 16 ^^^ n / 16777216 * 2 ^ 24 := by
        conv => lhs; rw [← s2]
        rw [m, Nat.mul_assoc]
      conv => lhs; rw [← s0, e2, e3]
      simp only [Nat.xor_assoc]
    conv => lhs; rw [this]
    simp only [Nat.xor_assoc]
  have b3 : n / 16777216 < 256 := by omega
  unfold crc four
  simp only [List.foldl_cons, List.foldl_nil, UInt8.toNat_ofNat']
  rw [show n / 16777216 % 2 ^ 8 = n / 16777216 from Nat.mod_eq_of_lt b3]
  show byte (byte (byte (byte r (n % 256)) (n / 256 % 256)) (n / 65536 % 256)) (n / 16777216) = _
  have fold (q c k j : Nat) : byte (stN k q) c = stN (8 + k) (q ^^^ c * 2 ^ k) := by
    unfold byte; rw [stN_add 8 k, stN_xor k, stN_mul]
  rw [show byte r (n % 256) = stN 8 (r ^^^ n % 256) from rfl, fold _ _ 8 0, fold _ _ (8 + 8) 0, fold _ _ (8 + (8 + 8)) 0, hx]

/-- the checksum -/
def sum (l : List UInt8) : Nat := 4294967295 - crc 4294967295 l
theorem sub_eq_xor {x : Nat} (h : x < 2 ^ 32) : 4294967295 - x = x ^^^ 4294967295 := by
  have e : 2 ^ 32 - 1 - x = 2 ^ 32 - (x + 1) := by omega
  rw [show (4294967295 : Nat) = 2 ^ 32 - 1 from rfl, e]
  apply Nat.eq_of_testBit_eq
  intro i
  rw [Nat.testBit_two_pow_sub_succ h, Nat.testBit_xor, Nat.testBit_two_pow_sub_one]
  by_cases hi : i < 32
  · simp [hi]
  · have : x.testBit i = false := Nat.testBit_lt_two_pow (Nat.lt_of_lt_of_le h (Nat.pow_le_pow_right (by omega) (by omega)))
    simp [hi, this]
theorem sum_lt (l : List UInt8) : sum l < 2 ^ 32 := by unfold sum; omega
def sealed (l : List UInt8) : List UInt8 := l ++ four (sum l)
/-- what it comes to that a text and a word behind it are sealed -/
theorem sealed_iff (l : List UInt8) (n : Nat) (hn : n < 2 ^ 32) : four (sum l) = four n ↔ crc 4294967295 (l ++ four n) = stN 32 4294967295 := by
  have hc := crc_lt (r := 4294967295) (by decide) l
  rw [crc_append, crc_four _ _ hn]
  constructor
  · intro h
    have := four_inj (sum_lt l) hn h
    rw [← this]
    unfold sum
    rw [sub_eq_xor hc, ← Nat.xor_assoc, Nat.xor_self, Nat.zero_xor]
  · intro h
    have := stN_inj (xor_lt hc hn) (by decide) h
    have e : n = crc 4294967295 l ^^^ 4294967295 := by
      have h2 : crc 4294967295 l ^^^ (crc 4294967295 l ^^^ n) = crc 4294967295 l ^^^ 4294967295 := congrArg _ this
      rwa [← Nat.xor_assoc, Nat.xor_self, Nat.zero_xor] at h2
    unfold sum
    rw [sub_eq_xor hc, ← e]
end Crc
end Go.Proofs.Ytplkogjnmjjjgaa.Sl

/- The walk of seal.table: it returns the 256 remainders of the register, whatever the world. -/
namespace Go.Proofs.Ytplkogjnmjjjgaa.Sl
open Go.ChangeShapes Go.WideShapes Go.ChangeAt Go.RowKit

def zeros256 : Array Value := Array.replicate 256 (.int .u32 0)
theorem zero_table (w : World) : (zeroValue 150).run Try.prog w = .ok (.agg zeros256) w := by kernel_rfl
theorem zeros256_size : zeros256.size = 256 := by unfold zeros256; simp

def tabArr : Array Value := Array.ofFn (n := 256) fun i => .int .u32 (Crc.stN 8 i : Nat)

/-- the table's block after k rounds -/
structure TabRow (w : World) (k : Nat) (wr : World) : Prop where
  row : ∃ cs : Array Value, wr.heap[w.heap.size + 1]? = some (.cells cs 150 (0, 0)) ∧ cs.size = 256 ∧ ∀ j, j < 256 → cs[j]? = some (.int .u32 (if j < k then Crc.stN 8 j else 0 : Nat))
  res : wr.heap[w.heap.size]? = some (.cells zeros256 150 (0, 0))
  below : Below w.heap.size w wr

theorem tabArr_size : tabArr.size = 256 := by unfold tabArr; simp
theorem tab_info : (Try.prog.info? 150).map (·.size) = some tabArr.size := by rw [tabArr_size]; kernel_rfl
theorem tab_old : zeros256.size = tabArr.size := by rw [tabArr_size, zeros256_size]
theorem tab_one : tabArr.all (·.oneCell') = true := by
  rw [Array.all_eq_true]
  intro i hi
  simp [tabArr, Value.oneCell']
theorem TabRow.done {w wr : World} (h : TabRow w 256 wr) : wr.heap[w.heap.size + 1]? = some (.cells tabArr 150 (0, 0)) := by
  obtain ⟨cs, hcs, hsz, hc⟩ := h.row
  have : cs = tabArr := by
    apply Array.ext_getElem?
    intro j
    by_cases hj : j < 256
    · rw [hc j hj, if_pos hj]
      simp [tabArr, hj]
    · rw [Array.getElem?_eq_none (by omega), Array.getElem?_eq_none (by rw [tabArr_size]; omega)]
  rw [hcs, this]
theorem tab_step (j k : Nat) (hk : k < 256) : bits BinOp.xor IntKind.u32 ((Crc.stN j k : Nat) / 2 : Int) (bits BinOp.and IntKind.u32 2197175160 (-bits BinOp.and IntKind.u32 (Crc.stN j k : Nat) 1 % 4294967296)) = (Crc.stN (j + 1) k : Nat) := by
  have hl : Crc.stN j k < 4294967296 := Crc.stN_lt (by omega)
  show _ = ((Crc.st (Crc.stN j k) : Nat) : Int)
  generalize Crc.stN j k = r at *
  rw [show (1 : Int) = ((1 : Nat) : Int) from rfl, u32_and_nat r 1 hl (by decide), nat_mask1]
  have h2 : (r : Int) / 2 = ((r / 2 : Nat) : Int) := by omega
  rw [h2]
  unfold Crc.st
  rcases Nat.mod_two_eq_zero_or_one r with x | x
  · rw [x]
    have : bits BinOp.and IntKind.u32 2197175160 (-((0 : Nat) : Int) % 4294967296) = ((0 : Nat) : Int) := u32_and_nat 2197175160 0 (by decide) (by decide)
    rw [this, u32_xor_nat _ _ (by omega) (by decide)]; simp
  · rw [x]
    have : bits BinOp.and IntKind.u32 2197175160 (-((1 : Nat) : Int) % 4294967296) = ((2197175160 : Nat) : Int) := u32_and_nat 2197175160 4294967295 (by decide) (by decide)
    rw [this, u32_xor_nat _ _ (by omega) (by decide)]; simp

theorem tab_start (w : World) : TabRow w 0 ((w.alloc (.cells zeros256 150)).alloc (.cells zeros256 150)) where
  row := ⟨zeros256, heap_alloc2_new _ _ _, zeros256_size, fun j hj => by simp [zeros256, hj]⟩
  res := heap_alloc2_old _ _ _
  below := ((Below.refl _ _).alloc (Nat.le_refl _) _).alloc (by simp) _
theorem TabRow.cell {w wr : World} {k : Nat} (h : TabRow w k wr) (hk : k < 256) : ∃ v, wr.cell? ⟨w.heap.size + 1, k, none⟩ = some v := by
  obtain ⟨cs, hcs, hsz, hc⟩ := h.row
  exact ⟨_, (cell_of_row wr _ k cs _ _ hcs).trans (hc k hk)⟩
theorem TabRow.free {w wr : World} {k : Nat} (h : TabRow w k wr) (j : Nat) : wr.frozen? ⟨w.heap.size + 1, j, none⟩ = false := by
  obtain ⟨cs, hcs, hsz, hc⟩ := h.row
  exact frozen_of_row wr _ j cs _ hcs
theorem TabRow.step {w wr : World} {k : Nat} (h : TabRow w k wr) (hk : k < 256) : TabRow w (k + 1) (wr.setCell ⟨w.heap.size + 1, k, none⟩ (.int .u32 (Crc.stN 8 k : Nat))) where
  row := by
    obtain ⟨cs, hcs, hsz, hc⟩ := h.row
    refine ⟨_, heap_setCell_same wr _ k cs _ _ hcs, by simp [hsz], fun j hj => ?_⟩
    rw [Array.getElem?_setIfInBounds]
    by_cases e : k = j
    · subst e; simp [hsz, hk]
    · rw [if_neg e, hc j hj]
      by_cases hl : j < k
      · rw [if_pos hl, if_pos (by omega)]
      · rw [if_neg hl, if_neg (by omega)]
  res := by rw [heap_setCell_other _ _ _ _ (by simp)]; exact h.res
  below := h.below.setCell (by simp) _

set_option maxRecDepth 100000 in
theorem table_any (w : World) :
    Calls Try.prog 103 #[] w fun e w' => e = .returned (.agg tabArr) ∧ Below w.heap.size w w' := by
  have hz := zero_table
  go_enter Try.func103, Try.ntmps103
  go_wp2
  go_loopw [4] (fun i wr => ∃ k : Nat, k ≤ 256 ∧ i = .int .i64 k ∧ TabRow w k wr) (fun i _ => 256 - (intOf i).toNat)
  case atStart => exact ⟨0, by omega, rfl, tab_start w⟩
  case round =>
    obtain ⟨k, hk, rfl, hT⟩ := hrel
    by_cases hlt : k < 256
    · have hi : (k : Int) < 256 := by omega
      obtain ⟨v0, hc⟩ := hT.cell hlt
      have hf := hT.free k
      have HT := Lib.hid hT; clear hT
      go_wp2
      go_loop [3, 9] (fun r i => ∃ j : Nat, j ≤ 8 ∧ i = .int .i64 j ∧ r = .int .u32 (Crc.stN j k : Nat)) (fun _ i => 8 - (intOf i).toNat)
      case atStart => exact ⟨0, by omega, rfl, rfl⟩
      case round =>
        obtain ⟨j, hj, rfl, rfl⟩ := hrel
        by_cases hjl : j < 8
        · go_wp2
          go_round
          case rel => exact ⟨j + 1, by omega, by go_num, by rw [tab_step j k hlt]⟩
          case measure => simp [intOf]; omega
        · obtain rfl : j = 8 := by omega
          go_wp2
          go_roundw
          case rel => exact ⟨k + 1, by omega, by go_num, HT.out.step hlt⟩
          case measure => simp [intOf]; omega
    · obtain rfl : k = 256 := by omega
      have hcs := hT.done
      have hres := hT.res
      have hb := hT.below
      clear hT hlt hk
      go_wp2_with (first | refine wpList_load_row rfl 150 _ rfl (w.heap.size + 1) rfl 150 tabArr (0, 0) _ hcs Try.underlying150 rfl tab_info ?_ | refine wpList_store_row rfl 150 _ _ rfl w.heap.size tabArr rfl rfl 150 zeros256 hres tab_info tab_old tab_one ?_)
      refine bodyPost_ret (v := .agg tabArr) ?_ rfl ⟨rfl, ?_⟩
      · exact results_cell_row (p := 0) (by kernel_rfl) _ _ w.heap.size 150 tabArr (0, 0) _ rfl (setRow_heap _ _ _ _ _ _ hres) Try.underlying150 rfl tab_info
      · exact hb.trans ⟨rfl, rfl, rfl, by simp, fun i hi => setRow_other wr _ i _ (by omega)⟩
end Go.Proofs.Ytplkogjnmjjjgaa.Sl

/- The walk of seal.comes: any strings that are read come to the register as their bytes in a row. -/
namespace Go.Proofs.Ytplkogjnmjjjgaa.Sl
open Go.ChangeShapes Go.WideShapes Go.ChangeAt Go.RowKit

/-- a slice reads as these strings -/
structure Strs (w : World) (a : Option Addr) (ss : List ByteArray) : Prop where
  many : ss.length ≤ maxLen
  each : ∀ s ∈ ss, s.size ≤ maxLen
  cell : ∃ b off, (ss = [] ∨ a = some ⟨b, off, none⟩) ∧ ∀ i, i < ss.length → w.cell? ⟨b, off + i, none⟩ = some (.string (ss.getD i ByteArray.empty))

/-- the bytes of strings in a row -/
def joined (ss : List ByteArray) : List UInt8 := (ss.map fun s => s.data.toList).flatten

theorem cellB {B : Nat} {w w' : World} (h : Below B w w') {p : Addr} {v : Value} (hB : w.heap.size ≤ B) (hc : w.cell? p = some v) : w'.cell? p = some v := by
  rw [h.cell (Nat.lt_of_lt_of_le (block_lt_of_cell hc) hB)]; exact hc

theorem tab_index (q c : Nat) (hc : c < 256) : bits BinOp.xor IntKind.u8 ((q : Int) % 256) (c : Int) = ((q % 256 ^^^ c : Nat) : Int) := by
  have := u8_xor_nat (q % 256) c (by omega) hc
  rw [← this]; congr 1
theorem tab_index_lt (q c : Nat) (hc : c < 256) : q % 256 ^^^ c < 256 := Crc.xor_lt (n := 8) (by omega) (by omega)
theorem tabArr_at (x : Nat) (h : x < 256) : tabArr[x]? = some (.int .u32 (Crc.stN 8 x : Nat)) := by simp [tabArr, h]
theorem tab_join (q c : Nat) (hc : c < 256) (hq : q < 4294967296) : bits BinOp.xor IntKind.u32 (Crc.stN 8 (q % 256 ^^^ c) : Nat) ((q : Int) / 256) = (Crc.byte q c : Nat) := by
  have h1 : Crc.stN 8 (q % 256 ^^^ c) < 4294967296 := Crc.stN_lt (by have := tab_index_lt q c hc; omega)
  have h2 : (q : Int) / 256 = ((q / 256 : Nat) : Int) := by omega
  rw [h2, u32_xor_nat _ _ h1 (by omega), Crc.byte_table _ _ hc]
theorem byte_take (s : ByteArray) (k : Nat) (h : k < s.size) : s.data.toList.take (k + 1) = s.data.toList.take k ++ [s[k]] := by
  rw [List.take_succ_eq_append_getElem (by simpa using h)]; rfl
theorem take_all (s : ByteArray) : s.data.toList.take s.size = s.data.toList := List.take_of_length_le (Nat.le_of_eq rfl)
theorem joined_take (ss : List ByteArray) (k : Nat) (h : k < ss.length) : joined (ss.take (k + 1)) = joined (ss.take k) ++ (ss.getD k ByteArray.empty).data.toList := by
  rw [List.take_succ_eq_append_getElem h, List.getD_eq_getElem?_getD, List.getElem?_eq_getElem h]
  simp only [joined, List.map_append, List.flatten_append, List.map_cons, List.map_nil, List.flatten_cons, List.flatten_nil, List.append_nil, Option.getD_some]

set_option maxRecDepth 100000 in
theorem comes_any (r : Nat) (a : Option Addr) (cap : Nat) (ss : List ByteArray) (w : World) (hr : r < 4294967296) (hs : Strs w a ss) :
    Calls Try.prog 98 #[.int .u32 r, .slice a ss.length cap] w fun e w' => e = .returned (.int .u32 (Crc.crc r (joined ss) : Nat)) ∧ Below w.heap.size w w' := by
  obtain ⟨hm, he, b, off, ha, hcell⟩ := hs
  unfold maxLen at hm
  have hz := zero_table
  go_enter Try.func98, Try.ntmps98
  go_wp2_with (first | (go_at_call 103; refine (table_any _).mono ?_; rintro e w1 ⟨rfl, hb1⟩) | (refine wpList_store_row rfl 150 _ _ rfl w1.heap.size tabArr rfl rfl 150 zeros256 (heap_alloc_new _ _) tab_info tab_old tab_one ?_; generalize hW2 : (w1.alloc (.cells zeros256 150)).setRow w1.heap.size tabArr = w2))
  have hT : w2.heap[w1.heap.size]? = some (.cells tabArr 150 (0, 0)) := by rw [← hW2]; exact setRow_heap _ _ _ _ _ _ (heap_alloc_new _ _)
  have hb2 : Below w.heap.size w w2 := by
    rw [← hW2]
    have := hb1.size
    exact (hb1.alloc (by omega) _).trans ⟨rfl, rfl, rfl, by simp, fun i hi => setRow_other _ _ i _ (by omega)⟩
  have hc2 : ∀ i, i < ss.length → w2.cell? ⟨b, off + i, none⟩ = some (.string (ss.getD i ByteArray.empty)) := fun i hi => cellB hb2 (Nat.le_refl _) (hcell i hi)
  clear hW2 hb1
  go_loop [0, 12] (fun q i => ∃ k : Nat, k ≤ ss.length ∧ i = .int .i64 k ∧ q = .int .u32 (Crc.crc r (joined (ss.take k)) : Nat)) (fun _ i => ss.length - (intOf i).toNat)
  case atStart => exact ⟨0, by omega, rfl, rfl⟩
  case round =>
    obtain ⟨k, hk, rfl, rfl⟩ := hrel
    by_cases hlt : k < ss.length
    · have hck := hc2 k hlt
      obtain ⟨s, hs⟩ : ∃ s, s = ss.getD k ByteArray.empty := ⟨_, rfl⟩
      rw [← hs] at hck
      have hsz : s.size ≤ maxLen := he _ (by rw [hs, List.getD_eq_getElem?_getD, List.getElem?_eq_getElem hlt]; exact List.getElem_mem hlt)
      unfold maxLen at hsz
      have ha' : a = some ⟨b, off, none⟩ := by rcases ha with h | h; · subst h; simp at hlt
                                               · exact h
      subst ha'
      have Hs := Lib.hid hs
      clear hs hc2 ha hcell
      go_wp2
      go_loop [0, 18] (fun q i => ∃ j : Nat, j ≤ s.size ∧ i = .int .i64 j ∧ q = .int .u32 (Crc.crc (Crc.crc r (joined (ss.take k))) (s.data.toList.take j) : Nat)) (fun _ i => s.size - (intOf i).toNat)
      case atStart => exact ⟨0, by omega, rfl, rfl⟩
      case round =>
        obtain ⟨j, hj, rfl, rfl⟩ := hrel
        by_cases hjl : j < s.size
        · generalize hq : Crc.crc (Crc.crc r (joined (ss.take k))) (s.data.toList.take j) = q
          have hql : q < 4294967296 := by rw [← hq]; exact Crc.crc_lt (Crc.crc_lt (by omega) _) _
          have Hq := Lib.hid hq
          clear hq
          have hcl : s[j].toNat < 256 := UInt8.toNat_lt _
          have hx := tab_index q s[j].toNat hcl
          have hxl := tab_index_lt q s[j].toNat hcl
          have hcx := (cell_of_row w2 _ (q % 256 ^^^ s[j].toNat) _ _ _ hT).trans (tabArr_at _ hxl)
          have hxr := tab_join q s[j].toNat hcl hql
          go_wp2
          go_round
          case rel => exact ⟨j + 1, by omega, by go_num, by rw [byte_take s j hjl, Crc.crc_snoc, Hq.out]⟩
          case measure => simp [intOf]; omega
        · obtain rfl : j = s.size := by omega
          go_wp2
          go_round
          case rel => exact ⟨k + 1, by omega, by go_num, by rw [joined_take ss k hlt, Crc.crc_append, ← Hs.out, take_all s]⟩
          case measure => simp [intOf]; omega
    · obtain rfl : k = ss.length := by omega
      go_wp2
      go_ret
      exact ⟨rfl, hb2⟩
end Go.Proofs.Ytplkogjnmjjjgaa.Sl

/- The walks of seal.Of, More, four and Seal, each once. -/
namespace Go.Proofs.Ytplkogjnmjjjgaa.Sl
open Go.ChangeShapes Go.WideShapes Go.ChangeAt Go.RowKit

theorem u32_not (x : Nat) (h : x < 4294967296) : bits BinOp.xor IntKind.u32 IntKind.u32.max (x : Int) = ((4294967295 - x : Nat) : Int) := by
  have := u32_xor_nat 4294967295 x (by decide) h
  rw [Crc.sub_eq_xor h, Nat.xor_comm, ← this]; rfl
theorem u32_signed : IntKind.u32.signed = false := rfl

/-- what a sum comes to -/
theorem of_any (a : Option Addr) (cap : Nat) (ss : List ByteArray) (w : World) (hs : Strs w a ss) :
    Calls Try.prog 77 #[.slice a ss.length cap] w fun e w' => e = .returned (.int .u32 (Crc.sum (joined ss) : Nat)) ∧ Below w.heap.size w w' := by
  have hl := Crc.crc_lt (r := 4294967295) (by decide) (joined ss)
  have hn := u32_not _ hl
  have hf : Crc.sum (joined ss) = 4294967295 - Crc.crc 4294967295 (joined ss) := rfl
  rw [hf]
  clear hf
  have hsg := u32_signed
  go_enter Try.func77, Try.ntmps77
  go_wp2_with (go_at_call 98; refine (comes_any 4294967295 _ _ ss _ (by decide) hs).mono ?_; rintro e w1 ⟨rfl, hb1⟩)
  go_ret
  exact ⟨rfl, hb1⟩

theorem strs_one (w : World) (s : ByteArray) (hs : s.size ≤ maxLen) (t : TypeId) : Strs (w.alloc (.cells #[.string s] t)) (some ⟨w.heap.size, 0, none⟩) [s] where
  many := by simp [maxLen]
  each := by simpa using hs
  cell := ⟨w.heap.size, 0, .inr rfl, fun i hi => by
    have : i = 0 := by simpa using hi
    subst this; simp⟩
theorem joined_one (s : ByteArray) : joined [s] = s.data.toList := by simp [joined]

/-- the string of a list of bytes -/
def str (l : List UInt8) : ByteArray := ⟨l.toArray⟩
theorem str_data (l : List UInt8) : (str l).data.toList = l := by simp [str]
theorem str_size (l : List UInt8) : (str l).size = l.length := by simp [str, ByteArray.size]

theorem four_conv (r : Nat) (w : World) (hr : r < 4294967296) :
    (convert 93 9 (.slice (some ⟨w.heap.size, 0, none⟩) 4 4)).run Try.prog (w.alloc (.cells #[.int .u8 ((r : Int) % 256), .int .u8 ((r : Int) / 256 % 256), .int .u8 ((r : Int) / 65536 % 256), .int .u8 ((r : Int) / 16777216)] 5))
      = .ok (.string (str (Crc.four r))) (w.alloc (.cells #[.int .u8 ((r : Int) % 256), .int .u8 ((r : Int) / 256 % 256), .int .u8 ((r : Int) / 65536 % 256), .int .u8 ((r : Int) / 16777216)] 5)) := by
  refine run_convert_bytes_back _ 93 9 5 ⟨w.heap.size, 0, none⟩ 4 (Crc.four r) Try.underlying93 Try.underlying5 Try.underlying9 ?_
  intro j hj
  have hj' : j < 4 := hj
  have hadd : (⟨w.heap.size, 0, none⟩ : Addr).add j = ⟨w.heap.size, j, none⟩ := by unfold Addr.add; split <;> simp_all
  rw [hadd]
  have h24 : (r : Int) / 16777216 = (r : Int) / 16777216 % 256 := by omega
  match j, hj' with
  | 0, _ => simp [Crc.four]
  | 1, _ => simp [Crc.four]
  | 2, _ => simp [Crc.four]
  | 3, _ => simp [Crc.four]; exact h24

theorem four_any (r : Nat) (w : World) (hr : r < 4294967296) :
    Calls Try.prog 82 #[.int .u32 r] w fun e w' => e = .returned (.string (str (Crc.four r))) ∧ Below w.heap.size w w' := by
  have hcv := four_conv r w hr
  go_enter Try.func82, Try.ntmps82
  go_wp2
  go_ret
  exact ⟨rfl, (Below.refl _ _).alloc (Nat.le_refl _) _⟩

/-- a sealed text -/
def sealedStr (s : ByteArray) : ByteArray := s ++ str (Crc.four (Crc.sum s.data.toList))

theorem seal_any (s : ByteArray) (w : World) (hs : s.size ≤ 1000000) :
    Calls Try.prog 96 #[.string s] w fun e w' => e = .returned (.string (sealedStr s)) ∧ Below w.heap.size w w' := by
  have hsum := Crc.sum_lt s.data.toList
  have hsz4 : (str (Crc.four (Crc.sum s.data.toList))).size = 4 := by rw [str_size]; rfl
  have hst := strs_one w s (by unfold maxLen; omega) 9
  go_enter Try.func96, Try.ntmps96
  go_wp2_with (first | (go_at_call 77; refine (of_any _ 1 [s] _ hst).mono ?_; rintro e w1 ⟨rfl, hb1⟩; rw [joined_one]) | (go_at_call 82; refine (four_any _ _ hsum).mono ?_; rintro e w2 ⟨rfl, hb2⟩))
  go_ret
  exact ⟨rfl, (((Below.refl _ _).alloc (Nat.le_refl _) _).trans (hb1.mono (by simp))).trans (hb2.mono (by have := hb1.size; simp at this; omega))⟩
end Go.Proofs.Ytplkogjnmjjjgaa.Sl

/- The walks of the reference functions comes, Of, More and Seal, each once. -/
namespace Go.Proofs.Ytplkogjnmjjjgaa.Sl
open Go.ChangeShapes Go.WideShapes Go.ChangeAt Go.RowKit

theorem refComes_any (r : Nat) (s : ByteArray) (w : World) (hr : r < 4294967296) (hs : s.size ≤ 1000000) :
    Calls Try.prog 78 #[.int .u32 r, .string s] w fun e w' => e = .returned (.int .u32 (Crc.crc r s.data.toList : Nat)) ∧ w = w' := by
  go_enter Try.func78, Try.ntmps78
  go_wp2
  go_loop [0, 5] (fun q i => ∃ k : Nat, k ≤ s.size ∧ i = .int .i64 k ∧ q = .int .u32 (Crc.crc r (s.data.toList.take k) : Nat)) (fun _ i => s.size - (intOf i).toNat)
  case atStart => exact ⟨0, by omega, rfl, rfl⟩
  case round =>
    obtain ⟨k, hk, rfl, rfl⟩ := hrel
    by_cases hlt : k < s.size
    · generalize hq : Crc.crc r (s.data.toList.take k) = q
      have hql : q < 4294967296 := by rw [← hq]; exact Crc.crc_lt (by omega) _
      have Hq := Lib.hid hq
      clear hq
      have hcl : s[k].toNat < 256 := UInt8.toNat_lt _
      go_wp2
      go_loop [0, 6, 7] (fun q' c i => ∃ j : Nat, j ≤ 8 ∧ i = .int .i64 j ∧ c = .int .u32 (s[k].toNat / 2 ^ j : Nat) ∧ q' = .int .u32 (Crc.refN q s[k].toNat j : Nat)) (fun _ _ i => 8 - (intOf i).toNat)
      case atStart => exact ⟨0, by omega, rfl, by simp, rfl⟩
      case round =>
        obtain ⟨j, hj, rfl, rfl, rfl⟩ := hrel
        by_cases hjl : j < 8
        · have hnext : Crc.refN q s[k].toNat (j + 1) = if Crc.refN q s[k].toNat j % 2 = s[k].toNat / 2 ^ j % 2 then Crc.refN q s[k].toNat j / 2 else Crc.refN q s[k].toNat j / 2 ^^^ 2197175160 := rfl
          have hpow : s[k].toNat / 2 ^ (j + 1) = s[k].toNat / 2 ^ j / 2 := by rw [Nat.div_div_eq_div_mul, Nat.pow_succ]
          have hql' : Crc.refN q s[k].toNat j < 4294967296 := Crc.refN_lt hql _ _
          have hcl' : s[k].toNat / 2 ^ j < 4294967296 := Nat.lt_of_le_of_lt (Nat.div_le_self _ _) (by omega)
          generalize Crc.refN q s[k].toNat j = q' at *
          generalize s[k].toNat / 2 ^ j = c' at *
          have Hn := Lib.hid hnext
          have Hp := Lib.hid hpow
          clear hnext hpow
          by_cases hpar : q' % 2 = c' % 2
          · have hB : ((q' : Int) % 2 == (c' : Int) % 2) = true := by rw [beq_iff_eq]; omega
            have Hpar := Lib.hid hpar
            clear hpar
            go_wp2
            go_round
            case rel => exact ⟨j + 1, by omega, by go_num, by rw [Hp.out]; go_num, by rw [Hn.out, if_pos Hpar.out]; go_num⟩
            case measure => simp [intOf]; omega
          · have hB : ((q' : Int) % 2 == (c' : Int) % 2) = false := by rw [beq_eq_false_iff_ne]; omega
            have Hpar := Lib.hid hpar
            clear hpar
            have hx : bits BinOp.xor IntKind.u32 ((q' : Int) / 2) 2197175160 = ((q' / 2 ^^^ 2197175160 : Nat) : Int) := by
              have := u32_xor_nat (q' / 2) 2197175160 (by omega) (by decide)
              rw [← this]; rfl
            go_wp2
            go_round
            case rel => exact ⟨j + 1, by omega, by go_num, by rw [Hp.out]; go_num, by rw [Hn.out, if_neg Hpar.out]⟩
            case measure => simp [intOf]; omega
        · obtain rfl : j = 8 := by omega
          go_wp2
          go_round
          case rel => exact ⟨k + 1, by omega, by go_num, by rw [Crc.refN_8 _ _ hcl, byte_take s k hlt, Crc.crc_snoc, Hq.out]⟩
          case measure => simp [intOf]; omega
    · obtain rfl : k = s.size := by omega
      have ht := take_all s
      go_wp2
      go_ret
      exact ⟨rfl, rfl⟩

theorem refOf_any (s : ByteArray) (w : World) (hs : s.size ≤ 1000000) :
    Calls Try.prog 36 #[.string s] w fun e w' => e = .returned (.int .u32 (Crc.sum s.data.toList : Nat)) ∧ w = w' := by
  have hl := Crc.crc_lt (r := 4294967295) (by decide) s.data.toList
  have hf : Crc.sum s.data.toList = 4294967295 - Crc.crc 4294967295 s.data.toList := rfl
  have hn : (4294967295 : Int) - (Crc.crc 4294967295 s.data.toList : Nat) = ((4294967295 - Crc.crc 4294967295 s.data.toList : Nat) : Int) := by omega
  rw [hf]
  clear hf
  go_enter Try.func36, Try.ntmps36
  go_wp2_with (go_at_call 78; refine (refComes_any 4294967295 s _ (by decide) hs).mono ?_; rintro e w1 ⟨rfl, rfl⟩)
  go_ret
  exact ⟨rfl, rfl⟩

theorem u8_info : (Try.prog.info? 5).map (fun i => (i.zero, i.size, i.bytes)) = some (some (.int .u8 0), 1, 1) := by kernel_rfl

/-- bytes as cells -/
def bcells (l : List UInt8) : List Value := l.map fun c => .int .u8 c.toNat
theorem four_take (n k : Nat) (hk : k < 4) : (Crc.four n).take (k + 1) = (Crc.four n).take k ++ [UInt8.ofNat (n / 256 ^ k)] := by
  match k, hk with
  | 0, _ => simp [Crc.four]
  | 1, _ => simp [Crc.four]
  | 2, _ => simp [Crc.four]
  | 3, _ => simp [Crc.four]
theorem refSeal_step (n k : Nat) (hk : k < 4) : bcells ((Crc.four n).take k) ++ [.int .u8 ((n / 256 ^ k : Nat) % 256 : Int)] = bcells ((Crc.four n).take (k + 1)) := by
  rw [four_take n k hk]
  simp [bcells]

/-- string(b) of a slice of the call's own -/
theorem conv_own {wr : World} {base : Nat} {v : Value} {l : List UInt8} (h : wr.ownsRow base 5 1 v l.length (bcells l)) :
    (convert 93 9 v).run Try.prog wr = .ok (.string (str l)) wr := by
  rcases h.2 with ⟨rfl, h0⟩ | ⟨g, cap, cur, rfl, hg, hcur, hle, hcap, hsz, htake⟩
  · obtain rfl : l = [] := List.eq_nil_of_length_eq_zero h0
    exact run_convert_bytes_nil wr 93 5 Try.underlying93 Try.underlying5 0 0 _ Try.underlying9
  · refine run_convert_bytes_back _ 93 9 5 ⟨g, 0, none⟩ cap l Try.underlying93 Try.underlying5 Try.underlying9 ?_
    intro j hj
    have := World.ownsRow.cells h (g := g) rfl j (.int .u8 l[j].toNat) (by simp [bcells, hj])
    exact this

set_option maxRecDepth 100000 in
theorem refSeal_any (s : ByteArray) (w : World) (hs : s.size ≤ 1000000) :
    Calls Try.prog 29 #[.string s] w fun e w' => e = .returned (.string (sealedStr s)) ∧ Below w.heap.size w w' := by
  have hsum := Crc.sum_lt s.data.toList
  have hsz4 : (str (Crc.four (Crc.sum s.data.toList))).size = 4 := by rw [str_size]; rfl
  obtain ⟨i0, hi, hz0, hz1, hz2⟩ := info_parts u8_info
  go_enter Try.func29, Try.ntmps29
  go_wp2_with (go_at_call 36; refine (refOf_any s _ hs).mono ?_; rintro e w1 ⟨rfl, rfl⟩)
  generalize hn : Crc.sum s.data.toList = n at *
  have Hn := Lib.hid hn
  clear hn
  go_loopw [3, 4, 5] (fun q v i wr => ∃ k : Nat, k ≤ 4 ∧ i = .int .i64 k ∧ q = .int .u32 (n / 256 ^ k : Nat) ∧ wr.ownsRow w.heap.size 5 1 v k (bcells ((Crc.four n).take k)) ∧ Below w.heap.size w wr) (fun _ _ i _ => 4 - (intOf i).toNat)
  case atStart => exact ⟨0, by omega, rfl, by simp, World.ownsRow_nil _ _ _ _, Below.refl _ _⟩
  case round =>
    obtain ⟨k, hk, rfl, rfl, hown, hb⟩ := hrel
    by_cases hlt : k < 4
    · have hnext : n / 256 ^ (k + 1) = n / 256 ^ k / 256 := by rw [Nat.div_div_eq_div_mul, Nat.pow_succ]
      have hstep := refSeal_step n k hlt
      have hle : n / 256 ^ k < 4294967296 := Nat.lt_of_le_of_lt (Nat.div_le_self _ _) (by omega)
      generalize n / 256 ^ k = q at *
      have Hnext := Lib.hid hnext
      have Hstep := Lib.hid hstep
      clear hnext hstep
      go_wp2_with (at_builtin; refine wpList_append_own _ rfl _ _ 93 rfl w.heap.size 5 i0 (.int .u8 0) 1 1 Try.underlying93 hi hz0 hz1 hz2 rfl (by decide) _ _ _ rfl (hown.alloc _) ⟨wr.heap.size, 0, none⟩ 1 1 [.int .u8 ((q : Int) % 256)] rfl rfl ?c1 ?c2 ?c3 ?c4 ?c5 ?_)
      case c1 => exact cell_one_new _ _ _
      case c2 => simp [Value.oneCell']
      case c3 => unfold maxLen; omega
      case c4 => omega
      case c5 => have := hb.size; simp; omega
      intro v' w1 hown' hgrow _
      go_wp2
      go_roundw
      case rel =>
        rw [Hstep.out] at hown'
        exact ⟨k + 1, by omega, by go_num, by rw [Hnext.out]; go_num, hown', (hb.alloc (by have := hb.size; omega) _).grown hgrow (by have := hb.size; simp; omega) (fun k hk => (hown.lt k hk).1)⟩
      case measure => simp [intOf]; omega
    · obtain rfl : k = 4 := by omega
      have hcv := conv_own (l := Crc.four n) (by simpa [Crc.four] using hown)
      go_wp2
      go_ret
      exact ⟨by unfold sealedStr; rw [Hn.out]; rfl, hb⟩
end Go.Proofs.Ytplkogjnmjjjgaa.Sl

/- The walks of seal.Open, and of the reference functions Open and Turn, each once. -/
namespace Go.Proofs.Ytplkogjnmjjjgaa.Sl
open Go.ChangeShapes Go.WideShapes Go.ChangeAt Go.RowKit

theorem Strs.drew {w : World} {a : Option Addr} {ss : List ByteArray} (h : Strs w a ss) : Strs w.drew a ss := ⟨h.many, h.each, h.cell⟩

theorem seq {w a b : World} (h : Below w.heap.size w a) (k : Below a.heap.size a b) : Below w.heap.size w b := h.trans (k.mono h.size)
theorem below_new (w : World) (o : Obj) : Below w.heap.size w (w.alloc o) := (Below.refl _ _).alloc (Nat.le_refl _) _
theorem below_drew (w : World) : Below w.heap.size w w.drew := (Below.refl _ _).drew

theorem open_short (s : ByteArray) (w : World) (hs : s.size < 4) :
    Calls Try.prog 58 #[.string s] w fun e w' => e = .returned (.tuple #[.string ⟨#[]⟩, .int .i64 1]) ∧ Below w.heap.size w w' := by
  have h1 : (s.size : Int) - 4 < 0 := by omega
  go_enter Try.func58, Try.ntmps58
  go_wp2
  go_ret2
  exact ⟨rfl, Below.refl _ _⟩

theorem open_long (ok : Bool) (n : Nat) (s : ByteArray) (w : World) (hn : s.size = n + 4) (hm : s.size ≤ 1000000) (hE : ((str (Crc.four (Crc.sum (joined [s.extract 0 n])))).toList == (s.extract n s.size).toList) = ok) :
    Calls Try.prog 58 #[.string s] w fun e w' => e = .returned (.tuple #[.string (if ok then s.extract 0 n else ⟨#[]⟩), .int .i64 (if ok then 0 else 10)]) ∧ Below w.heap.size w w' := by
  have h1 : (s.size : Int) - 4 = (n : Int) := by omega
  have h2 : n ≤ s.size := by omega
  have Hn := Lib.hid hn
  clear hn
  have hsz : (s.extract 0 n).size ≤ maxLen := by rw [ByteArray.size_extract]; unfold maxLen; omega
  have HE := Lib.hid hE
  clear hE
  go_enter Try.func58, Try.ntmps58
  go_wp2
  go_region_with (first | (go_at_call 77; refine (of_any _ 1 [s.extract 0 n] _ ?_).mono ?_; exact (strs_one w _ hsz 9).drew; rintro e w1 ⟨rfl, hb1⟩) | (go_at_call 82; refine (four_any _ _ ?_).mono ?_; exact Crc.sum_lt _; rintro e w2 ⟨rfl, hb2⟩))
  rw [HE.out]
  have hb : Below w.heap.size w w2 := seq (seq (seq (below_new w _) (below_drew _)) hb1) hb2
  clear hb1 hb2 HE
  cases ok
  · go_wp2
    go_ret2
    exact ⟨rfl, hb⟩
  · go_wp2
    go_ret2
    exact ⟨rfl, hb⟩
/-- the reference's Open, of a short text -/
theorem refOpen_short (s : ByteArray) (w : World) (hs : s.size < 4) :
    Calls Try.prog 35 #[.string s] w fun e w' => e = .returned (.tuple #[.string ⟨#[]⟩, .int .i64 1]) ∧ Below w.heap.size w w' := by
  have h1 : (s.size : Int) < 4 := by omega
  go_enter Try.func35, Try.ntmps35
  go_wp2
  go_ret2
  exact ⟨rfl, Below.refl _ _⟩

theorem refOpen_long (ok : Bool) (n : Nat) (s : ByteArray) (w : World) (hn : s.size = n + 4) (hm : s.size ≤ 1000000) (hE : ((sealedStr (s.extract 0 n)).toList == s.toList) = ok) :
    Calls Try.prog 35 #[.string s] w fun e w' => e = .returned (.tuple #[.string (if ok then s.extract 0 n else ⟨#[]⟩), .int .i64 (if ok then 0 else 10)]) ∧ Below w.heap.size w w' := by
  have h1 : (s.size : Int) - 4 = (n : Int) := by omega
  have h2 : n ≤ s.size := by omega
  have h3 : ¬ (s.size : Int) < 4 := by omega
  have hsz : (s.extract 0 n).size ≤ 1000000 := by rw [ByteArray.size_extract]; omega
  have Hn := Lib.hid hn
  clear hn
  cases ok
  all_goals
    go_enter Try.func35, Try.ntmps35
    go_wp2_with (go_at_call 29; refine (refSeal_any _ _ hsz).mono ?_; rintro e w1 ⟨rfl, hb1⟩)
    go_ret2
    exact ⟨rfl, hb1⟩

/-- whether a text is a sealed one, in either of the two ways to ask -/
def okB (n : Nat) (s : ByteArray) : Bool := (str (Crc.four (Crc.sum (joined [s.extract 0 n])))).toList == (s.extract n s.size).toList
theorem extract_head (n : Nat) (s : ByteArray) : (s.extract 0 n).data.toList = s.data.toList.take n := by rw [Lib.extract_data]; simp
theorem okB_iff (n : Nat) (s : ByteArray) : okB n s = true ↔ Crc.four (Crc.sum (s.data.toList.take n)) = s.data.toList.drop n := by
  unfold okB
  rw [beq_iff_eq, ByteArray.toList_eq, ByteArray.toList_eq, joined_one, str_data, extract_head, Lib.extract_to_end]
theorem okB_ref (n : Nat) (s : ByteArray) : ((sealedStr (s.extract 0 n)).toList == s.toList) = okB n s := by
  rw [Bool.eq_iff_iff, okB_iff, beq_iff_eq, ByteArray.toList_eq, ByteArray.toList_eq]
  unfold sealedStr
  rw [ByteArray.data_append, Array.toList_append, str_data, extract_head]
  constructor
  · intro h
    have h2 : s.data.toList.take n ++ Crc.four (Crc.sum (s.data.toList.take n)) = s.data.toList.take n ++ s.data.toList.drop n := by rw [h, List.take_append_drop]
    exact List.append_cancel_left h2
  · intro h
    rw [h, List.take_append_drop]

/-- the bytes of which k were xored with those of a word -/
def turnN (l : List UInt8) (i x : Nat) : Nat → List UInt8
  | 0 => l
  | k + 1 => (turnN l i x k).set (i + k) ((turnN l i x k).getD (i + k) 0 ^^^ UInt8.ofNat (x / 256 ^ k))
theorem turnN_length (l : List UInt8) (i x k : Nat) : (turnN l i x k).length = l.length := by
  induction k with
  | zero => rfl
  | succ k ih => simp [turnN, ih]

/-- the block of bytes after k of them were turned -/
structure TurnRow (w : World) (l : List UInt8) (wr : World) : Prop where
  cell : ∀ j, j < l.length → wr.cell? ⟨w.heap.size, j, none⟩ = some (.int .u8 (l.getD j 0).toNat)
  free : ∀ j, j < l.length → wr.frozen? ⟨w.heap.size, j, none⟩ = false
  below : Below w.heap.size w wr
theorem turn_start (w : World) (s : ByteArray) (i x : Nat) : TurnRow w (turnN s.data.toList i x 0) (Lib.bytesWorld w 5 s) where
  cell j hj := Lib.bytesWorld_cell w _ s j (by simpa [turnN] using hj)
  free j hj := by
    have hs : j < s.size := by simpa [turnN] using hj
    have h := Lib.bytesWorld_at_new w 5 s
    have hc : s.size ≤ (Lib.bytesCells w 5 s).size := by simp [Lib.bytesCells]
    simp [World.frozen?, h]
    omega
  below := ⟨rfl, rfl, rfl, by rw [Lib.bytesWorld_size]; omega, fun j hj => Lib.bytesWorld_at_old w _ s j hj⟩
theorem turn_step {w wr : World} {l : List UInt8} {i x k : Nat} (h : TurnRow w (turnN l i x k) wr) (hk : i + k < l.length) :
    TurnRow w (turnN l i x (k + 1)) (wr.setCell ⟨w.heap.size, i + k, none⟩ (.int .u8 ((turnN l i x k).getD (i + k) 0 ^^^ UInt8.ofNat (x / 256 ^ k)).toNat)) where
  cell j hj := by
    rw [turnN_length] at hj
    by_cases e : i + k = j
    · subst e
      rw [World.cell?_setCell_same wr _ _ (h.cell _ (by rw [turnN_length]; exact hk))]
      simp [turnN, turnN_length, hk]
    · rw [World.cell?_setCell_other wr _ _ _ (fun h => e (by injection h)), h.cell j (by rw [turnN_length]; exact hj)]
      simp [turnN, List.getElem?_set_ne e]
  free j hj := by
    rw [World.frozen?_setCell]
    exact h.free j (by rw [turnN_length] at hj ⊢; exact hj)
  below := h.below.setCell (by simp) _

theorem turn_xor (a : UInt8) (q : Nat) : bits BinOp.xor IntKind.u8 (a.toNat : Int) ((q : Int) % 256) = (((a ^^^ UInt8.ofNat q).toNat : Nat) : Int) := by
  have := u8_xor_nat a.toNat (q % 256) (UInt8.toNat_lt a) (by omega)
  rw [UInt8.toNat_xor, UInt8.toNat_ofNat', ← this]
  rfl

end Go.Proofs.Ytplkogjnmjjjgaa.Sl
