/- The walks of header.Size, header.Put and the reference's May, Size and Put, each once. -/
import Derived.Test.YtibhlblieeflbaaHdrFns
namespace Go.Proofs.Ytibhlblieeflbaa
open Go.ChangeShapes Go.WideShapes Go.ChangeAt Go.RowKit

def sizeOf' (p f o : Int) : Int := if Ok p f o then 1 + p + f + o else 0
theorem size_any (p f o : Int) (w : World) :
    Calls Try.prog 12 #[hv p f o] w fun e w' => e = .returned (.int .i64 (sizeOf' p f o)) ∧ Below w.heap.size w w' := by
  have hb := below_new w (.cells #[.int .i64 p, .int .i64 f, .int .i64 o] 23)
  have hcell : ∀ w', Below (w.alloc (.cells #[.int .i64 p, .int .i64 f, .int .i64 o] 23)).heap.size (w.alloc (.cells #[.int .i64 p, .int .i64 f, .int .i64 o] 23)) w' → w'.cell? ⟨w.heap.size, 0, none⟩ = some (.int .i64 p) ∧ w'.cell? ⟨w.heap.size, 1, none⟩ = some (.int .i64 f) ∧ w'.cell? ⟨w.heap.size, 2, none⟩ = some (.int .i64 o) := fun w' h => by
    refine ⟨?_, ?_, ?_⟩ <;> rw [h.cell (by simp)] <;> simp
  by_cases hok : Ok p f o
  · have hc := code_ok hok
    have hs : sizeOf' p f o = 1 + p + f + o := if_pos hok
    have hok' := hok
    unfold Ok at hok'
    obtain ⟨a1, a2, a3, a4, a5, a6, a7⟩ := hok'
    have Hok := Lib.hid hok
    have Hc := Lib.hid hc
    have Hs := Lib.hid hs
    clear hok hc hs
    unfold hv
    go_enter Try.func12, Try.ntmps12
    go_wp2_with (go_at_call 10; refine (check_any p f o _).mono ?_; rintro e w1 ⟨rfl, hb1⟩; rw [Hc.out]; obtain ⟨c0, c1, c2⟩ := hcell _ hb1; replace hb := seq hb hb1; clear hb1 hcell)
    go_ret
    exact ⟨by rw [Hs.out]; rfl, hb⟩
  · have hc := code_bad hok
    have hs : sizeOf' p f o = 0 := if_neg hok
    have Hc := Lib.hid hc
    have Hs := Lib.hid hs
    clear hok hc hs
    unfold hv
    go_enter Try.func12, Try.ntmps12
    go_wp2_with (go_at_call 10; refine (check_any p f o _).mono ?_; rintro e w1 ⟨rfl, hb1⟩; rw [Hc.out]; replace hb := seq hb hb1; clear hb1 hcell)
    go_ret
    exact ⟨by rw [Hs.out]; rfl, hb⟩

/-- the low half of a header's word, and the word -/
def low (p f o : Nat) : Nat := p + f * 256 + o * 65536 + 2768240640
def wordOf (p f o : Nat) : Nat := low p f o + (4294967295 - low p f o) * 4294967296
theorem or_add {x y : Nat} (i : Nat) (hx : x < 2 ^ i) (hy : y % 2 ^ i = 0) : x ||| y = x + y := by
  rw [Nat.or_comm, nat_join i y x hy hx]; omega
theorem put_facts (p f o : Nat) (hp : p ≤ 255) (hf : f ≤ 255) (ho : o ≤ 255) : ∃ A B N M K : Int,
    bits BinOp.or IntKind.u32 (p : Int) ((f : Int) * 256) = A ∧ bits BinOp.or IntKind.u32 A ((o : Int) * 65536) = B ∧ bits BinOp.or IntKind.u32 B 2768240640 = N ∧
    bits BinOp.xor IntKind.u32 IntKind.u32.max N = M ∧ IntKind.u64.wrap M = M ∧ IntKind.u64.wrap N = N ∧ IntKind.u64.wrap (M * 4294967296) = K ∧ bits BinOp.or IntKind.u64 K N = (wordOf p f o : Nat) := by
  have hl : low p f o < 4294967296 := by unfold low; omega
  refine ⟨((p + f * 256 : Nat) : Int), ((p + f * 256 + o * 65536 : Nat) : Int), (low p f o : Nat), ((4294967295 - low p f o : Nat) : Int), (((4294967295 - low p f o) * 4294967296 : Nat) : Int), ?_, ?_, ?_, ?_, ?_, ?_, ?_, ?_⟩
  · rw [show ((f : Int) * 256) = ((f * 256 : Nat) : Int) from by omega, u32_or_nat _ _ (by omega) (by omega), or_add 8 (by omega) (by omega)]
  · rw [show ((o : Int) * 65536) = ((o * 65536 : Nat) : Int) from by omega, u32_or_nat _ _ (by omega) (by omega), or_add 16 (by omega) (by omega)]
  · rw [show (2768240640 : Int) = ((2768240640 : Nat) : Int) from rfl, u32_or_nat _ _ (by omega) (by omega), or_add 24 (by omega) (by omega)]; rfl
  · rw [show IntKind.u32.max = ((4294967295 : Nat) : Int) from rfl, u32_xor_nat _ _ (by omega) hl]
    refine congrArg (fun n : Nat => (n : Int)) ?_
    generalize low p f o = n at *
    have e : 2 ^ 32 - 1 - n = 2 ^ 32 - (n + 1) := by omega
    rw [show (4294967295 : Nat) = 2 ^ 32 - 1 from rfl, e]
    apply Nat.eq_of_testBit_eq
    intro i
    rw [Nat.testBit_two_pow_sub_succ hl, Nat.testBit_xor, Nat.testBit_two_pow_sub_one]
    by_cases hi : i < 32
    · simp [hi]
    · have : n.testBit i = false := Nat.testBit_lt_two_pow (Nat.lt_of_lt_of_le hl (Nat.pow_le_pow_right (n := 2) (i := 32) (by omega) (by omega)))
      simp [hi, this]
  · rw [IntKind.wrap_u64]; omega
  · rw [IntKind.wrap_u64]; omega
  · rw [IntKind.wrap_u64]; omega
  · rw [u64_or_nat _ _ (by omega) (by omega), Nat.or_comm, or_add 32 hl (by omega)]; rfl

theorem put_yes (p f o : Nat) (w : World) (hok : Ok p f o) :
    Calls Try.prog 6 #[hv p f o] w fun e w' => e = .returned (.tuple #[.int .u64 (wordOf p f o : Nat), .int .i64 0]) ∧ Below w.heap.size w w' := by
  have hb := below_new w (.cells #[.int .i64 p, .int .i64 f, .int .i64 o] 23)
  have hcell : ∀ w', Below (w.alloc (.cells #[.int .i64 p, .int .i64 f, .int .i64 o] 23)).heap.size (w.alloc (.cells #[.int .i64 p, .int .i64 f, .int .i64 o] 23)) w' → w'.cell? ⟨w.heap.size, 0, none⟩ = some (.int .i64 p) ∧ w'.cell? ⟨w.heap.size, 1, none⟩ = some (.int .i64 f) ∧ w'.cell? ⟨w.heap.size, 2, none⟩ = some (.int .i64 o) := fun w' h => by
    refine ⟨?_, ?_, ?_⟩ <;> rw [h.cell (by simp)] <;> simp
  have hc := code_ok hok
  have hok' := hok
  unfold Ok at hok'
  obtain ⟨a1, a2, a3, a4, a5, a6, a7⟩ := hok'
  obtain ⟨A, B, N, M, K, e1, e2, e3, e4, e5, e6, e7, e8⟩ := put_facts p f o (by omega) (by omega) (by omega)
  have hsg : IntKind.u32.signed = false := rfl
  have Hc := Lib.hid hc
  clear hok hc
  unfold hv
  go_enter Try.func6, Try.ntmps6
  go_wp2_with (go_at_call 10; refine (check_any p f o _).mono ?_; rintro e w1 ⟨rfl, hb1⟩; rw [Hc.out]; obtain ⟨c0, c1, c2⟩ := hcell _ hb1; replace hb := seq hb hb1; clear hb1 hcell)
  go_ret2
  exact ⟨rfl, hb⟩

theorem put_no (p f o : Int) (w : World) (hok : ¬ Ok p f o) :
    Calls Try.prog 6 #[hv p f o] w fun e w' => e = .returned (.tuple #[.int .u64 0, .int .i64 15]) ∧ Below w.heap.size w w' := by
  have hb := below_new w (.cells #[.int .i64 p, .int .i64 f, .int .i64 o] 23)
  have hc := code_bad hok
  have Hc := Lib.hid hc
  clear hok hc
  unfold hv
  go_enter Try.func6, Try.ntmps6
  go_wp2_with (go_at_call 10; refine (check_any p f o _).mono ?_; rintro e w1 ⟨rfl, hb1⟩; rw [Hc.out]; replace hb := seq hb hb1; clear hb1)
  go_ret2
  exact ⟨rfl, hb⟩

theorem may_any (p f o : Int) (w : World) :
    Calls Try.prog 11 #[hv p f o] w fun e w' => e = .returned (.bool (decide (Ok p f o))) ∧ Below w.heap.size w w' := by
  have hb := below_new w (.cells #[.int .i64 p, .int .i64 f, .int .i64 o] 23)
  unfold hv
  have bad : ¬ Ok p f o → decide (Ok p f o) = false := fun h => decide_eq_false h
  have good : Ok p f o → decide (Ok p f o) = true := fun h => decide_eq_true h
  generalize hd : decide (Ok p f o) = d at *
  clear hd
  unfold Ok at bad good
  by_cases h1 : p < 0
  · obtain rfl : d = false := bad (by omega)
    clear bad good
    go_enter Try.func11, Try.ntmps11
    go_wp2
    go_ret
    exact ⟨rfl, hb⟩
  by_cases h2 : f < 0
  · obtain rfl : d = false := bad (by omega)
    clear bad good
    go_enter Try.func11, Try.ntmps11
    go_wp2
    go_ret
    exact ⟨rfl, hb⟩
  by_cases h3 : o < 0
  · obtain rfl : d = false := bad (by omega)
    clear bad good
    go_enter Try.func11, Try.ntmps11
    go_wp2
    go_ret
    exact ⟨rfl, hb⟩
  by_cases h4 : 255 < p
  · obtain rfl : d = false := bad (by omega)
    clear bad good
    go_enter Try.func11, Try.ntmps11
    go_wp2
    go_ret
    exact ⟨rfl, hb⟩
  by_cases h5 : 255 < f
  · obtain rfl : d = false := bad (by omega)
    clear bad good
    go_enter Try.func11, Try.ntmps11
    go_wp2
    go_ret
    exact ⟨rfl, hb⟩
  by_cases h6 : 255 < o
  · obtain rfl : d = false := bad (by omega)
    clear bad good
    go_enter Try.func11, Try.ntmps11
    go_wp2
    go_ret
    exact ⟨rfl, hb⟩
  by_cases h7 : p + f + o ≤ 255
  · obtain rfl : d = true := good (by omega)
    clear bad good
    go_enter Try.func11, Try.ntmps11
    go_wp2
    go_ret
    exact ⟨rfl, hb⟩
  · obtain rfl : d = false := bad (by omega)
    clear bad good
    go_enter Try.func11, Try.ntmps11
    go_wp2
    go_ret
    exact ⟨rfl, hb⟩
end Go.Proofs.Ytibhlblieeflbaa
