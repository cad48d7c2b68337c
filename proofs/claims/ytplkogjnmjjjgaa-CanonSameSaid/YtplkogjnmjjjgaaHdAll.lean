/- HdAll: several texts in one. -/
import Derived.Test.YtplkogjnmjjjgaaKit
import Derived.OwnWalk
import Derived.WalkSmall
/- The walks of package header's functions, each once. -/
namespace Go.Proofs.Ytplkogjnmjjjgaa.Hd
open Go.ChangeShapes Go.WideShapes Go.ChangeAt Go.RowKit

/-- a header that may be -/
def Ok (p f o : Int) : Prop := 0 ≤ p ∧ p ≤ 255 ∧ 0 ≤ f ∧ f ≤ 255 ∧ 0 ≤ o ∧ o ≤ 255 ∧ p + f + o ≤ 255
instance (p f o : Int) : Decidable (Ok p f o) := by unfold Ok; infer_instance
/-- the code of a header that is checked -/
def code (p f o : Int) : Int := if Ok p f o then 0 else 15
theorem code_ok {p f o : Int} (h : Ok p f o) : code p f o = 0 := if_pos h
theorem code_bad {p f o : Int} (h : ¬ Ok p f o) : code p f o = 15 := if_neg h
/-- a header's value -/
def hv (p f o : Int) : Value := .agg #[.int .i64 p, .int .i64 f, .int .i64 o]

/-- a byte's number -/
def In8 (n : Int) : Prop := 0 ≤ n ∧ n ≤ 255

theorem idx0 (a b c : Value) (w : World) : (Instr.index 118 (.agg #[a, b, c]) (.int .i64 0)).run Try.prog w = .ok a w := by kernel_rfl
theorem idx1 (a b c : Value) (w : World) : (Instr.index 118 (.agg #[a, b, c]) (.int .i64 1)).run Try.prog w = .ok b w := by kernel_rfl
theorem idx2 (a b c : Value) (w : World) : (Instr.index 118 (.agg #[a, b, c]) (.int .i64 2)).run Try.prog w = .ok c w := by kernel_rfl

theorem check_any (p f o : Int) (w : World) :
    Calls Try.prog 48 #[hv p f o] w fun e w' => e = .returned (.int .i64 (code p f o)) ∧ Below w.heap.size w w' := by
  unfold hv
  have i0 := idx0
  have i1 := idx1
  have i2 := idx2
  have hb := below_new w (.cells #[.int .i64 p, .int .i64 f, .int .i64 o] 80)
  go_enter Try.func48, Try.ntmps48
  go_wp2
  go_loop [12] (fun i => i = .int .i64 0 ∨ (i = .int .i64 1 ∧ In8 p) ∨ (i = .int .i64 2 ∧ In8 p ∧ In8 f) ∨ (i = .int .i64 3 ∧ In8 p ∧ In8 f ∧ In8 o)) (fun i => 3 - (intOf i).toNat)
  case atStart => exact .inl rfl
  case round =>
    rcases hrel with rfl | ⟨rfl, hp⟩ | ⟨rfl, hp, hf⟩ | ⟨rfl, hp, hf, ho⟩
    · by_cases h0 : p < 0
      · have hc := code_bad (p := p) (f := f) (o := o) (fun h => by unfold Ok at h; omega)
        go_wp2
        go_ret
        exact ⟨rfl, hb⟩
      · by_cases h1 : 256 ≤ p
        · have hc := code_bad (p := p) (f := f) (o := o) (fun h => by unfold Ok at h; omega)
          go_wp2
          go_ret
          exact ⟨rfl, hb⟩
        · have hp : In8 p := ⟨by omega, by omega⟩
          go_wp2
          go_round
          case rel => exact .inr (.inl ⟨rfl, hp⟩)
          case measure => simp [intOf]
    · by_cases h0 : f < 0
      · have hc := code_bad (p := p) (f := f) (o := o) (fun h => by unfold Ok at h; omega)
        go_wp2
        go_ret
        exact ⟨rfl, hb⟩
      · by_cases h1 : 256 ≤ f
        · have hc := code_bad (p := p) (f := f) (o := o) (fun h => by unfold Ok at h; omega)
          go_wp2
          go_ret
          exact ⟨rfl, hb⟩
        · have hf : In8 f := ⟨by omega, by omega⟩
          go_wp2
          go_round
          case rel => exact .inr (.inr (.inl ⟨rfl, hp, hf⟩))
          case measure => simp [intOf]
    · by_cases h0 : o < 0
      · have hc := code_bad (p := p) (f := f) (o := o) (fun h => by unfold Ok at h; omega)
        go_wp2
        go_ret
        exact ⟨rfl, hb⟩
      · by_cases h1 : 256 ≤ o
        · have hc := code_bad (p := p) (f := f) (o := o) (fun h => by unfold Ok at h; omega)
          go_wp2
          go_ret
          exact ⟨rfl, hb⟩
        · have ho : In8 o := ⟨by omega, by omega⟩
          go_wp2
          go_round
          case rel => exact .inr (.inr (.inr ⟨rfl, hp, hf, ho⟩))
          case measure => simp [intOf]
    · obtain ⟨hp0, hp1⟩ := hp
      obtain ⟨hf0, hf1⟩ := hf
      obtain ⟨ho0, ho1⟩ := ho
      by_cases h1 : 256 ≤ p + f + o
      · have hc := code_bad (p := p) (f := f) (o := o) (fun h => by unfold Ok at h; omega)
        go_wp2
        go_ret
        exact ⟨rfl, hb⟩
      · have hc := code_ok (p := p) (f := f) (o := o) (by unfold Ok; omega)
        go_wp2
        go_ret
        exact ⟨rfl, hb⟩
end Go.Proofs.Ytplkogjnmjjjgaa.Hd

/- The walks of header.Size, header.Put and the reference's May, Size and Put, each once. -/
namespace Go.Proofs.Ytplkogjnmjjjgaa.Hd
open Go.ChangeShapes Go.WideShapes Go.ChangeAt Go.RowKit

def sizeOf' (p f o : Int) : Int := if Ok p f o then 1 + p + f + o else 0
theorem size_any (p f o : Int) (w : World) :
    Calls Try.prog 40 #[hv p f o] w fun e w' => e = .returned (.int .i64 (sizeOf' p f o)) ∧ Below w.heap.size w w' := by
  have hb := below_new w (.cells #[.int .i64 p, .int .i64 f, .int .i64 o] 80)
  have hcell : ∀ w', Below (w.alloc (.cells #[.int .i64 p, .int .i64 f, .int .i64 o] 80)).heap.size (w.alloc (.cells #[.int .i64 p, .int .i64 f, .int .i64 o] 80)) w' → w'.cell? ⟨w.heap.size, 0, none⟩ = some (.int .i64 p) ∧ w'.cell? ⟨w.heap.size, 1, none⟩ = some (.int .i64 f) ∧ w'.cell? ⟨w.heap.size, 2, none⟩ = some (.int .i64 o) := fun w' h => by
    refine ⟨?_, ?_, ?_⟩ <;> rw [h.cell (by simp)] <;> simp
  by_cases hok : Ok p f o
  · have hc := code_ok hok
    have hs : sizeOf' p f o = 1 + p + f + o := if_pos hok
    have hok' := hok
    unfold Ok at hok'
    obtain ⟨a1, a2, a3, a4, a5, a6, a7⟩ := hok'
    have Hok := Lib.hid hok
    have Hc := Lib.hid hc
    have Hs := Lib.hid hs
    clear hok hc hs
    unfold hv
    go_enter Try.func40, Try.ntmps40
    go_wp2_with (go_at_call 48; refine (check_any p f o _).mono ?_; rintro e w1 ⟨rfl, hb1⟩; rw [Hc.out]; obtain ⟨c0, c1, c2⟩ := hcell _ hb1; replace hb := seq hb hb1; clear hb1 hcell)
    go_ret
    exact ⟨by rw [Hs.out]; rfl, hb⟩
  · have hc := code_bad hok
    have hs : sizeOf' p f o = 0 := if_neg hok
    have Hc := Lib.hid hc
    have Hs := Lib.hid hs
    clear hok hc hs
    unfold hv
    go_enter Try.func40, Try.ntmps40
    go_wp2_with (go_at_call 48; refine (check_any p f o _).mono ?_; rintro e w1 ⟨rfl, hb1⟩; rw [Hc.out]; replace hb := seq hb hb1; clear hb1 hcell)
    go_ret
    exact ⟨by rw [Hs.out]; rfl, hb⟩

/-- the low half of a header's word, and the word -/
def low (p f o : Nat) : Nat := p + f * 256 + o * 65536 + 2768240640
def wordOf (p f o : Nat) : Nat := low p f o + (4294967295 - low p f o) * 4294967296
theorem or_add {x y : Nat} (i : Nat) (hx : x < 2 ^ i) (hy : y % 2 ^ i = 0) : x ||| y = x + y := by
  rw [Nat.or_comm, nat_join i y x hy hx]; omega
theorem put_facts (p f o : Nat) (hp : p ≤ 255) (hf : f ≤ 255) (ho : o ≤ 255) : ∃ A B N M K : Int,
    bits BinOp.or IntKind.u32 (p : Int) ((f : Int) * 256) = A ∧ bits BinOp.or IntKind.u32 A ((o : Int) * 65536) = B ∧ bits BinOp.or IntKind.u32 B 2768240640 = N ∧
    bits BinOp.xor IntKind.u32 IntKind.u32.max N = M ∧ IntKind.u64.wrap M = M ∧ IntKind.u64.wrap N = N ∧ IntKind.u64.wrap (M * 4294967296) = K ∧ bits BinOp.or IntKind.u64 K N = (wordOf p f o : Nat) := by
  have hl : low p f o < 4294967296 := by unfold low; omega
  refine ⟨((p + f * 256 : Nat) : Int), ((p + f * 256 + o * 65536 : Nat) : Int), (low p f o : Nat), ((4294967295 - low p f o : Nat) : Int), (((4294967295 - low p f o) * 4294967296 : Nat) : Int), ?_, ?_, ?_, ?_, ?_, ?_, ?_, ?_⟩
  · rw [show ((f : Int) * 256) = ((f * 256 : Nat) : Int) from by omega, u32_or_nat _ _ (by omega) (by omega), or_add 8 (by omega) (by omega)]
  · rw [show ((o : Int) * 65536) = ((o * 65536 : Nat) : Int) from by omega, u32_or_nat _ _ (by omega) (by omega), or_add 16 (by omega) (by omega)]
  · rw [show (2768240640 : Int) = ((2768240640 : Nat) : Int) from rfl, u32_or_nat _ _ (by omega) (by omega), or_add 24 (by omega) (by omega)]; rfl
  · rw [show IntKind.u32.max = ((4294967295 : Nat) : Int) from rfl, u32_xor_nat _ _ (by omega) hl]
    refine congrArg (fun n : Nat => (n : Int)) ?_
    generalize low p f o = n at *
    have e : 2 ^ 32 - 1 - n = 2 ^ 32 - (n + 1) := by omega
    rw [show (4294967295 : Nat) = 2 ^ 32 - 1 from rfl, e]
    apply Nat.eq_of_testBit_eq
    intro i
    rw [Nat.testBit_two_pow_sub_succ hl, Nat.testBit_xor, Nat.testBit_two_pow_sub_one]
    by_cases hi : i < 32
    · simp [hi]
    · have : n.testBit i = false := Nat.testBit_lt_two_pow (Nat.lt_of_lt_of_le hl (Nat.pow_le_pow_right (n := 2) (i := 32) (by omega) (by omega)))
      simp [hi, this]
  · rw [IntKind.wrap_u64]; omega
  · rw [IntKind.wrap_u64]; omega
  · rw [IntKind.wrap_u64]; omega
  · rw [u64_or_nat _ _ (by omega) (by omega), Nat.or_comm, or_add 32 hl (by omega)]; rfl

theorem may_any (p f o : Int) (w : World) :
    Calls Try.prog 44 #[hv p f o] w fun e w' => e = .returned (.bool (decide (Ok p f o))) ∧ Below w.heap.size w w' := by
  have hb := below_new w (.cells #[.int .i64 p, .int .i64 f, .int .i64 o] 80)
  unfold hv
  have bad : ¬ Ok p f o → decide (Ok p f o) = false := fun h => decide_eq_false h
  have good : Ok p f o → decide (Ok p f o) = true := fun h => decide_eq_true h
  generalize hd : decide (Ok p f o) = d at *
  clear hd
  unfold Ok at bad good
  by_cases h1 : p < 0
  · obtain rfl : d = false := bad (by omega)
    clear bad good
    go_enter Try.func44, Try.ntmps44
    go_wp2
    go_ret
    exact ⟨rfl, hb⟩
  by_cases h2 : f < 0
  · obtain rfl : d = false := bad (by omega)
    clear bad good
    go_enter Try.func44, Try.ntmps44
    go_wp2
    go_ret
    exact ⟨rfl, hb⟩
  by_cases h3 : o < 0
  · obtain rfl : d = false := bad (by omega)
    clear bad good
    go_enter Try.func44, Try.ntmps44
    go_wp2
    go_ret
    exact ⟨rfl, hb⟩
  by_cases h4 : 255 < p
  · obtain rfl : d = false := bad (by omega)
    clear bad good
    go_enter Try.func44, Try.ntmps44
    go_wp2
    go_ret
    exact ⟨rfl, hb⟩
  by_cases h5 : 255 < f
  · obtain rfl : d = false := bad (by omega)
    clear bad good
    go_enter Try.func44, Try.ntmps44
    go_wp2
    go_ret
    exact ⟨rfl, hb⟩
  by_cases h6 : 255 < o
  · obtain rfl : d = false := bad (by omega)
    clear bad good
    go_enter Try.func44, Try.ntmps44
    go_wp2
    go_ret
    exact ⟨rfl, hb⟩
  by_cases h7 : p + f + o ≤ 255
  · obtain rfl : d = true := good (by omega)
    clear bad good
    go_enter Try.func44, Try.ntmps44
    go_wp2
    go_ret
    exact ⟨rfl, hb⟩
  · obtain rfl : d = false := bad (by omega)
    clear bad good
    go_enter Try.func44, Try.ntmps44
    go_wp2
    go_ret
    exact ⟨rfl, hb⟩
end Go.Proofs.Ytplkogjnmjjjgaa.Hd

/- The walks of header.Take and the reference's Size, Put and Take, each once. -/
namespace Go.Proofs.Ytplkogjnmjjjgaa.Hd
open Go.ChangeShapes Go.WideShapes Go.ChangeAt Go.RowKit

/-- the fields that a word may have -/
def tp (x : Nat) : Nat := x % 256
def tf (x : Nat) : Nat := x / 256 % 256
def to (x : Nat) : Nat := x / 65536 % 256
/-- a word that is a header's -/
def Is (x : Nat) : Prop := Ok (tp x) (tf x) (to x) ∧ wordOf (tp x) (tf x) (to x) = x
instance (x : Nat) : Decidable (Is x) := by unfold Is; infer_instance

theorem take_facts (x : Nat) : ∃ N : Nat, N < 4294967296 ∧ ((x : Int) % 4294967296 = N) ∧ bits BinOp.and IntKind.u32 (N : Int) 255 = (tp x : Nat) ∧ bits BinOp.and IntKind.u32 ((N : Int) / 256) 255 = (tf x : Nat) ∧
    bits BinOp.and IntKind.u32 ((N : Int) / 65536) 255 = (to x : Nat) ∧ (Is x ↔ N / 16777216 = 165 ∧ x / 4294967296 = 4294967295 - N ∧ Ok (tp x) (tf x) (to x)) ∧ bits BinOp.xor IntKind.u32 IntKind.u32.max (N : Int) = ((4294967295 - N : Nat) : Int) := by
  refine ⟨x % 4294967296, by omega, by omega, ?_, ?_, ?_, ?_, ?_⟩
  · have := u32_and_nat (x % 4294967296) 255 (by omega) (by decide)
    rw [nat_mask8] at this
    rw [show (255 : Int) = ((255 : Nat) : Int) from rfl, this]; unfold tp; omega
  · have := u32_and_nat (x % 4294967296 / 256) 255 (by omega) (by decide)
    rw [nat_mask8] at this
    rw [show (((x % 4294967296 : Nat) : Int) / 256) = ((x % 4294967296 / 256 : Nat) : Int) from by omega, show (255 : Int) = ((255 : Nat) : Int) from rfl, this]; unfold tf; omega
  · have := u32_and_nat (x % 4294967296 / 65536) 255 (by omega) (by decide)
    rw [nat_mask8] at this
    rw [show (((x % 4294967296 : Nat) : Int) / 65536) = ((x % 4294967296 / 65536 : Nat) : Int) from by omega, show (255 : Int) = ((255 : Nat) : Int) from rfl, this]; unfold to; omega
  · have hp : tp x ≤ 255 := by unfold tp; omega
    have hf : tf x ≤ 255 := by unfold tf; omega
    have ho : to x ≤ 255 := by unfold to; omega
    have hs : x % 4294967296 = tp x + tf x * 256 + to x * 65536 + x % 4294967296 / 16777216 * 16777216 := by unfold tp tf to; omega
    unfold Is wordOf
    have hlow : low (tp x) (tf x) (to x) = tp x + tf x * 256 + to x * 65536 + 2768240640 := rfl
    generalize tp x = p at *
    generalize tf x = f at *
    generalize to x = o at *
    generalize low p f o = l at *
    constructor
    · rintro ⟨h1, h2⟩
      have hl : l < 4294967296 := by omega
      have h3 : x % 4294967296 = l := by omega
      have h4 : x / 4294967296 = 4294967295 - l := by omega
      exact ⟨by omega, by omega, h1⟩
    · rintro ⟨h1, h2, h3⟩
      exact ⟨h3, by omega⟩
  · have hN : x % 4294967296 < 2 ^ 32 := by omega
    generalize x % 4294967296 = n at *
    rw [show IntKind.u32.max = ((4294967295 : Nat) : Int) from rfl, u32_xor_nat _ _ (by omega) hN]
    refine congrArg (fun n : Nat => (n : Int)) ?_
    have e : 2 ^ 32 - 1 - n = 2 ^ 32 - (n + 1) := by omega
    rw [show (4294967295 : Nat) = 2 ^ 32 - 1 from rfl, e]
    apply Nat.eq_of_testBit_eq
    intro i
    rw [Nat.testBit_two_pow_sub_succ hN, Nat.testBit_xor, Nat.testBit_two_pow_sub_one]
    by_cases hi : i < 32
    · simp [hi]
    · have : n.testBit i = false := Nat.testBit_lt_two_pow (Nat.lt_of_lt_of_le hN (Nat.pow_le_pow_right (n := 2) (i := 32) (by omega) (by omega)))
      simp [hi, this]

end Go.Proofs.Ytplkogjnmjjjgaa.Hd

/- The walks of the reference's Size, Put and Take, and of header.Kind, Count and First, each once. -/
namespace Go.Proofs.Ytplkogjnmjjjgaa.Hd
open Go.ChangeShapes Go.WideShapes Go.ChangeAt Go.RowKit

/-- the block of a header's copy -/
def hdrBlock (p f o : Int) : Obj := .cells #[.int .i64 p, .int .i64 f, .int .i64 o] 80
theorem hdr_kept (p f o : Int) (w w' : World) (hb : Below (w.alloc (hdrBlock p f o)).heap.size (w.alloc (hdrBlock p f o)) w') :
    (w'.cell? ⟨w.heap.size, 0, none⟩ = some (.int .i64 p) ∧ w'.cell? ⟨w.heap.size, 1, none⟩ = some (.int .i64 f) ∧ w'.cell? ⟨w.heap.size, 2, none⟩ = some (.int .i64 o)) ∧ w'.frozen? ⟨w.heap.size, 0, none⟩ = false ∧ w'.frozen? ⟨w.heap.size, 1, none⟩ = false ∧ w'.frozen? ⟨w.heap.size, 2, none⟩ = false :=
  three (blockB hb (Nat.le_refl _) (heap_alloc_new _ _))

theorem refSize_any (p f o : Int) (w : World) :
    Calls Try.prog 51 #[hv p f o] w fun e w' => e = .returned (.int .i64 (sizeOf' p f o)) ∧ Below w.heap.size w w' := by
  have hb := below_new w (hdrBlock p f o)
  have hk := hdr_kept p f o w
  have hm := may_any p f o (w.alloc (hdrBlock p f o))
  unfold hdrBlock at hk hb hm
  by_cases hok : Ok p f o
  · have hs : sizeOf' p f o = p + f + o + 1 := by rw [show p + f + o + 1 = 1 + p + f + o from by omega]; exact if_pos hok
    rw [decide_eq_true hok] at hm
    have hok' := hok
    unfold Ok at hok'
    obtain ⟨a1, a2, a3, a4, a5, a6, a7⟩ := hok'
    have Hs := Lib.hid hs
    have Hm := Lib.hid hm
    clear hok hs hm
    unfold hv at *
    go_enter Try.func51, Try.ntmps51
    go_wp2_with (go_at_call 44; refine (Hm.out).mono ?_; rintro e w1 ⟨rfl, hb1⟩; obtain ⟨⟨c0, c1, c2⟩, -⟩ := hk _ hb1; replace hb := seq hb hb1; clear hb1 hk)
    go_ret
    exact ⟨by rw [Hs.out]; rfl, hb⟩
  · have hs : sizeOf' p f o = 0 := if_neg hok
    rw [decide_eq_false hok] at hm
    have Hs := Lib.hid hs
    have Hm := Lib.hid hm
    clear hok hs hm
    unfold hv at *
    go_enter Try.func51, Try.ntmps51
    go_wp2_with (go_at_call 44; refine (Hm.out).mono ?_; rintro e w1 ⟨rfl, hb1⟩; replace hb := seq hb hb1; clear hb1 hk)
    go_ret
    exact ⟨by rw [Hs.out]; rfl, hb⟩

theorem refPut_facts (p f o : Nat) (hp : p ≤ 255) (hf : f ≤ 255) (ho : o ≤ 255) : ∃ A B C D N M K : Int, IntKind.u64.wrap (p : Int) = p ∧ IntKind.u64.wrap (f : Int) = f ∧ IntKind.u64.wrap (o : Int) = o ∧
    IntKind.u64.wrap ((f : Int) * 256) = A ∧ IntKind.u64.wrap ((p : Int) + A) = B ∧ IntKind.u64.wrap ((o : Int) * 65536) = C ∧ IntKind.u64.wrap (B + C) = D ∧ IntKind.u64.wrap (D + 2768240640) = N ∧
    IntKind.u64.wrap (4294967295 - N) = M ∧ IntKind.u64.wrap (M * 4294967296) = K ∧ IntKind.u64.wrap (N + K) = (wordOf p f o : Nat) := by
  have hl : low p f o < 4294967296 := by unfold low; omega
  refine ⟨(f * 256 : Nat), (p + f * 256 : Nat), (o * 65536 : Nat), (p + f * 256 + o * 65536 : Nat), (low p f o : Nat), (4294967295 - low p f o : Nat), ((4294967295 - low p f o) * 4294967296 : Nat), ?_, ?_, ?_, ?_, ?_, ?_, ?_, ?_, ?_, ?_, ?_⟩ <;> rw [IntKind.wrap_u64]
  · omega
  · omega
  · omega
  · omega
  · omega
  · omega
  · omega
  · unfold low; omega
  · omega
  · omega
  · unfold wordOf; omega

def kindOf (p f o i : Int) : Int := if Ok p f o ∧ 0 ≤ i ∧ i < p + f + o then (if i < p then 1 else if i < p + f then 2 else 3) else 0
def countOf (p f o k : Int) : Int := if Ok p f o then (if k = 1 then p else if k = 2 then f else if k = 3 then o else 0) else 0
def firstOf (p f o k : Int) : Int := if Ok p f o then (if k = 2 then p else if k = 3 then p + f else 0) else 0

end Go.Proofs.Ytplkogjnmjjjgaa.Hd

/- The walks of the reference's Kinds, Kind, Count and First, each once. -/
namespace Go.Proofs.Ytplkogjnmjjjgaa.Hd
open Go.ChangeShapes Go.WideShapes Go.ChangeAt Go.RowKit

def icells (l : List Int) : List Value := l.map fun c => .int .i64 c
theorem icells_append (a b : List Int) : icells (a ++ b) = icells a ++ icells b := by simp [icells]
theorem icells_length (a : List Int) : (icells a).length = a.length := by simp [icells]
/-- a row of numbers of the call's own, as a result -/
def SomeRow (l : List Int) (w : World) (e : Ending) (w' : World) : Prop := ∃ v, e = .returned v ∧ w'.ownsRow w.heap.size 3 1 v l.length (icells l) ∧ Below w.heap.size w w'
theorem int_info : (Try.prog.info? 3).map (fun i => (i.zero, i.size, i.bytes)) = some (some (.int .i64 0), 1, 8) := by kernel_rfl

def kindsL (p f o : Nat) : List Int := List.replicate p 1 ++ List.replicate f 2 ++ List.replicate o 3
theorem own_step {w1 : World} {B : Nat} {v' : Value} {l : List Int} {c : Int} (n : Nat) (hn : n = l.length) (h : w1.ownsRow B 3 1 v' (n + 1) (icells l ++ [.int .i64 c])) : w1.ownsRow B 3 1 v' (l ++ [c]).length (icells (l ++ [c])) := by
  rw [icells_append, List.length_append, ← hn]; exact h

theorem own_base {w : World} {B B' e sz n : Nat} {v : Value} {l : List Value} (hB : B' ≤ B) (h : w.ownsRow B e sz v n l) : w.ownsRow B' e sz v n l := by
  refine ⟨h.1, ?_⟩
  rcases h.2 with hn | ⟨g, cap, cur, h1, h2, h3⟩
  · exact .inl hn
  · exact .inr ⟨g, cap, cur, h1, by omega, h3⟩

/-- the fields' kinds of any header -/
def kinds (p f o : Int) : List Int := if Ok p f o then kindsL p.toNat f.toNat o.toNat else []
theorem kinds_le (p f o : Int) : (kinds p f o).length ≤ 255 := by
  unfold kinds
  split
  · rename_i h
    unfold Ok at h
    simp [kindsL]
    omega
  · simp

/-- what a row of the call's own gives to whoever reads it -/
theorem own_cases {w : World} {B : Nat} {v : Value} {l : List Int} (h : w.ownsRow B 3 1 v l.length (icells l)) :
    (v = .slice none 0 0 ∧ l = []) ∨ ∃ g cap, v = .slice (some ⟨g, 0, none⟩) l.length cap ∧ B ≤ g ∧ ∀ j, j < l.length → w.cell? ⟨g, j, none⟩ = some (.int .i64 (l.getD j 0)) := by
  have hc := fun g hg => World.ownsRow.cells h (g := g) hg
  rcases h.2 with ⟨rfl, h0⟩ | ⟨g, cap, cur, rfl, hg, hcur, hle, hcap, hsz, htake⟩
  · exact .inl ⟨rfl, List.eq_nil_of_length_eq_zero h0⟩
  · refine .inr ⟨g, cap, rfl, hg, fun j hj => ?_⟩
    have := hc g rfl j (.int .i64 (l.getD j 0)) (by simp [icells, hj])
    have hadd : (⟨g, 0, none⟩ : Addr).add j = ⟨g, j, none⟩ := by unfold Addr.add; split <;> simp_all
    rw [hadd] at this
    exact this

theorem own_shape {w : World} {B : Nat} {v : Value} {l : List Int} (h : w.ownsRow B 3 1 v l.length (icells l)) : ∃ a cap, v = .slice a l.length cap := by
  rcases own_cases h with ⟨rfl, rfl⟩ | ⟨g, cap, rfl, _⟩
  · exact ⟨none, 0, rfl⟩
  · exact ⟨_, _, rfl⟩
theorem own_view {w : World} {B : Nat} {v : Value} {l : List Int} (h : w.ownsRow B 3 1 v l.length (icells l)) (h0 : 0 < l.length) : ∃ g cap, v = .slice (some ⟨g, 0, none⟩) l.length cap ∧ ∀ j, j < l.length → w.cell? ⟨g, j, none⟩ = some (.int .i64 (l.getD j 0)) := by
  rcases own_cases h with ⟨rfl, rfl⟩ | ⟨g, cap, rfl, _, hc⟩
  · simp at h0
  · exact ⟨_, _, rfl, hc⟩

end Go.Proofs.Ytplkogjnmjjjgaa.Hd

/- The plain law of headers: the fields' kinds, one by one, are what the program reckons. No walk in sight. -/
namespace Go.Proofs.Ytplkogjnmjjjgaa.Hd

theorem kinds_ok {p f o : Nat} (h : Ok p f o) : kinds p f o = kindsL p f o := by
  unfold kinds; rw [if_pos h]; simp
theorem kinds_bad {p f o : Int} (h : ¬ Ok p f o) : kinds p f o = [] := by unfold kinds; rw [if_neg h]
theorem ok_nat {p f o : Int} (h : Ok p f o) : ∃ a b c : Nat, p = a ∧ f = b ∧ o = c := by
  unfold Ok at h
  exact ⟨p.toNat, f.toNat, o.toNat, by omega, by omega, by omega⟩
theorem kindOf_eq (p f o i : Int) : (if 0 ≤ i then (kinds p f o).getD i.toNat 0 else 0) = kindOf p f o i := by
  by_cases hok : Ok p f o
  · obtain ⟨p, f, o, rfl, rfl, rfl⟩ := ok_nat hok
    rw [kinds_ok hok]
    unfold kindOf
    by_cases h0 : 0 ≤ i
    · obtain ⟨i, rfl⟩ := Int.eq_ofNat_of_zero_le h0
      rw [if_pos h0, Int.toNat_natCast]
      unfold kindsL
      simp only [List.getD_eq_getElem?_getD, List.getElem?_append, List.length_append, List.length_replicate, List.getElem?_replicate]
      by_cases h1 : i < p
      · rw [if_pos (by omega), if_pos h1, if_pos (by omega), if_pos ⟨hok, by omega, by omega⟩, if_pos (by omega)]; rfl
      · by_cases h2 : i < p + f
        · rw [if_pos (by omega), if_neg h1, if_pos (by omega), if_pos ⟨hok, by omega, by omega⟩, if_neg (by omega), if_pos (by omega)]; rfl
        · by_cases h3 : i < p + f + o
          · rw [if_neg (by omega), if_pos (by omega), if_pos ⟨hok, by omega, by omega⟩, if_neg (by omega), if_neg (by omega)]; rfl
          · rw [if_neg (by omega), if_neg (by omega), if_neg (by omega)]; rfl
    · rw [if_neg h0, if_neg (by omega)]
  · rw [kinds_bad hok]
    have hz : kindOf p f o i = 0 := if_neg (fun h => hok h.1)
    rw [hz]
    simp
theorem countOf_eq (p f o c : Int) : ((kinds p f o).count c : Int) = countOf p f o c := by
  by_cases hok : Ok p f o
  · obtain ⟨p, f, o, rfl, rfl, rfl⟩ := ok_nat hok
    rw [kinds_ok hok]
    unfold countOf kindsL
    rw [if_pos hok]
    simp only [List.count_append, List.count_replicate]
    by_cases h1 : c = 1
    · subst h1; simp
    · by_cases h2 : c = 2
      · subst h2; simp
      · by_cases h3 : c = 3
        · subst h3; simp
        · have e1 : ((1 : Int) == c) = false := by rw [beq_eq_false_iff_ne]; omega
          have e2 : ((2 : Int) == c) = false := by rw [beq_eq_false_iff_ne]; omega
          have e3 : ((3 : Int) == c) = false := by rw [beq_eq_false_iff_ne]; omega
          simp [h1, h2, h3, e1, e2, e3]
  · rw [kinds_bad hok]
    unfold countOf
    rw [if_neg hok]; rfl
theorem takeWhile_rep (n : Nat) (c : Int) (p : Int → Bool) : (List.replicate n c).takeWhile p = if p c then List.replicate n c else [] := by
  induction n with
  | zero => simp
  | succ n ih =>
    rw [List.replicate_succ, List.takeWhile_cons, ih]
    by_cases h : p c <;> simp [h]
theorem firstOf_eq (p f o c : Int) : (if 1 ≤ c ∧ c ≤ 3 then (((kinds p f o).takeWhile (· < c)).length : Int) else 0) = firstOf p f o c := by
  by_cases hok : Ok p f o
  · obtain ⟨p, f, o, rfl, rfl, rfl⟩ := ok_nat hok
    rw [kinds_ok hok]
    unfold firstOf
    rw [if_pos hok]
    by_cases hc : 1 ≤ c ∧ c ≤ 3
    · rw [if_pos hc]
      have : c = 1 ∨ c = 2 ∨ c = 3 := by omega
      have hall : ∀ (n : Nat) (a c : Int) (l : List Int), a < c → (List.replicate n a ++ l).takeWhile (· < c) = List.replicate n a ++ l.takeWhile (· < c) := by
        intro n a c l h
        rw [List.takeWhile_append_of_pos]
        intro x hx
        rw [List.eq_of_mem_replicate hx]
        simpa using h
      have hnone : ∀ (n : Nat) (a c : Int), ¬ a < c → (List.replicate n a).takeWhile (· < c) = [] := by
        intro n a c h
        rw [takeWhile_rep, if_neg (by simpa using h)]
      unfold kindsL
      rw [List.append_assoc]
      rcases this with rfl | rfl | rfl
      · have h0 : (List.replicate p (1 : Int) ++ (List.replicate f 2 ++ List.replicate o 3)).takeWhile (· < 1) = [] := by
          rcases p with _ | p
          · rcases f with _ | f
            · rcases o with _ | o
              · rfl
              · simp [List.replicate_succ]
            · simp [List.replicate_succ]
          · simp [List.replicate_succ]
        rw [h0]; simp
      · have h0 : (List.replicate f (2 : Int) ++ List.replicate o 3).takeWhile (· < 2) = [] := by
          rcases f with _ | f
          · rcases o with _ | o
            · rfl
            · simp [List.replicate_succ]
          · simp [List.replicate_succ]
        rw [hall _ _ _ _ (by decide), h0]; simp
      · rw [hall _ _ _ _ (by decide), hall _ _ _ _ (by decide), hnone _ _ _ (by decide)]; simp
    · rw [if_neg hc, if_neg (by omega), if_neg (by omega)]
  · rw [kinds_bad hok]
    unfold firstOf
    rw [if_neg hok]
    simp
end Go.Proofs.Ytplkogjnmjjjgaa.Hd
