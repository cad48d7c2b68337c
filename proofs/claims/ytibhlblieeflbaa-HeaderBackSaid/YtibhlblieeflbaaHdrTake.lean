/- The walks of header.Take and the reference's Size, Put and Take, each once. -/
import Derived.Test.YtibhlblieeflbaaHdrPut
namespace Go.Proofs.Ytibhlblieeflbaa
open Go.ChangeShapes Go.WideShapes Go.ChangeAt Go.RowKit

/-- the fields that a word may have -/
def tp (x : Nat) : Nat := x % 256
def tf (x : Nat) : Nat := x / 256 % 256
def to (x : Nat) : Nat := x / 65536 % 256
/-- a word that is a header's -/
def Is (x : Nat) : Prop := Ok (tp x) (tf x) (to x) ∧ wordOf (tp x) (tf x) (to x) = x
instance (x : Nat) : Decidable (Is x) := by unfold Is; infer_instance

theorem take_facts (x : Nat) : ∃ N : Nat, N < 4294967296 ∧ ((x : Int) % 4294967296 = N) ∧ bits BinOp.and IntKind.u32 (N : Int) 255 = (tp x : Nat) ∧ bits BinOp.and IntKind.u32 ((N : Int) / 256) 255 = (tf x : Nat) ∧
    bits BinOp.and IntKind.u32 ((N : Int) / 65536) 255 = (to x : Nat) ∧ (Is x ↔ N / 16777216 = 165 ∧ x / 4294967296 = 4294967295 - N ∧ Ok (tp x) (tf x) (to x)) ∧ bits BinOp.xor IntKind.u32 IntKind.u32.max (N : Int) = ((4294967295 - N : Nat) : Int) := by
  refine ⟨x % 4294967296, by omega, by omega, ?_, ?_, ?_, ?_, ?_⟩
  · have := u32_and_nat (x % 4294967296) 255 (by omega) (by decide)
    rw [nat_mask8] at this
    rw [show (255 : Int) = ((255 : Nat) : Int) from rfl, this]; unfold tp; omega
  · have := u32_and_nat (x % 4294967296 / 256) 255 (by omega) (by decide)
    rw [nat_mask8] at this
    rw [show (((x % 4294967296 : Nat) : Int) / 256) = ((x % 4294967296 / 256 : Nat) : Int) from by omega, show (255 : Int) = ((255 : Nat) : Int) from rfl, this]; unfold tf; omega
  · have := u32_and_nat (x % 4294967296 / 65536) 255 (by omega) (by decide)
    rw [nat_mask8] at this
    rw [show (((x % 4294967296 : Nat) : Int) / 65536) = ((x % 4294967296 / 65536 : Nat) : Int) from by omega, show (255 : Int) = ((255 : Nat) : Int) from rfl, this]; unfold to; omega
  · have hp : tp x ≤ 255 := by unfold tp; omega
    have hf : tf x ≤ 255 := by unfold tf; omega
    have ho : to x ≤ 255 := by unfold to; omega
    have hs : x % 4294967296 = tp x + tf x * 256 + to x * 65536 + x % 4294967296 / 16777216 * 16777216 := by unfold tp tf to; omega
    unfold Is wordOf
    have hlow : low (tp x) (tf x) (to x) = tp x + tf x * 256 + to x * 65536 + 2768240640 := rfl
    generalize tp x = p at *
    generalize tf x = f at *
    generalize to x = o at *
    generalize low p f o = l at *
    constructor
    · rintro ⟨h1, h2⟩
      have hl : l < 4294967296 := by omega
      have h3 : x % 4294967296 = l := by omega
      have h4 : x / 4294967296 = 4294967295 - l := by omega
      exact ⟨by omega, by omega, h1⟩
    · rintro ⟨h1, h2, h3⟩
      exact ⟨h3, by omega⟩
  · have hN : x % 4294967296 < 2 ^ 32 := by omega
    generalize x % 4294967296 = n at *
    rw [show IntKind.u32.max = ((4294967295 : Nat) : Int) from rfl, u32_xor_nat _ _ (by omega) hN]
    refine congrArg (fun n : Nat => (n : Int)) ?_
    have e : 2 ^ 32 - 1 - n = 2 ^ 32 - (n + 1) := by omega
    rw [show (4294967295 : Nat) = 2 ^ 32 - 1 from rfl, e]
    apply Nat.eq_of_testBit_eq
    intro i
    rw [Nat.testBit_two_pow_sub_succ hN, Nat.testBit_xor, Nat.testBit_two_pow_sub_one]
    by_cases hi : i < 32
    · simp [hi]
    · have : n.testBit i = false := Nat.testBit_lt_two_pow (Nat.lt_of_lt_of_le hN (Nat.pow_le_pow_right (n := 2) (i := 32) (by omega) (by omega)))
      simp [hi, this]

theorem take_any (x : Nat) (w : World) (hx : x < 18446744073709551616) :
    Calls Try.prog 8 #[.int .u64 x] w fun e w' => e = .returned (.tuple #[if Is x then hv (tp x) (tf x) (to x) else hv 0 0 0, .int .i64 (if Is x then 0 else 16)]) ∧ Below w.heap.size w w' := by
  obtain ⟨N, hN, e0, e1, e2, e3, hiff, e4⟩ := take_facts x
  have hsg : IntKind.u32.signed = false := rfl
  have hp : tp x ≤ 255 := by unfold tp; omega
  have hf : tf x ≤ 255 := by unfold tf; omega
  have ho : to x ≤ 255 := by unfold to; omega
  obtain ⟨U, hU, e5⟩ : ∃ U : Nat, x / 4294967296 = U ∧ (x : Int) / 4294967296 % 4294967296 = U := ⟨_, rfl, by omega⟩
  obtain ⟨M, hM, e4'⟩ : ∃ M : Nat, 4294967295 - N = M ∧ bits BinOp.xor IntKind.u32 IntKind.u32.max (N : Int) = M := ⟨_, rfl, e4⟩
  rw [hU, hM] at hiff
  clear hx hU hM e4
  have hc := @code_ok (tp x) (tf x) (to x)
  have hc' := @code_bad (tp x) (tf x) (to x)
  by_cases h1 : N / 16777216 = 165
  · have b1 : ((N : Int) / 16777216 == 165) = true := by rw [beq_iff_eq]; omega
    have b2 : ((N : Int) / 16777216 != 165) = false := by rw [bne_eq_false_iff_eq]; omega
    by_cases h2 : U = M
    · subst h2
      by_cases h3 : Ok (tp x) (tf x) (to x)
      · have his : Is x := hiff.2 ⟨h1, rfl, h3⟩
        simp only [if_pos his]
        have hc := hc h3
        clear hc' h3 h1 his hiff
        generalize tp x = p at *
        generalize tf x = f at *
        generalize to x = o at *
        obtain ⟨W, hW⟩ : ∃ W, W = (w.alloc (.cells #[.int .i64 0, .int .i64 0, .int .i64 0] 23)).alloc (.cells #[.int .i64 p, .int .i64 f, .int .i64 o] 23) := ⟨_, rfl⟩
        have hb : Below w.heap.size w W := by rw [hW]; exact seq (below_new _ _) (below_new _ _)
        have hr : W.heap[w.heap.size]? = some (.cells #[.int .i64 0, .int .i64 0, .int .i64 0] 23 (0, 0)) := by rw [hW]; exact heap_alloc2_old _ _ _
        have hs : W.heap[w.heap.size + 1]? = some (.cells #[.int .i64 p, .int .i64 f, .int .i64 o] 23 (0, 0)) := by rw [hW]; exact heap_alloc2_new _ _ _
        have hcheck := check_any p f o W
        rw [hW] at hcheck
        have HW := Lib.hid hW
        have Hcheck := Lib.hid hcheck
        have Hr := Lib.hid hr
        have Hs := Lib.hid hs
        clear hW hr hs hcheck
        have Hc := Lib.hid hc
        clear hc
        unfold hv
        go_enter Try.func8, Try.ntmps8
        go_wp2_with (go_at_call 10; refine (Hcheck.out).mono ?_; rw [← HW.out]; rintro e w1 ⟨rfl, hb1⟩; rw [Hc.out]; obtain ⟨⟨c0, c1, c2⟩, f0, f1, f2⟩ := three (blockB hb1 (Nat.le_refl _) Hr.out); obtain ⟨⟨d0, d1, d2⟩, g0, g1, g2⟩ := three (blockB hb1 (Nat.le_refl _) Hs.out); replace hb := seq hb hb1; clear hb1)
        refine bodyPost_ret (v := .tuple #[.agg #[.int .i64 p, .int .i64 f, .int .i64 o], .int .i64 0]) (by simp [results, Try.results8, go_sem, c0, c1, c2]) rfl ⟨rfl, ((hb.setCell (by simp) _).setCell (by simp) _).setCell (by simp) _⟩
      · have his : ¬ Is x := fun h => h3 (hiff.1 h).2.2
        simp only [if_neg his]
        have hc := hc' h3
        clear hc' h3 h1 his hiff
        generalize tp x = p at *
        generalize tf x = f at *
        generalize to x = o at *
        obtain ⟨W, hW⟩ : ∃ W, W = (w.alloc (.cells #[.int .i64 0, .int .i64 0, .int .i64 0] 23)).alloc (.cells #[.int .i64 p, .int .i64 f, .int .i64 o] 23) := ⟨_, rfl⟩
        have hb : Below w.heap.size w W := by rw [hW]; exact seq (below_new _ _) (below_new _ _)
        have hr : W.heap[w.heap.size]? = some (.cells #[.int .i64 0, .int .i64 0, .int .i64 0] 23 (0, 0)) := by rw [hW]; exact heap_alloc2_old _ _ _
        have hs : W.heap[w.heap.size + 1]? = some (.cells #[.int .i64 p, .int .i64 f, .int .i64 o] 23 (0, 0)) := by rw [hW]; exact heap_alloc2_new _ _ _
        have hcheck := check_any p f o W
        rw [hW] at hcheck
        have HW := Lib.hid hW
        have Hcheck := Lib.hid hcheck
        have Hr := Lib.hid hr
        have Hs := Lib.hid hs
        clear hW hr hs hcheck
        have Hc := Lib.hid hc
        clear hc
        unfold hv
        go_enter Try.func8, Try.ntmps8
        go_wp2_with (go_at_call 10; refine (Hcheck.out).mono ?_; rw [← HW.out]; rintro e w1 ⟨rfl, hb1⟩; rw [Hc.out]; obtain ⟨⟨c0, c1, c2⟩, f0, f1, f2⟩ := three (blockB hb1 (Nat.le_refl _) Hr.out); obtain ⟨⟨d0, d1, d2⟩, g0, g1, g2⟩ := three (blockB hb1 (Nat.le_refl _) Hs.out); replace hb := seq hb hb1; clear hb1)
        refine bodyPost_ret (v := .tuple #[.agg #[.int .i64 0, .int .i64 0, .int .i64 0], .int .i64 16]) (by simp [results, Try.results8, go_sem, c0, c1, c2]) rfl ⟨rfl, ((hb.setCell (by simp) _).setCell (by simp) _).setCell (by simp) _⟩
    · have his : ¬ Is x := fun h => h2 (hiff.1 h).2.1
      simp only [if_neg his]
      have b3 : ((U : Int) == (M : Int)) = false := by rw [beq_eq_false_iff_ne]; omega
      have b4 : ((U : Int) != (M : Int)) = true := by rw [bne_iff_ne]; omega
      clear hiff his hc hc' h2
      generalize tp x = p at *
      generalize tf x = f at *
      generalize to x = o at *
      unfold hv
      go_enter Try.func8, Try.ntmps8
      go_wp2
      refine bodyPost_ret (v := .tuple #[.agg #[.int .i64 0, .int .i64 0, .int .i64 0], .int .i64 16]) (by simp [results, Try.results8, go_sem]) rfl ⟨rfl, seq (below_new _ _) (below_new _ _)⟩
  · have his : ¬ Is x := fun h => h1 (hiff.1 h).1
    simp only [if_neg his]
    have b1 : ((N : Int) / 16777216 == 165) = false := by rw [beq_eq_false_iff_ne]; omega
    have b2 : ((N : Int) / 16777216 != 165) = true := by rw [bne_iff_ne]; omega
    have H1 := Lib.hid h1
    clear hiff his h1 hc hc'
    generalize tp x = p at *
    generalize tf x = f at *
    generalize to x = o at *
    unfold hv
    go_enter Try.func8, Try.ntmps8
    go_wp2
    refine bodyPost_ret (v := .tuple #[.agg #[.int .i64 0, .int .i64 0, .int .i64 0], .int .i64 16]) (by simp [results, Try.results8, go_sem]) rfl ⟨rfl, seq (below_new _ _) (below_new _ _)⟩
end Go.Proofs.Ytibhlblieeflbaa
