/- The walk of the reference's New. -/
import Derived.Test.YtkcijlndblbidaaFramesRef
namespace Go.Proofs.Ytkcijlndblbidaa.Fr
open Go.ChangeShapes Go.WideShapes Go.ChangeAt Go.RowKit
set_option linter.unusedVariables false

def okB (p : Int) : Nat → Bool
  | 0 => false
  | k + 1 => okB p k || (((2 ^ k : Nat) : Int) == p)
theorem okB_page (p : Int) : okB p 9 = pageB p := by
  have e : ∀ x : Int, (x == p) = (p == x) := fun x => Bool.beq_comm
  simp [okB, pageB, e]
def NewPost (r p : Int) (w : World) (e : Ending) (w' : World) : Prop :=
      (¬ (1 ≤ r ∧ r ≤ 4096 ∧ pageB p = true) → e = .returned (.tuple #[.pointer none, .int .i64 5]) ∧ w = w') ∧
      ((1 ≤ r ∧ r ≤ 4096 ∧ pageB p = true) → e = .returned (.tuple #[.pointer (some ⟨w.heap.size, 0, none⟩), .int .i64 0]) ∧ w.alloc (.cells #[.int .i64 r, .int .i64 p, .slice none 0 0, .slice none 0 0, .int .i64 0, .int .i64 0, .int .i64 0] 220) = w')
set_option maxRecDepth 100000 in
set_option maxHeartbeats 1000000 in
theorem refNew_any (r p : Int) (w : World) :
    Calls Try.prog 116 #[.int .i64 r, .int .i64 p] w (NewPost r p w) := by
  go_enter Try.func116, Try.ntmps116
  go_wp2
  go_loopw [6, 7] (fun o i wr => ∃ (k : Nat) (bo : Bool) (N : Nat), o = .bool bo ∧ i = .int .i64 N ∧ k ≤ 9 ∧ N = 2 ^ k ∧ bo = okB p k ∧ wr = w) (fun _ i _ => 600 - (intOf i).toNat)
  case atStart => exact ⟨0, false, 1, rfl, rfl, by omega, rfl, rfl, rfl⟩
  case round =>
    obtain ⟨k, bo, N, rfl, rfl, hk, hN, hbo, rfl⟩ := hrel
    by_cases hk8 : k ≤ 8
    · have hN1 : 1 ≤ N ∧ N ≤ 256 := by
        rw [hN]
        exact ⟨Nat.one_le_two_pow, Nat.le_trans (Nat.pow_le_pow_right (by omega) hk8) (by decide)⟩
      have HN := Lib.hid (show N * 2 = 2 ^ (k + 1) by rw [hN, Nat.pow_succ])
      have Hb := Lib.hid (show okB p (k + 1) = (bo || ((N : Int) == p)) by rw [hbo, hN]; rfl)
      have h1 : (N : Int) ≤ 256 := by omega
      have h0 : (1 : Int) ≤ N := by omega
      clear hN hbo
      cases bo with
      | true =>
        go_wp2
        go_roundw
        case rel => exact ⟨k + 1, true, N * 2, rfl, by go_num, by omega, HN.out, by rw [Hb.out]; rfl, trivial⟩
        case measure => simp [intOf]; omega
      | false =>
        by_cases hp : (N : Int) = p
        · have Hp := Lib.hid hp
          have hpb : ((N : Int) == p) = true := by simp [hp]
          clear hp
          go_wp2
          go_roundw
          case rel => exact ⟨k + 1, true, N * 2, rfl, by go_num, by omega, HN.out, by rw [Hb.out, show ((N : Int) == p) = true by simp [Hp.out]]; rfl, trivial⟩
          case measure => simp [intOf]; omega
        · have Hp := Lib.hid hp
          go_wp2
          go_roundw
          case rel => exact ⟨k + 1, false, N * 2, by simp [Hp.out], by go_num, by omega, HN.out, by rw [Hb.out, show ((N : Int) == p) = false by simp [Hp.out]]; rfl, trivial⟩
          case measure => simp [intOf]; omega
    · obtain rfl : k = 9 := by omega
      have hNv : N = 512 := hN
      have h1 : ¬ (N : Int) ≤ 256 := by omega
      rw [okB_page] at hbo
      have Hbo := Lib.hid hbo
      clear hN hbo hNv
      by_cases g1 : r < 1
      · go_wp2
        go_ret2
        exact ⟨fun _ => ⟨rfl, rfl⟩, fun h => absurd h.1 (by omega)⟩
      · by_cases g2 : 4096 < r
        · go_wp2
          go_ret2
          exact ⟨fun _ => ⟨rfl, rfl⟩, fun h => absurd h.2.1 (by omega)⟩
        · cases bo with
          | false =>
            go_wp2
            go_ret2
            exact ⟨fun _ => ⟨rfl, rfl⟩, fun h => by have := Hbo.out; rw [h.2.2] at this; cases this⟩
          | true =>
            go_wp2
            go_ret2
            exact ⟨fun h => absurd ⟨by omega, by omega, Hbo.out.symm⟩ h, fun _ => ⟨rfl, rfl⟩⟩
end Go.Proofs.Ytkcijlndblbidaa.Fr
