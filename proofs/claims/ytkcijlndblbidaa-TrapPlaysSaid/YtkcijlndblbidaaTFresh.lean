/- A fresh memory, all of whose words are there. -/
import Derived.Test.YtkcijlndblbidaaTRun
namespace Go.Proofs.Ytkcijlndblbidaa
open Go.ChangeShapes Go.WideShapes Go.ChangeAt Go.RowKit
set_option linter.unusedVariables false

theorem need_full {n : Nat} (hn : 1 ≤ n) : needE n 1 n VS.zero 0 n = 0 ∧ ∀ p, p < n → (needV n 1 n VS.zero 0 n).mp p = true := by
  have e1 : ¬ ((0 : Int) < 0 ∨ ((n : Nat) : Int) < (n : Int)) := by omega
  have e2 : ¬ ((n : Int) ≤ 0) := by omega
  have e3 : ((n : Int).toNat - 1) / 1 - (0 : Int).toNat / 1 + 1 = n := by
    simp only [Nat.div_one, Int.toNat_natCast, Int.toNat_zero]
    omega
  have e4 : (0 : Int).toNat / 1 = 0 := rfl
  have hle : VS.zero.used + (newP VS.zero 0 n).length ≤ n := by
    have := newP_le VS.zero 0 n
    have h0 : VS.zero.used = 0 := rfl
    omega
  unfold needE needV
  rw [if_neg e1, if_neg e2, if_neg e1, if_neg e2, e3, e4]
  unfold needN needNV
  rw [if_pos hle, if_pos hle]
  refine ⟨rfl, fun p hp => ?_⟩
  rw [mapL_mp]
  have : p ∈ newP VS.zero 0 n := newP_mem.2 ⟨by omega, rfl⟩
  simp [this]
theorem page_one : Fr.isPage 1 := by unfold Fr.isPage; decide
theorem new_fk (n : Nat) (hn : 1 ≤ n) (hn2 : n ≤ 4096) (w : World) :
    Calls Try.prog 17 #[.int .i64 n, .int .i64 1, .int .i64 n] w fun e w' => ∃ m, e = .returned (.tuple #[.pointer (some ⟨m, 0, none⟩), .int .i64 0]) ∧ VK w m n 1 n 0 VS.zero [] w' := by
  have := new_vk n 1 n w hn (by omega) (Nat.mod_one n) page_one hn hn2
  simpa using this
theorem need_fk {W0 : World} {m n : Nat} {w : World} (h : VK W0 m n 1 n 0 VS.zero [] w) (hn : 1 ≤ n) :
    Calls Try.prog 18 #[.pointer (some ⟨m, 0, none⟩), .int .i64 0, .int .i64 n] w fun e w' => e = .returned (.int .i64 0) ∧ ∃ t g, FK W0 m n t g [] w' := by
  have := need_vk h (by omega) 0 n
  rw [(need_full hn).1] at this
  exact this.mono fun e w' ⟨he, hk⟩ => ⟨he, _, (needV n 1 n VS.zero 0 n).wd, _, hk, fun p hp => ⟨(need_full hn).2 p hp, rfl⟩⟩
set_option maxRecDepth 100000 in
theorem fresh_any (n : Nat) (hn : 1 ≤ n) (hn2 : n ≤ 4096) (w : World) :
    Calls Try.prog 48 #[.int .i64 n] w fun e w' => ∃ m t, e = .returned (.pointer (some ⟨m, 0, none⟩)) ∧ FK w m n t (fun a => 100 + a) [] w' := by
  have Hnew := Lib.hid (new_fk n hn hn2 w)
  have Hneed := Lib.hid (fun m W (h : VK w m n 1 n 0 VS.zero [] W) => need_fk h hn)
  go_enter Try.func48, Try.ntmps48
  go_wp2_with (first | (go_at_call 17; refine Hnew.out.mono ?_; rintro e w1 ⟨m, rfl, h1⟩; replace h1 := Lib.hid h1) | (go_at_call 18; refine (Hneed.out _ _ h1.out).mono ?_; rintro e w2 ⟨rfl, t, g, h2⟩; replace h2 := Lib.hid h2))
  clear Hnew Hneed h1
  go_loopw [21] (fun i wr => ∃ (k : Nat) (g' : Nat → Nat), i = .int .i64 k ∧ k ≤ n ∧ FK w m n t g' [] wr ∧ ∀ p, p < k → g' p = 100 + p) (fun i _ => n - (intOf i).toNat)
  case atStart => exact ⟨0, g, rfl, by omega, h2.out, fun p hp => by omega⟩
  case round =>
    clear h2
    obtain ⟨k, g', rfl, hk, hF, hg⟩ := hrel
    have Hg := Lib.hid hg
    by_cases hlt : k < n
    · have hin : inG n (k : Int) = true := by simp [inG]; omega
      have hs := store_fk hF (k : Int) (100 + k) (by omega)
      rw [hin] at hs
      simp only [if_true, Int.toNat_natCast] at hs
      have hs' : Calls Try.prog 19 #[.pointer (some ⟨m, 0, none⟩), .int .i64 k, .int .u64 (100 + (k : Int))] wr fun e w' => e = .returned (.int .i64 0) ∧ FK w m n t (putG g' k (100 + k)) [] w' := by simpa using hs
      have Hs := Lib.hid hs'
      have u1 : IntKind.i64.wrap (100 + (k : Int)) = 100 + k := by rw [IntKind.wrap_i64]; omega
      have u2 : IntKind.u64.wrap (100 + (k : Int)) = 100 + k := by rw [IntKind.wrap_u64]; omega
      have k1 : (k : Int) < n := by omega
      have k2 : (k : Int) ≤ 4096 := by omega
      clear hs hs' hF hg hin
      go_wp2_with (go_at_call 19; refine Hs.out.mono ?_; rintro e w3 ⟨rfl, h3⟩; replace h3 := Lib.hid h3)
      go_roundw
      case rel => exact ⟨k + 1, _, by go_num, by omega, h3.out, fun p hp => by unfold putG; split; omega; exact Hg.out p (by omega)⟩
      case measure => simp [intOf]; omega
    · obtain rfl : k = n := by omega
      have HF := Lib.hid (hF.same fun p hp => (Hg.out p hp).symm)
      clear hF hg
      go_wp2
      go_ret
      exact ⟨m, t, rfl, HF.out.same fun p hp => rfl⟩
end Go.Proofs.Ytkcijlndblbidaa
