/- The walks of New, Power and Give. -/
import Derived.Test.YtkcijlndblbidaaFramesOps2
namespace Go.Proofs.Ytkcijlndblbidaa.Fr
open Go.ChangeShapes Go.WideShapes Go.ChangeAt Go.RowKit
set_option linter.unusedVariables false

theorem int_info : (Try.prog.info? 3).map (fun i => (i.zero, i.size, i.bytes)) = some (some (.int .i64 0), 1, 8) := by kernel_rfl
theorem bool_info : (Try.prog.info? 4).map (fun i => (i.zero, i.size, i.bytes)) = some (some (.bool false), 1, 1) := by kernel_rfl
theorem word_info : (Try.prog.info? 23).map (fun i => (i.zero, i.size, i.bytes)) = some (some (.int .u64 0), 1, 8) := by kernel_rfl
/-- what Power answers -/
def powB (n : Int) : Bool := decide (0 < n) && (bits BinOp.and IntKind.i64 n (n - 1) == 0)
theorem power_any (n : Int) (w : World) (hn : n ≤ 9223372036854775807) : Calls Try.prog 143 #[.int .i64 n] w fun e w' => e = .returned (.bool (powB n)) ∧ w = w' := by
  unfold powB
  by_cases h : 0 < n
  · have h1 : -9223372036854775808 ≤ n - 1 := by omega
    have h2 : n - 1 ≤ 9223372036854775807 := by omega
    obtain ⟨y, hy⟩ : ∃ y, y = bits BinOp.and IntKind.i64 n (n - 1) := ⟨_, rfl⟩
    rw [← hy, decide_eq_true h, Bool.true_and]
    have Hy := Lib.hid hy
    clear hy
    go_enter Try.func143, Try.ntmps143
    go_wp2
    go_ret
    rw [← Hy.out]
    exact ⟨rfl, rfl⟩
  · rw [decide_eq_false h, Bool.false_and]
    go_enter Try.func143, Try.ntmps143
    go_wp2
    go_ret
    exact ⟨rfl, rfl⟩
def isPage (n : Int) : Prop := n = 1 ∨ n = 2 ∨ n = 4 ∨ n = 8 ∨ n = 16 ∨ n = 32 ∨ n = 64 ∨ n = 128 ∨ n = 256
def pageB (n : Int) : Bool := n == 1 || n == 2 || n == 4 || n == 8 || n == 16 || n == 32 || n == 64 || n == 128 || n == 256
theorem pageB_iff (n : Int) : pageB n = true ↔ isPage n := by simp [pageB, isPage, or_assoc]
theorem powB_page (n : Int) (h : n ≤ 256) : powB n = pageB n := by
  by_cases h0 : 0 < n
  · have key : ∀ k : Fin 257, powB (k.val : Int) = pageB (k.val : Int) ∨ k.val = 0 := by decide +kernel
    obtain ⟨k, rfl⟩ : ∃ k : Nat, n = k := ⟨n.toNat, by omega⟩
    rcases key ⟨k, by omega⟩ with e | e
    · exact e
    · exact absurd e (by simp; omega)
  · have h1 : powB n = false := by unfold powB; rw [decide_eq_false h0]; rfl
    rw [h1]
    symm
    rw [Bool.eq_false_iff]
    intro h2
    have := (pageB_iff n).1 h2
    unfold isPage at this
    omega
theorem new_no (r p : Int) (w : World) (hp : p ≤ 9223372036854775807) (h : ¬ (1 ≤ r ∧ r ≤ 4096 ∧ isPage p)) :
    Calls Try.prog 97 #[.int .i64 r, .int .i64 p] w fun e w' => e = .returned (.tuple #[.pointer none, .int .i64 5]) ∧ w = w' := by
  have Hp := Lib.hid (power_any p w hp)
  by_cases h1 : r < 1
  · clear h
    go_enter Try.func97, Try.ntmps97
    go_wp2
    go_ret2
    exact ⟨rfl, rfl⟩
  · by_cases h2 : 4096 < r
    · clear h
      go_enter Try.func97, Try.ntmps97
      go_wp2
      go_ret2
      exact ⟨rfl, rfl⟩
    · have h3 : ¬ isPage p := fun h3 => h ⟨by omega, by omega, h3⟩
      by_cases h4 : powB p = true
      · have h5 : 256 < p := by
          apply Classical.byContradiction
          intro h5
          rw [powB_page p (by omega)] at h4
          exact h3 ((pageB_iff p).1 h4)
        rw [h4] at Hp
        clear h h3 h4
        go_enter Try.func97, Try.ntmps97
        go_wp2_with (go_at_call 143; refine Hp.out.mono ?_; rintro e w1 ⟨rfl, rfl⟩)
        go_ret2
        exact ⟨rfl, rfl⟩
      · rw [Bool.eq_false_iff.2 h4] at Hp
        clear h h3 h4
        go_enter Try.func97, Try.ntmps97
        go_wp2_with (go_at_call 143; refine Hp.out.mono ?_; rintro e w1 ⟨rfl, rfl⟩)
        go_ret2
        exact ⟨rfl, rfl⟩
def start : PS := ⟨0, 0, 0, 0, fun _ => false, [], fun _ _ => 0⟩
theorem start_ok {room page : Nat} (h1 : 1 ≤ room ∧ room ≤ 4096) (h2 : 1 ≤ page ∧ page ≤ 256) : start.ok room page :=
  ⟨h1, h2, by simp [start], by simp [start], by simp [start], by simp [start], by simp [start], by simp [start], by simp [start]⟩
theorem isPage_le {p : Nat} (h : isPage p) : 1 ≤ p ∧ p ≤ 256 := by unfold isPage at h; omega
set_option maxRecDepth 100000 in
theorem new_yes (r p : Nat) (w : World) (h1 : 1 ≤ r) (h2 : r ≤ 4096) (h3 : isPage p) :
    Calls Try.prog 97 #[.int .i64 r, .int .i64 p] w fun e w' => e = .returned (.tuple #[.pointer (some ⟨w.heap.size, 0, none⟩), .int .i64 0]) ∧ (∃ S, Pl S w.heap.size r p start w' ∧ Up w.heap.size S) ∧ Below w.heap.size w w' := by
  have hp := isPage_le h3
  have Hpow := power_any p w (by omega)
  rw [powB_page p (by omega), (pageB_iff p).2 h3] at Hpow
  replace Hpow := Lib.hid Hpow
  have k1 : ¬ (r : Int) < 1 := by omega
  have k2 : ¬ (4096 : Int) < r := by omega
  have k3 : ¬ (256 : Int) < p := by omega
  have Hres := Lib.hid (show ∃ S, Pl S w.heap.size r p start (w.alloc (.cells #[.slice none 0 0, .slice none 0 0, .slice none 0 0, .int .i64 r, .int .i64 p, .int .i64 0, .int .i64 0, .int .i64 0] 206)) ∧ Up w.heap.size S from
    ⟨fun k => k = w.heap.size, ⟨none, 0, none, 0, none, 0, ⟨by
      have := heap_alloc_new w (.cells #[.slice none 0 0, .slice none 0 0, .slice none 0 0, .int .i64 r, .int .i64 p, .int .i64 0, .int .i64 0, .int .i64 0] 206)
      rw [this]
      simp [start], by
      have := OwnF.nil (w.heap.size + 1) 23 (wordV p start) (w.alloc (.cells #[.slice none 0 0, .slice none 0 0, .slice none 0 0, .int .i64 r, .int .i64 p, .int .i64 0, .int .i64 0, .int .i64 0] 206))
      simpa [start] using this, OwnF.nil _ _ _ _, OwnF.nil _ _ _ _⟩, ⟨rfl, by simp, by simp, by simp⟩, fun k hk => by subst hk; simp⟩, fun k hk => by omega⟩)
  have Hb := Lib.hid (below_new w (.cells #[.slice none 0 0, .slice none 0 0, .slice none 0 0, .int .i64 r, .int .i64 p, .int .i64 0, .int .i64 0, .int .i64 0] 206))
  clear h1 h2 h3 hp
  go_enter Try.func97, Try.ntmps97
  go_wp2_with (go_at_call 143; refine Hpow.out.mono ?_; rintro e w1 ⟨rfl, rfl⟩)
  go_ret2
  exact ⟨rfl, Hres.out, Hb.out⟩
end Go.Proofs.Ytkcijlndblbidaa.Fr
