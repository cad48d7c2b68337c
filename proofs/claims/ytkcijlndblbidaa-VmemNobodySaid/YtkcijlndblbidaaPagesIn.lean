/- The walk of Map.in. -/
import Derived.Test.YtkcijlndblbidaaPagesGet
namespace Go.Proofs.Ytkcijlndblbidaa.Pg
open Go.ChangeShapes Go.WideShapes Go.ChangeAt Go.RowKit

/-- what 'in' answers -/
def inn (np : Nat) (xs : List Int) : Int := if ∀ j, j < xs.length → 0 ≤ xs.getD j 0 ∧ xs.getD j 0 < np then 0 else 11
set_option maxHeartbeats 1000000 in
theorem in_any (b tb np l : Nat) (ts : List (Option Nat)) (F : Nat → Nat) (xs : List Int) (w : World) (hM : PMap b tb np ts F w) (hx : ∀ j, j < xs.length → w.cell? ⟨l, j, none⟩ = some (.int .i64 (xs.getD j 0))) (hl : xs.length ≤ 64) :
    Calls Try.prog 145 #[.pointer (some ⟨b, 0, none⟩), .slice (some ⟨l, 0, none⟩) xs.length xs.length] w fun e w' => e = .returned (.int .i64 (inn np xs)) ∧ w = w' := by
  have c1 := at_cell hM.head 1 _ rfl
  have Hx := Lib.hid hx
  obtain ⟨r, hr⟩ : ∃ r, inn np xs = r := ⟨_, rfl⟩
  rw [hr]
  have Hr := Lib.hid hr
  clear hx hM hr
  go_enter Try.func145, Try.ntmps145
  go_wp2
  go_loopw [11] (fun i wr => ∃ (m : Nat), i = .int .i64 m ∧ m ≤ xs.length ∧ (∀ j, j < m → 0 ≤ xs.getD j 0 ∧ xs.getD j 0 < np) ∧ wr = w) (fun i _ => xs.length - (intOf i).toNat)
  case atStart => exact ⟨0, rfl, by omega, by omega, rfl⟩
  case round =>
    obtain ⟨m, rfl, hm, hall, rfl⟩ := hrel
    have Hall := Lib.hid hall
    clear hall
    by_cases hlt : m < xs.length
    · have cm := Hx.out m hlt
      obtain ⟨x, hxm⟩ : ∃ x, xs.getD m 0 = x := ⟨_, rfl⟩
      rw [hxm] at cm
      have Hxm := Lib.hid hxm
      clear hxm
      by_cases hbad : x < 0 ∨ (np : Int) ≤ x
      · have hc : inn np xs = 11 := by
          unfold inn
          rw [if_neg]
          intro h
          have := h m hlt
          rw [Hxm.out] at this
          omega
        obtain rfl : r = 11 := Hr.out.symm.trans hc
        clear hc Hr
        rcases hbad with h1 | h1
        · go_wp2
          go_ret
          exact ⟨rfl, rfl⟩
        · have h0 : ¬ x < 0 := by omega
          go_wp2
          go_ret
          exact ⟨rfl, rfl⟩
      · have h0 : ¬ x < 0 := by omega
        have h1 : ¬ (np : Int) ≤ x := by omega
        go_wp2
        go_roundw
        case rel => exact ⟨m + 1, by go_num, by omega, fun j hj => by
          by_cases e : j = m
          · rw [e, Hxm.out]; omega
          · exact Hall.out j (by omega), trivial⟩
        case measure => simp [intOf]; omega
    · obtain rfl : xs.length = m := by omega
      have hc : inn np xs = 0 := if_pos Hall.out
      obtain rfl : r = 0 := Hr.out.symm.trans hc
      clear hc Hr
      go_wp2
      go_ret
      exact ⟨rfl, rfl⟩
end Go.Proofs.Ytkcijlndblbidaa.Pg
