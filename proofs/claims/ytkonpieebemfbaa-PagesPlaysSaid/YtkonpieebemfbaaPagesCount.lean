/- The walk of Count. -/
import Derived.Test.YtkonpieebemfbaaPagesNext
namespace Go.Proofs.Ytkonpieebemfbaa
open Go.ChangeShapes Go.WideShapes Go.ChangeAt Go.RowKit
set_option linter.unusedVariables false

set_option maxRecDepth 100000 in
set_option maxHeartbeats 4000000 in
theorem count_mp (S : Nat → Prop) (b np : Nat) (F : Nat → Nat) (w : World) (hM : Mp S b np F w) (hnp : np ≤ 524288) (p to : Int) (hp : p ≤ 9223372036854775807) :
    Calls Try.prog 19 #[.pointer (some ⟨b, 0, none⟩), .int .i64 p, .int .i64 to] w fun e w' => e = .returned (.int .i64 (cn np F p to)) ∧ w = w' := by
  have HM := Lib.hid hM
  obtain ⟨t, ht⟩ : ∃ t, cn np F p to = t := ⟨_, rfl⟩
  rw [ht]
  have Ht := Lib.hid ht
  have htl : t ≤ np := by rw [← ht]; exact cn_le _ _ _ _
  clear hM ht
  go_enter Try.func19, Try.ntmps19
  go_wp2
  go_loopw [1, 7] (fun f v wr => ∃ (g : Int) (n : Nat), f = .int .i64 g ∧ g ≤ 9223372036854775807 ∧ v = .int .i64 n ∧ t = cn np F g to + n ∧ wr = w) (fun f _ _ => np - (intOf f).toNat)
  case atStart => exact ⟨p, 0, rfl, hp, rfl, by rw [Ht.out]; rfl, rfl⟩
  case round =>
    obtain ⟨g, n, rfl, hg, rfl, hn, rfl⟩ := hrel
    have Hn := Lib.hid hn
    have hnl : (n : Int) ≤ 524288 := by omega
    have Hnext := next_mp S b np F wr HM.out g hg
    clear hn Ht
    cases hx : nx np F g.toNat with
    | none =>
      rw [hx] at Hnext
      have H0 := Lib.hid (cn_none (to := to) hx)
      have HN := Lib.hid Hnext
      unfold nextV at HN
      clear hx Hnext
      go_wp2_with (go_at_call 17; refine HN.out.mono ?_; rintro e w1 ⟨rfl, rfl⟩)
      go_ret
      have := Hn.out
      rw [H0.out] at this
      exact ⟨by rw [this]; simp, rfl⟩
    | some q =>
      rw [hx] at Hnext
      have HN := Lib.hid Hnext
      unfold nextV at HN
      obtain ⟨q1, q2, q3, q4⟩ := nx_some hx
      have hq0 : (0 : Int) ≤ q := by omega
      have hq5 : (q : Int) ≤ 524288 := by omega
      by_cases hto : to ≤ q
      · have H0 := Lib.hid (cn_far hx hto)
        clear hx Hnext q1 q2 q3 q4
        go_wp2_with (go_at_call 17; refine HN.out.mono ?_; rintro e w1 ⟨rfl, rfl⟩)
        go_ret
        have := Hn.out
        rw [H0.out] at this
        exact ⟨by rw [this]; simp, rfl⟩
      · have H0 := Lib.hid (cn_step (to := to) hx (by omega))
        have Hq := Lib.hid (show g.toNat ≤ q ∧ q < np from ⟨q1, q2⟩)
        clear hx Hnext q1 q2 q3 q4
        go_wp2_with (go_at_call 17; refine HN.out.mono ?_; rintro e w1 ⟨rfl, rfl⟩)
        go_roundw
        case rel => exact ⟨(q : Int) + 1, n + 1, by go_num, by omega, by go_num, by have := Hn.out; rw [H0.out] at this; omega, trivial⟩
        case measure => have := Hq.out; simp [intOf]; omega
end Go.Proofs.Ytkonpieebemfbaa
