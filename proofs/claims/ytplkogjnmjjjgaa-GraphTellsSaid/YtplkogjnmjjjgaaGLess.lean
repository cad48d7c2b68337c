/- The walk of the reference's less: is a path less than another one? -/
import Derived.Test.YtplkogjnmjjjgaaGLives
namespace Go.Proofs.Ytplkogjnmjjjgaa
open Go.ChangeShapes Go.WideShapes Go.ChangeAt Go.RowKit Go.Maps
set_option linter.unusedVariables false
set_option linter.unusedSimpArgs false

def lexL : List Int → List Int → Bool
  | x :: a, y :: b => if x = y then lexL a b else decide (x < y)
  | _, _ => false
/-- a path is less: shorter, or as long and less in the first step that differs -/
def lessP (a b : List Int) : Bool := if a.length = b.length then lexL a b else decide (a.length < b.length)
theorem lexL_at : ∀ {a b : List Int} {i : Nat}, i < a.length → i < b.length → (∀ j, j < i → a.getD j 0 = b.getD j 0) → a.getD i 0 ≠ b.getD i 0 → lexL a b = decide (a.getD i 0 < b.getD i 0)
  | x :: a, y :: b, 0, _, _, _, hne => by
    rw [lexL, if_neg (by simpa using hne)]
    rfl
  | x :: a, y :: b, i + 1, h1, h2, hp, hne => by
    have h0 : x = y := by simpa using hp 0 (by omega)
    rw [lexL, if_pos h0, lexL_at (i := i) (by simpa using h1) (by simpa using h2) (fun j hj => by simpa using hp (j + 1) (by omega)) (by simpa using hne)]
    rfl
  | [], _, _, h1, _, _, _ => by cases h1
  | _ :: _, [], _, _, h2, _, _ => by cases h2
theorem lexL_eq : ∀ {a b : List Int}, a = b → lexL a b = false
  | [], _, h => by subst h; rfl
  | x :: a, _, h => by
    subst h
    rw [lexL, if_pos rfl, lexL_eq rfl]
set_option maxRecDepth 100000 in
theorem less_any {w : World} {a b : Option Addr} {xs ys : List Int} (ca cb : Nat) (ha : IntRow .i64 w a xs) (hb : IntRow .i64 w b ys) :
    Calls Try.prog 49 #[.slice a xs.length ca, .slice b ys.length cb] w fun e w' => e = .returned (.bool (lessP xs ys)) ∧ Below w.heap.size w w' := by
  have hm := ha.many
  have hm2 := hb.many
  unfold maxLen at hm hm2
  have l1 : (xs.length : Int) ≤ 9223372036854775807 := by omega
  have HA := Lib.hid ha
  have HB := Lib.hid hb
  clear ha hb hm hm2
  obtain ⟨v, hv⟩ : ∃ v, lessP xs ys = v := ⟨_, rfl⟩
  rw [hv]
  have HV := Lib.hid hv
  clear hv
  have hbl := Lib.hid (Below.refl w.heap.size w)
  by_cases hl : xs.length = ys.length
  · have hl2 : ((xs.length : Int) != ys.length) = false := by simp [hl]
    have Hl := Lib.hid hl
    clear hl
    go_enter Try.func49, Try.ntmps49
    go_wp2_with (fail)
    go_loopw [5] (fun iv wr => ∃ i : Nat, iv = .int .i64 i ∧ i ≤ xs.length ∧ Below w.heap.size w wr ∧ ∀ j, j < i → xs.getD j 0 = ys.getD j 0) (fun iv _ => xs.length - (intOf iv).toNat)
    case atStart => exact ⟨0, rfl, by omega, hbl.out, fun j hj => by omega⟩
    case round =>
      clear hbl
      obtain ⟨i, rfl, hi, hb, hpre⟩ := hrel
      have Hpre := Lib.hid hpre
      clear hpre
      by_cases hlt : i < xs.length
      · have hlt2 : i < ys.length := by rw [← Hl.out]; exact hlt
        obtain ⟨b1, o1, e1, c1⟩ := (HA.out.below hb).cell
        obtain ⟨b2, o2, e2, c2⟩ := (HB.out.below hb).cell
        obtain rfl : a = some ⟨b1, o1, none⟩ := by
          rcases e1 with e | e
          · rw [e] at hlt; cases hlt
          · exact e
        obtain rfl : b = some ⟨b2, o2, none⟩ := by
          rcases e2 with e | e
          · rw [e] at hlt2; cases hlt2
          · exact e
        have d1 := c1 i hlt
        have d2 := c2 i hlt2
        have k1 : (i : Int) < xs.length := by omega
        have k2 : (0 : Int) ≤ i := by omega
        have k3 : ((i : Int)).toNat = i := by omega
        have k4 : (i : Int) < ys.length := by omega
        have HBL := Lib.hid (fun nq => hb.trans ((below_drewN' nq wr).mono hb.size))
        by_cases he : xs.getD i 0 = ys.getD i 0
        · have Hn := Lib.hid (fun j (hj : j < i + 1) => (show xs.getD j 0 = ys.getD j 0 by
            rcases Nat.lt_or_ge j i with h2 | h2
            · exact Hpre.out j h2
            · rwa [show j = i by omega]))
          rw [he] at d1
          clear he c1 c2 e1 e2 hb
          generalize ys.getD i 0 = z at d1 d2
          go_wp2_with (fail)
          go_quiet (fail)
          go_wp2_with (fail)
          go_roundw
          case rel => exact ⟨i + 1, by go_num, by omega, HBL.out nq, Hn.out⟩
          case measure => simp [intOf]; omega
        · have hlx := lexL_at hlt hlt2 Hpre.out he
          have Hlx := Lib.hid (show lessP xs ys = decide (xs.getD i 0 < ys.getD i 0) by unfold lessP; rw [if_pos Hl.out, hlx])
          have hq : (xs.getD i 0 == ys.getD i 0) = false := by rw [beq_eq_false_iff_ne]; exact he
          clear he c1 c2 e1 e2 hlx
          obtain ⟨z1, hz1⟩ : ∃ z, xs.getD i 0 = z := ⟨_, rfl⟩
          obtain ⟨z2, hz2⟩ : ∃ z, ys.getD i 0 = z := ⟨_, rfl⟩
          rw [hz1] at d1 hq Hlx
          rw [hz2] at d2 hq Hlx
          clear hz1 hz2
          have HD := Lib.hid (fun nq => (show (wr.drewN nq).cell? ⟨b1, o1 + i, none⟩ = some (.int .i64 z1) ∧ (wr.drewN nq).cell? ⟨b2, o2 + i, none⟩ = some (.int .i64 z2) from ⟨d1, d2⟩))
          go_wp2_with (fail)
          go_quiet (fail)
          obtain ⟨d1', d2'⟩ := HD.out nq
          have HB2 := Lib.hid (HBL.out nq)
          clear HBL HD d1 d2 hb
          generalize wr.drewN nq = W2 at *
          go_wp2_with (fail)
          go_quiet (fail)
          go_wp2_with (fail)
          go_ret
          refine ⟨?_, HB2.out.trans ((below_drewN' _ W2).mono HB2.out.size)⟩
          rw [← HV.out, Hlx.out]
          rfl
      · obtain rfl : i = xs.length := by omega
        have k1 : ¬ (xs.length : Int) < xs.length := by omega
        go_wp2_with (fail)
        go_ret
        refine ⟨?_, hb⟩
        rw [← HV.out]
        unfold lessP
        rw [if_pos Hl.out, lexL_eq (getD_ext Hl.out Hpre.out)]
        rfl
  · have hl2 : ((xs.length : Int) != ys.length) = true := by
      rw [bne_iff_ne]
      omega
    have Hv2 := Lib.hid (show lessP xs ys = decide (xs.length < ys.length) by unfold lessP; rw [if_neg hl])
    clear hl
    go_enter Try.func49, Try.ntmps49
    go_wp2_with (fail)
    go_ret
    refine ⟨?_, hbl.out⟩
    rw [← HV.out, Hv2.out]
    rfl
end Go.Proofs.Ytplkogjnmjjjgaa
