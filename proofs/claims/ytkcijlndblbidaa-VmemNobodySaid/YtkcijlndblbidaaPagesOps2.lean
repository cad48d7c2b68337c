/- The walks of Frame, Drop, Move at a map whose blocks are among S. -/
import Derived.Test.YtkcijlndblbidaaPagesOps
namespace Go.Proofs.Ytkcijlndblbidaa.Pg
open Go.ChangeShapes Go.WideShapes Go.ChangeAt Go.RowKit
set_option linter.unusedVariables false

/-- what Frame answers -/
def frameR (np : Nat) (F : Nat → Nat) (p : Int) : Int × Int :=
  if ¬ (0 ≤ p ∧ p < np) then (0, 11) else if F p.toNat = 0 then (0, 12) else ((F p.toNat : Int) - 1, 0)
set_option maxRecDepth 100000 in
set_option maxHeartbeats 1000000 in
theorem frame_mp (S : Nat → Prop) (b np : Nat) (F : Nat → Nat) (w : World) (hM : Mp S b np F w) (p : Int) :
    Calls Try.prog 104 #[.pointer (some ⟨b, 0, none⟩), .int .i64 p] w fun e w' => e = .returned (.tuple #[.int .i64 (frameR np F p).1, .int .i64 (frameR np F p).2]) ∧ Below w.heap.size w w' := by
  have Hin := Lib.hid (in1_mp S b np F w hM p _ (inn1 np p))
  have Hb := Lib.hid (below_new w (.cells #[.int .i64 p] 3))
  have HM1 := Lib.hid (hM.grow Hb.out)
  unfold frameR
  by_cases h1 : 0 ≤ p ∧ p < np
  · rw [if_neg (Classical.not_not.2 h1)]
    rw [if_pos h1] at Hin
    obtain ⟨p, rfl⟩ : ∃ q : Nat, p = q := ⟨p.toNat, by omega⟩
    rw [Int.toNat_natCast]
    have hp : p < np := by omega
    clear h1
    have Hget := Lib.hid (get_mp S b np F _ HM1.out p hp)
    have hsm : F p < 4294967296 := by
      obtain ⟨_, _, hm, _⟩ := hM
      exact hm.small p
    clear hM
    by_cases h7 : F p = 0
    · rw [if_pos h7]
      rw [h7] at Hget
      clear h7 hsm
      go_enter Try.func104, Try.ntmps104
      go_wp2_with (first | (go_at_call 145; refine Hin.out.mono ?_; rintro e w1 ⟨rfl, rfl⟩) | (go_at_call 146; refine Hget.out.mono ?_; rintro e w1 ⟨rfl, rfl⟩))
      go_ret2
      exact ⟨rfl, Hb.out⟩
    · rw [if_neg h7]
      obtain ⟨x, hx⟩ : ∃ x : Int, x = F p := ⟨_, rfl⟩
      rw [← hx] at Hget
      rw [← hx]
      have h8 : ¬ x = 0 := by omega
      have h9 : 0 ≤ x := by omega
      have h10 : x ≤ 10000000000 := by omega
      clear h7 hx hsm
      go_enter Try.func104, Try.ntmps104
      go_wp2_with (first | (go_at_call 145; refine Hin.out.mono ?_; rintro e w1 ⟨rfl, rfl⟩) | (go_at_call 146; refine Hget.out.mono ?_; rintro e w1 ⟨rfl, rfl⟩))
      go_ret2
      exact ⟨rfl, Hb.out⟩
  · rw [if_pos h1]
    rw [if_neg h1] at Hin
    clear h1 hM
    go_enter Try.func104, Try.ntmps104
    go_wp2_with (go_at_call 145; refine Hin.out.mono ?_; rintro e w1 ⟨rfl, rfl⟩)
    go_ret2
    exact ⟨rfl, Hb.out⟩

/-- what Drop leaves -/
def dropF (np : Nat) (F : Nat → Nat) (p : Int) : Nat → Nat := if (frameR np F p).2 = 0 then turn F p.toNat 0 else F
set_option maxRecDepth 100000 in
set_option maxHeartbeats 1000000 in
theorem drop_mp (S : Nat → Prop) (b np : Nat) (F : Nat → Nat) (w : World) (hM : Mp S b np F w) (p : Int) :
    Calls Try.prog 107 #[.pointer (some ⟨b, 0, none⟩), .int .i64 p] w fun e w' => e = .returned (.tuple #[.int .i64 (frameR np F p).1, .int .i64 (frameR np F p).2]) ∧ Did S b np (dropF np F p) w w' := by
  have HF := Lib.hid (frame_mp S b np F w hM p)
  have HM := Lib.hid hM
  clear hM
  unfold dropF
  by_cases h : (frameR np F p).2 = 0
  · rw [if_pos h]
    have h2 : (0 ≤ p ∧ p < np) ∧ F p.toNat ≠ 0 := by
      unfold frameR at h
      by_cases h1 : 0 ≤ p ∧ p < np
      · rw [if_neg (Classical.not_not.2 h1)] at h
        by_cases h2 : F p.toNat = 0
        · rw [if_pos h2] at h; cases h
        · exact ⟨h1, h2⟩
      · rw [if_pos h1] at h; cases h
    obtain ⟨⟨h3, h4⟩, h5⟩ := h2
    obtain ⟨p, rfl⟩ : ∃ q : Nat, p = q := ⟨p.toNat, by omega⟩
    rw [Int.toNat_natCast] at *
    have Hset := Lib.hid fun W hW => set_mp S b np F W hW p 0 (by omega) (by omega) (by simpa using h5)
    rw [h] at HF
    rw [h]
    generalize (frameR np F p).1 = x at *
    clear h h3 h4 h5
    go_enter Try.func107, Try.ntmps107
    go_wp2_with (first | (go_at_call 104; refine HF.out.mono ?_; rintro e w1 ⟨rfl, hb⟩; have Hb := Lib.hid hb; clear hb) | (go_at_call 149; refine (Hset.out _ (HM.out.grow Hb.out)).mono ?_; rintro e w2 ⟨rfl, hd⟩; have Hd := Lib.hid hd; clear hd))
    go_ret2
    exact ⟨rfl, Did.after Hb.out Hd.out⟩
  · rw [if_neg h]
    obtain ⟨y, hy⟩ : ∃ y, (frameR np F p).2 = y := ⟨_, rfl⟩
    rw [hy] at HF h
    rw [hy]
    generalize (frameR np F p).1 = x at *
    clear hy
    go_enter Try.func107, Try.ntmps107
    go_wp2_with (first | (go_at_call 104; refine HF.out.mono ?_; rintro e w1 ⟨rfl, hb⟩; have Hb := Lib.hid hb; clear hb))
    go_ret2
    exact ⟨rfl, Did.of HM.out Hb.out⟩

/-- what Move answers and leaves -/
def moveR (np : Nat) (F : Nat → Nat) (p q : Int) : Int × (Nat → Nat) :=
  if ¬ ((0 ≤ p ∧ p < np) ∧ 0 ≤ q ∧ q < np) then (11, F) else if F p.toNat = 0 then (12, F) else if F q.toNat ≠ 0 then (13, F) else (0, turn (turn F p.toNat 0) q.toNat (F p.toNat))
set_option maxRecDepth 100000 in
set_option maxHeartbeats 2000000 in
theorem move_mp (S : Nat → Prop) (b np : Nat) (F : Nat → Nat) (w : World) (hM : Mp S b np F w) (p q : Int) :
    Calls Try.prog 109 #[.pointer (some ⟨b, 0, none⟩), .int .i64 p, .int .i64 q] w fun e w' => e = .returned (.int .i64 (moveR np F p q).1) ∧ Did S b np (moveR np F p q).2 w w' := by
  have Hin := Lib.hid (in2_mp S b np F w hM p q _ (inn2 np p q))
  have Hb := Lib.hid (below_new w (.cells #[.int .i64 p, .int .i64 q] 3))
  have HM1 := Lib.hid (hM.grow Hb.out)
  have HM := Lib.hid hM
  unfold moveR
  by_cases h1 : (0 ≤ p ∧ p < np) ∧ 0 ≤ q ∧ q < np
  · rw [if_neg (Classical.not_not.2 h1)]
    rw [if_pos h1] at Hin
    obtain ⟨p, rfl⟩ : ∃ q : Nat, p = q := ⟨p.toNat, by omega⟩
    obtain ⟨q, rfl⟩ : ∃ x : Nat, q = x := ⟨q.toNat, by omega⟩
    rw [Int.toNat_natCast, Int.toNat_natCast]
    have hp : p < np := by omega
    have hq : q < np := by omega
    clear h1
    have Hgp := Lib.hid (get_mp S b np F _ HM1.out p hp)
    have Hgq := Lib.hid (get_mp S b np F _ HM1.out q hq)
    have hsm : F p < 4294967296 := by
      obtain ⟨_, _, hm, _⟩ := hM
      exact hm.small p
    clear hM
    by_cases h7 : F p = 0
    · rw [if_pos h7]
      rw [h7] at Hgp
      clear h7 hsm
      go_enter Try.func109, Try.ntmps109
      go_wp2_with (first | (go_at_call 145; refine Hin.out.mono ?_; rintro e w1 ⟨rfl, rfl⟩) | (go_at_call 146; refine Hgp.out.mono ?_; rintro e w1 ⟨rfl, rfl⟩))
      go_ret
      exact ⟨rfl, Did.of HM.out Hb.out⟩
    · rw [if_neg h7]
      have h8 : ¬ (F p : Int) = 0 := by omega
      by_cases h9 : F q ≠ 0
      · rw [if_pos h9]
        have h10 : ¬ (F q : Int) = 0 := by omega
        generalize (F p : Int) = x at *
        generalize (F q : Int) = y at *
        clear h7 h9 hsm
        go_enter Try.func109, Try.ntmps109
        go_wp2_with (first | (go_at_call 145; refine Hin.out.mono ?_; rintro e w1 ⟨rfl, rfl⟩) | (go_at_call 146; refine Hgp.out.mono ?_; rintro e w1 ⟨rfl, rfl⟩; clear Hgp) | (go_at_call 146; refine Hgq.out.mono ?_; rintro e w1 ⟨rfl, rfl⟩))
        go_ret
        exact ⟨rfl, Did.of HM.out Hb.out⟩
      · rw [if_neg h9]
        have hF : F q = 0 := Classical.not_not.1 h9
        rw [hF] at Hgq
        have hpq : q ≠ p := by rintro rfl; exact h7 hF
        have Hs1 := set_mp S b np F _ HM1.out p 0 hp (by omega) (by simpa using h7)
        have Hs2 : ∀ S' W, Mp S' b np (turn F p 0) W → _ := fun S' W hW => set_mp S' b np (turn F p 0) W hW q (F p) hq hsm (by
          have : turn F p 0 q = F q := if_neg hpq
          rw [this, hF]; omega)
        obtain ⟨x, hx⟩ : ∃ x : Int, x = F p := ⟨_, rfl⟩
        rw [← hx] at Hgp h8
        simp only [← hx] at Hs2
        replace Hs1 := Lib.hid Hs1
        replace Hs2 := Lib.hid Hs2
        clear h9 hF h7 hsm hx
        have Hgp2 := Lib.hid Hgp.out
        go_enter Try.func109, Try.ntmps109
        go_wp2_with (first | (go_at_call 145; refine Hin.out.mono ?_; rintro e w1 ⟨rfl, rfl⟩) | (go_at_call 146; refine Hgp.out.mono ?_; rintro e w1 ⟨rfl, rfl⟩; clear Hgp) | (go_at_call 146; refine Hgq.out.mono ?_; rintro e w1 ⟨rfl, rfl⟩; clear Hgq) | (go_at_call 146; refine Hgp2.out.mono ?_; rintro e w1 ⟨rfl, rfl⟩; clear Hgp2) | (go_at_call 149; refine Hs1.out.mono ?_; rintro e w2 ⟨rfl, S1, m1, c1, g1⟩; have M1 := Lib.hid m1; have C1 := Lib.hid c1; have G1 := Lib.hid g1; clear m1 c1 g1 Hs1) | (go_at_call 149; refine (Hs2.out _ _ M1.out).mono ?_; rintro e w3 ⟨rfl, hd⟩; have Hd := Lib.hid hd; clear hd))
        go_ret
        exact ⟨rfl, Did.after Hb.out (Did.then C1.out G1.out Hd.out)⟩
  · rw [if_pos h1]
    rw [if_neg h1] at Hin
    clear h1 hM
    go_enter Try.func109, Try.ntmps109
    go_wp2_with (go_at_call 145; refine Hin.out.mono ?_; rintro e w1 ⟨rfl, rfl⟩)
    go_ret
    exact ⟨rfl, Did.of HM.out Hb.out⟩
end Go.Proofs.Ytkcijlndblbidaa.Pg
