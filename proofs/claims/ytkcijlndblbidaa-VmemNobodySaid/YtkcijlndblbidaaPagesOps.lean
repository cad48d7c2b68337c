/- The walks of Put, Frame, Drop, Move at a map whose blocks are among S. -/
import Derived.Test.YtkcijlndblbidaaPagesPut2
namespace Go.Proofs.Ytkcijlndblbidaa.Pg
open Go.ChangeShapes Go.WideShapes Go.ChangeAt Go.RowKit
set_option linter.unusedVariables false

/-- a map that has become F', of what was there only S changed -/
def Did (S : Nat → Prop) (b np : Nat) (F' : Nat → Nat) (w w' : World) : Prop := ∃ S', Mp S' b np F' w' ∧ Chg S w w' ∧ Grew S S' w
theorem Did.of {S : Nat → Prop} {b np : Nat} {F : Nat → Nat} {w w' : World} (hM : Mp S b np F w) (h : Below w.heap.size w w') : Did S b np F w w' := ⟨S, hM.grow h, Chg.of h, Grew.refl _ _⟩
theorem Did.after {S : Nat → Prop} {b np : Nat} {F : Nat → Nat} {w w1 w' : World} (h : Below w.heap.size w w1) (k : Did S b np F w1 w') : Did S b np F w w' := by
  obtain ⟨S', h1, h2, h3⟩ := k
  exact ⟨S', h1, (Chg.of h).trans h2 (fun _ _ h => h), (Grew.refl S w).trans h3 h.size⟩
theorem Did.then {S S' : Nat → Prop} {b np : Nat} {G : Nat → Nat} {w w1 w' : World} (h : Chg S w w1) (g : Grew S S' w) (k : Did S' b np G w1 w') : Did S b np G w w' := by
  obtain ⟨S2, h1, h2, h3⟩ := k
  exact ⟨S2, h1, h.then h2 g, g.trans h3 h.size⟩
/-- every block of S is B or later -/
def Up (B : Nat) (S : Nat → Prop) : Prop := ∀ k, S k → B ≤ k
theorem Did.up {S : Nat → Prop} {b np B : Nat} {F : Nat → Nat} {w w' : World} (h : Did S b np F w w') (u : Up B S) (hB : B ≤ w.heap.size) : ∃ S', Mp S' b np F w' ∧ Up B S' ∧ Below B w w' := by
  obtain ⟨S', h1, h2, h3⟩ := h
  refine ⟨S', h1, fun k hk => ?_, h2.below u hB⟩
  rcases h3 k hk with a | a
  · exact u k a
  · omega
theorem get_mp (S : Nat → Prop) (b np : Nat) (F : Nat → Nat) (w : World) (hM : Mp S b np F w) (p : Nat) (hp : p < np) :
    Calls Try.prog 146 #[.pointer (some ⟨b, 0, none⟩), .int .i64 p] w fun e w' => e = .returned (.int .u32 (F p)) ∧ w = w' := by
  obtain ⟨tb, ts, hM, _, _⟩ := hM
  have hm := hM.many
  obtain ⟨i, j, hi, hj, rfl⟩ : ∃ i j, i < ts.length ∧ j < 256 ∧ p = i * 256 + j := ⟨p / 256, p % 256, by omega, by omega, by omega⟩
  exact get_any b tb np ts F w hM i j hi hj
theorem in1_mp (S : Nat → Prop) (b np : Nat) (F : Nat → Nat) (w : World) (hM : Mp S b np F w) (p r : Int) (hr : inn np [p] = r) :
    Calls Try.prog 145 #[.pointer (some ⟨b, 0, none⟩), .slice (some ⟨w.heap.size, 0, none⟩) 1 1] (w.alloc (.cells #[.int .i64 p] 3)) fun e w' => e = .returned (.int .i64 r) ∧ w.alloc (.cells #[.int .i64 p] 3) = w' := by
  obtain ⟨tb, ts, hM, _, _⟩ := hM.grow (below_new w (.cells #[.int .i64 p] 3))
  rw [← hr]
  refine in_any b tb np _ ts F [p] _ hM ?_ (by simp)
  intro j hj
  obtain rfl : j = 0 := by simpa using hj
  exact at_cell (heap_alloc_new w (.cells #[.int .i64 p] 3)) 0 _ rfl
theorem in2_mp (S : Nat → Prop) (b np : Nat) (F : Nat → Nat) (w : World) (hM : Mp S b np F w) (p q r : Int) (hr : inn np [p, q] = r) :
    Calls Try.prog 145 #[.pointer (some ⟨b, 0, none⟩), .slice (some ⟨w.heap.size, 0, none⟩) 2 2] (w.alloc (.cells #[.int .i64 p, .int .i64 q] 3)) fun e w' => e = .returned (.int .i64 r) ∧ w.alloc (.cells #[.int .i64 p, .int .i64 q] 3) = w' := by
  obtain ⟨tb, ts, hM, _, _⟩ := hM.grow (below_new w (.cells #[.int .i64 p, .int .i64 q] 3))
  rw [← hr]
  refine in_any b tb np _ ts F [p, q] _ hM ?_ (by simp)
  intro j hj
  have h2 := heap_alloc_new w (.cells #[.int .i64 p, .int .i64 q] 3)
  have : j = 0 ∨ j = 1 := by simp at hj; omega
  rcases this with rfl | rfl
  · exact at_cell h2 0 _ rfl
  · exact at_cell h2 1 _ rfl
theorem inn1 (np : Nat) (p : Int) : inn np [p] = if 0 ≤ p ∧ p < np then 0 else 11 := by
  unfold inn
  by_cases h : 0 ≤ p ∧ p < np
  · rw [if_pos h, if_pos]
    intro j hj
    obtain rfl : j = 0 := by simpa using hj
    exact h
  · rw [if_neg h, if_neg]
    intro k
    exact h (k 0 (by simp))
theorem inn2 (np : Nat) (p q : Int) : inn np [p, q] = if (0 ≤ p ∧ p < np) ∧ 0 ≤ q ∧ q < np then 0 else 11 := by
  unfold inn
  by_cases h : (0 ≤ p ∧ p < np) ∧ 0 ≤ q ∧ q < np
  · rw [if_pos h, if_pos]
    intro j hj
    have : j = 0 ∨ j = 1 := by simp at hj; omega
    rcases this with rfl | rfl
    · exact h.1
    · exact h.2
  · rw [if_neg h, if_neg]
    intro k
    exact h ⟨k 0 (by simp), k 1 (by simp)⟩

/-- what Put answers and leaves -/
def putR (np : Nat) (F : Nat → Nat) (p f : Int) : Int × (Nat → Nat) :=
  if ¬ (0 ≤ p ∧ p < np) then (11, F) else if f < 0 ∨ 2147483648 ≤ f then (5, F) else if F p.toNat ≠ 0 then (13, F) else (0, turn F p.toNat (f.toNat + 1))
set_option maxRecDepth 100000 in
set_option maxHeartbeats 1000000 in
theorem put_mp (S : Nat → Prop) (b np : Nat) (F : Nat → Nat) (w : World) (hM : Mp S b np F w) (p f : Int) :
    Calls Try.prog 106 #[.pointer (some ⟨b, 0, none⟩), .int .i64 p, .int .i64 f] w fun e w' => e = .returned (.int .i64 (putR np F p f).1) ∧ Did S b np (putR np F p f).2 w w' := by
  have Hin := Lib.hid (in1_mp S b np F w hM p _ (inn1 np p))
  have Hb := Lib.hid (below_new w (.cells #[.int .i64 p] 3))
  have HM := Lib.hid hM
  clear hM
  unfold putR
  by_cases h1 : 0 ≤ p ∧ p < np
  · rw [if_neg (Classical.not_not.2 h1)]
    rw [if_pos h1] at Hin
    obtain ⟨p, rfl⟩ : ∃ q : Nat, p = q := ⟨p.toNat, by omega⟩
    rw [Int.toNat_natCast]
    have hp : p < np := by omega
    clear h1
    by_cases h2 : f < 0 ∨ 2147483648 ≤ f
    · rw [if_pos h2]
      rcases h2 with h2 | h2
      · go_enter Try.func106, Try.ntmps106
        go_wp2_with (go_at_call 145; refine Hin.out.mono ?_; rintro e w1 ⟨rfl, rfl⟩)
        go_ret
        exact ⟨rfl, Did.of HM.out Hb.out⟩
      · have h0 : ¬ f < 0 := by omega
        go_enter Try.func106, Try.ntmps106
        go_wp2_with (go_at_call 145; refine Hin.out.mono ?_; rintro e w1 ⟨rfl, rfl⟩)
        go_ret
        exact ⟨rfl, Did.of HM.out Hb.out⟩
    · rw [if_neg h2]
      have h3 : ¬ f < 0 := by omega
      have h4 : ¬ 2147483648 ≤ f := by omega
      have h5 : f < 2147483648 := by omega
      have h6 : 0 ≤ f := by omega
      have HM1 := Lib.hid (HM.out.grow Hb.out)
      have Hget := Lib.hid (get_mp S b np F _ HM1.out p hp)
      clear h2
      by_cases h7 : F p ≠ 0
      · rw [if_pos h7]
        have h8 : ¬ (F p : Int) = 0 := by omega
        generalize F p = x at *
        clear h7
        go_enter Try.func106, Try.ntmps106
        go_wp2_with (first | (go_at_call 145; refine Hin.out.mono ?_; rintro e w1 ⟨rfl, rfl⟩) | (go_at_call 146; refine Hget.out.mono ?_; rintro e w1 ⟨rfl, rfl⟩))
        go_ret
        exact ⟨rfl, Did.of HM.out Hb.out⟩
      · rw [if_neg h7]
        have hF : F p = 0 := Classical.not_not.1 h7
        rw [hF] at Hget
        have Hset := set_mp S b np F _ HM1.out p (f.toNat + 1) hp (by omega) (by omega)
        rw [show ((f.toNat + 1 : Nat) : Int) = f + 1 by omega] at Hset
        replace Hset := Lib.hid Hset
        clear h7 hF
        go_enter Try.func106, Try.ntmps106
        go_wp2_with (first | (go_at_call 145; refine Hin.out.mono ?_; rintro e w1 ⟨rfl, rfl⟩) | (go_at_call 146; refine Hget.out.mono ?_; rintro e w1 ⟨rfl, rfl⟩) | (go_at_call 149; refine Hset.out.mono ?_; rintro e w1 ⟨rfl, hd⟩; have Hd := Lib.hid hd; clear hd))
        go_ret
        exact ⟨rfl, Did.after Hb.out Hd.out⟩
  · rw [if_pos h1]
    rw [if_neg h1] at Hin
    clear h1
    go_enter Try.func106, Try.ntmps106
    go_wp2_with (go_at_call 145; refine Hin.out.mono ?_; rintro e w1 ⟨rfl, rfl⟩)
    go_ret
    exact ⟨rfl, Did.of HM.out Hb.out⟩
end Go.Proofs.Ytkcijlndblbidaa.Pg
