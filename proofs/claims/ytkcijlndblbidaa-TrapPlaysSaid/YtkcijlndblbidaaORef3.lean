/- The reference of layer 15: Make. -/
import Derived.Test.YtkcijlndblbidaaORef2
namespace Go.Proofs.Ytkcijlndblbidaa
open Go.ChangeShapes Go.WideShapes Go.ChangeAt Go.RowKit
set_option linter.unusedVariables false

section
variable {W0 w w' : World} {m n t bl : Nat} {g f : Nat → Nat} {K : List (Nat × Obj)}
theorem FK.adopt {X : Nat} {o : Obj} (h : FK W0 m n t g K w) (c : Below w.heap.size w w') (hX : w.heap.size ≤ X) (ho : w'.heap[X]? = some o) : FK W0 m n t g ((X, o) :: K) w' := by
  obtain ⟨v, ⟨S, h1, h2, h3, h4⟩, hv⟩ := h
  refine ⟨v, ⟨S, h1.grow c, h2, h3.trans (c.mono h3.size), fun x hx => ?_⟩, hv⟩
  simp only [List.mem_cons] at hx
  rcases hx with rfl | hx
  · exact ⟨fun s => by have := h1.in _ s; simp only [] at this; omega, ho⟩
  · exact ⟨(h4 x hx).1, blockB c (Nat.le_refl _) (h4 x hx).2⟩
theorem RF.adopt {X : Nat} {o : Obj} (h : RF W0 m n t g bl f K w) (c : Below w.heap.size w w') (hX : w.heap.size ≤ X) (ho : w'.heap[X]? = some o) : RF W0 m n t g bl f ((X, o) :: K) w' := by
  obtain ⟨cur, h1, h2, h3, h4⟩ := h
  have hlt := block_lt (h4.block (List.mem_cons_self ..))
  refine ⟨cur, h1, h2, fun x hx => ?_, (h4.adopt c hX ho).sub fun x hx => ?_⟩
  · simp only [List.mem_cons] at hx
    rcases hx with rfl | hx
    · simp only []; omega
    · exact h3 x hx
  · simp only [List.mem_cons] at hx ⊢
    rcases hx with h | h | h
    · exact .inr (.inl h)
    · exact .inl h
    · exact .inr (.inr h)
theorem RF.put0 (h : RF W0 m n t g bl f K w) {j : Nat} (hj : j < n) : RF W0 m n t g bl (putG f j 0) K (w.setCell ⟨bl, j, none⟩ (.int .u64 0)) := h.put hj 0
set_option maxRecDepth 100000 in
set_option maxHeartbeats 1000000 in
theorem rmake_any (h : RF W0 m n t g bl f K w) (c : Nat) (a p q o : Int) (ha2 : a ≤ 9223372036854775807) :
    Calls Try.prog 128 #[.slice (some ⟨bl, 0, none⟩) n c, .int .i64 a, Hd.hv p q o] w fun e w' => e = .returned (.int .i64 (makE n a p q o)) ∧ RF W0 m n t g bl (makG n f a p q o) K w' := by
  have hn := h.dims
  have hn1 : (n : Int) ≤ 4096 := by omega
  have hB := h.box #[.int .i64 p, .int .i64 q, .int .i64 o] 106
  unfold makG
  by_cases h0 : a ≤ 0
  · have he : makE n a p q o = 5 := by unfold makE; rw [if_pos h0]
    rw [he, if_neg (by omega)]
    have H := Lib.hid hB.tail
    have h1 : a < 1 := by omega
    clear h he hB
    unfold Hd.hv
    go_enter Try.func128, Try.ntmps128
    go_wp2
    go_ret
    exact ⟨rfl, H.out⟩
  · have h1 : ¬ a < 1 := by omega
    by_cases hok : Hd.Ok p q o
    · obtain ⟨pn, qn, on, rfl, rfl, rfl⟩ := Hd.ok_nat hok
      obtain ⟨an, rfl⟩ : ∃ an : Nat, a = an := ⟨a.toNat, by omega⟩
      obtain ⟨s, hs⟩ : ∃ s : Nat, pn + qn + on = s := ⟨_, rfl⟩
      have hs2 : s ≤ 255 := by unfold Hd.Ok at hok; omega
      have hsz : Hd.sizeOf' pn qn on = (s + 1 : Nat) := by unfold Hd.sizeOf'; rw [if_pos hok]; omega
      have hP := fun W => Hd.refPut_yes pn qn on W hok
      have hS := fun W => Hd.refSize_any pn qn on W
      rw [hsz] at hS
      unfold Hd.hv at hP hS
      have hx := word_lt pn qn on hok
      have a1 : (0 : Int) ≤ an := by omega
      have HP := Lib.hid hP
      have HS := Lib.hid hS
      have HB := Lib.hid hB
      by_cases hfit : an + s < n
      · have he : makE n an pn qn on = 0 := by unfold makE; rw [if_neg h0, if_pos hok, if_pos (by omega)]
        have hgo : mkG f (an : Int).toNat (Hd.wordOf (pn : Int).toNat (qn : Int).toNat (on : Int).toNat) ((pn : Int) + qn + on).toNat = mkG f an (Hd.wordOf pn qn on) s := by
          simp only [Int.toNat_natCast]
          rw [show ((pn : Int) + qn + on).toNat = s by omega]
        rw [he, if_pos rfl, hgo]
        generalize Hd.wordOf pn qn on = x at *
        have z1 : ¬ (n : Int) ≤ an := by omega
        have z2 : (an : Int) < n := by omega
        have z3 : ¬ (n : Int) - an < (s + 1 : Nat) := by omega
        have z4 : (an : Int) ≤ 4096 := by omega
        have z5 : ((s + 1 : Nat) : Int) ≤ 256 := by omega
        obtain ⟨z, hz⟩ : ∃ z, s + 1 = z := ⟨_, rfl⟩
        rw [hz] at HS z3 z5
        have z6 : decide (n ≤ an) = false := decide_eq_false (by omega)
        have z7 : decide ((n : Int) - an < z) = false := decide_eq_false z3
        clear h hB he hgo hP hS hok hsz h0 hn hs
        unfold Hd.hv
        go_enter Try.func128, Try.ntmps128
        go_wp2_with (first
          | (go_at_call 156; refine (HP.out _).mono ?_; rintro e w1 ⟨rfl, hb⟩; have h1 := HB.out.grow hb; have qb := h1.block (List.mem_cons_self ..); have d0 := at_cell qb 0 _ rfl; have d1 := at_cell qb 1 _ rfl; have d2 := at_cell qb 2 _ rfl; have H1 := Lib.hid h1; clear h1 qb hb)
          | (go_at_call 140; refine (HS.out _).mono ?_; rintro e w2 ⟨rfl, hb⟩; have h2 := H1.out.grow hb; have c0 := h2.cell (show an < n by omega); have f0 := h2.free an; have hp := h2.put (show an < n by omega) x; have H2 := Lib.hid hp; clear h2 hb d0 d1 d2 hp))
        rw [← mkG_zero] at H2
        clear HB H1 c0 f0
        go_loopw [9] (fun i wr => ∃ (k j : Nat), i = .int .i64 j ∧ k + 1 = j ∧ k ≤ s ∧ RF W0 m n t g bl (mkG f an x k) ((w.heap.size, .cells #[.int .i64 pn, .int .i64 qn, .int .i64 on] 106 (0, 0)) :: K) wr) (fun i _ => z - (intOf i).toNat)
        case atStart => exact ⟨0, 1, rfl, rfl, by omega, H2.out⟩
        case round =>
          clear H2
          obtain ⟨k, j, rfl, hj, hk, hF⟩ := hrel
          have qb := hF.block (List.mem_cons_self ..)
          have d0 := at_cell qb 0 _ rfl
          have d1 := at_cell qb 1 _ rfl
          have d2 := at_cell qb 2 _ rfl
          have H := Lib.hid hF
          clear qb hF
          by_cases hlt : k < s
          · have j1 : (j : Int) < z := by omega
            have j2 : (0 : Int) ≤ j := by omega
            have j3 : (j : Int) ≤ 256 := by omega
            obtain ⟨y, hy⟩ : ∃ y, an + j = y := ⟨_, rfl⟩
            have y1 : (an : Int) + j = y := by omega
            have y2 : (y : Int) < n := by omega
            have y3 : (0 : Int) ≤ y := by omega
            have y4 : ((y : Int)).toNat = y := by omega
            have y5 : IntKind.i64.wrap (y : Int) = y := IntWalk.i64_in _ (by omega)
            have hyn : y < n := by omega
            have Hm := Lib.hid (show mkG f an x (k + 1) = putG (mkG f an x k) y 0 by rw [mkG_succ, show an + 1 + k = y by omega])
            clear hy
            go_wp2_with (first
              | (go_at_call 140; refine (HS.out _).mono ?_; rintro e w2 ⟨rfl, hb⟩; have h2 := H.out.grow hb; have c0 := h2.cell hyn; have f0 := h2.free y; have hp := h2.put0 hyn; have H2 := Lib.hid hp; clear h2 hb d0 d1 d2 hp))
            go_roundw
            case rel => exact ⟨k + 1, j + 1, by go_num, by omega, by omega, by rw [Hm.out]; exact H2.out⟩
            case measure => simp [intOf]; omega
          · obtain rfl : k = s := by omega
            have j1 : ¬ (j : Int) < z := by omega
            go_wp2_with (first
              | (go_at_call 140; refine (HS.out _).mono ?_; rintro e w2 ⟨rfl, hb⟩; have H2 := Lib.hid (H.out.grow hb).tail; clear hb d0 d1 d2))
            go_ret
            exact ⟨rfl, H2.out⟩
      · have he : makE n an pn qn on = 11 := by unfold makE; rw [if_neg h0, if_pos hok, if_neg (by omega)]
        rw [he, if_neg (by omega)]
        generalize Hd.wordOf pn qn on = x at *
        obtain ⟨z, hz⟩ : ∃ z, s + 1 = z := ⟨_, rfl⟩
        rw [hz] at HS
        by_cases hfar : n ≤ an
        · have z1 : (n : Int) ≤ an := by omega
          clear h hB he hP hS hok hsz h0 hn hs
          unfold Hd.hv
          go_enter Try.func128, Try.ntmps128
          go_wp2_with (first
            | (go_at_call 156; refine (HP.out _).mono ?_; rintro e w1 ⟨rfl, hb⟩; have H1 := Lib.hid (HB.out.grow hb).tail; clear hb))
          go_ret
          exact ⟨rfl, H1.out⟩
        · have z1 : ¬ (n : Int) ≤ an := by omega
          have z2 : (an : Int) < n := by omega
          have z3 : (n : Int) - an < z := by omega
          have z4 : (an : Int) ≤ 4096 := by omega
          clear h hB he hP hS hok hsz h0 hn hs
          unfold Hd.hv
          go_enter Try.func128, Try.ntmps128
          go_wp2_with (first
            | (go_at_call 156; refine (HP.out _).mono ?_; rintro e w1 ⟨rfl, hb⟩; have h1 := HB.out.grow hb; have qb := h1.block (List.mem_cons_self ..); have d0 := at_cell qb 0 _ rfl; have d1 := at_cell qb 1 _ rfl; have d2 := at_cell qb 2 _ rfl; have H1 := Lib.hid h1; clear h1 qb hb)
            | (go_at_call 140; refine (HS.out _).mono ?_; rintro e w2 ⟨rfl, hb⟩; have H2 := Lib.hid (H1.out.grow hb).tail; clear hb d0 d1 d2))
          go_ret
          exact ⟨rfl, H2.out⟩
    · have he : makE n a p q o = 15 := by unfold makE; rw [if_neg h0, if_neg hok]
      rw [he, if_neg (by omega)]
      have hP := fun W => Hd.refPut_no p q o W hok
      unfold Hd.hv at hP
      have HB := Lib.hid hB
      have HP := Lib.hid hP
      clear h he hP hok h0 hB
      unfold Hd.hv
      go_enter Try.func128, Try.ntmps128
      go_wp2_with (first
        | (go_at_call 156; refine (HP.out _).mono ?_; rintro e w1 ⟨rfl, hb⟩; have H1 := Lib.hid (HB.out.grow hb).tail; clear hb))
      go_ret
      exact ⟨rfl, H1.out⟩
end
end Go.Proofs.Ytkcijlndblbidaa
