/- The walk of the law HeaderBack, for any header and word. -/
import Derived.Test.YtibhlblieeflbaaHdrLaws
import Derived.Deep.RegionWith
namespace Go.Proofs.Ytibhlblieeflbaa
open Go.ChangeShapes Go.WideShapes Go.ChangeAt Go.RowKit

theorem word_fields {p f o : Nat} (h : Ok p f o) : tp (wordOf p f o) = p ∧ tf (wordOf p f o) = f ∧ to (wordOf p f o) = o := by
  unfold Ok at h
  unfold tp tf to wordOf low
  refine ⟨by omega, by omega, by omega⟩
theorem word_is {p f o : Nat} (h : Ok p f o) : Is (wordOf p f o) := by
  obtain ⟨h1, h2, h3⟩ := word_fields h
  unfold Is
  rw [h1, h2, h3]
  exact ⟨h, rfl⟩
theorem word_lt {p f o : Nat} (h : Ok p f o) : wordOf p f o < 18446744073709551616 := by
  unfold Ok at h
  unfold wordOf low
  omega
/-- how far the fields ahead of a kind reach -/
def accOf (p f o k : Nat) : Nat := match k with | 1 => 1 | 2 => 1 + p | 3 => 1 + p + f | _ => 1 + p + f + o

/-- the header's copy stands in its block, all else is as it was -/
structure HB (p f o : Int) (w wr : World) : Prop where
  blk : wr.heap[w.heap.size]? = some (hdrBlock p f o)
  below : Below w.heap.size w wr
theorem HB.next {p f o : Int} {w wr w' : World} (h : HB p f o w wr) (hb : Below wr.heap.size wr w') : HB p f o w w' := ⟨blockB hb (Nat.le_refl _) h.blk, seq h.below hb⟩
theorem HB.three {p f o : Int} {w wr : World} (h : HB p f o w wr) : wr.cell? ⟨w.heap.size, 0, none⟩ = some (.int .i64 p) ∧ wr.cell? ⟨w.heap.size, 1, none⟩ = some (.int .i64 f) ∧ wr.cell? ⟨w.heap.size, 2, none⟩ = some (.int .i64 o) := (Proofs.Ytibhlblieeflbaa.three h.blk).1
theorem HB.start (p f o : Int) (w : World) : HB p f o w (w.alloc (.cells #[.int .i64 p, .int .i64 f, .int .i64 o] 23)) := ⟨heap_alloc_new _ _, below_new _ _⟩

set_option maxHeartbeats 1000000 in
theorem back_no (p f o : Int) (x : Nat) (w : World) (hx : x < 18446744073709551616) (hok : ¬ Ok p f o) :
    Calls Try.prog 5 #[hv p f o, .int .u64 x] w fun e w' => e = .returned (.bool true) ∧ Below w.heap.size w w' := by
  have hs := HB.start p f o w
  have Hs := Lib.hid hs
  have h1 := fun w => put_no p f o w hok
  have h2 := size_any p f o
  rw [show sizeOf' p f o = 0 from if_neg hok] at h2
  have h3 := fun w => take_any x w hx
  have H1 := Lib.hid h1
  have H2 := Lib.hid h2
  by_cases his : Is x
  · simp only [if_pos his] at h3
    have h4 := fun w => put_yes (tp x) (tf x) (to x) w his.1
    rw [his.2] at h4
    generalize ((tp x : Nat) : Int) = a at *
    generalize ((tf x : Nat) : Int) = b at *
    generalize ((to x : Nat) : Int) = c at *
    have H3 := Lib.hid h3
    have H4 := Lib.hid h4
    clear h1 h2 h3 h4 hs hok hx his
    unfold hv at *
    go_enter Try.func5, Try.ntmps5
    go_wp2_with (first | (go_at_call_of 6 (Value.int .i64 a); refine (H4.out _).mono ?_; rintro e w1 ⟨rfl, hb1⟩; have G2 := Lib.hid (G1.out.next (seq (below_new _ _) hb1)); obtain ⟨c0, c1, c2⟩ := G2.out.three; clear hb1) | (go_at_call 8; refine (H3.out _).mono ?_; rintro e w2 ⟨rfl, hb2⟩; have G1 := Lib.hid (Hs.out.next hb2); clear hb2) | (go_at_call 6; refine (H1.out _).mono ?_; rintro e w3 ⟨rfl, hb3⟩; replace G2 := Lib.hid (G2.out.next hb3); clear c0 c1 c2; obtain ⟨c0, c1, c2⟩ := G2.out.three; clear hb3) | (go_at_call 12; refine (H2.out _).mono ?_; rintro e w4 ⟨rfl, hb4⟩; replace G2 := Lib.hid (G2.out.next hb4); clear hb4 c0 c1 c2) | (go_at_call 14; refine (lives_any _).mono ?_; rintro e w5 ⟨rfl, hb5⟩; replace G2 := Lib.hid (G2.out.next hb5); clear hb5))
    go_ret
    exact ⟨rfl, G2.out.below⟩
  · simp only [if_neg his] at h3
    have H3 := Lib.hid h3
    clear h1 h2 h3 hs hok hx his
    unfold hv at *
    go_enter Try.func5, Try.ntmps5
    go_wp2_with (first | (go_at_call 8; refine (H3.out _).mono ?_; rintro e w2 ⟨rfl, hb2⟩; have G1 := Lib.hid (Hs.out.next hb2); have G2 := Lib.hid (G1.out.next (below_new _ (.cells #[.int .i64 0, .int .i64 0, .int .i64 0] 23))); obtain ⟨c0, c1, c2⟩ := G2.out.three; clear hb2) | (go_at_call 6; refine (H1.out _).mono ?_; rintro e w3 ⟨rfl, hb3⟩; replace G2 := Lib.hid (G2.out.next hb3); clear c0 c1 c2; obtain ⟨c0, c1, c2⟩ := G2.out.three; clear hb3) | (go_at_call 12; refine (H2.out _).mono ?_; rintro e w4 ⟨rfl, hb4⟩; replace G2 := Lib.hid (G2.out.next hb4); clear hb4 c0 c1 c2) | (go_at_call 14; refine (lives_any _).mono ?_; rintro e w5 ⟨rfl, hb5⟩; replace G2 := Lib.hid (G2.out.next hb5); clear hb5))
    go_ret
    exact ⟨rfl, G2.out.below⟩

theorem ok_bounds {p f o : Nat} (h : Ok p f o) : p + f + o ≤ 255 := by unfold Ok at h; omega
theorem acc_le (p f o k : Nat) (h : Ok p f o) : accOf p f o k ≤ 1000 := by
  have := ok_bounds h
  unfold accOf
  split <;> omega
def cntOf (p f o k : Nat) : Nat := match k with | 1 => p | 2 => f | _ => o
theorem acc_next (p f o k : Nat) (h1 : 1 ≤ k) (h3 : k ≤ 3) : accOf p f o (k + 1) = accOf p f o k + cntOf p f o k := by
  have : k = 1 ∨ k = 2 ∨ k = 3 := by omega
  rcases this with rfl | rfl | rfl <;> simp [accOf, cntOf]
theorem count_nat (p f o k : Nat) (h : Ok p f o) (h1 : 1 ≤ k) (h3 : k ≤ 3) : ∃ C : Nat, countOf p f o k = C ∧ C ≤ 255 ∧ C = cntOf p f o k := by
  have hb := ok_bounds h
  have hs : countOf p f o k = if (k : Int) = 1 then (p : Int) else if (k : Int) = 2 then f else if (k : Int) = 3 then o else 0 := if_pos h
  have : k = 1 ∨ k = 2 ∨ k = 3 := by omega
  rcases this with rfl | rfl | rfl
  · exact ⟨p, by rw [hs]; rfl, by omega, rfl⟩
  · exact ⟨f, by rw [hs]; rfl, by omega, rfl⟩
  · exact ⟨o, by rw [hs]; rfl, by omega, rfl⟩
def fstOf (p f k : Nat) : Nat := match k with | 1 => 0 | 2 => p | _ => p + f
theorem first_nat (p f o k : Nat) (h : Ok p f o) (h1 : 1 ≤ k) (h3 : k ≤ 3) : ∃ F : Nat, firstOf p f o k = F ∧ F ≤ 255 := by
  have hb := ok_bounds h
  have hs : firstOf p f o k = if (k : Int) = 2 then (p : Int) else if (k : Int) = 3 then p + f else 0 := if_pos h
  have : k = 1 ∨ k = 2 ∨ k = 3 := by omega
  rcases this with rfl | rfl | rfl
  · exact ⟨0, by rw [hs]; rfl, by omega⟩
  · exact ⟨p, by rw [hs]; rfl, by omega⟩
  · exact ⟨p + f, by rw [hs]; rfl, by omega⟩
theorem kind_nat (p f o k : Nat) (h : Ok p f o) (h1 : 1 ≤ k) (h3 : k ≤ 3) : ∀ j : Nat, j < cntOf p f o k → kindOf p f o (firstOf p f o k + (j : Int)) = (k : Int) := by
  intro j hj
  have hs : firstOf p f o k = if (k : Int) = 2 then (p : Int) else if (k : Int) = 3 then p + f else 0 := if_pos h
  rw [hs]
  have : k = 1 ∨ k = 2 ∨ k = 3 := by omega
  rcases this with rfl | rfl | rfl
  · simp only [cntOf] at hj
    rw [if_neg (by decide), if_neg (by decide)]
    unfold kindOf
    rw [if_pos ⟨h, by omega, by omega⟩, if_pos (by omega)]; rfl
  · simp only [cntOf] at hj
    rw [if_pos (by decide)]
    unfold kindOf
    rw [if_pos ⟨h, by omega, by omega⟩, if_neg (by omega), if_pos (by omega)]; rfl
  · simp only [cntOf] at hj
    rw [if_neg (by decide), if_pos (by decide)]
    unfold kindOf
    rw [if_pos ⟨h, by omega, by omega⟩, if_neg (by omega), if_neg (by omega)]; rfl
theorem kind_end (p f o : Nat) : kindOf p f o ((p : Int) + f + o) = 0 := if_neg (by omega)
theorem kind_neg (p f o : Nat) : kindOf p f o (-1) = 0 := if_neg (by omega)

set_option maxHeartbeats 2000000 in
theorem back_yes (p f o : Nat) (x : Nat) (w : World) (hx : x < 18446744073709551616) (hok : Ok p f o) :
    Calls Try.prog 5 #[hv p f o, .int .u64 x] w fun e w' => e = .returned (.bool true) ∧ Below w.heap.size w w' := by
  have hs := HB.start p f o w
  have Hs := Lib.hid hs
  have h1 := fun w => put_yes p f o w hok
  have h2 := size_any p f o
  rw [show sizeOf' p f o = 1 + p + f + o from if_pos hok] at h2
  have h3 := fun w => take_any x w hx
  have h5 := fun w => take_any (wordOf p f o) w (word_lt hok)
  simp only [if_pos (word_is hok), (word_fields hok).1, (word_fields hok).2.1, (word_fields hok).2.2] at h5
  have h6 := kind_any p f o
  have h7 := count_any p f o
  have h8 := first_any p f o
  have H1 := Lib.hid h1
  have H2 := Lib.hid h2
  have H5 := Lib.hid h5
  have H6 := Lib.hid h6
  have H7 := Lib.hid h7
  have H8 := Lib.hid h8
  have Hok := Lib.hid hok
  generalize wordOf p f o = y at *
  by_cases his : Is x
  · simp only [if_pos his] at h3
    have h4 := fun w => put_yes (tp x) (tf x) (to x) w his.1
    rw [his.2] at h4
    generalize ((tp x : Nat) : Int) = a at *
    generalize ((tf x : Nat) : Int) = b at *
    generalize ((to x : Nat) : Int) = c at *
    have H3 := Lib.hid h3
    have H4 := Lib.hid h4
    clear h1 h2 h3 h4 h5 h6 h7 h8 hs hok hx his
    unfold hv at *
    go_enter Try.func5, Try.ntmps5
    go_wp2_with (first | (go_at_call_of 6 (Value.int .i64 a); refine (H4.out _).mono ?_; rintro e w1 ⟨rfl, hb1⟩; have G2 := Lib.hid (G1.out.next (seq (below_new _ _) hb1)); obtain ⟨c0, c1, c2⟩ := G2.out.three; clear hb1) | (go_at_call_of 8 (Value.int .u64 (x : Int)); refine (H3.out _).mono ?_; rintro e w2 ⟨rfl, hb2⟩; have G1 := Lib.hid (Hs.out.next hb2); clear hb2) | (go_at_call 6; refine (H1.out _).mono ?_; rintro e w3 ⟨rfl, hb3⟩; replace G2 := Lib.hid (G2.out.next hb3); clear c0 c1 c2; clear hb3) | (go_at_call 8; refine (H5.out _).mono ?_; rintro e w4 ⟨rfl, hb4⟩; replace G2 := Lib.hid (G2.out.next (seq hb4 (below_new _ (.cells #[.int .i64 p, .int .i64 f, .int .i64 o] 23)))); clear hb4; obtain ⟨c0, c1, c2⟩ := G2.out.three))
    have G3 := Lib.hid G2.out
    clear c0 c1 c2 G1 G2 H1 H3 H5 H4 Hs
    go_loopw [13, 14] (fun n i wr => ∃ k : Nat, 1 ≤ k ∧ k ≤ 4 ∧ i = .int .i64 k ∧ n = .int .i64 (accOf p f o k : Nat) ∧ HB p f o w wr) (fun _ i _ => 4 - (intOf i).toNat)
    case atStart => exact ⟨1, by omega, by omega, rfl, rfl, G3.out⟩
    case round =>
      clear G3
      obtain ⟨k, k1, k4, rfl, rfl, hB⟩ := hrel
      obtain ⟨c0, c1, c2⟩ := hB.three
      have G := Lib.hid hB
      clear hB
      by_cases hlt : k ≤ 3
      · have hcn := count_nat p f o k Hok.out k1 hlt
        have hfi := first_nat p f o k Hok.out k1 hlt
        have hnx := acc_next p f o k k1 hlt
        have hki := kind_nat p f o k Hok.out k1 hlt
        obtain ⟨F, hF, hFl⟩ := hfi
        obtain ⟨C, hC, hCl, hC2⟩ := hcn
        rw [← hC2] at hnx
        have hal : accOf p f o k ≤ 1000 := acc_le p f o k Hok.out
        have h7k := fun w => H7.out k w
        have h8k := fun w => H8.out k w
        rw [hC] at h7k
        rw [hF] at h8k
        have hkk : ∀ j : Nat, j < C → kindOf p f o ((F : Int) + (j : Int)) = (k : Int) := fun j hj => by rw [← hF]; exact hki j (by omega)
        have Hkk := Lib.hid hkk
        have H7k := Lib.hid h7k
        have H8k := Lib.hid h8k
        have Hnx := Lib.hid hnx
        clear hC hF hkk h7k h8k hnx hki hC2
        generalize accOf p f o k = A at *
        go_wp2_with (first | (go_at_call 19; refine (H8k.out _).mono ?_; rintro e w6 ⟨rfl, hb6⟩; replace G := Lib.hid (G.out.next hb6); clear hb6 c0 c1 c2; obtain ⟨c0, c1, c2⟩ := G.out.three) | (go_at_call 17; refine (H7k.out _).mono ?_; rintro e w7 ⟨rfl, hb7⟩; replace G := Lib.hid (G.out.next hb7); clear hb7 c0 c1 c2))
        go_loopw [13, 16, 75] (fun n _ i wr => ∃ j : Nat, j ≤ C ∧ i = .int .i64 j ∧ n = .int .i64 ((A + j : Nat) : Int) ∧ HB p f o w wr) (fun _ _ i _ => C - (intOf i).toNat)
        case atStart => exact ⟨0, by omega, rfl, rfl, G.out⟩
        case round =>
          clear G
          obtain ⟨j, jC, rfl, rfl, hB⟩ := hrel
          obtain ⟨c0, c1, c2⟩ := hB.three
          have G := Lib.hid hB
          clear hB
          by_cases hjl : j < C
          · have h6j := fun w => H6.out ((F : Int) + (j : Int)) w
            rw [Hkk.out j hjl] at h6j
            have H6j := Lib.hid h6j
            clear h6j
            go_wp2_with (first | (go_at_call 15; refine (H6j.out _).mono ?_; rintro e w8 ⟨rfl, hb8⟩; replace G := Lib.hid (G.out.next hb8); clear hb8 c0 c1 c2))
            go_roundw
            case rel => exact ⟨j + 1, by omega, by go_num, by go_num, G.out⟩
            case measure => simp [intOf]; omega
          · obtain rfl : C = j := by omega
            go_wp2
            go_roundw
            case rel => exact ⟨k + 1, by omega, by omega, by go_num, by rw [Hnx.out], G.out⟩
            case measure => simp [intOf]; omega
      · obtain rfl : k = 4 := by omega
        have hA : ((accOf p f o 4 : Nat) : Int) = 1 + p + f + o := by simp [accOf]
        have hA1 : ((accOf p f o 4 : Nat) : Int) - 1 = p + f + o := by omega
        have h6a := fun w => H6.out (((accOf p f o 4 : Nat) : Int) - 1) w
        have h6b := fun w => H6.out (-1) w
        rw [show kindOf p f o (((accOf p f o 4 : Nat) : Int) - 1) = 0 from by rw [hA1]; exact kind_end p f o] at h6a
        rw [kind_neg p f o] at h6b
        have H6a := Lib.hid h6a
        have H6b := Lib.hid h6b
        have hbig := acc_le p f o 4 Hok.out
        have HA := Lib.hid hA
        clear h6a h6b hA hA1
        have H2' := Lib.hid (fun w => (HA.out ▸ H2.out w : Calls Try.prog 12 #[.agg #[.int .i64 p, .int .i64 f, .int .i64 o]] w fun e w' => e = .returned (.int .i64 ((accOf p f o 4 : Nat) : Int)) ∧ Below w.heap.size w w'))
        generalize accOf p f o 4 = A at *
        go_wp2_with (first | (go_at_call 12; refine (H2'.out _).mono ?_; rintro e w6 ⟨rfl, hb6⟩; replace G := Lib.hid (G.out.next hb6); clear hb6 c0 c1 c2; obtain ⟨c0, c1, c2⟩ := G.out.three) | (go_at_call 15; refine (H6a.out _).mono ?_; rintro e w8 ⟨rfl, hb8⟩; replace G := Lib.hid (G.out.next hb8); clear H6a hb8 c0 c1 c2; obtain ⟨c0, c1, c2⟩ := G.out.three) | (go_at_call 15; refine (H6b.out _).mono ?_; rintro e w7 ⟨rfl, hb7⟩; replace G := Lib.hid (G.out.next hb7); clear hb7 c0 c1 c2) | (go_at_call 14; refine (lives_any _).mono ?_; rintro e w9 ⟨rfl, hb9⟩; replace G := Lib.hid (G.out.next hb9); clear hb9))
        go_ret
        exact ⟨rfl, G.out.below⟩
  · simp only [if_neg his] at h3
    have H3 := Lib.hid h3
    clear h1 h2 h3 h5 h6 h7 h8 hs hok hx his
    unfold hv at *
    go_enter Try.func5, Try.ntmps5
    go_wp2_with (first | (go_at_call_of 8 (Value.int .u64 (x : Int)); refine (H3.out _).mono ?_; rintro e w2 ⟨rfl, hb2⟩; have G1 := Lib.hid (Hs.out.next hb2); have G2 := Lib.hid (G1.out.next (below_new _ (.cells #[.int .i64 0, .int .i64 0, .int .i64 0] 23))); obtain ⟨c0, c1, c2⟩ := G2.out.three; clear hb2) | (go_at_call 6; refine (H1.out _).mono ?_; rintro e w3 ⟨rfl, hb3⟩; replace G2 := Lib.hid (G2.out.next hb3); clear c0 c1 c2; clear hb3) | (go_at_call 8; refine (H5.out _).mono ?_; rintro e w4 ⟨rfl, hb4⟩; replace G2 := Lib.hid (G2.out.next (seq hb4 (below_new _ (.cells #[.int .i64 p, .int .i64 f, .int .i64 o] 23)))); clear hb4; obtain ⟨c0, c1, c2⟩ := G2.out.three))
    have G3 := Lib.hid G2.out
    clear c0 c1 c2 G1 G2 H1 H3 H5 Hs
    go_loopw [13, 14] (fun n i wr => ∃ k : Nat, 1 ≤ k ∧ k ≤ 4 ∧ i = .int .i64 k ∧ n = .int .i64 (accOf p f o k : Nat) ∧ HB p f o w wr) (fun _ i _ => 4 - (intOf i).toNat)
    case atStart => exact ⟨1, by omega, by omega, rfl, rfl, G3.out⟩
    case round =>
      clear G3
      obtain ⟨k, k1, k4, rfl, rfl, hB⟩ := hrel
      obtain ⟨c0, c1, c2⟩ := hB.three
      have G := Lib.hid hB
      clear hB
      by_cases hlt : k ≤ 3
      · have hcn := count_nat p f o k Hok.out k1 hlt
        have hfi := first_nat p f o k Hok.out k1 hlt
        have hnx := acc_next p f o k k1 hlt
        have hki := kind_nat p f o k Hok.out k1 hlt
        obtain ⟨F, hF, hFl⟩ := hfi
        obtain ⟨C, hC, hCl, hC2⟩ := hcn
        rw [← hC2] at hnx
        have hal : accOf p f o k ≤ 1000 := acc_le p f o k Hok.out
        have h7k := fun w => H7.out k w
        have h8k := fun w => H8.out k w
        rw [hC] at h7k
        rw [hF] at h8k
        have hkk : ∀ j : Nat, j < C → kindOf p f o ((F : Int) + (j : Int)) = (k : Int) := fun j hj => by rw [← hF]; exact hki j (by omega)
        have Hkk := Lib.hid hkk
        have H7k := Lib.hid h7k
        have H8k := Lib.hid h8k
        have Hnx := Lib.hid hnx
        clear hC hF hkk h7k h8k hnx hki hC2
        generalize accOf p f o k = A at *
        go_wp2_with (first | (go_at_call 19; refine (H8k.out _).mono ?_; rintro e w6 ⟨rfl, hb6⟩; replace G := Lib.hid (G.out.next hb6); clear hb6 c0 c1 c2; obtain ⟨c0, c1, c2⟩ := G.out.three) | (go_at_call 17; refine (H7k.out _).mono ?_; rintro e w7 ⟨rfl, hb7⟩; replace G := Lib.hid (G.out.next hb7); clear hb7 c0 c1 c2))
        go_loopw [13, 16, 75] (fun n _ i wr => ∃ j : Nat, j ≤ C ∧ i = .int .i64 j ∧ n = .int .i64 ((A + j : Nat) : Int) ∧ HB p f o w wr) (fun _ _ i _ => C - (intOf i).toNat)
        case atStart => exact ⟨0, by omega, rfl, rfl, G.out⟩
        case round =>
          clear G
          obtain ⟨j, jC, rfl, rfl, hB⟩ := hrel
          obtain ⟨c0, c1, c2⟩ := hB.three
          have G := Lib.hid hB
          clear hB
          by_cases hjl : j < C
          · have h6j := fun w => H6.out ((F : Int) + (j : Int)) w
            rw [Hkk.out j hjl] at h6j
            have H6j := Lib.hid h6j
            clear h6j
            go_wp2_with (first | (go_at_call 15; refine (H6j.out _).mono ?_; rintro e w8 ⟨rfl, hb8⟩; replace G := Lib.hid (G.out.next hb8); clear hb8 c0 c1 c2))
            go_roundw
            case rel => exact ⟨j + 1, by omega, by go_num, by go_num, G.out⟩
            case measure => simp [intOf]; omega
          · obtain rfl : C = j := by omega
            go_wp2
            go_roundw
            case rel => exact ⟨k + 1, by omega, by omega, by go_num, by rw [Hnx.out], G.out⟩
            case measure => simp [intOf]; omega
      · obtain rfl : k = 4 := by omega
        have hA : ((accOf p f o 4 : Nat) : Int) = 1 + p + f + o := by simp [accOf]
        have hA1 : ((accOf p f o 4 : Nat) : Int) - 1 = p + f + o := by omega
        have h6a := fun w => H6.out (((accOf p f o 4 : Nat) : Int) - 1) w
        have h6b := fun w => H6.out (-1) w
        rw [show kindOf p f o (((accOf p f o 4 : Nat) : Int) - 1) = 0 from by rw [hA1]; exact kind_end p f o] at h6a
        rw [kind_neg p f o] at h6b
        have H6a := Lib.hid h6a
        have H6b := Lib.hid h6b
        have hbig := acc_le p f o 4 Hok.out
        have HA := Lib.hid hA
        clear h6a h6b hA hA1
        have H2' := Lib.hid (fun w => (HA.out ▸ H2.out w : Calls Try.prog 12 #[.agg #[.int .i64 p, .int .i64 f, .int .i64 o]] w fun e w' => e = .returned (.int .i64 ((accOf p f o 4 : Nat) : Int)) ∧ Below w.heap.size w w'))
        generalize accOf p f o 4 = A at *
        go_wp2_with (first | (go_at_call 12; refine (H2'.out _).mono ?_; rintro e w6 ⟨rfl, hb6⟩; replace G := Lib.hid (G.out.next hb6); clear hb6 c0 c1 c2; obtain ⟨c0, c1, c2⟩ := G.out.three) | (go_at_call 15; refine (H6a.out _).mono ?_; rintro e w8 ⟨rfl, hb8⟩; replace G := Lib.hid (G.out.next hb8); clear H6a hb8 c0 c1 c2; obtain ⟨c0, c1, c2⟩ := G.out.three) | (go_at_call 15; refine (H6b.out _).mono ?_; rintro e w7 ⟨rfl, hb7⟩; replace G := Lib.hid (G.out.next hb7); clear hb7 c0 c1 c2) | (go_at_call 14; refine (lives_any _).mono ?_; rintro e w9 ⟨rfl, hb9⟩; replace G := Lib.hid (G.out.next hb9); clear hb9))
        go_ret
        exact ⟨rfl, G.out.below⟩

theorem back_walk (p f o : Int) (x : Nat) (w : World) (hx : x < 18446744073709551616) :
    Calls Try.prog 5 #[hv p f o, .int .u64 x] w fun e w' => e = .returned (.bool true) ∧ Below w.heap.size w w' := by
  by_cases hok : Ok p f o
  · obtain ⟨p, f, o, rfl, rfl, rfl⟩ := ok_nat hok
    exact back_yes p f o x w hx hok
  · exact back_no p f o x w hx hok
end Go.Proofs.Ytibhlblieeflbaa
