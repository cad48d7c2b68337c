/- The walk of the reference's Free. -/
import Derived.Test.YtkcijlndblbidaaR9Need
import Derived.IntWalk
namespace Go.Proofs.Ytkcijlndblbidaa
open Go.ChangeShapes Go.WideShapes Go.ChangeAt Go.RowKit
set_option linter.unusedVariables false

theorem pagesOf9 (a b : Nat) (ha : a ≤ 64) (hb : b ≤ 64) : pagesOf 64 4 a b = ((a + 3) / 4, b / 4) := by
  unfold pagesOf clampN
  ext <;> simp <;> omega
theorem Rm.page {T : Nat → Prop} {rb room : Nat} {v : VS} {w : World} (h : Rm T rb room v w) : w.cell? ⟨rb, 0, none⟩ = some (.int .i64 64) ∧ w.cell? ⟨rb, 1, none⟩ = some (.int .i64 4) := by
  obtain ⟨aL, cL, es, hR, -⟩ := h
  exact ⟨at_cell hR.head 0 _ rfl, at_cell hR.head 1 _ rfl⟩
theorem freeGo_used (v : VS) (p k : Nat) : (freeGo v p k).2.high = v.high := by
  induction k with
  | zero => rfl
  | succ k ih => unfold freeGo; split <;> exact ih
set_option maxRecDepth 100000 in
set_option maxHeartbeats 4000000 in
theorem free9_run {T0 : Nat → Prop} {rb room : Nat} {v : VS} {w : World} (h : Rm T0 rb room v w) (a b : Nat) (ha : a ≤ 64) (hb : b ≤ 64) :
    Calls Try.prog 117 #[.pointer (some ⟨rb, 0, none⟩), .int .i64 a, .int .i64 b] w fun e w' => e = .returned (.int .i64 (freeR 64 4 v a b).1) ∧ RmDid T0 rb room (freeR 64 4 v a b).2 w w' := by
  have HM := Lib.hid h
  unfold freeR
  rw [pagesOf9 a b ha hb]
  simp only []
  obtain ⟨p0, hp0⟩ : ∃ p0, (a + 3) / 4 = p0 := ⟨_, rfl⟩
  obtain ⟨p1, hp1⟩ : ∃ p1, b / 4 = p1 := ⟨_, rfl⟩
  rw [hp0, hp1]
  have hin : ∀ p : Nat, (a ≤ p * 4 ↔ p0 ≤ p) ∧ (p * 4 + 4 - 1 < b ↔ p < p1) := fun p => by omega
  have hp16 : p1 ≤ 16 := by omega
  have Hin := Lib.hid hin
  clear h hp0 hp1 hin
  go_enter Try.func117, Try.ntmps117
  go_wp2
  go_loopw [7, 8] (fun n i wr => ∃ (p : Nat) (T : Nat → Prop), n = .int .i64 ((freeGo v p0 (min p p1 - p0)).1 : Nat) ∧ i = .int .i64 p ∧ p ≤ 16 ∧ Rm T rb room (freeGo v p0 (min p p1 - p0)).2 wr ∧ Chg T0 w wr ∧ Grew T0 T w) (fun _ i _ => 16 - (intOf i).toNat)
  case atStart => exact ⟨0, T0, by rw [show min 0 p1 - p0 = 0 by omega]; rfl, rfl, by omega, by rw [show min 0 p1 - p0 = 0 by omega]; exact HM.out, Chg.refl _ _, Grew.refl _ _⟩
  case round =>
    clear HM
    obtain ⟨p, T, rfl, rfl, hp, hM, hc, hg⟩ := hrel
    obtain ⟨c0, c1⟩ := hM.page
    have HM := Lib.hid hM
    have Hc := Lib.hid hc
    have Hg := Lib.hid hg
    have hle := freeGo_le v p0 (min p p1 - p0)
    clear hM hc hg
    by_cases hlt : p < 16
    · have k1 : (p : Int) < 16 := by omega
      have k0 : (0 : Int) ≤ p := by omega
      have q1 : decide ((p : Int) < 16) = true := decide_eq_true k1
      have w1 : IntKind.i64.wrap ((p : Int) * 4) = (p : Int) * 4 := IntWalk.i64_in _ (by omega)
      have w2 : IntKind.i64.wrap ((p : Int) * 4 + 4) = (p : Int) * 4 + 4 := IntWalk.i64_in _ (by omega)
      have w3 : IntKind.i64.wrap ((p : Int) * 4 + 4 - 1) = (p : Int) * 4 + 4 - 1 := IntWalk.i64_in _ (by omega)
      have W1 := Lib.hid w1
      have W2 := Lib.hid w2
      have W3 := Lib.hid w3
      have Q1 := Lib.hid q1
      obtain ⟨i1, i2⟩ := Hin.out p
      clear w1 w2 w3
      by_cases hA : a ≤ p * 4
      · have hA1 : decide ((a : Int) ≤ (p : Int) * 4) = true := decide_eq_true (by omega)
        have HA1 := Lib.hid hA1
        have hpp := i1.1 hA
        clear hA1
        by_cases hB : p * 4 + 4 - 1 < b
        · have hB1 : decide ((p : Int) * 4 + 4 - 1 < (b : Int)) = true := decide_eq_true (by omega)
          have HB1 := Lib.hid hB1
          have hpq := i2.1 hB
          have e1 : min p p1 - p0 = p - p0 := by omega
          have e2 : min (p + 1) p1 - p0 = p - p0 + 1 := by omega
          have e3 : p0 + (p - p0) = p := by omega
          rw [e1] at HM hle ⊢
          have hs := show freeGo v p0 (p - p0 + 1) = if v.mp (p0 + (p - p0)) = true then ((freeGo v p0 (p - p0)).1 + 1, unmapV (freeGo v p0 (p - p0)).2 (p0 + (p - p0))) else freeGo v p0 (p - p0) from rfl
          rw [e3] at hs
          have hmp : (freeGo v p0 (p - p0)).2.mp p = v.mp p := by rw [freeGo_mp, if_neg (by omega)]
          have hun := fun W (k : Rm T rb room (freeGo v p0 (p - p0)).2 W) => unmap9_any k (p : Int)
          unfold unmapS unmapE at hun
          simp only [if_neg (Classical.not_not.2 (show 0 ≤ (p : Int) ∧ (p : Int) < (16 : Nat) by omega)), Int.toNat_natCast, hmp] at hun
          clear i1 i2 hA hB hB1 e1 e3
          obtain ⟨cnt, hcnt⟩ : ∃ cnt, (freeGo v p0 (p - p0)).1 = cnt := ⟨_, rfl⟩
          rw [hcnt] at hle hs ⊢
          have hcnt16 : (cnt : Int) ≤ 16 := by omega
          have hcnt0 : (0 : Int) ≤ cnt := by omega
          have Hcnt := Lib.hid hcnt
          have E2 := Lib.hid e2
          clear hcnt e2
          by_cases hm : v.mp p = true
          · rw [if_pos hm] at hs
            simp only [if_pos hm, if_true] at hun
            have Hs := Lib.hid hs
            have Hun := Lib.hid hun
            clear hs hun hm hmp
            go_wp2
            go_quiet (fail)
            have HM2 := Lib.hid (HM.out.grow (Fr.below_drewN' nq wr))
            have Hc2 := Lib.hid (Hc.out.newBelow (Fr.below_drewN' nq wr))
            generalize wr.drewN nq = W at *
            clear c0 c1 q1
            obtain ⟨c0, c1⟩ := HM2.out.page
            have w1 := W1.out
            have w2 := W2.out
            have w3 := W3.out
            have hA1 := HA1.out
            have hB1 := HB1.out
            go_wp2
            go_region_held3 (fun w' => w'.cell? ⟨rb, 1, none⟩ = some (.int .i64 4)) (first | exact c1 | exact d1 | go_keep) ((go_at_call 152; refine (Hun.out _ (HM2.out.grow (below_drew W))).mono ?_; rintro e w5 ⟨rfl, hd⟩; have Hd := Lib.hid (RmDid.then (Chg.of (below_drew W)) (Grew.refl T W) hd); have d1 := (by obtain ⟨T', k1, _⟩ := hd; exact k1.page.2 : w5.cell? ⟨rb, 1, none⟩ = some (.int .i64 4)); clear hd))
            clear w1 w2 w3 hA1 hB1 c0 c1
            go_wp2
            go_roundw
            case rel =>
              obtain ⟨T', k1, k2, k3⟩ := Hd.out
              exact ⟨p + 1, T', by rw [E2.out, Hs.out]; go_num, by go_num, by omega, by rw [E2.out, Hs.out]; exact k1, Hc2.out.then k2 Hg.out, Hg.out.trans k3 Hc2.out.size⟩
            case measure => simp [intOf]; omega
          · rw [if_neg hm] at hs
            simp only [if_neg hm, if_neg (show ¬ (12 : Int) = 0 by decide)] at hun
            have Hs := Lib.hid hs
            have Hun := Lib.hid hun
            clear hs hun hm hmp
            go_wp2
            go_quiet (fail)
            have HM2 := Lib.hid (HM.out.grow (Fr.below_drewN' nq wr))
            have Hc2 := Lib.hid (Hc.out.newBelow (Fr.below_drewN' nq wr))
            generalize wr.drewN nq = W at *
            clear c0 c1 q1
            obtain ⟨c0, c1⟩ := HM2.out.page
            have w1 := W1.out
            have w2 := W2.out
            have w3 := W3.out
            have hA1 := HA1.out
            have hB1 := HB1.out
            go_wp2
            go_region_held3 (fun w' => w'.cell? ⟨rb, 1, none⟩ = some (.int .i64 4)) (first | exact c1 | exact d1 | go_keep) ((go_at_call 152; refine (Hun.out _ (HM2.out.grow (below_drew W))).mono ?_; rintro e w5 ⟨rfl, hd⟩; have Hd := Lib.hid (RmDid.then (Chg.of (below_drew W)) (Grew.refl T W) hd); have d1 := (by obtain ⟨T', k1, _⟩ := hd; exact k1.page.2 : w5.cell? ⟨rb, 1, none⟩ = some (.int .i64 4)); clear hd))
            clear w1 w2 w3 hA1 hB1 c0 c1
            go_wp2
            go_roundw
            case rel =>
              obtain ⟨T', k1, k2, k3⟩ := Hd.out
              exact ⟨p + 1, T', by rw [E2.out, Hs.out, Hcnt.out], by go_num, by omega, by rw [E2.out, Hs.out]; exact k1, Hc2.out.then k2 Hg.out, Hg.out.trans k3 Hc2.out.size⟩
            case measure => simp [intOf]; omega
        · have hB1 : decide ((p : Int) * 4 + 4 - 1 < (b : Int)) = false := decide_eq_false (by omega)
          have HB1 := Lib.hid hB1
          have hpq : ¬ p < p1 := fun e => hB (i2.2 e)
          have e2 : min (p + 1) p1 - p0 = min p p1 - p0 := by omega
          have E2 := Lib.hid e2
          clear i1 i2 hA hB hB1 e2
          go_wp2
          go_quiet (fail)
          have HM2 := Lib.hid (HM.out.grow (Fr.below_drewN' nq wr))
          have Hc2 := Lib.hid (Hc.out.newBelow (Fr.below_drewN' nq wr))
          generalize wr.drewN nq = W at *
          clear c0 c1 q1
          obtain ⟨c0, c1⟩ := HM2.out.page
          have w1 := W1.out
          have w2 := W2.out
          have w3 := W3.out
          have hA1 := HA1.out
          have hB1 := HB1.out
          go_wp2
          go_quiet (fail)
          clear w1 w2 w3 hA1 hB1 c0 c1
          go_wp2
          go_roundw
          case rel => exact ⟨p + 1, T, by rw [E2.out], by go_num, by omega, by rw [E2.out]; exact HM2.out.grow (Fr.below_drewN' _ _), Hc2.out.newBelow (Fr.below_drewN' _ _), Hg.out⟩
          case measure => simp [intOf]; omega
      · have hA1 : decide ((a : Int) ≤ (p : Int) * 4) = false := decide_eq_false (by omega)
        have HA1 := Lib.hid hA1
        have hpp : ¬ p0 ≤ p := fun e => hA (i1.2 e)
        have e2 : min (p + 1) p1 - p0 = min p p1 - p0 := by omega
        have E2 := Lib.hid e2
        clear i1 i2 hA hA1 e2
        go_wp2
        go_quiet (fail)
        have HM2 := Lib.hid (HM.out.grow (Fr.below_drewN' nq wr))
        have Hc2 := Lib.hid (Hc.out.newBelow (Fr.below_drewN' nq wr))
        generalize wr.drewN nq = W at *
        clear c0 c1 q1
        obtain ⟨c0, c1⟩ := HM2.out.page
        have w1 := W1.out
        have w2 := W2.out
        have w3 := W3.out
        have hA1 := HA1.out
        go_wp2
        go_quiet (fail)
        clear w1 w2 w3 hA1 c0 c1
        go_wp2
        go_roundw
        case rel => exact ⟨p + 1, T, by rw [E2.out], by go_num, by omega, by rw [E2.out]; exact HM2.out.grow (Fr.below_drewN' _ _), Hc2.out.newBelow (Fr.below_drewN' _ _), Hg.out⟩
        case measure => simp [intOf]; omega
    · obtain rfl : p = 16 := by omega
      have e1 : min 16 p1 - p0 = p1 - p0 := by omega
      rw [e1] at HM ⊢
      have q1 : decide ((16 : Int) < 16) = false := by decide
      have hcast : ((16 : Nat) : Int) = 16 := rfl
      go_wp2
      go_quiet (fail)
      go_wp2
      go_ret
      exact ⟨rfl, T, HM.out.grow (Fr.below_drewN' _ _), Hc.out.newBelow (Fr.below_drewN' _ _), Hg.out⟩
end Go.Proofs.Ytkcijlndblbidaa
