/- The walks of the functions that compare two rows of numbers. Printed by wip/tools/geneq.py. -/
import Derived.Test.YtplkogjnmjjjgaaGTrim
namespace Go.Proofs.Ytplkogjnmjjjgaa
open Go.ChangeShapes Go.WideShapes Go.ChangeAt Go.RowKit Go.Maps
set_option linter.unusedVariables false
set_option linter.unusedSimpArgs false

theorem getD_ext {xs ys : List Int} (hl : xs.length = ys.length) (h : ∀ j, j < xs.length → xs.getD j 0 = ys.getD j 0) : xs = ys := by
  refine List.ext_getElem hl fun j h1 h2 => ?_
  have := h j h1
  rwa [List.getD_eq_getElem?_getD, List.getD_eq_getElem?_getD, List.getElem?_eq_getElem h1, List.getElem?_eq_getElem h2] at this
set_option maxRecDepth 100000 in
theorem eqi_any {w : World} {a b : Option Addr} {xs ys : List Int} (ca cb : Nat) (ha : IntRow .i64 w a xs) (hb : IntRow .i64 w b ys) :
    Calls Try.prog 54 #[.slice a xs.length ca, .slice b ys.length cb] w fun e w' => e = .returned (.bool (decide (xs = ys))) ∧ Below w.heap.size w w' := by
  have hm := ha.many
  have hm2 := hb.many
  unfold maxLen at hm hm2
  have l1 : (xs.length : Int) ≤ 9223372036854775807 := by omega
  have HA := Lib.hid ha
  have HB := Lib.hid hb
  clear ha hb hm hm2
  obtain ⟨v, hv⟩ : ∃ v, decide (xs = ys) = v := ⟨_, rfl⟩
  rw [hv]
  have HV := Lib.hid hv
  clear hv
  have hbl := Lib.hid (Below.refl w.heap.size w)
  by_cases hl : xs.length = ys.length
  · have hl2 : ((xs.length : Int) == ys.length) = true := by simp [hl]
    have Hl := Lib.hid hl
    clear hl
    go_enter Try.func54, Try.ntmps54
    go_wp2_with (fail)
    go_loopw [13] (fun iv wr => ∃ i : Nat, iv = .int .i64 i ∧ i ≤ xs.length ∧ Below w.heap.size w wr ∧ ∀ j, j < i → xs.getD j 0 = ys.getD j 0) (fun iv _ => xs.length - (intOf iv).toNat)
    case atStart => exact ⟨0, rfl, by omega, hbl.out, fun j hj => by omega⟩
    case round =>
      clear hbl
      obtain ⟨i, rfl, hi, hb, hpre⟩ := hrel
      have Hpre := Lib.hid hpre
      clear hpre
      by_cases hlt : i < xs.length
      · have hlt2 : i < ys.length := by rw [← Hl.out]; exact hlt
        obtain ⟨b1, o1, e1, c1⟩ := (HA.out.below hb).cell
        obtain ⟨b2, o2, e2, c2⟩ := (HB.out.below hb).cell
        obtain rfl : a = some ⟨b1, o1, none⟩ := by
          rcases e1 with e | e
          · rw [e] at hlt; cases hlt
          · exact e
        obtain rfl : b = some ⟨b2, o2, none⟩ := by
          rcases e2 with e | e
          · rw [e] at hlt2; cases hlt2
          · exact e
        have d1 := c1 i hlt
        have d2 := c2 i hlt2
        have k1 : (i : Int) < xs.length := by omega
        have k2 : (0 : Int) ≤ i := by omega
        have k3 : ((i : Int)).toNat = i := by omega
        have k4 : (i : Int) < ys.length := by omega
        have HBL := Lib.hid (fun nq => hb.trans ((below_drewN' nq wr).mono hb.size))
        by_cases he : xs.getD i 0 = ys.getD i 0
        · have Hn := Lib.hid (fun j (hj : j < i + 1) => (show xs.getD j 0 = ys.getD j 0 by
            rcases Nat.lt_or_ge j i with h2 | h2
            · exact Hpre.out j h2
            · rwa [show j = i by omega]))
          rw [he] at d1
          clear he c1 c2 e1 e2 hb
          generalize ys.getD i 0 = z at d1 d2
          go_wp2_with (fail)
          go_quiet (fail)
          go_wp2_with (fail)
          go_roundw
          case rel => exact ⟨i + 1, by go_num, by omega, HBL.out nq, Hn.out⟩
          case measure => simp [intOf]; omega
        · have Hne := Lib.hid (show xs ≠ ys from fun e => he (by rw [e]))
          have hq : (xs.getD i 0 == ys.getD i 0) = false := by rw [beq_eq_false_iff_ne]; exact he
          clear he c1 c2 e1 e2 hb
          generalize xs.getD i 0 = z1 at d1 hq
          generalize ys.getD i 0 = z2 at d2 hq
          go_wp2_with (fail)
          go_quiet (fail)
          go_wp2_with (fail)
          go_ret
          refine ⟨?_, HBL.out nq⟩
          rw [← HV.out, decide_eq_false Hne.out]; rfl
      · obtain rfl : i = xs.length := by omega
        have k1 : ¬ (xs.length : Int) < xs.length := by omega
        go_wp2_with (fail)
        go_ret
        refine ⟨?_, hb⟩
        rw [← HV.out, decide_eq_true (getD_ext Hl.out Hpre.out)]; rfl
  · have hl2 : ((xs.length : Int) == ys.length) = false := by
      rw [beq_eq_false_iff_ne]
      omega
    have Hne := Lib.hid (show xs ≠ ys from fun e => hl (by rw [e]))
    clear hl
    go_enter Try.func54, Try.ntmps54
    go_wp2_with (fail)
    go_ret
    refine ⟨?_, hbl.out⟩
    rw [← HV.out, decide_eq_false Hne.out]; rfl
set_option maxRecDepth 100000 in
theorem equ_any {w : World} {a b : Option Addr} {xs ys : List Int} (ca cb : Nat) (ha : IntRow .u64 w a xs) (hb : IntRow .u64 w b ys) :
    Calls Try.prog 81 #[.slice a xs.length ca, .slice b ys.length cb] w fun e w' => e = .returned (.bool (decide (xs = ys))) ∧ Below w.heap.size w w' := by
  have hm := ha.many
  have hm2 := hb.many
  unfold maxLen at hm hm2
  have l1 : (xs.length : Int) ≤ 9223372036854775807 := by omega
  have HA := Lib.hid ha
  have HB := Lib.hid hb
  clear ha hb hm hm2
  obtain ⟨v, hv⟩ : ∃ v, decide (xs = ys) = v := ⟨_, rfl⟩
  rw [hv]
  have HV := Lib.hid hv
  clear hv
  have hbl := Lib.hid (Below.refl w.heap.size w)
  by_cases hl : xs.length = ys.length
  · have hl2 : ((xs.length : Int) == ys.length) = true := by simp [hl]
    have Hl := Lib.hid hl
    clear hl
    go_enter Try.func81, Try.ntmps81
    go_wp2_with (fail)
    go_loopw [13] (fun iv wr => ∃ i : Nat, iv = .int .i64 i ∧ i ≤ xs.length ∧ Below w.heap.size w wr ∧ ∀ j, j < i → xs.getD j 0 = ys.getD j 0) (fun iv _ => xs.length - (intOf iv).toNat)
    case atStart => exact ⟨0, rfl, by omega, hbl.out, fun j hj => by omega⟩
    case round =>
      clear hbl
      obtain ⟨i, rfl, hi, hb, hpre⟩ := hrel
      have Hpre := Lib.hid hpre
      clear hpre
      by_cases hlt : i < xs.length
      · have hlt2 : i < ys.length := by rw [← Hl.out]; exact hlt
        obtain ⟨b1, o1, e1, c1⟩ := (HA.out.below hb).cell
        obtain ⟨b2, o2, e2, c2⟩ := (HB.out.below hb).cell
        obtain rfl : a = some ⟨b1, o1, none⟩ := by
          rcases e1 with e | e
          · rw [e] at hlt; cases hlt
          · exact e
        obtain rfl : b = some ⟨b2, o2, none⟩ := by
          rcases e2 with e | e
          · rw [e] at hlt2; cases hlt2
          · exact e
        have d1 := c1 i hlt
        have d2 := c2 i hlt2
        have k1 : (i : Int) < xs.length := by omega
        have k2 : (0 : Int) ≤ i := by omega
        have k3 : ((i : Int)).toNat = i := by omega
        have k4 : (i : Int) < ys.length := by omega
        have HBL := Lib.hid (fun nq => hb.trans ((below_drewN' nq wr).mono hb.size))
        by_cases he : xs.getD i 0 = ys.getD i 0
        · have Hn := Lib.hid (fun j (hj : j < i + 1) => (show xs.getD j 0 = ys.getD j 0 by
            rcases Nat.lt_or_ge j i with h2 | h2
            · exact Hpre.out j h2
            · rwa [show j = i by omega]))
          rw [he] at d1
          clear he c1 c2 e1 e2 hb
          generalize ys.getD i 0 = z at d1 d2
          go_wp2_with (fail)
          go_quiet (fail)
          go_wp2_with (fail)
          go_roundw
          case rel => exact ⟨i + 1, by go_num, by omega, HBL.out nq, Hn.out⟩
          case measure => simp [intOf]; omega
        · have Hne := Lib.hid (show xs ≠ ys from fun e => he (by rw [e]))
          have hq : (xs.getD i 0 == ys.getD i 0) = false := by rw [beq_eq_false_iff_ne]; exact he
          clear he c1 c2 e1 e2 hb
          generalize xs.getD i 0 = z1 at d1 hq
          generalize ys.getD i 0 = z2 at d2 hq
          go_wp2_with (fail)
          go_quiet (fail)
          go_wp2_with (fail)
          go_ret
          refine ⟨?_, HBL.out nq⟩
          rw [← HV.out, decide_eq_false Hne.out]; rfl
      · obtain rfl : i = xs.length := by omega
        have k1 : ¬ (xs.length : Int) < xs.length := by omega
        go_wp2_with (fail)
        go_ret
        refine ⟨?_, hb⟩
        rw [← HV.out, decide_eq_true (getD_ext Hl.out Hpre.out)]; rfl
  · have hl2 : ((xs.length : Int) == ys.length) = false := by
      rw [beq_eq_false_iff_ne]
      omega
    have Hne := Lib.hid (show xs ≠ ys from fun e => hl (by rw [e]))
    clear hl
    go_enter Try.func81, Try.ntmps81
    go_wp2_with (fail)
    go_ret
    refine ⟨?_, hbl.out⟩
    rw [← HV.out, decide_eq_false Hne.out]; rfl
set_option maxRecDepth 100000 in
theorem rints_any {w : World} {a b : Option Addr} {xs ys : List Int} (ca cb : Nat) (ha : IntRow .i64 w a xs) (hb : IntRow .i64 w b ys) :
    Calls Try.prog 52 #[.slice a xs.length ca, .slice b ys.length cb] w fun e w' => e = .returned (.bool (decide (xs = ys))) ∧ Below w.heap.size w w' := by
  have hm := ha.many
  have hm2 := hb.many
  unfold maxLen at hm hm2
  have l1 : (xs.length : Int) ≤ 9223372036854775807 := by omega
  have HA := Lib.hid ha
  have HB := Lib.hid hb
  clear ha hb hm hm2
  obtain ⟨v, hv⟩ : ∃ v, decide (xs = ys) = v := ⟨_, rfl⟩
  rw [hv]
  have HV := Lib.hid hv
  clear hv
  have hbl := Lib.hid (Below.refl w.heap.size w)
  by_cases hl : xs.length = ys.length
  · have hl2 : ((xs.length : Int) == ys.length) = true := by simp [hl]
    have Hl := Lib.hid hl
    clear hl
    go_enter Try.func52, Try.ntmps52
    go_wp2_with (fail)
    go_loopw [5] (fun iv wr => ∃ i : Nat, iv = .int .i64 i ∧ i ≤ xs.length ∧ Below w.heap.size w wr ∧ ∀ j, j < i → xs.getD j 0 = ys.getD j 0) (fun iv _ => xs.length - (intOf iv).toNat)
    case atStart => exact ⟨0, rfl, by omega, hbl.out, fun j hj => by omega⟩
    case round =>
      clear hbl
      obtain ⟨i, rfl, hi, hb, hpre⟩ := hrel
      have Hpre := Lib.hid hpre
      clear hpre
      by_cases hlt : i < xs.length
      · have hlt2 : i < ys.length := by rw [← Hl.out]; exact hlt
        obtain ⟨b1, o1, e1, c1⟩ := (HA.out.below hb).cell
        obtain ⟨b2, o2, e2, c2⟩ := (HB.out.below hb).cell
        obtain rfl : a = some ⟨b1, o1, none⟩ := by
          rcases e1 with e | e
          · rw [e] at hlt; cases hlt
          · exact e
        obtain rfl : b = some ⟨b2, o2, none⟩ := by
          rcases e2 with e | e
          · rw [e] at hlt2; cases hlt2
          · exact e
        have d1 := c1 i hlt
        have d2 := c2 i hlt2
        have k1 : (i : Int) < xs.length := by omega
        have k2 : (0 : Int) ≤ i := by omega
        have k3 : ((i : Int)).toNat = i := by omega
        have k4 : (i : Int) < ys.length := by omega
        have HBL := Lib.hid (fun nq => hb.trans ((below_drewN' nq wr).mono hb.size))
        by_cases he : xs.getD i 0 = ys.getD i 0
        · have Hn := Lib.hid (fun j (hj : j < i + 1) => (show xs.getD j 0 = ys.getD j 0 by
            rcases Nat.lt_or_ge j i with h2 | h2
            · exact Hpre.out j h2
            · rwa [show j = i by omega]))
          rw [he] at d1
          clear he c1 c2 e1 e2 hb
          generalize ys.getD i 0 = z at d1 d2
          go_wp2_with (fail)
          go_quiet (fail)
          go_wp2_with (fail)
          go_roundw
          case rel => exact ⟨i + 1, by go_num, by omega, HBL.out nq, Hn.out⟩
          case measure => simp [intOf]; omega
        · have Hne := Lib.hid (show xs ≠ ys from fun e => he (by rw [e]))
          have hq : (xs.getD i 0 == ys.getD i 0) = false := by rw [beq_eq_false_iff_ne]; exact he
          clear he c1 c2 e1 e2 hb
          generalize xs.getD i 0 = z1 at d1 hq
          generalize ys.getD i 0 = z2 at d2 hq
          go_wp2_with (fail)
          go_quiet (fail)
          go_wp2_with (fail)
          go_ret
          refine ⟨?_, HBL.out nq⟩
          rw [← HV.out, decide_eq_false Hne.out]; rfl
      · obtain rfl : i = xs.length := by omega
        have k1 : ¬ (xs.length : Int) < xs.length := by omega
        go_wp2_with (fail)
        go_ret
        refine ⟨?_, hb⟩
        rw [← HV.out, decide_eq_true (getD_ext Hl.out Hpre.out)]; rfl
  · have hl2 : ((xs.length : Int) == ys.length) = false := by
      rw [beq_eq_false_iff_ne]
      omega
    have Hne := Lib.hid (show xs ≠ ys from fun e => hl (by rw [e]))
    clear hl
    go_enter Try.func52, Try.ntmps52
    go_wp2_with (fail)
    go_ret
    refine ⟨?_, hbl.out⟩
    rw [← HV.out, decide_eq_false Hne.out]; rfl
set_option maxRecDepth 100000 in
theorem rwords_any {w : World} {a b : Option Addr} {xs ys : List Int} (ca cb : Nat) (ha : IntRow .u64 w a xs) (hb : IntRow .u64 w b ys) :
    Calls Try.prog 53 #[.slice a xs.length ca, .slice b ys.length cb] w fun e w' => e = .returned (.bool (decide (xs = ys))) ∧ Below w.heap.size w w' := by
  have hm := ha.many
  have hm2 := hb.many
  unfold maxLen at hm hm2
  have l1 : (xs.length : Int) ≤ 9223372036854775807 := by omega
  have HA := Lib.hid ha
  have HB := Lib.hid hb
  clear ha hb hm hm2
  obtain ⟨v, hv⟩ : ∃ v, decide (xs = ys) = v := ⟨_, rfl⟩
  rw [hv]
  have HV := Lib.hid hv
  clear hv
  have hbl := Lib.hid (Below.refl w.heap.size w)
  by_cases hl : xs.length = ys.length
  · have hl2 : ((xs.length : Int) == ys.length) = true := by simp [hl]
    have Hl := Lib.hid hl
    clear hl
    go_enter Try.func53, Try.ntmps53
    go_wp2_with (fail)
    go_loopw [5] (fun iv wr => ∃ i : Nat, iv = .int .i64 i ∧ i ≤ xs.length ∧ Below w.heap.size w wr ∧ ∀ j, j < i → xs.getD j 0 = ys.getD j 0) (fun iv _ => xs.length - (intOf iv).toNat)
    case atStart => exact ⟨0, rfl, by omega, hbl.out, fun j hj => by omega⟩
    case round =>
      clear hbl
      obtain ⟨i, rfl, hi, hb, hpre⟩ := hrel
      have Hpre := Lib.hid hpre
      clear hpre
      by_cases hlt : i < xs.length
      · have hlt2 : i < ys.length := by rw [← Hl.out]; exact hlt
        obtain ⟨b1, o1, e1, c1⟩ := (HA.out.below hb).cell
        obtain ⟨b2, o2, e2, c2⟩ := (HB.out.below hb).cell
        obtain rfl : a = some ⟨b1, o1, none⟩ := by
          rcases e1 with e | e
          · rw [e] at hlt; cases hlt
          · exact e
        obtain rfl : b = some ⟨b2, o2, none⟩ := by
          rcases e2 with e | e
          · rw [e] at hlt2; cases hlt2
          · exact e
        have d1 := c1 i hlt
        have d2 := c2 i hlt2
        have k1 : (i : Int) < xs.length := by omega
        have k2 : (0 : Int) ≤ i := by omega
        have k3 : ((i : Int)).toNat = i := by omega
        have k4 : (i : Int) < ys.length := by omega
        have HBL := Lib.hid (fun nq => hb.trans ((below_drewN' nq wr).mono hb.size))
        by_cases he : xs.getD i 0 = ys.getD i 0
        · have Hn := Lib.hid (fun j (hj : j < i + 1) => (show xs.getD j 0 = ys.getD j 0 by
            rcases Nat.lt_or_ge j i with h2 | h2
            · exact Hpre.out j h2
            · rwa [show j = i by omega]))
          rw [he] at d1
          clear he c1 c2 e1 e2 hb
          generalize ys.getD i 0 = z at d1 d2
          go_wp2_with (fail)
          go_quiet (fail)
          go_wp2_with (fail)
          go_roundw
          case rel => exact ⟨i + 1, by go_num, by omega, HBL.out nq, Hn.out⟩
          case measure => simp [intOf]; omega
        · have Hne := Lib.hid (show xs ≠ ys from fun e => he (by rw [e]))
          have hq : (xs.getD i 0 == ys.getD i 0) = false := by rw [beq_eq_false_iff_ne]; exact he
          clear he c1 c2 e1 e2 hb
          generalize xs.getD i 0 = z1 at d1 hq
          generalize ys.getD i 0 = z2 at d2 hq
          go_wp2_with (fail)
          go_quiet (fail)
          go_wp2_with (fail)
          go_ret
          refine ⟨?_, HBL.out nq⟩
          rw [← HV.out, decide_eq_false Hne.out]; rfl
      · obtain rfl : i = xs.length := by omega
        have k1 : ¬ (xs.length : Int) < xs.length := by omega
        go_wp2_with (fail)
        go_ret
        refine ⟨?_, hb⟩
        rw [← HV.out, decide_eq_true (getD_ext Hl.out Hpre.out)]; rfl
  · have hl2 : ((xs.length : Int) == ys.length) = false := by
      rw [beq_eq_false_iff_ne]
      omega
    have Hne := Lib.hid (show xs ≠ ys from fun e => hl (by rw [e]))
    clear hl
    go_enter Try.func53, Try.ntmps53
    go_wp2_with (fail)
    go_ret
    refine ⟨?_, hbl.out⟩
    rw [← HV.out, decide_eq_false Hne.out]; rfl
set_option maxRecDepth 100000 in
theorem same17_any {w : World} {a b : Option Addr} {xs ys : List Int} (ca cb : Nat) (ha : IntRow .i64 w a xs) (hb : IntRow .i64 w b ys) :
    Calls Try.prog 20 #[.slice a xs.length ca, .slice b ys.length cb] w fun e w' => e = .returned (.bool (decide (xs = ys))) ∧ Below w.heap.size w w' := by
  have hm := ha.many
  have hm2 := hb.many
  unfold maxLen at hm hm2
  have l1 : (xs.length : Int) ≤ 9223372036854775807 := by omega
  have HA := Lib.hid ha
  have HB := Lib.hid hb
  clear ha hb hm hm2
  obtain ⟨v, hv⟩ : ∃ v, decide (xs = ys) = v := ⟨_, rfl⟩
  rw [hv]
  have HV := Lib.hid hv
  clear hv
  have hbl := Lib.hid (Below.refl w.heap.size w)
  by_cases hl : xs.length = ys.length
  · have hl2 : ((xs.length : Int) == ys.length) = true := by simp [hl]
    have Hl := Lib.hid hl
    clear hl
    go_enter Try.func20, Try.ntmps20
    go_wp2_with (fail)
    go_loopw [5] (fun iv wr => ∃ i : Nat, iv = .int .i64 i ∧ i ≤ xs.length ∧ Below w.heap.size w wr ∧ ∀ j, j < i → xs.getD j 0 = ys.getD j 0) (fun iv _ => xs.length - (intOf iv).toNat)
    case atStart => exact ⟨0, rfl, by omega, hbl.out, fun j hj => by omega⟩
    case round =>
      clear hbl
      obtain ⟨i, rfl, hi, hb, hpre⟩ := hrel
      have Hpre := Lib.hid hpre
      clear hpre
      by_cases hlt : i < xs.length
      · have hlt2 : i < ys.length := by rw [← Hl.out]; exact hlt
        obtain ⟨b1, o1, e1, c1⟩ := (HA.out.below hb).cell
        obtain ⟨b2, o2, e2, c2⟩ := (HB.out.below hb).cell
        obtain rfl : a = some ⟨b1, o1, none⟩ := by
          rcases e1 with e | e
          · rw [e] at hlt; cases hlt
          · exact e
        obtain rfl : b = some ⟨b2, o2, none⟩ := by
          rcases e2 with e | e
          · rw [e] at hlt2; cases hlt2
          · exact e
        have d1 := c1 i hlt
        have d2 := c2 i hlt2
        have k1 : (i : Int) < xs.length := by omega
        have k2 : (0 : Int) ≤ i := by omega
        have k3 : ((i : Int)).toNat = i := by omega
        have k4 : (i : Int) < ys.length := by omega
        have HBL := Lib.hid (fun nq => hb.trans ((below_drewN' nq wr).mono hb.size))
        by_cases he : xs.getD i 0 = ys.getD i 0
        · have Hn := Lib.hid (fun j (hj : j < i + 1) => (show xs.getD j 0 = ys.getD j 0 by
            rcases Nat.lt_or_ge j i with h2 | h2
            · exact Hpre.out j h2
            · rwa [show j = i by omega]))
          rw [he] at d1
          clear he c1 c2 e1 e2 hb
          generalize ys.getD i 0 = z at d1 d2
          go_wp2_with (fail)
          go_quiet (fail)
          go_wp2_with (fail)
          go_roundw
          case rel => exact ⟨i + 1, by go_num, by omega, HBL.out nq, Hn.out⟩
          case measure => simp [intOf]; omega
        · have Hne := Lib.hid (show xs ≠ ys from fun e => he (by rw [e]))
          have hq : (xs.getD i 0 == ys.getD i 0) = false := by rw [beq_eq_false_iff_ne]; exact he
          clear he c1 c2 e1 e2 hb
          generalize xs.getD i 0 = z1 at d1 hq
          generalize ys.getD i 0 = z2 at d2 hq
          go_wp2_with (fail)
          go_quiet (fail)
          go_wp2_with (fail)
          go_ret
          refine ⟨?_, HBL.out nq⟩
          rw [← HV.out, decide_eq_false Hne.out]; rfl
      · obtain rfl : i = xs.length := by omega
        have k1 : ¬ (xs.length : Int) < xs.length := by omega
        go_wp2_with (fail)
        go_ret
        refine ⟨?_, hb⟩
        rw [← HV.out, decide_eq_true (getD_ext Hl.out Hpre.out)]; rfl
  · have hl2 : ((xs.length : Int) == ys.length) = false := by
      rw [beq_eq_false_iff_ne]
      omega
    have Hne := Lib.hid (show xs ≠ ys from fun e => hl (by rw [e]))
    clear hl
    go_enter Try.func20, Try.ntmps20
    go_wp2_with (fail)
    go_ret
    refine ⟨?_, hbl.out⟩
    rw [← HV.out, decide_eq_false Hne.out]; rfl
end Go.Proofs.Ytplkogjnmjjjgaa
