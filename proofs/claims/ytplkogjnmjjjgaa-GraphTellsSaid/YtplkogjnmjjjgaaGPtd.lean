/- The walks of the program's Pointed: a closure that counts into a row of the call's own. -/
import Derived.Test.YtplkogjnmjjjgaaGRPtd
namespace Go.Proofs.Ytplkogjnmjjjgaa
open Go.ChangeShapes Go.WideShapes Go.ChangeAt Go.RowKit Go.Maps
set_option linter.unusedVariables false
set_option linter.unusedSimpArgs false

/-- counts, and what a row adds to them -/
def addC (c zs : List Int) : List Int := (List.range c.length).map fun (j : Nat) => c.getD j 0 + (zs.count (j : Int) : Int)
theorem addC_len (c zs : List Int) : (addC c zs).length = c.length := by simp [addC]
theorem addC_at {c zs : List Int} {j : Nat} (h : j < c.length) : (addC c zs).getD j 0 = c.getD j 0 + (zs.count (j : Int) : Int) := by
  unfold addC
  rw [List.getD_eq_getElem?_getD, List.getElem?_map, List.getElem?_range h]
  rfl
theorem addC_nil (c : List Int) : addC c [] = c := by
  refine List.ext_getElem (by simp [addC]) fun j h1 h2 => ?_
  have := addC_at (zs := []) h2
  rw [List.getD_eq_getElem?_getD, List.getElem?_eq_getElem h1, List.getD_eq_getElem?_getD, List.getElem?_eq_getElem h2] at this
  simpa using this
theorem addC_neg {c zs : List Int} {z : Int} (h : z < 0) : addC c (zs ++ [z]) = addC c zs := by
  unfold addC
  refine List.map_congr_left fun j _ => ?_
  rw [List.count_append, List.count_singleton, if_neg (by rw [beq_iff_eq]; omega)]
  rfl
theorem addC_pos {c zs : List Int} {q : Nat} (h : q < c.length) : addC c (zs ++ [(q : Int)]) = (addC c zs).set q ((addC c zs).getD q 0 + 1) := by
  refine List.ext_getElem (by simp [addC]) fun j h1 h2 => ?_
  have hj : j < c.length := by simpa [addC] using h1
  have e1 := addC_at (zs := zs ++ [(q : Int)]) hj
  rw [List.getD_eq_getElem?_getD, List.getElem?_eq_getElem h1, Option.getD_some] at e1
  rw [e1, List.getElem_set]
  by_cases e : q = j
  · subst e
    rw [if_pos rfl, addC_at hj, List.count_append, List.count_singleton, if_pos (by simp)]
    omega
  · rw [if_neg e, List.count_append, List.count_singleton, if_neg (by rw [beq_iff_eq]; omega)]
    have e2 := addC_at (zs := zs) hj
    rw [List.getD_eq_getElem?_getD, List.getElem?_eq_getElem (by simpa [addC] using hj), Option.getD_some] at e2
    rw [e2]
    omega
def rowC (c : List Int) : Obj := .cells (icI c).toArray 3 (0, 0)
theorem rowC_set (c : List Int) (j : Nat) (z : Int) : (icI c).toArray.setIfInBounds j (.int .i64 z) = (icI (c.set j z)).toArray := by
  unfold icI
  rw [List.setIfInBounds_toArray, List.map_set]
set_option maxRecDepth 100000 in
set_option maxHeartbeats 1000000 in
theorem count_any {W0 w : World} {K : List (Nat × Obj)} {bR bo N : Nat} {c : List Int} (h : FKN W0 ((bR, rowC c) :: (bo, .cells #[.slice (some ⟨bR, 0, none⟩) N N] 22 (0, 0)) :: K) w) (hc : c.length = N) (hN : N ≤ 100) {a : Option Addr} {zs : List Int} (cap : Nat) (hz : IntRow .i64 W0 a zs) (hm : zs.length ≤ 1500) (hin : ∀ z ∈ zs, inr N z = true) (hB : ∀ j, j < N → 0 ≤ c.getD j 0 ∧ c.getD j 0 ≤ 1000000) :
    Calls Try.prog 43 #[.slice a zs.length cap, .pointer (some ⟨bo, 0, none⟩)] w fun e w' => e = .returned (.tuple #[]) ∧ FKN W0 ((bR, rowC (addC c zs)) :: (bo, .cells #[.slice (some ⟨bR, 0, none⟩) N N] 22 (0, 0)) :: K) w' := by
  have l1 : (zs.length : Int) ≤ 1500 := by omega
  have l2 : (N : Int) ≤ 100 := by omega
  have HZ := Lib.hid hz
  have Hin := Lib.hid hin
  have HB := Lib.hid hB
  have Hc := Lib.hid hc
  have H0 := Lib.hid h
  clear h hz hin hB hc
  go_enter Try.func43, Try.ntmps43
  go_wp2_with (fail)
  go_loopw [7] (fun iv wr => ∃ t : Nat, iv = .int .i64 t ∧ t ≤ zs.length ∧ FKN W0 ((bR, rowC (addC c (zs.take t))) :: (bo, .cells #[.slice (some ⟨bR, 0, none⟩) N N] 22 (0, 0)) :: K) wr) (fun iv _ => zs.length - (intOf iv).toNat)
  case atStart => exact ⟨0, rfl, by omega, by rw [List.take_zero, addC_nil]; exact H0.out⟩
  case round =>
    clear H0
    obtain ⟨t, rfl, ht, hF⟩ := hrel
    have o0 := at_cell (hF.1.block (List.mem_cons_of_mem _ (List.mem_cons_self ..))) 0 _ rfl
    by_cases hlt : t < zs.length
    · obtain ⟨b, off, ha, hcc⟩ := (HZ.out.below hF.below).cell
      obtain rfl : a = some ⟨b, off, none⟩ := by
        rcases ha with e | e
        · rw [e] at hlt; cases hlt
        · exact e
      have q0 := hcc t hlt
      have htk := take_succ_getD 0 hlt
      have hir := Hin.out _ (getD_mem 0 hlt)
      generalize zs.getD t 0 = z at *
      have k1 : (t : Int) < zs.length := by omega
      have k2 : (0 : Int) ≤ t := by omega
      have k3 : ((t : Int)).toNat = t := by omega
      by_cases hneg : z < 0
      · have d1 : decide ((0 : Int) ≤ z) = false := decide_eq_false (by omega)
        have HF := Lib.hid hF
        have Htk := Lib.hid (show addC c (zs.take (t + 1)) = addC c (zs.take t) by rw [htk, addC_neg hneg])
        clear hF hcc ha htk hir hneg
        go_wp2_with (fail)
        go_roundw
        case rel => exact ⟨t + 1, by go_num, by omega, by rw [Htk.out]; exact HF.out⟩
        case measure => simp [intOf]; omega
      · obtain ⟨q, rfl⟩ : ∃ q : Nat, z = q := ⟨z.toNat, by omega⟩
        have d1 : decide ((0 : Int) ≤ (q : Int)) = true := decide_eq_true (by omega)
        unfold inr at hir
        have hir := of_decide_eq_true hir
        have hqN : q < N := by omega
        have hq2 : q < (addC c (zs.take t)).length := by rw [addC_len, Hc.out]; exact hqN
        have hqb := hF.1.block (List.mem_cons_self ..)
        have hval := addC_at (c := c) (zs := zs.take t) (j := q) (by rw [Hc.out]; exact hqN)
        have hbb := HB.out q hqN
        have hcl := count_le zs (q : Int) t
        have hcell : wr.cell? ⟨bR, q, none⟩ = some (.int .i64 ((addC c (zs.take t)).getD q 0)) := at_cell hqb q _ (by simpa using icI_get _ q hq2)
        have hfr : wr.frozen? ⟨bR, q, none⟩ = false := at_free hqb q
        have hset := hF.set q (.int .i64 ((addC c (zs.take t)).getD q 0 + 1))
        rw [rowC_set] at hset
        have HSET := Lib.hid hset
        have Htk := Lib.hid (show addC c (zs.take (t + 1)) = (addC c (zs.take t)).set q ((addC c (zs.take t)).getD q 0 + 1) by rw [htk, addC_pos (by rw [Hc.out]; exact hqN)])
        generalize (addC c (zs.take t)).getD q 0 = v at *
        have y1 : -1 ≤ v := by omega
        have y2 : v ≤ 2000000 := by omega
        have y3 : IntKind.i64.wrap (v + 1) = v + 1 := by rw [IntKind.wrap_i64]; omega
        have q1 : (q : Int) < N := by omega
        have q2 : (0 : Int) ≤ q := by omega
        have q3 : ((q : Int)).toNat = q := by omega
        clear hF hcc ha htk hir hneg hqb hval hbb hcl hset hq2
        go_wp2_with (fail)
        go_roundw
        case rel => exact ⟨t + 1, by go_num, by omega, by rw [Htk.out]; exact HSET.out⟩
        case measure => simp [intOf]; omega
    · obtain rfl : t = zs.length := by omega
      have k1 : ¬ (zs.length : Int) < zs.length := by omega
      rw [List.take_length] at hF
      have HF := Lib.hid hF
      clear hF
      go_wp2_with (fail)
      go_end0
      exact ⟨rfl, HF.out⟩
end Go.Proofs.Ytplkogjnmjjjgaa
