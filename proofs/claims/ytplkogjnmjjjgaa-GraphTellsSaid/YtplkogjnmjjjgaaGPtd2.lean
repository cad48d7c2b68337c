/- The walk of graph.Pointed. -/
import Derived.Test.YtplkogjnmjjjgaaGPtd
namespace Go.Proofs.Ytplkogjnmjjjgaa
open Go.ChangeShapes Go.WideShapes Go.ChangeAt Go.RowKit Go.Maps
set_option linter.unusedVariables false
set_option linter.unusedSimpArgs false

def ptdL (g : Gr) (i : Nat) : List Int := (List.range g.ns.length).map fun (k : Nat) => ((g.rs.count (k : Int) + cntN g.ns (k : Int) ((walkG g).al.take i) : Nat) : Int)
theorem ptdL_len (g : Gr) (i : Nat) : (ptdL g i).length = g.ns.length := by simp [ptdL]
theorem ptdL_at {g : Gr} {i j : Nat} (h : j < g.ns.length) : (ptdL g i).getD j 0 = ((g.rs.count (j : Int) + cntN g.ns (j : Int) ((walkG g).al.take i) : Nat) : Int) := by
  unfold ptdL
  rw [List.getD_eq_getElem?_getD, List.getElem?_map, List.getElem?_range h]
  rfl
theorem ptdL_zero (g : Gr) : addC (List.replicate g.ns.length 0) g.rs = ptdL g 0 := by
  unfold addC ptdL
  rw [List.length_replicate]
  refine List.map_congr_left fun j hj => ?_
  rw [List.mem_range] at hj
  rw [List.getD_eq_getElem?_getD, List.getElem?_replicate, if_pos hj]
  simp [cntN]
theorem ptdL_next {g : Gr} {i : Nat} (h : i < (walkG g).al.length) : addC (ptdL g i) (psAt g.ns ((walkG g).al.getD i 0)) = ptdL g (i + 1) := by
  conv => lhs; unfold addC
  conv => rhs; unfold ptdL
  rw [ptdL_len]
  refine List.map_congr_left fun j hj => ?_
  rw [List.mem_range] at hj
  rw [ptdL_at hj, cntN_next _ h]
  omega
theorem cntN_le {ns : List Nd} {k : Int} {B : Nat} (hB : ∀ a, (psAt ns a).length ≤ B) : ∀ l : List Int, cntN ns k l ≤ B * l.length
  | [] => by simp [cntN]
  | a :: l => by
    have h1 := cntN_le hB l (k := k)
    have h2 : (psAt ns a).count k ≤ (psAt ns a).length := List.count_le_length
    have h3 := hB a
    unfold cntN at h1 ⊢
    rw [List.map_cons, List.sum_cons, List.length_cons, Nat.mul_add]
    omega
theorem psAt_le {g : Gr} (h : FewG g) (a : Int) : (psAt g.ns a).length ≤ 1500 := by
  unfold psAt
  by_cases hl : a.toNat < g.ns.length
  · exact (h.each _ (getD_mem default hl)).1
  · rw [List.getD_eq_getElem?_getD, List.getElem?_eq_none (by omega)]
    exact Nat.zero_le _
theorem ptdL_le {g : Gr} (h : FewG g) (hal : (walkG g).al.length ≤ 100) (i : Nat) : ∀ j, j < g.ns.length → 0 ≤ (ptdL g i).getD j 0 ∧ (ptdL g i).getD j 0 ≤ 1000000 := fun j hj => by
  rw [ptdL_at hj]
  have h1 := cntN_le (k := (j : Int)) (psAt_le h) ((walkG g).al.take i)
  have h2 : ((walkG g).al.take i).length ≤ 100 := by simp; omega
  have h3 : g.rs.count (j : Int) ≤ g.rs.length := List.count_le_length
  have h4 := h.rs
  have h5 := Nat.mul_le_mul_left 1500 h2
  omega
theorem made_ints (n : Nat) : madeCells (Value.int .i64 0).cells (n * 1) = (icI (List.replicate n 0)).toArray := by
  apply Array.toList_inj.1
  rw [Nat.mul_one]
  show (madeCells #[Value.int .i64 0] n).toList = _
  rw [toList_madeCells_one]
  simp [icI]
set_option maxRecDepth 100000 in
theorem ptd_bad {w : World} {ar an : Option Addr} {g : Gr} (cr cn : Nat) (hG : GRd w ar an g) (hmay : mayG g = false) :
    Calls Try.prog 16 #[.agg #[.slice ar g.rs.length cr, .slice an g.ns.length cn]] w fun e w' => e = .returned (.tuple #[.slice none 0 0, .int .i64 5]) ∧ Below w.heap.size w w' := by
  have h1 := (FKN.refl w).box #[.slice ar g.rs.length cr, .slice an g.ns.length cn] 25
  have HR := Lib.hid (reach_bad cr cn (hG.below h1.below) hmay)
  have H1 := Lib.hid h1
  clear h1 hG hmay
  go_enter Try.func16, Try.ntmps16
  go_wp2_with (go_at_call 12; refine HR.out.mono ?_; rintro e w2 ⟨rfl, hb⟩; have H2 := Lib.hid (H1.out.grow hb); clear hb)
  go_ret2
  exact ⟨rfl, H2.out.below⟩
set_option maxRecDepth 100000 in
set_option maxHeartbeats 2000000 in
theorem ptd_any {w : World} {ar an : Option Addr} {g : Gr} (cr cn : Nat) (hG : GRd w ar an g) (hfew : FewG g) (hmay : mayG g = true) :
    Calls Try.prog 16 #[.agg #[.slice ar g.rs.length cr, .slice an g.ns.length cn]] w fun e w' => ∃ bR, e = .returned (.tuple #[.slice (some ⟨bR, 0, none⟩) g.ns.length g.ns.length, .int .i64 0]) ∧ FKN w [(bR, rowC (ptdL g (walkG g).al.length))] w' := by
  obtain ⟨i0, hi, hz0, hz1, hz2⟩ := info_parts int_info
  have hN := hfew.ns
  have l2 : (g.ns.length : Int) ≤ 100 := by omega
  have hmk : ∀ W : World, (Instr.makeSlice 22 (.int .i64 (g.ns.length : Int)) (.int .i64 (g.ns.length : Int))).run Try.prog W = .ok (.slice (some ⟨W.heap.size, 0, none⟩) g.ns.length g.ns.length) (W.alloc (rowC (List.replicate g.ns.length 0))) := fun W => by
    have h := run_make (P := Try.prog) W 22 3 i0 (.int .i64 0) Try.underlying22 hi hz0 .i64 .i64 (g.ns.length : Int) (g.ns.length : Int) (by omega) (by omega) (by rw [hz2]; omega) (by omega)
    rw [hz1, Int.toNat_natCast, made_ints] at h
    exact h
  have h1 := (FKN.refl w).box #[.slice ar g.rs.length cr, .slice an g.ns.length cn] 25
  have HR := Lib.hid (reach_any cr cn (hG.below h1.below) hfew hmay)
  have hOk := walkG_ok hmay
  have hal := hOk.len
  have hrs := hfew.rs
  have HOk := Lib.hid hOk
  have HG := Lib.hid hG
  have Hfew := Lib.hid hfew
  have Hmr := Lib.hid (mayG_roots hmay)
  have Hmp := Lib.hid (mayG_ps hmay)
  obtain ⟨gb, hgb⟩ : ∃ gb, w.heap.size = gb := ⟨_, rfl⟩
  simp only [hgb] at h1
  have H1 := Lib.hid h1
  have hq := h1.1.block (List.mem_cons_self ..)
  have c0 := at_cell hq 0 _ rfl
  have c1 := at_cell hq 1 _ rfl
  have HMK := Lib.hid hmk
  clear h1 hG hfew hmay hOk hq hmk
  go_enter Try.func16, Try.ntmps16
  go_wp2_with (first
    | (go_at_call 12; refine HR.out.mono ?_; rintro e w2 ⟨la, lc, rfl, Rl, hrl, hF⟩; have hs := H1.out.below.size; have HRl := Lib.hid (hrl.mono hs); have hj := H1.out.join hF; have hgq := hj.1.block (X := gb) (o := .cells #[.slice ar g.rs.length cr, .slice an g.ns.length cn] 25 (0, 0)) (by simp); have d1 := at_cell hgq 1 _ rfl; have hmk := HMK.out w2; have hb2 := ((hj.obj (rowC (List.replicate g.ns.length 0))).box #[.slice (some ⟨w2.heap.size, 0, none⟩) g.ns.length g.ns.length] 22); have d0 := at_cell (hb2.1.block (X := gb) (o := .cells #[.slice ar g.rs.length cr, .slice an g.ns.length cn] 25 (0, 0)) (by simp)) 0 _ rfl; simp only [heap_size_alloc] at hb2; have H2 := Lib.hid (hb2.perm (K' := (w2.heap.size, rowC (List.replicate g.ns.length 0)) :: (w2.heap.size + 1, Obj.cells #[.slice (some ⟨w2.heap.size, 0, none⟩) g.ns.length g.ns.length] 22 (0, 0)) :: (Rl ++ [(gb, Obj.cells #[.slice ar g.rs.length cr, .slice an g.ns.length cn] 25 (0, 0))])) (List.Perm.swap _ _ _)); clear hF hrl hj hgq hb2)
    | (go_at_call 43; refine (count_any H2.out (by simp) hN cr HG.out.roots hrs Hmr.out (fun j hj => by rw [List.getD_eq_getElem?_getD, List.getElem?_replicate, if_pos hj]; simp)).mono ?_; rw [ptdL_zero]; rintro e w3 ⟨rfl, hF3⟩; have H3 := Lib.hid hF3; clear hF3))
  obtain ⟨bR, hbR⟩ : ∃ bR, w2.heap.size = bR := ⟨_, rfl⟩
  simp only [hbR] at H3 ⊢
  clear c0 c1 d0 d1 HR H2 hmk hbR
  go_loopw [29] (fun iv wr => ∃ i : Nat, iv = .int .i64 i ∧ i ≤ (walkG g).al.length ∧ FKN w ((bR, rowC (ptdL g i)) :: (bR + 1, Obj.cells #[.slice (some ⟨bR, 0, none⟩) g.ns.length g.ns.length] 22 (0, 0)) :: (Rl ++ [(gb, Obj.cells #[.slice ar g.rs.length cr, .slice an g.ns.length cn] 25 (0, 0))])) wr) (fun iv _ => (walkG g).al.length - (intOf iv).toNat)
  case atStart => exact ⟨0, rfl, by omega, H3.out⟩
  case round =>
    clear H3
    obtain ⟨i, rfl, hi2, hF⟩ := hrel
    have o0 := at_cell (hF.1.block (List.mem_cons_of_mem _ (List.mem_cons_self ..))) 0 _ rfl
    have c1 := at_cell (hF.1.block (X := gb) (o := .cells #[.slice ar g.rs.length cr, .slice an g.ns.length cn] 25 (0, 0)) (by simp)) 1 _ rfl
    by_cases hlt : i < (walkG g).al.length
    · obtain ⟨b0, rfl, hz0⟩ := HRl.out.at_ hF.1 (fun x hx => by simp [hx]) (icI_get _ i hlt)
      have hzz := HOk.out.lt ((walkG g).al.getD i 0) (getD_mem 0 hlt)
      have hnx := ptdL_next hlt
      generalize (walkG g).al.getD i 0 = z at *
      obtain ⟨q, rfl⟩ : ∃ q : Nat, z = q := ⟨z.toNat, by omega⟩
      have hqN : q < g.ns.length := by omega
      obtain ⟨bn, on, ap, af, aw, cp, cf, cw, rfl, hx0, n0, -, -⟩ := HG.out.nodes.at_ hqN
      have hps : psAt g.ns (q : Int) = (g.ns.getD q default).ps := by unfold psAt; rw [Int.toNat_natCast]
      have hpin := Hmp.out (q : Int)
      have hpl := psAt_le Hfew.out (q : Int)
      have hrow := hx0.ps
      rw [← hps] at n0 hrow
      generalize psAt g.ns (q : Int) = ps at *
      have m0 := cellB hF.below (Nat.le_refl _) n0
      have HC := Lib.hid (count_any hF (ptdL_len g i) hN cp hrow hpl hpin (ptdL_le Hfew.out (by omega) i))
      rw [hnx] at HC
      have k1 : (i : Int) < (walkG g).al.length := by omega
      have k2 : (0 : Int) ≤ i := by omega
      have k3 : ((i : Int)).toNat = i := by omega
      have q1 : (q : Int) < g.ns.length := by omega
      have q2 : (0 : Int) ≤ q := by omega
      have q3 : ((q : Int)).toNat = q := by omega
      clear hF hx0 hnx hps hpin hpl hrow n0 hzz o0
      go_wp2_with (go_at_call 43; refine HC.out.mono ?_; rintro e w4 ⟨rfl, hF4⟩; have H4 := Lib.hid hF4; clear hF4)
      go_roundw
      case rel => exact ⟨i + 1, by go_num, by omega, H4.out⟩
      case measure => simp [intOf]; omega
    · obtain rfl : i = (walkG g).al.length := by omega
      have k1 : ¬ ((walkG g).al.length : Int) < (walkG g).al.length := by omega
      have HFIN := Lib.hid (FKN.drop (K' := (bR + 1, Obj.cells #[.slice (some ⟨bR, 0, none⟩) g.ns.length g.ns.length] 22 (0, 0)) :: (Rl ++ [(gb, Obj.cells #[.slice ar g.rs.length cr, .slice an g.ns.length cn] 25 (0, 0))])) (hF.perm (K' := ((bR + 1, Obj.cells #[.slice (some ⟨bR, 0, none⟩) g.ns.length g.ns.length] 22 (0, 0)) :: (Rl ++ [(gb, Obj.cells #[.slice ar g.rs.length cr, .slice an g.ns.length cn] 25 (0, 0))])) ++ [(bR, rowC (ptdL g (walkG g).al.length))]) (permC fun x => by simp only [List.count_append, List.count_cons, List.append_assoc, List.cons_append]; ac_rfl)))
      clear hF
      go_wp2_with (fail)
      go_ret2
      exact ⟨bR, rfl, HFIN.out⟩
end Go.Proofs.Ytplkogjnmjjjgaa
