/- The walks of Words, of the program's and of the reference's. -/
import Derived.Test.YtplkogjnmjjjgaaGLives
namespace Go.Proofs.Ytplkogjnmjjjgaa
open Go.ChangeShapes Go.WideShapes Go.ChangeAt Go.RowKit Go.Maps
set_option linter.unusedVariables false
set_option linter.unusedSimpArgs false

def nodesG (g : Gr) : List Nd := (walkG g).al.map fun k => g.ns.getD k.toNat default
def wordsG (g : Gr) : Nat := totN (nodesG g)
theorem node_ok {g : Gr} (h : mayG g = true) {n : Nat} (hn : n < g.ns.length) : Hd.Ok ((g.ns.getD n default).ps.length : Int) ((g.ns.getD n default).fs.length : Int) ((g.ns.getD n default).ws.length : Int) := by
  unfold mayG at h
  rw [Bool.and_eq_true, List.all_eq_true, List.all_eq_true] at h
  have := h.2 _ (getD_mem default hn)
  unfold mayN at this
  rw [Bool.and_eq_true] at this
  exact of_decide_eq_true this.1
theorem node_size {x : Nd} (h : Hd.Ok (x.ps.length : Int) (x.fs.length : Int) (x.ws.length : Int)) : Hd.sizeOf' (x.ps.length : Int) (x.fs.length : Int) (x.ws.length : Int) = (szN x : Int) ∧ szN x ≤ 256 := by
  unfold Hd.sizeOf' szN
  rw [if_pos h]
  unfold Hd.Ok at h
  omega
theorem words_next {g : Gr} {i : Nat} (h : i < (walkG g).al.length) : totN ((nodesG g).take (i + 1)) = totN ((nodesG g).take i) + szN (g.ns.getD ((walkG g).al.getD i 0).toNat default) := by
  have hl : i < (nodesG g).length := by unfold nodesG; rw [List.length_map]; exact h
  rw [totN_next hl]
  congr 1
  unfold nodesG
  rw [List.getD_eq_getElem?_getD, List.getElem?_map, List.getElem?_eq_getElem h, List.getD_eq_getElem?_getD (l := (walkG g).al), List.getElem?_eq_getElem h]
  rfl
set_option maxRecDepth 100000 in
set_option maxHeartbeats 1000000 in
theorem words_any {w : World} {ar an : Option Addr} {g : Gr} (cr cn : Nat) (hG : GRd w ar an g) (hfew : FewG g) (hmay : mayG g = true) :
    Calls Try.prog 14 #[.agg #[.slice ar g.rs.length cr, .slice an g.ns.length cn]] w fun e w' => e = .returned (.tuple #[.int .i64 (wordsG g : Int), .int .i64 0]) ∧ Below w.heap.size w w' := by
  have h1 := (FKN.refl w).box #[.slice ar g.rs.length cr, .slice an g.ns.length cn] 25
  have HR := Lib.hid (reach_any cr cn (hG.below h1.below) hfew hmay)
  have hOk := walkG_ok hmay
  have hal := hOk.len
  have hN := hfew.ns
  have l2 : (g.ns.length : Int) ≤ 100 := by omega
  have HOk := Lib.hid hOk
  have HG := Lib.hid hG
  have Hmay := Lib.hid hmay
  obtain ⟨gb, hgb⟩ : ∃ gb, w.heap.size = gb := ⟨_, rfl⟩
  simp only [hgb] at h1
  have H1 := Lib.hid h1
  have hq := h1.1.block (List.mem_cons_self ..)
  have c0 := at_cell hq 0 _ rfl
  have c1 := at_cell hq 1 _ rfl
  clear h1 hG hfew hmay hOk hq
  go_enter Try.func14, Try.ntmps14
  go_wp2_with (go_at_call 12; refine HR.out.mono ?_; rintro e w2 ⟨la, lc, rfl, Rl, hrl, hF⟩; have hs := H1.out.below.size; have HRl := Lib.hid (hrl.mono hs); have H2 := Lib.hid (H1.out.join hF); clear hF hrl)
  clear c0 c1 HR
  go_loopw [6, 16] (fun nv iv wr => ∃ i n : Nat, nv = .int .i64 n ∧ iv = .int .i64 i ∧ i ≤ (walkG g).al.length ∧ n = totN ((nodesG g).take i) ∧ n ≤ 256 * i ∧ FKN w (Rl ++ [(gb, .cells #[.slice ar g.rs.length cr, .slice an g.ns.length cn] 25 (0, 0))]) wr) (fun _ iv _ => (walkG g).al.length - (intOf iv).toNat)
  case atStart => exact ⟨0, 0, rfl, rfl, by omega, by simp [totN], by omega, H2.out⟩
  case round =>
    clear H2
    obtain ⟨i, n, rfl, rfl, hi, hn, hnb, hF⟩ := hrel
    have Hn := Lib.hid hn
    clear hn
    by_cases hlt : i < (walkG g).al.length
    · obtain ⟨b0, rfl, hz0⟩ := HRl.out.at_ hF.1 (fun x hx => List.mem_append_left _ hx) (icI_get _ i hlt)
      have hzz := HOk.out.lt ((walkG g).al.getD i 0) (getD_mem 0 hlt)
      have hnx := words_next hlt
      generalize (walkG g).al.getD i 0 = z at *
      obtain ⟨q, rfl⟩ : ∃ q : Nat, z = q := ⟨z.toNat, by omega⟩
      have hqN : q < g.ns.length := by omega
      obtain ⟨bn, on, ap, af, aw, cp, cf, cw, rfl, hx0, n0, n1, n2⟩ := (HG.out.nodes.below hF.below).at_ hqN
      have hok := node_ok Hmay.out hqN
      rw [Int.toNat_natCast] at hnx
      generalize g.ns.getD q default = x at *
      obtain ⟨hsz, hs256⟩ := node_size hok
      have hqb := hF.1.block (List.mem_append_right _ (List.mem_cons_self ..))
      have e1 := at_cell hqb 1 _ rfl
      have HF := Lib.hid hF
      have Hnx := Lib.hid hnx
      have HSH := Lib.hid (fun w => shape_any ap x.ps.length cp af x.fs.length cf aw x.ws.length cw w)
      have HSZ := Lib.hid (fun w => Hd.size_any (x.ps.length : Int) (x.fs.length : Int) (x.ws.length : Int) w)
      rw [hsz] at HSZ
      have k1 : (i : Int) < (walkG g).al.length := by omega
      have k2 : (0 : Int) ≤ i := by omega
      have k3 : ((i : Int)).toNat = i := by omega
      have q1 : (q : Int) < g.ns.length := by omega
      have q2 : (0 : Int) ≤ q := by omega
      have q3 : ((q : Int)).toNat = q := by omega
      generalize szN x = sz at *
      have y1 : (n : Int) ≤ 25600 := by omega
      have y2 : (sz : Int) ≤ 256 := by omega
      clear hF hx0 hnx hok hsz hqb hzz
      go_wp2_with (first
        | (go_at_call 41; refine (HSH.out _).mono ?_; rintro e w3 ⟨rfl, hb3⟩; have H3 := Lib.hid (HF.out.grow hb3); clear hb3)
        | (go_at_call 40; refine (HSZ.out _).mono ?_; rintro e w4 ⟨rfl, hb4⟩; have H4 := Lib.hid (H3.out.grow hb4); clear hb4))
      go_roundw
      case rel => exact ⟨i + 1, n + sz, by go_num, by go_num, by omega, by have h1 := Hnx.out; have h2 := Hn.out; omega, by omega, H4.out⟩
      case measure => simp [intOf]; omega
    · obtain rfl : i = (walkG g).al.length := by omega
      have k1 : ¬ ((walkG g).al.length : Int) < (walkG g).al.length := by omega
      have HF := Lib.hid hF
      clear hF
      go_wp2_with (fail)
      go_ret2
      subst hgb
      refine ⟨?_, HF.out.below⟩
      have h2 := Hn.out
      rw [List.take_of_length_le (by unfold nodesG; rw [List.length_map]; omega)] at h2
      rw [h2]
      rfl
set_option maxRecDepth 100000 in
theorem words_bad {w : World} {ar an : Option Addr} {g : Gr} (cr cn : Nat) (hG : GRd w ar an g) (hmay : mayG g = false) :
    Calls Try.prog 14 #[.agg #[.slice ar g.rs.length cr, .slice an g.ns.length cn]] w fun e w' => e = .returned (.tuple #[.int .i64 0, .int .i64 5]) ∧ Below w.heap.size w w' := by
  have h1 := (FKN.refl w).box #[.slice ar g.rs.length cr, .slice an g.ns.length cn] 25
  have HR := Lib.hid (reach_bad cr cn (hG.below h1.below) hmay)
  have H1 := Lib.hid h1
  clear h1 hG hmay
  go_enter Try.func14, Try.ntmps14
  go_wp2_with (go_at_call 12; refine HR.out.mono ?_; rintro e w2 ⟨rfl, hb⟩; have H2 := Lib.hid (H1.out.grow hb); clear hb)
  go_loopw [6, 16] (fun nv iv wr => nv = .int .i64 0 ∧ iv = .int .i64 0 ∧ wr = w2) (fun _ _ _ => 0)
  case atStart => exact ⟨rfl, rfl, rfl⟩
  case round =>
    obtain ⟨rfl, rfl, rfl⟩ := hrel
    go_wp2_with (fail)
    go_ret2
    exact ⟨rfl, H2.out.below⟩
end Go.Proofs.Ytplkogjnmjjjgaa
