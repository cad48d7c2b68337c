/- The walk of canon.bytes: a graph's bytes, sealed. -/
import Derived.Test.YtplkogjnmjjjgaaCInts
import Derived.Test.YtplkogjnmjjjgaaGRTrim
namespace Go.Proofs.Ytplkogjnmjjjgaa
open Go.ChangeShapes Go.WideShapes Go.ChangeAt Go.RowKit
set_option linter.unusedVariables false
set_option linter.unusedSimpArgs false

theorem isU_row {w : World} {a : Option Addr} {zs : List Int} (h : IntRow .u64 w a zs) {i : Nat} (hi : i < zs.length) : ∃ q : Nat, zs.getD i 0 = q ∧ q < 18446744073709551616 := by
  have h1 := h.each i hi
  have h2 := bounds_u64 h1
  exact ⟨(zs.getD i 0).toNat, by omega, by omega⟩
theorem BelowK.box {B b : Nat} {w w' : World} {k : Nat} {cs : Array Value} (c : Wr.BelowK B b w w') (h : w.heap[k]? = some (.cells cs 47 (0, 0))) (hk : k ≠ b) : w'.heap[k]? = some (.cells cs 47 (0, 0)) := c.kept k cs _ _ h hk (by decide)
theorem wrote_alloc {B b : Nat} {l : List UInt8} {w w1 : World} (h : Wr.Wrote B b l false w w1) (hB : B ≤ w1.heap.size) (o : Obj) : Wr.Wrote B b l false w (w1.alloc o) := by
  refine ⟨?_, h.2.alloc hB o⟩
  obtain ⟨hb, v, h1, h2, h3, h4⟩ := h.1
  exact ⟨hb, v, blockB (below_new w1 o) (Nat.le_refl _) h1, h2.kept (row := none) ⟨(below_new w1 o).os, (below_new w1 o).tape, (below_new w1 o).output, (below_new w1 o).size, fun k hk _ => (below_new w1 o).block k hk⟩ (by cases hob : v.ownBlock with
    | none => exact .inl rfl
    | some g => exact .inr (by simp)), h3, h4⟩
set_option maxRecDepth 100000 in
set_option maxHeartbeats 4000000 in
theorem bytes_any {V : World} {ar an : Option Addr} {g : Gr} (cr cn : Nat) (hG : GRd V ar an g) (few : FewG g) (hlen : (graphB g).length ≤ 900000) :
    Calls Try.prog 73 #[.agg #[.slice ar g.rs.length cr, .slice an g.ns.length cn]] V fun e w' => e = .returned (.string (Sl.sealedStr (str (graphB g)))) ∧ Below V.heap.size V w' := by
  have hns := few.ns
  have hrs := few.rs
  have h1 := (FKN.refl V).box #[.slice ar g.rs.length cr, .slice an g.ns.length cn] 25
  obtain ⟨w1, hw1⟩ : ∃ w1, V.alloc (.cells #[.slice ar g.rs.length cr, .slice an g.ns.length cn] 25) = w1 := ⟨_, rfl⟩
  have hsz : w1.heap.size = V.heap.size + 1 := by rw [← hw1]; simp
  rw [hw1] at h1
  obtain ⟨b, hb⟩ : ∃ b, w1.heap.size = b := ⟨_, rfl⟩
  obtain ⟨w2, hw2⟩ : ∃ w2, w1.alloc (.cells #[.pointer none, .slice none 0 0, .bool false] 144) = w2 := ⟨_, rfl⟩
  have hW0 := Wr.isW_new w1
  rw [hw2, hb] at hW0
  have hB2 : b ≤ w2.heap.size := by rw [← hw2]; simp; omega
  have hV2 : Below V.heap.size V w2 := by rw [← hw2]; exact h1.below.trans ((below_new w1 _).mono (by omega))
  obtain ⟨gb, hgb⟩ : ∃ gb, V.heap.size = gb := ⟨_, rfl⟩
  rw [hgb] at h1
  have Hc := Lib.hid (fun W (k : Below b w2 W) => (show W.cell? ⟨gb, 0, none⟩ = some (.slice ar g.rs.length cr) ∧ W.cell? ⟨gb, 1, none⟩ = some (.slice an g.ns.length cn) from by
    have hq := h1.1.block (List.mem_cons_self ..)
    have hq2 : w2.heap[gb]? = some (.cells #[.slice ar g.rs.length cr, .slice an g.ns.length cn] 25 (0, 0)) := by rw [← hw2]; exact blockB (below_new w1 _) (Nat.le_refl _) hq
    have hq3 : W.heap[gb]? = some (.cells #[.slice ar g.rs.length cr, .slice an g.ns.length cn] 25 (0, 0)) := by rw [k.block gb (by omega)]; exact hq2
    exact ⟨at_cell hq3 0 _ rfl, at_cell hq3 1 _ rfl⟩))
  have HV := Lib.hid (fun W (k : Below b w2 W) => base_below (B := b) hV2 (by omega) k)
  have hb0 := Hc.out w2 (Below.refl _ _)
  have hB1 := hV2
  have HGV := Lib.hid hG
  have HW0 := Lib.hid hW0
  have Hlen := Lib.hid hlen
  have Hfew := Lib.hid few
  have HB2 := Lib.hid hB2
  have Hgb := Lib.hid hgb
  have Hvb := Lib.hid (show V.heap.size ≤ b by omega)
  obtain ⟨g0, g1⟩ := (show w1.cell? ⟨gb, 0, none⟩ = some (.slice ar g.rs.length cr) ∧ w1.cell? ⟨gb, 1, none⟩ = some (.slice an g.ns.length cn) from by
    have hq := h1.1.block (List.mem_cons_self ..)
    exact ⟨at_cell hq 0 _ rfl, at_cell hq 1 _ rfl⟩)
  have l1 : (g.ns.length : Int) ≤ 3000 := by omega
  have hwl := wrap_len (show g.ns.length ≤ 100000 by omega)
  obtain ⟨tot, htot⟩ : ∃ tot, graphB g = tot := ⟨_, rfl⟩
  rw [htot] at Hlen ⊢
  have Htot := Lib.hid htot
  have HI := Lib.hid (ints_any (V := V) (w := w2) (B := b) (b := b) (l := []) cr hG.roots hV2 (by omega) hW0 hB2 (by
    rw [List.nil_append]
    have : (intsB g.rs).length ≤ (graphB g).length := by unfold graphB; simp
    omega) (by omega))
  rw [List.nil_append] at HI
  clear hG few hlen h1 hW0 hB2 hV2 hb0 hB1 htot hns hrs hsz
  obtain ⟨c0, c1⟩ := Hc.out w2 (Below.refl _ _)
  go_enter Try.func73, Try.ntmps73
  have HNum := Lib.hid (fun W (l : List UInt8) (n : Nat) (h : Wr.Wrote b b l false w2 W) (hl : l.length ≤ 900000) (hn : n < 18446744073709551616) => Wr.wNum_any b b n l false W h.is (by omega) hn (Nat.le_trans HB2.out h.2.size))
  go_wp2_with (first
    | (go_at_call 91; refine (Wr.newWriter_any _).mono ?_; rintro e w3 ⟨rfl, rfl⟩)
    | (go_at_call 92; refine HI.out.mono ?_; rintro e w4 ⟨rfl, hW⟩; have HW4 := Lib.hid hW; obtain ⟨c40, c41⟩ := Hc.out w4 hW.2.toBelow; clear hW)
    | (go_at_call 93; refine (HNum.out _ _ _ HW4.out (by have h1 := Htot.out; have h2 := Hlen.out; rw [← h1] at h2; unfold graphB at h2; simp at h2; omega) (by omega)).mono ?_; rintro e w5 ⟨rfl, hW⟩; have HW5 := Lib.hid (Wrote_trans HW4.out hW); obtain ⟨c50, c51⟩ := Hc.out w5 HW5.out.2.toBelow; clear hW))
  clear c0 c1 g0 g1 c40 c41 c50 c51 HI HW4
  have Hst := Lib.hid (show (intsB g.rs ++ Wr.Wire.num g.ns.length) ++ (g.ns.drop 0).flatMap nodeB = tot by rw [← Htot.out]; unfold graphB; rw [List.append_assoc]; rfl)
  obtain ⟨d0, hd0⟩ : ∃ d0, intsB g.rs ++ Wr.Wire.num g.ns.length = d0 := ⟨_, rfl⟩
  rw [hd0] at Hst HW5
  clear hd0 hwl
  go_loopw [26] (fun iv wr => ∃ (i : Nat) (dn : List UInt8), iv = .int .i64 i ∧ i ≤ g.ns.length ∧ dn ++ (g.ns.drop i).flatMap nodeB = tot ∧ Wr.Wrote b b dn false w2 wr) (fun iv _ => g.ns.length - (intOf iv).toNat)
  case atStart => exact ⟨0, d0, rfl, by omega, Hst.out, HW5.out⟩
  case round =>
    clear HW5 Hst
    obtain ⟨i, dn, rfl, hi, hd, hW⟩ := hrel
    have HW := Lib.hid hW
    by_cases hlt : i < g.ns.length
    · rw [drop_cons default hlt, List.flatMap_cons] at hd
      obtain ⟨bn, on, ap, af, aw, cp, cf, cw, rfl, hx0, n0, n1, n2⟩ := HGV.out.nodes.at_ hlt
      have hfx := Hfew.out.each _ (getD_mem default hlt)
      generalize g.ns.getD i default = x at *
      have hB := HV.out wr hW.2.toBelow
      have m0 := cellB hB (Nat.le_refl _) n0
      have m1 := cellB hB (Nat.le_refl _) n1
      have m2 := cellB hB (Nat.le_refl _) n2
      have k1 : (i : Int) < g.ns.length := by omega
      have k2 : (0 : Int) ≤ i := by omega
      have k3 : ((i : Int)).toNat = i := by omega
      have hbl := hW.1.lt
      have hBw := Nat.le_trans HB2.out hW.2.size
      obtain ⟨wA, hwA⟩ : ∃ wA, wr.alloc (.cells #[.slice ap x.ps.length cp, .slice af x.fs.length cf, .slice aw x.ws.length cw] 47) = wA := ⟨_, rfl⟩
      have hWA := wrote_alloc hW hBw (.cells #[.slice ap x.ps.length cp, .slice af x.fs.length cf, .slice aw x.ws.length cw] 47)
      rw [hwA] at hWA
      obtain ⟨bx, hbx⟩ : ∃ bx, wr.heap.size = bx := ⟨_, rfl⟩
      have hxb : wA.heap[bx]? = some (.cells #[.slice ap x.ps.length cp, .slice af x.fs.length cf, .slice aw x.ws.length cw] 47 (0, 0)) := by rw [← hwA, ← hbx]; exact heap_alloc_new wr _
      have Hx := Lib.hid (fun W (k : Wr.BelowK b b wA W) => (show W.cell? ⟨bx, 0, none⟩ = some (.slice ap x.ps.length cp) ∧ W.cell? ⟨bx, 1, none⟩ = some (.slice af x.fs.length cf) ∧ W.cell? ⟨bx, 2, none⟩ = some (.slice aw x.ws.length cw) from by
        have hq := BelowK.box k hxb (by omega)
        exact ⟨at_cell hq 0 _ rfl, at_cell hq 1 _ rfl, at_cell hq 2 _ rfl⟩))
      have HX := Lib.hid hx0
      have HVA := Lib.hid (fun W (k : Below b wA W) => HV.out W (hWA.2.toBelow.trans k))
      have HBA := Lib.hid (show b ≤ wA.heap.size by rw [← hwA]; simp; omega)
      have HWA := Lib.hid hWA
      have Hd := Lib.hid hd
      have hdl : dn.length + (nodeB x).length ≤ 900000 := by have h1 := Hlen.out; rw [← hd] at h1; simp only [List.length_append] at h1; omega
      have hnl : (nodeB x).length = (intsB x.ps).length + ((fltsB x.fs).length + (wrdsB x.ws).length) := by unfold nodeB; simp
      have HIA := Lib.hid (ints_any (V := V) (w := wA) (B := b) (b := b) (l := dn) cp hx0.ps (HVA.out wA (Below.refl _ _)) Hvb.out hWA.is HBA.out (by rw [List.length_append]; omega) (by omega))
      have HNA := Lib.hid (fun W (l : List UInt8) (n : Nat) (h : Wr.Wrote b b l false wA W) (hl : l.length ≤ 900000) (hn : n < 18446744073709551616) => Wr.wNum_any b b n l false W h.is (by omega) hn (Nat.le_trans HBA.out h.2.size))
      have HFA := Lib.hid (fun W (l : List UInt8) (n : Nat) (h : Wr.Wrote b b l false wA W) (hl : l.length ≤ 900000) (hn : n < 18446744073709551616) => Wr.wFloat_any b b n l false W h.is (by omega) hn (Nat.le_trans HBA.out h.2.size))
      have hfl1 := wrap_len (show x.fs.length ≤ 100000 by omega)
      have hwl1 := wrap_len (show x.ws.length ≤ 100000 by omega)
      have f1 : (x.fs.length : Int) ≤ 3000 := by omega
      have f2 : (x.ws.length : Int) ≤ 3000 := by omega
      obtain ⟨x0, x1, x2⟩ := Hx.out wA (Wr.BelowK.refl _ _ _)
      have hp1 : (dn ++ intsB x.ps).length ≤ 900000 := by rw [List.length_append]; omega
      have hp3 : ((dn ++ intsB x.ps) ++ fltsB x.fs).length ≤ 900000 := by simp only [List.length_append]; omega
      have hp5 : (((dn ++ intsB x.ps) ++ fltsB x.fs) ++ wrdsB x.ws).length ≤ 900000 := by simp only [List.length_append]; omega
      have hend : ((dn ++ intsB x.ps) ++ fltsB x.fs) ++ wrdsB x.ws ++ (g.ns.drop (i + 1)).flatMap nodeB = tot := by rw [← hd]; unfold nodeB; simp only [List.append_assoc]
      obtain ⟨p1, hp1e⟩ : ∃ p1, dn ++ intsB x.ps = p1 := ⟨_, rfl⟩
      rw [hp1e] at hp1 hp3 hp5 hend HIA
      have Hp1 := Lib.hid hp1
      have Hp3 := Lib.hid hp3
      have Hp5 := Lib.hid hp5
      have Hend := Lib.hid hend
      have Hlt := Lib.hid hlt
      clear hd hx0 hfx hB n0 n1 n2 hbl hBw hWA hxb Hd hdl hnl hp1 hp3 hp5 hend hp1e hW hlt HW
      go_wp2_with (first
        | (go_at_call 92; refine HIA.out.mono ?_; rintro e wB ⟨rfl, hW⟩; have HWB := Lib.hid hW; obtain ⟨x0B, x1B, x2B⟩ := Hx.out wB hW.2; clear hW)
        | (go_at_call 93; refine (HNA.out _ _ _ HWB.out Hp1.out (by omega)).mono ?_; rintro e wC ⟨rfl, hW⟩; have HWC := Lib.hid (Wrote_trans HWB.out hW); obtain ⟨x0C, x1C, x2C⟩ := Hx.out wC HWC.out.2; clear hW))
      clear x0 x1 x2 x0B x1B x2B x0C x1C x2C m0 m1 m2 HIA HWB hwA
      have Hst := Lib.hid (show (p1 ++ Wr.Wire.num x.fs.length) ++ (x.fs.drop 0).flatMap (fun z => Wr.Wire.fix z.toNat) = p1 ++ fltsB x.fs by unfold fltsB; rw [List.append_assoc]; rfl)
      obtain ⟨d2, hd2⟩ : ∃ d2, p1 ++ Wr.Wire.num x.fs.length = d2 := ⟨_, rfl⟩
      rw [hd2] at Hst HWC
      clear hd2
      obtain ⟨p3, hp3e⟩ : ∃ p3, p1 ++ fltsB x.fs = p3 := ⟨_, rfl⟩
      rw [hp3e] at Hst Hp3 Hp5 Hend
      clear hp3e
      go_loopw [43] (fun jv wr => ∃ (j : Nat) (dn : List UInt8), jv = .int .i64 j ∧ j ≤ x.fs.length ∧ dn ++ (x.fs.drop j).flatMap (fun z => Wr.Wire.fix z.toNat) = p3 ∧ Wr.Wrote b b dn false wA wr) (fun jv _ => x.fs.length - (intOf jv).toNat)
      case atStart => exact ⟨0, d2, rfl, by omega, Hst.out, HWC.out⟩
      case round =>
        clear HWC Hst
        obtain ⟨j, dn, rfl, hj, hd, hW⟩ := hrel
        by_cases hltj : j < x.fs.length
        · have hrow := HX.out.fs.below (HVA.out wr hW.2.toBelow)
          obtain ⟨z, hz, hz2⟩ := isU_row hrow hltj
          obtain ⟨b0, off, ha, hc⟩ := hrow.cell
          obtain rfl : af = some ⟨b0, off, none⟩ := by
            rcases ha with e | e
            · rw [e] at hltj; cases hltj
            · exact e
          have q0 := hc j hltj
          rw [drop_cons 0 hltj, List.flatMap_cons, hz] at hd
          rw [hz] at q0
          have hdl : dn.length ≤ 900000 := by have h1 := Hp3.out; rw [← hd] at h1; simp only [List.length_append] at h1; omega
          have HC := Lib.hid (HFA.out wr dn z hW hdl hz2)
          have HW := Lib.hid hW
          have Hd := Lib.hid hd
          have j1 : (j : Int) < x.fs.length := by omega
          have j2 : (0 : Int) ≤ j := by omega
          have j3 : ((j : Int)).toNat = j := by omega
          clear hrow hz hz2 ha hc hd hdl hW
          go_wp2_with (first
            | (go_at_call 84; refine (Wr.floatOf_any z _).mono ?_; rintro e w3 ⟨rfl, rfl⟩)
            | (go_at_call 94; refine HC.out.mono ?_; rintro e w4 ⟨rfl, hW⟩; have HW4 := Lib.hid (Wrote_trans HW.out hW); clear hW))
          go_roundw
          case rel => exact ⟨j + 1, dn ++ Wr.Wire.fix z, by go_num, by omega, by rw [List.append_assoc]; exact Hd.out, HW4.out⟩
          case measure => simp [intOf]; omega
        · obtain rfl : j = x.fs.length := by omega
          rw [flat_nil, List.append_nil] at hd
          subst hd
          have HW := Lib.hid hW
          have j1 : ¬ (x.fs.length : Int) < x.fs.length := by omega
          obtain ⟨x0, x1, x2⟩ := Hx.out wr hW.2
          clear hW
          go_wp2_with (go_at_call 93; refine (HNA.out _ _ _ HW.out Hp3.out (by omega)).mono ?_; rintro e wC ⟨rfl, hW⟩; have HWC := Lib.hid (Wrote_trans HW.out hW); obtain ⟨x0C, x1C, x2C⟩ := Hx.out wC HWC.out.2; clear hW)
          clear x0 x1 x2 x0C x1C x2C HW
          have Hst := Lib.hid (show (dn ++ Wr.Wire.num x.ws.length) ++ (x.ws.drop 0).flatMap (fun z => Wr.Wire.num z.toNat) = dn ++ wrdsB x.ws by unfold wrdsB; rw [List.append_assoc]; rfl)
          obtain ⟨d2, hd2⟩ : ∃ d2, dn ++ Wr.Wire.num x.ws.length = d2 := ⟨_, rfl⟩
          rw [hd2] at Hst HWC
          clear hd2
          obtain ⟨p5, hp5e⟩ : ∃ p5, dn ++ wrdsB x.ws = p5 := ⟨_, rfl⟩
          rw [hp5e] at Hst Hp5 Hend
          clear hp5e
          go_loopw [61] (fun jv wr => ∃ (j : Nat) (dn : List UInt8), jv = .int .i64 j ∧ j ≤ x.ws.length ∧ dn ++ (x.ws.drop j).flatMap (fun z => Wr.Wire.num z.toNat) = p5 ∧ Wr.Wrote b b dn false wA wr) (fun jv _ => x.ws.length - (intOf jv).toNat)
          case atStart => exact ⟨0, d2, rfl, by omega, Hst.out, HWC.out⟩
          case round =>
            clear HWC Hst
            obtain ⟨j, dn, rfl, hj, hd, hW⟩ := hrel
            by_cases hltj : j < x.ws.length
            · have hrow := HX.out.ws.below (HVA.out wr hW.2.toBelow)
              obtain ⟨z, hz, hz2⟩ := isU_row hrow hltj
              obtain ⟨b0, off, ha, hc⟩ := hrow.cell
              obtain rfl : aw = some ⟨b0, off, none⟩ := by
                rcases ha with e | e
                · rw [e] at hltj; cases hltj
                · exact e
              have q0 := hc j hltj
              rw [drop_cons 0 hltj, List.flatMap_cons, hz] at hd
              rw [hz] at q0
              have hdl : dn.length ≤ 900000 := by have h1 := Hp5.out; rw [← hd] at h1; simp only [List.length_append] at h1; omega
              have HC := Lib.hid (HNA.out wr dn z hW hdl hz2)
              have HW := Lib.hid hW
              have Hd := Lib.hid hd
              have j1 : (j : Int) < x.ws.length := by omega
              have j2 : (0 : Int) ≤ j := by omega
              have j3 : ((j : Int)).toNat = j := by omega
              clear hrow hz hz2 ha hc hd hdl hW
              go_wp2_with (go_at_call 93; refine HC.out.mono ?_; rintro e w4 ⟨rfl, hW⟩; have HW4 := Lib.hid (Wrote_trans HW.out hW); clear hW)
              go_roundw
              case rel => exact ⟨j + 1, dn ++ Wr.Wire.num z, by go_num, by omega, by rw [List.append_assoc]; exact Hd.out, HW4.out⟩
              case measure => simp [intOf]; omega
            · obtain rfl : j = x.ws.length := by omega
              rw [flat_nil, List.append_nil] at hd
              subst hd
              have HW := Lib.hid hW
              have j1 : ¬ (x.ws.length : Int) < x.ws.length := by omega
              clear hW
              go_wp2_with (fail)
              go_roundw
              case rel => exact ⟨i + 1, dn, by go_num, by have := Hlt.out; omega, Hend.out, Wrote_trans HWA.out HW.out⟩
              case measure => simp [intOf]; have := Hlt.out; omega
    · obtain rfl : i = g.ns.length := by omega
      have hn : (g.ns.drop g.ns.length).flatMap nodeB = [] := flat_nil nodeB
      rw [hn, List.append_nil] at hd
      subst hd
      have k1 : ¬ (g.ns.length : Int) < g.ns.length := by omega
      have hdone := Wr.wDone_any b b dn false wr hW.is (by have := Hlen.out; omega)
      simp only [Bool.false_eq_true, if_false] at hdone
      have HD := Lib.hid hdone
      have hsz : (str dn).size ≤ 1000000 := by rw [str_size]; have := Hlen.out; omega
      have HS := Lib.hid (fun W => Sl.seal_any (str dn) W hsz)
      clear hW hn hdone hsz
      go_wp2_with (first
        | (go_at_call 95; refine HD.out.mono ?_; rintro e w5 ⟨rfl, hb5⟩; have H5 := Lib.hid (HV.out _ (HW.out.2.toBelow.trans hb5)); clear hb5)
        | (go_at_call 96; refine (HS.out _).mono ?_; rintro e w6 ⟨rfl, hb6⟩; have H6 := Lib.hid (H5.out.trans (hb6.mono H5.out.size)); clear hb6))
      go_ret
      exact ⟨rfl, H6.out⟩
end Go.Proofs.Ytplkogjnmjjjgaa
