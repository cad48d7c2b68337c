/- The walk of WalkTells. -/
import Derived.Test.YtkcijlndblbidaaWRef4
import Derived.Test.YtkcijlndblbidaaWSizesW
namespace Go.Proofs.Ytkcijlndblbidaa
open Go.ChangeShapes Go.WideShapes Go.ChangeAt Go.RowKit
set_option linter.unusedVariables false

set_option maxRecDepth 100000 in
set_option maxHeartbeats 16000000 in
theorem wtells_any (ah apt aw : Option Addr) (ch cp cw : Nat) (hs : List Hdr) (ps ws : List Int) (ra rb : Int) (hrb : rb ≤ 9223372036854775807) (ar : Option Addr) (rs : List Int) (cr : Nat) (w : World) (hH : HRow w ah hs) (hP : IntRow .i64 w apt ps) (hWs : IntRow .i64 w aw ws) (hl : hs.length + ps.length + ws.length ≤ 9223372036854775807) (hR : IntRow .i64 w ar rs) :
    Calls Try.prog 15 #[.agg #[.slice ah hs.length ch, .slice apt ps.length cp, .slice aw ws.length cw], .agg #[.int .i64 ra, .int .i64 rb], .slice ar rs.length cr] w fun e w' => e = .returned (.bool true) ∧ Below w.heap.size w w' := by
  obtain ⟨W1, hW1⟩ : ∃ W1, (w.alloc (.cells #[.slice ah hs.length ch, .slice apt ps.length cp, .slice aw ws.length cw] 133)).alloc (.cells #[.int .i64 ra, .int .i64 rb] 50) = W1 := ⟨_, rfl⟩
  have hb0 : Below w.heap.size w W1 := by rw [← hW1]; exact seq (below_new _ _) (below_new _ _)
  have hb3 : W1.heap[w.heap.size]? = some (.cells #[.slice ah hs.length ch, .slice apt ps.length cp, .slice aw ws.length cw] 133 (0, 0)) := by rw [← hW1]; exact blockB (below_new _ _) (Nat.le_refl _) (heap_alloc_new w _)
  have hb4 : W1.heap[w.heap.size + 1]? = some (.cells #[.int .i64 ra, .int .i64 rb] 50 (0, 0)) := by
    rw [← hW1]
    have := heap_alloc_new (w.alloc (.cells #[.slice ah hs.length ch, .slice apt ps.length cp, .slice aw ws.length cw] 133)) (.cells #[.int .i64 ra, .int .i64 rb] 50)
    simpa using this
  have hrl : rs.length ≤ 9223372036854775807 := hR.many
  have HFar := far_any ah apt aw hs.length ch ps.length cp ws.length cw W1 hH.many hP.many hWs.many hl
  rw [← hW1] at HFar
  have HH := Lib.hid (hH.below hb0)
  have HP := Lib.hid (hP.below hb0)
  have HWs := Lib.hid (hWs.below hb0)
  have HRr := Lib.hid (hR.below hb0)
  have Hb0 := Lib.hid hb0
  have Hb3 := Lib.hid hb3
  have Hb4 := Lib.hid hb4
  have HW1 := Lib.hid hW1
  by_cases hf : 300 < hs.length + ps.length + ws.length
  · rw [decide_eq_true hf] at HFar
    replace HFar := Lib.hid HFar
    clear hH hP hWs hl hb0 hb3 hb4 hW1 hf hR
    go_enter Try.func15, Try.ntmps15
    go_wp2_with (first
      | (go_at_call 87; refine HFar.out.mono ?_; rintro e w1 ⟨rfl, hb⟩; rw [HW1.out] at hb; have HB := Lib.hid (seq Hb0.out hb); clear hb)
      | (go_at_call 88; refine (lives18_yes _).mono ?_; rintro e w2 ⟨rfl, hb⟩; have HB2 := Lib.hid (seq HB.out hb); clear hb))
    go_ret
    exact ⟨rfl, HB2.out⟩
  · rw [decide_eq_false hf] at HFar
    replace HFar := Lib.hid HFar
    by_cases hrs : 100 < rs.length
    · have r1 : (100 : Int) < rs.length := by omega
      have r2 : (rs.length : Int) ≤ 9223372036854775807 := by omega
      clear hH hP hWs hl hb0 hb3 hb4 hW1 hf hR hrs
      go_enter Try.func15, Try.ntmps15
      go_wp2_with (first
        | (go_at_call 87; refine HFar.out.mono ?_; rintro e w1 ⟨rfl, hb⟩; rw [HW1.out] at hb; have HB := Lib.hid (seq Hb0.out hb); clear hb)
        | (go_at_call 88; refine (lives18_yes _).mono ?_; rintro e w2 ⟨rfl, hb⟩; have HB2 := Lib.hid (seq HB.out hb); clear hb))
      go_ret
      exact ⟨rfl, HB2.out⟩
    · have HL := Lib.hid (fun W (hb : Below W1.heap.size W1 W) => lay_any ah apt aw ch cp cw hs ps ws W (HH.out.below hb) (HP.out.below hb) (HWs.out.below hb) (by omega))
      have r1 : ¬ (100 : Int) < rs.length := by omega
      have r2 : rs.length ≤ 100 := by omega
      have r3 : (rs.length : Int) ≤ 100 := by omega
      clear hH hP hWs hl hb0 hb3 hb4 hW1 hf hR hrl hrs
      go_enter Try.func15, Try.ntmps15
      go_wp2_with (first
        | (go_at_call 87; refine HFar.out.mono ?_; rintro e w1 ⟨rfl, hb⟩; rw [HW1.out] at hb; have c0 := at_cell (blockB hb (Nat.le_refl _) Hb3.out) 0 _ rfl; have c1 := at_cell (blockB hb (Nat.le_refl _) Hb3.out) 1 _ rfl; have c2 := at_cell (blockB hb (Nat.le_refl _) Hb3.out) 2 _ rfl; have HB := Lib.hid hb; clear hb)
        | (go_at_call 89; refine (HL.out _ HB.out).mono ?_; rintro e w2 ⟨W0, m, t, g, al, cap, top, rfl, hbw, hsm, ht1, ht2, hR, -, -⟩; clear c0 c1 c2; obtain ⟨bl, cur, rfl, hbl1, -, hU, hFK⟩ := hR.kept (by omega); have hb5 := HB.out.trans (hbw.mono HB.out.size); have HRs := Lib.hid (HRr.out.below hb5); have hb6 := hb5.trans (hFK.below.mono hb5.size); have d0 := at_cell (blockB hb6 (Nat.le_refl _) Hb4.out) 0 _ rfl; have d1 := at_cell (blockB hb6 (Nat.le_refl _) Hb4.out) 1 _ rfl; have HU := Lib.hid hU; have HS0 := Lib.hid hFK; have Hsm := Lib.hid hsm; have HB2 := Lib.hid (seq (Hb0.out) hb5); clear hbw hR hU hFK hb5 hb6 hsm))
      clear HL HFar HH HP HWs HRr d0 d1
      have t1 : (top : Int) ≤ 400 := by omega
      have t2 : (1 : Int) ≤ top := by omega
      have Hbx := Lib.hid (show ∀ (p q : Int) W, FK W0 m 400 t g [(bl, .cells cur 23 (0, 0))] W → FK W0 m 400 t g [(W.heap.size, .cells #[.int .i64 p, .int .i64 q] 50 (0, 0)), (bl, .cells cur 23 (0, 0))] (W.alloc (.cells #[.int .i64 p, .int .i64 q] 50)) from fun p q W h => h.box #[.int .i64 p, .int .i64 q] 50)
      go_loopw [42] (fun i wr => ∃ (k : Nat), i = .int .i64 k ∧ k ≤ 2 ∧ FK W0 m 400 t g [(bl, .cells cur 23 (0, 0))] wr) (fun i _ => 2 - (intOf i).toNat)
      case atStart => exact ⟨0, rfl, by omega, HS0.out⟩
      case round =>
        clear HS0
        obtain ⟨k, rfl, hk, hF⟩ := hrel
        have hbx := fun (p q : Int) => Hbx.out p q _ hF
        have HF := Lib.hid hF
        have HBX := Lib.hid hbx
        clear hF hbx
        have hk3 : k = 0 ∨ k = 1 ∨ k = 2 := by omega
        rcases hk3 with rfl | rfl | rfl
        · have HA := Lib.hid (fun K W (h : FK W0 m 400 t g K W) => all_fk h Hsm.out ra rb hrb)
          have HRA := Lib.hid (fun K W (h : FK W0 m 400 t g K W) (hm : (bl, .cells cur 23 (0, 0)) ∈ K) => rall_fk (c := cap) h Hsm.out HU.out hm ra rb hrb)
          have HP := Lib.hid (fun K W (h : FK W0 m 400 t g K W) => pointers_fk h Hsm.out ra rb hrb)
          have HRP := Lib.hid (fun K W (h : FK W0 m 400 t g K W) (hm : (bl, .cells cur 23 (0, 0)) ∈ K) => rpointers_fk (c := cap) h Hsm.out HU.out hm ra rb hrb)
          have HW := Lib.hid (fun K W (h : FK W0 m 400 t g K W) => whole_fk h Hsm.out ra rb hrb ar rs cr HRs.out r2)
          have HRW := Lib.hid (fun K W (h : FK W0 m 400 t g K W) (hm : (bl, .cells cur 23 (0, 0)) ∈ K) => rwhole_fk (c := cap) h Hsm.out HU.out hm ra rb hrb ar rs cr HRs.out r2)
          obtain ⟨f1, f2, f3⟩ := allR_facts 400 g ra rb
          have f4 := (PR_facts 400 g ra rb (by omega)).2
          generalize allR 400 g ra rb = A at *
          generalize PR 400 g ra rb = P at *
          generalize whE 400 g ra rb rs = E at *
          obtain ⟨l, er⟩ := A
          obtain ⟨pl, pe⟩ := P
          simp only at *
          unfold spc at *
          have hF := HBX.out ra rb
          have hq := hF.block (X := wr.heap.size) (o := .cells #[.int .i64 ra, .int .i64 rb] 50 (0, 0)) (by simp)
          have d0 := at_cell hq 0 (.int .i64 ra) rfl
          have d1 := at_cell hq 1 (.int .i64 rb) rfl
          clear hq
          have HS := Lib.hid hF
          have l1 : (l.length : Int) ≤ 400 := by omega
          have l2 : (pl.length : Int) ≤ 1100000 := by omega
          clear hF f1 f3 HBX
          have hix : ∀ w : World, (Instr.index 143 (.agg #[.int .i64 ra, .int .i64 rb, .int .i64 1, .int .i64 (top : Int)]) (.int .i64 0)).run Try.prog w = .ok (.agg #[.int .i64 ra, .int .i64 rb]) w := fun w => by kernel_rfl
          go_wp2_with (first
            | (go_at_call 90; refine (HA.out _ _ HS.out).mono ?_; rintro e w3 ⟨al1, cap1, rfl, h3⟩; clear d0 d1 HS; obtain ⟨D1, hF, hk1⟩ := h3.kept; have hq := hF.block (X := wr.heap.size) (o := .cells #[.int .i64 ra, .int .i64 rb] 50 (0, 0)) (by simp); have d0 := at_cell hq 0 (.int .i64 ra) rfl; have d1 := at_cell hq 1 (.int .i64 rb) rfl; clear hq; have HS1 := Lib.hid hF; have Hk1 := Lib.hid hk1; clear h3 hF hk1)
            | (go_at_call 92; refine (HRA.out _ _ HS1.out (by simp)).mono ?_; rintro e w4 ⟨al2, cap2, rfl, h4⟩; clear d0 d1 HS1; obtain ⟨D2, hF, hk2⟩ := h4.kept; have hq := hF.block (X := wr.heap.size) (o := .cells #[.int .i64 ra, .int .i64 rb] 50 (0, 0)) (by simp); have d0 := at_cell hq 0 (.int .i64 ra) rfl; have d1 := at_cell hq 1 (.int .i64 rb) rfl; clear hq; have HS2 := Lib.hid hF; have Hk2 := Lib.hid hk2; clear h4 hF hk2)
            | (go_at_call 93; refine (HP.out _ _ HS2.out).mono ?_; rintro e w5 ⟨al3, cap3, rfl, h5⟩; clear d0 d1 HS2; obtain ⟨D3, hF, hk3⟩ := h5.kept; have hq := hF.block (X := wr.heap.size) (o := .cells #[.int .i64 ra, .int .i64 rb] 50 (0, 0)) (by simp); have d0 := at_cell hq 0 (.int .i64 ra) rfl; have d1 := at_cell hq 1 (.int .i64 rb) rfl; clear hq; have HS3 := Lib.hid hF; have Hk3 := Lib.hid hk3; clear h5 hF hk3)
            | (go_at_call 94; refine (HRP.out _ _ HS3.out (by simp)).mono ?_; rintro e w6 ⟨al4, cap4, rfl, h6⟩; clear d0 d1 HS3; obtain ⟨D4, hF, hk4⟩ := h6.kept; have hq := hF.block (X := wr.heap.size) (o := .cells #[.int .i64 ra, .int .i64 rb] 50 (0, 0)) (by simp); have d0 := at_cell hq 0 (.int .i64 ra) rfl; have d1 := at_cell hq 1 (.int .i64 rb) rfl; clear hq; have HS4 := Lib.hid (hF.grow (below_drew _)); have Hk4 := Lib.hid hk4; clear h6 hF hk4))
          have Hm1 := Lib.hid (show ∀ x ∈ D1, x ∈ D4 ++ (D3 ++ (D2 ++ (D1 ++ [(wr.heap.size, .cells #[.int .i64 ra, .int .i64 rb] 50 (0, 0)), (bl, .cells cur 23 (0, 0))]))) from fun x hx => by simp [hx])
          have Hm2 := Lib.hid (show ∀ x ∈ D2, x ∈ D4 ++ (D3 ++ (D2 ++ (D1 ++ [(wr.heap.size, .cells #[.int .i64 ra, .int .i64 rb] 50 (0, 0)), (bl, .cells cur 23 (0, 0))]))) from fun x hx => by simp [hx])
          have Hm3 := Lib.hid (show ∀ x ∈ D3, x ∈ D4 ++ (D3 ++ (D2 ++ (D1 ++ [(wr.heap.size, .cells #[.int .i64 ra, .int .i64 rb] 50 (0, 0)), (bl, .cells cur 23 (0, 0))]))) from fun x hx => by simp [hx])
          have Hm4 := Lib.hid (show ∀ x ∈ D4, x ∈ D4 ++ (D3 ++ (D2 ++ (D1 ++ [(wr.heap.size, .cells #[.int .i64 ra, .int .i64 rb] 50 (0, 0)), (bl, .cells cur 23 (0, 0))]))) from fun x hx => by simp [hx])
          have Hmb := Lib.hid (show (wr.heap.size, .cells #[.int .i64 ra, .int .i64 rb] 50 (0, 0)) ∈ D4 ++ (D3 ++ (D2 ++ (D1 ++ [(wr.heap.size, .cells #[.int .i64 ra, .int .i64 rb] 50 (0, 0)), (bl, .cells cur 23 (0, 0))]))) by simp)
          have Hml := Lib.hid (show (bl, .cells cur 23 (0, 0)) ∈ D4 ++ (D3 ++ (D2 ++ (D1 ++ [(wr.heap.size, .cells #[.int .i64 ra, .int .i64 rb] 50 (0, 0)), (bl, .cells cur 23 (0, 0))]))) by simp)
          generalize D4 ++ (D3 ++ (D2 ++ (D1 ++ [(wr.heap.size, .cells #[.int .i64 ra, .int .i64 rb] 50 (0, 0)), (bl, .cells cur 23 (0, 0))]))) = K4 at *
          have HS := HS4
          clear HS4 HA HRA HP HRP hix
          go_region_held3 (fun w' => w'.cell? ⟨wr.heap.size, 0, none⟩ = some (.int .i64 ra) ∧ w'.cell? ⟨wr.heap.size, 1, none⟩ = some (.int .i64 rb)) (first | exact ⟨d0, d1⟩ | go_keep) (first | (go_at_call 95; refine (HW.out _ _ HS.out).mono ?_; rintro e w7 ⟨rfl, hs⟩; clear HS d0 d1; have HS := Lib.hid hs; have hq := hs.block Hmb.out; have d0 := at_cell hq 0 (.int .i64 ra) rfl; have d1 := at_cell hq 1 (.int .i64 rb) rfl; clear hs hq) | (go_at_call 96; refine (HRW.out _ _ HS.out Hml.out).mono ?_; rintro e w8 ⟨rfl, hs⟩; clear HS d0 d1; have HS := Lib.hid hs; have hq := hs.block Hmb.out; have d0 := at_cell hq 0 (.int .i64 ra) rfl; have d1 := at_cell hq 1 (.int .i64 rb) rfl; clear hs hq))
          all_goals
            clear d0 d1 HW HRW
            go_wp2_with (fail)
            go_loopw [125] (fun i wr => ∃ (k : Nat), i = .int .i64 k ∧ k ≤ l.length ∧ FK W0 m 400 t g K4 wr) (fun i _ => l.length - (intOf i).toNat)
            case atStart => exact ⟨0, rfl, by omega, HS.out⟩
            case round =>
              clear HS
              obtain ⟨k, rfl, hk, hF⟩ := hrel
              have HF2 := Lib.hid hF
              by_cases hlt : k < l.length
              · obtain ⟨b1, rfl, c0, c1, c2, c3⟩ := kept_fnd Hk1.out Hm1.out hF hlt
                obtain ⟨b2, rfl, e0, e1, e2, e3⟩ := kept_fnd Hk2.out Hm2.out hF hlt
                generalize l.getD k ⟨0, 0, 0, 0⟩ = x at *
                obtain ⟨xa, xp, xf, xo⟩ := x
                simp only at *
                have k1 : (k : Int) < l.length := by omega
                have k2 : (0 : Int) ≤ k := by omega
                have k3 : ((k : Int)).toNat = k := by omega
                clear hF
                go_wp2_with (fail)
                go_quiet (fail)
                go_wp2
                go_roundw
                case rel => exact ⟨k + 1, by go_num, by omega, HF2.out.grow (Fr.below_drewN' nq _)⟩
                case measure => simp [intOf]; omega
              · have k1 : ¬ (k : Int) < l.length := by omega
                clear hF
                go_wp2_with (fail)
                go_loopw [140] (fun i wr => ∃ (k : Nat), i = .int .i64 k ∧ k ≤ pl.length ∧ FK W0 m 400 t g K4 wr) (fun i _ => pl.length - (intOf i).toNat)
                case atStart => exact ⟨0, rfl, by omega, HF2.out⟩
                case round =>
                  clear HF2
                  obtain ⟨k, rfl, hk, hF⟩ := hrel
                  have HF3 := Lib.hid hF
                  by_cases hlt : k < pl.length
                  · have hget : (icl pl)[k]? = some (.int .i64 (pl.getD k 0 : Nat)) := by
                      unfold icl
                      rw [List.getElem?_map, List.getD_eq_getElem?_getD, List.getElem?_eq_getElem hlt]
                      rfl
                    obtain ⟨b1, rfl, c0⟩ := Hk3.out _ g t K4 Hm3.out hF k _ hget
                    obtain ⟨b2, rfl, e0⟩ := Hk4.out _ g t K4 Hm4.out hF k _ hget
                    generalize pl.getD k 0 = x at *
                    have k1 : (k : Int) < pl.length := by omega
                    have k2 : (0 : Int) ≤ k := by omega
                    have k3 : ((k : Int)).toNat = k := by omega
                    clear hF hget
                    go_wp2_with (fail)
                    go_quiet (fail)
                    go_wp2
                    go_roundw
                    case rel => exact ⟨k + 1, by go_num, by omega, HF3.out.grow (Fr.below_drewN' nq _)⟩
                    case measure => simp [intOf]; omega
                  · have k1 : ¬ (k : Int) < pl.length := by omega
                    clear hF
                    go_wp2_with (fail)
                    go_roundw
                    case rel => exact ⟨1, by go_num, by omega, HF3.out.sub (fun x hx => by simp only [List.mem_singleton] at hx; subst hx; exact Hml.out)⟩
                    case measure => simp [intOf]
        · have HA := Lib.hid (fun K W (h : FK W0 m 400 t g K W) => all_fk h Hsm.out 1 top (by omega))
          have HRA := Lib.hid (fun K W (h : FK W0 m 400 t g K W) (hm : (bl, .cells cur 23 (0, 0)) ∈ K) => rall_fk (c := cap) h Hsm.out HU.out hm 1 top (by omega))
          have HP := Lib.hid (fun K W (h : FK W0 m 400 t g K W) => pointers_fk h Hsm.out 1 top (by omega))
          have HRP := Lib.hid (fun K W (h : FK W0 m 400 t g K W) (hm : (bl, .cells cur 23 (0, 0)) ∈ K) => rpointers_fk (c := cap) h Hsm.out HU.out hm 1 top (by omega))
          have HW := Lib.hid (fun K W (h : FK W0 m 400 t g K W) => whole_fk h Hsm.out 1 top (by omega) ar rs cr HRs.out r2)
          have HRW := Lib.hid (fun K W (h : FK W0 m 400 t g K W) (hm : (bl, .cells cur 23 (0, 0)) ∈ K) => rwhole_fk (c := cap) h Hsm.out HU.out hm 1 top (by omega) ar rs cr HRs.out r2)
          obtain ⟨f1, f2, f3⟩ := allR_facts 400 g 1 top
          have f4 := (PR_facts 400 g 1 top (by omega)).2
          generalize allR 400 g 1 top = A at *
          generalize PR 400 g 1 top = P at *
          generalize whE 400 g 1 top rs = E at *
          obtain ⟨l, er⟩ := A
          obtain ⟨pl, pe⟩ := P
          simp only at *
          unfold spc at *
          have hF := HBX.out 1 top
          have hq := hF.block (X := wr.heap.size) (o := .cells #[.int .i64 1, .int .i64 top] 50 (0, 0)) (by simp)
          have d0 := at_cell hq 0 (.int .i64 1) rfl
          have d1 := at_cell hq 1 (.int .i64 top) rfl
          clear hq
          have HS := Lib.hid hF
          have l1 : (l.length : Int) ≤ 400 := by omega
          have l2 : (pl.length : Int) ≤ 1100000 := by omega
          clear hF f1 f3 HBX
          have hix : ∀ w : World, (Instr.index 143 (.agg #[.int .i64 ra, .int .i64 rb, .int .i64 1, .int .i64 (top : Int)]) (.int .i64 1)).run Try.prog w = .ok (.agg #[.int .i64 1, .int .i64 top]) w := fun w => by kernel_rfl
          go_wp2_with (first
            | (go_at_call 90; refine (HA.out _ _ HS.out).mono ?_; rintro e w3 ⟨al1, cap1, rfl, h3⟩; clear d0 d1 HS; obtain ⟨D1, hF, hk1⟩ := h3.kept; have hq := hF.block (X := wr.heap.size) (o := .cells #[.int .i64 1, .int .i64 top] 50 (0, 0)) (by simp); have d0 := at_cell hq 0 (.int .i64 1) rfl; have d1 := at_cell hq 1 (.int .i64 top) rfl; clear hq; have HS1 := Lib.hid hF; have Hk1 := Lib.hid hk1; clear h3 hF hk1)
            | (go_at_call 92; refine (HRA.out _ _ HS1.out (by simp)).mono ?_; rintro e w4 ⟨al2, cap2, rfl, h4⟩; clear d0 d1 HS1; obtain ⟨D2, hF, hk2⟩ := h4.kept; have hq := hF.block (X := wr.heap.size) (o := .cells #[.int .i64 1, .int .i64 top] 50 (0, 0)) (by simp); have d0 := at_cell hq 0 (.int .i64 1) rfl; have d1 := at_cell hq 1 (.int .i64 top) rfl; clear hq; have HS2 := Lib.hid hF; have Hk2 := Lib.hid hk2; clear h4 hF hk2)
            | (go_at_call 93; refine (HP.out _ _ HS2.out).mono ?_; rintro e w5 ⟨al3, cap3, rfl, h5⟩; clear d0 d1 HS2; obtain ⟨D3, hF, hk3⟩ := h5.kept; have hq := hF.block (X := wr.heap.size) (o := .cells #[.int .i64 1, .int .i64 top] 50 (0, 0)) (by simp); have d0 := at_cell hq 0 (.int .i64 1) rfl; have d1 := at_cell hq 1 (.int .i64 top) rfl; clear hq; have HS3 := Lib.hid hF; have Hk3 := Lib.hid hk3; clear h5 hF hk3)
            | (go_at_call 94; refine (HRP.out _ _ HS3.out (by simp)).mono ?_; rintro e w6 ⟨al4, cap4, rfl, h6⟩; clear d0 d1 HS3; obtain ⟨D4, hF, hk4⟩ := h6.kept; have hq := hF.block (X := wr.heap.size) (o := .cells #[.int .i64 1, .int .i64 top] 50 (0, 0)) (by simp); have d0 := at_cell hq 0 (.int .i64 1) rfl; have d1 := at_cell hq 1 (.int .i64 top) rfl; clear hq; have HS4 := Lib.hid (hF.grow (below_drew _)); have Hk4 := Lib.hid hk4; clear h6 hF hk4))
          have Hm1 := Lib.hid (show ∀ x ∈ D1, x ∈ D4 ++ (D3 ++ (D2 ++ (D1 ++ [(wr.heap.size, .cells #[.int .i64 1, .int .i64 top] 50 (0, 0)), (bl, .cells cur 23 (0, 0))]))) from fun x hx => by simp [hx])
          have Hm2 := Lib.hid (show ∀ x ∈ D2, x ∈ D4 ++ (D3 ++ (D2 ++ (D1 ++ [(wr.heap.size, .cells #[.int .i64 1, .int .i64 top] 50 (0, 0)), (bl, .cells cur 23 (0, 0))]))) from fun x hx => by simp [hx])
          have Hm3 := Lib.hid (show ∀ x ∈ D3, x ∈ D4 ++ (D3 ++ (D2 ++ (D1 ++ [(wr.heap.size, .cells #[.int .i64 1, .int .i64 top] 50 (0, 0)), (bl, .cells cur 23 (0, 0))]))) from fun x hx => by simp [hx])
          have Hm4 := Lib.hid (show ∀ x ∈ D4, x ∈ D4 ++ (D3 ++ (D2 ++ (D1 ++ [(wr.heap.size, .cells #[.int .i64 1, .int .i64 top] 50 (0, 0)), (bl, .cells cur 23 (0, 0))]))) from fun x hx => by simp [hx])
          have Hmb := Lib.hid (show (wr.heap.size, .cells #[.int .i64 1, .int .i64 top] 50 (0, 0)) ∈ D4 ++ (D3 ++ (D2 ++ (D1 ++ [(wr.heap.size, .cells #[.int .i64 1, .int .i64 top] 50 (0, 0)), (bl, .cells cur 23 (0, 0))]))) by simp)
          have Hml := Lib.hid (show (bl, .cells cur 23 (0, 0)) ∈ D4 ++ (D3 ++ (D2 ++ (D1 ++ [(wr.heap.size, .cells #[.int .i64 1, .int .i64 top] 50 (0, 0)), (bl, .cells cur 23 (0, 0))]))) by simp)
          generalize D4 ++ (D3 ++ (D2 ++ (D1 ++ [(wr.heap.size, .cells #[.int .i64 1, .int .i64 top] 50 (0, 0)), (bl, .cells cur 23 (0, 0))]))) = K4 at *
          have HS := HS4
          clear HS4 HA HRA HP HRP hix
          go_region_held3 (fun w' => w'.cell? ⟨wr.heap.size, 0, none⟩ = some (.int .i64 1) ∧ w'.cell? ⟨wr.heap.size, 1, none⟩ = some (.int .i64 top)) (first | exact ⟨d0, d1⟩ | go_keep) (first | (go_at_call 95; refine (HW.out _ _ HS.out).mono ?_; rintro e w7 ⟨rfl, hs⟩; clear HS d0 d1; have HS := Lib.hid hs; have hq := hs.block Hmb.out; have d0 := at_cell hq 0 (.int .i64 1) rfl; have d1 := at_cell hq 1 (.int .i64 top) rfl; clear hs hq) | (go_at_call 96; refine (HRW.out _ _ HS.out Hml.out).mono ?_; rintro e w8 ⟨rfl, hs⟩; clear HS d0 d1; have HS := Lib.hid hs; have hq := hs.block Hmb.out; have d0 := at_cell hq 0 (.int .i64 1) rfl; have d1 := at_cell hq 1 (.int .i64 top) rfl; clear hs hq))
          all_goals
            clear d0 d1 HW HRW
            go_wp2_with (fail)
            go_loopw [125] (fun i wr => ∃ (k : Nat), i = .int .i64 k ∧ k ≤ l.length ∧ FK W0 m 400 t g K4 wr) (fun i _ => l.length - (intOf i).toNat)
            case atStart => exact ⟨0, rfl, by omega, HS.out⟩
            case round =>
              clear HS
              obtain ⟨k, rfl, hk, hF⟩ := hrel
              have HF2 := Lib.hid hF
              by_cases hlt : k < l.length
              · obtain ⟨b1, rfl, c0, c1, c2, c3⟩ := kept_fnd Hk1.out Hm1.out hF hlt
                obtain ⟨b2, rfl, e0, e1, e2, e3⟩ := kept_fnd Hk2.out Hm2.out hF hlt
                generalize l.getD k ⟨0, 0, 0, 0⟩ = x at *
                obtain ⟨xa, xp, xf, xo⟩ := x
                simp only at *
                have k1 : (k : Int) < l.length := by omega
                have k2 : (0 : Int) ≤ k := by omega
                have k3 : ((k : Int)).toNat = k := by omega
                clear hF
                go_wp2_with (fail)
                go_quiet (fail)
                go_wp2
                go_roundw
                case rel => exact ⟨k + 1, by go_num, by omega, HF2.out.grow (Fr.below_drewN' nq _)⟩
                case measure => simp [intOf]; omega
              · have k1 : ¬ (k : Int) < l.length := by omega
                clear hF
                go_wp2_with (fail)
                go_loopw [140] (fun i wr => ∃ (k : Nat), i = .int .i64 k ∧ k ≤ pl.length ∧ FK W0 m 400 t g K4 wr) (fun i _ => pl.length - (intOf i).toNat)
                case atStart => exact ⟨0, rfl, by omega, HF2.out⟩
                case round =>
                  clear HF2
                  obtain ⟨k, rfl, hk, hF⟩ := hrel
                  have HF3 := Lib.hid hF
                  by_cases hlt : k < pl.length
                  · have hget : (icl pl)[k]? = some (.int .i64 (pl.getD k 0 : Nat)) := by
                      unfold icl
                      rw [List.getElem?_map, List.getD_eq_getElem?_getD, List.getElem?_eq_getElem hlt]
                      rfl
                    obtain ⟨b1, rfl, c0⟩ := Hk3.out _ g t K4 Hm3.out hF k _ hget
                    obtain ⟨b2, rfl, e0⟩ := Hk4.out _ g t K4 Hm4.out hF k _ hget
                    generalize pl.getD k 0 = x at *
                    have k1 : (k : Int) < pl.length := by omega
                    have k2 : (0 : Int) ≤ k := by omega
                    have k3 : ((k : Int)).toNat = k := by omega
                    clear hF hget
                    go_wp2_with (fail)
                    go_quiet (fail)
                    go_wp2
                    go_roundw
                    case rel => exact ⟨k + 1, by go_num, by omega, HF3.out.grow (Fr.below_drewN' nq _)⟩
                    case measure => simp [intOf]; omega
                  · have k1 : ¬ (k : Int) < pl.length := by omega
                    clear hF
                    go_wp2_with (fail)
                    go_roundw
                    case rel => exact ⟨2, by go_num, by omega, HF3.out.sub (fun x hx => by simp only [List.mem_singleton] at hx; subst hx; exact Hml.out)⟩
                    case measure => simp [intOf]
        · go_wp2_with (first
            | (go_at_call 88; refine (lives18_yes _).mono ?_; rintro e w7 ⟨rfl, hb⟩; have H7 := Lib.hid (seq (HB2.out.trans (HF.out.below.mono HB2.out.size)) hb); clear hb))
          go_ret
          exact ⟨rfl, H7.out⟩
end Go.Proofs.Ytkcijlndblbidaa
