/- The walk of the law BumpPlays. Printed by wip/tools/genbumpplays.py. -/
import Derived.Test.YtkcijlndblbidaaBumpJ
namespace Go.Proofs.Ytkcijlndblbidaa.A16
open Go.ChangeShapes Go.WideShapes Go.ChangeAt Go.RowKit
set_option linter.unusedVariables false

set_option maxRecDepth 100000 in
theorem plays_many (x a b : Int) (c : Option Addr) (len cap : Nat) (w : World) (hl : 100 < len) (hm : len ≤ maxLen) :
    Calls Try.prog 7 #[.int .u8 x, .agg #[.int .i64 a, .int .i64 b], .slice c len cap] w fun e w' => e = .returned (.bool true) ∧ Below w.heap.size w w' := by
  unfold maxLen at hm
  have Hv := Lib.hid blives_any
  have Hb0 := Lib.hid (below_new w (.cells #[.int .i64 a, .int .i64 b] 50))
  go_enter Try.func7, Try.ntmps7
  go_wp2_with (go_at_call 31; refine (Hv.out _).mono ?_; rintro e w2 ⟨rfl, hb⟩)
  go_ret
  exact ⟨rfl, seq Hb0.out hb⟩
set_option maxRecDepth 100000 in
set_option maxHeartbeats 2000000 in
theorem plays_no (x : Nat) (hx : x < 256) (a b : Int) (c : Option Addr) (len cap : Nat) (w : World) (hl : ¬ 100 < len) (hn : ¬ okR 64 a b) :
    Calls Try.prog 7 #[.int .u8 x, .agg #[.int .i64 a, .int .i64 b], .slice c len cap] w fun e w' => e = .returned (.bool true) ∧ Below w.heap.size w w' := by
  have q1 : decide (100 < (len : Int)) = false := decide_eq_false (by omega)
  have hl2 : len ≤ 100 := by omega
  have Hv := Lib.hid blives_any
  have hb0 := below_new w (.cells #[.int .i64 a, .int .i64 b] 50)
  obtain ⟨room, hroom⟩ : ∃ room, x % 20 + 1 = room := ⟨_, rfl⟩
  have hri : (x : Int) % 20 + 1 = room := by omega
  have d0 := heap_alloc_new w (.cells #[.int .i64 a, .int .i64 b] 50)
  have Hd0 := Lib.hid d0
  have Hb0 := Lib.hid hb0
  have Hnew := Lib.hid fun W => new_vk 64 4 room W (by omega) (by omega) (by omega) (by unfold Fr.isPage; omega) (by omega) (by omega)
  have Hnew9 := Lib.hid fun W => new9_yes room W (by omega) (by omega)
  have hx0 : (0 : Int) ≤ x := by omega
  have hx1 : (x : Int) < 256 := by omega
  have Hn := Lib.hid hn
  clear hb0 d0 hn hroom
  go_enter Try.func7, Try.ntmps7
  go_wp2_with (first
    | (go_at_call 17; refine (Hnew.out _).mono ?_; rintro e w2 ⟨m, rfl, h⟩; have M := Lib.hid h; clear h Hnew)
    | (go_at_call 40; refine (Hnew9.out _).mono ?_; rintro e w3 ⟨rfl, h, hb⟩; have R := Lib.hid h; have Hb3 := Lib.hid hb; have M3 := Lib.hid (M.out.grow hb); have hd3 := blockB hb (Nat.le_refl _) (blockB M.out.below (Nat.le_refl _) Hd0.out); have e0 := at_cell hd3 0 _ rfl; have e1 := at_cell hd3 1 _ rfl; clear h hb hd3)
    | (go_at_call 32; refine (new_bk_no M3.out a b Hn.out).mono ?_; rintro e w4 ⟨rfl, rfl⟩)
    | (go_at_call 41; refine (new16_no R.out a b Hn.out).mono ?_; rintro e w5 ⟨rfl, rfl⟩)
    | (go_at_call 31; refine (Hv.out _).mono ?_; rintro e w6 ⟨rfl, hb6⟩))
  go_ret
  exact ⟨rfl, seq (seq (seq Hb0.out M.out.below) Hb3.out) hb6⟩
set_option maxRecDepth 100000 in
set_option maxHeartbeats 8000000 in
theorem plays_walk (x : Nat) (hx : x < 256) (a b : Nat) (hok : okR 64 a b) (c : Option Addr) (cap : Nat) (ps : List Act) (w : World) (hl : ps.length ≤ 100) (hP : Acts w c ps) :
    Calls Try.prog 7 #[.int .u8 x, .agg #[.int .i64 a, .int .i64 b], .slice c ps.length cap] w fun e w' => e = .returned (.bool true) ∧ Below w.heap.size w w' := by
  have q1 : decide (100 < (ps.length : Int)) = false := decide_eq_false (by omega)
  have Hv := Lib.hid blives_any
  have hb0 := below_new w (.cells #[.int .i64 a, .int .i64 b] 50)
  obtain ⟨room, hroom⟩ : ∃ room, x % 20 + 1 = room := ⟨_, rfl⟩
  have hri : (x : Int) % 20 + 1 = room := by omega
  have Hd0 := Lib.hid (heap_alloc_new w (.cells #[.int .i64 a, .int .i64 b] 50))
  have Hb0 := Lib.hid hb0
  have HP := Lib.hid (hP.below hb0)
  have Hnew := Lib.hid fun W => new_vk 64 4 room W (by omega) (by omega) (by omega) (by unfold Fr.isPage; omega) (by omega) (by omega)
  have Hnew9 := Lib.hid fun W => new9_yes room W (by omega) (by omega)
  have hx0 : (0 : Int) ≤ x := by omega
  have hx1 : (x : Int) < 256 := by omega
  have Hok := Lib.hid hok
  clear hb0 hok hroom hP
  go_enter Try.func7, Try.ntmps7
  go_wp2_with (first
    | (go_at_call 17; refine (Hnew.out _).mono ?_; rintro e w2 ⟨m, rfl, h⟩; have M := Lib.hid h; clear h Hnew)
    | (go_at_call 40; refine (Hnew9.out _).mono ?_; rintro e w3 ⟨rfl, h, hb⟩; have R := Lib.hid h; have Hb3 := Lib.hid hb; have M3 := Lib.hid (M.out.grow hb); have hd3 := blockB hb (Nat.le_refl _) (blockB M.out.below (Nat.le_refl _) Hd0.out); have e0 := at_cell hd3 0 _ rfl; have e1 := at_cell hd3 1 _ rfl; have Hd3 := Lib.hid hd3; clear h hb hd3)
    | (go_at_call 32; refine (new_bk_eq M3.out a b Hok.out).mono ?_; rintro e w4 ⟨rfl, rfl⟩; clear e0 e1; have hd4 := blockB (below_new w3 (.cells #[.pointer (some ⟨m, 0, none⟩), .int .i64 a, .int .i64 a, .int .i64 b] 169)) (Nat.le_refl _) Hd3.out; have e0 := at_cell hd4 0 _ rfl; have e1 := at_cell hd4 1 _ rfl; clear hd4)
    | (go_at_call 41; refine (new16_yes (R.out.grow (below_new w3 (.cells #[.pointer (some ⟨m, 0, none⟩), .int .i64 a, .int .i64 a, .int .i64 b] 169))) a b Hok.out).mono ?_; rintro e w5 ⟨rfl, h, hb⟩; have HR := Lib.hid h; have Hb5 := Lib.hid hb; clear h hb e0 e1))
  have HJ := Lib.hid (start_J M.out Hb3.out (by have := Hok.out; unfold okR at this; omega) Hb5.out (by simpa using HR.out) (by have := R.out.in _ rfl; omega))
  have hsz5 : (w3.alloc (.cells #[.pointer (some ⟨m, 0, none⟩), .int .i64 a, .int .i64 a, .int .i64 b] 169)).heap.size = w3.heap.size + 1 := by simp
  have Hbase := Lib.hid (seq Hb0.out HJ.out.below)
  clear HR Hb5 M3 M R Hb3 Hd3 Hd0 hsz5
  have Hab := Lib.hid (show a ≤ b ∧ b ≤ 64 by have := Hok.out; unfold okR at this; omega)
  generalize w3.heap.size + 1 = rr at *
  generalize w3.heap.size = r at *
  generalize w2.heap.size + 1 = rb at *
  go_loopw [76] (fun i wr => ∃ (k : Nat) (v : VS) (top : Nat), i = .int .i64 k ∧ k ≤ ps.length ∧ J (w.alloc (.cells #[.int .i64 a, .int .i64 b] 50)) m r rb rr room (16 * k) v a top b v top [] wr) (fun i _ => ps.length - (intOf i).toNat)
  case atStart => exact ⟨0, VS.zero, a, rfl, by omega, HJ.out⟩
  case round =>
    clear HJ Hbase
    obtain ⟨k, v, top, rfl, hm, hs⟩ := hrel
    have hb := hs.below
    have HbW := Lib.hid hb
    by_cases hlt : k < ps.length
    · have hP2 := HP.out.below hb
      obtain ⟨b1, off, ha, hcell⟩ := hP2.cell
      obtain rfl : c = some ⟨b1, off, none⟩ := by
        rcases ha with rfl | ha
        · simp at hlt
        · exact ha
      obtain ⟨c0, c1⟩ := hcell k hlt
      have hact := hP2.each k hlt
      clear hcell ha hP2 hb
      generalize ps.getD k default = q at *
      obtain ⟨kd, pn⟩ := q
      obtain ⟨hkd, hpn⟩ := hact
      simp only at *
      have hdim := hs.dims
      have hbx := hs.box #[.int .u8 kd, .int .i64 pn] 59
      have hblk := hbx.block (List.mem_cons_self ..)
      have d0 := at_cell hblk 0 _ rfl
      have d1 := at_cell hblk 1 _ rfl
      have HS := Lib.hid hbx
      clear hs hbx hblk
      have hk8 : (kd : Int) % 8 = 5 ∨ (kd : Int) % 8 = 6 ∨ (kd : Int) % 8 = 7 ∨ ((kd : Int) % 8 = 0 ∨ (kd : Int) % 8 = 1 ∨ (kd : Int) % 8 = 2 ∨ (kd : Int) % 8 = 3 ∨ (kd : Int) % 8 = 4) := by omega
      rcases hk8 with hk8 | hk8 | hk8 | hk8
      · obtain ⟨top', ht'⟩ : ∃ top', setT a b top pn = top' := ⟨_, rfl⟩
        obtain ⟨E, hE⟩ : ∃ E, setE a b pn = E := ⟨_, rfl⟩
        have hop := fun W v2 top2 (h : J (w.alloc (.cells #[.int .i64 a, .int .i64 b] 50)) m r rb rr room (16 * k) v a top b v2 top2 [(wr.heap.size, .cells #[.int .u8 kd, .int .i64 pn] 59 (0, 0))] W) => set_j h pn
        have hrop := fun W v1 top1 (h : J (w.alloc (.cells #[.int .i64 a, .int .i64 b] 50)) m r rb rr room (16 * k) v1 a top1 b v top [(wr.heap.size, .cells #[.int .u8 kd, .int .i64 pn] 59 (0, 0))] W) => rset_j h pn
        simp only [ht', hE] at hop hrop
        have Hop := Lib.hid hop
        have Hrop := Lib.hid hrop
        obtain ⟨v', hv'⟩ : ∃ v', v = v' := ⟨_, rfl⟩
        clear hop hrop ht' hE
        go_wp2
        have HSd := Lib.hid HS.out.drew
        clear HS
        have HS := HSd
        clear HSd
        go_region_held3 (fun w' => w'.cell? ⟨wr.heap.size, 1, none⟩ = some (.int .i64 pn)) (first | exact d1 | go_keep) (first | (go_at_call 35; refine (Hop.out _ _ _ HS.out).mono ?_; rintro e w9 ⟨rfl, h9⟩; clear HS d0 d1; have HS := Lib.hid (h9); have hblk := h9.block (List.mem_cons_self ..); have d0 := at_cell hblk 0 _ rfl; have d1 := at_cell hblk 1 _ rfl; clear h9 hblk) | (go_at_call 42; refine (Hrop.out _ _ _ HS.out).mono ?_; rintro e w9 ⟨rfl, h9⟩; clear HS d0 d1; have HS := Lib.hid (h9); have hblk := h9.block (List.mem_cons_self ..); have d0 := at_cell hblk 0 _ rfl; have d1 := at_cell hblk 1 _ rfl; clear h9 hblk))
        all_goals
          subst hv'
          replace HS := Lib.hid (HS.out.more (Nat.le_add_right (16 * k) 16))
          have hdm := HS.out.dims
          clear d0 d1 c0 c1 hk8
          obtain ⟨wo, rfl⟩ : ∃ wo : World, wo = wr := ⟨_, rfl⟩
          generalize wo.heap.size = X at *
          go_wp2
          go_loopw [134] (fun i wr => ∃ j : Nat, i = .int .i64 j ∧ j ≤ 16 ∧ J (w.alloc (.cells #[.int .i64 a, .int .i64 b] 50)) m r rb rr room (16 * k + 16) v a top' b v top' [(X, .cells #[.int .u8 kd, .int .i64 pn] 59 (0, 0))] wr) (fun i _ => 16 - (intOf i).toNat)
          case atStart => exact ⟨0, rfl, by omega, HS.out⟩
          case round =>
            clear HS
            obtain ⟨j, rfl, hj, hs⟩ := hrel
            have HS := Lib.hid hs
            by_cases hj16 : j < 16
            · have hmp := mapped_j hs (j : Int)
              have hj1 : (j : Int) < 16 := by omega
              cases hM : isM (64 / 4) v (j : Int) with
              | false =>
                rw [hM] at hmp
                have Hmp := Lib.hid hmp
                have Hat := Lib.hid fun W (k2 : J (w.alloc (.cells #[.int .i64 a, .int .i64 b] 50)) m r rb rr room (16 * k + 16) v a top' b v top' [(X, .cells #[.int .u8 kd, .int .i64 pn] 59 (0, 0))] W) => at_j_no k2 hM
                clear hmp hM hs
                go_wp2_with (first | (go_at_call 25; refine Hmp.out.mono ?_; rintro e w8 ⟨rfl, k8⟩; have HS8 := Lib.hid k8; clear k8) | (go_at_call 46; refine (Hat.out _ HS8.out).mono ?_; rintro e w9 ⟨rfl, rfl⟩))
                go_roundw
                case rel => exact ⟨j + 1, by go_num, by omega, HS8.out⟩
                case measure => simp [intOf]; omega
              | true =>
                rw [hM] at hmp
                have Hmp := Lib.hid hmp
                have Hat := Lib.hid fun W (k2 : J (w.alloc (.cells #[.int .i64 a, .int .i64 b] 50)) m r rb rr room (16 * k + 16) v a top' b v top' [(X, .cells #[.int .u8 kd, .int .i64 pn] 59 (0, 0))] W) => at_j_yes k2 hM
                clear hmp hM hs
                go_wp2_with (first | (go_at_call 25; refine Hmp.out.mono ?_; rintro e w8 ⟨rfl, k8⟩; have HS8 := Lib.hid k8; obtain ⟨z, hz, hat⟩ := Hat.out _ k8; have Hat2 := Lib.hid hat; have hz0 : (0 : Int) ≤ z := (by omega); clear k8 hat) | (go_at_call 46; refine Hat2.out.mono ?_; rintro e w9 ⟨rfl, rfl⟩))
                go_roundw
                case rel => exact ⟨j + 1, by go_num, by omega, HS8.out⟩
                case measure => simp [intOf]; omega
            · obtain rfl : j = 16 := by omega
              have hcast : ((16 : Nat) : Int) = 16 := rfl
              have H1 := Lib.hid fun W (k2 : J (w.alloc (.cells #[.int .i64 a, .int .i64 b] 50)) m r rb rr room (16 * k + 16) v a top' b v top' [(X, .cells #[.int .u8 kd, .int .i64 pn] 59 (0, 0))] W) => base_j k2
              have H2 := Lib.hid fun W (k2 : J (w.alloc (.cells #[.int .i64 a, .int .i64 b] 50)) m r rb rr room (16 * k + 16) v a top' b v top' [(X, .cells #[.int .u8 kd, .int .i64 pn] 59 (0, 0))] W) => top_j k2
              have H3 := Lib.hid fun W (k2 : J (w.alloc (.cells #[.int .i64 a, .int .i64 b] 50)) m r rb rr room (16 * k + 16) v a top' b v top' [(X, .cells #[.int .u8 kd, .int .i64 pn] 59 (0, 0))] W) => limit_j k2
              have H4 := Lib.hid fun W (k2 : J (w.alloc (.cells #[.int .i64 a, .int .i64 b] 50)) m r rb rr room (16 * k + 16) v a top' b v top' [(X, .cells #[.int .u8 kd, .int .i64 pn] 59 (0, 0))] W) => left_j k2
              have s1 : IntKind.i64.wrap ((b : Int) - top') = (b : Int) - top' := IntWalk.i64_in _ (by have := Hab.out; omega)
              obtain ⟨f1, f2, f3⟩ := hs.rcells
              clear hs hcast
              go_wp2
              go_quiet ((first | (go_at_call 36; exact quiet_left (H1.out _ (HS.out.drewN _))) | (go_at_call 34; exact quiet_left (H2.out _ (HS.out.drewN _))) | (go_at_call 37; exact quiet_left (H3.out _ (HS.out.drewN _))) | (go_at_call 38; exact quiet_more (H4.out _ (HS.out.drewN _)))))
              clear s1 f1 f2 f3
              go_wp2
              go_roundw
              case rel => exact ⟨k + 1, v, top', by go_num, by omega, ((HS.out.drewN _).tail).more (by omega)⟩
              case measure => simp [intOf]; omega
      · obtain ⟨v', hv'⟩ : ∃ v', (freeR 64 4 v a b).2 = v' := ⟨_, rfl⟩
        obtain ⟨E, hE⟩ : ∃ E, (freeR 64 4 v a b).1 = E := ⟨_, rfl⟩
        have hop := fun W v2 top2 (h : J (w.alloc (.cells #[.int .i64 a, .int .i64 b] 50)) m r rb rr room (16 * k) v a top b v2 top2 [(wr.heap.size, .cells #[.int .u8 kd, .int .i64 pn] 59 (0, 0))] W) => release_j h
        have hrop := fun W v1 top1 (h : J (w.alloc (.cells #[.int .i64 a, .int .i64 b] 50)) m r rb rr room (16 * k) v1 a top1 b v top [(wr.heap.size, .cells #[.int .u8 kd, .int .i64 pn] 59 (0, 0))] W) => rrelease_j h
        simp only [hv', hE] at hop hrop
        have Hop := Lib.hid hop
        have Hrop := Lib.hid hrop
        clear hop hrop hv' hE
        go_wp2_with (first | (go_at_call 39; refine (Hop.out _ _ _ HS.out).mono ?_; rintro e w9 ⟨rfl, h9⟩; clear HS d0 d1; have HS := Lib.hid (h9); have hblk := h9.block (List.mem_cons_self ..); have d0 := at_cell hblk 0 _ rfl; have d1 := at_cell hblk 1 _ rfl; clear h9 hblk) | (go_at_call 43; refine (Hrop.out _ _ _ HS.out).mono ?_; rintro e w9 ⟨rfl, h9⟩; clear HS d0 d1; have HS := Lib.hid (h9); have hblk := h9.block (List.mem_cons_self ..); have d0 := at_cell hblk 0 _ rfl; have d1 := at_cell hblk 1 _ rfl; clear h9 hblk))
        replace HS := Lib.hid (HS.out.more (Nat.le_add_right (16 * k) 16))
        have hdm := HS.out.dims
        clear d0 d1 c0 c1 hk8
        obtain ⟨wo, rfl⟩ : ∃ wo : World, wo = wr := ⟨_, rfl⟩
        generalize wo.heap.size = X at *
        go_wp2
        go_loopw [134] (fun i wr => ∃ j : Nat, i = .int .i64 j ∧ j ≤ 16 ∧ J (w.alloc (.cells #[.int .i64 a, .int .i64 b] 50)) m r rb rr room (16 * k + 16) v' a a b v' a [(X, .cells #[.int .u8 kd, .int .i64 pn] 59 (0, 0))] wr) (fun i _ => 16 - (intOf i).toNat)
        case atStart => exact ⟨0, rfl, by omega, HS.out⟩
        case round =>
          clear HS
          obtain ⟨j, rfl, hj, hs⟩ := hrel
          have HS := Lib.hid hs
          by_cases hj16 : j < 16
          · have hmp := mapped_j hs (j : Int)
            have hj1 : (j : Int) < 16 := by omega
            cases hM : isM (64 / 4) v' (j : Int) with
            | false =>
              rw [hM] at hmp
              have Hmp := Lib.hid hmp
              have Hat := Lib.hid fun W (k2 : J (w.alloc (.cells #[.int .i64 a, .int .i64 b] 50)) m r rb rr room (16 * k + 16) v' a a b v' a [(X, .cells #[.int .u8 kd, .int .i64 pn] 59 (0, 0))] W) => at_j_no k2 hM
              clear hmp hM hs
              go_wp2_with (first | (go_at_call 25; refine Hmp.out.mono ?_; rintro e w8 ⟨rfl, k8⟩; have HS8 := Lib.hid k8; clear k8) | (go_at_call 46; refine (Hat.out _ HS8.out).mono ?_; rintro e w9 ⟨rfl, rfl⟩))
              go_roundw
              case rel => exact ⟨j + 1, by go_num, by omega, HS8.out⟩
              case measure => simp [intOf]; omega
            | true =>
              rw [hM] at hmp
              have Hmp := Lib.hid hmp
              have Hat := Lib.hid fun W (k2 : J (w.alloc (.cells #[.int .i64 a, .int .i64 b] 50)) m r rb rr room (16 * k + 16) v' a a b v' a [(X, .cells #[.int .u8 kd, .int .i64 pn] 59 (0, 0))] W) => at_j_yes k2 hM
              clear hmp hM hs
              go_wp2_with (first | (go_at_call 25; refine Hmp.out.mono ?_; rintro e w8 ⟨rfl, k8⟩; have HS8 := Lib.hid k8; obtain ⟨z, hz, hat⟩ := Hat.out _ k8; have Hat2 := Lib.hid hat; have hz0 : (0 : Int) ≤ z := (by omega); clear k8 hat) | (go_at_call 46; refine Hat2.out.mono ?_; rintro e w9 ⟨rfl, rfl⟩))
              go_roundw
              case rel => exact ⟨j + 1, by go_num, by omega, HS8.out⟩
              case measure => simp [intOf]; omega
          · obtain rfl : j = 16 := by omega
            have hcast : ((16 : Nat) : Int) = 16 := rfl
            have H1 := Lib.hid fun W (k2 : J (w.alloc (.cells #[.int .i64 a, .int .i64 b] 50)) m r rb rr room (16 * k + 16) v' a a b v' a [(X, .cells #[.int .u8 kd, .int .i64 pn] 59 (0, 0))] W) => base_j k2
            have H2 := Lib.hid fun W (k2 : J (w.alloc (.cells #[.int .i64 a, .int .i64 b] 50)) m r rb rr room (16 * k + 16) v' a a b v' a [(X, .cells #[.int .u8 kd, .int .i64 pn] 59 (0, 0))] W) => top_j k2
            have H3 := Lib.hid fun W (k2 : J (w.alloc (.cells #[.int .i64 a, .int .i64 b] 50)) m r rb rr room (16 * k + 16) v' a a b v' a [(X, .cells #[.int .u8 kd, .int .i64 pn] 59 (0, 0))] W) => limit_j k2
            have H4 := Lib.hid fun W (k2 : J (w.alloc (.cells #[.int .i64 a, .int .i64 b] 50)) m r rb rr room (16 * k + 16) v' a a b v' a [(X, .cells #[.int .u8 kd, .int .i64 pn] 59 (0, 0))] W) => left_j k2
            have s1 : IntKind.i64.wrap ((b : Int) - a) = (b : Int) - a := IntWalk.i64_in _ (by have := Hab.out; omega)
            obtain ⟨f1, f2, f3⟩ := hs.rcells
            clear hs hcast
            go_wp2
            go_quiet ((first | (go_at_call 36; exact quiet_left (H1.out _ (HS.out.drewN _))) | (go_at_call 34; exact quiet_left (H2.out _ (HS.out.drewN _))) | (go_at_call 37; exact quiet_left (H3.out _ (HS.out.drewN _))) | (go_at_call 38; exact quiet_more (H4.out _ (HS.out.drewN _)))))
            clear s1 f1 f2 f3
            go_wp2
            go_roundw
            case rel => exact ⟨k + 1, v', a, by go_num, by omega, ((HS.out.drewN _).tail).more (by omega)⟩
            case measure => simp [intOf]; omega
      · obtain ⟨v', hv'⟩ : ∃ v', mapS (64 / 4) 4 room v pn = v' := ⟨_, rfl⟩
        obtain ⟨E, hE⟩ : ∃ E, mapE (64 / 4) room v pn = E := ⟨_, rfl⟩
        have hop := fun W v2 top2 (h : J (w.alloc (.cells #[.int .i64 a, .int .i64 b] 50)) m r rb rr room (16 * k) v a top b v2 top2 [(wr.heap.size, .cells #[.int .u8 kd, .int .i64 pn] 59 (0, 0))] W) => map_j h (by omega) pn
        have hrop := fun W t1 v1 top1 (h : J (w.alloc (.cells #[.int .i64 a, .int .i64 b] 50)) m r rb rr room t1 v1 a top1 b v top [(wr.heap.size, .cells #[.int .u8 kd, .int .i64 pn] 59 (0, 0))] W) => rmap_j h hdim.2.2.1 hdim.2.1 pn
        simp only [hv', hE] at hop hrop
        have Hop := Lib.hid hop
        have Hrop := Lib.hid hrop
        clear hop hrop hv' hE
        go_wp2
        have HSd := Lib.hid HS.out.drew
        clear HS
        have HS := HSd
        clear HSd
        go_region_held3 (fun w' => w'.cell? ⟨wr.heap.size, 1, none⟩ = some (.int .i64 pn)) (first | exact d1 | go_keep) (first | (go_at_call 20; refine (Hop.out _ _ _ HS.out).mono ?_; rintro e w9 ⟨rfl, h9⟩; clear HS d0 d1; have HS := Lib.hid (h9); have hblk := h9.block (List.mem_cons_self ..); have d0 := at_cell hblk 0 _ rfl; have d1 := at_cell hblk 1 _ rfl; clear h9 hblk) | (go_at_call 44; refine (Hrop.out _ _ _ _ HS.out).mono ?_; rintro e w9 ⟨rfl, h9⟩; clear HS d0 d1; have HS := Lib.hid (h9); have hblk := h9.block (List.mem_cons_self ..); have d0 := at_cell hblk 0 _ rfl; have d1 := at_cell hblk 1 _ rfl; clear h9 hblk))
        all_goals
          replace HS := Lib.hid (HS.out.more (show 16 * k + 1 ≤ 16 * k + 16 by omega))
          have hdm := HS.out.dims
          clear d0 d1 c0 c1 hk8
          obtain ⟨wo, rfl⟩ : ∃ wo : World, wo = wr := ⟨_, rfl⟩
          generalize wo.heap.size = X at *
          go_wp2
          go_loopw [134] (fun i wr => ∃ j : Nat, i = .int .i64 j ∧ j ≤ 16 ∧ J (w.alloc (.cells #[.int .i64 a, .int .i64 b] 50)) m r rb rr room (16 * k + 16) v' a top b v' top [(X, .cells #[.int .u8 kd, .int .i64 pn] 59 (0, 0))] wr) (fun i _ => 16 - (intOf i).toNat)
          case atStart => exact ⟨0, rfl, by omega, HS.out⟩
          case round =>
            clear HS
            obtain ⟨j, rfl, hj, hs⟩ := hrel
            have HS := Lib.hid hs
            by_cases hj16 : j < 16
            · have hmp := mapped_j hs (j : Int)
              have hj1 : (j : Int) < 16 := by omega
              cases hM : isM (64 / 4) v' (j : Int) with
              | false =>
                rw [hM] at hmp
                have Hmp := Lib.hid hmp
                have Hat := Lib.hid fun W (k2 : J (w.alloc (.cells #[.int .i64 a, .int .i64 b] 50)) m r rb rr room (16 * k + 16) v' a top b v' top [(X, .cells #[.int .u8 kd, .int .i64 pn] 59 (0, 0))] W) => at_j_no k2 hM
                clear hmp hM hs
                go_wp2_with (first | (go_at_call 25; refine Hmp.out.mono ?_; rintro e w8 ⟨rfl, k8⟩; have HS8 := Lib.hid k8; clear k8) | (go_at_call 46; refine (Hat.out _ HS8.out).mono ?_; rintro e w9 ⟨rfl, rfl⟩))
                go_roundw
                case rel => exact ⟨j + 1, by go_num, by omega, HS8.out⟩
                case measure => simp [intOf]; omega
              | true =>
                rw [hM] at hmp
                have Hmp := Lib.hid hmp
                have Hat := Lib.hid fun W (k2 : J (w.alloc (.cells #[.int .i64 a, .int .i64 b] 50)) m r rb rr room (16 * k + 16) v' a top b v' top [(X, .cells #[.int .u8 kd, .int .i64 pn] 59 (0, 0))] W) => at_j_yes k2 hM
                clear hmp hM hs
                go_wp2_with (first | (go_at_call 25; refine Hmp.out.mono ?_; rintro e w8 ⟨rfl, k8⟩; have HS8 := Lib.hid k8; obtain ⟨z, hz, hat⟩ := Hat.out _ k8; have Hat2 := Lib.hid hat; have hz0 : (0 : Int) ≤ z := (by omega); clear k8 hat) | (go_at_call 46; refine Hat2.out.mono ?_; rintro e w9 ⟨rfl, rfl⟩))
                go_roundw
                case rel => exact ⟨j + 1, by go_num, by omega, HS8.out⟩
                case measure => simp [intOf]; omega
            · obtain rfl : j = 16 := by omega
              have hcast : ((16 : Nat) : Int) = 16 := rfl
              have H1 := Lib.hid fun W (k2 : J (w.alloc (.cells #[.int .i64 a, .int .i64 b] 50)) m r rb rr room (16 * k + 16) v' a top b v' top [(X, .cells #[.int .u8 kd, .int .i64 pn] 59 (0, 0))] W) => base_j k2
              have H2 := Lib.hid fun W (k2 : J (w.alloc (.cells #[.int .i64 a, .int .i64 b] 50)) m r rb rr room (16 * k + 16) v' a top b v' top [(X, .cells #[.int .u8 kd, .int .i64 pn] 59 (0, 0))] W) => top_j k2
              have H3 := Lib.hid fun W (k2 : J (w.alloc (.cells #[.int .i64 a, .int .i64 b] 50)) m r rb rr room (16 * k + 16) v' a top b v' top [(X, .cells #[.int .u8 kd, .int .i64 pn] 59 (0, 0))] W) => limit_j k2
              have H4 := Lib.hid fun W (k2 : J (w.alloc (.cells #[.int .i64 a, .int .i64 b] 50)) m r rb rr room (16 * k + 16) v' a top b v' top [(X, .cells #[.int .u8 kd, .int .i64 pn] 59 (0, 0))] W) => left_j k2
              have s1 : IntKind.i64.wrap ((b : Int) - top) = (b : Int) - top := IntWalk.i64_in _ (by have := Hab.out; omega)
              obtain ⟨f1, f2, f3⟩ := hs.rcells
              clear hs hcast
              go_wp2
              go_quiet ((first | (go_at_call 36; exact quiet_left (H1.out _ (HS.out.drewN _))) | (go_at_call 34; exact quiet_left (H2.out _ (HS.out.drewN _))) | (go_at_call 37; exact quiet_left (H3.out _ (HS.out.drewN _))) | (go_at_call 38; exact quiet_more (H4.out _ (HS.out.drewN _)))))
              clear s1 f1 f2 f3
              go_wp2
              go_roundw
              case rel => exact ⟨k + 1, v', top, by go_num, by omega, ((HS.out.drewN _).tail).more (by omega)⟩
              case measure => simp [intOf]; omega
      · obtain ⟨v', hv'⟩ : ∃ v', allocV 64 4 room v top b pn = v' := ⟨_, rfl⟩
        obtain ⟨top', ht'⟩ : ∃ top', allocT 64 4 room v top b pn = top' := ⟨_, rfl⟩
        obtain ⟨E, hE⟩ : ∃ E, allocE 64 4 room v top b pn = E := ⟨_, rfl⟩
        obtain ⟨A, hA⟩ : ∃ A, allocA 64 4 room v top b pn = A := ⟨_, rfl⟩
        have hop := fun W v2 top2 (h : J (w.alloc (.cells #[.int .i64 a, .int .i64 b] 50)) m r rb rr room (16 * k) v a top b v2 top2 [(wr.heap.size, .cells #[.int .u8 kd, .int .i64 pn] 59 (0, 0))] W) => alloc_j h (by omega) pn
        have hrop := fun W t1 v1 top1 (h : J (w.alloc (.cells #[.int .i64 a, .int .i64 b] 50)) m r rb rr room t1 v1 a top1 b v top [(wr.heap.size, .cells #[.int .u8 kd, .int .i64 pn] 59 (0, 0))] W) => ralloc_j h hdim.2.2.1 hdim.2.1 pn
        simp only [hv', ht', hE, hA] at hop hrop
        have Hop := Lib.hid hop
        have Hrop := Lib.hid hrop
        clear hop hrop hv' ht' hE hA
        rcases hk8 with hk8 | hk8 | hk8 | hk8 | hk8
        all_goals
          go_wp2_with (first | (go_at_call 33; refine (Hop.out _ _ _ HS.out).mono ?_; rintro e w9 ⟨rfl, h9⟩; clear HS d0 d1; have HS := Lib.hid (h9); have hblk := h9.block (List.mem_cons_self ..); have d0 := at_cell hblk 0 _ rfl; have d1 := at_cell hblk 1 _ rfl; clear h9 hblk) | (go_at_call 45; refine (Hrop.out _ _ _ _ HS.out).mono ?_; rintro e w9 ⟨rfl, h9⟩; clear HS d0 d1; have HS := Lib.hid (h9); have hblk := h9.block (List.mem_cons_self ..); have d0 := at_cell hblk 0 _ rfl; have d1 := at_cell hblk 1 _ rfl; clear h9 hblk))
          replace HS := Lib.hid (show J (w.alloc (.cells #[.int .i64 a, .int .i64 b] 50)) m r rb rr room (16 * k + 16) v' a top' b v' top' [(wr.heap.size, .cells #[.int .u8 kd, .int .i64 pn] 59 (0, 0))] _ from HS.out)
          have hdm := HS.out.dims
          clear d0 d1 c0 c1 hk8
          obtain ⟨wo, rfl⟩ : ∃ wo : World, wo = wr := ⟨_, rfl⟩
          generalize wo.heap.size = X at *
          go_wp2
          go_loopw [134] (fun i wr => ∃ j : Nat, i = .int .i64 j ∧ j ≤ 16 ∧ J (w.alloc (.cells #[.int .i64 a, .int .i64 b] 50)) m r rb rr room (16 * k + 16) v' a top' b v' top' [(X, .cells #[.int .u8 kd, .int .i64 pn] 59 (0, 0))] wr) (fun i _ => 16 - (intOf i).toNat)
          case atStart => exact ⟨0, rfl, by omega, HS.out⟩
          case round =>
            clear HS
            obtain ⟨j, rfl, hj, hs⟩ := hrel
            have HS := Lib.hid hs
            by_cases hj16 : j < 16
            · have hmp := mapped_j hs (j : Int)
              have hj1 : (j : Int) < 16 := by omega
              cases hM : isM (64 / 4) v' (j : Int) with
              | false =>
                rw [hM] at hmp
                have Hmp := Lib.hid hmp
                have Hat := Lib.hid fun W (k2 : J (w.alloc (.cells #[.int .i64 a, .int .i64 b] 50)) m r rb rr room (16 * k + 16) v' a top' b v' top' [(X, .cells #[.int .u8 kd, .int .i64 pn] 59 (0, 0))] W) => at_j_no k2 hM
                clear hmp hM hs
                go_wp2_with (first | (go_at_call 25; refine Hmp.out.mono ?_; rintro e w8 ⟨rfl, k8⟩; have HS8 := Lib.hid k8; clear k8) | (go_at_call 46; refine (Hat.out _ HS8.out).mono ?_; rintro e w9 ⟨rfl, rfl⟩))
                go_roundw
                case rel => exact ⟨j + 1, by go_num, by omega, HS8.out⟩
                case measure => simp [intOf]; omega
              | true =>
                rw [hM] at hmp
                have Hmp := Lib.hid hmp
                have Hat := Lib.hid fun W (k2 : J (w.alloc (.cells #[.int .i64 a, .int .i64 b] 50)) m r rb rr room (16 * k + 16) v' a top' b v' top' [(X, .cells #[.int .u8 kd, .int .i64 pn] 59 (0, 0))] W) => at_j_yes k2 hM
                clear hmp hM hs
                go_wp2_with (first | (go_at_call 25; refine Hmp.out.mono ?_; rintro e w8 ⟨rfl, k8⟩; have HS8 := Lib.hid k8; obtain ⟨z, hz, hat⟩ := Hat.out _ k8; have Hat2 := Lib.hid hat; have hz0 : (0 : Int) ≤ z := (by omega); clear k8 hat) | (go_at_call 46; refine Hat2.out.mono ?_; rintro e w9 ⟨rfl, rfl⟩))
                go_roundw
                case rel => exact ⟨j + 1, by go_num, by omega, HS8.out⟩
                case measure => simp [intOf]; omega
            · obtain rfl : j = 16 := by omega
              have hcast : ((16 : Nat) : Int) = 16 := rfl
              have H1 := Lib.hid fun W (k2 : J (w.alloc (.cells #[.int .i64 a, .int .i64 b] 50)) m r rb rr room (16 * k + 16) v' a top' b v' top' [(X, .cells #[.int .u8 kd, .int .i64 pn] 59 (0, 0))] W) => base_j k2
              have H2 := Lib.hid fun W (k2 : J (w.alloc (.cells #[.int .i64 a, .int .i64 b] 50)) m r rb rr room (16 * k + 16) v' a top' b v' top' [(X, .cells #[.int .u8 kd, .int .i64 pn] 59 (0, 0))] W) => top_j k2
              have H3 := Lib.hid fun W (k2 : J (w.alloc (.cells #[.int .i64 a, .int .i64 b] 50)) m r rb rr room (16 * k + 16) v' a top' b v' top' [(X, .cells #[.int .u8 kd, .int .i64 pn] 59 (0, 0))] W) => limit_j k2
              have H4 := Lib.hid fun W (k2 : J (w.alloc (.cells #[.int .i64 a, .int .i64 b] 50)) m r rb rr room (16 * k + 16) v' a top' b v' top' [(X, .cells #[.int .u8 kd, .int .i64 pn] 59 (0, 0))] W) => left_j k2
              have s1 : IntKind.i64.wrap ((b : Int) - top') = (b : Int) - top' := IntWalk.i64_in _ (by have := Hab.out; omega)
              obtain ⟨f1, f2, f3⟩ := hs.rcells
              clear hs hcast
              go_wp2
              go_quiet ((first | (go_at_call 36; exact quiet_left (H1.out _ (HS.out.drewN _))) | (go_at_call 34; exact quiet_left (H2.out _ (HS.out.drewN _))) | (go_at_call 37; exact quiet_left (H3.out _ (HS.out.drewN _))) | (go_at_call 38; exact quiet_more (H4.out _ (HS.out.drewN _)))))
              clear s1 f1 f2 f3
              go_wp2
              go_roundw
              case rel => exact ⟨k + 1, v', top', by go_num, by omega, ((HS.out.drewN _).tail).more (by omega)⟩
              case measure => simp [intOf]; omega
    · obtain rfl : ps.length = k := by omega
      have HJ9 := Lib.hid hs
      go_wp2_with (go_at_call 31; refine (Hv.out _).mono ?_; rintro e w6 ⟨rfl, hb6⟩)
      go_ret
      exact ⟨rfl, seq (seq Hb0.out HJ9.out.below) hb6⟩
theorem plays_any (x : Int) (hx0 : 0 ≤ x) (hx : x ≤ 255) (a b : Int) (c : Option Addr) (cap : Nat) (ps : List Act) (w : World) (hP : Acts w c ps) :
    Calls Try.prog 7 #[.int .u8 x, .agg #[.int .i64 a, .int .i64 b], .slice c ps.length cap] w fun e w' => e = .returned (.bool true) ∧ Below w.heap.size w w' := by
  obtain ⟨x, rfl⟩ : ∃ n : Nat, x = n := ⟨x.toNat, by omega⟩
  by_cases hl : 100 < ps.length
  · exact plays_many x a b c ps.length cap w hl hP.many
  · by_cases hn : okR 64 a b
    · have hn2 := hn
      unfold okR at hn2
      obtain ⟨a, rfl⟩ : ∃ n : Nat, a = n := ⟨a.toNat, by omega⟩
      obtain ⟨b, rfl⟩ : ∃ n : Nat, b = n := ⟨b.toNat, by omega⟩
      exact plays_walk x (by omega) a b hn c cap ps w (by omega) hP
    · exact plays_no x (by omega) a b c ps.length cap w hl hn
end Go.Proofs.Ytkcijlndblbidaa.A16
