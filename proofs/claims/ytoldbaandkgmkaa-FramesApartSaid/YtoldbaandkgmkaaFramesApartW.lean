/- The walk of the law FramesApart. -/
import Derived.Test.YtoldbaandkgmkaaFramesActs
import Derived.Deep.RegionHeld3
import Derived.Deep.QuietTactic
import Derived.BigQuiet
namespace Go.Proofs.Ytoldbaandkgmkaa
open Go.ChangeShapes Go.WideShapes Go.ChangeAt Go.RowKit
set_option linter.unusedVariables false
theorem quiet_left {P : Program} {f : FuncId} {args : Array Value} {w : World} {n : Nat} {v : Value} (h : Calls P f args (w.drewN n) fun e w' => e = .returned v ∧ w.drewN n = w') :
    Calls P f args (w.drewN n) fun e w'' => e = .returned v ∧ ∃ m, w'' = w.drewN m := h.mono fun _ _ ⟨he, hm⟩ => ⟨he, n, hm.symm⟩
set_option maxRecDepth 100000 in
theorem apart_many (r p : Int) (a : Option Addr) (len cap : Nat) (w : World) (hl : 200 < len) (hm : len ≤ maxLen) :
    Calls Try.prog 3 #[.int .u8 r, .int .u8 p, .slice a len cap] w fun e w' => e = .returned (.bool true) ∧ Below w.heap.size w w' := by
  unfold maxLen at hm
  go_enter Try.func3, Try.ntmps3
  go_wp2_with (go_at_call 6; refine (lives_any _).mono ?_; rintro e w2 ⟨rfl, hb⟩)
  go_ret
  exact ⟨rfl, hb⟩
set_option maxRecDepth 100000 in
set_option maxHeartbeats 8000000 in
theorem apart_walk (r p : Int) (hr0 : 0 ≤ r) (hr1 : r ≤ 255) (hp0 : 0 ≤ p) (hp1 : p ≤ 255) (a : Option Addr) (cap : Nat) (ps : List Act4) (w : World) (hl : ps.length ≤ 200) (hP : Acts w a ps) :
    Calls Try.prog 3 #[.int .u8 r, .int .u8 p, .slice a ps.length cap] w fun e w' => e = .returned (.bool true) ∧ Below w.heap.size w w' := by
  have HP := Lib.hid hP
  obtain ⟨page, hpg, hpage⟩ := pow_page p hp0
  have hpl := isPage_le hpage
  obtain ⟨room, hroom⟩ : ∃ room, r.toNat + 1 = room := ⟨_, rfl⟩
  have Hnew := new_ps room page w (by omega) (by omega) hpage
  rw [show ((room : Nat) : Int) = r + 1 by omega] at Hnew
  obtain ⟨b, hb⟩ : ∃ b, w.heap.size = b := ⟨_, rfl⟩
  have hst : start.ok room page := start_ok (by omega) hpl
  rw [hb] at Hnew
  replace Hnew := Lib.hid Hnew
  have hmm := @run_makeMap Try.prog
  have Hst := Lib.hid hst
  clear hP hpage hroom hb hst
  go_enter Try.func3, Try.ntmps3
  go_wp2_with (go_at_call 7; refine Hnew.out.mono ?_; rintro e w1 ⟨rfl, m⟩; have HS := Lib.hid (start_as m); clear m Hnew)
  generalize w1.alloc (.map #[] 0) = W at *
  generalize w1.heap.size = B at *
  clear hmm
  go_loopw [45] (fun i wr => ∃ (k : Nat) (s : PS) (mp : Int → Option Nat), i = .int .i64 k ∧ k ≤ ps.length ∧ AS0 w b room page B k s mp s.used wr ∧ s.ok room page ∧ s.times ≤ k ∧ Joint page s mp) (fun i _ => ps.length - (intOf i).toNat)
  case atStart => exact ⟨0, start, _, rfl, by omega, HS.out, Hst.out, Nat.le_refl _, Joint.start page⟩
  case round =>
    clear HS Hst
    obtain ⟨k, s, mp, rfl, hm, hs, hok, htm, hj⟩ := hrel
    by_cases hlt : k < ps.length
    · have hb := hs.below
      have hP2 := HP.out.below hb
      obtain ⟨b1, off, ha, hcell⟩ := hP2.cell
      obtain rfl : a = some ⟨b1, off, none⟩ := by
        rcases ha with rfl | ha
        · simp at hlt
        · exact ha
      obtain ⟨c0, c1, c2, c3⟩ := hcell k hlt
      have hact := hP2.each k hlt
      clear hcell ha hP2 hb
      generalize ps.getD k default = q at *
      obtain ⟨kd, pf, pa, px⟩ := q
      obtain ⟨hkd, hpf, hpa, hpx⟩ := hact
      simp only at *
      have hbx := hs.box #[.int .u8 kd, .int .i64 pf, .int .i64 pa, .int .u64 px] 31
      obtain ⟨d0, d1, d2, d3⟩ := hbx.cells
      have HS := Lib.hid hbx
      have Hok := Lib.hid hok
      have Hj := Lib.hid hj
      have Hused0 := Lib.hid (used_le hok)
      clear hs hbx hok hj
      have hpf' : isInt pf := hpf
      have Hpf := Lib.hid hpf'
      by_cases k3 : (kd : Int) % 8 < 3
      · have e0 := d0
        clear d0 d1 d2 d3
        by_cases hu : s.used = room
        · have htake := take_as HS.out Hok.out (by omega)
          unfold takeE takeT at htake
          rw [if_pos hu, if_pos hu] at htake
          have Htake := Lib.hid htake
          clear htake HS hu
          go_wp2_with (go_at_call 8; refine Htake.out.mono ?_; rintro e w2 ⟨rfl, hs2⟩; have HS := Lib.hid hs2; clear hs2)
          go_roundw
          case rel => exact ⟨k + 1, s, mp, by go_num, by omega, (HS.out.more (by omega)).base, Hok.out, by omega, Hj.out⟩
          case measure => simp [intOf]; omega
        · have hult : s.used < room := by have := Hused0.out; omega
          have htake := take_as HS.out Hok.out (by omega)
          unfold takeE takeT at htake
          rw [if_neg hu, if_neg hu] at htake
          have hok1 := take_ok Hok.out hult
          have hj2 := Hj.out.take Hok.out hult px hpx
          obtain ⟨hht, hhf⟩ := has_take Hok.out hult (nextF s)
          rw [decide_eq_true rfl, Bool.true_or] at hht
          have hz := take_zero s
          have hnl := nextF_lt Hok.out hult
          have hrm := Hok.out.room1
          have htm1 : (takeS s).times ≤ k + 1 := by show s.times + 1 ≤ k + 1; omega
          have husd : (takeS s).used = s.used + 1 := rfl
          obtain ⟨f0, hf0⟩ : ∃ f0, nextF s = f0 := ⟨_, rfl⟩
          rw [hf0] at htake hj2 hht hhf hz hnl
          have hif : isInt (f0 : Int) := ⟨by omega, by omega⟩
          have hnone : mp (f0 : Int) = none := by
            have := Hj.out.1 f0 hif
            rw [hhf] at this
            simpa using this
          have Htake := Lib.hid htake
          have Hok1 := Lib.hid hok1
          have Hj2 := Lib.hid hj2
          have Hht := Lib.hid hht
          have Hz := Lib.hid hz
          have Hif := Lib.hid hif
          have Hnone := Lib.hid hnone
          have Husd := Lib.hid husd
          clear htake HS hu hult hok1 hj2 hht hhf hz hnl hrm husd hf0 hif hnone Hok Hj Hused0
          go_wp2_with (fail)
          refine Htake.out.mono ?_
          rintro e w2 ⟨rfl, hs2⟩
          have hlook := hs2.intMap.look f0 Hif.out
          rw [Hnone.out] at hlook
          have hlook2 : (Instr.lookup 28 (.map (some B)) (.int .i64 (f0 : Int)) true).run Try.prog w2 = .ok (.tuple #[.int .u64 0, .bool false]) w2 := hlook
          have hload : ∀ j : Nat, j < page → Calls Try.prog 9 #[.pointer (some ⟨b, 0, none⟩), .int .i64 (f0 : Int), .int .i64 (j : Int)] w2 fun e w' => e = .returned (.tuple #[.int .u64 0, .int .i64 0]) ∧ w2 = w' := fun j hj => by
            have h := load_as hs2 Hok1.out f0 j
            have hwE : wordE page (takeS s) (f0 : Int) (j : Int) = 0 := by
              unfold wordE
              rw [if_neg (Classical.not_not.2 Hht.out), if_neg (by omega)]
            have hlR : loadR page (takeS s) (f0 : Int) (j : Int) = 0 := by
              unfold loadR
              rw [if_pos hwE, Int.toNat_natCast, Int.toNat_natCast]
              exact Hz.out j
            rw [hwE, hlR] at h
            exact h
          have Hload := Lib.hid hload
          have HS := Lib.hid hs2
          clear hs2 hlook hload Htake e0 c0 c1 c2 c3 Hz
          generalize wr.heap.size = X at *
          obtain ⟨wo, rfl⟩ : ∃ wo : World, wo = wr := ⟨_, rfl⟩
          go_wp2_with (fail)
          go_loopw [68] (fun i wr2 => ∃ j : Nat, i = .int .i64 j ∧ j ≤ page ∧ wr2 = w2) (fun i _ => page - (intOf i).toNat)
          case atStart => exact ⟨0, rfl, by omega, rfl⟩
          case round =>
            obtain ⟨j, rfl, hj, rfl⟩ := hrel
            by_cases hjl : j < page
            · have Hl := Lib.hid (Hload.out j hjl)
              go_wp2_with (go_at_call 9; refine Hl.out.mono ?_; rintro e w3 ⟨rfl, rfl⟩)
              go_roundw
              case rel => exact ⟨j + 1, by go_num, by omega, trivial⟩
              case measure => simp [intOf]; omega
            · clear Hload hlook2
              go_wp2_with (fail)
              go_loopw [86] (fun i wr3 => ∃ j : Nat, i = .int .i64 j ∧ j ≤ page ∧ AS w b room page B X (.cells #[.int .u8 kd, .int .i64 pf, .int .i64 pa, .int .u64 px] 31 (0, 0)) k (fillS (takeS s) f0 j px) mp s.used wr3) (fun i _ => page - (intOf i).toNat)
              case atStart => exact ⟨0, rfl, by omega, by rw [fillS_zero]; exact HS.out⟩
              case round =>
                clear HS
                obtain ⟨i, rfl, hi, hs3⟩ := hrel
                by_cases hil : i < page
                · have d3 := hs3.cells.2.2.2
                  have hst := store_as hs3 (fillS_ok Hok1.out f0 i px hpx) f0 i px
                  obtain ⟨h1, h2⟩ := fillS_store (x := px) Hht.out hil
                  rw [h1, h2] at hst
                  have Hst := Lib.hid hst
                  clear hst h1 h2 hs3
                  go_wp2_with (go_at_call 10; refine Hst.out.mono ?_; rintro e w3 ⟨rfl, hs4⟩; have HS := Lib.hid hs4; clear hs4)
                  go_roundw
                  case rel => exact ⟨i + 1, by go_num, by omega, HS.out⟩
                  case measure => simp [intOf]; omega
                · obtain rfl : page = i := by omega
                  have d3 := hs3.cells.2.2.2
                  obtain ⟨w4, hput, hm4, hc4⟩ := hs3.intMap.put (by unfold maxLen; omega) f0 Hif.out px hpx Hnone.out
                  have HS := Lib.hid (show AS w b room page B X _ (k + 1) (fillS (takeS s) f0 page px) (fun g => if g = (f0 : Int) then some px else mp g) (fillS (takeS s) f0 page px).used w4 from hs3.map hm4 hc4)
                  have Hok := Lib.hid (fillS_ok Hok1.out f0 page px hpx)
                  have Hj := Lib.hid Hj2.out
                  have htm2 : (fillS (takeS s) f0 page px).times ≤ k + 1 := htm1
                  clear hs3 hm4 hc4 Hif Hht Hok1 Hj2 Hnone
                  obtain ⟨mp2, HS, Hj⟩ : ∃ mp2, Hid (AS w b room page B X (.cells #[.int .u8 kd, .int .i64 pf, .int .i64 pa, .int .u64 px] 31 (0, 0)) (k + 1) (fillS (takeS s) f0 page px) mp2 (fillS (takeS s) f0 page px).used w4) ∧ Hid (Joint page (fillS (takeS s) f0 page px) mp2) := ⟨_, HS, Hj⟩
                  have hl := HS.out.intMap.look pf Hpf.out
                  obtain ⟨d0, d1, d2, d3⟩ := HS.out.cells
                  have Hused := Lib.hid (fun k => used_as (HS.out.drewN k))
                  have Hused1 := Lib.hid (used_as HS.out)
                  have Hlen := Lib.hid (fun k => (HS.out.drewN k).intMap.len 3)
                  cases hmf : mp2 pf with
                  | none =>
                    have hl2 : (Instr.lookup 28 (.map (some B)) (.int .i64 pf) true).run Try.prog w4 = .ok (.tuple #[.int .u64 0, .bool false]) w4 := by rw [hl, hmf]; rfl
                    have hlen := HS.out.intMap.len 3
                    clear hl hmf
                    go_wp2_with (go_at_call 12; refine Hused1.out.mono ?_; rintro e w9 ⟨rfl, rfl⟩)
                    go_roundw
                    case rel => exact ⟨k + 1, _, _, by go_num, by omega, (HS.out.more (by omega)).base, Hok.out, by exact htm2, Hj.out⟩
                    case measure => simp [intOf]; omega
                  | some v =>
                    obtain ⟨Y, hY0, hY1⟩ : ∃ Y : Nat, ((IntKind.u64.wrap pa).tmod page) = Y ∧ Y < page := by
                      have h0 : 0 ≤ IntKind.u64.wrap pa := by rw [IntKind.wrap_u64]; omega
                      refine ⟨((IntKind.u64.wrap pa).tmod page).toNat, ?_, ?_⟩
                      · rw [Int.tmod_eq_emod_of_nonneg h0]
                        have := Int.emod_nonneg (IntKind.u64.wrap pa) (show (page : Int) ≠ 0 by omega)
                        omega
                      · rw [Int.tmod_eq_emod_of_nonneg h0]
                        have := Int.emod_lt_of_pos (IntKind.u64.wrap pa) (show (0 : Int) < page by omega)
                        omega
                    have hh : has (fillS (takeS s) f0 page px) pf = true := by rw [← Hj.out.1 pf Hpf.out, hmf]; rfl
                    have hwE : wordE page (fillS (takeS s) f0 page px) pf (Y : Int) = 0 := by
                      unfold wordE
                      rw [if_neg (Classical.not_not.2 hh), if_neg (by omega)]
                    have hlR : loadR page (fillS (takeS s) f0 page px) pf (Y : Int) = v := by
                      unfold loadR
                      rw [if_pos hwE, Int.toNat_natCast]
                      exact (Hj.out.2 pf v Hpf.out hmf).2 Y hY1
                    have hload := fun k => load_as (HS.out.drewN k) Hok.out pf (Y : Int)
                    simp only [hwE, hlR] at hload
                    have Hload := Lib.hid hload
                    have hl2 : (Instr.lookup 28 (.map (some B)) (.int .i64 pf) true).run Try.prog w4 = .ok (.tuple #[.int .u64 v, .bool true]) w4 := by rw [hl, hmf]; rfl
                    have hYw : (Y : Int) ≤ 256 := by omega
                    have hYw0 : (0 : Int) ≤ Y := by omega
                    clear hl hmf hh hwE hlR hload hY1
                    go_wp2_with fail
                    go_quiet ((go_at_call 9; exact quiet_left (Hload.out _)))
                    clear hY0
                    have hlen := Hlen.out nq
                    have Hused2 := Lib.hid (Hused.out nq)
                    go_wp2_with (go_at_call 12; refine Hused2.out.mono ?_; rintro e w9 ⟨rfl, rfl⟩)
                    go_roundw
                    case rel => exact ⟨k + 1, _, _, by go_num, by omega, ((HS.out.drewN nq).more (by omega)).base, Hok.out, by exact htm2, Hj.out⟩
                    case measure => simp [intOf]; omega
      · by_cases k4 : (kd : Int) % 8 = 3
        · have e0 := d0
          have e1 := d1
          clear d0 d1 d2 d3
          by_cases hg : has s pf = true
          · have hgive := give_as HS.out Hok.out pf
            unfold giveE giveS at hgive
            rw [if_pos hg, if_pos hg] at hgive
            have Hgive := Lib.hid hgive
            have hok2 := (give_ok Hok.out pf hg).1
            have hj2 := Hj.out.give pf hg
            have Hsome := Lib.hid (show (mp pf).isSome = true by rw [Hj.out.1 pf Hpf.out]; exact hg)
            have htm2 : (giveT s pf.toNat).times ≤ k := htm
            clear hgive HS Hok Hj hg
            have Hok := Lib.hid hok2
            have Hj := Lib.hid hj2
            clear hok2 hj2
            go_wp2_with (fail)
            refine Hgive.out.mono ?_
            rintro e w2 ⟨rfl, hs2⟩
            obtain ⟨w4, hdel, hm4, hc1, hc4⟩ := hs2.intMap.del pf Hpf.out 0 Hsome.out
            have hdel2 : ∀ ty, (Builtin.delete_ #[28, 3] ty #[.map (some B), .int .i64 pf]).run Try.prog w2 = .ok (.tuple #[]) w4 := fun ty => hdel
            have g1 := hs2.cells.2.1
            have HS := Lib.hid (show AS w b room page B wr.heap.size _ k (giveT s pf.toNat) (fun g => if g = pf then none else mp g) (giveT s pf.toNat).used w4 from hs2.map hm4 hc4)
            clear hs2 hdel hm4 hc1 hc4 Hgive Hsome e0 e1 htm
            obtain ⟨mp2, HS, Hj⟩ : ∃ mp2, Hid (AS w b room page B wr.heap.size (.cells #[.int .u8 kd, .int .i64 pf, .int .i64 pa, .int .u64 px] 31 (0, 0)) k (giveT s pf.toNat) mp2 (giveT s pf.toNat).used w4) ∧ Hid (Joint page (giveT s pf.toNat) mp2) := ⟨_, HS, Hj⟩
            have hl := HS.out.intMap.look pf Hpf.out
            obtain ⟨d0, d1, d2, d3⟩ := HS.out.cells
            have Hused := Lib.hid (fun k => used_as (HS.out.drewN k))
            have Hused1 := Lib.hid (used_as HS.out)
            have Hlen := Lib.hid (fun k => (HS.out.drewN k).intMap.len 3)
            cases hmf : mp2 pf with
            | none =>
              have hl2 : (Instr.lookup 28 (.map (some B)) (.int .i64 pf) true).run Try.prog w4 = .ok (.tuple #[.int .u64 0, .bool false]) w4 := by rw [hl, hmf]; rfl
              have hlen := HS.out.intMap.len 3
              clear hl hmf
              go_wp2_with (go_at_call 12; refine Hused1.out.mono ?_; rintro e w9 ⟨rfl, rfl⟩)
              go_roundw
              case rel => exact ⟨k + 1, _, _, by go_num, by omega, (HS.out.more (by omega)).base, Hok.out, by exact Nat.le_succ_of_le htm2, Hj.out⟩
              case measure => simp [intOf]; omega
            | some v =>
              obtain ⟨Y, hY0, hY1⟩ : ∃ Y : Nat, ((IntKind.u64.wrap pa).tmod page) = Y ∧ Y < page := by
                have h0 : 0 ≤ IntKind.u64.wrap pa := by rw [IntKind.wrap_u64]; omega
                refine ⟨((IntKind.u64.wrap pa).tmod page).toNat, ?_, ?_⟩
                · rw [Int.tmod_eq_emod_of_nonneg h0]
                  have := Int.emod_nonneg (IntKind.u64.wrap pa) (show (page : Int) ≠ 0 by omega)
                  omega
                · rw [Int.tmod_eq_emod_of_nonneg h0]
                  have := Int.emod_lt_of_pos (IntKind.u64.wrap pa) (show (0 : Int) < page by omega)
                  omega
              have hh : has (giveT s pf.toNat) pf = true := by rw [← Hj.out.1 pf Hpf.out, hmf]; rfl
              have hwE : wordE page (giveT s pf.toNat) pf (Y : Int) = 0 := by
                unfold wordE
                rw [if_neg (Classical.not_not.2 hh), if_neg (by omega)]
              have hlR : loadR page (giveT s pf.toNat) pf (Y : Int) = v := by
                unfold loadR
                rw [if_pos hwE, Int.toNat_natCast]
                exact (Hj.out.2 pf v Hpf.out hmf).2 Y hY1
              have hload := fun k => load_as (HS.out.drewN k) Hok.out pf (Y : Int)
              simp only [hwE, hlR] at hload
              have Hload := Lib.hid hload
              have hl2 : (Instr.lookup 28 (.map (some B)) (.int .i64 pf) true).run Try.prog w4 = .ok (.tuple #[.int .u64 v, .bool true]) w4 := by rw [hl, hmf]; rfl
              have hYw : (Y : Int) ≤ 256 := by omega
              have hYw0 : (0 : Int) ≤ Y := by omega
              clear hl hmf hh hwE hlR hload hY1
              go_wp2_with fail
              go_quiet ((go_at_call 9; exact quiet_left (Hload.out _)))
              clear hY0
              have hlen := Hlen.out nq
              have Hused2 := Lib.hid (Hused.out nq)
              go_wp2_with (go_at_call 12; refine Hused2.out.mono ?_; rintro e w9 ⟨rfl, rfl⟩)
              go_roundw
              case rel => exact ⟨k + 1, _, _, by go_num, by omega, ((HS.out.drewN nq).more (by omega)).base, Hok.out, by exact Nat.le_succ_of_le htm2, Hj.out⟩
              case measure => simp [intOf]; omega
          · have hgive := give_as HS.out Hok.out pf
            unfold giveE giveS at hgive
            rw [if_neg hg, if_neg hg] at hgive
            have Hgive := Lib.hid hgive
            clear hgive HS hg
            go_wp2_with (fail)
            refine Hgive.out.mono ?_
            rintro e w4 ⟨rfl, hs2⟩
            have HS := Lib.hid hs2
            clear hs2 Hgive e0 e1
            have hl := HS.out.intMap.look pf Hpf.out
            obtain ⟨d0, d1, d2, d3⟩ := HS.out.cells
            have Hused := Lib.hid (fun k => used_as (HS.out.drewN k))
            have Hused1 := Lib.hid (used_as HS.out)
            have Hlen := Lib.hid (fun k => (HS.out.drewN k).intMap.len 3)
            cases hmf : mp pf with
            | none =>
              have hl2 : (Instr.lookup 28 (.map (some B)) (.int .i64 pf) true).run Try.prog w4 = .ok (.tuple #[.int .u64 0, .bool false]) w4 := by rw [hl, hmf]; rfl
              have hlen := HS.out.intMap.len 3
              clear hl hmf
              go_wp2_with (go_at_call 12; refine Hused1.out.mono ?_; rintro e w9 ⟨rfl, rfl⟩)
              go_roundw
              case rel => exact ⟨k + 1, _, _, by go_num, by omega, (HS.out.more (by omega)).base, Hok.out, by omega, Hj.out⟩
              case measure => simp [intOf]; omega
            | some v =>
              obtain ⟨Y, hY0, hY1⟩ : ∃ Y : Nat, ((IntKind.u64.wrap pa).tmod page) = Y ∧ Y < page := by
                have h0 : 0 ≤ IntKind.u64.wrap pa := by rw [IntKind.wrap_u64]; omega
                refine ⟨((IntKind.u64.wrap pa).tmod page).toNat, ?_, ?_⟩
                · rw [Int.tmod_eq_emod_of_nonneg h0]
                  have := Int.emod_nonneg (IntKind.u64.wrap pa) (show (page : Int) ≠ 0 by omega)
                  omega
                · rw [Int.tmod_eq_emod_of_nonneg h0]
                  have := Int.emod_lt_of_pos (IntKind.u64.wrap pa) (show (0 : Int) < page by omega)
                  omega
              have hh : has s pf = true := by rw [← Hj.out.1 pf Hpf.out, hmf]; rfl
              have hwE : wordE page s pf (Y : Int) = 0 := by
                unfold wordE
                rw [if_neg (Classical.not_not.2 hh), if_neg (by omega)]
              have hlR : loadR page s pf (Y : Int) = v := by
                unfold loadR
                rw [if_pos hwE, Int.toNat_natCast]
                exact (Hj.out.2 pf v Hpf.out hmf).2 Y hY1
              have hload := fun k => load_as (HS.out.drewN k) Hok.out pf (Y : Int)
              simp only [hwE, hlR] at hload
              have Hload := Lib.hid hload
              have hl2 : (Instr.lookup 28 (.map (some B)) (.int .i64 pf) true).run Try.prog w4 = .ok (.tuple #[.int .u64 v, .bool true]) w4 := by rw [hl, hmf]; rfl
              have hYw : (Y : Int) ≤ 256 := by omega
              have hYw0 : (0 : Int) ≤ Y := by omega
              clear hl hmf hh hwE hlR hload hY1
              go_wp2_with fail
              go_quiet ((go_at_call 9; exact quiet_left (Hload.out _)))
              clear hY0
              have hlen := Hlen.out nq
              have Hused2 := Lib.hid (Hused.out nq)
              go_wp2_with (go_at_call 12; refine Hused2.out.mono ?_; rintro e w9 ⟨rfl, rfl⟩)
              go_roundw
              case rel => exact ⟨k + 1, _, _, by go_num, by omega, ((HS.out.drewN nq).more (by omega)).base, Hok.out, by omega, Hj.out⟩
              case measure => simp [intOf]; omega
        · clear d0 d1 d2 d3
          have e0 := HS.out.cells.1
          have hl := HS.out.intMap.look pf Hpf.out
          obtain ⟨d0, d1, d2, d3⟩ := HS.out.cells
          have Hused := Lib.hid (fun k => used_as (HS.out.drewN k))
          have Hused1 := Lib.hid (used_as HS.out)
          have Hlen := Lib.hid (fun k => (HS.out.drewN k).intMap.len 3)
          cases hmf : mp pf with
          | none =>
            have hl2 : (Instr.lookup 28 (.map (some B)) (.int .i64 pf) true).run Try.prog (wr.alloc (.cells #[.int .u8 kd, .int .i64 pf, .int .i64 pa, .int .u64 px] 31)) = .ok (.tuple #[.int .u64 0, .bool false]) (wr.alloc (.cells #[.int .u8 kd, .int .i64 pf, .int .i64 pa, .int .u64 px] 31)) := by rw [hl, hmf]; rfl
            have hlen := HS.out.intMap.len 3
            clear hl hmf
            go_wp2_with (go_at_call 12; refine Hused1.out.mono ?_; rintro e w9 ⟨rfl, rfl⟩)
            go_roundw
            case rel => exact ⟨k + 1, _, _, by go_num, by omega, (HS.out.more (by omega)).base, Hok.out, by omega, Hj.out⟩
            case measure => simp [intOf]; omega
          | some v =>
            obtain ⟨Y, hY0, hY1⟩ : ∃ Y : Nat, ((IntKind.u64.wrap pa).tmod page) = Y ∧ Y < page := by
              have h0 : 0 ≤ IntKind.u64.wrap pa := by rw [IntKind.wrap_u64]; omega
              refine ⟨((IntKind.u64.wrap pa).tmod page).toNat, ?_, ?_⟩
              · rw [Int.tmod_eq_emod_of_nonneg h0]
                have := Int.emod_nonneg (IntKind.u64.wrap pa) (show (page : Int) ≠ 0 by omega)
                omega
              · rw [Int.tmod_eq_emod_of_nonneg h0]
                have := Int.emod_lt_of_pos (IntKind.u64.wrap pa) (show (0 : Int) < page by omega)
                omega
            have hh : has s pf = true := by rw [← Hj.out.1 pf Hpf.out, hmf]; rfl
            have hwE : wordE page s pf (Y : Int) = 0 := by
              unfold wordE
              rw [if_neg (Classical.not_not.2 hh), if_neg (by omega)]
            have hlR : loadR page s pf (Y : Int) = v := by
              unfold loadR
              rw [if_pos hwE, Int.toNat_natCast]
              exact (Hj.out.2 pf v Hpf.out hmf).2 Y hY1
            have hload := fun k => load_as (HS.out.drewN k) Hok.out pf (Y : Int)
            simp only [hwE, hlR] at hload
            have Hload := Lib.hid hload
            have hl2 : (Instr.lookup 28 (.map (some B)) (.int .i64 pf) true).run Try.prog (wr.alloc (.cells #[.int .u8 kd, .int .i64 pf, .int .i64 pa, .int .u64 px] 31)) = .ok (.tuple #[.int .u64 v, .bool true]) (wr.alloc (.cells #[.int .u8 kd, .int .i64 pf, .int .i64 pa, .int .u64 px] 31)) := by rw [hl, hmf]; rfl
            have hYw : (Y : Int) ≤ 256 := by omega
            have hYw0 : (0 : Int) ≤ Y := by omega
            clear hl hmf hh hwE hlR hload hY1
            go_wp2_with fail
            go_quiet ((go_at_call 9; exact quiet_left (Hload.out _)))
            clear hY0
            have hlen := Hlen.out nq
            have Hused2 := Lib.hid (Hused.out nq)
            go_wp2_with (go_at_call 12; refine Hused2.out.mono ?_; rintro e w9 ⟨rfl, rfl⟩)
            go_roundw
            case rel => exact ⟨k + 1, _, _, by go_num, by omega, ((HS.out.drewN nq).more (by omega)).base, Hok.out, by omega, Hj.out⟩
            case measure => simp [intOf]; omega
    · obtain rfl : ps.length = k := by omega
      have hb := hs.below
      go_wp2_with (go_at_call 6; refine (lives_any _).mono ?_; rintro e w2 ⟨rfl, hb9⟩)
      go_ret
      exact ⟨rfl, seq hb hb9⟩
end Go.Proofs.Ytoldbaandkgmkaa
