/- The walk of the law RootsPlays, for any slots and any acts. -/
import Derived.Test.YtdiooepnapdafaaRootsBoth
import Derived.Test.YtdiooepnapdafaaRootsNobodyW
import Derived.Deep.RegionHeld3
import Derived.Deep.CutRange
namespace Go.Proofs.Ytdiooepnapdafaa
open Go.ChangeShapes Go.WideShapes Go.ChangeAt Go.RowKit
set_option linter.unusedVariables false

theorem own_cells {w : World} {B q n c : Nat} {zs : List Int} (h : w.ownsRow B 3 1 (.slice (some ⟨q, 0, none⟩) n c) n (icells zs)) (j : Nat) (hj : j < zs.length) : w.cell? ⟨q, j, none⟩ = some (.int .i64 (zs.getD j 0)) := by
  have := World.ownsRow.cells h (g := q) rfl j (.int .i64 (zs.getD j 0)) (by simp [icells, hj])
  rw [add_off, Nat.zero_add] at this
  exact this
theorem own_block {w : World} {B q n c : Nat} {zs : List Int} (h : w.ownsRow B 3 1 (.slice (some ⟨q, 0, none⟩) n c) n (icells zs)) : B ≤ q ∧ ∃ cur, w.heap[q]? = some (.cells cur 3 (0, 0)) := by
  refine ⟨(World.ownsRow.lt h q rfl).1, ?_⟩
  rcases h.2 with ⟨hv, _⟩ | ⟨g, cap, cur, hv, _, hg, _⟩
  · simp at hv
  · simp at hv
    obtain ⟨rfl, -⟩ := hv
    exact ⟨cur, hg⟩
set_option maxRecDepth 100000 in
theorem plays_no (n : Int) (a : Option Addr) (len cap : Nat) (w : World) (h : n < 1 ∨ 64 < n) :
    Calls Try.prog 3 #[.int .i64 n, .slice a len cap] w fun e w' => e = .returned (.bool true) ∧ Below w.heap.size w w' := by
  have Hnew := Lib.hid (new_no n w h)
  rcases h with h | h
  · have h1 : ¬ 1 ≤ n := by omega
    go_enter Try.func3, Try.ntmps3
    go_wp2_with (first | (go_at_call 5; refine Hnew.out.mono ?_; rintro e w1 ⟨rfl, rfl⟩) | (go_at_call 6; refine (lives_any _).mono ?_; rintro e w2 ⟨rfl, hb⟩))
    go_ret
    exact ⟨rfl, hb⟩
  · have h1 : 1 ≤ n := by omega
    have h2 : ¬ n ≤ 64 := by omega
    go_enter Try.func3, Try.ntmps3
    go_wp2_with (first | (go_at_call 5; refine Hnew.out.mono ?_; rintro e w1 ⟨rfl, rfl⟩) | (go_at_call 6; refine (lives_any _).mono ?_; rintro e w2 ⟨rfl, hb⟩))
    go_ret
    exact ⟨rfl, hb⟩
set_option maxRecDepth 100000 in
theorem plays_many (n : Nat) (a : Option Addr) (len cap : Nat) (w : World) (h1 : 1 ≤ n) (h2 : n ≤ 64) (hl : 200 < len) (hm : len ≤ maxLen) :
    Calls Try.prog 3 #[.int .i64 n, .slice a len cap] w fun e w' => e = .returned (.bool true) ∧ Below w.heap.size w w' := by
  have Hnew := Lib.hid (new_yes n w h1 h2)
  unfold maxLen at hm
  go_enter Try.func3, Try.ntmps3
  go_wp2_with (first | (go_at_call 5; refine Hnew.out.mono ?_; rintro e w1 ⟨rfl, hT, hb1⟩; clear hT) | (go_at_call 6; refine (lives_any _).mono ?_; rintro e w2 ⟨rfl, hb⟩))
  go_ret
  exact ⟨rfl, seq hb1 hb⟩

set_option maxHeartbeats 4000000 in
set_option maxRecDepth 100000 in
theorem plays_walk (n : Nat) (a : Option Addr) (cap : Nat) (ps : List Act3) (w : World) (h1 : 1 ≤ n) (h2 : n ≤ 64) (hl : ps.length ≤ 200) (hP : Acts w a ps) :
    Calls Try.prog 3 #[.int .i64 n, .slice a ps.length cap] w fun e w' => e = .returned (.bool true) ∧ Below w.heap.size w w' := by
  obtain ⟨i0, hi, hz0, hz1, hz2⟩ := info_parts int_info
  have hmk : ∀ W : World, (Instr.makeSlice 28 (.int .i64 (n : Int)) (.int .i64 (n : Int))).run Try.prog W = .ok (.slice (some ⟨W.heap.size, 0, none⟩) n n) (W.alloc (.cells (icells (List.replicate n 0)).toArray 3)) := fun W => by
    have h := run_make (P := Try.prog) W 28 3 i0 (.int .i64 0) Try.underlying28 hi hz0 .i64 .i64 (n : Int) (n : Int) (by omega) (by omega) (by rw [hz2]; omega) (by omega)
    rw [hz1, Int.toNat_natCast, made_ints] at h
    exact h
  have Hnew := Lib.hid (new_yes n w h1 h2)
  have HP := Lib.hid hP
  clear hP hi hz0 hz1 hz2
  go_enter Try.func3, Try.ntmps3
  go_wp2_with (go_at_call 5; refine Hnew.out.mono ?_; rintro e w1 ⟨rfl, hT, hb1⟩; have HT := Lib.hid hT; clear hT Hnew)
  have HT0 := Lib.hid (HT.out.grow (below_new w1 (.cells (icells (List.replicate n 0)).toArray 3)))
  have HR0 := Lib.hid (show RowAt w1.heap.size (List.replicate n 0) (w1.alloc (.cells (icells (List.replicate n 0)).toArray 3)) from heap_alloc_new _ _)
  have hb2 := seq hb1 (below_new w1 (.cells (icells (List.replicate n 0)).toArray 3))
  have hR : w.heap.size + 1 < w1.heap.size := block_lt HT.out.head
  generalize w1.alloc (.cells (icells (List.replicate n 0)).toArray 3) = W at *
  generalize w1.heap.size = R at *
  clear HT hb1 hmk
  go_loopw [58] (fun i wr => ∃ (m : Nat) (zs : List Int), i = .int .i64 m ∧ m ≤ ps.length ∧ zs.length = n ∧ Tab w.heap.size (w.heap.size + 1) zs wr ∧ RowAt R zs wr ∧ Below w.heap.size w wr) (fun i _ => ps.length - (intOf i).toNat)
  case atStart => exact ⟨0, List.replicate n 0, rfl, by omega, by simp, HT0.out, HR0.out, hb2⟩
  case round =>
    clear HT0 HR0 hb2
    obtain ⟨m, zs, rfl, hm, hzs, hT, hRow, hb⟩ := hrel
    by_cases hlt : m < ps.length
    · have hP2 := HP.out.below hb
      obtain ⟨b, off, ha, hcell⟩ := hP2.cell
      obtain rfl : a = some ⟨b, off, none⟩ := by
        rcases ha with rfl | ha
        · simp at hlt
        · exact ha
      obtain ⟨c0, c1, c2⟩ := hcell m hlt
      have hok := hP2.each m hlt
      clear hcell ha hP2
      generalize ps.getD m default = p at *
      obtain ⟨k, pa, pb⟩ := p
      obtain ⟨hk, hpa, hpb⟩ := hok
      simp only at *
      have hbox := below_new wr (.cells #[.int .u8 k, .int .i64 pa, .int .i64 pb] 30)
      have hcell3 := heap_alloc_new wr (.cells #[.int .u8 k, .int .i64 pa, .int .i64 pb] 30)
      obtain ⟨⟨d0, d1, d2⟩, -⟩ := three hcell3
      have HT := Lib.hid (hT.grow hbox)
      have HR := Lib.hid (show RowAt R zs (wr.alloc (.cells #[.int .u8 k, .int .i64 pa, .int .i64 pb] 30)) from blockB hbox (Nat.le_refl _) hRow)
      have hRlt : R < wr.heap.size := block_lt hRow
      have Hbx := Lib.hid hcell3
      clear hcell3 hT hRow
      have hb0 := hb.alloc hb.size (.cells #[.int .u8 k, .int .i64 pa, .int .i64 pb] 30)
      have hbd : Below w.heap.size w (wr.alloc (.cells #[.int .u8 k, .int .i64 pa, .int .i64 pb] 30)).drew := (hb.alloc hb.size _).drew
      have HTd := Lib.hid HT.out.drew
      have HRd := Lib.hid (show RowAt R zs (wr.alloc (.cells #[.int .u8 k, .int .i64 pa, .int .i64 pb] 30)).drew from HR.out)
      have HBd := Lib.hid (show (wr.alloc (.cells #[.int .u8 k, .int .i64 pa, .int .i64 pb] 30)).drew.heap[wr.heap.size]? = some (.cells #[.int .u8 k, .int .i64 pa, .int .i64 pb] 30 (0, 0)) from Hbx.out)
      have hRg : R ≠ w.heap.size := by omega
      have hgR : w.heap.size ≠ R := by omega
      have hbR : w.heap.size + 1 ≠ R := by omega
      have hBg : wr.heap.size ≠ w.heap.size := by omega
      have hBR : wr.heap.size ≠ R := by omega
      have hRle : w.heap.size ≤ R := by omega
      clear hb hbox
      by_cases k0 : k % 4 = 0
      · have kk : (k : Int) % 4 = 0 := by omega
        obtain ⟨c, zs', hl', hs1, hs2⟩ := set_both w.heap.size (w.heap.size + 1) R n zs pa pb hzs.symm h2
        have HS1 := Lib.hid hs1
        have HS2 := Lib.hid hs2
        clear hs1 hs2
        go_wp2
        go_region_held3 (fun w' => w'.cell? ⟨wr.heap.size, 1, none⟩ = some (.int .i64 pa) ∧ w'.cell? ⟨wr.heap.size, 2, none⟩ = some (.int .i64 pb)) (first | exact ⟨d1, d2⟩ | go_keep) (first | (go_at_call 7; refine (HS1.out _ ?_).mono ?_; (first | exact HTd.out | exact HTk.out); rintro e w1 ⟨rfl, h1, o1⟩; clear d0 d1 d2; (first | (have HTf := Lib.hid h1; have HRf := Lib.hid (HR2.out.only o1 hRg); have Hbf := Lib.hid (o1.keep Hb2.out hBg); have hbf := hbs.trans (o1.below (Nat.le_refl _) hbs.size); obtain ⟨⟨d0, d1, d2⟩, -⟩ := three Hbf.out) | (have HT1 := Lib.hid h1; have HRk := Lib.hid (HRd.out.only o1 hRg); have Hb1 := Lib.hid (o1.keep HBd.out hBg); have hbs := hbd.trans (o1.below (Nat.le_refl _) hbd.size); obtain ⟨⟨d0, d1, d2⟩, -⟩ := three Hb1.out)); clear h1) | (go_at_call 8; refine (HS2.out _ ?_).mono ?_; (first | exact HRd.out | exact HRk.out); rintro e w2 ⟨rfl, h2', o2⟩; clear d0 d1 d2; (first | (have HRf := Lib.hid h2'; have HTf := Lib.hid (HT1.out.only o2 hgR hbR); have Hbf := Lib.hid (o2.keep Hb1.out hBR); have hbf := hbs.trans (o2.below hRle hbs.size); obtain ⟨⟨d0, d1, d2⟩, -⟩ := three Hbf.out) | (have HR2 := Lib.hid h2'; have HTk := Lib.hid (HTd.out.only o2 hgR hbR); have Hb2 := Lib.hid (o2.keep HBd.out hBR); have hbs := hbd.trans (o2.below hRle hbd.size); obtain ⟨⟨d0, d1, d2⟩, -⟩ := three Hb2.out)); clear h2'))
        all_goals
          obtain ⟨x, cc, hg1, hg2⟩ := get_both w.heap.size (w.heap.size + 1) R n zs' pb (by omega) h2
          have HG1 := Lib.hid hg1
          have HG2 := Lib.hid hg2
          clear hg1 hg2
          obtain ⟨⟨d0, d1, d2⟩, -⟩ := three Hbf.out
          have hzl := hl'.trans hzs
          have HA := Lib.hid (show ∀ w1, Tab w.heap.size (w.heap.size + 1) zs' w1 → Calls Try.prog 16 #[.pointer (some ⟨w.heap.size + 1, 0, none⟩)] w1 fun e w' => ∃ q c, e = .returned (.slice (some ⟨q, 0, none⟩) n c) ∧ w'.ownsRow w1.heap.size 3 1 (.slice (some ⟨q, 0, none⟩) n c) n (icells zs') ∧ Below w1.heap.size w1 w' from fun w1 h => by
            have := all_any _ _ _ w1 h (by omega)
            rw [hzl] at this
            exact this)
          have HL := Lib.hid (show ∀ w1, Tab w.heap.size (w.heap.size + 1) zs' w1 → Calls Try.prog 18 #[.pointer (some ⟨w.heap.size + 1, 0, none⟩)] w1 fun e w' => e = .returned (.int .i64 n) ∧ w1 = w' from fun w1 h => by
            have := len_any _ _ _ w1 h
            rw [hzl] at this
            exact this)
          have Hzl := Lib.hid hzl
          clear hzl hl'
          go_wp2_with (first
            | (go_at_call 14; refine (HG1.out _ HTf.out).mono ?_; rintro e w3 ⟨rfl, hb3⟩; have HT3 := Lib.hid (HTf.out.grow hb3); have HR3 := Lib.hid (show RowAt R zs' w3 from blockB hb3 (Nat.le_refl _) HRf.out); clear d0 d1 d2; obtain ⟨⟨d0, d1, d2⟩, -⟩ := three (blockB hb3 (Nat.le_refl _) Hbf.out); have Hb3 := Lib.hid (hbf.trans (hb3.mono hbf.size)); clear hb3)
            | (go_at_call 15; refine (HG2.out _ HR3.out).mono ?_; rintro e w4 ⟨rfl, rfl⟩)
            | (go_at_call 16; refine (HA.out _ HT3.out).mono ?_; rintro e w4 ⟨q, cq, rfl, hown, hb4⟩; have HT4 := Lib.hid (HT3.out.grow hb4); have HR4 := Lib.hid (show RowAt R zs' w4 from blockB hb4 (Nat.le_refl _) HR3.out); have Hb4 := Lib.hid (Hb3.out.trans (hb4.mono Hb3.out.size)); have Hown := Lib.hid hown; clear hown hb4 d0 d1 d2)
            | (go_at_call 17; refine (same_any q cq R n zs' _ Hzl.out.symm h2 (own_cells Hown.out) HR4.out).mono ?_; rintro e w5 ⟨rfl, hb5⟩; have HT5 := Lib.hid (HT4.out.grow hb5); have HR5 := Lib.hid (show RowAt R zs' w5 from blockB hb5 (Nat.le_refl _) HR4.out); have Hb5 := Lib.hid (Hb4.out.trans (hb5.mono Hb4.out.size)); obtain ⟨hqB, cur, hq4⟩ := own_block Hown.out; have e0 := cellB hb5 (Nat.le_refl _) (own_cells Hown.out 0 (by have := Hzl.out; omega)); have g0 := at_free (blockB hb5 (Nat.le_refl _) hq4) 0; clear hb5 hq4)
            | (go_at_call 18; refine (HL.out _ HT5.out).mono ?_; rintro e w6 ⟨rfl, rfl⟩))
          go_roundw
          case rel =>
            have s1 := block_lt HR3.out
            have s2 := block_lt HT3.out.head
            have o5 : Only q w5 (w5.setCell ⟨q, 0, none⟩ (.int .i64 (-5))) := Only.set (Below.refl _ _) _ _
            exact ⟨m + 1, zs', by go_num, by omega, Hzl.out, HT5.out.only o5 (by omega) (by omega), HR5.out.only o5 (by omega), Hb5.out.setCell (p := ⟨q, 0, none⟩) (by show w.heap.size ≤ q; omega) _⟩
          case measure => simp [intOf]; omega
      by_cases k1 : k % 4 = 1
      · have kk : (k : Int) % 4 = 1 := by omega
        obtain ⟨c, zs', hl', hs1, hs2⟩ := set_both w.heap.size (w.heap.size + 1) R n zs pa pb hzs.symm h2
        have HS1 := Lib.hid hs1
        have HS2 := Lib.hid hs2
        clear hs1 hs2
        go_wp2
        go_region_held3 (fun w' => w'.cell? ⟨wr.heap.size, 1, none⟩ = some (.int .i64 pa) ∧ w'.cell? ⟨wr.heap.size, 2, none⟩ = some (.int .i64 pb)) (first | exact ⟨d1, d2⟩ | go_keep) (first | (go_at_call 7; refine (HS1.out _ ?_).mono ?_; (first | exact HTd.out | exact HTk.out); rintro e w1 ⟨rfl, h1, o1⟩; clear d0 d1 d2; (first | (have HTf := Lib.hid h1; have HRf := Lib.hid (HR2.out.only o1 hRg); have Hbf := Lib.hid (o1.keep Hb2.out hBg); have hbf := hbs.trans (o1.below (Nat.le_refl _) hbs.size); obtain ⟨⟨d0, d1, d2⟩, -⟩ := three Hbf.out) | (have HT1 := Lib.hid h1; have HRk := Lib.hid (HRd.out.only o1 hRg); have Hb1 := Lib.hid (o1.keep HBd.out hBg); have hbs := hbd.trans (o1.below (Nat.le_refl _) hbd.size); obtain ⟨⟨d0, d1, d2⟩, -⟩ := three Hb1.out)); clear h1) | (go_at_call 8; refine (HS2.out _ ?_).mono ?_; (first | exact HRd.out | exact HRk.out); rintro e w2 ⟨rfl, h2', o2⟩; clear d0 d1 d2; (first | (have HRf := Lib.hid h2'; have HTf := Lib.hid (HT1.out.only o2 hgR hbR); have Hbf := Lib.hid (o2.keep Hb1.out hBR); have hbf := hbs.trans (o2.below hRle hbs.size); obtain ⟨⟨d0, d1, d2⟩, -⟩ := three Hbf.out) | (have HR2 := Lib.hid h2'; have HTk := Lib.hid (HTd.out.only o2 hgR hbR); have Hb2 := Lib.hid (o2.keep HBd.out hBR); have hbs := hbd.trans (o2.below hRle hbd.size); obtain ⟨⟨d0, d1, d2⟩, -⟩ := three Hb2.out)); clear h2'))
        all_goals
          obtain ⟨x, cc, hg1, hg2⟩ := get_both w.heap.size (w.heap.size + 1) R n zs' pb (by omega) h2
          have HG1 := Lib.hid hg1
          have HG2 := Lib.hid hg2
          clear hg1 hg2
          obtain ⟨⟨d0, d1, d2⟩, -⟩ := three Hbf.out
          have hzl := hl'.trans hzs
          have HA := Lib.hid (show ∀ w1, Tab w.heap.size (w.heap.size + 1) zs' w1 → Calls Try.prog 16 #[.pointer (some ⟨w.heap.size + 1, 0, none⟩)] w1 fun e w' => ∃ q c, e = .returned (.slice (some ⟨q, 0, none⟩) n c) ∧ w'.ownsRow w1.heap.size 3 1 (.slice (some ⟨q, 0, none⟩) n c) n (icells zs') ∧ Below w1.heap.size w1 w' from fun w1 h => by
            have := all_any _ _ _ w1 h (by omega)
            rw [hzl] at this
            exact this)
          have HL := Lib.hid (show ∀ w1, Tab w.heap.size (w.heap.size + 1) zs' w1 → Calls Try.prog 18 #[.pointer (some ⟨w.heap.size + 1, 0, none⟩)] w1 fun e w' => e = .returned (.int .i64 n) ∧ w1 = w' from fun w1 h => by
            have := len_any _ _ _ w1 h
            rw [hzl] at this
            exact this)
          have Hzl := Lib.hid hzl
          clear hzl hl'
          go_wp2_with (first
            | (go_at_call 14; refine (HG1.out _ HTf.out).mono ?_; rintro e w3 ⟨rfl, hb3⟩; have HT3 := Lib.hid (HTf.out.grow hb3); have HR3 := Lib.hid (show RowAt R zs' w3 from blockB hb3 (Nat.le_refl _) HRf.out); clear d0 d1 d2; obtain ⟨⟨d0, d1, d2⟩, -⟩ := three (blockB hb3 (Nat.le_refl _) Hbf.out); have Hb3 := Lib.hid (hbf.trans (hb3.mono hbf.size)); clear hb3)
            | (go_at_call 15; refine (HG2.out _ HR3.out).mono ?_; rintro e w4 ⟨rfl, rfl⟩)
            | (go_at_call 16; refine (HA.out _ HT3.out).mono ?_; rintro e w4 ⟨q, cq, rfl, hown, hb4⟩; have HT4 := Lib.hid (HT3.out.grow hb4); have HR4 := Lib.hid (show RowAt R zs' w4 from blockB hb4 (Nat.le_refl _) HR3.out); have Hb4 := Lib.hid (Hb3.out.trans (hb4.mono Hb3.out.size)); have Hown := Lib.hid hown; clear hown hb4 d0 d1 d2)
            | (go_at_call 17; refine (same_any q cq R n zs' _ Hzl.out.symm h2 (own_cells Hown.out) HR4.out).mono ?_; rintro e w5 ⟨rfl, hb5⟩; have HT5 := Lib.hid (HT4.out.grow hb5); have HR5 := Lib.hid (show RowAt R zs' w5 from blockB hb5 (Nat.le_refl _) HR4.out); have Hb5 := Lib.hid (Hb4.out.trans (hb5.mono Hb4.out.size)); obtain ⟨hqB, cur, hq4⟩ := own_block Hown.out; have e0 := cellB hb5 (Nat.le_refl _) (own_cells Hown.out 0 (by have := Hzl.out; omega)); have g0 := at_free (blockB hb5 (Nat.le_refl _) hq4) 0; clear hb5 hq4)
            | (go_at_call 18; refine (HL.out _ HT5.out).mono ?_; rintro e w6 ⟨rfl, rfl⟩))
          go_roundw
          case rel =>
            have s1 := block_lt HR3.out
            have s2 := block_lt HT3.out.head
            have o5 : Only q w5 (w5.setCell ⟨q, 0, none⟩ (.int .i64 (-5))) := Only.set (Below.refl _ _) _ _
            exact ⟨m + 1, zs', by go_num, by omega, Hzl.out, HT5.out.only o5 (by omega) (by omega), HR5.out.only o5 (by omega), Hb5.out.setCell (p := ⟨q, 0, none⟩) (by show w.heap.size ≤ q; omega) _⟩
          case measure => simp [intOf]; omega
      by_cases k2 : k % 4 = 2
      · have kk : (k : Int) % 4 = 2 := by omega
        obtain ⟨c, zs', hl', hs1, hs2⟩ := copy_both w.heap.size (w.heap.size + 1) R n zs pa pb hzs.symm h2
        have HS1 := Lib.hid hs1
        have HS2 := Lib.hid hs2
        clear hs1 hs2
        go_wp2
        go_region_held3 (fun w' => w'.cell? ⟨wr.heap.size, 1, none⟩ = some (.int .i64 pa) ∧ w'.cell? ⟨wr.heap.size, 2, none⟩ = some (.int .i64 pb)) (first | exact ⟨d1, d2⟩ | go_keep) (first | (go_at_call 9; refine (HS1.out _ ?_).mono ?_; (first | exact HTd.out | exact HTk.out); rintro e w1 ⟨rfl, h1, o1⟩; clear d0 d1 d2; (first | (have HTf := Lib.hid h1; have HRf := Lib.hid (HR2.out.only o1 hRg); have Hbf := Lib.hid (o1.keep Hb2.out hBg); have hbf := hbs.trans (o1.below (Nat.le_refl _) hbs.size); obtain ⟨⟨d0, d1, d2⟩, -⟩ := three Hbf.out) | (have HT1 := Lib.hid h1; have HRk := Lib.hid (HRd.out.only o1 hRg); have Hb1 := Lib.hid (o1.keep HBd.out hBg); have hbs := hbd.trans (o1.below (Nat.le_refl _) hbd.size); obtain ⟨⟨d0, d1, d2⟩, -⟩ := three Hb1.out)); clear h1) | (go_at_call 10; refine (HS2.out _ ?_).mono ?_; (first | exact HRd.out | exact HRk.out); rintro e w2 ⟨rfl, h2', o2⟩; clear d0 d1 d2; (first | (have HRf := Lib.hid h2'; have HTf := Lib.hid (HT1.out.only o2 hgR hbR); have Hbf := Lib.hid (o2.keep Hb1.out hBR); have hbf := hbs.trans (o2.below hRle hbs.size); obtain ⟨⟨d0, d1, d2⟩, -⟩ := three Hbf.out) | (have HR2 := Lib.hid h2'; have HTk := Lib.hid (HTd.out.only o2 hgR hbR); have Hb2 := Lib.hid (o2.keep HBd.out hBR); have hbs := hbd.trans (o2.below hRle hbd.size); obtain ⟨⟨d0, d1, d2⟩, -⟩ := three Hb2.out)); clear h2'))
        all_goals
          obtain ⟨x, cc, hg1, hg2⟩ := get_both w.heap.size (w.heap.size + 1) R n zs' pb (by omega) h2
          have HG1 := Lib.hid hg1
          have HG2 := Lib.hid hg2
          clear hg1 hg2
          obtain ⟨⟨d0, d1, d2⟩, -⟩ := three Hbf.out
          have hzl := hl'.trans hzs
          have HA := Lib.hid (show ∀ w1, Tab w.heap.size (w.heap.size + 1) zs' w1 → Calls Try.prog 16 #[.pointer (some ⟨w.heap.size + 1, 0, none⟩)] w1 fun e w' => ∃ q c, e = .returned (.slice (some ⟨q, 0, none⟩) n c) ∧ w'.ownsRow w1.heap.size 3 1 (.slice (some ⟨q, 0, none⟩) n c) n (icells zs') ∧ Below w1.heap.size w1 w' from fun w1 h => by
            have := all_any _ _ _ w1 h (by omega)
            rw [hzl] at this
            exact this)
          have HL := Lib.hid (show ∀ w1, Tab w.heap.size (w.heap.size + 1) zs' w1 → Calls Try.prog 18 #[.pointer (some ⟨w.heap.size + 1, 0, none⟩)] w1 fun e w' => e = .returned (.int .i64 n) ∧ w1 = w' from fun w1 h => by
            have := len_any _ _ _ w1 h
            rw [hzl] at this
            exact this)
          have Hzl := Lib.hid hzl
          clear hzl hl'
          go_wp2_with (first
            | (go_at_call 14; refine (HG1.out _ HTf.out).mono ?_; rintro e w3 ⟨rfl, hb3⟩; have HT3 := Lib.hid (HTf.out.grow hb3); have HR3 := Lib.hid (show RowAt R zs' w3 from blockB hb3 (Nat.le_refl _) HRf.out); clear d0 d1 d2; obtain ⟨⟨d0, d1, d2⟩, -⟩ := three (blockB hb3 (Nat.le_refl _) Hbf.out); have Hb3 := Lib.hid (hbf.trans (hb3.mono hbf.size)); clear hb3)
            | (go_at_call 15; refine (HG2.out _ HR3.out).mono ?_; rintro e w4 ⟨rfl, rfl⟩)
            | (go_at_call 16; refine (HA.out _ HT3.out).mono ?_; rintro e w4 ⟨q, cq, rfl, hown, hb4⟩; have HT4 := Lib.hid (HT3.out.grow hb4); have HR4 := Lib.hid (show RowAt R zs' w4 from blockB hb4 (Nat.le_refl _) HR3.out); have Hb4 := Lib.hid (Hb3.out.trans (hb4.mono Hb3.out.size)); have Hown := Lib.hid hown; clear hown hb4 d0 d1 d2)
            | (go_at_call 17; refine (same_any q cq R n zs' _ Hzl.out.symm h2 (own_cells Hown.out) HR4.out).mono ?_; rintro e w5 ⟨rfl, hb5⟩; have HT5 := Lib.hid (HT4.out.grow hb5); have HR5 := Lib.hid (show RowAt R zs' w5 from blockB hb5 (Nat.le_refl _) HR4.out); have Hb5 := Lib.hid (Hb4.out.trans (hb5.mono Hb4.out.size)); obtain ⟨hqB, cur, hq4⟩ := own_block Hown.out; have e0 := cellB hb5 (Nat.le_refl _) (own_cells Hown.out 0 (by have := Hzl.out; omega)); have g0 := at_free (blockB hb5 (Nat.le_refl _) hq4) 0; clear hb5 hq4)
            | (go_at_call 18; refine (HL.out _ HT5.out).mono ?_; rintro e w6 ⟨rfl, rfl⟩))
          go_roundw
          case rel =>
            have s1 := block_lt HR3.out
            have s2 := block_lt HT3.out.head
            have o5 : Only q w5 (w5.setCell ⟨q, 0, none⟩ (.int .i64 (-5))) := Only.set (Below.refl _ _) _ _
            exact ⟨m + 1, zs', by go_num, by omega, Hzl.out, HT5.out.only o5 (by omega) (by omega), HR5.out.only o5 (by omega), Hb5.out.setCell (p := ⟨q, 0, none⟩) (by show w.heap.size ≤ q; omega) _⟩
          case measure => simp [intOf]; omega
      have kk : (k : Int) % 4 = 3 := by omega
      have Htn := Lib.hid (turn_any w.heap.size (w.heap.size + 1) wr.heap.size k pa pb zs _ HT.out Hbx.out)
      clear hbd HTd HRd HBd
      go_wp2_with (go_at_call 11; refine Htn.out.mono ?_; rintro e w1 ⟨rfl, h1, o1⟩; have HT1 := Lib.hid h1; have HR1 := Lib.hid (HR.out.only o1 hRg); have Hb1 := Lib.hid (o1.keep Hbx.out hBg); have Hbs := Lib.hid (hb0.trans (o1.below (Nat.le_refl _) hb0.size)); clear h1 o1 hb0 d0 d1 d2)
      clear Htn HT HR Hbx c0 c1 c2
      generalize wr.heap.size = X at *
      go_loopw [70] (fun i wr2 => ∃ (j : Nat), i = .int .i64 j ∧ j ≤ n ∧ RowAt R (turnAll pb j zs) wr2 ∧ Only R w1 wr2) (fun i _ => n - (intOf i).toNat)
      case atStart => exact ⟨0, rfl, by omega, by simpa [turnAll] using HR1.out, Only.refl _ _⟩
      case round =>
        obtain ⟨j, rfl, hj, hRow, hO⟩ := hrel
        by_cases hjl : j < n
        · have hlen : (turnAll pb j zs).length = zs.length := turnAll_length pb j zs
          have hget := turnAll_get pb j zs (by omega)
          have hcap := hO.keep Hb1.out hBR
          have cm := hRow.cell (show j < (turnAll pb j zs).length by omega)
          rw [hget] at cm
          have fm := hRow.free j
          obtain ⟨⟨d0, d1, d2⟩, -⟩ := three hcap
          have HR2 := Lib.hid hRow
          have Hlen := Lib.hid hlen
          have Hget := Lib.hid hget
          have Hs := Lib.hid (turnAll_succ pb j zs (by omega))
          clear hRow hlen hget hcap
          obtain ⟨x, hx⟩ : ∃ x, zs.getD j 0 = x := ⟨_, rfl⟩
          rw [hx] at cm
          have Hx := Lib.hid hx
          clear hx
          by_cases h0 : x = 0
          · subst h0
            have hsame : turnAll pb (j + 1) zs = turnAll pb j zs := by
              rw [Hs.out, Hx.out, show turnSlot pb 0 = 0 from rfl]
              have h1 := Hget.out
              rw [Hx.out] at h1
              have hl : j < (turnAll pb j zs).length := by have := Hlen.out; omega
              have h2 : (turnAll pb j zs)[j] = 0 := by rw [← h1]; simp [List.getD_eq_getElem?_getD, hl]
              rw [← h2]; exact List.set_getElem_self hl
            have Hsame := Lib.hid hsame
            clear hsame
            go_wp2
            go_roundw
            case rel => exact ⟨j + 1, by go_num, by omega, by rw [Hsame.out]; exact HR2.out, hO⟩
            case measure => simp [intOf]; omega
          · have Hcl := Lib.hid (turned_any x pb)
            have hts : turnSlot pb x = max (turnedZ x pb) 0 := if_pos h0
            generalize turnedZ x pb = z at *
            have hmx : (if z < 0 then (0 : Int) else z) = turnSlot pb (zs.getD j 0) := by rw [Hx.out, hts]; split <;> omega
            have Hts := Lib.hid hmx
            clear hts hmx
            go_wp2
            go_region_with (go_at_call 13; refine (Hcl.out _).mono ?_; rintro e w2 ⟨rfl, rfl⟩)
            all_goals
              go_wp2
              refine ⟨⟨j + 1, by go_num, by omega, ?_, (hO.put _ _).drew⟩, by simp [intOf]; omega⟩
              rw [Hts.out, Hs.out]
              exact HR2.out.set j _
        · obtain rfl : n = j := by omega
          have hrf : RowAt R (zs.map (turnSlot pb)) wr := by rw [← turnAll_all, hzs]; exact hRow
          have HRf := Lib.hid hrf
          have HTf := Lib.hid (HT1.out.only hO hgR hbR)
          have Hbf := Lib.hid (hO.keep Hb1.out hBR)
          have hbf := Hbs.out.trans (hO.below hRle Hbs.out.size)
          obtain ⟨zs', hz'⟩ : ∃ zs', zs' = zs.map (turnSlot pb) := ⟨_, rfl⟩
          have hl' : zs'.length = zs.length := by rw [hz']; simp
          rw [← hz'] at HTf HRf
          clear hz' hrf hRow hO
          obtain ⟨x, cc, hg1, hg2⟩ := get_both w.heap.size (w.heap.size + 1) R n zs' pb (by omega) h2
          have HG1 := Lib.hid hg1
          have HG2 := Lib.hid hg2
          clear hg1 hg2
          obtain ⟨⟨d0, d1, d2⟩, -⟩ := three Hbf.out
          have hzl := hl'.trans hzs
          have HA := Lib.hid (show ∀ w1, Tab w.heap.size (w.heap.size + 1) zs' w1 → Calls Try.prog 16 #[.pointer (some ⟨w.heap.size + 1, 0, none⟩)] w1 fun e w' => ∃ q c, e = .returned (.slice (some ⟨q, 0, none⟩) n c) ∧ w'.ownsRow w1.heap.size 3 1 (.slice (some ⟨q, 0, none⟩) n c) n (icells zs') ∧ Below w1.heap.size w1 w' from fun w1 h => by
            have := all_any _ _ _ w1 h (by omega)
            rw [hzl] at this
            exact this)
          have HL := Lib.hid (show ∀ w1, Tab w.heap.size (w.heap.size + 1) zs' w1 → Calls Try.prog 18 #[.pointer (some ⟨w.heap.size + 1, 0, none⟩)] w1 fun e w' => e = .returned (.int .i64 n) ∧ w1 = w' from fun w1 h => by
            have := len_any _ _ _ w1 h
            rw [hzl] at this
            exact this)
          have Hzl := Lib.hid hzl
          clear hzl hl'
          go_wp2_with (first
            | (go_at_call 14; refine (HG1.out _ HTf.out).mono ?_; rintro e w3 ⟨rfl, hb3⟩; have HT3 := Lib.hid (HTf.out.grow hb3); have HR3 := Lib.hid (show RowAt R zs' w3 from blockB hb3 (Nat.le_refl _) HRf.out); clear d0 d1 d2; obtain ⟨⟨d0, d1, d2⟩, -⟩ := three (blockB hb3 (Nat.le_refl _) Hbf.out); have Hb3 := Lib.hid (hbf.trans (hb3.mono hbf.size)); clear hb3)
            | (go_at_call 15; refine (HG2.out _ HR3.out).mono ?_; rintro e w4 ⟨rfl, rfl⟩)
            | (go_at_call 16; refine (HA.out _ HT3.out).mono ?_; rintro e w4 ⟨q, cq, rfl, hown, hb4⟩; have HT4 := Lib.hid (HT3.out.grow hb4); have HR4 := Lib.hid (show RowAt R zs' w4 from blockB hb4 (Nat.le_refl _) HR3.out); have Hb4 := Lib.hid (Hb3.out.trans (hb4.mono Hb3.out.size)); have Hown := Lib.hid hown; clear hown hb4 d0 d1 d2)
            | (go_at_call 17; refine (same_any q cq R n zs' _ Hzl.out.symm h2 (own_cells Hown.out) HR4.out).mono ?_; rintro e w5 ⟨rfl, hb5⟩; have HT5 := Lib.hid (HT4.out.grow hb5); have HR5 := Lib.hid (show RowAt R zs' w5 from blockB hb5 (Nat.le_refl _) HR4.out); have Hb5 := Lib.hid (Hb4.out.trans (hb5.mono Hb4.out.size)); obtain ⟨hqB, cur, hq4⟩ := own_block Hown.out; have e0 := cellB hb5 (Nat.le_refl _) (own_cells Hown.out 0 (by have := Hzl.out; omega)); have g0 := at_free (blockB hb5 (Nat.le_refl _) hq4) 0; clear hb5 hq4)
            | (go_at_call 18; refine (HL.out _ HT5.out).mono ?_; rintro e w6 ⟨rfl, rfl⟩))
          go_roundw
          case rel =>
            have s1 := block_lt HR3.out
            have s2 := block_lt HT3.out.head
            have o5 : Only q w5 (w5.setCell ⟨q, 0, none⟩ (.int .i64 (-5))) := Only.set (Below.refl _ _) _ _
            exact ⟨m + 1, zs', by go_num, by omega, Hzl.out, HT5.out.only o5 (by omega) (by omega), HR5.out.only o5 (by omega), Hb5.out.setCell (p := ⟨q, 0, none⟩) (by show w.heap.size ≤ q; omega) _⟩
          case measure => simp [intOf]; omega
    · obtain rfl : ps.length = m := by omega
      go_wp2_with (go_at_call 6; refine (lives_any _).mono ?_; rintro e w2 ⟨rfl, hb9⟩)
      go_ret
      exact ⟨rfl, seq hb hb9⟩
theorem plays_any (x : Int) (a : Option Addr) (cap : Nat) (ps : List Act3) (w : World) (hP : Acts w a ps) :
    Calls Try.prog 3 #[.int .i64 x, .slice a ps.length cap] w fun e w' => e = .returned (.bool true) ∧ Below w.heap.size w w' := by
  by_cases hx : x < 1 ∨ 64 < x
  · exact plays_no x a ps.length cap w hx
  · obtain ⟨n, rfl⟩ : ∃ n : Nat, x = n := ⟨x.toNat, by omega⟩
    by_cases hl : 200 < ps.length
    · exact plays_many n a ps.length cap w (by omega) (by omega) hl hP.many
    · exact plays_walk n a cap ps w (by omega) (by omega) (by omega) hP
end Go.Proofs.Ytdiooepnapdafaa
