/- The walk of the law WireBack, for any parts and whatever stands behind them. -/
import Derived.Test.YtkabpiganjjacaaWireR2
namespace Go.Proofs.Ytkabpiganjjacaa
open Go.ChangeShapes Go.WideShapes Go.ChangeAt Go.RowKit

theorem bytes_short {p : Part} (h : p.s.size ≤ 1000) : p.bytes.2 = true := by
  unfold Part.bytes
  repeat' split
  all_goals first | rfl | omega
theorem costs_short (ps : List Part) (m : Nat) (h : ∀ j, j < m → (ps.getD j default).s.size ≤ 1000) : costs ps m ≤ 1001 * m := by
  induction m with
  | zero => simp [costs]
  | succ m ih =>
    have h1 := ih (fun j hj => h j (by omega))
    have h2 := h m (by omega)
    simp only [costs, Part.cost]
    omega

set_option maxHeartbeats 4000000 in
set_option maxRecDepth 100000 in
theorem back_walk (a : Option Addr) (cap : Nat) (ps : List Part) (t : ByteArray) (w : World) (hP : Parts w a ps) (ht : t.size ≤ maxLen) :
    Calls Try.prog 6 #[.slice a ps.length cap, .string t] w fun e w' => e = .returned (.bool true) ∧ Below w.heap.size w w' := by
  have HP := Lib.hid hP
  have hmany := hP.many
  unfold maxLen at hmany ht
  clear hP
  by_cases hbig : 100 < ps.length
  · have hl := lives_any w
    go_enter Try.func6, Try.ntmps6
    go_wp2_with (go_at_call 7; refine hl.mono ?_; rintro e w1 ⟨rfl, hb⟩)
    go_ret
    exact ⟨rfl, hb⟩
  by_cases hbig2 : 1000 < t.size
  · have hl := lives_any w
    go_enter Try.func6, Try.ntmps6
    go_wp2_with (go_at_call 7; refine hl.mono ?_; rintro e w1 ⟨rfl, hb⟩)
    go_ret
    exact ⟨rfl, hb⟩
  have hb0 := below_new w (.cells #[.pointer none, .slice none 0 0, .bool false] 61)
  have h0 := isW_new w
  have hnew := newWriter_any w
  generalize w.alloc (.cells #[.pointer none, .slice none 0 0, .bool false] 61) = W at *
  have Hnew := Lib.hid hnew
  have H0 := Lib.hid h0
  clear hnew h0
  go_enter Try.func6, Try.ntmps6
  go_wp2_with (go_at_call 8; refine Hnew.out.mono ?_; rintro e w0 ⟨rfl, rfl⟩; clear Hnew)
  go_loopw [26] (fun i wr2 => ∃ (m : Nat), i = .int .i64 m ∧ m ≤ ps.length ∧ (∀ j, j < m → (ps.getD j default).s.size ≤ 1000) ∧ IsW w.heap.size w.heap.size (wants ps m) false wr2 ∧ Below w.heap.size w wr2) (fun i _ => ps.length - (intOf i).toNat)
  case atStart => exact ⟨0, rfl, by omega, by omega, by simpa [wants] using H0.out, hb0⟩
  case round =>
    clear H0 hb0
    obtain ⟨m, rfl, hm, hshort, hW, hb⟩ := hrel
    have hVB : w.heap.size < wr.heap.size := by obtain ⟨_, _, _, h⟩ := hW.block; exact block_lt h
    by_cases hlt : m < ps.length
    · have hwl := wants_length ps m
      have hcs := costs_short ps m hshort
      have hl9 : (wants ps m).length ≤ 2200000 := by omega
      have hP2 := HP.out.below hb
      obtain ⟨b, off, ha, hcell⟩ := hP2.cell
      obtain rfl : a = some ⟨b, off, none⟩ := by
        rcases ha with rfl | ha
        · simp at hlt
        · exact ha
      obtain ⟨c0, c1, c2⟩ := hcell m hlt
      have hok := hP2.each m hlt
      have hs := hok.2.2
      unfold maxLen at hs
      have e1 : wants ps (m + 1) = wants ps m ++ (ps.getD m default).bytes.1 := rfl
      have Hall : (ps.getD m default).s.size ≤ 1000 → Hid (∀ j, j < m + 1 → (ps.getD j default).s.size ≤ 1000) := fun h => Lib.hid fun j hj => by
        by_cases e : j = m
        · subst e; exact h
        · exact hshort j (by omega)
      clear hcell ha hP2 hshort hwl hcs
      generalize ps.getD m default = p at *
      have hbox := below_new wr (.cells #[.int .u8 p.k, .int .u64 p.n, .string p.s] 25)
      have hcell3 := heap_alloc_new wr (.cells #[.int .u8 p.k, .int .u64 p.n, .string p.s] 25)
      obtain ⟨⟨d0, d1, d2⟩, -⟩ := three hcell3
      by_cases hlong : 1000 < p.s.size
      · have Hb := Lib.hid (seq hb hbox)
        clear hbox hcell3 hW hok Hall e1
        go_wp2_with (go_at_call 7; refine (lives_any _).mono ?_; rintro e w1 ⟨rfl, hb1⟩)
        go_ret
        exact ⟨rfl, seq Hb.out hb1⟩
      · have hwr := write_any w.heap.size w.heap.size p (wants ps m) false _ hok (hW.grow hbox) (by omega) (by have := hbox.size; omega)
        rw [bytes_short (by omega : p.s.size ≤ 1000)] at hwr
        rw [← e1] at hwr
        have Hall := Hall (by omega)
        have Hwr := Lib.hid hwr
        clear hbox hcell3 hwr hW hok e1
        unfold Part.value at *
        go_wp2_with (go_at_call 9; refine Hwr.out.mono ?_; rintro e w1 ⟨rfl, hw1⟩; have Hw1 := Lib.hid hw1; clear hw1)
        go_roundw
        case rel => exact ⟨m + 1, by go_num, by omega, Hall.out, Hw1.out.1, (hb.alloc hb.size _).trans Hw1.out.2.toBelow⟩
        case measure => simp [intOf]; omega
    · obtain rfl : ps.length = m := by omega
      obtain ⟨V, rfl⟩ : ∃ V, V = wr := ⟨_, rfl⟩
      have hwl := wants_length ps ps.length
      have hcs := costs_short ps ps.length hshort
      have hl9 : (wants ps ps.length).length ≤ 2200000 := by omega
      have hdone := wDone_any w.heap.size w.heap.size _ _ V hW (by omega)
      have hsw : (str (wants ps ps.length)).size ≤ 2200000 := by rw [str_size]; omega
      have hcat : (str (wants ps ps.length) ++ t).data.toList = rest ps 0 ++ t.data.toList := by
        rw [rest_zero, ByteArray.data_append, Array.toList_append, str_data]
      have hnr : ∀ w1, Calls Try.prog 12 #[.string (str (wants ps ps.length) ++ t)] w1 fun e w' => e = .returned (.pointer (some ⟨w1.heap.size, 0, none⟩)) ∧ IsR w1.heap.size (rest ps 0 ++ t.data.toList) 0 w' ∧ Below w1.heap.size w1 w' := fun w1 => by
        have := newReader_any (str (wants ps ps.length) ++ t) w1
        rw [hcat] at this
        exact this
      have Hshort := Lib.hid hshort
      have Hd := Lib.hid hdone
      have Hn := Lib.hid hnr
      clear hdone hnr hcat hwl hcs hshort hW hlt hm
      go_wp2_with (first | (go_at_call 11; refine Hd.out.mono ?_; rintro e w1 ⟨rfl, hb1⟩) | (go_at_call 12; refine (Hn.out _).mono ?_; rintro e w2 ⟨rfl, hr2, hb2⟩))
      have hB1 : Below w.heap.size w w1 := hb.trans hb1
      have hB2 : Below w.heap.size w w2 := hB1.trans (hb2.mono hB1.size)
      have hR1 : w.heap.size ≤ w1.heap.size := hB1.size
      have hrl : ∀ j, (rest ps j).length ≤ 2200000 := fun j => by unfold rest; rw [List.length_drop]; omega
      generalize w1.heap.size = R at *
      have Hr2 := Lib.hid hr2
      have Hrl := Lib.hid hrl
      clear hr2 hrl hb hb1 hb2 Hd Hn hB1 hVB hl9 hsw
      go_loopw [50] (fun i wr2 => ∃ (m : Nat), i = .int .i64 m ∧ m ≤ ps.length ∧ IsR R (rest ps m ++ t.data.toList) 0 wr2 ∧ Below w.heap.size w wr2) (fun i _ => ps.length - (intOf i).toNat)
      case atStart => exact ⟨0, rfl, by omega, Hr2.out, hB2⟩
      case round =>
        clear Hr2 hB2
        obtain ⟨m, rfl, hm, hR, hb⟩ := hrel
        by_cases hlt : m < ps.length
        · have hP2 := HP.out.below hb
          obtain ⟨b, off, ha, hcell⟩ := hP2.cell
          obtain rfl : a = some ⟨b, off, none⟩ := by
            rcases ha with rfl | ha
            · simp at hlt
            · exact ha
          obtain ⟨c0, c1, c2⟩ := hcell m hlt
          have hok := hP2.each m hlt
          have hst := rest_step ps hlt
          have hsh := Hshort.out m hlt
          have hll : (rest ps m ++ t.data.toList).length ≤ 1000000000 := by have := Hrl.out m; rw [List.length_append, size_list]; omega
          have hRlt : R < wr.heap.size := block_lt hR
          clear hcell ha hP2
          generalize ps.getD m default = p at *
          obtain ⟨k, n, s⟩ := p
          obtain ⟨hk, hn, hs⟩ := hok
          simp only at *
          unfold maxLen at hs
          unfold Part.bytes at hst
          simp only at hst
          have hbox := below_new wr (.cells #[.int .u8 k, .int .u64 n, .string s] 25)
          have hcell3 := heap_alloc_new wr (.cells #[.int .u8 k, .int .u64 n, .string s] 25)
          obtain ⟨⟨d0, d1, d2⟩, -⟩ := three hcell3
          have hRb : IsR R (rest ps m ++ t.data.toList) 0 (wr.alloc (.cells #[.int .u8 k, .int .u64 n, .string s] 25)) := blockB hbox (Nat.le_refl _) hR
          have hb2 := hb.alloc hb.size (.cells #[.int .u8 k, .int .u64 n, .string s] 25)
          have hne : wr.heap.size ≠ R := by omega
          have hsz2 : w.heap.size ≤ (wr.alloc (.cells #[.int .u8 k, .int .u64 n, .string s] 25)).heap.size := hb2.size
          have Hc3 := Lib.hid hcell3
          have HRb := Lib.hid hRb
          clear hcell3 hRb hR hbox
          by_cases k0 : k % 4 = 0
          · have kk : (k : Int) % 4 = 0 := by omega
            rw [if_pos k0] at hst
            simp only at hst
            rw [hst, List.append_assoc] at HRb hll
            have hq : Wire.readNum (Wire.num n ++ (rest ps (m + 1) ++ t.data.toList)) = (n, (Wire.num n).length, 0) := Wire.readNum_num hn _
            have hdr : (Wire.num n ++ (rest ps (m + 1) ++ t.data.toList)).drop ((Wire.num n).length) = rest ps (m + 1) ++ t.data.toList := by exact List.drop_left
            have hr : ∀ w1, IsR R (Wire.num n ++ (rest ps (m + 1) ++ t.data.toList)) 0 w1 → Calls Try.prog 13 #[.pointer (some ⟨R, 0, none⟩)] w1 fun e w' => e = .returned (.int .u64 n) ∧ IsR R (rest ps (m + 1) ++ t.data.toList) 0 w' ∧ Only R w1 w' := fun w1 h1 => by
              have := rNum_ok R _ _ _ w1 h1 hq hll
              rw [hdr] at this
              exact this
            have Hr := Lib.hid hr
            clear hr hq hdr hst hll Hrl 
            go_wp2
            go_region_with (first | (go_at_call 13; refine (Hr.out _ ?_).mono ?_; exact HRb.out; rintro e w1 ⟨rfl, hw1⟩; clear d0 d1 d2; obtain ⟨⟨d0, d1, d2⟩, -⟩ := three (hw1.2.keep Hc3.out hne); have Hw1 := Lib.hid hw1; clear hw1) )
            all_goals
              go_wp2
              refine ⟨⟨m + 1, by go_num, by omega, Hw1.out.1, hb2.drew.trans (Hw1.out.2.below hR1 hsz2)⟩, by simp [intOf]; omega⟩
          by_cases k1 : k % 4 = 1
          · have kk : (k : Int) % 4 = 1 := by omega
            rw [if_neg k0, if_pos k1] at hst
            simp only at hst
            rw [hst, List.append_assoc] at HRb hll
            have hq : Wire.readNum (Wire.int (wrap64 n) ++ (rest ps (m + 1) ++ t.data.toList)) = ((Wire.zig (wrap64 n)), (Wire.num (Wire.zig (wrap64 n))).length, 0) := Wire.readNum_num (Wire.zig_lt (wrap64_bounds n).1 (wrap64_bounds n).2) _
            have hdr : (Wire.int (wrap64 n) ++ (rest ps (m + 1) ++ t.data.toList)).drop ((Wire.num (Wire.zig (wrap64 n))).length) = rest ps (m + 1) ++ t.data.toList := by exact List.drop_left
            have hzz := Wire.zag_zig (wrap64_bounds n).1 (wrap64_bounds n).2
            have hr : ∀ w1, IsR R (Wire.int (wrap64 n) ++ (rest ps (m + 1) ++ t.data.toList)) 0 w1 → Calls Try.prog 15 #[.pointer (some ⟨R, 0, none⟩)] w1 fun e w' => e = .returned (.int .i64 (wrap64 n)) ∧ IsR R (rest ps (m + 1) ++ t.data.toList) 0 w' ∧ Only R w1 w' := fun w1 h1 => by
              have := rInt_ok R _ _ _ w1 h1 hq hll
              rw [hdr, hzz] at this
              exact this
            have Hr := Lib.hid hr
            clear hr hq hdr hst hll Hrl hzz
            have hwb := wrap64_bounds n
            go_wp2
            go_region_with (first | (go_at_call 15; refine (Hr.out _ ?_).mono ?_; exact HRb.out; rintro e w1 ⟨rfl, hw1⟩; clear d0 d1 d2; obtain ⟨⟨d0, d1, d2⟩, -⟩ := three (hw1.2.keep Hc3.out hne); have Hw1 := Lib.hid hw1; clear hw1) )
            all_goals
              go_wp2
              refine ⟨⟨m + 1, by go_num, by omega, Hw1.out.1, hb2.drew.trans (Hw1.out.2.below hR1 hsz2)⟩, by simp [intOf]; omega⟩
          by_cases k2 : k % 4 = 2
          · have kk : (k : Int) % 4 = 2 := by omega
            rw [if_neg k0, if_neg k1, if_pos k2] at hst
            simp only at hst
            rw [hst, List.append_assoc] at HRb hll
            have hq : Wire.readFix (Wire.fix n ++ (rest ps (m + 1) ++ t.data.toList)) = (n, 8, 0) := Wire.readFix_fix hn _
            have hdr : (Wire.fix n ++ (rest ps (m + 1) ++ t.data.toList)).drop (8) = rest ps (m + 1) ++ t.data.toList := by rw [show 8 = (Wire.fix n).length from (Wire.fixF_length 8 n).symm]; exact List.drop_left
            have hr : ∀ w1, IsR R (Wire.fix n ++ (rest ps (m + 1) ++ t.data.toList)) 0 w1 → Calls Try.prog 18 #[.pointer (some ⟨R, 0, none⟩)] w1 fun e w' => e = .returned (.float .f64 n) ∧ IsR R (rest ps (m + 1) ++ t.data.toList) 0 w' ∧ Only R w1 w' := fun w1 h1 => by
              have := rFloat_ok R _ _ _ w1 h1 hq hll
              rw [hdr] at this
              exact this
            have Hr := Lib.hid hr
            clear hr hq hdr hst hll Hrl 
            go_wp2
            go_region_with (first | (go_at_call 18; refine (Hr.out _ ?_).mono ?_; exact HRb.out; rintro e w1 ⟨rfl, hw1⟩; clear d0 d1 d2; obtain ⟨⟨d0, d1, d2⟩, -⟩ := three (hw1.2.keep Hc3.out hne); have Hw1 := Lib.hid hw1; clear hw1) | (go_at_call 17; refine (floatBits_any _ _).mono ?_; rintro e w2 ⟨rfl, rfl⟩))
            all_goals
              go_wp2
              refine ⟨⟨m + 1, by go_num, by omega, Hw1.out.1, hb2.drew.trans (Hw1.out.2.below hR1 hsz2)⟩, by simp [intOf]; omega⟩
          have k3 : k % 4 = 3 := by omega
          have kk : (k : Int) % 4 = 3 := by omega
          rw [if_neg k0, if_neg k1, if_neg k2, if_pos (by omega : s.size ≤ 65535)] at hst
          simp only at hst
          rw [hst, List.append_assoc] at HRb hll
          have hq : Wire.readText (Wire.text s.data.toList ++ (rest ps (m + 1) ++ t.data.toList)) = (s.data.toList, (Wire.text s.data.toList).length, 0) := Wire.readText_text (by rw [size_list]; omega) _
          have hdr : (Wire.text s.data.toList ++ (rest ps (m + 1) ++ t.data.toList)).drop ((Wire.text s.data.toList).length) = rest ps (m + 1) ++ t.data.toList := by exact List.drop_left
          have hss : str s.data.toList = s := by apply ByteArray.ext; apply Array.toList_inj.1; rw [str_data]
          have hr : ∀ w1, IsR R (Wire.text s.data.toList ++ (rest ps (m + 1) ++ t.data.toList)) 0 w1 → Calls Try.prog 20 #[.pointer (some ⟨R, 0, none⟩)] w1 fun e w' => e = .returned (.string s) ∧ IsR R (rest ps (m + 1) ++ t.data.toList) 0 w' ∧ Only R w1 w' := fun w1 h1 => by
            have := rText_ok R _ _ _ w1 h1 hq hll
            rw [hdr, hss] at this
            exact this
          have Hr := Lib.hid hr
          clear hr hq hdr hst hll Hrl hss
          generalize Wire.text s.data.toList ++ (rest ps (m + 1) ++ t.data.toList) = l0 at *
          go_wp2
          go_region_with (first | (go_at_call 20; refine (Hr.out _ ?_).mono ?_; exact HRb.out; rintro e w1 ⟨rfl, hw1⟩; clear d0 d1 d2; obtain ⟨⟨d0, d1, d2⟩, -⟩ := three (hw1.2.keep Hc3.out hne); have Hw1 := Lib.hid hw1; clear hw1) )
          all_goals
            go_wp2
            refine ⟨⟨m + 1, by go_num, by omega, Hw1.out.1, hb2.drew.trans (Hw1.out.2.below hR1 hsz2)⟩, by simp [intOf]; omega⟩
        · obtain rfl : ps.length = m := by omega
          rw [rest_end, List.nil_append] at hR
          have Hl := Lib.hid (fun w1 (h1 : IsR R t.data.toList 0 w1) => rLeft_any R _ _ w1 h1)
          have HR := Lib.hid hR
          have hle : ∀ w1, IsR R t.data.toList 0 w1 → Calls Try.prog 22 #[.pointer (some ⟨R, 0, none⟩)] w1 fun e w' => e = .returned (.int .i64 t.size) ∧ w1 = w' := fun w1 h1 => Hl.out w1 h1
          have Hle := Lib.hid hle
          clear hR hle
          go_wp2_with (first | (go_at_call 23; refine (rErr_any _ _ _ _ HR.out).mono ?_; rintro e w3 ⟨rfl, rfl⟩) | (go_at_call 22; refine (Hle.out _ HR.out).mono ?_; rintro e w3 ⟨rfl, rfl⟩) | (go_at_call 7; refine (lives_any _).mono ?_; rintro e w4 ⟨rfl, hb4⟩))
          go_ret
          exact ⟨rfl, seq hb hb4⟩
end Go.Proofs.Ytkabpiganjjacaa
