/- The walks of the laws SealFinds and SealCuts, and the plain law that they rest on. -/
import Derived.Test.YtdkgjjgpejkgfaaSealLaws
import Derived.Test.YtdkgjjgpejkgfaaSealBurst
import Derived.Laws.Bits64
namespace Go.Proofs.Ytdkgjjgpejkgfaa
open Go.ChangeShapes Go.WideShapes Go.ChangeAt Go.RowKit

theorem sealedStr_data (s : ByteArray) : (sealedStr s).data.toList = Crc.sealed s.data.toList := by
  unfold sealedStr Crc.sealed
  rw [ByteArray.data_append, Array.toList_append, str_data]
theorem sealedStr_size (s : ByteArray) : (sealedStr s).size = s.size + 4 := by
  unfold sealedStr
  rw [ByteArray.size_append, str_size]; rfl
theorem size_list (s : ByteArray) : s.data.toList.length = s.size := rfl
/-- a sealed text is one -/
theorem okB_sealed (s : ByteArray) : okB s.size (sealedStr s) = true := by
  rw [okB_iff, sealedStr_data]
  unfold Crc.sealed
  rw [← size_list, List.take_left, List.drop_left]
theorem extract_sealed (s : ByteArray) : (sealedStr s).extract 0 s.size = s := by
  apply ByteArray.ext
  apply Array.toList_inj.1
  rw [extract_head, sealedStr_data]
  unfold Crc.sealed
  rw [← size_list, List.take_left]
theorem turnN_four (a b : List UInt8) (m x : Nat) : turnN (a ++ Crc.four m ++ b) a.length x 4 = a ++ Crc.four (m ^^^ x) ++ b := by
  rw [Crc.four_xor]
  unfold Crc.four
  simp [turnN]
/-- a turned one is one just if nothing was turned -/
theorem okB_turned (s : ByteArray) (i x : Nat) (hi : i ≤ s.size) (hx : x < 2 ^ 32) : okB s.size (str (turnN (sealedStr s).data.toList i x 4)) = decide (x = 0) := by
  rw [Bool.eq_iff_iff, okB_iff, decide_eq_true_iff, str_data]
  have hlen : (sealedStr s).data.toList.length = s.size + 4 := sealedStr_size s
  generalize hL : (sealedStr s).data.toList = L at *
  have hLs : L = Crc.sealed s.data.toList := by rw [← hL, sealedStr_data]
  have hsplit : L = L.take i ++ (L.drop i).take 4 ++ L.drop (i + 4) := by
    rw [List.append_assoc, show L.drop (i + 4) = (L.drop i).drop 4 from by rw [List.drop_drop], List.take_append_drop, List.take_append_drop]
  obtain ⟨m, hm, hm4⟩ := Crc.exists_four' ((L.drop i).take 4) (by simp [hlen]; omega)
  rw [← hm4] at hsplit
  have htl : (L.take i).length = i := by simp [hlen]; omega
  have hturn : turnN L i x 4 = L.take i ++ Crc.four (m ^^^ x) ++ L.drop (i + 4) := by
    conv => lhs; rw [hsplit]
    have := turnN_four (L.take i) (L.drop (i + 4)) m x
    rw [htl] at this
    exact this
  refine Crc.sealed_turned s.data.toList (L.take i) (L.drop (i + 4)) m x hm hx (hLs.symm.trans hsplit) _ _ ?_ ?_
  · rw [List.length_drop, turnN_length, hlen]; omega
  · rw [List.take_append_drop, hturn]

theorem finds_index (z : Int) (n : Nat) (hn : n ≤ 5000) : ∃ i : Nat, i ≤ n ∧ wrap64 ((IntKind.u64.wrap z).tmod ((n : Int) + 1)) = (i : Int) := by
  have h0 : 0 ≤ IntKind.u64.wrap z := by rw [IntKind.wrap_u64]; exact Int.emod_nonneg _ (by decide)
  generalize IntKind.u64.wrap z = u at *
  rw [Int.tmod_eq_emod_of_nonneg h0]
  have h1 : 0 ≤ u % ((n : Int) + 1) := Int.emod_nonneg _ (by omega)
  have h2 : u % ((n : Int) + 1) < (n : Int) + 1 := Int.emod_lt_of_pos _ (by omega)
  refine ⟨(u % ((n : Int) + 1)).toNat, by omega, ?_⟩
  rw [IntWalk.wrap64_in _ ⟨by omega, by omega⟩]
  omega

theorem finds_walk (s : ByteArray) (z : Int) (x : Nat) (w : World) (hs : s.size ≤ 5000) (hx : x < 4294967296) :
    Calls Try.prog 4 #[.string s, .int .i64 z, .int .u32 x] w fun e w' => e = .returned (.bool true) ∧ Below w.heap.size w w' := by
  have hb := Below.refl w.heap.size w
  have hsz := sealedStr_size s
  have ho := fun w => open_long true s.size (sealedStr s) w hsz (by omega) (okB_sealed s)
  rw [extract_sealed] at ho
  have ho' : ∀ w, Calls Try.prog 11 #[.string (sealedStr s)] w fun e w' => e = .returned (.tuple #[.string s, .int .i64 0]) ∧ Below w.heap.size w w' := ho
  have Ho := Lib.hid ho'
  clear ho ho'
  have hm6 : s.size ≤ 1000000 := by omega
  obtain ⟨i, hi, hidx⟩ := finds_index z s.size hs
  have hlen : (str (turnN (sealedStr s).data.toList i x 4)).size = s.size + 4 := by rw [str_size, turnN_length]; exact hsz
  have ho2 := fun w => open_long (decide (x = 0)) s.size _ w hlen (by omega) (okB_turned s i x hi hx)
  have ht2 := fun w => turn_any (sealedStr s) i x w (by omega) hx (by omega)
  obtain ⟨a, q, bx, e1, e2, ho2⟩ : ∃ (a : ByteArray) (q : Int) (bx : Bool), (q == 0) = bx ∧ ((x : Int) == 0) = bx ∧ (∀ w, Calls Try.prog 11 #[.string (str (turnN (sealedStr s).data.toList i x 4))] w fun e w' => e = .returned (.tuple #[.string a, .int .i64 q]) ∧ Below w.heap.size w w') := by
    refine ⟨_, _, decide (x = 0), ?_, ?_, ho2⟩
    · by_cases h : x = 0 <;> simp [h]
    · rw [Bool.eq_iff_iff, beq_iff_eq, decide_eq_true_iff]; omega
  generalize str (turnN (sealedStr s).data.toList i x 4) = t at *
  have Ho2 := Lib.hid ho2
  have Ht2 := Lib.hid ht2
  clear ho2 ht2 hlen
  go_enter Try.func4, Try.ntmps4
  go_wp2_with (first | (go_at_call 11; refine (Ho.out _).mono ?_; rintro e w1 ⟨rfl, hb1⟩; replace hb := seq hb hb1; clear hb1 Ho) | (go_at_call 10; refine (seal_any s _ hm6).mono ?_; rintro e w2 ⟨rfl, hb2⟩; replace hb := seq hb hb2; clear hb2) | (go_at_call 12; refine (Ht2.out _).mono ?_; rintro e w3 ⟨rfl, hb3⟩; replace hb := seq hb hb3; clear hb3) | (go_at_call 11; refine (Ho2.out _).mono ?_; rintro e w4 ⟨rfl, hb4⟩; replace hb := seq hb hb4; clear hb4) | (go_at_call 6; refine (lives_any _).mono ?_; rintro e w9 ⟨rfl, hb9⟩; replace hb := seq hb hb9; clear hb9))
  go_ret
  exact ⟨rfl, hb⟩

theorem finds_all (s : ByteArray) (z : Int) (x : Nat) (w : World) (hs : s.size ≤ maxLen) (hx : x < 4294967296) :
    Calls Try.prog 4 #[.string s, .int .i64 z, .int .u32 x] w fun e w' => e = .returned (.bool true) ∧ Below w.heap.size w w' := by
  by_cases h : s.size ≤ 5000
  · exact finds_walk s z x w h hx
  · unfold maxLen at hs
    have hb := Below.refl w.heap.size w
    go_enter Try.func4, Try.ntmps4
    go_wp2_with (go_at_call 6; refine (lives_any _).mono ?_; rintro e w9 ⟨rfl, hb9⟩; replace hb := seq hb hb9; clear hb9)
    go_ret
    exact ⟨rfl, hb⟩

/-! ### the parts -/
theorem Strs.below {w w' : World} {a : Option Addr} {ss : List ByteArray} (h : Strs w a ss) (hb : Below w.heap.size w w') : Strs w' a ss :=
  ⟨h.many, h.each, by obtain ⟨b, off, ha, hc⟩ := h.cell; exact ⟨b, off, ha, fun i hi => cellB hb (Nat.le_refl _) (hc i hi)⟩⟩

theorem parts_great (a : Option Addr) (cap : Nat) (ss : List ByteArray) (w : World) (hs : Strs w a ss) (h : 50 < ss.length) :
    Calls Try.prog 3 #[.slice a ss.length cap] w fun e w' => e = .returned (.bool true) ∧ Below w.heap.size w w' := by
  have hm := hs.many
  unfold maxLen at hm
  clear hs
  have hb := Below.refl w.heap.size w
  go_enter Try.func3, Try.ntmps3
  go_wp2_with (go_at_call 6; refine (lives_any _).mono ?_; rintro e w9 ⟨rfl, hb9⟩; replace hb := seq hb hb9; clear hb9)
  go_ret
  exact ⟨rfl, hb⟩

theorem parts_step (ss : List ByteArray) (k : Nat) (h : k < ss.length) : 4294967295 - Crc.crc (4294967295 - Crc.sum (joined (ss.take k))) (ss.getD k ByteArray.empty).data.toList = Crc.sum (joined (ss.take (k + 1))) := by
  have := Crc.crc_lt (r := 4294967295) (by decide) (joined (ss.take k))
  unfold Crc.sum
  rw [joined_take ss k h, Crc.crc_append, show 4294967295 - (4294967295 - Crc.crc 4294967295 (joined (ss.take k))) = Crc.crc 4294967295 (joined (ss.take k)) from by omega]

theorem parts_few (a : Option Addr) (cap : Nat) (ss : List ByteArray) (w : World) (hs : Strs w a ss) (h : ss.length ≤ 50) :
    Calls Try.prog 3 #[.slice a ss.length cap] w fun e w' => e = .returned (.bool true) ∧ Below w.heap.size w w' := by
  have e0 := sum_none
  have hb := Below.refl w.heap.size w
  have Hs := Lib.hid hs
  clear hs
  go_enter Try.func3, Try.ntmps3
  go_wp2_with (first | (go_at_call 7; refine (of_any none 0 [] _ (strs_nil _)).mono ?_; rintro e w1 ⟨rfl, hb1⟩; rw [e0]; replace hb := seq hb hb1; clear hb1))
  clear e0
  go_loopw [3, 4, 14] (fun t q i wr => ∃ (k : Nat) (t' : ByteArray), k ≤ ss.length ∧ i = .int .i64 k ∧ t = .string t' ∧ t'.data.toList = joined (ss.take k) ∧ t'.size ≤ 500 * k ∧ q = .int .u32 (Crc.sum (joined (ss.take k)) : Nat) ∧ Below w.heap.size w wr) (fun _ _ i _ => ss.length - (intOf i).toNat)
  case atStart => exact ⟨0, ⟨#[]⟩, by omega, rfl, rfl, rfl, Nat.le_of_eq rfl, by rw [List.take_zero, sum_none]; rfl, hb⟩
  case round =>
    clear hb
    obtain ⟨k, t', hk, rfl, rfl, ht, hts, rfl, hb⟩ := hrel
    by_cases hlt : k < ss.length
    · obtain ⟨b, off, ha, hc⟩ := (Hs.out.below hb).cell
      have hck := hc k hlt
      have hsz := Hs.out.each (ss.getD k ByteArray.empty) (by rw [List.getD_eq_getElem?_getD, List.getElem?_eq_getElem hlt]; exact List.getElem_mem hlt)
      have hnext := parts_step ss k hlt
      have htn := joined_take ss k hlt
      have hsl := Crc.sum_lt (joined (ss.take k))
      generalize ss.getD k ByteArray.empty = s at *
      have ha' : a = some ⟨b, off, none⟩ := by
        rcases ha with h | h
        · subst h; simp at hlt
        · exact h
      subst ha'
      unfold maxLen at hsz
      have Ht := Lib.hid ht
      have Hn := Lib.hid hnext
      have Htn := Lib.hid htn
      clear hc ha ht hnext htn
      by_cases h5 : 500 < s.size
      · go_wp2_with (go_at_call 6; refine (lives_any _).mono ?_; rintro e w9 ⟨rfl, hb9⟩; replace hb := seq hb hb9; clear hb9)
        go_ret
        exact ⟨rfl, hb⟩
      · have hm : s.size ≤ maxLen := by unfold maxLen; omega
        go_wp2_with (go_at_call 8; refine (more_any _ s _ hsl hm).mono ?_; rintro e w5 ⟨rfl, hb5⟩; replace hb := seq hb hb5; clear hb5)
        go_roundw
        case rel => exact ⟨k + 1, t' ++ s, by omega, by go_num, rfl, by rw [ByteArray.data_append, Array.toList_append, Ht.out, Htn.out], by rw [ByteArray.size_append]; omega, by rw [Hn.out], hb⟩
        case measure => simp [intOf]; omega
    · obtain rfl : k = ss.length := by omega
      rw [List.take_length] at ht
      have ht6 : t'.size ≤ 1000000 := by omega
      have htl := List.take_length (l := ss)
      have Ht := Lib.hid ht
      clear ht
      have hst := Hs.out.below hb
      have Hst := Lib.hid hst
      clear hst
      have hj : Crc.sum t'.data.toList = Crc.sum (joined ss) := by rw [Ht.out]
      go_wp2_with (first | (go_at_call 7; refine (of_any a cap ss _ Hst.out).mono ?_; rintro e w1 ⟨rfl, hb1⟩; replace hb := seq hb hb1; clear hb1) | (go_at_call 9; refine (refOf_any t' _ ht6).mono ?_; rintro e w4 ⟨rfl, rfl⟩; rw [hj]) | (go_at_call 6; refine (lives_any _).mono ?_; rintro e w9 ⟨rfl, hb9⟩; replace hb := seq hb hb9; clear hb9))
      go_ret
      exact ⟨rfl, hb⟩

theorem strs_of {w : World} {x : Addr} {len cap : Nat} {ss : List ByteArray} (hcell : ∀ i, i < ss.length → w.cell? (x.add i) = some (.string (ss.getD i ByteArray.empty))) (hl : len ≤ cap) (hm : cap ≤ maxLen) (hz : ss.length = cap) (hws : ∀ s ∈ ss, s.size ≤ maxLen) :
    Strs w (some x) (ss.take len) where
  many := by rw [List.length_take]; omega
  each := fun s hs => hws s (List.mem_of_mem_take hs)
  cell := by
    by_cases h0 : len = 0
    · subst h0; exact ⟨0, 0, .inl (by simp), by simp⟩
    · obtain ⟨b, off, spot⟩ := x
      have hspot : spot = none := by simpa [Addr.add] using World.cell?_spot (hcell 0 (by omega))
      subst hspot
      refine ⟨b, off, .inr rfl, fun i hi => ?_⟩
      rw [List.length_take] at hi
      have h := hcell i (by omega)
      have hadd : (⟨b, off, none⟩ : Addr).add i = ⟨b, off + i, none⟩ := by unfold Addr.add; split <;> simp_all
      rw [hadd] at h
      rw [h]
      congr 2
      rw [List.getD_eq_getElem?_getD, List.getD_eq_getElem?_getD, List.getElem?_take, if_pos (by omega)]

theorem cuts_walk (a : Option Addr) (cap : Nat) (ss : List ByteArray) (w : World) (hs : Strs w a ss) :
    Calls Try.prog 3 #[.slice a ss.length cap] w fun e w' => e = .returned (.bool true) ∧ Below w.heap.size w w' := by
  by_cases h : 50 < ss.length
  · exact parts_great a cap ss w hs h
  · exact parts_few a cap ss w hs (by omega)
end Go.Proofs.Ytdkgjjgpejkgfaa
