/- The walks of the reference's ReadNum and ReadFloat, and wire's fixed. -/
import Derived.Test.YtkabpiganjjacaaWireRd
namespace Go.Proofs.Ytkabpiganjjacaa
open Go.ChangeShapes Go.WideShapes Go.ChangeAt Go.RowKit

set_option maxRecDepth 100000 in
set_option maxHeartbeats 1000000 in
theorem readNum_any (s : ByteArray) (w : World) (hs : s.size ≤ 1000000000) :
    Calls Try.prog 14 #[.string s] w fun e w' => e = .returned (.tuple #[.int .u64 (Wire.readNum s.data.toList).1, .int .i64 (Wire.readNum s.data.toList).2.1, .int .i64 (Wire.readNum s.data.toList).2.2]) ∧ w = w' := by
  unfold Wire.readNum
  go_enter Try.func14, Try.ntmps14
  go_wp2
  go_loopw [5, 6, 7] (fun n q i wr => ∃ (j m p : Nat), n = .int .u64 m ∧ i = .int .i64 j ∧ q = .int .u64 p ∧ p = 128 ^ j ∧ j ≤ 9 ∧ j ≤ s.size ∧ m < 128 ^ j ∧ Wire.rd 0 0 s.data.toList = Wire.rd j m (s.data.toList.drop j) ∧ wr = w) (fun _ _ i _ => s.size - (intOf i).toNat)
  case atStart => exact ⟨0, 0, 1, rfl, rfl, rfl, rfl, by omega, by omega, by simp, rfl, rfl⟩
  case round =>
    obtain ⟨j, m, p, rfl, rfl, rfl, hp, hj9, hj, hm, hrd, rfl⟩ := hrel
    have Hp := Lib.hid hp
    have Hm := Lib.hid hm
    have Hrd := Lib.hid hrd
    clear hm hrd hp
    by_cases hlt : j < s.size
    · have hcl : s[j].toNat < 256 := UInt8.toNat_lt _
      have hdr : s.data.toList.drop j = s[j] :: s.data.toList.drop (j + 1) := by
        rw [List.drop_eq_getElem_cons (by rw [size_list]; exact hlt)]; rfl
      have Hdr := Lib.hid hdr
      clear hdr
      by_cases hbad : (0 < j ∧ s[j].toNat = 0) ∨ (9 ≤ j ∧ 1 < s[j].toNat)
      · have hbad' : (0 < j ∧ s[j].toNat = 0) ∨ (j = 9 ∧ 1 < s[j].toNat) := by omega
        have Hbad := Lib.hid hbad
        rcases hbad' with ⟨h1, h2⟩ | ⟨h1, h2⟩
        · clear hbad
          go_wp2
          go_ret3
          rw [Hrd.out, Hdr.out, Wire.rd_bad Hbad.out]
          exact ⟨rfl, rfl⟩
        · subst h1
          have h3 : ¬ s[9].toNat = 0 := by omega
          clear hbad
          go_wp2
          go_ret3
          rw [Hrd.out, Hdr.out, Wire.rd_bad Hbad.out]
          exact ⟨rfl, rfl⟩
      · have n1 : ¬ (0 < j ∧ s[j].toNat = 0) := by omega
        have n2 : ¬ (9 ≤ j ∧ 1 < s[j].toNat) := by omega
        have hq : m + s[j].toNat % 128 * p < 18446744073709551616 := by rw [Hp.out]; exact Wire.rd_small hj9 Hm.out n2
        have hq2 : s[j].toNat % 128 * p < 18446744073709551616 := by omega
        have Hbad := Lib.hid hbad
        have hmb := Wire.mul_byte hq
        rw [Hp.out] at hmb
        rw [← Hp.out] at hmb
        have Hmb := Lib.hid hmb
        clear hmb
        have Hq := Lib.hid hq
        have Hq2 := Lib.hid hq2
        have Hstep := Lib.hid (Wire.rd_step (c := s[j]) Hm.out)
        clear hbad hq hq2
        by_cases hend : s[j].toNat < 128
        · have Hend := Lib.hid (Wire.rd_end (n := m) (r := s.data.toList.drop (j + 1)) Hbad.out hend)
          by_cases hz : j = 0
          · subst hz
            go_wp2
            go_ret3
            rw [Hrd.out, Hdr.out, Hend.out]
            exact ⟨by show Ending.returned (.tuple #[.int .u64 _, _, _]) = _; rw [Hmb.out, Hp.out]; rfl, rfl⟩
          · have c0 : ¬ s[j].toNat = 0 := by omega
            have b0 : ((s[j].toNat : Int) == 0) = false := by rw [beq_eq_false_iff_ne]; omega
            go_wp2
            all_goals
              go_ret3
              rw [Hrd.out, Hdr.out, Hend.out]
              exact ⟨by show Ending.returned (.tuple #[.int .u64 _, _, _]) = _; rw [Hmb.out, Hp.out]; rfl, rfl⟩
        · have Hmore := Lib.hid (Wire.rd_more (n := m) (r := s.data.toList.drop (j + 1)) Hbad.out hend)
          have c0 : ¬ s[j].toNat = 0 := by omega
          have h9 : ¬ 9 ≤ j := by omega
          have hw := Wire.mul_worth (j := j) (by omega)
          rw [← Hp.out] at hw
          have Hw := Lib.hid hw
          clear hw
          go_wp2
          all_goals
            refine ⟨⟨j + 1, m + s[j].toNat % 128 * p, 128 ^ (j + 1), by rw [Hmb.out], by go_num, by rw [Hw.out], rfl, by omega, by omega, by rw [Hp.out]; exact Hstep.out, by rw [Hrd.out, Hdr.out, Hmore.out, Hp.out], trivial⟩, by simp [intOf]; omega⟩
    · obtain rfl : s.size = j := by omega
      have hdr : s.data.toList.drop s.size = [] := List.drop_of_length_le (by rw [size_list]; exact Nat.le_refl _)
      have Hdr := Lib.hid hdr
      clear hdr
      go_wp2
      go_ret3
      rw [Hrd.out, Hdr.out]
      exact ⟨rfl, rfl⟩

theorem un_step (s : ByteArray) (j : Nat) (h : j < s.size) : Wire.un (s.data.toList.take (j + 1)) = Wire.un (s.data.toList.take j) + s[j].toNat * 256 ^ j := by
  have e : s.data.toList.take (j + 1) = s.data.toList.take j ++ [s[j]] := by
    rw [List.take_succ_eq_append_getElem (by rw [size_list]; exact h)]; rfl
  rw [e, Wire.un_append, List.length_take, size_list, Nat.min_eq_left (by omega)]

set_option maxRecDepth 100000 in
set_option maxHeartbeats 1000000 in
theorem fixed_any (s : ByteArray) (w : World) (hs : s.size ≤ 1000000000) :
    Calls Try.prog 37 #[.string s] w fun e w' => e = .returned (.tuple #[.int .u64 (Wire.readFix s.data.toList).1, .int .i64 (Wire.readFix s.data.toList).2.1, .int .i64 (Wire.readFix s.data.toList).2.2]) ∧ w = w' := by
  unfold Wire.readFix
  rw [size_list]
  by_cases h8 : s.size < 8
  · rw [if_pos h8]
    go_enter Try.func37, Try.ntmps37
    go_wp2
    go_ret3
    exact ⟨rfl, rfl⟩
  · rw [if_neg h8]
    go_enter Try.func37, Try.ntmps37
    go_wp2
    go_loopw [5, 10] (fun n i wr => ∃ (j m : Nat), n = .int .u64 m ∧ i = .int .i64 j ∧ j ≤ 8 ∧ m = Wire.un (s.data.toList.take j) ∧ wr = w) (fun _ i _ => 8 - (intOf i).toNat)
    case atStart => exact ⟨0, 0, rfl, rfl, by omega, rfl, rfl⟩
    case round =>
      obtain ⟨j, m, rfl, rfl, hj, hm, rfl⟩ := hrel
      by_cases hlt : j < 8
      · have hlt2 : j < s.size := by omega
        have Hstep := Lib.hid (un_step s j hlt2)
        have hml : m < 256 ^ j := by
          rw [hm]
          have := Wire.un_lt (s.data.toList.take j)
          rw [List.length_take, size_list, Nat.min_eq_left (by omega)] at this
          exact this
        have Hm := Lib.hid hm
        clear hm
        have hcl : s[j].toNat < 256 := UInt8.toNat_lt _
        by_cases hz : j = 0
        · subst hz
          obtain rfl : m = 0 := by simpa using hml
          have Hput := Lib.hid (Wire.put8_0 hcl)
          clear hml
          go_wp2
          go_roundw
          case rel => exact ⟨1, _, by rw [Hput.out], rfl, by omega, by rw [Hstep.out, ← Hm.out], trivial⟩
          case measure => simp [intOf]
        · have Hput := Lib.hid (Wire.put8 (j := j) (by omega) hml hcl)
          clear hml
          go_wp2
          go_roundw
          case rel => exact ⟨j + 1, _, by rw [Hput.out], by go_num, by omega, by rw [Hstep.out, ← Hm.out], trivial⟩
          case measure => simp [intOf]; omega
      · obtain rfl : 8 = j := by omega
        have Hm := Lib.hid hm
        clear hm
        go_wp2
        go_ret3
        rw [← Hm.out]
        exact ⟨rfl, rfl⟩

theorem un_down (s : ByteArray) (k : Nat) (h : k < 8) (hs : 8 ≤ s.size) : Wire.un ((s.data.toList.take 8).drop k) = s[k].toNat + 256 * Wire.un ((s.data.toList.take 8).drop (k + 1)) := by
  have e : (s.data.toList.take 8).drop k = s[k] :: (s.data.toList.take 8).drop (k + 1) := by
    rw [List.drop_eq_getElem_cons (by rw [List.length_take, size_list]; omega), List.getElem_take]; rfl
  rw [e]; rfl

set_option maxRecDepth 100000 in
set_option maxHeartbeats 1000000 in
theorem readFix_any (s : ByteArray) (w : World) (hs : s.size ≤ 1000000000) :
    Calls Try.prog 19 #[.string s] w fun e w' => e = .returned (.tuple #[.int .u64 (Wire.readFix s.data.toList).1, .int .i64 (Wire.readFix s.data.toList).2.1, .int .i64 (Wire.readFix s.data.toList).2.2]) ∧ w = w' := by
  unfold Wire.readFix
  rw [size_list]
  by_cases h8 : s.size < 8
  · rw [if_pos h8]
    go_enter Try.func19, Try.ntmps19
    go_wp2
    go_ret3
    exact ⟨rfl, rfl⟩
  · rw [if_neg h8]
    go_enter Try.func19, Try.ntmps19
    go_wp2
    go_loopw [5, 6] (fun n i wr => ∃ (j m : Nat) (i0 : Int), n = .int .u64 m ∧ i = .int .i64 i0 ∧ i0 + 1 = j ∧ j ≤ 8 ∧ m = Wire.un ((s.data.toList.take 8).drop j) ∧ wr = w) (fun _ i _ => (intOf i + 1).toNat)
    case atStart => exact ⟨8, 0, 7, rfl, rfl, rfl, by omega, by rw [List.drop_of_length_le (by rw [List.length_take]; omega)]; rfl, rfl⟩
    case round =>
      obtain ⟨j, m, i0, rfl, rfl, hi0, hj, hm, rfl⟩ := hrel
      by_cases hz : j = 0
      · subst hz
        obtain rfl : i0 = -1 := by omega
        have Hm := Lib.hid hm
        clear hm
        go_wp2
        go_ret3
        rw [show Wire.un (s.data.toList.take 8) = m from Hm.out.symm]
        exact ⟨rfl, rfl⟩
      · obtain ⟨k, rfl⟩ : ∃ k, j = k + 1 := ⟨j - 1, by omega⟩
        obtain rfl : i0 = (k : Int) := by omega
        have hks : k < s.size := by omega
        have hcl : s[k].toNat < 256 := UInt8.toNat_lt _
        have hml : m < 72057594037927936 := by
          rw [hm]
          have := Wire.un_lt ((s.data.toList.take 8).drop (k + 1))
          have h7 : 256 ^ ((s.data.toList.take 8).drop (k + 1)).length ≤ 256 ^ 7 := Nat.pow_le_pow_right (by omega) (by rw [List.length_drop, List.length_take]; omega)
          have e2 : (256 : Nat) ^ 7 = 72057594037927936 := by decide
          omega
        have Hh := Lib.hid (Wire.horner hml hcl)
        have Hstep := Lib.hid (un_down s k (by omega) (by omega))
        have Hm := Lib.hid hm
        clear hm hi0 hml
        go_wp2
        go_roundw
        case rel => exact ⟨k, _, (k : Int) - 1, by rw [Hh.out], rfl, by omega, by omega, by rw [Hstep.out, ← Hm.out], trivial⟩
        case measure => simp [intOf]
end Go.Proofs.Ytkabpiganjjacaa
