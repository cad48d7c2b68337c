/- The walks of the readers of bytes: wire's number, fixed and text, and the reference's. -/
import Derived.Test.YtkabpiganjjacaaWireRMath
import Derived.Test.YtkabpiganjjacaaWireActs
namespace Go.Proofs.Ytkabpiganjjacaa
open Go.ChangeShapes Go.WideShapes Go.ChangeAt Go.RowKit

set_option maxRecDepth 100000 in
set_option maxHeartbeats 1000000 in
theorem number_any (s : ByteArray) (w : World) (hs : s.size ≤ 1000000000) :
    Calls Try.prog 35 #[.string s] w fun e w' => e = .returned (.tuple #[.int .u64 (Wire.readNum s.data.toList).1, .int .i64 (Wire.readNum s.data.toList).2.1, .int .i64 (Wire.readNum s.data.toList).2.2]) ∧ w = w' := by
  unfold Wire.readNum
  go_enter Try.func35, Try.ntmps35
  go_wp2
  go_loopw [5, 10] (fun n i wr => ∃ (j m : Nat), n = .int .u64 m ∧ i = .int .i64 j ∧ j ≤ 9 ∧ j ≤ s.size ∧ m < 128 ^ j ∧ Wire.rd 0 0 s.data.toList = Wire.rd j m (s.data.toList.drop j) ∧ wr = w) (fun _ i _ => s.size - (intOf i).toNat)
  case atStart => exact ⟨0, 0, rfl, rfl, by omega, by omega, by simp, rfl, rfl⟩
  case round =>
    obtain ⟨j, m, rfl, rfl, hj9, hj, hm, hrd, rfl⟩ := hrel
    have Hm := Lib.hid hm
    have Hrd := Lib.hid hrd
    clear hm hrd
    by_cases hlt : j < s.size
    · have hcl : s[j].toNat < 256 := UInt8.toNat_lt _
      have hdr : s.data.toList.drop j = s[j] :: s.data.toList.drop (j + 1) := by
        rw [List.drop_eq_getElem_cons (by rw [size_list]; exact hlt)]; rfl
      have Hdr := Lib.hid hdr
      clear hdr
      by_cases hbad : (0 < j ∧ s[j].toNat = 0) ∨ (9 ≤ j ∧ 1 < s[j].toNat)
      · have hbad' : (0 < j ∧ s[j].toNat = 0) ∨ (j = 9 ∧ 1 < s[j].toNat) := by omega
        have Hbad := Lib.hid hbad
        rcases hbad' with ⟨h1, h2⟩ | ⟨h1, h2⟩
        · clear hbad
          go_wp2
          go_ret3
          rw [Hrd.out, Hdr.out, Wire.rd_bad Hbad.out]
          exact ⟨rfl, rfl⟩
        · subst h1
          have h3 : ¬ s[9].toNat = 0 := by omega
          clear hbad
          go_wp2
          go_ret3
          rw [Hrd.out, Hdr.out, Wire.rd_bad Hbad.out]
          exact ⟨rfl, rfl⟩
      · have n1 : ¬ (0 < j ∧ s[j].toNat = 0) := by omega
        have n2 : ¬ (j = 9 ∧ 1 < s[j].toNat) := by omega
        have Hbad := Lib.hid hbad
        have Hput := Lib.hid (Wire.put_byte hj9 Hm.out (c := s[j]) (by omega))
        have Hstep := Lib.hid (Wire.rd_step (c := s[j]) Hm.out)
        clear hbad
        by_cases hend : s[j].toNat < 128
        · have Hend := Lib.hid (Wire.rd_end (n := m) (r := s.data.toList.drop (j + 1)) Hbad.out hend)
          by_cases hz : j = 0
          · subst hz
            have Hput0 := Lib.hid (Wire.put_byte0 (c := s[0]) Hm.out)
            go_wp2
            go_ret3
            rw [Hrd.out, Hdr.out, Hend.out]
            exact ⟨by show Ending.returned (.tuple #[.int .u64 _, _, _]) = _; rw [Hput0.out]; rfl, rfl⟩
          · have c0 : ¬ s[j].toNat = 0 := by omega
            by_cases h9 : j = 9
            · subst h9
              have Hput9 := Lib.hid (Wire.put_byte9 (c := s[9]) Hm.out (by omega))
              have c1 : ¬ (1 : Int) < (s[9].toNat : Int) := by omega
              have b0 : ((s[9].toNat : Int) == 0) = false := by rw [beq_eq_false_iff_ne]; omega
              clear n1 n2
              go_wp2
              go_ret3
              rw [Hrd.out, Hdr.out, Hend.out]
              exact ⟨by show Ending.returned (.tuple #[.int .u64 _, _, _]) = _; rw [Hput9.out]; rfl, rfl⟩
            · clear n1 n2
              go_wp2
              go_ret3
              rw [Hrd.out, Hdr.out, Hend.out]
              exact ⟨by show Ending.returned (.tuple #[.int .u64 _, _, _]) = _; rw [Hput.out]; rfl, rfl⟩
        · have Hmore := Lib.hid (Wire.rd_more (n := m) (r := s.data.toList.drop (j + 1)) Hbad.out hend)
          have h9 : ¬ j = 9 := by omega
          by_cases hz : j = 0
          · subst hz
            have Hput0 := Lib.hid (Wire.put_byte0 (c := s[0]) Hm.out)
            go_wp2
            go_roundw
            case rel => exact ⟨1, m + s[0].toNat % 128 * 128 ^ 0, by rw [Hput0.out], rfl, by omega, by omega, Hstep.out, by rw [Hrd.out, Hdr.out, Hmore.out], trivial⟩
            case measure => simp [intOf]; omega
          · have c0 : ¬ s[j].toNat = 0 := by omega
            clear n1 n2
            go_wp2
            go_roundw
            case rel => exact ⟨j + 1, m + s[j].toNat % 128 * 128 ^ j, by rw [Hput.out], by go_num, by omega, by omega, Hstep.out, by rw [Hrd.out, Hdr.out, Hmore.out], trivial⟩
            case measure => simp [intOf]; omega
    · obtain rfl : s.size = j := by omega
      have hdr : s.data.toList.drop s.size = [] := List.drop_of_length_le (by rw [size_list]; exact Nat.le_refl _)
      have Hdr := Lib.hid hdr
      clear hdr
      go_wp2
      go_ret3
      rw [Hrd.out, Hdr.out]
      exact ⟨rfl, rfl⟩

end Go.Proofs.Ytkabpiganjjacaa
