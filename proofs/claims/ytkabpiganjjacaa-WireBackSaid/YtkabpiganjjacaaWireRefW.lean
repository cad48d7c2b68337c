/- The walks of the reference's Num, Int, Float and Text (what is written), each once. -/
import Derived.Test.YtkabpiganjjacaaWireW
namespace Go.Proofs.Ytkabpiganjjacaa
open Go.ChangeShapes Go.WideShapes Go.ChangeAt Go.RowKit

theorem conv_own {wr : World} {base : Nat} {v : Value} {l : List UInt8} (h : wr.ownsRow base 5 1 v l.length (bcells l)) :
    (convert 36 9 v).run Try.prog wr = .ok (.string (str l)) wr := by
  rcases h.2 with ⟨rfl, h0⟩ | ⟨g, cap, cur, rfl, hg, hcur, hle, hcap, hsz, htake⟩
  · obtain rfl : l = [] := List.eq_nil_of_length_eq_zero h0
    exact run_convert_bytes_nil wr 36 5 Try.underlying36 Try.underlying5 0 0 _ Try.underlying9
  · refine run_convert_bytes_back _ 36 9 5 ⟨g, 0, none⟩ cap l Try.underlying36 Try.underlying5 Try.underlying9 ?_
    intro j hj
    have := World.ownsRow.cells h (g := g) rfl j (.int .u8 l[j].toNat) (by simp [bcells, hj])
    exact this

set_option maxRecDepth 100000 in
set_option maxHeartbeats 1000000 in
theorem refNum_any (n : Nat) (w : World) (hn : n < 18446744073709551616) :
    Calls Try.prog 29 #[.int .u64 n] w fun e w' => e = .returned (.string (str (Wire.num n))) ∧ Below w.heap.size w w' := by
  obtain ⟨i0, hi, hz0, hz1, hz2⟩ := info_parts u8_info
  have hbound : n < 128 ^ (9 + 1) := by omega
  have Hbound := Lib.hid hbound
  clear hbound
  go_enter Try.func29, Try.ntmps29
  go_wp2
  go_loopw [0, 3] (fun x v wr => ∃ (m k : Nat) (done : List UInt8), x = .int .u64 m ∧ m < 18446744073709551616 ∧ m < 128 ^ (k + 1) ∧ done.length + k = 9 ∧ done ++ Wire.numF k m = Wire.num n ∧ wr.ownsRow w.heap.size 5 1 v done.length (bcells done) ∧ Below w.heap.size w wr) (fun x _ _ => (intOf x).toNat)
  case atStart => exact ⟨n, 9, [], rfl, hn, Hbound.out, by simp, rfl, World.ownsRow_nil _ _ _ _, Below.refl _ _⟩
  case round =>
    clear Hbound
    obtain ⟨m, k, done, rfl, hm64, hm, hdl, hd, hown, hb⟩ := hrel
    have hl9 : done.length ≤ 9 := by omega
    have Hown := Lib.hid hown
    by_cases hlt : 128 ≤ m
    · obtain ⟨k, rfl⟩ : ∃ j, k = j + 1 := by
        cases k with
        | zero => simp at hm; omega
        | succ k => exact ⟨k, rfl⟩
      rw [Wire.numF_great hlt] at hd
      have hm' : m / 128 < 128 ^ (k + 1) := by
        have : m < 128 ^ (k + 1) * 128 := by rw [← Nat.pow_succ]; exact hm
        exact Nat.div_lt_of_lt_mul (by rw [Nat.mul_comm]; exact this)
      have hc8 : (((UInt8.ofNat (m % 128 + 128)).toNat : Nat) : Int) = (m : Int) % 128 + 128 := by rw [UInt8.toNat_ofNat']; omega
      generalize UInt8.ofNat (m % 128 + 128) = c at *
      have Hc8 := Lib.hid hc8
      have Hd := Lib.hid hd
      have Hm := Lib.hid hm
      have Hm' := Lib.hid hm'
      have Hdl := Lib.hid hdl
      clear hd hm hm' hown hc8 hdl
      go_wp2_with (at_builtin; refine wpList_append_own _ rfl _ _ 36 rfl w.heap.size 5 i0 (.int .u8 0) 1 1 Try.underlying36 hi hz0 hz1 hz2 rfl (by decide) _ _ _ rfl (Hown.out.alloc _) ⟨wr.heap.size, 0, none⟩ 1 1 [.int .u8 ((m : Int) % 128 + 128)] rfl rfl ?c1 ?c2 ?c3 ?c4 ?c5 ?_)
      case c1 => exact cell_one_new _ _ _
      case c2 => simp [Value.oneCell']
      case c3 => unfold maxLen; omega
      case c4 => omega
      case c5 => have := hb.size; simp; omega
      intro v' w2 hown' hgrow _
      have hb' : Below w.heap.size w w2 := (hb.alloc (by have := hb.size; omega) _).grown hgrow (by have := hb.size; simp; omega) (fun k hk => (Hown.out.lt k hk).1)
      have Hown' := Lib.hid (show w2.ownsRow w.heap.size 5 1 v' (done ++ [c]).length (bcells (done ++ [c])) from by
        rw [bcells_append, List.length_append]; simp only [bcells, List.map_cons, List.map_nil]; rw [Hc8.out]; exact hown')
      clear hown' hgrow
      go_wp2
      go_roundw
      case rel => exact ⟨m / 128, k, done ++ [c], by go_num, by omega, Hm'.out, by have := Hdl.out; simp; omega, by simpa using Hd.out, Hown'.out, hb'⟩
      case measure => simp [intOf]; omega
    · rw [Wire.numF_small (by omega)] at hd
      have hc8 : (((UInt8.ofNat m).toNat : Nat) : Int) = (m : Int) := by rw [UInt8.toNat_ofNat']; omega
      generalize UInt8.ofNat m = c at *
      have Hc8 := Lib.hid hc8
      have Hd := Lib.hid hd
      have Hm := Lib.hid hm
      clear hd hm hown hc8 hdl
      go_wp2_with (at_builtin; refine wpList_append_own _ rfl _ _ 36 rfl w.heap.size 5 i0 (.int .u8 0) 1 1 Try.underlying36 hi hz0 hz1 hz2 rfl (by decide) _ _ _ rfl (Hown.out.alloc _) ⟨wr.heap.size, 0, none⟩ 1 1 [.int .u8 (m : Int)] rfl rfl ?d1 ?d2 ?d3 ?d4 ?d5 ?_)
      case d1 => exact cell_one_new _ _ _
      case d2 => simp [Value.oneCell']
      case d3 => unfold maxLen; omega
      case d4 => omega
      case d5 => have := hb.size; simp; omega
      intro v' w2 hown' hgrow _
      have hb' : Below w.heap.size w w2 := (hb.alloc (by have := hb.size; omega) _).grown hgrow (by have := hb.size; simp; omega) (fun k hk => (Hown.out.lt k hk).1)
      have hown2 : w2.ownsRow w.heap.size 5 1 v' (done ++ [c]).length (bcells (done ++ [c])) := by
        rw [bcells_append, List.length_append]; simp only [bcells, List.map_cons, List.map_nil]; rw [Hc8.out]; exact hown'
      have hcv := conv_own hown2
      rw [Hd.out] at hcv
      clear hown' hgrow hown2
      go_wp2
      go_ret
      exact ⟨rfl, hb'⟩

theorem refInt_any (n : Int) (w : World) (h0 : -9223372036854775808 ≤ n) (h1 : n ≤ 9223372036854775807) :
    Calls Try.prog 30 #[.int .i64 n] w fun e w' => e = .returned (.string (str (Wire.int n))) ∧ Below w.heap.size w w' := by
  have hcall := refNum_any (Wire.zig n) w (by unfold Wire.zig; split <;> omega)
  have Hcall := Lib.hid hcall
  unfold Wire.int
  by_cases hp : 0 ≤ n
  · have hz : IntKind.u64.wrap (IntKind.u64.wrap n * 2) = (Wire.zig n : Nat) := by
      rw [IntKind.wrap_u64, IntKind.wrap_u64]; unfold Wire.zig; rw [if_pos hp]; omega
    clear hcall h0 h1
    generalize Wire.zig n = z at *
    go_enter Try.func30, Try.ntmps30
    go_wp2_with fail
    refine Hcall.out.mono ?_
    rintro e w1 ⟨rfl, hb⟩
    go_wp2
    go_ret
    exact ⟨rfl, hb⟩
  · have hz : -(n + 1) * 2 + 1 = (Wire.zig n : Nat) := by
      unfold Wire.zig; rw [if_neg hp]; omega
    have Hz := Lib.hid hz
    clear hcall hz
    go_enter Try.func30, Try.ntmps30
    go_wp2_with fail
    rw [Hz.out]
    refine Hcall.out.mono ?_
    rintro e w1 ⟨rfl, hb⟩
    go_wp2
    go_ret
    exact ⟨rfl, hb⟩

set_option maxRecDepth 100000 in
set_option maxHeartbeats 1000000 in
theorem refFloat_any (n : Nat) (w : World) (hn : n < 18446744073709551616) :
    Calls Try.prog 31 #[.int .u64 n] w fun e w' => e = .returned (.string (str (Wire.fix n))) ∧ Below w.heap.size w w' := by
  obtain ⟨i0, hi, hz0, hz1, hz2⟩ := info_parts u8_info
  go_enter Try.func31, Try.ntmps31
  go_wp2
  go_loopw [0, 3, 4] (fun x v i wr => ∃ (m j k : Nat) (done : List UInt8), x = .int .u64 m ∧ m < 18446744073709551616 ∧ i = .int .i64 j ∧ j + k = 8 ∧ done.length = j ∧ done ++ Wire.fixF k m = Wire.fix n ∧ wr.ownsRow w.heap.size 5 1 v done.length (bcells done) ∧ Below w.heap.size w wr) (fun _ _ i _ => 8 - (intOf i).toNat)
  case atStart => exact ⟨n, 0, 8, [], rfl, hn, rfl, by omega, rfl, rfl, World.ownsRow_nil _ _ _ _, Below.refl _ _⟩
  case round =>
    clear hn
    obtain ⟨m, j, k, done, rfl, hm, rfl, hk, hdl, hd, hown, hb⟩ := hrel
    have Hown := Lib.hid hown
    have hl9 : done.length ≤ 9 := by omega
    by_cases hlt : j < 8
    · obtain ⟨k, rfl⟩ : ∃ i, k = i + 1 := ⟨k - 1, by omega⟩
      rw [fix_step] at hd
      have hc8 : (((UInt8.ofNat m).toNat : Nat) : Int) = (m : Int) % 256 := by rw [UInt8.toNat_ofNat']; omega
      generalize UInt8.ofNat m = c at *
      have Hc8 := Lib.hid hc8
      have Hd := Lib.hid hd
      have Hdl := Lib.hid hdl
      clear hd hown hc8 hdl
      go_wp2_with (at_builtin; refine wpList_append_own _ rfl _ _ 36 rfl w.heap.size 5 i0 (.int .u8 0) 1 1 Try.underlying36 hi hz0 hz1 hz2 rfl (by decide) _ _ _ rfl (Hown.out.alloc _) ⟨wr.heap.size, 0, none⟩ 1 1 [.int .u8 ((m : Int) % 256)] rfl rfl ?c1 ?c2 ?c3 ?c4 ?c5 ?_)
      case c1 => exact cell_one_new _ _ _
      case c2 => simp [Value.oneCell']
      case c3 => unfold maxLen; omega
      case c4 => omega
      case c5 => have := hb.size; simp; omega
      intro v' w2 hown' hgrow _
      have hb' : Below w.heap.size w w2 := (hb.alloc (by have := hb.size; omega) _).grown hgrow (by have := hb.size; simp; omega) (fun k hk => (Hown.out.lt k hk).1)
      have Hown' := Lib.hid (show w2.ownsRow w.heap.size 5 1 v' (done ++ [c]).length (bcells (done ++ [c])) from by
        rw [bcells_append, List.length_append]; simp only [bcells, List.map_cons, List.map_nil]; rw [Hc8.out]; exact hown')
      clear hown' hgrow
      go_wp2
      go_roundw
      case rel => exact ⟨m / 256, j + 1, k, done ++ [c], by go_num, by omega, by go_num, by omega, by simp [Hdl.out], by simpa using Hd.out, Hown'.out, hb'⟩
      case measure => simp [intOf]; omega
    · obtain rfl : 8 = j := by omega
      obtain rfl : 0 = k := by omega
      have hcv := conv_own hown
      simp only [Wire.fixF, List.append_nil] at hd
      rw [hd] at hcv
      clear hown hd hdl hl9
      go_wp2
      go_ret
      exact ⟨rfl, hb⟩

theorem refText_long (s : ByteArray) (w : World) (hs : s.size ≤ maxLen) (h : 65535 < s.size) :
    Calls Try.prog 32 #[.string s] w fun e w' => e = .returned (.tuple #[.string ⟨#[]⟩, .bool false]) ∧ Below w.heap.size w w' := by
  unfold maxLen at hs
  go_enter Try.func32, Try.ntmps32
  go_wp2
  go_ret2
  exact ⟨rfl, Below.refl _ _⟩
theorem text_str (s : ByteArray) : str (Wire.num s.size) ++ s = str (Wire.text s.data.toList) := by
  apply ByteArray.ext
  apply Array.toList_inj.1
  rw [ByteArray.data_append, Array.toList_append, str_data, str_data]; rfl
theorem refText_any (s : ByteArray) (w : World) (h : s.size ≤ 65535) :
    Calls Try.prog 32 #[.string s] w fun e w' => e = .returned (.tuple #[.string (str (Wire.text s.data.toList)), .bool true]) ∧ Below w.heap.size w w' := by
  have hcall := refNum_any s.size w (by omega)
  have hl := Wire.num_length s.size
  have hsz : (str (Wire.num s.size)).size ≤ 10 := by rw [str_size]; exact hl
  have Hcall := Lib.hid hcall
  have Htx := Lib.hid (text_str s)
  clear hcall hl
  go_enter Try.func32, Try.ntmps32
  go_wp2_with (go_at_call 29; refine Hcall.out.mono ?_; rintro e w1 ⟨rfl, hb⟩)
  go_ret2
  exact ⟨by rw [← Htx.out]; rfl, hb⟩
end Go.Proofs.Ytkabpiganjjacaa
