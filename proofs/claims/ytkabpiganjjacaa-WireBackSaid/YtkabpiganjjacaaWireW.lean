/- The walks of wire's Writer, each method once: at a writer that was made. -/
import Derived.Test.YtkabpiganjjacaaWireB
import Derived.Test.YtkabpiganjjacaaWireMath
namespace Go.Proofs.Ytkabpiganjjacaa
open Go.ChangeShapes Go.WideShapes Go.ChangeAt Go.RowKit

theorem newWriter_any (w : World) :
    Calls Try.prog 8 #[] w fun e w' => e = .returned (.pointer (some ⟨w.heap.size, 0, none⟩)) ∧ w' = w.alloc (.cells #[.pointer none, .slice none 0 0, .bool false] 61) := by
  go_enter Try.func8, Try.ntmps8
  go_wp2
  go_ret
  exact ⟨rfl, rfl⟩
theorem isW_new (w : World) : IsW w.heap.size w.heap.size [] false (w.alloc (.cells #[.pointer none, .slice none 0 0, .bool false] 61)) :=
  .inl ⟨Nat.le_refl _, _, heap_alloc_new _ _, World.ownsRow_nil _ _ _ _, by simp [Value.ownBlock], fun _ => rfl⟩

set_option maxHeartbeats 1000000 in
set_option maxRecDepth 100000 in
theorem wNum_any (B b n : Nat) (l : List UInt8) (bad : Bool) (w : World) (h : IsW B b l bad w) (hlen : l.length ≤ 900000000) (hn : n < 18446744073709551616) (hBw : B ≤ w.heap.size) :
    Calls Try.prog 24 #[.pointer (some ⟨b, 0, none⟩), .int .u64 n] w fun e w' => e = .returned (.tuple #[]) ∧ Wrote B b (l ++ Wire.num n) bad w w' := by
  have hbound : n < 128 ^ (9 + 1) := by omega
  have HW := Lib.hid h
  have Hbound := Lib.hid hbound
  clear h hn hbound
  go_enter Try.func24, Try.ntmps24
  go_wp2
  go_loopw [1] (fun x wr => ∃ (m k : Nat) (done : List UInt8), x = .int .u64 m ∧ m < 128 ^ (k + 1) ∧ k ≤ 9 ∧ done.length + k ≤ 9 ∧ done ++ Wire.numF k m = Wire.num n ∧ IsW B b (l ++ done) bad wr ∧ BelowK B b w wr) (fun x _ => (intOf x).toNat)
  case atStart => exact ⟨n, 9, [], rfl, Hbound.out, by omega, by simp, rfl, by simpa using HW.out, BelowK.refl _ _ _⟩
  case round =>
    clear HW Hbound
    obtain ⟨m, k, done, rfl, hm, hk, hdl, hd, hW, hb⟩ := hrel
    have hBw' : B ≤ wr.heap.size := by have := hb.size; omega
    have hl2 : (l ++ done).length ≤ 1000000000 := by rw [List.length_append]; omega
    by_cases hlt : 128 ≤ m
    · obtain ⟨k, rfl⟩ : ∃ j, k = j + 1 := by
        cases k with
        | zero => simp at hm; omega
        | succ k => exact ⟨k, rfl⟩
      rw [Wire.numF_great hlt] at hd
      have hm' : m / 128 < 128 ^ (k + 1) := by
        have : m < 128 ^ (k + 1) * 128 := by rw [← Nat.pow_succ]; exact hm
        exact Nat.div_lt_of_lt_mul (by rw [Nat.mul_comm]; exact this)
      have hor := Wire.byte_or m
      generalize UInt8.ofNat (m % 128 + 128) = c at *
      have hcall := writeByte_any B b (l ++ done) bad c wr hW hl2 hBw'
      have Hcall := Lib.hid hcall
      have Hd := Lib.hid hd
      have Hm := Lib.hid hm
      have Hm' := Lib.hid hm'
      clear hcall hd hm hm' hW
      go_wp2_with (go_at_call 40; refine Hcall.out.mono ?_; rintro e w1 ⟨rfl, hwr⟩; have Hwr := Lib.hid hwr; clear hwr)
      go_roundw
      case rel => exact ⟨m / 128, k, done ++ [c], by go_num, Hm'.out, by omega, by simp; omega, by simpa using Hd.out, by simpa using Hwr.out.is, hb.trans Hwr.out.2⟩
      case measure => simp [intOf]; omega
    · rw [Wire.numF_small (by omega)] at hd
      have hc8 : (UInt8.ofNat m).toNat = m := by rw [UInt8.toNat_ofNat']; omega
      have hcall := writeByte_any B b (l ++ done) bad (UInt8.ofNat m) wr hW hl2 hBw'
      rw [hc8] at hcall
      clear hc8
      generalize UInt8.ofNat m = c at *
      have Hcall := Lib.hid hcall
      have Hd := Lib.hid hd
      have Hm := Lib.hid hm
      clear hcall hd hm hW
      go_wp2_with (go_at_call 40; refine Hcall.out.mono ?_; rintro e w1 ⟨rfl, hwr⟩; have Hwr := Lib.hid hwr; clear hwr)
      go_end0
      refine ⟨rfl, ?_⟩
      rw [← Hd.out, ← List.append_assoc]
      exact ⟨Hwr.out.1, hb.trans Hwr.out.2⟩

set_option maxRecDepth 100000 in
theorem wInt_any (B b : Nat) (n : Int) (l : List UInt8) (bad : Bool) (w : World) (h : IsW B b l bad w) (hlen : l.length ≤ 900000000) (h0 : -9223372036854775808 ≤ n) (h1 : n ≤ 9223372036854775807) (hBw : B ≤ w.heap.size) :
    Calls Try.prog 25 #[.pointer (some ⟨b, 0, none⟩), .int .i64 n] w fun e w' => e = .returned (.tuple #[]) ∧ Wrote B b (l ++ Wire.int n) bad w w' := by
  have hcall := wNum_any B b (Wire.zig n) l bad w h hlen (by unfold Wire.zig; split <;> omega) hBw
  have hz := Wire.zig_bits n h0 h1
  unfold Wire.int
  have Hcall := Lib.hid hcall
  clear hcall h h0 h1
  generalize Wire.zig n = z at *
  go_enter Try.func25, Try.ntmps25
  go_wp2_with fail
  refine Hcall.out.mono ?_
  rintro e w1 ⟨rfl, hwr⟩
  have Hwr := Lib.hid hwr
  clear hwr hz
  go_wp2
  go_end0
  exact ⟨rfl, Hwr.out⟩

theorem run_bits (x : Nat) (w : World) : (callFunc 36 #[.float .f64 x]).run Try.prog w = .ok (.value (.int .u64 x)) w := by
  rw [run_callFunc_extern Try.func36 (by kernel_rfl) (by kernel_rfl) (by kernel_rfl) (e := Extern.MathFloatBits.float64bits) (by kernel_rfl)]; rfl
theorem run_frombits (x : Nat) (w : World) : (callFunc 41 #[.int .u64 x]).run Try.prog w = .ok (.value (.float .f64 x)) w := by
  rw [run_callFunc_extern Try.func41 (by kernel_rfl) (by kernel_rfl) (by kernel_rfl) (e := Extern.MathFloatBits.float64frombits) (by kernel_rfl)]; rfl
theorem floatBits_any (x : Nat) (w : World) :
    Calls Try.prog 17 #[.float .f64 x] w fun e w' => e = .returned (.int .u64 x) ∧ w = w' := by
  have h := run_bits x
  go_enter Try.func17, Try.ntmps17
  go_wp2
  go_ret
  exact ⟨rfl, rfl⟩
theorem floatOf_any (x : Nat) (w : World) :
    Calls Try.prog 27 #[.int .u64 x] w fun e w' => e = .returned (.float .f64 x) ∧ w = w' := by
  have h := run_frombits x
  go_enter Try.func27, Try.ntmps27
  go_wp2
  go_ret
  exact ⟨rfl, rfl⟩

theorem fix_step (k x : Nat) : Wire.fixF (k + 1) x = UInt8.ofNat x :: Wire.fixF k (x / 256) := rfl
set_option maxRecDepth 100000 in
set_option maxHeartbeats 1000000 in
theorem wFloat_any (B b x : Nat) (l : List UInt8) (bad : Bool) (w : World) (h : IsW B b l bad w) (hlen : l.length ≤ 900000000) (hx : x < 18446744073709551616) (hBw : B ≤ w.heap.size) :
    Calls Try.prog 26 #[.pointer (some ⟨b, 0, none⟩), .float .f64 x] w fun e w' => e = .returned (.tuple #[]) ∧ Wrote B b (l ++ Wire.fix x) bad w w' := by
  have HW := Lib.hid h
  clear h
  go_enter Try.func26, Try.ntmps26
  go_wp2_with (go_at_call 17; refine (floatBits_any x _).mono ?_; rintro e w1 ⟨rfl, rfl⟩)
  go_loopw [4, 9] (fun x' i wr => ∃ (m j k : Nat) (done : List UInt8), x' = .int .u64 m ∧ m < 18446744073709551616 ∧ i = .int .i64 j ∧ j + k = 8 ∧ done.length = j ∧ done ++ Wire.fixF k m = Wire.fix x ∧ (j = 0 → wr = w) ∧ IsW B b (l ++ done) bad wr ∧ (0 < j → WAt B b (.pointer (some ⟨b, 0, none⟩)) (l ++ done) bad wr) ∧ BelowK B b w wr) (fun _ i _ => 8 - (intOf i).toNat)
  case atStart => exact ⟨x, 0, 8, [], rfl, hx, rfl, by omega, rfl, rfl, fun _ => rfl, by simpa using HW.out, by omega, BelowK.refl _ _ _⟩
  case round =>
    clear HW hx
    obtain ⟨m, j, k, done, rfl, hm, rfl, hk, hdl, hd, _, hW, hat, hb⟩ := hrel
    have hBw' : B ≤ wr.heap.size := by have := hb.size; omega
    have hl2 : (l ++ done).length ≤ 1000000000 := by rw [List.length_append]; omega
    by_cases hlt : j < 8
    · obtain ⟨k, rfl⟩ : ∃ i, k = i + 1 := ⟨k - 1, by omega⟩
      rw [fix_step] at hd
      have hmod := Wire.byte_mod m
      generalize UInt8.ofNat m = c at *
      have hcall := writeByte_any B b (l ++ done) bad c wr hW hl2 hBw'
      have Hcall := Lib.hid hcall
      have Hd := Lib.hid hd
      have Hdl := Lib.hid hdl
      clear hcall hd hW hat hdl
      go_wp2_with (go_at_call 40; refine Hcall.out.mono ?_; rintro e w1 ⟨rfl, hwr⟩; have Hwr := Lib.hid hwr; clear hwr)
      go_roundw
      case rel => exact ⟨m / 256, j + 1, k, done ++ [c], by go_num, by omega, by go_num, by omega, by simp [Hdl.out], by simpa using Hd.out, by omega, by simpa using Hwr.out.is, fun _ => by simpa using Hwr.out.1, hb.trans Hwr.out.2⟩
      case measure => simp [intOf]; omega
    · obtain rfl : 8 = j := by omega
      obtain rfl : 0 = k := by omega
      have Hat := Lib.hid (hat (by omega))
      have Hd := Lib.hid hd
      clear hat hd hW hdl
      go_wp2
      go_end0
      refine ⟨rfl, ?_, hb⟩
      rw [← Hd.out]
      simpa [Wire.fixF] using Hat.out

theorem WAt.bad {B b : Nat} {p : Value} {l : List UInt8} {bad : Bool} {w : World} (h : WAt B b p l bad w) : WAt B b p l true (w.setCell ⟨b, 2, none⟩ (.bool true)) := by
  obtain ⟨hB, v, hb, hown, hne, hnil⟩ := h
  refine ⟨hB, v, ?_, ?_, hne, hnil⟩
  · have := heap_setCell_same w b 2 _ _ (.bool true) hb
    simpa using this
  · exact hown.kept (row := some b) ⟨rfl, rfl, rfl, by simp [World.setCell], fun k _ hk => heap_setCell_other _ _ _ _ (fun e => hk (by simp at e; rw [e]))⟩ (.inr hne)
theorem IsW.bad {B b : Nat} {l : List UInt8} {bad : Bool} {w : World} (h : IsW B b l bad w) : IsW B b l true (w.setCell ⟨b, 2, none⟩ (.bool true)) := by
  rcases h with h | h
  · exact .inl h.bad
  · exact .inr h.bad
theorem IsW.block {B b : Nat} {l : List UInt8} {bad : Bool} {w : World} (h : IsW B b l bad w) : B ≤ b ∧ ∃ p v, w.heap[b]? = some (.cells #[p, v, .bool bad] 61 (0, 0)) := by
  rcases h with ⟨hB, v, hb, _⟩ | ⟨hB, v, hb, _⟩ <;> exact ⟨hB, _, v, hb⟩

theorem wText_long (B b : Nat) (s : ByteArray) (l : List UInt8) (bad : Bool) (w : World) (h : IsW B b l bad w) (hs : s.size ≤ maxLen) (h1 : 65535 < s.size) :
    Calls Try.prog 28 #[.pointer (some ⟨b, 0, none⟩), .string s] w fun e w' => e = .returned (.tuple #[]) ∧ IsW B b l true w' ∧ BelowK B b w w' := by
  have hbad := h.bad
  obtain ⟨hB, p, v, hb⟩ := h.block
  have c2 := at_cell hb 2 _ rfl
  have f2 := at_free hb 2
  have Hbad := Lib.hid hbad
  unfold maxLen at hs
  clear h hbad hb
  go_enter Try.func28, Try.ntmps28
  go_wp2
  refine bodyPost_ret (results_none (by kernel_rfl) _ _ _) rfl ?_
  exact ⟨rfl, Hbad.out, (BelowK.refl B b w).setCell hB 2 _⟩
theorem wText_any (B b : Nat) (s : ByteArray) (l : List UInt8) (bad : Bool) (w : World) (h : IsW B b l bad w) (hlen : l.length ≤ 900000000) (h1 : s.size ≤ 65535) (hBw : B ≤ w.heap.size) :
    Calls Try.prog 28 #[.pointer (some ⟨b, 0, none⟩), .string s] w fun e w' => e = .returned (.tuple #[]) ∧ Wrote B b (l ++ Wire.text s.data.toList) bad w w' := by
  have hn := wNum_any B b s.size l bad w h hlen (by omega) hBw
  have hnl := Wire.num_length s.size
  have Hn := Lib.hid hn
  have htx : l ++ Wire.text s.data.toList = l ++ Wire.num s.size ++ s.data.toList := by unfold Wire.text; rw [size_list, List.append_assoc]
  rw [htx]
  have hw : ∀ w1, Wrote B b (l ++ Wire.num s.size) bad w w1 → Calls Try.prog 42 #[.pointer (some ⟨b, 0, none⟩), .string s] w1 fun e w' => e = .returned (.tuple #[.int .i64 s.size, .nilIface]) ∧ Wrote B b (l ++ Wire.num s.size ++ s.data.toList) bad w1 w' := fun w1 h1 =>
    writeString_any B b _ bad s w1 h1.is (by rw [List.length_append]; omega) (by have := h1.2.size; omega)
  have Hw := Lib.hid hw
  clear hn htx hnl h hw
  generalize l ++ Wire.num s.size = q at *
  generalize q ++ s.data.toList = q2 at *
  go_enter Try.func28, Try.ntmps28
  go_wp2_with (first | (go_at_call 24; refine Hn.out.mono ?_; rintro e w1 ⟨rfl, h1⟩; have H1 := Lib.hid h1; clear h1) | (go_at_call 42; refine (Hw.out _ H1.out).mono ?_; rintro e w2 ⟨rfl, h2⟩; have H2 := Lib.hid h2; clear h2))
  go_end0
  exact ⟨rfl, H2.out.1, H1.out.2.trans H2.out.2⟩

theorem wDone_any (B b : Nat) (l : List UInt8) (bad : Bool) (w : World) (h : IsW B b l bad w) (hlen : l.length ≤ 1000000000) :
    Calls Try.prog 11 #[.pointer (some ⟨b, 0, none⟩)] w fun e w' => e = .returned (.tuple #[.string (if bad then ⟨#[]⟩ else str l), .int .i64 (if bad then 3 else 0)]) ∧ Below B w w' := by
  obtain ⟨p, h⟩ : ∃ p, WAt B b p l bad w := by rcases h with h | h <;> exact ⟨_, h⟩
  have hs := string_any B b p l bad w h hlen
  obtain ⟨hB, v, hbk, hown, hne, hnil⟩ := h
  have c2 : w.cell? ⟨b, 2, none⟩ = some (.bool bad) := at_cell hbk 2 _ rfl
  have Hs := Lib.hid hs
  clear hs hbk hown hne hnil
  cases bad
  · go_enter Try.func11, Try.ntmps11
    go_wp2_with (go_at_call 33; refine Hs.out.mono ?_; rintro e w1 ⟨rfl, hb1⟩)
    go_ret2
    exact ⟨rfl, hb1⟩
  · go_enter Try.func11, Try.ntmps11
    go_wp2
    go_ret2
    exact ⟨rfl, Below.refl _ _⟩
end Go.Proofs.Ytkabpiganjjacaa
