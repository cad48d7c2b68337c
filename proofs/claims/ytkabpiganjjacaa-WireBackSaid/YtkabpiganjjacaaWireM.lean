/- The walks of a Reader's methods Num, Int, Float, Text, Left and Err, and the reference's ReadInt. -/
import Derived.Test.YtkabpiganjjacaaWireR
namespace Go.Proofs.Ytkabpiganjjacaa
open Go.ChangeShapes Go.WideShapes Go.ChangeAt Go.RowKit

namespace Wire
def zag (n : Nat) : Int := if n % 2 = 0 then ((n / 2 : Nat) : Int) else -((n / 2 : Nat) : Int) - 1
end Wire


theorem rNum_any (B b : Nat) (l : List UInt8) (y : Nat) (w : World) (h : IsR b l y w) (hB : B ≤ b) (hl : l.length ≤ 1000000000) :
    Calls Try.prog 13 #[.pointer (some ⟨b, 0, none⟩)] w fun e w' => e = .returned (.int .u64 ((Wire.got Nat 0 y (Wire.readNum l).2.2 (Wire.readNum l).1) : Nat)) ∧ IsR b (Wire.left y (Wire.readNum l).2.2 (Wire.readNum l).2.1 l) (Wire.note y (Wire.readNum l).2.2) w' ∧ Below B w w' := by
  have H := Lib.hid (nextNum_any B b l y w h hB hl)
  clear h
  go_enter Try.func13, Try.ntmps13
  go_wp2_with fail
  refine H.out.mono ?_
  rintro e w1 ⟨rfl, h1⟩
  have H1 := Lib.hid h1
  clear h1
  go_wp2
  go_ret
  exact ⟨rfl, H1.out⟩


theorem rText_any (B b : Nat) (l : List UInt8) (y : Nat) (w : World) (h : IsR b l y w) (hB : B ≤ b) (hl : l.length ≤ 1000000000) :
    Calls Try.prog 20 #[.pointer (some ⟨b, 0, none⟩)] w fun e w' => e = .returned (.string (str (Wire.got (List UInt8) [] y (Wire.readText l).2.2 (Wire.readText l).1))) ∧ IsR b (Wire.left y (Wire.readText l).2.2 (Wire.readText l).2.1 l) (Wire.note y (Wire.readText l).2.2) w' ∧ Below B w w' := by
  have H := Lib.hid (nextText_any B b l y w h hB hl)
  clear h
  go_enter Try.func20, Try.ntmps20
  go_wp2_with fail
  refine H.out.mono ?_
  rintro e w1 ⟨rfl, h1⟩
  have H1 := Lib.hid h1
  clear h1
  go_wp2
  go_ret
  exact ⟨rfl, H1.out⟩


theorem rFloat_any (B b : Nat) (l : List UInt8) (y : Nat) (w : World) (h : IsR b l y w) (hB : B ≤ b) (hl : l.length ≤ 1000000000) :
    Calls Try.prog 18 #[.pointer (some ⟨b, 0, none⟩)] w fun e w' => e = .returned (.float .f64 (Wire.got Nat 0 y (Wire.readFix l).2.2 (Wire.readFix l).1)) ∧ IsR b (Wire.left y (Wire.readFix l).2.2 (Wire.readFix l).2.1 l) (Wire.note y (Wire.readFix l).2.2) w' ∧ Below B w w' := by
  have H := Lib.hid (nextFix_any B b l y w h hB hl)
  have Hf := Lib.hid floatOf_any
  clear h
  go_enter Try.func18, Try.ntmps18
  go_wp2_with (first | (go_at_call 34; refine H.out.mono ?_; rintro e w1 ⟨rfl, h1⟩; have H1 := Lib.hid h1; clear h1) | (go_at_call 27; refine (Hf.out _ _).mono ?_; rintro e w2 ⟨rfl, rfl⟩))
  go_ret
  exact ⟨rfl, H1.out⟩
theorem got_lt {y e x : Nat} (h : x < 18446744073709551616) : Wire.got Nat 0 y e x < 18446744073709551616 := by
  unfold Wire.got; split
  · omega
  split <;> omega
theorem zag_bits {n : Nat} (h : n < 18446744073709551616) :
    bits BinOp.xor IntKind.i64 ((n : Int) / 2) (wrap64 (-wrap64 (bits BinOp.and IntKind.u64 (n : Int) 1))) = Wire.zag n := by
  have ha : bits BinOp.and IntKind.u64 (n : Int) 1 = ((n % 2 : Nat) : Int) := by
    rw [show (1 : Int) = ((1 : Nat) : Int) from rfl, u64_and_nat n 1 h (by decide)]
    apply congrArg
    exact Nat.and_one_is_mod n
  rw [ha]
  have hx : ∀ (a : Nat) (b : Int), bits BinOp.xor IntKind.i64 (a : Int) b = IntKind.i64.wrap ((BitVec.ofInt 64 (a : Int) ^^^ BitVec.ofInt 64 b).toNat : Int) := fun _ _ => rfl
  have ho : (BitVec.ofInt 64 ((n / 2 : Nat) : Int)).toNat = n / 2 := by simp; omega
  have hn2 : n / 2 < 9223372036854775808 := by omega
  unfold Wire.zag
  rw [show (n : Int) / 2 = ((n / 2 : Nat) : Int) by omega]
  by_cases he : n % 2 = 0
  · rw [if_pos he, he, show wrap64 (-wrap64 ((0 : Nat) : Int)) = 0 from by decide +kernel, hx, show BitVec.ofInt 64 0 = 0#64 from rfl, BitVec.xor_zero, ho]
    generalize n / 2 = m at *
    rw [IntKind.wrap_i64]
    omega
  · have h1 : n % 2 = 1 := by omega
    rw [if_neg he, h1, show wrap64 (-wrap64 ((1 : Nat) : Int)) = -1 from by decide +kernel, hx, BitVec.toNat_xor, ho, show (BitVec.ofInt 64 (-1)).toNat = 2 ^ 64 - 1 from rfl, xor_ones 64 _ (by omega)]
    generalize n / 2 = m at *
    rw [IntKind.wrap_i64]
    omega
theorem rInt_any (B b : Nat) (l : List UInt8) (y : Nat) (w : World) (h : IsR b l y w) (hB : B ≤ b) (hl : l.length ≤ 1000000000) :
    Calls Try.prog 15 #[.pointer (some ⟨b, 0, none⟩)] w fun e w' => e = .returned (.int .i64 (Wire.zag (Wire.got Nat 0 y (Wire.readNum l).2.2 (Wire.readNum l).1))) ∧ IsR b (Wire.left y (Wire.readNum l).2.2 (Wire.readNum l).2.1 l) (Wire.note y (Wire.readNum l).2.2) w' ∧ Below B w w' := by
  have h0 := rNum_any B b l y w h hB hl
  have hlt := got_lt (y := y) (e := (Wire.readNum l).2.2) (Wire.readNum_fits l).1
  generalize Wire.got Nat 0 y (Wire.readNum l).2.2 (Wire.readNum l).1 = n at *
  have H := Lib.hid h0
  have Hz := Lib.hid (zag_bits hlt)
  clear h h0
  go_enter Try.func15, Try.ntmps15
  go_wp2_with (go_at_call 13; refine H.out.mono ?_; rintro e w1 ⟨rfl, h1⟩; have H1 := Lib.hid h1; clear h1)
  go_ret
  rw [← Hz.out]
  exact ⟨rfl, H1.out⟩
theorem rLeft_any (b : Nat) (l : List UInt8) (y : Nat) (w : World) (h : IsR b l y w) :
    Calls Try.prog 22 #[.pointer (some ⟨b, 0, none⟩)] w fun e w' => e = .returned (.int .i64 l.length) ∧ w = w' := by
  obtain ⟨c0, c1, f0, f1⟩ := h.two
  have hs := str_size l
  have Hs := Lib.hid hs
  clear h hs
  go_enter Try.func22, Try.ntmps22
  go_wp2
  go_ret
  rw [← Hs.out]
  exact ⟨rfl, rfl⟩
theorem rErr_any (b : Nat) (l : List UInt8) (y : Nat) (w : World) (h : IsR b l y w) :
    Calls Try.prog 23 #[.pointer (some ⟨b, 0, none⟩)] w fun e w' => e = .returned (.int .i64 y) ∧ w = w' := by
  obtain ⟨c0, c1, f0, f1⟩ := h.two
  clear h
  go_enter Try.func23, Try.ntmps23
  go_wp2
  go_ret
  exact ⟨rfl, rfl⟩
theorem readInt_any (s : ByteArray) (w : World) (hs : s.size ≤ 1000000000) :
    Calls Try.prog 16 #[.string s] w fun e w' => e = .returned (.tuple #[.int .i64 (Wire.zag (Wire.readNum s.data.toList).1), .int .i64 (Wire.readNum s.data.toList).2.1, .int .i64 (Wire.readNum s.data.toList).2.2]) ∧ w = w' := by
  have hnum := readNum_any s w hs
  have hf := (Wire.readNum_fits s.data.toList).1
  generalize Wire.readNum s.data.toList = q at *
  obtain ⟨n, a, y⟩ := q
  simp only at *
  have H := Lib.hid hnum
  clear hnum
  unfold Wire.zag
  by_cases he : n % 2 = 0
  · rw [if_pos he]
    have he' : (n : Int) % 2 = 0 := by omega
    go_enter Try.func16, Try.ntmps16
    go_wp2_with (go_at_call 14; refine H.out.mono ?_; rintro e w1 ⟨rfl, rfl⟩)
    go_ret3
    exact ⟨rfl, rfl⟩
  · rw [if_neg he]
    have he' : (n : Int) % 2 = 1 := by omega
    go_enter Try.func16, Try.ntmps16
    go_wp2_with (go_at_call 14; refine H.out.mono ?_; rintro e w1 ⟨rfl, rfl⟩)
    go_ret3
    exact ⟨rfl, rfl⟩
end Go.Proofs.Ytkabpiganjjacaa
