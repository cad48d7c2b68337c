/- The walks of seal.Of, More, four and Seal, each once. -/
import Derived.Test.YtdkgjjgpejkgfaaSealComes
namespace Go.Proofs.Ytdkgjjgpejkgfaa
open Go.ChangeShapes Go.WideShapes Go.ChangeAt Go.RowKit

theorem u32_not (x : Nat) (h : x < 4294967296) : bits BinOp.xor IntKind.u32 IntKind.u32.max (x : Int) = ((4294967295 - x : Nat) : Int) := by
  have := u32_xor_nat 4294967295 x (by decide) h
  rw [Crc.sub_eq_xor h, Nat.xor_comm, ← this]; rfl
theorem u32_signed : IntKind.u32.signed = false := rfl

/-- what a sum comes to -/
theorem of_any (a : Option Addr) (cap : Nat) (ss : List ByteArray) (w : World) (hs : Strs w a ss) :
    Calls Try.prog 7 #[.slice a ss.length cap] w fun e w' => e = .returned (.int .u32 (Crc.sum (joined ss) : Nat)) ∧ Below w.heap.size w w' := by
  have hl := Crc.crc_lt (r := 4294967295) (by decide) (joined ss)
  have hn := u32_not _ hl
  have hf : Crc.sum (joined ss) = 4294967295 - Crc.crc 4294967295 (joined ss) := rfl
  rw [hf]
  clear hf
  have hsg := u32_signed
  go_enter Try.func7, Try.ntmps7
  go_wp2_with (go_at_call 16; refine (comes_any 4294967295 _ _ ss _ (by decide) hs).mono ?_; rintro e w1 ⟨rfl, hb1⟩)
  go_ret
  exact ⟨rfl, hb1⟩

theorem strs_one (w : World) (s : ByteArray) (hs : s.size ≤ maxLen) (t : TypeId) : Strs (w.alloc (.cells #[.string s] t)) (some ⟨w.heap.size, 0, none⟩) [s] where
  many := by simp [maxLen]
  each := by simpa using hs
  cell := ⟨w.heap.size, 0, .inr rfl, fun i hi => by
    have : i = 0 := by simpa using hi
    subst this; simp⟩
theorem joined_one (s : ByteArray) : joined [s] = s.data.toList := by simp [joined]

theorem more_any (r : Nat) (s : ByteArray) (w : World) (hr : r < 4294967296) (hs : s.size ≤ maxLen) :
    Calls Try.prog 8 #[.int .u32 r, .string s] w fun e w' => e = .returned (.int .u32 (4294967295 - Crc.crc (4294967295 - r) s.data.toList : Nat)) ∧ Below w.heap.size w w' := by
  have hl := Crc.crc_lt (r := 4294967295 - r) (by omega) (s.data.toList)
  have hn := u32_not _ hl
  have hn' := u32_not _ hr
  have hsg := u32_signed
  go_enter Try.func8, Try.ntmps8
  go_wp2_with (go_at_call 16; refine (comes_any (4294967295 - r) _ 1 [s] _ (by omega) (strs_one w s hs _)).mono ?_; rintro e w1 ⟨rfl, hb1⟩; rw [joined_one])
  go_ret
  exact ⟨rfl, ((Below.refl _ _).alloc (Nat.le_refl _) _).trans (hb1.mono (by simp))⟩

/-- the string of a list of bytes -/
def str (l : List UInt8) : ByteArray := ⟨l.toArray⟩
theorem str_data (l : List UInt8) : (str l).data.toList = l := by simp [str]
theorem str_size (l : List UInt8) : (str l).size = l.length := by simp [str, ByteArray.size]

theorem four_conv (r : Nat) (w : World) (hr : r < 4294967296) :
    (convert 41 9 (.slice (some ⟨w.heap.size, 0, none⟩) 4 4)).run Try.prog (w.alloc (.cells #[.int .u8 ((r : Int) % 256), .int .u8 ((r : Int) / 256 % 256), .int .u8 ((r : Int) / 65536 % 256), .int .u8 ((r : Int) / 16777216)] 5))
      = .ok (.string (str (Crc.four r))) (w.alloc (.cells #[.int .u8 ((r : Int) % 256), .int .u8 ((r : Int) / 256 % 256), .int .u8 ((r : Int) / 65536 % 256), .int .u8 ((r : Int) / 16777216)] 5)) := by
  refine run_convert_bytes_back _ 41 9 5 ⟨w.heap.size, 0, none⟩ 4 (Crc.four r) Try.underlying41 Try.underlying5 Try.underlying9 ?_
  intro j hj
  have hj' : j < 4 := hj
  have hadd : (⟨w.heap.size, 0, none⟩ : Addr).add j = ⟨w.heap.size, j, none⟩ := by unfold Addr.add; split <;> simp_all
  rw [hadd]
  have h24 : (r : Int) / 16777216 = (r : Int) / 16777216 % 256 := by omega
  match j, hj' with
  | 0, _ => simp [Crc.four]
  | 1, _ => simp [Crc.four]
  | 2, _ => simp [Crc.four]
  | 3, _ => simp [Crc.four]; exact h24

theorem four_any (r : Nat) (w : World) (hr : r < 4294967296) :
    Calls Try.prog 18 #[.int .u32 r] w fun e w' => e = .returned (.string (str (Crc.four r))) ∧ Below w.heap.size w w' := by
  have hcv := four_conv r w hr
  go_enter Try.func18, Try.ntmps18
  go_wp2
  go_ret
  exact ⟨rfl, (Below.refl _ _).alloc (Nat.le_refl _) _⟩

/-- a sealed text -/
def sealedStr (s : ByteArray) : ByteArray := s ++ str (Crc.four (Crc.sum s.data.toList))

theorem seal_any (s : ByteArray) (w : World) (hs : s.size ≤ 1000000) :
    Calls Try.prog 10 #[.string s] w fun e w' => e = .returned (.string (sealedStr s)) ∧ Below w.heap.size w w' := by
  have hsum := Crc.sum_lt s.data.toList
  have hsz4 : (str (Crc.four (Crc.sum s.data.toList))).size = 4 := by rw [str_size]; rfl
  have hst := strs_one w s (by unfold maxLen; omega) 9
  go_enter Try.func10, Try.ntmps10
  go_wp2_with (first | (go_at_call 7; refine (of_any _ 1 [s] _ hst).mono ?_; rintro e w1 ⟨rfl, hb1⟩; rw [joined_one]) | (go_at_call 18; refine (four_any _ _ hsum).mono ?_; rintro e w2 ⟨rfl, hb2⟩))
  go_ret
  exact ⟨rfl, (((Below.refl _ _).alloc (Nat.le_refl _) _).trans (hb1.mono (by simp))).trans (hb2.mono (by have := hb1.size; simp at this; omega))⟩
end Go.Proofs.Ytdkgjjgpejkgfaa
