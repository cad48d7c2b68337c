/- The walks of seal.Open, and of the reference functions Open and Turn, each once. -/
import Derived.Test.YtdkgjjgpejkgfaaSealRef
import Derived.Deep.RegionWith
import Derived.RegionTactic
import Derived.Deep.QuietTactic
import Derived.BigQuiet
import Derived.Lib.ConvBytes
import Derived.Lib.IndexBytes
import Derived.Lib.Strings
namespace Go.Proofs.Ytdkgjjgpejkgfaa
open Go.ChangeShapes Go.WideShapes Go.ChangeAt Go.RowKit

theorem Strs.drew {w : World} {a : Option Addr} {ss : List ByteArray} (h : Strs w a ss) : Strs w.drew a ss := ⟨h.many, h.each, h.cell⟩

theorem seq {w a b : World} (h : Below w.heap.size w a) (k : Below a.heap.size a b) : Below w.heap.size w b := h.trans (k.mono h.size)
theorem below_new (w : World) (o : Obj) : Below w.heap.size w (w.alloc o) := (Below.refl _ _).alloc (Nat.le_refl _) _
theorem below_drew (w : World) : Below w.heap.size w w.drew := (Below.refl _ _).drew

theorem open_short (s : ByteArray) (w : World) (hs : s.size < 4) :
    Calls Try.prog 11 #[.string s] w fun e w' => e = .returned (.tuple #[.string ⟨#[]⟩, .int .i64 1]) ∧ Below w.heap.size w w' := by
  have h1 : (s.size : Int) - 4 < 0 := by omega
  go_enter Try.func11, Try.ntmps11
  go_wp2
  go_ret2
  exact ⟨rfl, Below.refl _ _⟩

theorem open_long (ok : Bool) (n : Nat) (s : ByteArray) (w : World) (hn : s.size = n + 4) (hm : s.size ≤ 1000000) (hE : ((str (Crc.four (Crc.sum (joined [s.extract 0 n])))).toList == (s.extract n s.size).toList) = ok) :
    Calls Try.prog 11 #[.string s] w fun e w' => e = .returned (.tuple #[.string (if ok then s.extract 0 n else ⟨#[]⟩), .int .i64 (if ok then 0 else 10)]) ∧ Below w.heap.size w w' := by
  have h1 : (s.size : Int) - 4 = (n : Int) := by omega
  have h2 : n ≤ s.size := by omega
  have Hn := Lib.hid hn
  clear hn
  have hsz : (s.extract 0 n).size ≤ maxLen := by rw [ByteArray.size_extract]; unfold maxLen; omega
  have HE := Lib.hid hE
  clear hE
  go_enter Try.func11, Try.ntmps11
  go_wp2
  go_region_with (first | (go_at_call 7; refine (of_any _ 1 [s.extract 0 n] _ ?_).mono ?_; exact (strs_one w _ hsz 9).drew; rintro e w1 ⟨rfl, hb1⟩) | (go_at_call 18; refine (four_any _ _ ?_).mono ?_; exact Crc.sum_lt _; rintro e w2 ⟨rfl, hb2⟩))
  rw [HE.out]
  have hb : Below w.heap.size w w2 := seq (seq (seq (below_new w _) (below_drew _)) hb1) hb2
  clear hb1 hb2 HE
  cases ok
  · go_wp2
    go_ret2
    exact ⟨rfl, hb⟩
  · go_wp2
    go_ret2
    exact ⟨rfl, hb⟩
/-- the reference's Open, of a short text -/
theorem refOpen_short (s : ByteArray) (w : World) (hs : s.size < 4) :
    Calls Try.prog 13 #[.string s] w fun e w' => e = .returned (.tuple #[.string ⟨#[]⟩, .int .i64 1]) ∧ Below w.heap.size w w' := by
  have h1 : (s.size : Int) < 4 := by omega
  go_enter Try.func13, Try.ntmps13
  go_wp2
  go_ret2
  exact ⟨rfl, Below.refl _ _⟩

theorem refOpen_long (ok : Bool) (n : Nat) (s : ByteArray) (w : World) (hn : s.size = n + 4) (hm : s.size ≤ 1000000) (hE : ((sealedStr (s.extract 0 n)).toList == s.toList) = ok) :
    Calls Try.prog 13 #[.string s] w fun e w' => e = .returned (.tuple #[.string (if ok then s.extract 0 n else ⟨#[]⟩), .int .i64 (if ok then 0 else 10)]) ∧ Below w.heap.size w w' := by
  have h1 : (s.size : Int) - 4 = (n : Int) := by omega
  have h2 : n ≤ s.size := by omega
  have h3 : ¬ (s.size : Int) < 4 := by omega
  have hsz : (s.extract 0 n).size ≤ 1000000 := by rw [ByteArray.size_extract]; omega
  have Hn := Lib.hid hn
  clear hn
  cases ok
  all_goals
    go_enter Try.func13, Try.ntmps13
    go_wp2_with (go_at_call 15; refine (refSeal_any _ _ hsz).mono ?_; rintro e w1 ⟨rfl, hb1⟩)
    go_ret2
    exact ⟨rfl, hb1⟩

/-- whether a text is a sealed one, in either of the two ways to ask -/
def okB (n : Nat) (s : ByteArray) : Bool := (str (Crc.four (Crc.sum (joined [s.extract 0 n])))).toList == (s.extract n s.size).toList
theorem extract_head (n : Nat) (s : ByteArray) : (s.extract 0 n).data.toList = s.data.toList.take n := by rw [Lib.extract_data]; simp
theorem okB_iff (n : Nat) (s : ByteArray) : okB n s = true ↔ Crc.four (Crc.sum (s.data.toList.take n)) = s.data.toList.drop n := by
  unfold okB
  rw [beq_iff_eq, ByteArray.toList_eq, ByteArray.toList_eq, joined_one, str_data, extract_head, Lib.extract_to_end]
theorem okB_ref (n : Nat) (s : ByteArray) : ((sealedStr (s.extract 0 n)).toList == s.toList) = okB n s := by
  rw [Bool.eq_iff_iff, okB_iff, beq_iff_eq, ByteArray.toList_eq, ByteArray.toList_eq]
  unfold sealedStr
  rw [ByteArray.data_append, Array.toList_append, str_data, extract_head]
  constructor
  · intro h
    have h2 : s.data.toList.take n ++ Crc.four (Crc.sum (s.data.toList.take n)) = s.data.toList.take n ++ s.data.toList.drop n := by rw [h, List.take_append_drop]
    exact List.append_cancel_left h2
  · intro h
    rw [h, List.take_append_drop]

/-- the bytes of which k were xored with those of a word -/
def turnN (l : List UInt8) (i x : Nat) : Nat → List UInt8
  | 0 => l
  | k + 1 => (turnN l i x k).set (i + k) ((turnN l i x k).getD (i + k) 0 ^^^ UInt8.ofNat (x / 256 ^ k))
theorem turnN_length (l : List UInt8) (i x k : Nat) : (turnN l i x k).length = l.length := by
  induction k with
  | zero => rfl
  | succ k ih => simp [turnN, ih]

/-- the block of bytes after k of them were turned -/
structure TurnRow (w : World) (l : List UInt8) (wr : World) : Prop where
  cell : ∀ j, j < l.length → wr.cell? ⟨w.heap.size, j, none⟩ = some (.int .u8 (l.getD j 0).toNat)
  free : ∀ j, j < l.length → wr.frozen? ⟨w.heap.size, j, none⟩ = false
  below : Below w.heap.size w wr
theorem turn_start (w : World) (s : ByteArray) (i x : Nat) : TurnRow w (turnN s.data.toList i x 0) (Lib.bytesWorld w 5 s) where
  cell j hj := Lib.bytesWorld_cell w _ s j (by simpa [turnN] using hj)
  free j hj := by
    have hs : j < s.size := by simpa [turnN] using hj
    have h := Lib.bytesWorld_at_new w 5 s
    have hc : s.size ≤ (Lib.bytesCells w 5 s).size := by simp [Lib.bytesCells]
    simp [World.frozen?, h]
    omega
  below := ⟨rfl, rfl, rfl, by rw [Lib.bytesWorld_size]; omega, fun j hj => Lib.bytesWorld_at_old w _ s j hj⟩
theorem turn_step {w wr : World} {l : List UInt8} {i x k : Nat} (h : TurnRow w (turnN l i x k) wr) (hk : i + k < l.length) :
    TurnRow w (turnN l i x (k + 1)) (wr.setCell ⟨w.heap.size, i + k, none⟩ (.int .u8 ((turnN l i x k).getD (i + k) 0 ^^^ UInt8.ofNat (x / 256 ^ k)).toNat)) where
  cell j hj := by
    rw [turnN_length] at hj
    by_cases e : i + k = j
    · subst e
      rw [World.cell?_setCell_same wr _ _ (h.cell _ (by rw [turnN_length]; exact hk))]
      simp [turnN, turnN_length, hk]
    · rw [World.cell?_setCell_other wr _ _ _ (fun h => e (by injection h)), h.cell j (by rw [turnN_length]; exact hj)]
      simp [turnN, List.getElem?_set_ne e]
  free j hj := by
    rw [World.frozen?_setCell]
    exact h.free j (by rw [turnN_length] at hj ⊢; exact hj)
  below := h.below.setCell (by simp) _

theorem turn_xor (a : UInt8) (q : Nat) : bits BinOp.xor IntKind.u8 (a.toNat : Int) ((q : Int) % 256) = (((a ^^^ UInt8.ofNat q).toNat : Nat) : Int) := by
  have := u8_xor_nat a.toNat (q % 256) (UInt8.toNat_lt a) (by omega)
  rw [UInt8.toNat_xor, UInt8.toNat_ofNat', ← this]
  rfl

theorem turn_any (s : ByteArray) (i x : Nat) (w : World) (hs : s.size ≤ 1000000) (hx : x < 4294967296) (hi : i + 4 ≤ s.size) :
    Calls Try.prog 12 #[.string s, .int .i64 i, .int .u32 x] w fun e w' => e = .returned (.string (str (turnN s.data.toList i x 4))) ∧ Below w.heap.size w w' := by
  have hcv := fun w1 => Lib.run_convert_string_bytes (P := Try.prog) w1 9 41 5 s (u := .string) Try.underlying9 Try.underlying41 Try.underlying5
  go_enter Try.func12, Try.ntmps12
  go_wp2
  have h0 := turn_start w s i x
  generalize Lib.bytesWorld w 5 s = w2 at *
  generalize grownCap w s.size 0 5 = cap at *
  clear hcv
  have hlen : ∀ k, (turnN s.data.toList i x k).length = s.size := fun k => (turnN_length _ _ _ _).trans rfl
  have H0 := Lib.hid h0
  have Hlen := Lib.hid hlen
  clear h0 hlen
  go_loopw [2, 8] (fun q n wr => ∃ k : Nat, k ≤ 4 ∧ n = .int .i64 k ∧ q = .int .u32 (x / 256 ^ k : Nat) ∧ TurnRow w (turnN s.data.toList i x k) wr) (fun _ n _ => 4 - (intOf n).toNat)
  case atStart => exact ⟨0, by omega, rfl, by simp, H0.out⟩
  case round =>
    obtain ⟨k, hk, rfl, rfl, hT⟩ := hrel
    by_cases hlt : k < 4
    · have hc := hT.cell (i + k) (by rw [Hlen.out]; omega)
      have hf := hT.free (i + k) (by rw [Hlen.out]; omega)
      have hstep := turn_step hT (by have := Hlen.out 0; rw [turnN_length] at this; omega)
      have hxor := turn_xor ((turnN s.data.toList i x k).getD (i + k) 0) (x / 256 ^ k)
      have hnext : x / 256 ^ (k + 1) = x / 256 ^ k / 256 := by rw [Nat.div_div_eq_div_mul, Nat.pow_succ]
      have hle : x / 256 ^ k < 4294967296 := Nat.lt_of_le_of_lt (Nat.div_le_self _ _) (by omega)
      generalize (turnN s.data.toList i x k).getD (i + k) 0 = a at *
      generalize x / 256 ^ k = q at *
      generalize (a ^^^ UInt8.ofNat q).toNat = a' at *
      have Hnext := Lib.hid hnext
      have Hstep := Lib.hid hstep
      clear hnext hstep hT
      have e1 : ((i : Int) + (k : Int)).toNat = i + k := by omega
      have e2 : (i : Int) + (k : Int) < (s.size : Int) := by omega
      go_wp2
      go_roundw
      case rel =>
        exact ⟨k + 1, by omega, by go_num, by rw [Hnext.out]; go_num, Hstep.out⟩
      case measure => simp [intOf]; omega
    · obtain rfl : k = 4 := by omega
      have hcv : (convert 41 9 (.slice (some ⟨w.heap.size, 0, none⟩) s.size cap)).run Try.prog wr = .ok (.string (str (turnN s.data.toList i x 4))) wr := by
        have := run_convert_bytes_back (P := Try.prog) wr 41 9 5 ⟨w.heap.size, 0, none⟩ cap (turnN s.data.toList i x 4) Try.underlying41 Try.underlying5 Try.underlying9 (fun j hj => by
          have hadd : (⟨w.heap.size, 0, none⟩ : Addr).add j = ⟨w.heap.size, j, none⟩ := by unfold Addr.add; split <;> simp_all
          rw [hadd, hT.cell j hj]
          simp [hj])
        rw [Hlen.out] at this
        exact this
      have hb := hT.below
      clear hT
      go_wp2
      go_ret
      exact ⟨rfl, hb⟩
end Go.Proofs.Ytdkgjjgpejkgfaa
