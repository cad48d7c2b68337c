/- The walks of the law's own helpers: 'lives', 'bytes' and 'write'. -/
import Derived.Test.YtkabpiganjjacaaWireParts
namespace Go.Proofs.Ytkabpiganjjacaa
open Go.ChangeShapes Go.WideShapes Go.ChangeAt Go.RowKit

theorem IsW.grow {B b : Nat} {l : List UInt8} {bad : Bool} {w w' : World} (h : IsW B b l bad w) (hb : Below w.heap.size w w') : IsW B b l bad w' := by
  have key : ∀ p, WAt B b p l bad w → WAt B b p l bad w' := by
    intro p hp
    obtain ⟨hB, v, hbk, hown, hne, hnil⟩ := hp
    exact ⟨hB, v, blockB hb (Nat.le_refl _) hbk, hown.kept (row := none) ⟨hb.os, hb.tape, hb.output, hb.size, fun k hk _ => hb.block k hk⟩ (by cases hob : v.ownBlock with
      | none => exact .inl rfl
      | some g => exact .inr (by simp)), hne, hnil⟩
  rcases h with h | h
  · exact .inl (key _ h)
  · exact .inr (key _ h)

theorem lives_str : str ([] ++ Wire.num 300 ++ Wire.int (-1)) = ⟨#[172, 2, 1]⟩ := by decide +kernel
theorem lives_any (w : World) :
    Calls Try.prog 7 #[] w fun e w' => e = .returned (.bool true) ∧ Below w.heap.size w w' := by
  have hb := below_new w (.cells #[.pointer none, .slice none 0 0, .bool false] 61)
  have h0 := isW_new w
  obtain ⟨W, hW⟩ : ∃ W, w.alloc (.cells #[.pointer none, .slice none 0 0, .bool false] 61) = W := ⟨_, rfl⟩
  have hnew := newWriter_any w
  rw [hW] at hb h0 hnew
  have hlt : w.heap.size ≤ W.heap.size := hb.size
  have hnum := wNum_any w.heap.size w.heap.size 300 [] false W h0 (by simp) (by decide) hlt
  have hnl := Wire.num_length 300
  have hint : ∀ w1, Wrote w.heap.size w.heap.size ([] ++ Wire.num 300) false W w1 → Calls Try.prog 25 #[.pointer (some ⟨w.heap.size, 0, none⟩), .int .i64 (-1)] w1 fun e w' => e = .returned (.tuple #[]) ∧ Wrote w.heap.size w.heap.size ([] ++ Wire.num 300 ++ Wire.int (-1)) false w1 w' := fun w1 h1 =>
    wInt_any w.heap.size w.heap.size (-1) _ false w1 h1.is (by simp; omega) (by decide) (by decide) (by have := h1.2.size; omega)
  have hdone : ∀ w1 w2, Wrote w.heap.size w.heap.size ([] ++ Wire.num 300 ++ Wire.int (-1)) false w1 w2 → Calls Try.prog 11 #[.pointer (some ⟨w.heap.size, 0, none⟩)] w2 fun e w' => e = .returned (.tuple #[.string ⟨#[172, 2, 1]⟩, .int .i64 0]) ∧ Below w.heap.size w2 w' := fun w1 w2 h2 => by
    have := wDone_any w.heap.size w.heap.size _ false w2 h2.is (by have := Wire.num_length (Wire.zig (-1)); simp [Wire.int]; omega)
    rw [lives_str] at this
    exact this
  have Hnew := Lib.hid hnew
  have Hnum := Lib.hid hnum
  have Hint := Lib.hid hint
  have Hdone := Lib.hid hdone
  clear hnew hnum hint hdone hnl h0 hW
  generalize [] ++ Wire.num 300 = q1 at *
  generalize q1 ++ Wire.int (-1) = q2 at *
  go_enter Try.func7, Try.ntmps7
  go_wp2_with (first | (go_at_call 8; refine Hnew.out.mono ?_; rintro e w0 ⟨rfl, rfl⟩; clear Hnew) | (go_at_call 24; refine Hnum.out.mono ?_; rintro e w1 ⟨rfl, h1⟩; have H1 := Lib.hid h1; clear h1 Hnum) | (go_at_call 25; refine (Hint.out _ H1.out).mono ?_; rintro e w2 ⟨rfl, h2⟩; have H2 := Lib.hid h2; clear h2 Hint) | (go_at_call 11; refine (Hdone.out _ _ H2.out).mono ?_; rintro e w3 ⟨rfl, h3⟩; have H3 := Lib.hid h3; clear h3 Hdone))
  go_ret
  exact ⟨rfl, hb.trans (H1.out.2.toBelow.trans (H2.out.2.toBelow.trans H3.out))⟩

set_option maxHeartbeats 1000000 in
theorem bytes_any (p : Part) (w : World) (hp : p.ok) :
    Calls Try.prog 10 #[p.value] w fun e w' => e = .returned (.tuple #[.string (str p.bytes.1), .bool p.bytes.2]) ∧ Below w.heap.size w w' := by
  obtain ⟨k, n, s⟩ := p
  obtain ⟨hk, hn, hs⟩ := hp
  simp only at hk hn hs
  unfold Part.value Part.bytes
  simp only
  have hb := below_new w (.cells #[.int .u8 k, .int .u64 n, .string s] 25)
  obtain ⟨⟨c0, c1, c2⟩, -⟩ := three (heap_alloc_new w (.cells #[.int .u8 k, .int .u64 n, .string s] 25))
  have hw64 := wrap64_bounds n
  have h1 := fun w => refNum_any n w hn
  have h2 := fun w => refInt_any (wrap64 n) w hw64.1 hw64.2
  have h3 := fun w => refFloat_any n w hn
  have H1 := Lib.hid h1
  have H2 := Lib.hid h2
  have H3 := Lib.hid h3
  clear h1 h2 h3 hw64
  obtain ⟨t, b, hte, h4⟩ : ∃ (t : ByteArray) (b : Bool), (t, b) = (str (if s.size ≤ 65535 then (Wire.text s.data.toList, true) else ([], false)).1, (if s.size ≤ 65535 then (Wire.text s.data.toList, true) else ([], false)).2) ∧ ∀ w, Calls Try.prog 32 #[.string s] w fun e w' => e = .returned (.tuple #[.string t, .bool b]) ∧ Below w.heap.size w w' := by
    by_cases hsz : s.size ≤ 65535
    · exact ⟨_, _, rfl, fun w => by rw [if_pos hsz]; exact refText_any s w hsz⟩
    · exact ⟨_, _, rfl, fun w => by rw [if_neg hsz]; exact refText_long s w hs (by omega)⟩
  obtain ⟨rfl, rfl⟩ := Prod.mk.inj hte
  have H4 := Lib.hid h4
  clear h4 hte hs
  by_cases k0 : k % 4 = 0
  · rw [if_pos k0]
    have kk : (k : Int) % 4 = 0 := by omega
    clear H2 H3 H4
    go_enter Try.func10, Try.ntmps10
    go_wp2_with (go_at_call 29; refine (H1.out _).mono ?_; rintro e w1 ⟨rfl, hb1⟩; replace hb := seq hb hb1; clear hb1)
    go_ret2
    exact ⟨rfl, hb⟩
  rw [if_neg k0]
  by_cases k1 : k % 4 = 1
  · rw [if_pos k1]
    have kk : (k : Int) % 4 = 1 := by omega
    clear H1 H3 H4
    go_enter Try.func10, Try.ntmps10
    go_wp2_with (go_at_call 30; refine (H2.out _).mono ?_; rintro e w1 ⟨rfl, hb1⟩; replace hb := seq hb hb1; clear hb1)
    go_ret2
    exact ⟨rfl, hb⟩
  rw [if_neg k1]
  by_cases k2 : k % 4 = 2
  · rw [if_pos k2]
    have kk : (k : Int) % 4 = 2 := by omega
    clear H1 H2 H4
    go_enter Try.func10, Try.ntmps10
    go_wp2_with (go_at_call 31; refine (H3.out _).mono ?_; rintro e w1 ⟨rfl, hb1⟩; replace hb := seq hb hb1; clear hb1)
    go_ret2
    exact ⟨rfl, hb⟩
  rw [if_neg k2]
  have kk : (k : Int) % 4 = 3 := by omega
  clear H1 H2 H3
  generalize (if s.size ≤ 65535 then (Wire.text s.data.toList, true) else ([], false)) = r at *
  go_enter Try.func10, Try.ntmps10
  go_wp2_with (go_at_call 32; refine (H4.out _).mono ?_; rintro e w1 ⟨rfl, hb1⟩; replace hb := seq hb hb1; clear hb1)
  go_ret2
  exact ⟨rfl, hb⟩

set_option maxHeartbeats 1000000 in
theorem write_any (B b : Nat) (p : Part) (l : List UInt8) (bad : Bool) (w : World) (hp : p.ok) (h : IsW B b l bad w) (hlen : l.length ≤ 900000000) (hBw : B ≤ w.heap.size) :
    Calls Try.prog 9 #[.pointer (some ⟨b, 0, none⟩), p.value] w fun e w' => e = .returned (.tuple #[]) ∧ IsW B b (l ++ p.bytes.1) (bad || !p.bytes.2) w' ∧ BelowK B b w w' := by
  obtain ⟨k, n, s⟩ := p
  obtain ⟨hk, hn, hs⟩ := hp
  simp only at hk hn hs
  unfold Part.value Part.bytes
  simp only
  have hb0 := below_new w (.cells #[.int .u8 k, .int .u64 n, .string s] 25)
  have h0 := h.grow hb0
  have hb : BelowK B b w (w.alloc (.cells #[.int .u8 k, .int .u64 n, .string s] 25)) := (BelowK.refl _ _ _).alloc hBw _
  have hBw1 : B ≤ (w.alloc (.cells #[.int .u8 k, .int .u64 n, .string s] 25)).heap.size := by have := hb.size; omega
  obtain ⟨⟨c0, c1, c2⟩, -⟩ := three (heap_alloc_new w (.cells #[.int .u8 k, .int .u64 n, .string s] 25))
  have hw64 := wrap64_bounds n
  have h1 := wNum_any B b n l bad _ h0 hlen hn hBw1
  have h2 := wInt_any B b (wrap64 n) l bad _ h0 hlen hw64.1 hw64.2 hBw1
  have h3 := wFloat_any B b n l bad _ h0 hlen hn hBw1
  have h4 : Calls Try.prog 28 #[.pointer (some ⟨b, 0, none⟩), .string s] (w.alloc (.cells #[.int .u8 k, .int .u64 n, .string s] 25)) fun e w' => e = .returned (.tuple #[]) ∧ IsW B b (l ++ (if s.size ≤ 65535 then (Wire.text s.data.toList, true) else ([], false)).1) (bad || !(if s.size ≤ 65535 then (Wire.text s.data.toList, true) else ([], false)).2) w' ∧ BelowK B b (w.alloc (.cells #[.int .u8 k, .int .u64 n, .string s] 25)) w' := by
    by_cases hsz : s.size ≤ 65535
    · rw [if_pos hsz]
      refine (wText_any B b s l bad _ h0 hlen hsz hBw1).mono ?_
      rintro e w1 ⟨rfl, hw⟩
      exact ⟨rfl, by simpa using hw.is, hw.2⟩
    · rw [if_neg hsz]
      refine (wText_long B b s l bad _ h0 hs (by omega)).mono ?_
      rintro e w1 ⟨rfl, hw⟩
      exact ⟨rfl, by simpa using hw.1, hw.2⟩
  have H1 := Lib.hid h1
  have H2 := Lib.hid h2
  have H3 := Lib.hid h3
  have H4 := Lib.hid h4
  clear h1 h2 h3 h4 hw64 h h0 hs hb0 hn
  by_cases k0 : k % 4 = 0
  · rw [if_pos k0]
    have kk : (k : Int) % 4 = 0 := by omega
    clear H2 H3 H4
    go_enter Try.func9, Try.ntmps9
    go_wp2_with (go_at_call 24; refine H1.out.mono ?_; rintro e w1 ⟨rfl, h1⟩; have J1 := Lib.hid h1; clear h1)
    go_end0
    exact ⟨rfl, by simpa using J1.out.is, hb.trans J1.out.2⟩
  rw [if_neg k0]
  by_cases k1 : k % 4 = 1
  · rw [if_pos k1]
    have kk : (k : Int) % 4 = 1 := by omega
    clear H1 H3 H4
    go_enter Try.func9, Try.ntmps9
    go_wp2_with (go_at_call 25; refine H2.out.mono ?_; rintro e w1 ⟨rfl, h1⟩; have J1 := Lib.hid h1; clear h1)
    go_end0
    exact ⟨rfl, by simpa using J1.out.is, hb.trans J1.out.2⟩
  rw [if_neg k1]
  by_cases k2 : k % 4 = 2
  · rw [if_pos k2]
    have kk : (k : Int) % 4 = 2 := by omega
    clear H1 H2 H4
    go_enter Try.func9, Try.ntmps9
    go_wp2_with (first | (go_at_call 27; refine (floatOf_any n _).mono ?_; rintro e w0 ⟨rfl, rfl⟩) | (go_at_call 26; refine H3.out.mono ?_; rintro e w1 ⟨rfl, h1⟩; have J1 := Lib.hid h1; clear h1))
    go_end0
    exact ⟨rfl, by simpa using J1.out.is, hb.trans J1.out.2⟩
  rw [if_neg k2]
  have kk : (k : Int) % 4 = 3 := by omega
  clear H1 H2 H3
  generalize (if s.size ≤ 65535 then (Wire.text s.data.toList, true) else ([], false)) = r at *
  go_enter Try.func9, Try.ntmps9
  go_wp2_with (go_at_call 28; refine H4.out.mono ?_; rintro e w1 ⟨rfl, h1⟩; have J1 := Lib.hid h1; clear h1)
  go_end0
  exact ⟨rfl, J1.out.1, hb.trans J1.out.2⟩
end Go.Proofs.Ytkabpiganjjacaa
