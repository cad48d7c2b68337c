/- The walks of a Reader's methods where something is found: what they leave alone, too. -/
import Derived.Test.YtkabpiganjjacaaWireBMath
namespace Go.Proofs.Ytkabpiganjjacaa
open Go.ChangeShapes Go.WideShapes Go.ChangeAt Go.RowKit

/-- of what was there block b alone may have changed -/
def Only (b : Nat) (w w' : World) : Prop := w'.os = w.os ∧ w'.tape = w.tape ∧ w'.output = w.output ∧ w.heap.size ≤ w'.heap.size ∧ ∀ k, k < w.heap.size → k ≠ b → w'.heap[k]? = w.heap[k]?
theorem Only.set {b : Nat} {w w1 : World} (h : Below w.heap.size w w1) (i : Nat) (v : Value) : Only b w (w1.setCell ⟨b, i, none⟩ v) :=
  ⟨h.os, h.tape, h.output, by have := h.size; simpa [World.setCell] using this, fun k hk hb => by rw [Below.heap_setCell w1 ⟨b, i, none⟩ v k hb]; exact h.block k hk⟩
theorem Only.below {b B : Nat} {w w' : World} (h : Only b w w') (hB : B ≤ b) (hw : B ≤ w.heap.size) : Below B w w' :=
  ⟨h.1, h.2.1, h.2.2.1, h.2.2.2.1, fun k hk => h.2.2.2.2 k (by omega) (by omega)⟩
theorem Only.keep {b : Nat} {w w' : World} (h : Only b w w') {k : Nat} {o : Obj} (hk : w.heap[k]? = some o) (hb : k ≠ b) : w'.heap[k]? = some o := by
  rw [h.2.2.2.2 k (block_lt hk) hb]; exact hk

set_option maxHeartbeats 1000000 in
theorem nextNum_ok (b : Nat) (l : List UInt8) (x : Nat) (k : Nat) (w : World) (h : IsR b l 0 w) (hq : Wire.readNum l = (x, k, 0)) (hl : l.length ≤ 1000000000) :
    Calls Try.prog 34 #[.pointer (some ⟨b, 0, none⟩), .func (.func 35) #[] #[]] w fun e w' => e = .returned (.int .u64 x) ∧ IsR b (l.drop k) 0 w' ∧ Only b w w' := by
  have hrd := fun w => number_any (str l) w (by rw [str_size]; exact hl)
  simp only [str_data, hq] at hrd
  have hfit : k ≤ l.length := by have := Wire.readNum_fits l; rw [hq] at this; exact this.2.1
  have hex := extract_left l k
  have hsl := str_size l
  obtain ⟨c0, c1, f0, f1⟩ := h.two
  have Hrd := Lib.hid hrd
  have Hex := Lib.hid hex
  have H := Lib.hid h
  have hfit2 : k ≤ (str l).size := by omega
  have hsz2 : (str l).size ≤ 1000000000 := by omega
  clear hrd hex h hsl hq
  go_enter Try.func34, Try.ntmps34
  go_wp2_with (go_at_call 35; refine (Hrd.out _).mono ?_; rintro e w1 ⟨rfl, rfl⟩)
  go_ret
  rw [Hex.out]
  exact ⟨rfl, H.out.rest, Only.set (Below.refl _ _) _ _⟩

set_option maxHeartbeats 1000000 in
theorem nextFix_ok (b : Nat) (l : List UInt8) (x : Nat) (k : Nat) (w : World) (h : IsR b l 0 w) (hq : Wire.readFix l = (x, k, 0)) (hl : l.length ≤ 1000000000) :
    Calls Try.prog 34 #[.pointer (some ⟨b, 0, none⟩), .func (.func 37) #[] #[]] w fun e w' => e = .returned (.int .u64 x) ∧ IsR b (l.drop k) 0 w' ∧ Only b w w' := by
  have hrd := fun w => fixed_any (str l) w (by rw [str_size]; exact hl)
  simp only [str_data, hq] at hrd
  have hfit : k ≤ l.length := by have := Wire.readFix_fits l; rw [hq] at this; exact this
  have hex := extract_left l k
  have hsl := str_size l
  obtain ⟨c0, c1, f0, f1⟩ := h.two
  have Hrd := Lib.hid hrd
  have Hex := Lib.hid hex
  have H := Lib.hid h
  have hfit2 : k ≤ (str l).size := by omega
  have hsz2 : (str l).size ≤ 1000000000 := by omega
  clear hrd hex h hsl hq
  go_enter Try.func34, Try.ntmps34
  go_wp2_with (go_at_call 37; refine (Hrd.out _).mono ?_; rintro e w1 ⟨rfl, rfl⟩)
  go_ret
  rw [Hex.out]
  exact ⟨rfl, H.out.rest, Only.set (Below.refl _ _) _ _⟩

set_option maxHeartbeats 1000000 in
theorem nextText_ok (b : Nat) (l : List UInt8) (x : List UInt8) (k : Nat) (w : World) (h : IsR b l 0 w) (hq : Wire.readText l = (x, k, 0)) (hl : l.length ≤ 1000000000) :
    Calls Try.prog 38 #[.pointer (some ⟨b, 0, none⟩), .func (.func 39) #[] #[]] w fun e w' => e = .returned (.string (str x)) ∧ IsR b (l.drop k) 0 w' ∧ Only b w w' := by
  have hrd := fun w => text_any (str l) w (by rw [str_size]; exact hl)
  simp only [str_data, hq] at hrd
  have hfit : k ≤ l.length := by have := Wire.readText_fits l; rw [hq] at this; exact this
  have hex := extract_left l k
  have hsl := str_size l
  obtain ⟨c0, c1, f0, f1⟩ := h.two
  have Hrd := Lib.hid hrd
  have Hex := Lib.hid hex
  have H := Lib.hid h
  have hfit2 : k ≤ (str l).size := by omega
  have hsz2 : (str l).size ≤ 1000000000 := by omega
  clear hrd hex h hsl hq
  go_enter Try.func38, Try.ntmps38
  go_wp2_with (go_at_call 39; refine (Hrd.out _).mono ?_; rintro e w1 ⟨rfl, hb1⟩; have H1 := Lib.hid (blockB hb1 (Nat.le_refl _) H.out); clear c0 c1 f0 f1; obtain ⟨c0, c1, f0, f1⟩ := IsR.two H1.out)
  go_ret
  rw [Hex.out]
  exact ⟨rfl, (Lib.hid (show IsR b l 0 w1 from H1.out)).out.rest, Only.set hb1 _ _⟩

theorem rNum_ok (b : Nat) (l : List UInt8) (x : Nat) (k : Nat) (w : World) (h : IsR b l 0 w) (hq : Wire.readNum l = (x, k, 0)) (hl : l.length ≤ 1000000000) :
    Calls Try.prog 13 #[.pointer (some ⟨b, 0, none⟩)] w fun e w' => e = .returned (.int .u64 x) ∧ IsR b (l.drop k) 0 w' ∧ Only b w w' := by
  have H := Lib.hid (nextNum_ok b l x k w h hq hl)
  clear h hq
  go_enter Try.func13, Try.ntmps13
  go_wp2_with fail
  refine H.out.mono ?_
  rintro e w1 ⟨rfl, h1⟩
  have H1 := Lib.hid h1
  clear h1
  go_wp2
  go_ret
  exact ⟨rfl, H1.out⟩

theorem rText_ok (b : Nat) (l : List UInt8) (x : List UInt8) (k : Nat) (w : World) (h : IsR b l 0 w) (hq : Wire.readText l = (x, k, 0)) (hl : l.length ≤ 1000000000) :
    Calls Try.prog 20 #[.pointer (some ⟨b, 0, none⟩)] w fun e w' => e = .returned (.string (str x)) ∧ IsR b (l.drop k) 0 w' ∧ Only b w w' := by
  have H := Lib.hid (nextText_ok b l x k w h hq hl)
  clear h hq
  go_enter Try.func20, Try.ntmps20
  go_wp2_with fail
  refine H.out.mono ?_
  rintro e w1 ⟨rfl, h1⟩
  have H1 := Lib.hid h1
  clear h1
  go_wp2
  go_ret
  exact ⟨rfl, H1.out⟩

theorem rFloat_ok (b : Nat) (l : List UInt8) (x : Nat) (k : Nat) (w : World) (h : IsR b l 0 w) (hq : Wire.readFix l = (x, k, 0)) (hl : l.length ≤ 1000000000) :
    Calls Try.prog 18 #[.pointer (some ⟨b, 0, none⟩)] w fun e w' => e = .returned (.float .f64 x) ∧ IsR b (l.drop k) 0 w' ∧ Only b w w' := by
  have H := Lib.hid (nextFix_ok b l x k w h hq hl)
  have Hf := Lib.hid floatOf_any
  clear h hq
  go_enter Try.func18, Try.ntmps18
  go_wp2_with (first | (go_at_call 34; refine H.out.mono ?_; rintro e w1 ⟨rfl, h1⟩; have H1 := Lib.hid h1; clear h1) | (go_at_call 27; refine (Hf.out _ _).mono ?_; rintro e w2 ⟨rfl, rfl⟩))
  go_ret
  exact ⟨rfl, H1.out⟩
theorem rInt_ok (b : Nat) (l : List UInt8) (x : Nat) (k : Nat) (w : World) (h : IsR b l 0 w) (hq : Wire.readNum l = (x, k, 0)) (hl : l.length ≤ 1000000000) :
    Calls Try.prog 15 #[.pointer (some ⟨b, 0, none⟩)] w fun e w' => e = .returned (.int .i64 (Wire.zag x)) ∧ IsR b (l.drop k) 0 w' ∧ Only b w w' := by
  have hlt : x < 18446744073709551616 := by have := (Wire.readNum_fits l).1; rw [hq] at this; exact this
  have H := Lib.hid (rNum_ok b l x k w h hq hl)
  have Hz := Lib.hid (zag_bits hlt)
  clear h hq
  go_enter Try.func15, Try.ntmps15
  go_wp2_with (go_at_call 13; refine H.out.mono ?_; rintro e w1 ⟨rfl, h1⟩; have H1 := Lib.hid h1; clear h1)
  go_ret
  rw [← Hz.out]
  exact ⟨rfl, H1.out⟩
end Go.Proofs.Ytkabpiganjjacaa
