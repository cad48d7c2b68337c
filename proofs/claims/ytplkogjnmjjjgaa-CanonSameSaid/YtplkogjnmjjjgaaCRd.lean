/- A Reader's methods at a reader that was made: only its block may have changed; then over blocks that stay. Turned from wire's texts. -/
import Derived.Test.YtplkogjnmjjjgaaCMath
namespace Go.Proofs.Ytplkogjnmjjjgaa
open Go.ChangeShapes Go.WideShapes Go.ChangeAt Go.RowKit
set_option linter.unusedVariables false
set_option linter.unusedSimpArgs false

set_option maxHeartbeats 1000000 in
theorem nextNum_chg (b : Nat) (l : List UInt8) (y : Nat) (w : World) (h : Wr.IsR b l y w) (hl : l.length ≤ 1000000000) :
    Calls Try.prog 85 #[.pointer (some ⟨b, 0, none⟩), .func (.func 87) #[] #[]] w fun e w' => e = .returned (.int .u64 ((Wr.Wire.got Nat 0 y (Wr.Wire.readNum l).2.2 (Wr.Wire.readNum l).1) : Nat)) ∧ Wr.IsR b (Wr.Wire.left y (Wr.Wire.readNum l).2.2 (Wr.Wire.readNum l).2.1 l) (Wr.Wire.note y (Wr.Wire.readNum l).2.2) w' ∧ Chg (fun q => q = b) w w' := by
  have hrd := fun w => Wr.number_any (str l) w (by rw [str_size]; exact hl)
  simp only [str_data] at hrd
  have hfit : (Wr.Wire.readNum l).2.1 ≤ l.length := (Wr.Wire.readNum_fits l).2.1
  have hex := Wr.extract_left l (Wr.Wire.readNum l).2.1
  have hsl := str_size l
  generalize Wr.Wire.readNum l = q at *
  obtain ⟨x, k, e0⟩ := q
  simp only at *
  obtain ⟨c0, c1, f0, f1⟩ := h.two
  have Hrd := Lib.hid hrd
  have Hex := Lib.hid hex
  have H := Lib.hid h
  have hfit2 : k ≤ (str l).size := by omega
  have hsz2 : (str l).size ≤ 1000000000 := by omega
  clear hrd hex h hsl
  by_cases hy : y = 0
  · subst hy
    by_cases he : e0 = 0
    · subst he
      simp only [Wr.Wire.got, Wr.Wire.left, Wr.Wire.note, ne_eq, not_true_eq_false, ↓reduceIte]
      go_enter Try.func85, Try.ntmps85
      go_wp2_with (go_at_call 87; refine (Hrd.out _).mono ?_; rintro e w1 ⟨rfl, rfl⟩)
      go_ret
      rw [Hex.out]
      exact ⟨rfl, H.out.rest, (Chg.refl (fun q => q = b) _).set (.inl rfl) _⟩
    · simp only [Wr.Wire.got, Wr.Wire.left, Wr.Wire.note, ne_eq, not_true_eq_false, he, not_false_eq_true, ↓reduceIte]
      go_enter Try.func85, Try.ntmps85
      go_wp2_with (go_at_call 87; refine (Hrd.out _).mono ?_; rintro e w1 ⟨rfl, rfl⟩)
      go_ret
      exact ⟨rfl, H.out.why _, (Chg.refl (fun q => q = b) _).set (.inl rfl) _⟩
  · simp only [Wr.Wire.got, Wr.Wire.left, Wr.Wire.note, ne_eq, hy, not_false_eq_true, ↓reduceIte]
    go_enter Try.func85, Try.ntmps85
    go_wp2
    go_ret
    exact ⟨rfl, H.out, Chg.refl _ _⟩
set_option maxHeartbeats 1000000 in
theorem nextFix_chg (b : Nat) (l : List UInt8) (y : Nat) (w : World) (h : Wr.IsR b l y w) (hl : l.length ≤ 1000000000) :
    Calls Try.prog 85 #[.pointer (some ⟨b, 0, none⟩), .func (.func 86) #[] #[]] w fun e w' => e = .returned (.int .u64 ((Wr.Wire.got Nat 0 y (Wr.Wire.readFix l).2.2 (Wr.Wire.readFix l).1) : Nat)) ∧ Wr.IsR b (Wr.Wire.left y (Wr.Wire.readFix l).2.2 (Wr.Wire.readFix l).2.1 l) (Wr.Wire.note y (Wr.Wire.readFix l).2.2) w' ∧ Chg (fun q => q = b) w w' := by
  have hrd := fun w => Wr.fixed_any (str l) w (by rw [str_size]; exact hl)
  simp only [str_data] at hrd
  have hfit : (Wr.Wire.readFix l).2.1 ≤ l.length := Wr.Wire.readFix_fits l
  have hex := Wr.extract_left l (Wr.Wire.readFix l).2.1
  have hsl := str_size l
  generalize Wr.Wire.readFix l = q at *
  obtain ⟨x, k, e0⟩ := q
  simp only at *
  obtain ⟨c0, c1, f0, f1⟩ := h.two
  have Hrd := Lib.hid hrd
  have Hex := Lib.hid hex
  have H := Lib.hid h
  have hfit2 : k ≤ (str l).size := by omega
  have hsz2 : (str l).size ≤ 1000000000 := by omega
  clear hrd hex h hsl
  by_cases hy : y = 0
  · subst hy
    by_cases he : e0 = 0
    · subst he
      simp only [Wr.Wire.got, Wr.Wire.left, Wr.Wire.note, ne_eq, not_true_eq_false, ↓reduceIte]
      go_enter Try.func85, Try.ntmps85
      go_wp2_with (go_at_call 86; refine (Hrd.out _).mono ?_; rintro e w1 ⟨rfl, rfl⟩)
      go_ret
      rw [Hex.out]
      exact ⟨rfl, H.out.rest, (Chg.refl (fun q => q = b) _).set (.inl rfl) _⟩
    · simp only [Wr.Wire.got, Wr.Wire.left, Wr.Wire.note, ne_eq, not_true_eq_false, he, not_false_eq_true, ↓reduceIte]
      go_enter Try.func85, Try.ntmps85
      go_wp2_with (go_at_call 86; refine (Hrd.out _).mono ?_; rintro e w1 ⟨rfl, rfl⟩)
      go_ret
      exact ⟨rfl, H.out.why _, (Chg.refl (fun q => q = b) _).set (.inl rfl) _⟩
  · simp only [Wr.Wire.got, Wr.Wire.left, Wr.Wire.note, ne_eq, hy, not_false_eq_true, ↓reduceIte]
    go_enter Try.func85, Try.ntmps85
    go_wp2
    go_ret
    exact ⟨rfl, H.out, Chg.refl _ _⟩
theorem rNum_chg (b : Nat) (l : List UInt8) (y : Nat) (w : World) (h : Wr.IsR b l y w) (hl : l.length ≤ 1000000000) :
    Calls Try.prog 67 #[.pointer (some ⟨b, 0, none⟩)] w fun e w' => e = .returned (.int .u64 ((Wr.Wire.got Nat 0 y (Wr.Wire.readNum l).2.2 (Wr.Wire.readNum l).1) : Nat)) ∧ Wr.IsR b (Wr.Wire.left y (Wr.Wire.readNum l).2.2 (Wr.Wire.readNum l).2.1 l) (Wr.Wire.note y (Wr.Wire.readNum l).2.2) w' ∧ Chg (fun q => q = b) w w' := by
  have H := Lib.hid (nextNum_chg b l y w h hl)
  clear h
  go_enter Try.func67, Try.ntmps67
  go_wp2_with fail
  refine H.out.mono ?_
  rintro e w1 ⟨rfl, h1⟩
  have H1 := Lib.hid h1
  clear h1
  go_wp2
  go_ret
  exact ⟨rfl, H1.out⟩
theorem rFloat_chg (b : Nat) (l : List UInt8) (y : Nat) (w : World) (h : Wr.IsR b l y w) (hl : l.length ≤ 1000000000) :
    Calls Try.prog 62 #[.pointer (some ⟨b, 0, none⟩)] w fun e w' => e = .returned (.float .f64 (Wr.Wire.got Nat 0 y (Wr.Wire.readFix l).2.2 (Wr.Wire.readFix l).1)) ∧ Wr.IsR b (Wr.Wire.left y (Wr.Wire.readFix l).2.2 (Wr.Wire.readFix l).2.1 l) (Wr.Wire.note y (Wr.Wire.readFix l).2.2) w' ∧ Chg (fun q => q = b) w w' := by
  have H := Lib.hid (nextFix_chg b l y w h hl)
  have Hf := Lib.hid Wr.floatOf_any
  clear h
  go_enter Try.func62, Try.ntmps62
  go_wp2_with (first | (go_at_call 85; refine H.out.mono ?_; rintro e w1 ⟨rfl, h1⟩; have H1 := Lib.hid h1; clear h1) | (go_at_call 84; refine (Hf.out _ _).mono ?_; rintro e w2 ⟨rfl, rfl⟩))
  go_ret
  exact ⟨rfl, H1.out⟩
theorem rInt_chg (b : Nat) (l : List UInt8) (y : Nat) (w : World) (h : Wr.IsR b l y w) (hl : l.length ≤ 1000000000) :
    Calls Try.prog 65 #[.pointer (some ⟨b, 0, none⟩)] w fun e w' => e = .returned (.int .i64 (Wr.Wire.zag (Wr.Wire.got Nat 0 y (Wr.Wire.readNum l).2.2 (Wr.Wire.readNum l).1))) ∧ Wr.IsR b (Wr.Wire.left y (Wr.Wire.readNum l).2.2 (Wr.Wire.readNum l).2.1 l) (Wr.Wire.note y (Wr.Wire.readNum l).2.2) w' ∧ Chg (fun q => q = b) w w' := by
  have h0 := rNum_chg b l y w h hl
  have hlt := Wr.got_lt (y := y) (e := (Wr.Wire.readNum l).2.2) (Wr.Wire.readNum_fits l).1
  generalize Wr.Wire.got Nat 0 y (Wr.Wire.readNum l).2.2 (Wr.Wire.readNum l).1 = n at *
  have H := Lib.hid h0
  have Hz := Lib.hid (Wr.zag_bits hlt)
  clear h h0
  go_enter Try.func65, Try.ntmps65
  go_wp2_with (go_at_call 67; refine H.out.mono ?_; rintro e w1 ⟨rfl, h1⟩; have H1 := Lib.hid h1; clear h1)
  go_ret
  rw [← Hz.out]
  exact ⟨rfl, H1.out⟩
/-- a reader as a block -/
def rdO (s : Rs) : Obj := .cells #[.string (str s.1), .int .i64 (s.2 : Nat)] 121 (0, 0)
section
variable {W0 w : World} {K : List (Nat × Obj)} {rb : Nat} {s : Rs}
theorem FKN.swap {w' : World} {o o' : Obj} (h : FKN W0 ((rb, o) :: K) w) (c : Chg (fun q => q = rb) w w') (ho : w'.heap[rb]? = some o') : FKN W0 ((rb, o') :: K) w' :=
  ⟨h.1.swap (h.2.2 _ (List.mem_cons_self ..)) h.apart c (.inl rfl) ho, h.2.1, fun x hx => by
    simp only [List.mem_cons] at hx
    rcases hx with rfl | hx
    · exact h.2.2 (rb, o) (List.mem_cons_self ..)
    · exact h.2.2 x (List.mem_cons_of_mem _ hx)⟩
theorem num_fk (h : FKN W0 ((rb, rdO s) :: K) w) (hl : s.1.length ≤ 1000000000) :
    Calls Try.prog 67 #[.pointer (some ⟨rb, 0, none⟩)] w fun e w' => e = .returned (.int .u64 ((numP s).1 : Nat)) ∧ FKN W0 ((rb, rdO (numP s).2) :: K) w' :=
  (rNum_chg rb s.1 s.2 w (h.1.block (List.mem_cons_self ..)) hl).mono fun e w' ⟨h1, h2, h3⟩ => ⟨h1, h.swap h3 h2⟩
theorem int_fk (h : FKN W0 ((rb, rdO s) :: K) w) (hl : s.1.length ≤ 1000000000) :
    Calls Try.prog 65 #[.pointer (some ⟨rb, 0, none⟩)] w fun e w' => e = .returned (.int .i64 (intP s).1) ∧ FKN W0 ((rb, rdO (intP s).2) :: K) w' :=
  (rInt_chg rb s.1 s.2 w (h.1.block (List.mem_cons_self ..)) hl).mono fun e w' ⟨h1, h2, h3⟩ => ⟨h1, h.swap h3 h2⟩
theorem float_fk (h : FKN W0 ((rb, rdO s) :: K) w) (hl : s.1.length ≤ 1000000000) :
    Calls Try.prog 62 #[.pointer (some ⟨rb, 0, none⟩)] w fun e w' => e = .returned (.float .f64 (fixP s).1) ∧ FKN W0 ((rb, rdO (fixP s).2) :: K) w' :=
  (rFloat_chg rb s.1 s.2 w (h.1.block (List.mem_cons_self ..)) hl).mono fun e w' ⟨h1, h2, h3⟩ => ⟨h1, h.swap h3 h2⟩
theorem err_fk (h : FKN W0 ((rb, rdO s) :: K) w) :
    Calls Try.prog 69 #[.pointer (some ⟨rb, 0, none⟩)] w fun e w' => e = .returned (.int .i64 (s.2 : Nat)) ∧ w = w' :=
  Wr.rErr_any rb s.1 s.2 w (h.1.block (List.mem_cons_self ..))
end
end Go.Proofs.Ytplkogjnmjjjgaa
