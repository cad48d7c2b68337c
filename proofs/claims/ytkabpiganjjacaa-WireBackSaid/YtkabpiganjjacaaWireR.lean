/- The walks of a Reader's methods, at a reader that was made. -/
import Derived.Test.YtkabpiganjjacaaWireRd3
import Derived.Lib.IndexBytes
namespace Go.Proofs.Ytkabpiganjjacaa
open Go.ChangeShapes Go.WideShapes Go.ChangeAt Go.RowKit

namespace Wire
/-- what a reader hands back, what is left, what is noted: y: noted before; e: why nothing was found; k: how many bytes it has -/
def got (α : Type) (none : α) (y e : Nat) (x : α) : α := if y ≠ 0 then none else if e ≠ 0 then none else x
def left (y e k : Nat) (l : List UInt8) : List UInt8 := if y ≠ 0 then l else if e ≠ 0 then l else l.drop k
def note (y e : Nat) : Nat := if y ≠ 0 then y else e
end Wire
/-- a reader in block b -/
def IsR (b : Nat) (l : List UInt8) (y : Nat) (w : World) : Prop := w.heap[b]? = some (.cells #[.string (str l), .int .i64 y] 69 (0, 0))
theorem newReader_any (s : ByteArray) (w : World) :
    Calls Try.prog 12 #[.string s] w fun e w' => e = .returned (.pointer (some ⟨w.heap.size, 0, none⟩)) ∧ IsR w.heap.size s.data.toList 0 w' ∧ Below w.heap.size w w' := by
  have hst : str s.data.toList = s := by apply ByteArray.ext; apply Array.toList_inj.1; rw [str_data]
  unfold IsR
  rw [hst]
  clear hst
  go_enter Try.func12, Try.ntmps12
  go_wp2
  go_ret
  exact ⟨rfl, heap_alloc_new _ _, below_new _ _⟩
theorem extract_left (l : List UInt8) (k : Nat) : (str l).extract k (str l).size = str (l.drop k) := by
  apply ByteArray.ext; apply Array.toList_inj.1
  rw [str_data, Lib.extract_to_end, str_data]
theorem IsR.two {b : Nat} {l : List UInt8} {y : Nat} {w : World} (h : IsR b l y w) : w.cell? ⟨b, 0, none⟩ = some (.string (str l)) ∧ w.cell? ⟨b, 1, none⟩ = some (.int .i64 y) ∧ w.frozen? ⟨b, 0, none⟩ = false ∧ w.frozen? ⟨b, 1, none⟩ = false :=
  ⟨at_cell h 0 _ rfl, at_cell h 1 _ rfl, at_free h 0, at_free h 1⟩
theorem IsR.why {b : Nat} {l : List UInt8} {y : Nat} {w : World} (h : IsR b l y w) (e : Nat) : IsR b l e (w.setCell ⟨b, 1, none⟩ (.int .i64 e)) := by
  have := heap_setCell_same w b 1 _ _ (.int .i64 e) h
  simpa [IsR] using this
theorem IsR.rest {b : Nat} {l l' : List UInt8} {y : Nat} {w : World} (h : IsR b l y w) : IsR b l' y (w.setCell ⟨b, 0, none⟩ (.string (str l'))) := by
  have := heap_setCell_same w b 0 _ _ (.string (str l')) h
  simpa [IsR] using this


set_option maxHeartbeats 1000000 in
theorem nextNum_any (B b : Nat) (l : List UInt8) (y : Nat) (w : World) (h : IsR b l y w) (hB : B ≤ b) (hl : l.length ≤ 1000000000) :
    Calls Try.prog 34 #[.pointer (some ⟨b, 0, none⟩), .func (.func 35) #[] #[]] w fun e w' => e = .returned (.int .u64 ((Wire.got Nat 0 y (Wire.readNum l).2.2 (Wire.readNum l).1) : Nat)) ∧ IsR b (Wire.left y (Wire.readNum l).2.2 (Wire.readNum l).2.1 l) (Wire.note y (Wire.readNum l).2.2) w' ∧ Below B w w' := by
  have hrd := fun w => number_any (str l) w (by rw [str_size]; exact hl)
  simp only [str_data] at hrd
  have hfit : (Wire.readNum l).2.1 ≤ l.length := (Wire.readNum_fits l).2.1
  have hex := extract_left l (Wire.readNum l).2.1
  have hsl := str_size l
  generalize Wire.readNum l = q at *
  obtain ⟨x, k, e0⟩ := q
  simp only at *
  obtain ⟨c0, c1, f0, f1⟩ := h.two
  have Hrd := Lib.hid hrd
  have Hex := Lib.hid hex
  have H := Lib.hid h
  have hfit2 : k ≤ (str l).size := by omega
  have hsz2 : (str l).size ≤ 1000000000 := by omega
  clear hrd hex h hsl
  by_cases hy : y = 0
  · subst hy
    by_cases he : e0 = 0
    · subst he
      simp only [Wire.got, Wire.left, Wire.note, ne_eq, not_true_eq_false, ↓reduceIte]
      go_enter Try.func34, Try.ntmps34
      go_wp2_with (go_at_call 35; refine (Hrd.out _).mono ?_; rintro e w1 ⟨rfl, rfl⟩)
      go_ret
      rw [Hex.out]
      exact ⟨rfl, H.out.rest, (Below.refl B _).setCell hB _⟩
    · simp only [Wire.got, Wire.left, Wire.note, ne_eq, not_true_eq_false, he, not_false_eq_true, ↓reduceIte]
      go_enter Try.func34, Try.ntmps34
      go_wp2_with (go_at_call 35; refine (Hrd.out _).mono ?_; rintro e w1 ⟨rfl, rfl⟩)
      go_ret
      exact ⟨rfl, H.out.why _, (Below.refl B _).setCell hB _⟩
  · simp only [Wire.got, Wire.left, Wire.note, ne_eq, hy, not_false_eq_true, ↓reduceIte]
    go_enter Try.func34, Try.ntmps34
    go_wp2
    go_ret
    exact ⟨rfl, H.out, Below.refl _ _⟩


set_option maxHeartbeats 1000000 in
theorem nextFix_any (B b : Nat) (l : List UInt8) (y : Nat) (w : World) (h : IsR b l y w) (hB : B ≤ b) (hl : l.length ≤ 1000000000) :
    Calls Try.prog 34 #[.pointer (some ⟨b, 0, none⟩), .func (.func 37) #[] #[]] w fun e w' => e = .returned (.int .u64 ((Wire.got Nat 0 y (Wire.readFix l).2.2 (Wire.readFix l).1) : Nat)) ∧ IsR b (Wire.left y (Wire.readFix l).2.2 (Wire.readFix l).2.1 l) (Wire.note y (Wire.readFix l).2.2) w' ∧ Below B w w' := by
  have hrd := fun w => fixed_any (str l) w (by rw [str_size]; exact hl)
  simp only [str_data] at hrd
  have hfit : (Wire.readFix l).2.1 ≤ l.length := Wire.readFix_fits l
  have hex := extract_left l (Wire.readFix l).2.1
  have hsl := str_size l
  generalize Wire.readFix l = q at *
  obtain ⟨x, k, e0⟩ := q
  simp only at *
  obtain ⟨c0, c1, f0, f1⟩ := h.two
  have Hrd := Lib.hid hrd
  have Hex := Lib.hid hex
  have H := Lib.hid h
  have hfit2 : k ≤ (str l).size := by omega
  have hsz2 : (str l).size ≤ 1000000000 := by omega
  clear hrd hex h hsl
  by_cases hy : y = 0
  · subst hy
    by_cases he : e0 = 0
    · subst he
      simp only [Wire.got, Wire.left, Wire.note, ne_eq, not_true_eq_false, ↓reduceIte]
      go_enter Try.func34, Try.ntmps34
      go_wp2_with (go_at_call 37; refine (Hrd.out _).mono ?_; rintro e w1 ⟨rfl, rfl⟩)
      go_ret
      rw [Hex.out]
      exact ⟨rfl, H.out.rest, (Below.refl B _).setCell hB _⟩
    · simp only [Wire.got, Wire.left, Wire.note, ne_eq, not_true_eq_false, he, not_false_eq_true, ↓reduceIte]
      go_enter Try.func34, Try.ntmps34
      go_wp2_with (go_at_call 37; refine (Hrd.out _).mono ?_; rintro e w1 ⟨rfl, rfl⟩)
      go_ret
      exact ⟨rfl, H.out.why _, (Below.refl B _).setCell hB _⟩
  · simp only [Wire.got, Wire.left, Wire.note, ne_eq, hy, not_false_eq_true, ↓reduceIte]
    go_enter Try.func34, Try.ntmps34
    go_wp2
    go_ret
    exact ⟨rfl, H.out, Below.refl _ _⟩


set_option maxHeartbeats 1000000 in
theorem nextText_any (B b : Nat) (l : List UInt8) (y : Nat) (w : World) (h : IsR b l y w) (hB : B ≤ b) (hl : l.length ≤ 1000000000) :
    Calls Try.prog 38 #[.pointer (some ⟨b, 0, none⟩), .func (.func 39) #[] #[]] w fun e w' => e = .returned (.string (str (Wire.got (List UInt8) [] y (Wire.readText l).2.2 (Wire.readText l).1))) ∧ IsR b (Wire.left y (Wire.readText l).2.2 (Wire.readText l).2.1 l) (Wire.note y (Wire.readText l).2.2) w' ∧ Below B w w' := by
  have hrd := fun w => text_any (str l) w (by rw [str_size]; exact hl)
  simp only [str_data] at hrd
  have hfit : (Wire.readText l).2.1 ≤ l.length := Wire.readText_fits l
  have hex := extract_left l (Wire.readText l).2.1
  have hsl := str_size l
  generalize Wire.readText l = q at *
  obtain ⟨x, k, e0⟩ := q
  simp only at *
  obtain ⟨c0, c1, f0, f1⟩ := h.two
  have Hrd := Lib.hid hrd
  have Hex := Lib.hid hex
  have H := Lib.hid h
  have hfit2 : k ≤ (str l).size := by omega
  have hsz2 : (str l).size ≤ 1000000000 := by omega
  clear hrd hex h hsl
  by_cases hy : y = 0
  · subst hy
    by_cases he : e0 = 0
    · subst he
      simp only [Wire.got, Wire.left, Wire.note, ne_eq, not_true_eq_false, ↓reduceIte]
      go_enter Try.func38, Try.ntmps38
      go_wp2_with (go_at_call 39; refine (Hrd.out _).mono ?_; rintro e w1 ⟨rfl, hb1⟩; have H1 := Lib.hid (blockB hb1 (Nat.le_refl _) H.out); clear c0 c1 f0 f1; obtain ⟨c0, c1, f0, f1⟩ := IsR.two H1.out)
      go_ret
      rw [Hex.out]
      exact ⟨rfl, (Lib.hid (show IsR b l 0 w1 from H1.out)).out.rest, (hb1.mono (by have := block_lt H.out; omega)).setCell hB _⟩
    · simp only [Wire.got, Wire.left, Wire.note, ne_eq, not_true_eq_false, he, not_false_eq_true, ↓reduceIte]
      go_enter Try.func38, Try.ntmps38
      go_wp2_with (go_at_call 39; refine (Hrd.out _).mono ?_; rintro e w1 ⟨rfl, hb1⟩; have H1 := Lib.hid (blockB hb1 (Nat.le_refl _) H.out); clear c0 c1 f0 f1; obtain ⟨c0, c1, f0, f1⟩ := IsR.two H1.out)
      go_ret
      exact ⟨rfl, (Lib.hid (show IsR b l 0 w1 from H1.out)).out.why _, (hb1.mono (by have := block_lt H.out; omega)).setCell hB _⟩
  · simp only [Wire.got, Wire.left, Wire.note, ne_eq, hy, not_false_eq_true, ↓reduceIte]
    go_enter Try.func38, Try.ntmps38
    go_wp2
    go_ret
    exact ⟨rfl, H.out, Below.refl _ _⟩

end Go.Proofs.Ytkabpiganjjacaa
