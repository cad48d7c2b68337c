/- The reference's reader: plain, and the walks of num and ints. -/
import Derived.Test.YtplkogjnmjjjgaaCMany
namespace Go.Proofs.Ytplkogjnmjjjgaa
open Go.ChangeShapes Go.WideShapes Go.ChangeAt Go.RowKit
set_option linter.unusedVariables false
set_option linter.unusedSimpArgs false
open Wr.Wire (readNum readFix zag)

theorem numP_ok {s : Rs} (h : s.2 = 0) (e : (readNum s.1).2.2 = 0) : numP s = ((readNum s.1).1, (s.1.drop (readNum s.1).2.1, 0)) := by
  unfold numP Wr.Wire.got Wr.Wire.left Wr.Wire.note
  simp [h, e]
theorem numP_err {s : Rs} (h : s.2 = 0) (e : (readNum s.1).2.2 ≠ 0) : numP s = (0, (s.1, (readNum s.1).2.2)) := by
  unfold numP Wr.Wire.got Wr.Wire.left Wr.Wire.note
  simp [h, e]
theorem numP_bad {s : Rs} (h : s.2 ≠ 0) : numP s = (0, s) := by
  unfold numP Wr.Wire.got Wr.Wire.left Wr.Wire.note
  simp [h]
theorem fixP_ok {s : Rs} (h : s.2 = 0) (e : (readFix s.1).2.2 = 0) : fixP s = ((readFix s.1).1, (s.1.drop (readFix s.1).2.1, 0)) := by
  unfold fixP Wr.Wire.got Wr.Wire.left Wr.Wire.note
  simp [h, e]
theorem fixP_err {s : Rs} (h : s.2 = 0) (e : (readFix s.1).2.2 ≠ 0) : fixP s = (0, (s.1, (readFix s.1).2.2)) := by
  unfold fixP Wr.Wire.got Wr.Wire.left Wr.Wire.note
  simp [h, e]
/-- so many, up to where something is missing -/
def manyR {α : Type} (one : Rs → α × Rs) : Nat → Rs → List α × Rs
  | 0, s => ([], s)
  | n + 1, s => if s.2 = 0 then (if (one s).2.2 = 0 then ((one s).1 :: (manyR one n (one s).2).1, (manyR one n (one s).2).2) else ([], (one s).2)) else ([], s)
def rowR {α : Type} (one : Rs → α × Rs) (s : Rs) : List α × Rs := manyR one (numP s).1 (numP s).2
section
variable {α : Type} {one : Rs → α × Rs}
theorem manyR_zero (s : Rs) : manyR one 0 s = ([], s) := rfl
theorem manyR_bad {n : Nat} {s : Rs} (h : s.2 ≠ 0) : manyR one n s = ([], s) := by
  cases n with
  | zero => rfl
  | succ n => rw [manyR, if_neg h]
theorem manyR_more {n : Nat} {s : Rs} (h : s.2 = 0) (e : (one s).2.2 = 0) : manyR one (n + 1) s = ((one s).1 :: (manyR one n (one s).2).1, (manyR one n (one s).2).2) := by rw [manyR, if_pos h, if_pos e]
theorem manyR_end {n : Nat} {s : Rs} (h : s.2 = 0) (e : (one s).2.2 ≠ 0) : manyR one (n + 1) s = ([], (one s).2) := by rw [manyR, if_pos h, if_neg e]
theorem manyR_P : ∀ (n : Nat) (s : Rs), (manyR one n s).2 = (manyP one n s).2 ∧ ((manyP one n s).2.2 = 0 → (manyR one n s).1 = (manyP one n s).1)
  | 0, s => ⟨rfl, fun _ => rfl⟩
  | n + 1, s => by
    by_cases h : s.2 = 0
    · rw [manyP_more h]
      by_cases e : (one s).2.2 = 0
      · rw [manyR_more h e]
        obtain ⟨h1, h2⟩ := manyR_P n (one s).2
        exact ⟨h1, fun h0 => by rw [h2 h0]⟩
      · rw [manyR_end h e, manyP_bad e]
        exact ⟨rfl, fun h0 => absurd h0 e⟩
    · rw [manyR_bad h, manyP_bad h]
      exact ⟨rfl, fun _ => rfl⟩
theorem manyR_len (h : Eats one) : ∀ (n : Nat) (s : Rs), (manyR one n s).1.length ≤ s.1.length
  | 0, s => by simp [manyR_zero]
  | n + 1, s => by
    by_cases h0 : s.2 = 0
    · by_cases e : (one s).2.2 = 0
      · rw [manyR_more h0 e]
        have h1 := (h s).2.1 h0 e
        have h2 := manyR_len h n (one s).2
        simp only [List.length_cons]
        omega
      · rw [manyR_end h0 e]
        exact Nat.zero_le _
    · rw [manyR_bad h0]
      exact Nat.zero_le _
end
theorem rowR_P {α : Type} (one : Rs → α × Rs) (s : Rs) : (rowR one s).2 = (rowP one s).2 ∧ ((rowP one s).2.2 = 0 → (rowR one s).1 = (rowP one s).1) := manyR_P _ _
/-- the reference's reader as a block -/
def rrO (s : Rs) : Obj := .cells #[.string (str s.1), .bool (decide (s.2 ≠ 0))] 109 (0, 0)
theorem rr_cells {W0 w : World} {K : List (Nat × Obj)} {rb : Nat} {s : Rs} (h : FKN W0 ((rb, rrO s) :: K) w) (b : Bool) (hb : decide (s.2 ≠ 0) = b) : (w.cell? ⟨rb, 0, none⟩ = some (.string (str s.1)) ∧ w.cell? ⟨rb, 1, none⟩ = some (.bool b)) ∧ w.frozen? ⟨rb, 0, none⟩ = false ∧ w.frozen? ⟨rb, 1, none⟩ = false := by
  have hq := h.1.block (List.mem_cons_self ..)
  subst hb
  exact ⟨⟨at_cell hq 0 _ rfl, at_cell hq 1 _ rfl⟩, at_free hq 0, at_free hq 1⟩
theorem noted {s : Rs} (h : s.2 = 0) : decide (s.2 ≠ 0) = false := by simp [h]
theorem noted' {s : Rs} (h : s.2 ≠ 0) : decide (s.2 ≠ 0) = true := by simp [h]
set_option maxHeartbeats 1000000 in
set_option maxRecDepth 100000 in
theorem rnum_fk {W0 w : World} {K : List (Nat × Obj)} {rb : Nat} {s : Rs} (h : FKN W0 ((rb, rrO s) :: K) w) (hl : s.1.length ≤ 1000000000) :
    Calls Try.prog 71 #[.pointer (some ⟨rb, 0, none⟩)] w fun e w' => e = .returned (.int .u64 ((numP s).1 : Nat)) ∧ FKN W0 ((rb, rrO (numP s).2) :: K) w' := by
  have HR := Lib.hid (fun W => Wr.readNum_any (str s.1) W (by rw [str_size]; exact hl))
  simp only [str_data] at HR
  have hfit : (readNum s.1).2.1 ≤ (str s.1).size := by rw [str_size]; exact (Wr.Wire.readNum_fits s.1).2.1
  have hsz : (str s.1).size ≤ 1000000000 := by rw [str_size]; exact hl
  by_cases hy : s.2 = 0
  · by_cases he : (readNum s.1).2.2 = 0
    · have hset : FKN W0 ((rb, rrO (numP s).2) :: K) (w.setCell ⟨rb, 0, none⟩ (.string (str (s.1.drop (readNum s.1).2.1)))) := by
        have h1 := h.set 0 (.string (str (s.1.drop (readNum s.1).2.1)))
        rw [numP_ok hy he]
        unfold rrO
        simpa [hy] using h1
      have HS := Lib.hid hset
      have Hex := Lib.hid (Wr.extract_left s.1 (readNum s.1).2.1)
      rw [numP_ok hy he] at HS ⊢
      rw [he] at HR
      obtain ⟨⟨c0, c1⟩, f0, f1⟩ := rr_cells h _ (noted hy)
      clear hset h hl hy he
      generalize readNum s.1 = q at *
      obtain ⟨x, k, e⟩ := q
      simp only at *
      go_enter Try.func71, Try.ntmps71
      go_wp2_with (go_at_call 89; refine (HR.out _).mono ?_; rintro e w1 ⟨rfl, rfl⟩)
      go_ret
      rw [Hex.out]
      exact ⟨rfl, HS.out⟩
    · have hset : FKN W0 ((rb, rrO (numP s).2) :: K) (w.setCell ⟨rb, 1, none⟩ (.bool true)) := by
        have h1 := h.set 1 (.bool true)
        rw [numP_err hy he]
        unfold rrO
        simpa [he] using h1
      have HS := Lib.hid hset
      rw [numP_err hy he] at HS ⊢
      have hne : (((readNum s.1).2.2 : Nat) : Int) ≠ 0 := by omega
      have hne2 : ((((readNum s.1).2.2 : Nat) : Int) != 0) = true := by simp; exact he
      obtain ⟨⟨c0, c1⟩, f0, f1⟩ := rr_cells h _ (noted hy)
      clear hset h hl hy he hfit
      generalize readNum s.1 = q at *
      obtain ⟨x, k, e⟩ := q
      simp only at *
      go_enter Try.func71, Try.ntmps71
      go_wp2_with (go_at_call 89; refine (HR.out _).mono ?_; rintro e w1 ⟨rfl, rfl⟩)
      go_ret
      exact ⟨rfl, HS.out⟩
  · have hset : FKN W0 ((rb, rrO (numP s).2) :: K) (w.setCell ⟨rb, 1, none⟩ (.bool true)) := by
      have h1 := h.set 1 (.bool true)
      rw [numP_bad hy]
      unfold rrO
      simpa [hy] using h1
    have HS := Lib.hid hset
    rw [numP_bad hy] at HS ⊢
    obtain ⟨⟨c0, c1⟩, f0, f1⟩ := rr_cells h _ (noted' hy)
    clear hset h hl hy hfit
    generalize readNum s.1 = q at *
    obtain ⟨x, k, e⟩ := q
    simp only at *
    go_enter Try.func71, Try.ntmps71
    go_wp2_with (go_at_call 89; refine (HR.out _).mono ?_; rintro e w1 ⟨rfl, rfl⟩)
    go_ret
    exact ⟨rfl, HS.out⟩
end Go.Proofs.Ytplkogjnmjjjgaa
