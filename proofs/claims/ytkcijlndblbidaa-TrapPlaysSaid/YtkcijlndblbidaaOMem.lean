/- Objects in a full memory: Read, place, get, set and the fields, by plain functions of the words. -/
import Derived.Test.YtkcijlndblbidaaTRun
import Derived.Test.YtkcijlndblbidaaHdAll
namespace Go.Proofs.Ytkcijlndblbidaa
open Go.ChangeShapes Go.WideShapes Go.ChangeAt Go.RowKit
set_option linter.unusedVariables false

/-- a memory as a space -/
def spc (m : Nat) : Value := .iface 26 (.pointer (some ⟨m, 0, none⟩))
/-- the error of a header that is read -/
def rdE (n : Nat) (g : Nat → Nat) (a : Int) : Int := if a = 0 then 18 else if a < 0 then 5 else if (n : Int) ≤ a then 11 else if Hd.Is (g a.toNat) then 0 else 16
def rdP (n : Nat) (g : Nat → Nat) (a : Int) : Nat := if rdE n g a = 0 then Hd.tp (g a.toNat) else 0
def rdF (n : Nat) (g : Nat → Nat) (a : Int) : Nat := if rdE n g a = 0 then Hd.tf (g a.toNat) else 0
def rdO (n : Nat) (g : Nat → Nat) (a : Int) : Nat := if rdE n g a = 0 then Hd.to (g a.toNat) else 0
def rdV (n : Nat) (g : Nat → Nat) (a : Int) : Value := Hd.hv (rdP n g a) (rdF n g a) (rdO n g a)
def Small (n : Nat) (g : Nat → Nat) : Prop := ∀ b, b < n → g b < 18446744073709551616
theorem rdE_zero {n : Nat} {g : Nat → Nat} {a : Int} (h : rdE n g a = 0) : 0 < a ∧ a < n ∧ Hd.Is (g a.toNat) := by
  unfold rdE at h
  split at h
  · omega
  · split at h
    · omega
    · split at h
      · omega
      · split at h
        · rename_i h1 h2 h3 h4
          exact ⟨by omega, by omega, h4⟩
        · omega
theorem rdV_bad {n : Nat} {g : Nat → Nat} {a : Int} (h : rdE n g a ≠ 0) : rdV n g a = .agg #[.int .i64 0, .int .i64 0, .int .i64 0] := by
  unfold rdV rdP rdF rdO
  simp only [if_neg h]
  rfl
section
variable {W0 : World} {m n t : Nat} {g : Nat → Nat} {K : List (Nat × Obj)} {w : World}
theorem FK.old (h : FK W0 m n t g K w) : ∀ x ∈ K, x.1 < w.heap.size := fun x hx => block_lt (h.block (o := x.2) (X := x.1) hx)
theorem FK.set3 {X : Nat} {c0 c1 c2 v0 v1 v2 : Value} {ty : TypeId} (h : FK W0 m n t g ((X, .cells #[c0, c1, c2] ty (0, 0)) :: K) w) (hX : W0.heap.size ≤ X) (hK : ∀ x ∈ K, x.1 ≠ X) :
    FK W0 m n t g ((X, .cells #[v0, v1, v2] ty (0, 0)) :: K) (((w.setCell ⟨X, 0, none⟩ v0).setCell ⟨X, 1, none⟩ v1).setCell ⟨X, 2, none⟩ v2) :=
  ((h.set hX hK 0 v0).set hX hK 1 v1).set hX hK 2 v2
set_option maxRecDepth 100000 in
theorem read_early (h : FK W0 m n t g K w) (a : Int) (ha : a ≤ 0) :
    Calls Try.prog 78 #[spc m, .int .i64 a] w fun e w' => e = .returned (.tuple #[.agg #[.int .i64 0, .int .i64 0, .int .i64 0], .int .i64 (if a = 0 then 18 else 5)]) ∧ FK W0 m n t g K w' := by
  have H1 := Lib.hid (h.box #[.int .i64 0, .int .i64 0, .int .i64 0] 106)
  clear h
  rcases Int.lt_or_eq_of_le ha with hlt | rfl
  · have e0 : ¬ a = 0 := by omega
    rw [if_neg e0]
    unfold spc
    go_enter Try.func78, Try.ntmps78
    go_wp2
    exact bodyPost_ret (v := .tuple #[.agg #[.int .i64 0, .int .i64 0, .int .i64 0], .int .i64 5]) (by simp [results, Try.results78, go_sem]) rfl ⟨rfl, H1.out.tail⟩
  · rw [if_pos rfl]
    unfold spc
    go_enter Try.func78, Try.ntmps78
    go_wp2
    exact bodyPost_ret (v := .tuple #[.agg #[.int .i64 0, .int .i64 0, .int .i64 0], .int .i64 18]) (by simp [results, Try.results78, go_sem]) rfl ⟨rfl, H1.out.tail⟩
set_option maxRecDepth 100000 in
theorem read_out (h : FK W0 m n t g K w) (a : Int) (ha : 0 < a) (hn : (n : Int) ≤ a) :
    Calls Try.prog 78 #[spc m, .int .i64 a] w fun e w' => e = .returned (.tuple #[.agg #[.int .i64 0, .int .i64 0, .int .i64 0], .int .i64 11]) ∧ FK W0 m n t g K w' := by
  have hW0 := h.below.size
  have Hold := Lib.hid h.old
  have hB := h.box #[.int .i64 0, .int .i64 0, .int .i64 0] 106
  have HL := load_fk hB a
  rw [show inG n a = false by simp [inG]; omega] at HL
  simp only [Bool.false_eq_true, if_false] at HL
  replace HL := Lib.hid HL
  have hl := load_at ⟨m, 0, none⟩
  have e1 : ¬ a = 0 := by omega
  have e2 : ¬ a < 0 := by omega
  clear hB h
  unfold spc
  go_enter Try.func78, Try.ntmps78
  go_wp2_with (go_at_call 24; refine HL.out.mono ?_; rintro e w1 ⟨rfl, h1⟩; have q := h1.block (List.mem_cons_self ..); have f0 := at_free q 0; have f1 := at_free q 1; have f2 := at_free q 2; have d0 := at_cell q 0 _ rfl; have d1 := at_cell q 1 _ rfl; have d2 := at_cell q 2 _ rfl; have H1 := Lib.hid (h1.set3 (v0 := .int .i64 0) (v1 := .int .i64 0) (v2 := .int .i64 0) hW0 (fun x hx => by have := Hold.out x hx; omega)); clear q h1)
  obtain ⟨w2, hw2⟩ : ∃ w2, ((w1.setCell ⟨w.heap.size, 0, none⟩ (.int .i64 0)).setCell ⟨w.heap.size, 1, none⟩ (.int .i64 0)).setCell ⟨w.heap.size, 2, none⟩ (.int .i64 0) = w2 := ⟨_, rfl⟩
  have h2 := H1.out
  rw [hw2] at h2 ⊢
  have hb2 := h2.block (List.mem_cons_self ..)
  have q0 : w2.cell? ⟨w.heap.size, 0, none⟩ = some (.int .i64 0) := at_cell hb2 0 _ rfl
  have q1 : w2.cell? ⟨w.heap.size, 1, none⟩ = some (.int .i64 0) := at_cell hb2 1 _ rfl
  have q2 : w2.cell? ⟨w.heap.size, 2, none⟩ = some (.int .i64 0) := at_cell hb2 2 _ rfl
  exact bodyPost_ret (v := .tuple #[.agg #[.int .i64 0, .int .i64 0, .int .i64 0], .int .i64 11]) (by simp [results, Try.results78, go_sem, q0, q1, q2]) rfl ⟨rfl, h2.tail⟩
set_option maxRecDepth 100000 in
theorem read_in (h : FK W0 m n t g K w) (a : Int) (ha : 0 < a) (hn : a < n) (hg : g a.toNat < 18446744073709551616) {p f o er : Int} (hp : (if Hd.Is (g a.toNat) then Hd.hv (Hd.tp (g a.toNat)) (Hd.tf (g a.toNat)) (Hd.to (g a.toNat)) else Hd.hv 0 0 0) = .agg #[.int .i64 p, .int .i64 f, .int .i64 o]) (her : (if Hd.Is (g a.toNat) then (0 : Int) else 16) = er) :
    Calls Try.prog 78 #[spc m, .int .i64 a] w fun e w' => e = .returned (.tuple #[.agg #[.int .i64 p, .int .i64 f, .int .i64 o], .int .i64 er]) ∧ FK W0 m n t g K w' := by
  have hW0 := h.below.size
  have Hold := Lib.hid h.old
  have hB := h.box #[.int .i64 0, .int .i64 0, .int .i64 0] 106
  have HL := load_fk hB a
  rw [show inG n a = true by simp [inG]; omega] at HL
  simp only [if_true] at HL
  have HT := Lib.hid (fun W => by have := Hd.take_any (g a.toNat) W hg; rw [hp, her] at this; exact this)
  replace HL := Lib.hid HL
  have hl := load_at ⟨m, 0, none⟩
  have e1 : ¬ a = 0 := by omega
  have e2 : ¬ a < 0 := by omega
  clear hB h hp her
  generalize g a.toNat = x at *
  unfold spc
  go_enter Try.func78, Try.ntmps78
  go_wp2_with (first | (go_at_call 24; refine HL.out.mono ?_; rintro e w1 ⟨rfl, h1⟩; have H0 := Lib.hid h1; clear h1) | (go_at_call 131; refine (HT.out _).mono ?_; rintro e w2 ⟨rfl, hb⟩; have h1 := H0.out.grow hb; have q := h1.block (List.mem_cons_self ..); have f0 := at_free q 0; have f1 := at_free q 1; have f2 := at_free q 2; have d0 := at_cell q 0 _ rfl; have d1 := at_cell q 1 _ rfl; have d2 := at_cell q 2 _ rfl; have H1 := Lib.hid (h1.set3 (v0 := .int .i64 p) (v1 := .int .i64 f) (v2 := .int .i64 o) hW0 (fun x hx => by have := Hold.out x hx; omega)); clear q h1 hb))
  obtain ⟨w3, hw3⟩ : ∃ w3, ((w2.setCell ⟨w.heap.size, 0, none⟩ (.int .i64 p)).setCell ⟨w.heap.size, 1, none⟩ (.int .i64 f)).setCell ⟨w.heap.size, 2, none⟩ (.int .i64 o) = w3 := ⟨_, rfl⟩
  have h2 := H1.out
  rw [hw3] at h2 ⊢
  have hb2 := h2.block (List.mem_cons_self ..)
  have q0 : w3.cell? ⟨w.heap.size, 0, none⟩ = some (.int .i64 p) := at_cell hb2 0 _ rfl
  have q1 : w3.cell? ⟨w.heap.size, 1, none⟩ = some (.int .i64 f) := at_cell hb2 1 _ rfl
  have q2 : w3.cell? ⟨w.heap.size, 2, none⟩ = some (.int .i64 o) := at_cell hb2 2 _ rfl
  exact bodyPost_ret (v := .tuple #[.agg #[.int .i64 p, .int .i64 f, .int .i64 o], .int .i64 er]) (by simp [results, Try.results78, go_sem, q0, q1, q2]) rfl ⟨rfl, h2.tail⟩
theorem read_fk (h : FK W0 m n t g K w) (hg : Small n g) (a : Int) :
    Calls Try.prog 78 #[spc m, .int .i64 a] w fun e w' => e = .returned (.tuple #[rdV n g a, .int .i64 (rdE n g a)]) ∧ FK W0 m n t g K w' := by
  by_cases h0 : a ≤ 0
  · have e : rdE n g a = if a = 0 then 18 else 5 := by
      unfold rdE
      split
      · rfl
      · rw [if_pos (by omega)]
    rw [rdV_bad (by rw [e]; split <;> omega), e]
    exact read_early h a h0
  · by_cases h1 : (n : Int) ≤ a
    · have e : rdE n g a = 11 := by
        unfold rdE
        rw [if_neg (by omega), if_neg (by omega), if_pos h1]
      rw [rdV_bad (by rw [e]; omega), e]
      exact read_out h a (by omega) h1
    · have e : rdE n g a = if Hd.Is (g a.toNat) then 0 else 16 := by
        unfold rdE
        rw [if_neg (by omega), if_neg (by omega), if_neg h1]
      refine read_in h a (by omega) (by omega) (hg _ (by omega)) ?_ e.symm
      by_cases hi : Hd.Is (g a.toNat)
      · rw [if_pos hi] at e ⊢
        unfold rdP rdF rdO
        rw [e]
        rfl
      · rw [if_neg hi] at e ⊢
        unfold rdP rdF rdO
        rw [e]
        rfl
end
end Go.Proofs.Ytkcijlndblbidaa
