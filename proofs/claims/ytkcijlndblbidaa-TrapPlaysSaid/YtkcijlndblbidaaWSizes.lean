/- Layer 18: the example, and the walk of WalkSizes. -/
import Derived.Test.YtkcijlndblbidaaWLay
namespace Go.Proofs.Ytkcijlndblbidaa
open Go.ChangeShapes Go.WideShapes Go.ChangeAt Go.RowKit
set_option linter.unusedVariables false

/-- objects one behind the other -/
def chain : Int → List Fnd → Int → Prop
  | a, [], b => a = b
  | a, x :: l, b => x.a = a ∧ Hd.Ok x.p x.f x.o ∧ a + (x.p + x.f + x.o + 1 : Nat) ≤ b ∧ chain (a + (x.p + x.f + x.o + 1 : Nat)) l b
theorem chain_le {a b : Int} {l : List Fnd} (h : chain a l b) : a ≤ b := by
  induction l generalizing a with
  | nil => exact Int.le_of_eq h
  | cons x l ih =>
    have := ih h.2.2.2
    omega
theorem allF_chain (n : Nat) (g : Nat → Nat) (top : Int) (a : Int) : (allF n g top a).2 = 0 → a ≤ top → chain a (allF n g top a).1 top := by
  induction a using allF.induct (n := n) (g := g) (top := top) with
  | case1 a hlt h hs =>
    intro h0 hle
    rw [allF, if_pos hlt, dif_pos h, if_pos hs] at h0
    exact absurd h0 (by decide)
  | case2 a hlt h hs ih =>
    intro h0 hle
    rw [allF, if_pos hlt, dif_pos h, if_neg hs] at h0 ⊢
    have hr : (allF n g top (a + rdS n g a + 1)).2 = 0 := by
      unfold cat at h0
      split at h0
      · assumption
      · assumption
    unfold cat
    rw [if_pos hr]
    have := ih hr (by omega)
    have hok := rd_ok h
    have he : a + ((rdP n g a + rdF n g a + rdO n g a + 1 : Nat) : Int) = a + (rdS n g a : Nat) + 1 := by unfold rdS; omega
    refine ⟨rfl, hok, ?_, ?_⟩
    · show a + ((rdP n g a + rdF n g a + rdO n g a + 1 : Nat) : Int) ≤ top
      rw [he]
      omega
    · show chain (a + ((rdP n g a + rdF n g a + rdO n g a + 1 : Nat) : Int)) _ top
      rw [he]
      simpa using this
  | case3 a hlt h =>
    intro h0 hle
    rw [allF, if_pos hlt, dif_neg h] at h0
    exact absurd h0 h
  | case4 a hlt =>
    intro h0 hle
    rw [allF, if_neg hlt]
    show a = top
    omega
theorem allF_len {n : Nat} {g : Nat → Nat} {top a : Int} (h : (allF n g top a).2 = 0) (hle : a ≤ top) : ((allF n g top a).1.length : Int) ≤ top - a := by
  have hc := allF_chain n g top a h hle
  generalize (allF n g top a).1 = l at hc
  clear h
  induction l generalizing a with
  | nil => simp; omega
  | cons x l ih =>
    have := ih hc.2.2.1 hc.2.2.2
    rw [List.length_cons]
    omega
def hdr2 : List Hdr := [⟨0, 0, 2⟩, ⟨0, 0, 2⟩]
theorem lives18_lay : layF (fun _ => 0) 1 hdr2 = (mkG (mkG (fun _ => 0) 1 (Hd.wordOf 0 0 2) 2) 4 (Hd.wordOf 0 0 2) 2, 7) := by
  have e1 : makE 400 (1 : Nat) 0 0 2 = 0 := by decide
  have e2 : ∀ g, makG 400 g (1 : Nat) 0 0 2 = mkG g 1 (Hd.wordOf 0 0 2) 2 := fun g => by unfold makG; rw [if_pos e1]; rfl
  have e3 : makE 400 (4 : Nat) 0 0 2 = 0 := by decide
  have e4 : ∀ g, makG 400 g (4 : Nat) 0 0 2 = mkG g 4 (Hd.wordOf 0 0 2) 2 := fun g => by unfold makG; rw [if_pos e3]; rfl
  unfold hdr2
  rw [layF, if_pos e1, e2]
  show layF _ 4 _ = _
  rw [layF, if_pos e3, e4]
  rfl
theorem lives18_all {g : Nat → Nat} (h1 : g 1 = Hd.wordOf 0 0 2) (h4 : g 4 = Hd.wordOf 0 0 2) : (∃ l, allR 400 g 1 7 = (l, 0) ∧ l.length = 2) ∧ allR 400 g 1 6 = ([], 25) := by
  have hok : Hd.Ok (0 : Nat) (0 : Nat) (2 : Nat) := by decide
  have s1 : Stands 400 g (1 : Nat) 0 0 2 := stands (by omega) (by omega) hok h1
  have s4 : Stands 400 g (4 : Nat) 0 0 2 := stands (by omega) (by omega) hok h4
  have r1 : rdS 400 g 1 = 2 := by have := s1.p; have := s1.f; have := s1.o; unfold rdS; simp_all
  have r4 : rdS 400 g 4 = 2 := by have := s4.p; have := s4.f; have := s4.o; unfold rdS; simp_all
  have e1 : rdE 400 g 1 = 0 := s1.e
  have e4 : rdE 400 g 4 = 0 := s4.e
  unfold allR
  constructor
  · refine ⟨[fndAt 400 g 1, fndAt 400 g 4], ?_, rfl⟩
    rw [if_neg (by omega), allF, if_pos (by omega), dif_pos e1, r1, if_neg (by omega)]
    show cat _ (allF 400 g 7 4) = _
    rw [allF, if_pos (by omega), dif_pos e4, r4, if_neg (by omega)]
    show cat _ (cat _ (allF 400 g 7 7)) = _
    rw [allF, if_neg (by omega)]
    rfl
  · rw [if_neg (by omega), allF, if_pos (by omega), dif_pos e1, r1, if_neg (by omega)]
    show cat _ (allF 400 g 6 4) = _
    rw [allF, if_pos (by omega), dif_pos e4, r4, if_pos (by omega)]
    rfl
set_option maxRecDepth 100000 in
set_option maxHeartbeats 1000000 in
theorem lives18_yes (w : World) : Calls Try.prog 88 #[] w fun e w' => e = .returned (.bool true) ∧ Below w.heap.size w w' := by
  have hb0 := below_new w (.cells #[.int .i64 0, .int .i64 0, .int .i64 2, .int .i64 0, .int .i64 0, .int .i64 2] 106)
  have hb3 := heap_alloc_new w (.cells #[.int .i64 0, .int .i64 0, .int .i64 2, .int .i64 0, .int .i64 0, .int .i64 2] 106)
  have hrow : HRow (w.alloc (.cells #[.int .i64 0, .int .i64 0, .int .i64 2, .int .i64 0, .int .i64 0, .int .i64 2] 106)) (some ⟨w.heap.size, 0, none⟩) hdr2 := by
    refine ⟨by unfold maxLen; show 2 ≤ _; omega, w.heap.size, 0, .inr rfl, fun i hi => ?_⟩
    have hi2 : i < 2 := hi
    obtain rfl | rfl : i = 0 ∨ i = 1 := by omega
    · exact ⟨at_cell hb3 0 _ rfl, at_cell hb3 1 _ rfl, at_cell hb3 2 _ rfl⟩
    · exact ⟨at_cell hb3 3 _ rfl, at_cell hb3 4 _ rfl, at_cell hb3 5 _ rfl⟩
  have hempty : IntRow .i64 (w.alloc (.cells #[.int .i64 0, .int .i64 0, .int .i64 2, .int .i64 0, .int .i64 0, .int .i64 2] 106)) none [] := ⟨by simp, by simp, 0, 0, .inl rfl, by simp⟩
  have HL := Lib.hid (lay_any (some ⟨w.heap.size, 0, none⟩) none none 2 0 0 hdr2 [] [] _ hrow hempty hempty (by show 2 + 0 + 0 ≤ 300; omega))
  have Hb0 := Lib.hid hb0
  clear hb0 hb3 hrow hempty
  go_enter Try.func88, Try.ntmps88
  go_wp2_with (fail)
  refine HL.out.mono ?_
  rintro e w1 ⟨W0, m, t, g, al, cap, top, rfl, hbw, hsm, ht1, ht2, hR, htop, hgl⟩
  rw [lives18_lay] at htop hgl
  have hg := hgl (by first | trivial | rfl) (by first | trivial | rfl)
  have h1 : g 1 = Hd.wordOf 0 0 2 := by rw [hg]; rfl
  have h4 : g 4 = Hd.wordOf 0 0 2 := by rw [hg]; rfl
  obtain ⟨⟨l, hl, hl2⟩, h6⟩ := lives18_all h1 h4
  have hA := fun (base top : Int) (ht : top ≤ 9223372036854775807) K W (h : FK W0 m 400 t g K W) => all_fk h hsm base top ht
  have hA7 := hA 1 7 (by omega)
  have hA6 := hA 1 6 (by omega)
  rw [hl] at hA7
  rw [h6] at hA6
  simp only [hl2] at hA7
  simp only [List.length_nil] at hA6
  unfold spc at hA7 hA6
  have HA7 := Lib.hid hA7
  have HA6 := Lib.hid hA6
  have HF := Lib.hid hR.full
  have Hb1 := Lib.hid (seq Hb0.out hbw)
  simp only at htop
  subst htop
  clear hA hA7 hA6 hl h6 hl2 hR hg hgl h1 h4 hsm hbw ht1 ht2
  go_wp2_with (first
    | (go_at_call 90; refine (HA7.out _ _ HF.out).mono ?_; rintro e w2 ⟨al2, cap2, rfl, h2⟩; have HF2 := Lib.hid h2.full; clear h2 HF)
    | (go_at_call 90; refine (HA6.out _ _ HF2.out).mono ?_; rintro e w3 ⟨al3, cap3, rfl, h3⟩; have HF3 := Lib.hid (seq Hb1.out h3.below); clear h3 HF2))
  go_ret
  exact ⟨rfl, HF3.out⟩
set_option maxRecDepth 100000 in
theorem far_any (ah apt aw : Option Addr) (lh ch lp cp lw cw : Nat) (w : World) (h1 : lh ≤ maxLen) (h2 : lp ≤ maxLen) (h3 : lw ≤ maxLen) (h4 : lh + lp + lw ≤ 9223372036854775807) :
    Calls Try.prog 87 #[.agg #[.slice ah lh ch, .slice apt lp cp, .slice aw lw cw]] w fun e w' => e = .returned (.bool (decide (300 < lh + lp + lw))) ∧ Below w.heap.size w w' := by
  unfold maxLen at h1 h2 h3
  have hb0 := below_new w (.cells #[.slice ah lh ch, .slice apt lp cp, .slice aw lw cw] 133)
  have e1 : (lh : Int) ≤ 9223372036854775807 := by omega
  have e2 : (lp : Int) ≤ 9223372036854775807 := by omega
  have e3 : (lw : Int) ≤ 9223372036854775807 := by omega
  have e4 : (lh : Int) + lp + lw ≤ 9223372036854775807 := by omega
  have e5 : (lh : Int) + lp ≤ 9223372036854775807 := by omega
  obtain ⟨z, hz⟩ : ∃ z, lh + lp + lw = z := ⟨_, rfl⟩
  have hzI : (lh : Int) + lp + lw = z := by omega
  by_cases hf : 300 < z
  · have f1 : (300 : Int) < z := by omega
    rw [hz, decide_eq_true hf]
    clear h1 h2 h3 h4 hz hf
    go_enter Try.func87, Try.ntmps87
    go_wp2
    go_ret
    exact ⟨rfl, hb0⟩
  · have f1 : ¬ (300 : Int) < z := by omega
    rw [hz, decide_eq_false hf]
    clear h1 h2 h3 h4 hz hf
    go_enter Try.func87, Try.ntmps87
    go_wp2
    go_ret
    exact ⟨rfl, hb0⟩
end Go.Proofs.Ytkcijlndblbidaa
