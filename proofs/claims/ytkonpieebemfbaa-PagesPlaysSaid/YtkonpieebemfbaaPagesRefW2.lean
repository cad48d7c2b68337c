/- The walks of the reference's Frame, Drop, Move. -/
import Derived.Test.YtkonpieebemfbaaPagesRefW
import Derived.Deep.QuietTactic
import Derived.BigQuiet
import Derived.StillTailTactics
namespace Go.Proofs.Ytkonpieebemfbaa
open Go.ChangeShapes Go.WideShapes Go.ChangeAt Go.RowKit
set_option linter.unusedVariables false

set_option maxRecDepth 100000 in
set_option maxHeartbeats 2000000 in
theorem refFrame_any (T : Nat → Prop) (rb np k : Nat) (F : Nat → Nat) (w : World) (hP : Rp T rb np F k w) (hk : k ≤ 900) (p : Int) :
    Calls Try.prog 16 #[.pointer (some ⟨rb, 0, none⟩), .int .i64 p] w fun e w' => e = .returned (.tuple #[.int .i64 (frameR np F p).1, .int .i64 (frameR np F p).2]) ∧ w = w' := by
  obtain ⟨a, cap, es, hR, hF, hes, ⟨t1, t2⟩, hI⟩ := hP
  have Hin := Lib.hid (refIn_any rb np cap a es w hR p)
  have HR := Lib.hid hR
  have HF := Lib.hid hF
  clear hR hF hI t1 t2
  unfold frameR
  by_cases h1 : 0 ≤ p ∧ p < np
  · rw [if_neg (Classical.not_not.2 h1)]
    unfold inB at Hin
    rw [decide_eq_true h1] at Hin
    obtain ⟨p, rfl⟩ : ∃ q : Nat, p = q := ⟨p.toNat, by omega⟩
    rw [Int.toNat_natCast]
    clear h1
    by_cases h7 : F p = 0
    · rw [if_pos h7]
      have Hat := Lib.hid (refAt_any rb np cap a es w HR.out (by omega) p (-1) (HF.out.not h7))
      clear h7
      go_enter Try.func16, Try.ntmps16
      go_wp2_with (first | (go_at_call 25; refine Hin.out.mono ?_; rintro e w1 ⟨rfl, rfl⟩) | (go_at_call 26; refine Hat.out.mono ?_; rintro e w1 ⟨rfl, rfl⟩))
      go_ret2
      exact ⟨rfl, rfl⟩
    · rw [if_neg h7]
      obtain ⟨i, hi, hat, hei, hFp⟩ := HF.out.at h7
      have Hat := Lib.hid (refAt_any rb np cap a es w HR.out (by omega) p i hat)
      have hi0 : (0 : Int) ≤ i := by omega
      obtain ⟨g, rfl, -, -⟩ := HR.out.form (by omega)
      obtain ⟨-, ci⟩ := HR.out.cell hi
      have c1 := at_cell HR.out.head 1 _ rfl
      rw [show (F p : Int) - 1 = (eF es i : Int) by omega]
      generalize (eF es i : Int) = x at *
      clear h7 hat hei hFp
      go_enter Try.func16, Try.ntmps16
      go_wp2_with (first | (go_at_call 25; refine Hin.out.mono ?_; rintro e w1 ⟨rfl, rfl⟩) | (go_at_call 26; refine Hat.out.mono ?_; rintro e w1 ⟨rfl, rfl⟩))
      go_ret2
      exact ⟨rfl, rfl⟩
  · rw [if_pos h1]
    unfold inB at Hin
    rw [decide_eq_false h1] at Hin
    clear h1
    go_enter Try.func16, Try.ntmps16
    go_wp2_with (go_at_call 25; refine Hin.out.mono ?_; rintro e w1 ⟨rfl, rfl⟩)
    go_ret2
    exact ⟨rfl, rfl⟩

set_option maxRecDepth 100000 in
set_option maxHeartbeats 2000000 in
theorem refDrop_any (T : Nat → Prop) (rb np k : Nat) (F : Nat → Nat) (w : World) (hP : Rp T rb np F k w) (hk : k ≤ 900) (p : Int) :
    Calls Try.prog 14 #[.pointer (some ⟨rb, 0, none⟩), .int .i64 p] w fun e w' => e = .returned (.tuple #[.int .i64 (frameR np F p).1, .int .i64 (frameR np F p).2]) ∧ RDid T rb np (dropF np F p) k w w' := by
  have Hfr := Lib.hid (refFrame_any T rb np k F w hP hk p)
  have HP := Lib.hid hP
  unfold dropF
  by_cases h : (frameR np F p).2 = 0
  · rw [if_pos h]
    have h2 : (0 ≤ p ∧ p < np) ∧ F p.toNat ≠ 0 := by
      unfold frameR at h
      by_cases h1 : 0 ≤ p ∧ p < np
      · rw [if_neg (Classical.not_not.2 h1)] at h
        by_cases h2 : F p.toNat = 0
        · rw [if_pos h2] at h; cases h
        · exact ⟨h1, h2⟩
      · rw [if_pos h1] at h; cases h
    obtain ⟨⟨h3, h4⟩, h5⟩ := h2
    obtain ⟨p, rfl⟩ : ∃ q : Nat, p = q := ⟨p.toNat, by omega⟩
    rw [Int.toNat_natCast] at *
    obtain ⟨a, cap, es, hR, hF, hes, ⟨t1, t2⟩, hI⟩ := hP
    have HR := Lib.hid hR
    have HI := Lib.hid hI
    have Ht2 := Lib.hid t2
    have Ht1 := Lib.hid t1
    obtain ⟨i, hi, hat, hei, hFp⟩ := hF.at h5
    have Hat := Lib.hid (refAt_any rb np cap a es w HR.out (by omega) p i hat)
    have hdrop := hF.drop hi
    rw [hei] at hdrop
    have Hrel := Lib.hid hdrop
    obtain ⟨g, rfl, hg1, hg2⟩ := HR.out.form (by omega)
    have c1 := at_cell HR.out.head 1 _ rfl
    have f1 := at_free HR.out.head 1
    have lrb := block_lt HR.out.head
    have hcap : es.length ≤ cap := by
      rcases HR.out.own.2 with ⟨e, -⟩ | ⟨g, c, cur, e, h1, h2, h3, -⟩
      · cases e
      · simp at e; omega
    have hcapm : cap ≤ maxLen := by
      rcases HR.out.own.2 with ⟨e, -⟩ | ⟨g, c, cur, e, h1, h2, h3, h4, -⟩
      · cases e
      · simp at e; omega
    unfold maxLen at hcapm
    obtain ⟨i0, hi0, hz0, hz1, hz2⟩ := info_parts entry_info
    have hii : (0 : Int) ≤ i := by omega
    have hi2 : (i : Int) < es.length := by omega
    have hi3 : (i : Int) ≤ 1000 := by omega
    obtain ⟨ad, had⟩ : ∃ ad : Addr, ad = if cap = i + 1 then ⟨g, 0, none⟩ else ⟨g, (i + 1) * 2, none⟩ := ⟨_, rfl⟩
    have hsl : ∀ W : World, (Instr.slice 38 (.slice (some ⟨g, 0, none⟩) es.length cap) (some (.int .i64 ((i : Int) + 1))) none none).run Try.prog W = .ok (.slice (some ad) (es.length - (i + 1)) (cap - (i + 1))) W := fun W => by
      have e2 : (sizeOf (Try.prog.elem 38)).run Try.prog W = .ok 2 W := by kernel_rfl
      rw [run_slice_l (P := Try.prog) W 38 (some ⟨g, 0, none⟩) es.length cap (by kernel_rfl) .i64 ((i : Int) + 1) (by omega) (by omega), e2]
      show Result.ok (sliced _ _ _ _ _) W = _
      unfold sliced
      rw [had, show ((i : Int) + 1).toNat = i + 1 by omega]
      split
      · rfl
      · simp only [Option.map_some, add_off, Nat.zero_add]
    have Had := Lib.hid (show 0 < es.length - (i + 1) → ad = ⟨g, (i + 1) * 2, none⟩ from fun hh => by rw [had, if_neg (by omega)])
    clear had
    rw [h] at Hfr
    rw [h]
    generalize (frameR np F p).1 = x at *
    clear h h3 h4 h5 hR hF hI t1 t2 hat hei hFp hdrop
    go_enter Try.func14, Try.ntmps14
    go_wp2_with (first | (go_at_call 16; refine Hfr.out.mono ?_; rintro e w1 ⟨rfl, rfl⟩) | (go_at_call 26; refine Hat.out.mono ?_; rintro e w1 ⟨rfl, rfl⟩) | (at_builtin; refine wpList_append_own _ rfl (.tmp 22) (.tmp 28) 38 rfl w.heap.size 58 i0 (.agg #[.int .i64 0, .int .i64 0]) 2 16 Try.underlying38 hi0 hz0 hz1 hz2 rfl (by decide) _ _ _ rfl (World.ownsRow_nil w w.heap.size 58 2) ⟨g, 0, none⟩ i cap (ecells (es.take i)) rfl ?c1 ?c2 ?c3 ?c4 ?c5 ?c6 ?_))
    case c1 => rw [ecells_length, List.length_take]; omega
    case c2 =>
      intro j u hu
      rw [← ecells_take] at hu
      rw [add_off, Nat.zero_add]
      have hj : j < i * 2 := by
        have := (List.getElem?_eq_some_iff.1 hu).1
        simp at this
        omega
      rw [List.getElem?_take_of_lt hj] at hu
      exact (HR.out.own.cellAt j (by omega)).trans hu
    case c3 => exact ecells_one _
    case c4 => unfold maxLen; omega
    case c5 => omega
    case c6 => exact Nat.le_refl _
    intro v1 w1 hown1 hgrow1 hnil1
    have hne1 : ∀ q, v1.ownBlock = some q → w.heap.size ≤ q := fun q hq => (hown1.lt q hq).1
    have B1 : Below w.heap.size w w1 := ⟨hgrow1.os, hgrow1.tape, hgrow1.output, hgrow1.size, fun q hq => hgrow1.block q hq (by simp [Value.ownBlock])⟩
    have d1 := cellB B1 (Nat.le_refl _) c1
    have e1 := (B1.frozen (p := ⟨rb, 1, none⟩) lrb).trans f1
    have HG1 := Lib.hid (blockB B1 (Nat.le_refl _) HR.out.head)
    have HO1 := Lib.hid (own_of_heap (w' := w1) HR.out.own (fun q hq => B1.block q (by have := (HR.out.own.lt q hq).2; omega)))
    have hsz1 := B1.size
    have Hown1 := Lib.hid hown1
    have Hne1 := Lib.hid hne1
    have HB1 := Lib.hid B1
    clear hown1 hgrow1 hnil1 hne1 B1 c1 f1
    go_wp2_with (at_builtin; refine wpList_append_own _ rfl (.tmp 31) (.tmp 38) 38 rfl w.heap.size 58 i0 (.agg #[.int .i64 0, .int .i64 0]) 2 16 Try.underlying38 hi0 hz0 hz1 hz2 rfl (by decide) _ _ _ rfl Hown1.out ad (es.length - (i + 1)) (cap - (i + 1)) (ecells (es.drop (i + 1))) rfl ?d1 ?d2 ?d3 ?d4 ?d5 ?d6 ?_)
    case d1 => rw [ecells_length, List.length_drop]
    case d2 =>
      intro j u hu
      have hj : j < (es.length - (i + 1)) * 2 := by
        have := (List.getElem?_eq_some_iff.1 hu).1
        rw [ecells_length, List.length_drop] at this
        exact this
      rw [Had.out (by omega), add_off]
      rw [← ecells_drop, List.getElem?_drop] at hu
      exact (HO1.out.cellAt ((i + 1) * 2 + j) (by omega)).trans hu
    case d3 => exact ecells_one _
    case d4 => unfold maxLen; omega
    case d5 => omega
    case d6 => omega
    intro v2 w2 hown2 hgrow2 hnil2
    obtain ⟨a2, cap2, rfl⟩ : ∃ a2 cap2, v2 = .slice a2 (i + (es.length - (i + 1))) cap2 := by
      rcases hown2.2 with ⟨e, e0⟩ | ⟨g2, c2, cur2, e, -⟩
      · exact ⟨none, 0, by rw [e, e0]⟩
      · exact ⟨_, _, e⟩
    have B2 : Below w.heap.size w w2 := ⟨hgrow2.os.trans HB1.out.os, hgrow2.tape.trans HB1.out.tape, hgrow2.output.trans HB1.out.output, Nat.le_trans hsz1 hgrow2.size, fun q hq => (hgrow2.block q (by omega) (fun e => by have := Hne1.out q e.symm; omega)).trans (HB1.out.block q hq)⟩
    have d2 := cellB B2 (Nat.le_refl _) (at_cell HR.out.head 1 _ rfl)
    have e2 := (B2.frozen (p := ⟨rb, 1, none⟩) lrb).trans (at_free HR.out.head 1)
    have HG2 := Lib.hid (blockB B2 (Nat.le_refl _) HR.out.head)
    have Hown2 := Lib.hid hown2
    have HB2 := Lib.hid B2
    clear hown2 hgrow2 hnil2 B2 d1 e1 hsl
    go_wp2
    go_ret2
    have hlen : (es.take i ++ es.drop (i + 1)).length = i + (es.length - (i + 1)) := by simp; omega
    have hs2 := HB2.out.size
    refine ⟨rfl, fun q => T q ∨ (w.heap.size ≤ q ∧ q < w2.heap.size), ⟨a2, cap2, es.take i ++ es.drop (i + 1), ⟨?_, ?_⟩, Hrel.out, by rw [hlen]; omega, ⟨.inl Ht1.out, ?_⟩, ?_⟩, ?_, ?_⟩
    · rw [heap_setCell_same _ rb 1 _ _ _ HG2.out, hlen]
      simp
    · have h3 := own_of_heap (w' := w2.setCell ⟨rb, 1, none⟩ (.slice a2 (i + (es.length - (i + 1))) cap2)) Hown2.out (fun q hq => Below.heap_setCell w2 ⟨rb, 1, none⟩ _ q (by
        have := (Hown2.out.lt q hq).1
        intro e
        have : q = rb := e
        omega))
      rw [hlen, ecells_append]
      refine ⟨h3.1, ?_⟩
      rcases h3.2 with e | ⟨g2, c2, cur2, e, h4, h5⟩
      · exact .inl e
      · exact .inr ⟨g2, c2, cur2, e, by omega, h5⟩
    · intro q hq
      have := Hown2.out.lt q.block (by rw [hq]; rfl)
      exact .inr this
    · intro q hq
      have hsz : (w2.setCell ⟨rb, 1, none⟩ (.slice a2 (i + (es.length - (i + 1))) cap2)).heap.size = w2.heap.size := by simp [World.setCell]
      rw [hsz]
      rcases hq with h | h
      · have := HI.out q h; omega
      · exact h.2
    · exact (Chg.of HB2.out).set (.inl Ht1.out) _
    · intro q hq
      rcases hq with h | h
      · exact .inl h
      · exact .inr h.1
  · rw [if_neg h]
    obtain ⟨y, hy⟩ : ∃ y, (frameR np F p).2 = y := ⟨_, rfl⟩
    have hx : (frameR np F p).1 = 0 := by
      unfold frameR at h ⊢
      split
      · rfl
      · rename_i h1
        rw [if_neg h1] at h
        split
        · rfl
        · rename_i h2
          rw [if_neg h2] at h
          exact absurd rfl h
    rw [hy] at Hfr h
    rw [hx] at Hfr
    rw [hy, hx]
    clear hy hP hx
    go_enter Try.func14, Try.ntmps14
    go_wp2_with (first | (go_at_call 16; refine Hfr.out.mono ?_; rintro e w1 ⟨rfl, rfl⟩))
    go_ret2
    exact ⟨rfl, RDid.same HP.out (Nat.le_refl _)⟩
end Go.Proofs.Ytkonpieebemfbaa
