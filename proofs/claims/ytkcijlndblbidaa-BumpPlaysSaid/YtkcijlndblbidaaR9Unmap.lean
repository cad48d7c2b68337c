/- The walks of the reference's Map and Unmap: all together. -/
import Derived.Test.YtkcijlndblbidaaR9Map
namespace Go.Proofs.Ytkcijlndblbidaa
open Go.ChangeShapes Go.WideShapes Go.ChangeAt Go.RowKit
set_option linter.unusedVariables false

theorem isM_iff (v : VS) (p : Int) : isM 16 v p = true ↔ (0 ≤ p ∧ p < 16) ∧ v.mp p.toNat = true := by unfold isM; simp
set_option maxRecDepth 100000 in
theorem map9_any {T : Nat → Prop} {rb room : Nat} {v : VS} {w : World} (h : Rm T rb room v w) (hr : room ≤ 4096) (hh : v.high ≤ 4096) (hu0 : v.used ≤ room) (p : Int) :
    Calls Try.prog 44 #[.pointer (some ⟨rb, 0, none⟩), .int .i64 p] w fun e w' => e = .returned (.int .i64 (mapE 16 room v p)) ∧ RmDid T rb room (mapS 16 4 room v p) w w' := by
  have HM := Lib.hid h
  unfold mapS mapE
  by_cases h1 : 0 ≤ p ∧ p < (16 : Nat)
  · rw [if_neg (Classical.not_not.2 h1)]
    obtain ⟨p, rfl⟩ : ∃ q : Nat, p = q := ⟨p.toNat, by omega⟩
    rw [Int.toNat_natCast]
    by_cases h2 : v.mp p = true
    · rw [if_pos h2, if_neg (by decide)]
      obtain ⟨r, hr16, hat⟩ := at9_yes h (show isM 16 v (p : Int) = true from (isM_iff v p).2 ⟨by omega, by rw [Int.toNat_natCast]; exact h2⟩)
      obtain ⟨aL, cL, es, hR, hF, -⟩ := h
      have hin := in9_any hR (p : Int)
      rw [decide_eq_true (show (0 : Int) ≤ p ∧ (p : Int) < 16 by omega)] at hin
      have hat2 := fun W (hb : Below w.heap.size w W) => at9_yes (HM.out.grow hb) (show isM 16 v (p : Int) = true from (isM_iff v p).2 ⟨by omega, by rw [Int.toNat_natCast]; exact h2⟩)
      have Hin := Lib.hid hin
      have Hat := Lib.hid hat2
      clear hR hF hin hat hat2 h1 h2
      go_enter Try.func44, Try.ntmps44
      go_wp2_with (first | (go_at_call 118; refine Hin.out.mono ?_; rintro e w1 ⟨rfl, hb⟩; have Hb := Lib.hid hb; obtain ⟨r1, hr1, hat1⟩ := Hat.out _ hb; have Hat1 := Lib.hid hat1; have hr0 : (0 : Int) ≤ r1 := (by omega); clear hb hat1) | (go_at_call 46; refine Hat1.out.mono ?_; rintro e w2 ⟨rfl, rfl⟩))
      go_ret
      exact ⟨rfl, RmDid.of HM.out Hb.out⟩
    · rw [if_neg h2]
      have hmf : v.mp p = false := by simpa using h2
      by_cases h3 : v.used = room
      · rw [if_pos h3, if_neg (by decide)]
        obtain ⟨aL, cL, es, hR, hF, -⟩ := h
        have hin := in9_any hR (p : Int)
        rw [decide_eq_true (show (0 : Int) ≤ p ∧ (p : Int) < 16 by omega)] at hin
        have hM : isM 16 v (p : Int) = false := by unfold isM; rw [Int.toNat_natCast, hmf, Bool.and_false]
        have Hat := Lib.hid fun W (hW : RM9 rb room aL cL es v W) => at9_any rb room cL aL es v W hW hF.few p (-1) (hF.no hM)
        have hlen : es.length = room := by rw [← hF.many]; exact h3
        have hq : ((es.length : Int) == room) = true := by rw [hlen]; simp
        have HR := Lib.hid hR
        have Hin := Lib.hid hin
        have Hlen := Lib.hid hlen
        clear hR hF hin hM h1 h2 hmf h3 hlen
        go_enter Try.func44, Try.ntmps44
        go_wp2_with (first | (go_at_call 118; refine Hin.out.mono ?_; rintro e w1 ⟨rfl, hb⟩; have Hb := Lib.hid hb; have HR1 := Lib.hid (HR.out.grow hb); have d2 := at_cell HR1.out.head 2 _ rfl; have d4 := at_cell HR1.out.head 4 _ rfl; clear hb) | (go_at_call 46; refine (Hat.out _ HR1.out).mono ?_; rintro e w2 ⟨rfl, rfl⟩))
        go_quiet (fail)
        go_wp2
        go_ret
        exact ⟨rfl, RmDid.of HM.out (seq Hb.out (Fr.below_drewN' _ _))⟩
      · rw [if_neg h3, if_pos rfl]
        exact map9_new h hr hh p (by omega) hmf (by omega)
  · rw [if_pos h1, if_neg (by decide)]
    obtain ⟨aL, cL, es, hR, hF, -⟩ := h
    have hin := in9_any hR p
    rw [decide_eq_false (by omega)] at hin
    have Hin := Lib.hid hin
    clear hR hF hin h1
    go_enter Try.func44, Try.ntmps44
    go_wp2_with (go_at_call 118; refine Hin.out.mono ?_; rintro e w1 ⟨rfl, hb⟩; have Hb := Lib.hid hb; clear hb)
    go_ret
    exact ⟨rfl, RmDid.of HM.out Hb.out⟩
theorem RelM.unmap {es : List (Nat × Nat)} {v : VS} (h : RelM es v) {k : Nat} (hk : k < es.length) : RelM (es.take k ++ es.drop (k + 1)) (unmapV v (fF es k)) := by
  have hl := cut_length hk
  refine ⟨fun i hi => ?_, fun q hq hm => ?_, fun i j hi hj e => ?_, ?_⟩
  · rw [hl] at hi
    obtain ⟨a, c⟩ := cut_index (i := i) hk (by omega)
    rw [fF_cut' es k i hk]
    obtain ⟨h1, h2⟩ := h.each _ a
    refine ⟨h1, ?_⟩
    show (if fF es _ = fF es k then false else v.mp _) = true
    rw [if_neg (fun e => c (h.once _ _ a hk e))]
    exact h2
  · have hm2 : (if q = fF es k then false else v.mp q) = true := hm
    by_cases e : q = fF es k
    · rw [if_pos e] at hm2; cases hm2
    · rw [if_neg e] at hm2
      obtain ⟨i, hi, e2⟩ := h.all q hq hm2
      have hik : i ≠ k := fun e3 => e (by rw [← e2, e3])
      by_cases c : i < k
      · exact ⟨i, by rw [hl]; omega, by rw [fF_cut' es k i hk, if_pos c]; exact e2⟩
      · exact ⟨i - 1, by rw [hl]; omega, by rw [fF_cut' es k _ hk, if_neg (by omega), show i - 1 + 1 = i by omega]; exact e2⟩
  · rw [hl] at hi hj
    rw [fF_cut' es k i hk, fF_cut' es k j hk] at e
    obtain ⟨a, c⟩ := cut_index (i := i) hk (by omega)
    obtain ⟨a2, c2⟩ := cut_index (i := j) hk (by omega)
    have := h.once _ _ a a2 e
    split at this <;> split at this <;> omega
  · have := h.many
    show v.used - 1 = _
    rw [hl]
    omega
theorem unmap9_end {T : Nat → Prop} {rb room cL k cap2 : Nat} {aL a2 : Option Addr} {es : List (Nat × Nat)} {v : VS} {w w2 : World}
    (hR : RM9 rb room aL cL es v w) (hF : RelM es v) (hk : k < es.length) (ht : T rb ∧ ∀ a, aL = some a → T a.block) (hI : In T w)
    (hb2 : Below w.heap.size w w2) (hown2 : w2.ownsRow w.heap.size 177 2 (.slice a2 (k + (es.length - (k + 1))) cap2) (k + (es.length - (k + 1))) (fcells 4 (es.take k) ++ fcells 4 (es.drop (k + 1)))) :
    RmDid T rb room (unmapV v (fF es k)) w (w2.setCell ⟨rb, 4, none⟩ (.slice a2 (k + (es.length - (k + 1))) cap2)) := by
  have hl := cut_length hk
  have hs2 := hb2.size
  have lrb := block_lt hR.head
  have hfin : (w2.setCell ⟨rb, 4, none⟩ (.slice a2 (k + (es.length - (k + 1))) cap2)).heap.size = w2.heap.size := by simp [World.setCell]
  refine ⟨fun q => T q ∨ (w.heap.size ≤ q ∧ q < w2.heap.size), ⟨a2, cap2, es.take k ++ es.drop (k + 1), ⟨?_, ?_⟩, hF.unmap hk, ⟨.inl ht.1, ?_⟩, ?_⟩, (Chg.of hb2).set (p := ⟨rb, 4, none⟩) (.inl ht.1) _, ?_⟩
  · rw [heap_setCell_same _ rb 4 _ _ _ (blockB hb2 (Nat.le_refl _) hR.head), hl]
    rfl
  · rw [hl, fcells_append]
    have h2 := own_from (w' := w2.setCell ⟨rb, 4, none⟩ (.slice a2 (k + (es.length - (k + 1))) cap2)) hown2 (fun q hq => by
      have hqb := (hown2.lt q hq).1
      exact far (show q ≠ rb by omega))
    refine ⟨h2.1, ?_⟩
    rcases h2.2 with e | ⟨g, c, cur, e, h3, h4⟩
    · exact .inl e
    · exact .inr ⟨g, c, cur, e, by omega, h4⟩
  · intro ad had
    have := hown2.lt ad.block (by rw [had]; rfl)
    exact .inr this
  · intro q hq
    rw [hfin]
    rcases hq with h | h
    · have := hI q h; omega
    · exact h.2
  · intro q hq
    rcases hq with h | h
    · exact .inl h
    · exact .inr h.1
set_option maxRecDepth 100000 in
set_option maxHeartbeats 4000000 in
theorem unmap9_yes {T : Nat → Prop} {rb room : Nat} {v : VS} {w : World} (h : Rm T rb room v w) (p : Nat) (hp : p < 16) (hm : v.mp p = true) :
    Calls Try.prog 152 #[.pointer (some ⟨rb, 0, none⟩), .int .i64 p] w fun e w' => e = .returned (.int .i64 0) ∧ RmDid T rb room (unmapV v p) w w' := by
  obtain ⟨aL, cL, es, hR, hF, ht, hI⟩ := h
  obtain ⟨i, hi, hat, hfi⟩ := hF.yes hp hm
  have hlen := hF.few
  have Hat := Lib.hid fun W (hW : RM9 rb room aL cL es v W) => at9_any rb room cL aL es v W hW hlen p i hat
  obtain ⟨g, rfl, hg1, hg2⟩ := hR.form (by omega)
  have hin := in9_any hR (p : Int)
  rw [decide_eq_true (show (0 : Int) ≤ p ∧ (p : Int) < 16 by omega)] at hin
  have hcap : es.length ≤ cL := by
    rcases hR.list.2 with ⟨e, -⟩ | ⟨g, c, cur, e, h1, h2, h3, -⟩
    · cases e
    · simp at e; omega
  have hcapm : cL ≤ maxLen := by
    rcases hR.list.2 with ⟨e, -⟩ | ⟨g, c, cur, e, h1, h2, h3, h4, -⟩
    · cases e
    · simp at e; omega
  unfold maxLen at hcapm
  obtain ⟨i0, hi0, hz0, hz1, hz2⟩ := info_parts page_info
  have hii : (0 : Int) ≤ i := by omega
  have hi2 : (i : Int) < es.length := by omega
  have hi3 : (i : Int) ≤ 5000 := by omega
  obtain ⟨ad, had⟩ : ∃ ad : Addr, ad = if cL = i + 1 then ⟨g, 0, none⟩ else ⟨g, (i + 1) * 2, none⟩ := ⟨_, rfl⟩
  have hsl : ∀ W : World, (Instr.slice 173 (.slice (some ⟨g, 0, none⟩) es.length cL) (some (.int .i64 ((i : Int) + 1))) none none).run Try.prog W = .ok (.slice (some ad) (es.length - (i + 1)) (cL - (i + 1))) W := fun W => by
    have e2 : (sizeOf (Try.prog.elem 173)).run Try.prog W = .ok 2 W := by kernel_rfl
    rw [run_slice_l (P := Try.prog) W 173 (some ⟨g, 0, none⟩) es.length cL (by kernel_rfl) .i64 ((i : Int) + 1) (by omega) (by omega), e2]
    show Result.ok (sliced _ _ _ _ _) W = _
    unfold sliced
    rw [had, show ((i : Int) + 1).toNat = i + 1 by omega]
    split
    · rfl
    · simp only [Option.map_some, add_off, Nat.zero_add]
  have Had := Lib.hid (show 0 < es.length - (i + 1) → ad = ⟨g, (i + 1) * 2, none⟩ from fun hh => by rw [had, if_neg (by omega)])
  have HR := Lib.hid hR
  have HF := Lib.hid hF
  have Ht := Lib.hid ht
  have HI := Lib.hid hI
  have Hfi := Lib.hid hfi
  have Hin := Lib.hid hin
  clear had hR hF ht hI hat hfi hin hm
  go_enter Try.func152, Try.ntmps152
  go_wp2_with (first | (go_at_call 118; refine Hin.out.mono ?_; rintro e w0 ⟨rfl, hb⟩; have Hb := Lib.hid hb; have HR0 := Lib.hid (HR.out.grow hb); have c2 := at_cell HR0.out.head 4 _ rfl; have f2 := at_free HR0.out.head 4; have lrb := block_lt HR0.out.head; clear hb) | (go_at_call 46; refine (Hat.out _ HR0.out).mono ?_; rintro e w9 ⟨rfl, rfl⟩) | (at_builtin; refine wpList_append_own _ rfl (.tmp 16) (.tmp 22) 173 rfl w0.heap.size 177 i0 (.agg #[.int .i64 0, .slice none 0 0]) 2 32 Try.underlying173 hi0 hz0 hz1 hz2 rfl (by decide) _ _ _ rfl (World.ownsRow_nil w0 w0.heap.size 177 2) ⟨g, 0, none⟩ i cL (fcells 4 (es.take i)) rfl ?c1 ?c2 ?c3 ?c4 ?c5 ?c6 ?_))
  case c1 => rw [fcells_length, List.length_take]; omega
  case c2 =>
    intro j u hu
    rw [← fcells_take] at hu
    rw [add_off, Nat.zero_add]
    have hj : j < i * 2 := by
      have := (List.getElem?_eq_some_iff.1 hu).1
      simp at this
      omega
    rw [List.getElem?_take_of_lt hj] at hu
    exact (HR0.out.list.cellAt j (by omega)).trans hu
  case c3 => exact fcells_one _ _
  case c4 => unfold maxLen; omega
  case c5 => omega
  case c6 => exact Nat.le_refl _
  intro v1 w1 hown1 hgrow1 hnil1
  have hne1 : ∀ q, v1.ownBlock = some q → w0.heap.size ≤ q := fun q hq => (hown1.lt q hq).1
  have B1 : Below w0.heap.size w0 w1 := ⟨hgrow1.os, hgrow1.tape, hgrow1.output, hgrow1.size, fun q hq => hgrow1.block q hq (by simp [Value.ownBlock])⟩
  have d1 := cellB B1 (Nat.le_refl _) c2
  have e1 := (B1.frozen (p := ⟨rb, 4, none⟩) lrb).trans f2
  have HO1 := Lib.hid (own_from (w' := w1) HR0.out.list (fun q hq => B1.block q (by have := (HR0.out.list.lt q hq).2; omega)))
  have hsz1 := B1.size
  have Hown1 := Lib.hid hown1
  have Hne1 := Lib.hid hne1
  have HB1 := Lib.hid B1
  clear hown1 hgrow1 hnil1 hne1 B1 c2 f2
  go_wp2_with (at_builtin; refine wpList_append_own _ rfl (.tmp 25) (.tmp 32) 173 rfl w0.heap.size 177 i0 (.agg #[.int .i64 0, .slice none 0 0]) 2 32 Try.underlying173 hi0 hz0 hz1 hz2 rfl (by decide) _ _ _ rfl Hown1.out ad (es.length - (i + 1)) (cL - (i + 1)) (fcells 4 (es.drop (i + 1))) rfl ?d1 ?d2 ?d3 ?d4 ?d5 ?d6 ?_)
  case d1 => rw [fcells_length, List.length_drop]
  case d2 =>
    intro j u hu
    have hj : j < (es.length - (i + 1)) * 2 := by
      have := (List.getElem?_eq_some_iff.1 hu).1
      rw [fcells_length, List.length_drop] at this
      exact this
    rw [Had.out (by omega), add_off]
    rw [← fcells_drop, List.getElem?_drop] at hu
    exact (HO1.out.cellAt ((i + 1) * 2 + j) (by omega)).trans hu
  case d3 => exact fcells_one _ _
  case d4 => unfold maxLen; omega
  case d5 => omega
  case d6 => omega
  intro v2 w2 hown2 hgrow2 hnil2
  obtain ⟨a2, cap2, rfl⟩ : ∃ a2 cap2, v2 = .slice a2 (i + (es.length - (i + 1))) cap2 := by
    rcases hown2.2 with ⟨e, e0⟩ | ⟨g2, c2, cur2, e, -⟩
    · exact ⟨none, 0, by rw [e, e0]⟩
    · exact ⟨_, _, e⟩
  have B2 : Below w0.heap.size w0 w2 := ⟨hgrow2.os.trans HB1.out.os, hgrow2.tape.trans HB1.out.tape, hgrow2.output.trans HB1.out.output, Nat.le_trans hsz1 hgrow2.size, fun q hq => (hgrow2.block q (by omega) (fun e => by have := Hne1.out q e.symm; omega)).trans (HB1.out.block q hq)⟩
  have hd2 := blockB B2 (Nat.le_refl _) HR0.out.head
  have d2 := at_cell hd2 4 _ rfl
  have e2 := at_free hd2 4
  have hsz2 := B2.size
  have Hres := Lib.hid (unmap9_end (T := T) HR0.out HF.out hi Ht.out (HI.out.mono Hb.out.size) B2 hown2)
  clear hown2 hgrow2 hnil2 B2 d1 e1 hsl hd2
  go_wp2
  go_ret
  rw [Hfi.out] at Hres
  exact ⟨rfl, RmDid.then (Chg.of Hb.out) (Grew.refl _ _) Hres.out⟩
set_option maxRecDepth 100000 in
theorem unmap9_any {T : Nat → Prop} {rb room : Nat} {v : VS} {w : World} (h : Rm T rb room v w) (p : Int) :
    Calls Try.prog 152 #[.pointer (some ⟨rb, 0, none⟩), .int .i64 p] w fun e w' => e = .returned (.int .i64 (unmapE 16 v p)) ∧ RmDid T rb room (unmapS 16 v p) w w' := by
  have HM := Lib.hid h
  unfold unmapS unmapE
  by_cases h1 : 0 ≤ p ∧ p < (16 : Nat)
  · rw [if_neg (Classical.not_not.2 h1)]
    obtain ⟨p, rfl⟩ : ∃ q : Nat, p = q := ⟨p.toNat, by omega⟩
    rw [Int.toNat_natCast]
    by_cases h2 : v.mp p = true
    · rw [if_pos h2, if_pos rfl]
      exact unmap9_yes h p (by omega) h2
    · rw [if_neg h2, if_neg (by decide)]
      have hmf : v.mp p = false := by simpa using h2
      obtain ⟨aL, cL, es, hR, hF, -⟩ := h
      have hin := in9_any hR (p : Int)
      rw [decide_eq_true (show (0 : Int) ≤ p ∧ (p : Int) < 16 by omega)] at hin
      have hM : isM 16 v (p : Int) = false := by unfold isM; rw [Int.toNat_natCast, hmf, Bool.and_false]
      have Hat := Lib.hid fun W (hW : RM9 rb room aL cL es v W) => at9_any rb room cL aL es v W hW hF.few p (-1) (hF.no hM)
      have HR := Lib.hid hR
      have Hin := Lib.hid hin
      clear hR hF hin hM h1 h2 hmf
      go_enter Try.func152, Try.ntmps152
      go_wp2_with (first | (go_at_call 118; refine Hin.out.mono ?_; rintro e w1 ⟨rfl, hb⟩; have Hb := Lib.hid hb; have HR1 := Lib.hid (HR.out.grow hb); clear hb) | (go_at_call 46; refine (Hat.out _ HR1.out).mono ?_; rintro e w2 ⟨rfl, rfl⟩))
      go_ret
      exact ⟨rfl, RmDid.of HM.out Hb.out⟩
  · rw [if_pos h1, if_neg (by decide)]
    obtain ⟨aL, cL, es, hR, hF, -⟩ := h
    have hin := in9_any hR p
    rw [decide_eq_false (by omega)] at hin
    have Hin := Lib.hid hin
    clear hR hF hin h1
    go_enter Try.func152, Try.ntmps152
    go_wp2_with (go_at_call 118; refine Hin.out.mono ?_; rintro e w1 ⟨rfl, hb⟩; have Hb := Lib.hid hb; clear hb)
    go_ret
    exact ⟨rfl, RmDid.of HM.out Hb.out⟩
end Go.Proofs.Ytkcijlndblbidaa
