/- The walk of the reference's Map. -/
import Derived.Test.YtkcijlndblbidaaR9
namespace Go.Proofs.Ytkcijlndblbidaa
open Go.ChangeShapes Go.WideShapes Go.ChangeAt Go.RowKit
set_option linter.unusedVariables false

theorem RelM.map {es : List (Nat × Nat)} {v : VS} (h : RelM es v) {p : Nat} (hp : p < 16) (hm : ¬ v.mp p = true) (g : Nat) : RelM (es ++ [(p, g)]) (mapV 4 v p) := by
  have no : ∀ i, i < es.length → fF es i ≠ p := fun i hi e => hm (by rw [← e]; exact (h.each i hi).2)
  refine ⟨fun i hi => ?_, fun q hq hm2 => ?_, fun i j hi hj e => ?_, ?_⟩
  · rw [fF_append]
    show _ ∧ (if (if i < es.length then fF es i else if i = es.length then p else 0) = p then true else _) = true
    by_cases hl : i < es.length
    · rw [if_pos hl, if_neg (no i hl)]
      exact h.each i hl
    · have : i = es.length := by simp at hi; omega
      rw [if_neg hl, if_pos this, if_pos rfl]
      exact ⟨hp, rfl⟩
  · have hm3 : (if q = p then true else v.mp q) = true := hm2
    by_cases e : q = p
    · exact ⟨es.length, by simp, by rw [fF_append, if_neg (by omega), if_pos rfl, e]⟩
    · rw [if_neg e] at hm3
      obtain ⟨i, hi, e2⟩ := h.all q hq hm3
      exact ⟨i, by simp; omega, by rw [fF_append, if_pos hi]; exact e2⟩
  · simp at hi hj
    rw [fF_append, fF_append] at e
    by_cases h1 : i < es.length
    · rw [if_pos h1] at e
      by_cases h2 : j < es.length
      · rw [if_pos h2] at e
        exact h.once i j h1 h2 e
      · rw [if_neg h2, if_pos (by omega)] at e
        exact absurd e (no i h1)
    · rw [if_neg h1, if_pos (by omega)] at e
      by_cases h2 : j < es.length
      · rw [if_pos h2] at e
        exact absurd e.symm (no j h2)
      · omega
  · show v.used + 1 = _
    rw [h.many]
    simp
theorem page_word9 : (177 : Nat) ≠ 23 := by decide
theorem map9_end {T : Nat → Prop} {rb room cL g5 cap5 p : Nat} {aL : Option Addr} {es : List (Nat × Nat)} {v : VS} {w3 wb w5 w8 : World}
    (hR : RM9 rb room aL cL es v w3) (hF : RelM es v) (hp : p < 16) (hm : ¬ v.mp p = true) (ht : T rb ∧ ∀ a, aL = some a → T a.block) (hI : In T w3)
    (hsz : wb.heap.size = w3.heap.size + 2) (hc : Chg (fun _ => False) w3 wb)
    (hown : w5.ownsRow (rb + 1) 177 2 (.slice (some ⟨g5, 0, none⟩) (es.length + 1) cap5) (es.length + 1) (fcells 4 es ++ [.int .i64 p, .slice (some ⟨w3.heap.size, 0, none⟩) 4 4]))
    (hgrow : wb.grownBy w5 (Value.slice aL es.length cL).ownBlock) (hat : (Value.slice aL es.length cL).ownBlock = some g5 ∨ g5 = w3.heap.size + 2) (hlt : g5 < w5.heap.size)
    (hc8 : Chg (· = rb) w5 w8) (hs8 : w8.heap.size = w5.heap.size)
    (hd8 : w8.heap[rb]? = some (.cells #[.int .i64 64, .int .i64 4, .int .i64 room, .int .i64 (max v.high (v.used + 1) : Nat), .slice (some ⟨g5, 0, none⟩) (es.length + 1) cap5] 175 (0, 0))) :
    RmDid T rb room (mapV 4 v p) w3 w8 := by
  obtain ⟨t1, t2⟩ := ht
  have hs5 : w3.heap.size + 2 ≤ w5.heap.size := by have := hgrow.size; omega
  have lrb := block_lt hR.head
  have c5 : Chg T w3 w5 := (hc.mono (T := T) (fun _ _ h => h.elim)).trans (T := T) ⟨hgrow.os, hgrow.tape, hgrow.output, hgrow.size, fun q hq hn => hgrow.block q hq (fun e => by
    obtain ⟨ad, e1, e2⟩ := own_of_some' e.symm
    exact hn (by rw [← e2]; exact t2 ad e1))⟩ (fun q hq h => h)
  have c8 : Chg T w3 w8 := c5.trans hc8 (fun q hq h => by rw [h]; exact t1)
  refine ⟨fun q => T q ∨ (w3.heap.size ≤ q ∧ q < w8.heap.size), ⟨some ⟨g5, 0, none⟩, cap5, es ++ [(p, w3.heap.size)], ⟨?_, ?_⟩, hF.map hp hm _, ⟨.inl t1, ?_⟩, ?_⟩, c8, ?_⟩
  · rw [hd8]
    simp only [List.length_append, List.length_singleton]
    rfl
  · rw [fcells_append, List.length_append]
    refine own_from hown fun q hq => ?_
    have := (hown.lt q hq)
    exact hc8.2.2.2.2 q this.2 (by omega)
  · intro a h
    simp at h
    subst h
    rcases hat with h2 | h2
    · obtain ⟨ad, e1, e2⟩ := own_of_some' h2
      exact .inl (by show T g5; rw [← e2]; exact t2 ad e1)
    · exact .inr ⟨by show w3.heap.size ≤ g5; omega, by show g5 < w8.heap.size; omega⟩
  · intro q hq
    rcases hq with h | h
    · have := hI q h; omega
    · exact h.2
  · intro q hq
    rcases hq with h | h
    · exact .inl h
    · exact .inr h.1
theorem RM9.drewN {rb room cL : Nat} {aL : Option Addr} {es : List (Nat × Nat)} {v : VS} {w : World} (h : RM9 rb room aL cL es v w) (n : Nat) : RM9 rb room aL cL es v (w.drewN n) :=
  ⟨h.head, own_from h.list fun _ _ => rfl⟩
theorem RM9.grow {rb room cL : Nat} {aL : Option Addr} {es : List (Nat × Nat)} {v : VS} {w w' : World} (h : RM9 rb room aL cL es v w) (c : Below w.heap.size w w') : RM9 rb room aL cL es v w' :=
  ⟨blockB c (Nat.le_refl _) h.head, own_from h.list fun g hg => c.block g (h.list.lt g hg).2⟩
set_option maxRecDepth 100000 in
set_option maxHeartbeats 4000000 in
theorem map9_new {T : Nat → Prop} {rb room : Nat} {v : VS} {w : World} (h : Rm T rb room v w) (hr : room ≤ 4096) (hh : v.high ≤ 4096) (p : Nat) (hp : p < 16) (hm : v.mp p = false) (hu : v.used < room) :
    Calls Try.prog 44 #[.pointer (some ⟨rb, 0, none⟩), .int .i64 p] w fun e w' => e = .returned (.int .i64 0) ∧ RmDid T rb room (mapV 4 v p) w w' := by
  obtain ⟨aL, cL, es, hR, hF, hT, hI⟩ := h
  have hin := in9_any hR (p : Int)
  rw [decide_eq_true (show (0 : Int) ≤ p ∧ (p : Int) < 16 by omega)] at hin
  have hM : isM 16 v (p : Int) = false := by unfold isM; rw [Int.toNat_natCast, hm, Bool.and_false]
  have Hat := Lib.hid fun W (hW : RM9 rb room aL cL es v W) => at9_any rb room cL aL es v W hW hF.few p (-1) (hF.no hM)
  have hlu := hF.many
  have hfew := hF.few
  have hur : ((es.length : Int) == room) = false := by simp; omega
  have hmf : ¬ v.mp p = true := by rw [hm]; decide
  have HR := Lib.hid hR
  have HF := Lib.hid hF
  have HT := Lib.hid hT
  have HI := Lib.hid hI
  have Hlu := Lib.hid hlu
  have Hm := Lib.hid hmf
  have Hin := Lib.hid hin
  clear hR hF hT hI hlu hin hM hm hmf
  go_enter Try.func44, Try.ntmps44
  go_wp2_with (first | (go_at_call 118; refine Hin.out.mono ?_; rintro e w1 ⟨rfl, hb⟩; have Hb := Lib.hid hb; have HR1 := Lib.hid (HR.out.grow hb); have HI1 := Lib.hid (HI.out.mono hb.size); have d2 := at_cell HR1.out.head 2 _ rfl; have d4 := at_cell HR1.out.head 4 _ rfl; clear hb) | (go_at_call 46; refine (Hat.out _ HR1.out).mono ?_; rintro e w2 ⟨rfl, rfl⟩))
  go_quiet (fail)
  clear d2 d4
  have HRn := Lib.hid (HR1.out.drewN nq)
  have HcW := Lib.hid (seq Hb.out (Fr.below_drewN' nq w1))
  have HI3 := Lib.hid (show In T (w1.drewN nq) from HI1.out)
  generalize w1.drewN nq = w3 at *
  obtain ⟨i0, hi, hz0, hz1, hz2⟩ := info_parts page_info
  obtain ⟨i1, hj, hy0, hy1, hy2⟩ := info_parts word_info9
  have hmk : ∀ W : World, (Instr.makeSlice 69 (.int .i64 4) (.int .i64 4)).run Try.prog W = .ok (.slice (some ⟨W.heap.size, 0, none⟩) 4 4) (W.alloc (.cells (zrow 4) 23)) := fun W => by
    have h := run_make (P := Try.prog) W 69 23 i1 (.int .u64 0) Try.underlying69 hj hy0 .i64 .i64 4 4 (by omega) (by omega) (by rw [hy2]; omega) (by omega)
    have h2 := made_words 4
    rw [hy1] at h
    have e4 : (4 : Int).toNat = 4 := rfl
    rw [e4, h2] at h
    exact h
  have hd3 := HRn.out.head
  have a1 := at_cell hd3 1 _ rfl
  have a2 := at_cell hd3 4 _ rfl
  have lrb := block_lt hd3
  obtain ⟨wb, hwb⟩ : ∃ wb, ((w3.alloc (.cells (zrow 4) 23)).alloc (.cells #[.int .i64 (p : Int), .slice (some ⟨w3.heap.size, 0, none⟩) 4 4] 177)).drew = wb := ⟨_, rfl⟩
  have hcb : Chg (fun _ => False) w3 wb := by rw [← hwb]; exact (((Chg.refl _ w3).alloc _).alloc _).drew
  have hszb : wb.heap.size = w3.heap.size + 2 := by rw [← hwb]; show ((w3.alloc _).alloc _).heap.size = _; simp
  have hlast : wb.heap[w3.heap.size + 1]? = some (.cells #[.int .i64 (p : Int), .slice (some ⟨w3.heap.size, 0, none⟩) 4 4] 177 (0, 0)) := by
    rw [← hwb]
    show ((w3.alloc _).alloc _).heap[w3.heap.size + 1]? = _
    have := heap_alloc_new (w3.alloc (.cells (zrow 4) 23)) (.cells #[.int .i64 (p : Int), .slice (some ⟨w3.heap.size, 0, none⟩) 4 4] 177)
    simpa using this
  have hlb : wb.ownsRow (rb + 1) 177 2 (.slice aL es.length cL) es.length (fcells 4 es) := own_from HRn.out.list fun q hq => hcb.2.2.2.2 q (HRn.out.list.lt q hq).2 id
  obtain ⟨g5, cap5, w5, hrun, hown5, hgrow5, hat5, hlt5⟩ := run_append_lies (P := Try.prog) wb 173 173 (rb + 1) 177 i0 (.agg #[.int .i64 0, .slice none 0 0]) 2 32 Try.underlying173 hi hz0 hz1 hz2 rfl (by decide) _ _ _ hlb ⟨w3.heap.size + 1, 0, none⟩ 1 1 [.int .i64 (p : Int), .slice (some ⟨w3.heap.size, 0, none⟩) 4 4] rfl (World.news_of_block hlast) (by intro u hu; simp at hu; rcases hu with rfl | rfl <;> rfl) (by omega) (by unfold maxLen; omega) (by omega) (by omega) (w3.heap.size + 2) hszb
  have hneL : some rb ≠ (Value.slice aL es.length cL).ownBlock := fun e => by
    have := (HRn.out.list.lt rb e.symm).1
    omega
  have hd5 : w5.heap[rb]? = _ := (hgrow5.block rb (by omega) hneL).trans ((hcb.2.2.2.2 rb lrb id).trans hd3)
  have b2 := at_cell hd5 4 _ rfl
  have b2f := at_free hd5 4
  obtain ⟨w6, hw6⟩ : ∃ w6, w5.setCell ⟨rb, 4, none⟩ (.slice (some ⟨g5, 0, none⟩) (es.length + 1) cap5) = w6 := ⟨_, rfl⟩
  have hd6 := heap_setCell_same w5 rb 4 _ _ (.slice (some ⟨g5, 0, none⟩) (es.length + 1) cap5) hd5
  rw [hw6] at hd6
  have b63 := at_cell hd6 3 _ rfl
  have b64 := at_cell hd6 4 _ rfl
  have b63f := at_free hd6 3
  have a2b := at_cell (hcb.keep hd3 id) 4 _ rfl
  have Hcb := Lib.hid hcb
  have Hszb := Lib.hid hszb
  have Hown5 := Lib.hid hown5
  have Hgrow5 := Lib.hid hgrow5
  have Hat5 := Lib.hid hat5
  have Hd6 := Lib.hid hd6
  have Hw6 := Lib.hid hw6
  clear hcb hszb hlast hlb hown5 hgrow5 hat5 hd3 hd5 hd6
  go_wp2
  go_region_law ((refine step_append_run _ (by rfl) (.tmp 27) (.tmp 35) 173 173 _ (by rfl) (by rfl) _ _ (by rfl) (by rfl) _ w5 hrun ?_))
  all_goals
    go_wp2
    go_region_law (fail)
    all_goals
      go_wp2
      all_goals
        go_ret
        refine ⟨rfl, RmDid.then (Chg.of HcW.out) (Grew.refl _ _) (map9_end HRn.out HF.out hp Hm.out HT.out HI3.out Hszb.out Hcb.out Hown5.out Hgrow5.out Hat5.out hlt5 ?_ ?_ ?_)⟩
        · rw [← Hw6.out]
          exact (((Chg.refl (· = rb) w5).set (p := ⟨rb, 4, none⟩) (.inl rfl) _).set (p := ⟨rb, 3, none⟩) (.inl rfl) _).drew
        · rw [← Hw6.out]
          show ((w5.setCell _ _).setCell _ _).heap.size = _
          simp [World.setCell]
        · have hX : ((max v.high (v.used + 1) : Nat) : Int) = max (v.high : Int) ((es.length : Int) + 1) := by have := Hlu.out; omega
          show (w6.setCell ⟨rb, 3, none⟩ _).heap[rb]? = _
          rw [heap_setCell_same w6 rb 3 _ _ _ Hd6.out, hX]
          simp
          omega
end Go.Proofs.Ytkcijlndblbidaa
