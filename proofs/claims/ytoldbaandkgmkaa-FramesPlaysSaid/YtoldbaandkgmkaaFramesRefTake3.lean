/- The walk of the reference's Take: a frame that was given back, and all together. -/
import Derived.Test.YtoldbaandkgmkaaFramesRefTake2
namespace Go.Proofs.Ytoldbaandkgmkaa
open Go.ChangeShapes Go.WideShapes Go.ChangeAt Go.RowKit
set_option linter.unusedVariables false

set_option maxRecDepth 100000 in
set_option maxHeartbeats 4000000 in
theorem refTake_back (T : Nat → Prop) (rb room page : Nat) (s : PS) (w : World) (hP : Rf T rb room page s w) (hk : s.ok room page) (hu : s.used < room) (ht : s.times ≤ 1000000000) (l : List Nat) (f0 : Nat) (hbk : s.bk = l ++ [f0]) :
    Calls Try.prog 14 #[.pointer (some ⟨rb, 0, none⟩)] w fun e w' => e = .returned (.tuple #[.int .i64 (nextF s), .int .i64 0]) ∧ RfDid T rb room page (takeS s) w w' := by
  obtain ⟨aL, cL, aB, cB, fs, hR, hF, hT, hI⟩ := hP
  have hlen0 : s.bk.length = l.length + 1 := by rw [hbk]; simp
  obtain ⟨-, hcb, hcm, hform, -⟩ := hR.back.form
  obtain ⟨gB, rfl, hgB1, hgB2⟩ := hform (by omega)
  have c0 := at_cell hR.head 0 _ rfl
  have c2 := at_cell hR.head 2 _ rfl
  have hlu := hF.many
  have hur : ¬ (fs.length : Int) = room := by omega
  have hnx : nextF s = f0 := by unfold nextF; rw [hbk]; simp
  have hfr : freshS s = dropBack s l := by unfold freshS; rw [if_neg (by rw [hbk]; simp), hbk]; simp
  have hv : backV s l.length = .int .i64 f0 := by unfold backV; rw [hbk]; simp
  have hbv : ∀ i, i < l.length → backV s i = backV (dropBack s l) i := fun i hi => by
    unfold backV
    show Value.int .i64 ((s.bk.getD i 0 : Nat) : Int) = .int .i64 ((l.getD i 0 : Nat) : Int)
    rw [hbk, List.getD_eq_getElem?_getD, List.getD_eq_getElem?_getD, List.getElem?_append_left hi]
  have hr0 := hk.room1
  have hp0 := hk.page1
  have hhigh := hk.high
  have hmax : l.length ≤ 4096 := by
    have := hk.less
    have := hk.few
    omega
  have hf4 : f0 ≤ 4096 := by
    have := (hk.back f0 (by rw [hbk]; simp)).1
    have := hk.few
    omega
  rw [hlen0] at hcb
  unfold maxLen at hcm
  obtain ⟨m, hm⟩ : ∃ m, l.length = m := ⟨_, rfl⟩
  rw [hm] at hlen0 hcb hmax hv hbv
  have hcap0 : ¬ cB = 0 := by omega
  have hcap1 : (m : Int) ≤ cB := by omega
  have HR := Lib.hid hR
  have HF := Lib.hid hF
  have Hk := Lib.hid hk
  have HT := Lib.hid hT
  have HI := Lib.hid hI
  have Hfr := Lib.hid hfr
  have Hlu := Lib.hid hlu
  have Hv := Lib.hid hv
  have Hbv := Lib.hid hbv
  have Hm := Lib.hid hm
  have Hlen0 := Lib.hid hlen0
  have Hnx2 := Lib.hid hnx
  obtain ⟨i1, hj, hy0, hy1, hy2⟩ := info_parts int_info
  clear hR hF hk hT hI hnx hfr hbk hlu hv hbv hm hlen0
  go_enter Try.func14, Try.ntmps14
  go_wp2
  go_quiet (fail)
  clear c0 c2
  have HRn := Lib.hid (HR.out.drewN nq)
  have hcW : Chg (fun _ => False) w (w.drewN nq) := Chg.of (below_drewN' _ _)
  have HcW := Lib.hid hcW
  clear hcW
  generalize w.drewN nq = W at *
  have hdW := HRn.out.head
  have c3 := at_cell hdW 3 _ rfl
  have c4 := at_cell hdW 4 _ rfl
  have f3 := at_free hdW 3
  have lrb := block_lt hdW
  have cf := HRn.out.back.cell (show m < s.bk.length by have := Hlen0.out; omega)
  rw [Hv.out] at cf
  have c3' : W.cell? ⟨rb, 3, none⟩ = some (.slice (some ⟨gB, 0, none⟩) (m + 1) cB) := by rw [c3, Hlen0.out]; rfl
  have hszW : w.heap.size ≤ W.heap.size := HcW.out.size
  clear c3
  go_wp2_with (at_builtin; refine wpList_append_own _ rfl (.tmp 37) (.tmp 44) 51 rfl W.heap.size 3 i1 (.int .i64 0) 1 8 Try.underlying51 hj hy0 hy1 hy2 rfl (by decide) _ _ _ rfl (World.ownsRow_nil W W.heap.size 3 1) ⟨gB, 0, none⟩ m cB (ftab m (backV s)) rfl ?c1 ?c2 ?c3 ?c4 ?c5 ?c6 ?_)
  case c1 => rw [ftab_length]; omega
  case c2 =>
    intro j u hu
    rw [ftab_get] at hu
    split at hu
    · rename_i hjm
      rw [add_off, Nat.zero_add]
      exact (HRn.out.back.cell (show j < s.bk.length by have := Hlen0.out; omega)).trans hu
    · cases hu
  case c3 => intro u hu; unfold ftab at hu; simp at hu; obtain ⟨_, _, rfl⟩ := hu; rfl
  case c4 => unfold maxLen; omega
  case c5 => omega
  case c6 => exact Nat.le_refl _
  intro v1 w1 hown1 hgrow1 hnil1
  obtain ⟨aB', cB', rfl⟩ : ∃ aB' cB', v1 = .slice aB' m cB' := by
    rcases hown1.2 with ⟨e, e0⟩ | ⟨g2, c2, cur2, e, -⟩
    · exact ⟨none, 0, by rw [e, e0]⟩
    · exact ⟨_, _, e⟩
  have B1 : Below W.heap.size W w1 := ⟨hgrow1.os, hgrow1.tape, hgrow1.output, hgrow1.size, fun q hq => hgrow1.block q hq (by simp [Value.ownBlock])⟩
  have hd1 := blockB B1 (Nat.le_refl _) hdW
  have d3 := at_cell hd1 3 _ rfl
  have e3 := at_free hd1 3
  obtain ⟨w3, hw3⟩ : ∃ w3, w1.setCell ⟨rb, 3, none⟩ (.slice aB' m cB') = w3 := ⟨_, rfl⟩
  have hsz1 := B1.size
  have hs3 : w3.heap.size = w1.heap.size := by rw [← hw3]; simp [World.setCell]
  obtain ⟨T', hT'⟩ : ∃ T' : Nat → Prop, T' = fun q => T q ∨ (W.heap.size ≤ q ∧ q < w3.heap.size) := ⟨_, rfl⟩
  have hc3 : Chg T w w3 := by
    rw [← hw3]
    exact (((HcW.out.mono (fun _ _ h => h.elim)).trans (T := T) ((Chg.of B1)) (fun _ _ h => h))).set (p := ⟨rb, 3, none⟩) (.inl HT.out.1) _
  have hg3 : Grew T T' w := fun q hq => by
    rw [hT'] at hq
    rcases hq with h | h
    · exact .inl h
    · exact .inr (by omega)
  have hI3 : In T' w3 := fun q hq => by
    rw [hT'] at hq
    rcases hq with h | h
    · have := HI.out q h; omega
    · exact h.2
  have hR3 : RPool rb room page aL cL aB' cB' fs (freshS s) w3 := by
    rw [Hfr.out, ← hw3]
    have hnew : OwnF (rb + 1) 3 (.slice aB' m cB') m (backV (dropBack s l)) w1 := by
      have h1 : OwnF W.heap.size 3 (.slice aB' m cB') m (backV s) w1 := hown1
      have h2 := h1.congr Hbv.out
      refine ⟨h2.1, ?_⟩
      rcases h2.2 with e | ⟨g, c, cur, e, h3, h4⟩
      · exact .inl e
      · exact .inr ⟨g, c, cur, e, by omega, h4⟩
    refine ⟨?_, own_from HRn.out.list fun q hq => ?_, ?_, ?_, HRn.out.apart⟩
    · rw [heap_setCell_same _ rb 3 _ _ _ hd1]
      show _ = some (Obj.cells #[.int .i64 room, .int .i64 page, .slice aL fs.length cL, .slice aB' l.length cB', _, _, _] _ _)
      rw [Hm.out]
      rfl
    · have := HRn.out.list.lt q hq
      rw [far (show q ≠ rb by omega)]
      exact B1.block q this.2
    · have := hnew.headSet 3 (.slice aB' m cB')
      rw [← Hm.out] at this ⊢
      exact this
    · rw [← Hfr.out]
      exact words_fresh HF.out HRn.out.words fun i hi => by
        have h1 := HRn.out.words i hi
        rw [far (show fG fs i ≠ rb by omega)]
        exact B1.block _ (block_lt h1.2)
  have hT3 : T' rb ∧ (∀ a, aL = some a → T' a.block) ∧ (∀ a, aB' = some a → T' a.block) ∧ ∀ i, i < fs.length → T' (fG fs i) := by
    rw [hT']
    refine ⟨.inl HT.out.1, fun a h => .inl (HT.out.2.1 a h), fun a h => .inr ?_, fun i hi => .inl (HT.out.2.2.2 i hi)⟩
    have := hown1.lt a.block (by rw [h]; rfl)
    omega
  have HR3 := Lib.hid hR3
  have HT3 := Lib.hid hT3
  have HI3 := Lib.hid hI3
  have Hc3 := Lib.hid hc3
  have Hg3 := Lib.hid hg3
  have Hw3 := Lib.hid hw3
  clear hown1 hgrow1 hnil1 B1 hdW hd1 hT' hc3 hg3 hI3 hR3 hT3 c3' hs3
  obtain ⟨i0, hi, hz0, hz1, hz2⟩ := info_parts frame_info
  clear hj hy0 hy1 hy2 i1
  obtain ⟨i1, hj, hy0, hy1, hy2⟩ := info_parts word_info
  have hmk : ∀ W : World, (Instr.makeSlice 57 (.int .i64 (page : Int)) (.int .i64 (page : Int))).run Try.prog W = .ok (.slice (some ⟨W.heap.size, 0, none⟩) page page) (W.alloc (.cells (zrow page) 29)) := fun W => by
    have h := run_make (P := Try.prog) W 57 29 i1 (.int .u64 0) Try.underlying57 hj hy0 .i64 .i64 (page : Int) (page : Int) (by omega) (by omega) (by rw [hy2]; omega) (by omega)
    rw [hy1, Int.toNat_natCast, made_words] at h
    exact h
  have hd3 : w3.heap[rb]? = some (.cells #[.int .i64 room, .int .i64 page, .slice aL fs.length cL, .slice aB' (freshS s).bk.length cB', .int .i64 (freshS s).n, .int .i64 s.high, .int .i64 s.times] 53 (0, 0)) := by
    have := HR3.out.head
    rw [freshS_high, freshS_times] at this
    exact this
  have a1 := at_cell hd3 1 _ rfl
  have a2 := at_cell hd3 2 _ rfl
  clear lrb
  have lrb := block_lt hd3
  obtain ⟨wb, hwb⟩ : ∃ wb, ((w3.alloc (.cells (zrow page) 29)).alloc (.cells #[.int .i64 (f0 : Int), .slice (some ⟨w3.heap.size, 0, none⟩) page page] 66)).drew = wb := ⟨_, rfl⟩
  have hcb : Chg (fun _ => False) w3 wb := by rw [← hwb]; exact (((Chg.refl _ w3).alloc _).alloc _).drew
  have hszb : wb.heap.size = w3.heap.size + 2 := by rw [← hwb]; show ((w3.alloc _).alloc _).heap.size = _; simp
  have hnewb : wb.heap[w3.heap.size]? = some (.cells (zrow page) 29 (0, 0)) := by
    rw [← hwb]
    show ((w3.alloc _).alloc _).heap[w3.heap.size]? = _
    rw [Below.heap_alloc _ _ _ (by simp)]
    exact heap_alloc_new w3 _
  have hlast : wb.heap[w3.heap.size + 1]? = some (.cells #[.int .i64 (f0 : Int), .slice (some ⟨w3.heap.size, 0, none⟩) page page] 66 (0, 0)) := by
    rw [← hwb]
    show ((w3.alloc _).alloc _).heap[w3.heap.size + 1]? = _
    have := heap_alloc_new (w3.alloc (.cells (zrow page) 29)) (.cells #[.int .i64 (f0 : Int), .slice (some ⟨w3.heap.size, 0, none⟩) page page] 66)
    simpa using this
  have hlb : wb.ownsRow (rb + 1) 66 2 (.slice aL fs.length cL) fs.length (fcells page fs) := own_from HR3.out.list fun q hq => hcb.2.2.2.2 q (HR3.out.list.lt q hq).2 id
  have hlen : fs.length ≤ 4096 := by have := Hlu.out; omega
  obtain ⟨g5, cap5, w5, hrun, hown5, hgrow5, hat5, hlt5⟩ := run_append_lies (P := Try.prog) wb 50 50 (rb + 1) 66 i0 (.agg #[.int .i64 0, .slice none 0 0]) 2 32 Try.underlying50 hi hz0 hz1 hz2 rfl (by decide) _ _ _ hlb ⟨w3.heap.size + 1, 0, none⟩ 1 1 [.int .i64 (f0 : Int), .slice (some ⟨w3.heap.size, 0, none⟩) page page] rfl (World.news_of_block hlast) (by intro u hu; simp at hu; rcases hu with rfl | rfl <;> rfl) (by omega) (by unfold maxLen; omega) (by omega) (by omega) (w3.heap.size + 2) hszb
  have hneL : some rb ≠ (Value.slice aL fs.length cL).ownBlock := fun e => by
    have := (HR3.out.list.lt rb e.symm).1
    omega
  have hd5 : w5.heap[rb]? = _ := (hgrow5.block rb (by omega) hneL).trans ((hcb.2.2.2.2 rb lrb id).trans hd3)
  have b2 := at_cell hd5 2 _ rfl
  have b2f := at_free hd5 2
  obtain ⟨w6, hw6⟩ : ∃ w6, w5.setCell ⟨rb, 2, none⟩ (.slice (some ⟨g5, 0, none⟩) (fs.length + 1) cap5) = w6 := ⟨_, rfl⟩
  have hd6 := heap_setCell_same w5 rb 2 _ _ (.slice (some ⟨g5, 0, none⟩) (fs.length + 1) cap5) hd5
  rw [hw6] at hd6
  have b6 := at_cell hd6 6 _ rfl
  have b6f := at_free hd6 6
  obtain ⟨w7, hw7⟩ : ∃ w7, w6.setCell ⟨rb, 6, none⟩ (.int .i64 ((s.times : Int) + 1)) = w7 := ⟨_, rfl⟩
  have hd7 := heap_setCell_same w6 rb 6 _ _ (.int .i64 ((s.times : Int) + 1)) hd6
  rw [hw7] at hd7
  have b72 := at_cell hd7 2 _ rfl
  have b75 := at_cell hd7 5 _ rfl
  have b75f := at_free hd7 5
  have a2b := at_cell (hcb.keep hd3 id) 2 _ rfl
  have Hcb := Lib.hid hcb
  have Hszb := Lib.hid hszb
  have Hnewb := Lib.hid hnewb
  have Hown5 := Lib.hid hown5
  have Hgrow5 := Lib.hid hgrow5
  have Hat5 := Lib.hid hat5
  have Hd7 := Lib.hid hd7
  have Hw6 := Lib.hid hw6
  have Hw7 := Lib.hid hw7
  clear hcb hszb hnewb hlast hlb hown5 hgrow5 hat5 hd3 hd5 hd6 hd7
  go_wp2
  go_region_law ((refine step_append_run _ (by rfl) (.tmp 59) (.tmp 67) 50 50 _ (by rfl) (by rfl) _ _ (by rfl) (by rfl) _ w5 hrun ?_))
  all_goals
    go_wp2
    go_region_law (fail)
    all_goals
      go_wp2
      all_goals
        go_ret2
        rw [Hnx2.out]
        exact ⟨rfl, RfDid.then Hc3.out Hg3.out (take_ref_close HR3.out HF.out Hk.out hu HT3.out HI3.out Hszb.out Hcb.out Hnewb.out (by rw [Hnx2.out]; exact Hown5.out) Hgrow5.out Hat5.out hlt5 Hw6.out Hw7.out Hd7.out _ (by have := Hlu.out; first | omega | (rename_i hmx; omega)))⟩
theorem refTake_any (T : Nat → Prop) (rb room page : Nat) (s : PS) (w : World) (hP : Rf T rb room page s w) (hk : s.ok room page) (ht : s.times ≤ 1000000000) :
    Calls Try.prog 14 #[.pointer (some ⟨rb, 0, none⟩)] w fun e w' => e = .returned (.tuple #[.int .i64 (takeE room s).1, .int .i64 (takeE room s).2]) ∧ RfDid T rb room page (takeT room s) w w' := by
  unfold takeE takeT
  by_cases h : s.used = room
  · rw [if_pos h, if_pos h]
    exact refTake_full T rb room page s w hP hk h
  · rw [if_neg h, if_neg h]
    have hu : s.used < room := by have := used_le hk; omega
    rcases List.eq_nil_or_concat s.bk with hb | ⟨l, f, hb⟩
    · exact refTake_new T rb room page s w hP hk hu ht hb
    · exact refTake_back T rb room page s w hP hk hu ht l f (by rw [hb, List.concat_eq_append])
end Go.Proofs.Ytoldbaandkgmkaa
