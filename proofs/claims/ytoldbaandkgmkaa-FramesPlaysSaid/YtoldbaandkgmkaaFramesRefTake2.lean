/- The walk of the reference's Take. -/
import Derived.Test.YtoldbaandkgmkaaFramesRefTake
namespace Go.Proofs.Ytoldbaandkgmkaa
open Go.ChangeShapes Go.WideShapes Go.ChangeAt Go.RowKit
set_option linter.unusedVariables false

theorem made_words (page : Nat) : madeCells (Value.int .u64 0).cells (page * 1) = zrow page := by
  apply Array.toList_inj.1
  rw [Nat.mul_one]
  show (madeCells #[Value.int .u64 0] page).toList = _
  rw [toList_madeCells_one]
  unfold zrow
  rw [ftab_replicate]
theorem RPool.drewN {rb room page cL cB : Nat} {aL aB : Option Addr} {fs : List (Nat × Nat)} {s : PS} {w : World} (h : RPool rb room page aL cL aB cB fs s w) (n : Nat) : RPool rb room page aL cL aB cB fs s (w.drewN n) :=
  ⟨h.head, own_from h.list fun _ _ => rfl, h.back.from fun _ _ => rfl, h.words, h.apart⟩
set_option maxRecDepth 100000 in
set_option maxHeartbeats 1000000 in
theorem refTake_full (T : Nat → Prop) (rb room page : Nat) (s : PS) (w : World) (hP : Rf T rb room page s w) (hk : s.ok room page) (hu : s.used = room) :
    Calls Try.prog 14 #[.pointer (some ⟨rb, 0, none⟩)] w fun e w' => e = .returned (.tuple #[.int .i64 0, .int .i64 14]) ∧ RfDid T rb room page s w w' := by
  have HP := Lib.hid hP
  obtain ⟨aL, cL, aB, cB, fs, hR, hF, -, -⟩ := hP
  have c0 := at_cell hR.head 0 _ rfl
  have c2 := at_cell hR.head 2 _ rfl
  rw [← hF.many, hu] at c2
  clear hR hF hk hu
  go_enter Try.func14, Try.ntmps14
  go_wp2
  go_quiet (fail)
  go_wp2
  go_ret2
  exact ⟨rfl, RfDid.of HP.out (below_drewN' _ _)⟩
theorem take_ref_close {T : Nat → Prop} {rb room page cL cB g5 cap5 : Nat} {aL aB : Option Addr} {fs : List (Nat × Nat)} {s : PS} {w3 wb w5 w6 w7 : World}
    (hR : RPool rb room page aL cL aB cB fs (freshS s) w3) (hF : RelP fs s) (hk : s.ok room page) (hu : s.used < room)
    (ht : T rb ∧ (∀ a, aL = some a → T a.block) ∧ (∀ a, aB = some a → T a.block) ∧ ∀ i, i < fs.length → T (fG fs i)) (hI : In T w3)
    (hsz : wb.heap.size = w3.heap.size + 2) (hc : Chg (fun _ => False) w3 wb) (hnew : wb.heap[w3.heap.size]? = some (.cells (zrow page) 29 (0, 0)))
    (hown : w5.ownsRow (rb + 1) 66 2 (.slice (some ⟨g5, 0, none⟩) (fs.length + 1) cap5) (fs.length + 1) (fcells page fs ++ [.int .i64 (nextF s), .slice (some ⟨w3.heap.size, 0, none⟩) page page]))
    (hgrow : wb.grownBy w5 (Value.slice aL fs.length cL).ownBlock) (hat : (Value.slice aL fs.length cL).ownBlock = some g5 ∨ g5 = w3.heap.size + 2) (hlt : g5 < w5.heap.size)
    (hw6 : w5.setCell ⟨rb, 2, none⟩ (.slice (some ⟨g5, 0, none⟩) (fs.length + 1) cap5) = w6) (hw7 : w6.setCell ⟨rb, 6, none⟩ (.int .i64 ((s.times : Int) + 1)) = w7)
    (hd7 : w7.heap[rb]? = some (.cells ((#[.int .i64 room, .int .i64 page, .slice aL fs.length cL, .slice aB (freshS s).bk.length cB, .int .i64 (freshS s).n, .int .i64 s.high, .int .i64 s.times].setIfInBounds 2 (.slice (some ⟨g5, 0, none⟩) (fs.length + 1) cap5)).setIfInBounds 6 (.int .i64 ((s.times : Int) + 1))) 53 (0, 0)))
    (X : Int) (hX : X = max (s.high : Int) ((s.used : Int) + 1)) :
    RfDid T rb room page (takeS s) w3 (w7.setCell ⟨rb, 5, none⟩ (.int .i64 X)).drew := by
  have hXn : X = ((max s.high (s.used + 1) : Nat) : Int) := by omega
  refine take_ref_end hR hF hk hu ht hI hsz hc hnew hown hgrow hat hlt ?_ ?_ ?_
  · rw [← hw7, ← hw6]
    exact ((((Chg.refl (· = rb) w5).set (p := ⟨rb, 2, none⟩) (.inl rfl) _).set (p := ⟨rb, 6, none⟩) (.inl rfl) _).set (p := ⟨rb, 5, none⟩) (.inl rfl) _).drew
  · rw [← hw7, ← hw6]
    show (((w5.setCell _ _).setCell _ _).setCell _ _).heap.size = _
    simp [World.setCell]
  · show (w7.setCell ⟨rb, 5, none⟩ (.int .i64 X)).heap[rb]? = _
    rw [heap_setCell_same _ rb 5 _ _ _ hd7, hXn]
    rfl
set_option maxRecDepth 100000 in
set_option maxHeartbeats 4000000 in
theorem refTake_new (T : Nat → Prop) (rb room page : Nat) (s : PS) (w : World) (hP : Rf T rb room page s w) (hk : s.ok room page) (hu : s.used < room) (ht : s.times ≤ 1000000000) (hbk : s.bk = []) :
    Calls Try.prog 14 #[.pointer (some ⟨rb, 0, none⟩)] w fun e w' => e = .returned (.tuple #[.int .i64 (nextF s), .int .i64 0]) ∧ RfDid T rb room page (takeS s) w w' := by
  obtain ⟨aL, cL, aB, cB, fs, hR, hF, hT, hI⟩ := hP
  have c0 := at_cell hR.head 0 _ rfl
  have c2 := at_cell hR.head 2 _ rfl
  have hlu := hF.many
  have hur : ¬ (fs.length : Int) = room := by omega
  have hnx : nextF s = s.n := by unfold nextF; rw [hbk]; rfl
  have hfr : freshS s = moreS s := by unfold freshS; rw [if_pos hbk]
  have hr0 := hk.room1
  have hp0 := hk.page1
  have hhigh := hk.high
  have HR := Lib.hid hR
  have HF := Lib.hid hF
  have Hk := Lib.hid hk
  have HT := Lib.hid hT
  have HI := Lib.hid hI
  have Hnx := Lib.hid hnx
  have Hfr := Lib.hid hfr
  have Hbk := Lib.hid hbk
  have Hlu := Lib.hid hlu
  clear hR hF hk hT hI hnx hfr hbk hlu
  go_enter Try.func14, Try.ntmps14
  go_wp2
  go_quiet (fail)
  clear c0 c2
  have HRn := Lib.hid (HR.out.drewN nq)
  have hcW : Chg (fun _ => False) w (w.drewN nq) := Chg.of (below_drewN' _ _)
  have HcW := Lib.hid hcW
  clear hcW
  generalize w.drewN nq = W at *
  have hdW := HRn.out.head
  have c3 := at_cell hdW 3 _ rfl
  have c4 := at_cell hdW 4 _ rfl
  have f4 := at_free hdW 4
  rw [show s.bk.length = 0 by rw [Hbk.out]; rfl] at c3
  obtain ⟨f0, hf0⟩ : ∃ f0, s.n = f0 := ⟨_, rfl⟩
  rw [hf0] at c4
  have Hf0 := Lib.hid hf0
  have hf4 : f0 ≤ 4096 := by have := Hk.out.few; omega
  clear hf0
  obtain ⟨w3, hw3⟩ : ∃ w3, W.setCell ⟨rb, 4, none⟩ (.int .i64 ((f0 : Int) + 1)) = w3 := ⟨_, rfl⟩
  have HR3 : Hid (RPool rb room page aL cL aB cB fs (freshS s) w3) := Lib.hid (by
    rw [Hfr.out, ← hw3]
    refine ⟨?_, own_from HRn.out.list fun q hq => far (by have := (HRn.out.list.lt q hq).1; show q ≠ rb; omega), HRn.out.back.headSet 4 _, ?_, HRn.out.apart⟩
    · rw [heap_setCell_same _ rb 4 _ _ _ hdW, ← Hf0.out]
      rfl
    · rw [← Hfr.out]
      exact words_fresh HF.out HRn.out.words fun i hi => far (by have := (HRn.out.words i hi).1; show fG fs i ≠ rb; omega))
  have Hw3 := Lib.hid hw3
  have HT3 := HT
  have HI3 := Lib.hid (HI.out.mono (w' := w3) (by rw [← hw3]; have := HcW.out.size; simpa [World.setCell] using this))
  have Hnx2 := Lib.hid (Hnx.out.trans Hf0.out)
  clear hdW Hnx Hf0
  obtain ⟨aB', cB', HR3, HT3⟩ : ∃ aB' cB', Hid (RPool rb room page aL cL aB' cB' fs (freshS s) w3) ∧ Hid (T rb ∧ (∀ a, aL = some a → T a.block) ∧ (∀ a, aB' = some a → T a.block) ∧ ∀ i, i < fs.length → T (fG fs i)) := ⟨aB, cB, HR3, HT3⟩
  obtain ⟨i0, hi, hz0, hz1, hz2⟩ := info_parts frame_info
  obtain ⟨i1, hj, hy0, hy1, hy2⟩ := info_parts word_info
  have hmk : ∀ W : World, (Instr.makeSlice 57 (.int .i64 (page : Int)) (.int .i64 (page : Int))).run Try.prog W = .ok (.slice (some ⟨W.heap.size, 0, none⟩) page page) (W.alloc (.cells (zrow page) 29)) := fun W => by
    have h := run_make (P := Try.prog) W 57 29 i1 (.int .u64 0) Try.underlying57 hj hy0 .i64 .i64 (page : Int) (page : Int) (by omega) (by omega) (by rw [hy2]; omega) (by omega)
    rw [hy1, Int.toNat_natCast, made_words] at h
    exact h
  have hd3 : w3.heap[rb]? = some (.cells #[.int .i64 room, .int .i64 page, .slice aL fs.length cL, .slice aB' (freshS s).bk.length cB', .int .i64 (freshS s).n, .int .i64 s.high, .int .i64 s.times] 53 (0, 0)) := by
    have := HR3.out.head
    rw [freshS_high, freshS_times] at this
    exact this
  have a1 := at_cell hd3 1 _ rfl
  have a2 := at_cell hd3 2 _ rfl
  have lrb := block_lt hd3
  obtain ⟨wb, hwb⟩ : ∃ wb, ((w3.alloc (.cells (zrow page) 29)).alloc (.cells #[.int .i64 (f0 : Int), .slice (some ⟨w3.heap.size, 0, none⟩) page page] 66)).drew = wb := ⟨_, rfl⟩
  have hcb : Chg (fun _ => False) w3 wb := by rw [← hwb]; exact (((Chg.refl _ w3).alloc _).alloc _).drew
  have hszb : wb.heap.size = w3.heap.size + 2 := by rw [← hwb]; show ((w3.alloc _).alloc _).heap.size = _; simp
  have hnewb : wb.heap[w3.heap.size]? = some (.cells (zrow page) 29 (0, 0)) := by
    rw [← hwb]
    show ((w3.alloc _).alloc _).heap[w3.heap.size]? = _
    rw [Below.heap_alloc _ _ _ (by simp)]
    exact heap_alloc_new w3 _
  have hlast : wb.heap[w3.heap.size + 1]? = some (.cells #[.int .i64 (f0 : Int), .slice (some ⟨w3.heap.size, 0, none⟩) page page] 66 (0, 0)) := by
    rw [← hwb]
    show ((w3.alloc _).alloc _).heap[w3.heap.size + 1]? = _
    have := heap_alloc_new (w3.alloc (.cells (zrow page) 29)) (.cells #[.int .i64 (f0 : Int), .slice (some ⟨w3.heap.size, 0, none⟩) page page] 66)
    simpa using this
  have hlb : wb.ownsRow (rb + 1) 66 2 (.slice aL fs.length cL) fs.length (fcells page fs) := own_from HR3.out.list fun q hq => hcb.2.2.2.2 q (HR3.out.list.lt q hq).2 id
  have hlen : fs.length ≤ 4096 := by have := Hlu.out; omega
  obtain ⟨g5, cap5, w5, hrun, hown5, hgrow5, hat5, hlt5⟩ := run_append_lies (P := Try.prog) wb 50 50 (rb + 1) 66 i0 (.agg #[.int .i64 0, .slice none 0 0]) 2 32 Try.underlying50 hi hz0 hz1 hz2 rfl (by decide) _ _ _ hlb ⟨w3.heap.size + 1, 0, none⟩ 1 1 [.int .i64 (f0 : Int), .slice (some ⟨w3.heap.size, 0, none⟩) page page] rfl (World.news_of_block hlast) (by intro u hu; simp at hu; rcases hu with rfl | rfl <;> rfl) (by omega) (by unfold maxLen; omega) (by omega) (by omega) (w3.heap.size + 2) hszb
  have hneL : some rb ≠ (Value.slice aL fs.length cL).ownBlock := fun e => by
    have := (HR3.out.list.lt rb e.symm).1
    omega
  have hd5 : w5.heap[rb]? = _ := (hgrow5.block rb (by omega) hneL).trans ((hcb.2.2.2.2 rb lrb id).trans hd3)
  have b2 := at_cell hd5 2 _ rfl
  have b2f := at_free hd5 2
  obtain ⟨w6, hw6⟩ : ∃ w6, w5.setCell ⟨rb, 2, none⟩ (.slice (some ⟨g5, 0, none⟩) (fs.length + 1) cap5) = w6 := ⟨_, rfl⟩
  have hd6 := heap_setCell_same w5 rb 2 _ _ (.slice (some ⟨g5, 0, none⟩) (fs.length + 1) cap5) hd5
  rw [hw6] at hd6
  have b6 := at_cell hd6 6 _ rfl
  have b6f := at_free hd6 6
  obtain ⟨w7, hw7⟩ : ∃ w7, w6.setCell ⟨rb, 6, none⟩ (.int .i64 ((s.times : Int) + 1)) = w7 := ⟨_, rfl⟩
  have hd7 := heap_setCell_same w6 rb 6 _ _ (.int .i64 ((s.times : Int) + 1)) hd6
  rw [hw7] at hd7
  have b72 := at_cell hd7 2 _ rfl
  have b75 := at_cell hd7 5 _ rfl
  have b75f := at_free hd7 5
  have a2b := at_cell (hcb.keep hd3 id) 2 _ rfl
  have Hcb := Lib.hid hcb
  have Hszb := Lib.hid hszb
  have Hnewb := Lib.hid hnewb
  have Hown5 := Lib.hid hown5
  have Hgrow5 := Lib.hid hgrow5
  have Hat5 := Lib.hid hat5
  have Hd7 := Lib.hid hd7
  have Hw6 := Lib.hid hw6
  have Hw7 := Lib.hid hw7
  clear hcb hszb hnewb hlast hlb hown5 hgrow5 hat5 hd3 hd5 hd6 hd7
  go_wp2
  go_region_law ((refine step_append_run _ (by rfl) (.tmp 59) (.tmp 67) 50 50 _ (by rfl) (by rfl) _ _ (by rfl) (by rfl) _ w5 hrun ?_))
  all_goals
    go_wp2
    go_region_law (fail)
    all_goals
      go_wp2
      all_goals
        go_ret2
        rw [Hnx2.out]
        exact ⟨rfl, RfDid.then (Chg.trans (HcW.out.mono (fun _ _ h => h.elim)) (by rw [← Hw3.out]; exact (Chg.refl T W).set (p := ⟨rb, 4, none⟩) (.inl HT.out.1) _) (fun _ _ h => h)) (Grew.refl _ _) (take_ref_close HR3.out HF.out Hk.out hu HT3.out HI3.out Hszb.out Hcb.out Hnewb.out (by rw [Hnx2.out]; exact Hown5.out) Hgrow5.out Hat5.out hlt5 Hw6.out Hw7.out Hd7.out _ (by have := Hlu.out; first | omega | (rename_i hmx; omega)))⟩
end Go.Proofs.Ytoldbaandkgmkaa
