/- The walk of the reference's Give: all together. -/
import Derived.Test.YtoldbaandkgmkaaFramesRefGive
namespace Go.Proofs.Ytoldbaandkgmkaa
open Go.ChangeShapes Go.WideShapes Go.ChangeAt Go.RowKit
set_option linter.unusedVariables false

set_option maxRecDepth 100000 in
set_option maxHeartbeats 4000000 in
theorem refGive_any (T : Nat → Prop) (rb room page : Nat) (s : PS) (w : World) (hP : Rf T rb room page s w) (hk : s.ok room page) (f : Int) :
    Calls Try.prog 15 #[.pointer (some ⟨rb, 0, none⟩), .int .i64 f] w fun e w' => e = .returned (.int .i64 (giveE s f)) ∧ RfDid T rb room page (giveS s f) w w' := by
  have HP := Lib.hid hP
  obtain ⟨aL, cL, aB, cB, fs, hR, hF, ht, hI⟩ := hP
  have hlen : fs.length ≤ 4096 := by
    have := used_le hk
    have := hk.room1
    have := hF.many
    omega
  unfold giveE giveS
  by_cases h : has s f = true
  · rw [if_pos h, if_pos h]
    obtain ⟨i, hi, hat, hfi⟩ := hF.at h
    have Hat := Lib.hid (refAt_any rb room page cL cB aL aB fs s w hR hlen f i hat)
    obtain ⟨g, rfl, hg1, hg2⟩ := hR.form (by omega)
    have c2 := at_cell hR.head 2 _ rfl
    have f2 := at_free hR.head 2
    have lrb := block_lt hR.head
    have hbk : s.bk.length ≤ 4096 := by
      have := hk.less
      have := hk.few
      have := hk.room1
      omega
    have hcap : fs.length ≤ cL := by
      rcases hR.list.2 with ⟨e, -⟩ | ⟨g, c, cur, e, h1, h2, h3, -⟩
      · cases e
      · simp at e; omega
    have hcapm : cL ≤ maxLen := by
      rcases hR.list.2 with ⟨e, -⟩ | ⟨g, c, cur, e, h1, h2, h3, h4, -⟩
      · cases e
      · simp at e; omega
    unfold maxLen at hcapm
    obtain ⟨i0, hi0, hz0, hz1, hz2⟩ := info_parts frame_info
    obtain ⟨i1, hj0, hy0, hy1, hy2⟩ := info_parts int_info
    have hii : (0 : Int) ≤ i := by omega
    have hi2 : (i : Int) < fs.length := by omega
    have hi3 : (i : Int) ≤ 5000 := by omega
    obtain ⟨ad, had⟩ : ∃ ad : Addr, ad = if cL = i + 1 then ⟨g, 0, none⟩ else ⟨g, (i + 1) * 2, none⟩ := ⟨_, rfl⟩
    have hsl : ∀ W : World, (Instr.slice 50 (.slice (some ⟨g, 0, none⟩) fs.length cL) (some (.int .i64 ((i : Int) + 1))) none none).run Try.prog W = .ok (.slice (some ad) (fs.length - (i + 1)) (cL - (i + 1))) W := fun W => by
      have e2 : (sizeOf (Try.prog.elem 50)).run Try.prog W = .ok 2 W := by kernel_rfl
      rw [run_slice_l (P := Try.prog) W 50 (some ⟨g, 0, none⟩) fs.length cL (by kernel_rfl) .i64 ((i : Int) + 1) (by omega) (by omega), e2]
      show Result.ok (sliced _ _ _ _ _) W = _
      unfold sliced
      rw [had, show ((i : Int) + 1).toNat = i + 1 by omega]
      split
      · rfl
      · simp only [Option.map_some, add_off, Nat.zero_add]
    have Had := Lib.hid (show 0 < fs.length - (i + 1) → ad = ⟨g, (i + 1) * 2, none⟩ from fun hh => by rw [had, if_neg (by omega)])
    have HR := Lib.hid hR
    have HF := Lib.hid hF
    have Ht := Lib.hid ht
    have HI := Lib.hid hI
    have Hfi := Lib.hid hfi
    clear had hR hF ht hI hat hfi h hk
    go_enter Try.func15, Try.ntmps15
    go_wp2_with (first | (go_at_call 27; refine Hat.out.mono ?_; rintro e w1 ⟨rfl, rfl⟩) | (at_builtin; refine wpList_append_own _ rfl (.tmp 12) (.tmp 18) 50 rfl w.heap.size 66 i0 (.agg #[.int .i64 0, .slice none 0 0]) 2 32 Try.underlying50 hi0 hz0 hz1 hz2 rfl (by decide) _ _ _ rfl (World.ownsRow_nil w w.heap.size 66 2) ⟨g, 0, none⟩ i cL (fcells page (fs.take i)) rfl ?c1 ?c2 ?c3 ?c4 ?c5 ?c6 ?_))
    case c1 => rw [fcells_length, List.length_take]; omega
    case c2 =>
      intro j u hu
      rw [← fcells_take] at hu
      rw [add_off, Nat.zero_add]
      have hj : j < i * 2 := by
        have := (List.getElem?_eq_some_iff.1 hu).1
        simp at this
        omega
      rw [List.getElem?_take_of_lt hj] at hu
      exact (HR.out.list.cellAt j (by omega)).trans hu
    case c3 => exact fcells_one _ _
    case c4 => unfold maxLen; omega
    case c5 => omega
    case c6 => exact Nat.le_refl _
    intro v1 w1 hown1 hgrow1 hnil1
    have hne1 : ∀ q, v1.ownBlock = some q → w.heap.size ≤ q := fun q hq => (hown1.lt q hq).1
    have B1 : Below w.heap.size w w1 := ⟨hgrow1.os, hgrow1.tape, hgrow1.output, hgrow1.size, fun q hq => hgrow1.block q hq (by simp [Value.ownBlock])⟩
    have d1 := cellB B1 (Nat.le_refl _) c2
    have e1 := (B1.frozen (p := ⟨rb, 2, none⟩) lrb).trans f2
    have HO1 := Lib.hid (own_from (w' := w1) HR.out.list (fun q hq => B1.block q (by have := (HR.out.list.lt q hq).2; omega)))
    have hsz1 := B1.size
    have Hown1 := Lib.hid hown1
    have Hne1 := Lib.hid hne1
    have HB1 := Lib.hid B1
    clear hown1 hgrow1 hnil1 hne1 B1 c2 f2
    go_wp2_with (at_builtin; refine wpList_append_own _ rfl (.tmp 21) (.tmp 28) 50 rfl w.heap.size 66 i0 (.agg #[.int .i64 0, .slice none 0 0]) 2 32 Try.underlying50 hi0 hz0 hz1 hz2 rfl (by decide) _ _ _ rfl Hown1.out ad (fs.length - (i + 1)) (cL - (i + 1)) (fcells page (fs.drop (i + 1))) rfl ?d1 ?d2 ?d3 ?d4 ?d5 ?d6 ?_)
    case d1 => rw [fcells_length, List.length_drop]
    case d2 =>
      intro j u hu
      have hj : j < (fs.length - (i + 1)) * 2 := by
        have := (List.getElem?_eq_some_iff.1 hu).1
        rw [fcells_length, List.length_drop] at this
        exact this
      rw [Had.out (by omega), add_off]
      rw [← fcells_drop, List.getElem?_drop] at hu
      exact (HO1.out.cellAt ((i + 1) * 2 + j) (by omega)).trans hu
    case d3 => exact fcells_one _ _
    case d4 => unfold maxLen; omega
    case d5 => omega
    case d6 => omega
    intro v2 w2 hown2 hgrow2 hnil2
    obtain ⟨a2, cap2, rfl⟩ : ∃ a2 cap2, v2 = .slice a2 (i + (fs.length - (i + 1))) cap2 := by
      rcases hown2.2 with ⟨e, e0⟩ | ⟨g2, c2, cur2, e, -⟩
      · exact ⟨none, 0, by rw [e, e0]⟩
      · exact ⟨_, _, e⟩
    have B2 : Below w.heap.size w w2 := ⟨hgrow2.os.trans HB1.out.os, hgrow2.tape.trans HB1.out.tape, hgrow2.output.trans HB1.out.output, Nat.le_trans hsz1 hgrow2.size, fun q hq => (hgrow2.block q (by omega) (fun e => by have := Hne1.out q e.symm; omega)).trans (HB1.out.block q hq)⟩
    have hd2 := blockB B2 (Nat.le_refl _) HR.out.head
    have d2 := at_cell hd2 2 _ rfl
    have e2 := at_free hd2 2
    have hsz2 := B2.size
    obtain ⟨w3, hw3⟩ : ∃ w3, w2.setCell ⟨rb, 2, none⟩ (.slice a2 (i + (fs.length - (i + 1))) cap2) = w3 := ⟨_, rfl⟩
    have hd3 := heap_setCell_same w2 rb 2 _ _ (.slice a2 (i + (fs.length - (i + 1))) cap2) hd2
    rw [hw3] at hd3
    have d3 := at_cell hd3 3 _ rfl
    have hs3 : w2.heap.size ≤ w3.heap.size := by rw [← hw3]; simp [World.setCell]
    have hb3 : w3.ownsRow (rb + 1) 3 1 (.slice aB s.bk.length cB) s.bk.length (ftab s.bk.length (backV s)) := by
      have h2 : OwnF (rb + 1) 3 (.slice aB s.bk.length cB) s.bk.length (backV s) w2 := HR.out.back.from fun q hq => B2.block q (HR.out.back.lt q hq).2
      rw [← hw3]; exact h2.headSet 2 _
    have Hb3 := Lib.hid hb3
    have Hown2 := Lib.hid hown2
    have HB2 := Lib.hid B2
    have Hd3 := Lib.hid hd3
    have Hw3 := Lib.hid hw3
    clear hown2 hgrow2 hnil2 B2 d1 e1 hsl hd2 hd3 hb3
    go_wp2_with (at_builtin; refine wpList_append_lies _ rfl (.tmp 36) (.tmp 38) 51 rfl (rb + 1) 3 i1 (.int .i64 0) 1 8 Try.underlying51 hj0 hy0 hy1 hy2 rfl (by decide) _ _ _ rfl (Hb3.out.alloc _) ⟨w3.heap.size, 0, none⟩ 1 1 [.int .i64 f] rfl rfl ?k1 ?k2 ?k3 ?k4 ?k5 ?k6 (w3.heap.size + 1) ?k7 ?_)
    case k1 => exact World.news_of_block (heap_alloc_new w3 (.cells #[.int .i64 f] 3))
    case k2 => intro u hu; simp at hu; subst hu; rfl
    case k3 => omega
    case k4 => unfold maxLen; omega
    case k5 => omega
    case k6 => simp; omega
    case k7 => simp
    intro g5 cap5 w5 hown5 hgrow5 hat5 hlt5
    have hne5 : some rb ≠ (Value.slice aB s.bk.length cB).ownBlock := fun e => by
      have := (Hb3.out.lt rb e.symm).1
      omega
    have hd5 := (hgrow5.block rb (by simp; omega) hne5).trans (blockB (below_new w3 _) (Nat.le_refl _) Hd3.out)
    have e3 := at_cell hd5 3 _ rfl
    have f3 := at_free hd5 3
    have Hres := Lib.hid (give_ref HR.out HF.out hi Hfi.out Ht.out HI.out HB2.out Hown2.out Hw3.out hown5 hgrow5 hat5 hlt5 hd5)
    clear hown5 hgrow5 hat5 hd5 d2 e2 d3 hw3
    go_wp2
    go_ret
    exact ⟨rfl, Hres.out⟩
  · rw [if_neg h, if_neg h]
    have Hat := Lib.hid (refAt_any rb room page cL cB aL aB fs s w hR hlen f (-1) (hF.not h))
    clear hR hF ht hI h hk
    go_enter Try.func15, Try.ntmps15
    go_wp2_with (go_at_call 27; refine Hat.out.mono ?_; rintro e w1 ⟨rfl, rfl⟩)
    go_ret
    exact ⟨rfl, RfDid.of HP.out (Below.refl _ _)⟩
end Go.Proofs.Ytoldbaandkgmkaa
