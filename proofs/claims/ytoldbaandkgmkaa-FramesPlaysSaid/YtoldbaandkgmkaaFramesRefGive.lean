/- The walk of the reference's Give. -/
import Derived.Test.YtoldbaandkgmkaaFramesRefW2
namespace Go.Proofs.Ytoldbaandkgmkaa
open Go.ChangeShapes Go.WideShapes Go.ChangeAt Go.RowKit
set_option linter.unusedVariables false

theorem fF_cut (es : List (Nat × Nat)) (k i : Nat) (hk : k < es.length) : fF (es.take k ++ es.drop (k + 1)) i = if i < k then fF es i else fF es (i + 1) := by
  unfold fF
  rw [List.getD_eq_getElem?_getD, List.getElem?_append]
  have : (es.take k).length = k := by simp; omega
  rw [this]
  split
  · rename_i h
    rw [List.getElem?_take_of_lt h, List.getD_eq_getElem?_getD]
  · rw [List.getElem?_drop, show k + 1 + (i - k) = i + 1 by omega, List.getD_eq_getElem?_getD]
theorem fG_cut (es : List (Nat × Nat)) (k i : Nat) (hk : k < es.length) : fG (es.take k ++ es.drop (k + 1)) i = if i < k then fG es i else fG es (i + 1) := by
  unfold fG
  rw [List.getD_eq_getElem?_getD, List.getElem?_append]
  have : (es.take k).length = k := by simp; omega
  rw [this]
  split
  · rename_i h
    rw [List.getElem?_take_of_lt h, List.getD_eq_getElem?_getD]
  · rw [List.getElem?_drop, show k + 1 + (i - k) = i + 1 by omega, List.getD_eq_getElem?_getD]
theorem has_give (s : PS) (f g : Int) (h0 : 0 ≤ f) : has (giveT s f.toNat) g = (!decide (g = f) && has s g) := by
  unfold has
  show (decide (0 ≤ g ∧ g < (s.n : Int)) && if g.toNat = f.toNat then false else s.tk g.toNat) = _
  by_cases e : g = f
  · subst e
    rw [if_pos rfl]
    simp
  · by_cases h1 : 0 ≤ g
    · rw [if_neg (by omega), decide_eq_false e]
      simp
    · rw [decide_eq_false (by omega)]
      simp
/-- the place of the i-th entry in the list before the k-th was cut out -/
theorem cut_index {n k i : Nat} (hk : k < n) (hi : i < n - 1) : (if i < k then i else i + 1) < n ∧ (if i < k then i else i + 1) ≠ k := by split <;> omega
theorem fF_cut' (es : List (Nat × Nat)) (k i : Nat) (hk : k < es.length) : fF (es.take k ++ es.drop (k + 1)) i = fF es (if i < k then i else i + 1) := by rw [fF_cut es k i hk]; split <;> rfl
theorem fG_cut' (es : List (Nat × Nat)) (k i : Nat) (hk : k < es.length) : fG (es.take k ++ es.drop (k + 1)) i = fG es (if i < k then i else i + 1) := by rw [fG_cut es k i hk]; split <;> rfl
theorem cut_length {es : List (Nat × Nat)} {k : Nat} (hk : k < es.length) : (es.take k ++ es.drop (k + 1)).length = k + (es.length - (k + 1)) := by simp; omega
theorem RelP.give {fs : List (Nat × Nat)} {s : PS} (h : RelP fs s) {k : Nat} (hk : k < fs.length) {f : Int} (hf : (fF fs k : Int) = f) : RelP (fs.take k ++ fs.drop (k + 1)) (giveT s f.toNat) := by
  have hl := cut_length hk
  have h0 : 0 ≤ f := by omega
  refine ⟨fun i hi => ?_, fun g hg => ?_, fun i j hi hj e => ?_, ?_⟩
  · rw [hl] at hi
    obtain ⟨a, c⟩ := cut_index (i := i) hk (by omega)
    rw [fF_cut' fs k i hk, has_give s f _ h0, decide_eq_false (fun e => c (h.once _ _ a hk (by omega))), h.each _ a]
    rfl
  · rw [has_give s f g h0] at hg
    simp at hg
    obtain ⟨i, hi, e⟩ := h.all g hg.2
    have hik : i ≠ k := fun e2 => hg.1 (by rw [← e, e2, hf])
    by_cases c : i < k
    · exact ⟨i, by rw [hl]; omega, by rw [fF_cut' fs k i hk, if_pos c]; exact e⟩
    · exact ⟨i - 1, by rw [hl]; omega, by rw [fF_cut' fs k _ hk, if_neg (by omega), show i - 1 + 1 = i by omega]; exact e⟩
  · rw [hl] at hi hj
    rw [fF_cut' fs k i hk, fF_cut' fs k j hk] at e
    obtain ⟨a, c⟩ := cut_index (i := i) hk (by omega)
    obtain ⟨a2, c2⟩ := cut_index (i := j) hk (by omega)
    have := h.once _ _ a a2 e
    split at this <;> split at this <;> omega
  · have := h.many
    show s.used - 1 = _
    rw [hl]
    omega
/-- the list without its k-th entry, and f given back -/
theorem give_ref {T : Nat → Prop} {rb room page cL cB k cap2 g5 cap5 : Nat} {aL aB a2 : Option Addr} {fs : List (Nat × Nat)} {s : PS} {f : Int} {w w2 w3 w5 : World}
    (hR : RPool rb room page aL cL aB cB fs s w) (hF : RelP fs s) (hk : k < fs.length) (hf : (fF fs k : Int) = f) (ht : T rb ∧ (∀ a, aL = some a → T a.block) ∧ (∀ a, aB = some a → T a.block) ∧ ∀ i, i < fs.length → T (fG fs i)) (hI : In T w)
    (hb2 : Below w.heap.size w w2) (hown2 : w2.ownsRow w.heap.size 66 2 (.slice a2 (k + (fs.length - (k + 1))) cap2) (k + (fs.length - (k + 1))) (fcells page (fs.take k) ++ fcells page (fs.drop (k + 1))))
    (hw3 : w2.setCell ⟨rb, 2, none⟩ (.slice a2 (k + (fs.length - (k + 1))) cap2) = w3)
    (hown5 : w5.ownsRow (rb + 1) 3 1 (.slice (some ⟨g5, 0, none⟩) (s.bk.length + 1) cap5) (s.bk.length + 1) (ftab s.bk.length (backV s) ++ [.int .i64 f]))
    (hgrow : (w3.alloc (.cells #[.int .i64 f] 3)).grownBy w5 (Value.slice aB s.bk.length cB).ownBlock) (hat : (Value.slice aB s.bk.length cB).ownBlock = some g5 ∨ g5 = w3.heap.size + 1) (hlt : g5 < w5.heap.size)
    (hd5 : w5.heap[rb]? = some (.cells (#[.int .i64 room, .int .i64 page, .slice aL fs.length cL, .slice aB s.bk.length cB, .int .i64 s.n, .int .i64 s.high, .int .i64 s.times].setIfInBounds 2 (.slice a2 (k + (fs.length - (k + 1))) cap2)) 53 (0, 0))) :
    RfDid T rb room page (giveT s f.toNat) w (w5.setCell ⟨rb, 3, none⟩ (.slice (some ⟨g5, 0, none⟩) (s.bk.length + 1) cap5)) := by
  obtain ⟨t1, t2, t3, t4⟩ := ht
  have hl := cut_length hk
  have hs2 := hb2.size
  have hs3 : w3.heap.size = w2.heap.size := by rw [← hw3]; simp [World.setCell]
  have hs5 : w3.heap.size + 1 ≤ w5.heap.size := by have := hgrow.size; simpa using this
  have lrb := block_lt hR.head
  have hfin : (w5.setCell ⟨rb, 3, none⟩ (.slice (some ⟨g5, 0, none⟩) (s.bk.length + 1) cap5)).heap.size = w5.heap.size := by simp [World.setCell]
  have hfn : ((f.toNat : Nat) : Int) = f := by omega
  have hb3 : OwnF (rb + 1) 3 (.slice aB s.bk.length cB) s.bk.length (backV s) w3 := by
    have h2 : OwnF (rb + 1) 3 (.slice aB s.bk.length cB) s.bk.length (backV s) w2 := hR.back.from fun q hq => hb2.block q (hR.back.lt q hq).2
    rw [← hw3]; exact h2.headSet 2 _
  have old5 : ∀ q, q < w3.heap.size → some q ≠ (Value.slice aB s.bk.length cB).ownBlock → w5.heap[q]? = w3.heap[q]? := fun q hq hn => (hgrow.block q (by simp; omega) hn).trans (Below.heap_alloc w3 _ q hq)
  have hback : OwnF (rb + 1) 3 (.slice (some ⟨g5, 0, none⟩) (giveT s f.toNat).bk.length cap5) (giveT s f.toNat).bk.length (backV (giveT s f.toNat)) w5 := by
    unfold OwnF
    rw [← pushed_back, hfn]
    have : (giveT s f.toNat).bk.length = s.bk.length + 1 := by simp [giveT]
    rw [this]
    exact hown5
  -- a block of another type than int that w3 has is in w5 as it was
  have keep5 : ∀ {q : Nat} {c : Array Value} {t : TypeId}, w3.heap[q]? = some (.cells c t (0, 0)) → t ≠ 3 → w5.heap[q]? = some (.cells c t (0, 0)) := fun {q c t} hq hne => by
    rw [old5 q (block_lt hq) (fun e => ?_)]
    · exact hq
    · obtain ⟨cur, hc⟩ := hb3.block q e.symm
      rw [hq] at hc
      simp at hc
      exact hne hc.2
  have c3 : Chg T w w3 := by rw [← hw3]; exact (Chg.of hb2).set (p := ⟨rb, 2, none⟩) (.inl t1) _
  have c5 : Chg T w w5 := (c3.alloc (.cells #[.int .i64 f] 3)).trans (T := fun q => T q ∨ w.heap.size ≤ q) ⟨hgrow.os, hgrow.tape, hgrow.output, hgrow.size, fun q hq hn => hgrow.block q hq (fun e => by
    obtain ⟨ad, e1, e2⟩ := own_of_some e.symm
    exact hn (.inl (by rw [← e2]; exact t3 ad e1)))⟩ (fun q hq h => h.resolve_right (by omega))
  refine ⟨fun q => T q ∨ (w.heap.size ≤ q ∧ q < w5.heap.size), ⟨a2, cap2, some ⟨g5, 0, none⟩, cap5, fs.take k ++ fs.drop (k + 1), ⟨?_, ?_, hback.headSet 3 _, ?_, ?_⟩, hF.give hk hf, ⟨.inl t1, ?_, ?_, ?_⟩, ?_⟩, c5.set (p := ⟨rb, 3, none⟩) (.inl t1) _, ?_⟩
  · rw [heap_setCell_same _ rb 3 _ _ _ hd5, hl]
    have : (giveT s f.toNat).bk.length = s.bk.length + 1 := by simp [giveT]
    rw [this]
    rfl
  · rw [hl, fcells_append]
    have h2 := own_from (w' := w5.setCell ⟨rb, 3, none⟩ (.slice (some ⟨g5, 0, none⟩) (s.bk.length + 1) cap5)) hown2 (fun q hq => by
      obtain ⟨cur, hc⟩ := own_cur hown2 hq
      have hqb := (hown2.lt q hq).1
      have hc3 : w3.heap[q]? = some (.cells cur 66 (0, 0)) := by rw [← hw3, far (show q ≠ rb by omega)]; exact hc
      rw [far (show q ≠ rb by omega), keep5 hc3 (by decide), hc])
    refine ⟨h2.1, ?_⟩
    rcases h2.2 with e | ⟨g, c, cur, e, h3, h4⟩
    · exact .inl e
    · exact .inr ⟨g, c, cur, e, by omega, h4⟩
  · intro i hi
    rw [hl] at hi
    obtain ⟨a, c⟩ := cut_index (i := i) hk (by omega)
    rw [fG_cut' fs k i hk, fF_cut' fs k i hk]
    obtain ⟨h1, h2⟩ := hR.words _ a
    refine ⟨h1, ?_⟩
    unfold WRow at h2 ⊢
    generalize (if i < k then i else i + 1) = q at *
    have h3 : w3.heap[fG fs q]? = some (.cells (ftab page fun j => Value.int .u64 (s.wd (fF fs q) j)).toArray 29 (0, 0)) := by
      rw [← hw3, far (show fG fs q ≠ rb by omega)]
      exact blockB hb2 (Nat.le_refl _) h2
    rw [far (show fG fs q ≠ rb by omega)]
    exact keep5 h3 word_int
  · intro i j hi hj e
    rw [hl] at hi hj
    rw [fG_cut' fs k i hk, fG_cut' fs k j hk] at e
    obtain ⟨a, c⟩ := cut_index (i := i) hk (by omega)
    obtain ⟨a2, c2⟩ := cut_index (i := j) hk (by omega)
    have := hR.apart _ _ a a2 e
    split at this <;> split at this <;> omega
  · intro ad had
    have := hown2.lt ad.block (by rw [had]; rfl)
    exact .inr ⟨this.1, by omega⟩
  · intro ad had
    simp at had
    subst had
    rcases hat with h2 | h2
    · obtain ⟨ad, e1, e2⟩ := own_of_some h2
      exact .inl (by show T g5; rw [← e2]; exact t3 ad e1)
    · exact .inr ⟨by show w.heap.size ≤ g5; omega, hlt⟩
  · intro i hi
    rw [hl] at hi
    obtain ⟨a, c⟩ := cut_index (i := i) hk (by omega)
    rw [fG_cut' fs k i hk]
    exact .inl (t4 _ a)
  · intro q hq
    rw [hfin]
    rcases hq with h | h
    · have := hI q h; omega
    · exact h.2
  · intro q hq
    rcases hq with h | h
    · exact .inl h
    · exact .inr h.1
end Go.Proofs.Ytoldbaandkgmkaa
