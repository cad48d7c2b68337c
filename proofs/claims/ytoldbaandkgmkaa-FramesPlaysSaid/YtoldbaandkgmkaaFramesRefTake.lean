/- The reference's Take: what the first half leaves, and what the whole leaves. -/
import Derived.Test.YtoldbaandkgmkaaFramesRefGive2
import Derived.Test.YtoldbaandkgmkaaFramesApartMath
import Derived.Deep.QuietTactic
import Derived.BigQuiet
namespace Go.Proofs.Ytoldbaandkgmkaa
open Go.ChangeShapes Go.WideShapes Go.ChangeAt Go.RowKit
set_option linter.unusedVariables false

theorem freshS_wd {room page : Nat} {s : PS} (g i : Nat) (hn : g < s.n) : (freshS s).wd g i = s.wd g i := by
  unfold freshS
  split
  · show (if g = s.n then 0 else s.wd g i) = _
    rw [if_neg (by omega)]
  · rfl
/-- the words of the entries are those of the pool with one frame more -/
theorem words_fresh {page rb : Nat} {fs : List (Nat × Nat)} {s : PS} {w w' : World} (hF : RelP fs s) (h : ∀ i, i < fs.length → rb < fG fs i ∧ WRow page (fG fs i) (s.wd (fF fs i)) w) (hh : ∀ i, i < fs.length → w'.heap[fG fs i]? = w.heap[fG fs i]?) :
    ∀ i, i < fs.length → rb < fG fs i ∧ WRow page (fG fs i) ((freshS s).wd (fF fs i)) w' := fun i hi => by
  refine ⟨(h i hi).1, ?_⟩
  have hn := ((has_iff _ _).1 (hF.each i hi)).1.2
  have h2 := (h i hi).2
  unfold WRow at h2 ⊢
  rw [hh i hi, h2]
  congr 4
  funext j
  rw [freshS_wd (room := 0) (page := 0) _ _ (by omega)]
theorem fF_append (es : List (Nat × Nat)) (e : Nat × Nat) (i : Nat) : fF (es ++ [e]) i = if i < es.length then fF es i else if i = es.length then e.1 else 0 := by
  unfold fF
  rw [List.getD_eq_getElem?_getD, List.getD_eq_getElem?_getD, List.getElem?_append]
  split
  · rfl
  · split
    · rename_i h; subst h; simp
    · rw [List.getElem?_eq_none (by simp; omega)]; rfl
theorem fG_append (es : List (Nat × Nat)) (e : Nat × Nat) (i : Nat) : fG (es ++ [e]) i = if i < es.length then fG es i else if i = es.length then e.2 else 0 := by
  unfold fG
  rw [List.getD_eq_getElem?_getD, List.getD_eq_getElem?_getD, List.getElem?_append]
  split
  · rfl
  · split
    · rename_i h; subst h; simp
    · rw [List.getElem?_eq_none (by simp; omega)]; rfl
theorem RelP.take {room page : Nat} {fs : List (Nat × Nat)} {s : PS} (h : RelP fs s) (hk : s.ok room page) (hu : s.used < room) (g : Nat) : RelP (fs ++ [(nextF s, g)]) (takeS s) := by
  have hh := fun q => has_take hk hu q
  have no : ∀ i, i < fs.length → fF fs i ≠ nextF s := fun i hi e => by
    have h1 := h.each i hi
    rw [e, (hh 0).2] at h1
    cases h1
  refine ⟨fun i hi => ?_, fun f hf => ?_, fun i j hi hj e => ?_, ?_⟩
  · rw [fF_append, (hh _).1]
    by_cases hl : i < fs.length
    · rw [if_pos hl, h.each i hl]; simp
    · have : i = fs.length := by simp at hi; omega
      rw [if_neg hl, if_pos this]; simp
  · rw [(hh f).1] at hf
    simp at hf
    rcases hf with hf | hf
    · exact ⟨fs.length, by simp, by rw [fF_append, if_neg (by omega), if_pos rfl]; exact hf.symm⟩
    · obtain ⟨i, hi, e⟩ := h.all f hf
      exact ⟨i, by simp; omega, by rw [fF_append, if_pos hi]; exact e⟩
  · simp at hi hj
    rw [fF_append, fF_append] at e
    by_cases h1 : i < fs.length
    · rw [if_pos h1] at e
      by_cases h2 : j < fs.length
      · rw [if_pos h2] at e
        exact h.once i j h1 h2 e
      · rw [if_neg h2, if_pos (by omega)] at e
        exact absurd e (no i h1)
    · rw [if_neg h1, if_pos (by omega)] at e
      by_cases h2 : j < fs.length
      · rw [if_pos h2] at e
        exact absurd e.symm (no j h2)
      · omega
  · show s.used + 1 = _
    rw [h.many]
    simp
theorem RfDid.then {S S' : Nat → Prop} {rb room page : Nat} {s : PS} {w w1 w' : World} (h : Chg S w w1) (g : Grew S S' w) (k : RfDid S' rb room page s w1 w') : RfDid S rb room page s w w' := by
  obtain ⟨S2, h1, h2, h3⟩ := k
  exact ⟨S2, h1, h.then h2 g, g.trans h3 h.size⟩
def zrow (page : Nat) : Array Value := (ftab page fun _ => .int .u64 0).toArray
theorem take_ref_end {T : Nat → Prop} {rb room page cL cB g5 cap5 : Nat} {aL aB : Option Addr} {fs : List (Nat × Nat)} {s : PS} {w3 wb w5 w8 : World}
    (hR : RPool rb room page aL cL aB cB fs (freshS s) w3) (hF : RelP fs s) (hk : s.ok room page) (hu : s.used < room)
    (ht : T rb ∧ (∀ a, aL = some a → T a.block) ∧ (∀ a, aB = some a → T a.block) ∧ ∀ i, i < fs.length → T (fG fs i)) (hI : In T w3)
    (hsz : wb.heap.size = w3.heap.size + 2) (hc : Chg (fun _ => False) w3 wb) (hnew : wb.heap[w3.heap.size]? = some (.cells (zrow page) 29 (0, 0)))
    (hown : w5.ownsRow (rb + 1) 66 2 (.slice (some ⟨g5, 0, none⟩) (fs.length + 1) cap5) (fs.length + 1) (fcells page fs ++ [.int .i64 (nextF s), .slice (some ⟨w3.heap.size, 0, none⟩) page page]))
    (hgrow : wb.grownBy w5 (Value.slice aL fs.length cL).ownBlock) (hat : (Value.slice aL fs.length cL).ownBlock = some g5 ∨ g5 = w3.heap.size + 2) (hlt : g5 < w5.heap.size)
    (hc8 : Chg (· = rb) w5 w8) (hs8 : w8.heap.size = w5.heap.size)
    (hd8 : w8.heap[rb]? = some (.cells #[.int .i64 room, .int .i64 page, .slice (some ⟨g5, 0, none⟩) (fs.length + 1) cap5, .slice aB (freshS s).bk.length cB, .int .i64 (freshS s).n, .int .i64 (max s.high (s.used + 1) : Nat), .int .i64 ((s.times + 1 : Nat) : Int)] 53 (0, 0))) :
    RfDid T rb room page (takeS s) w3 w8 := by
  obtain ⟨t1, t2, t3, t4⟩ := ht
  have hs5 : w3.heap.size + 2 ≤ w5.heap.size := by have := hgrow.size; omega
  have lrb := block_lt hR.head
  have old : ∀ q, q < w3.heap.size → q ≠ rb → some q ≠ (Value.slice aL fs.length cL).ownBlock → w8.heap[q]? = w3.heap[q]? := fun q hq h1 h2 =>
    (hc8.2.2.2.2 q (by omega) h1).trans ((hgrow.block q (by omega) h2).trans (hc.2.2.2.2 q hq id))
  have ownL : ∀ {q : Nat} {c : Array Value} {t : TypeId}, w3.heap[q]? = some (.cells c t (0, 0)) → t ≠ 66 → some q ≠ (Value.slice aL fs.length cL).ownBlock := fun {q c t} hq hne e => by
    obtain ⟨cur, hcur⟩ := own_cur hR.list e.symm
    rw [hq] at hcur
    simp at hcur
    exact hne hcur.2
  have hgw : w8.heap[w3.heap.size]? = some (.cells (zrow page) 29 (0, 0)) := by
    rw [hc8.2.2.2.2 _ (by omega) (by omega), hgrow.block _ (by omega) (fun e => by have := (hR.list.lt _ e.symm).2; omega)]
    exact hnew
  have c5 : Chg T w3 w5 := (hc.mono (T := T) (fun _ _ h => h.elim)).trans (T := T) ⟨hgrow.os, hgrow.tape, hgrow.output, hgrow.size, fun q hq hn => hgrow.block q hq (fun e => by
    obtain ⟨ad, e1, e2⟩ := own_of_some e.symm
    exact hn (by rw [← e2]; exact t2 ad e1))⟩ (fun q hq h => h)
  have c8 : Chg T w3 w8 := c5.trans hc8 (fun q hq h => by rw [h]; exact t1)
  refine ⟨fun q => T q ∨ (w3.heap.size ≤ q ∧ q < w8.heap.size), ⟨some ⟨g5, 0, none⟩, cap5, aB, cB, fs ++ [(nextF s, w3.heap.size)], ⟨?_, ?_, ?_, ?_, ?_⟩, hF.take hk hu _, ⟨.inl t1, ?_, fun a h => .inl (t3 a h), ?_⟩, ?_⟩, c8, ?_⟩
  · rw [hd8]
    simp only [List.length_append, List.length_singleton]
    rfl
  · rw [fcells_append, List.length_append]
    refine own_from hown fun q hq => ?_
    have := (hown.lt q hq)
    exact hc8.2.2.2.2 q this.2 (by omega)
  · refine hR.back.from fun q hq => ?_
    obtain ⟨cur, hcur⟩ := hR.back.block q hq
    have := hR.back.lt q hq
    exact old q this.2 (by omega) (ownL hcur (by decide))
  · intro i hi
    simp at hi
    rw [fF_append, fG_append]
    by_cases hl : i < fs.length
    · rw [if_pos hl, if_pos hl]
      obtain ⟨h1, h2⟩ := hR.words i hl
      refine ⟨h1, ?_⟩
      have hne : fF fs i ≠ nextF s := fun e => by
        have h1 := hF.each i hl
        rw [e, (has_take hk hu 0).2] at h1
        cases h1
      unfold WRow at h2 ⊢
      rw [old _ (block_lt h2) (by omega) (ownL h2 frame_word.symm), h2]
      congr 4
      funext j
      show Value.int .u64 ((freshS s).wd (fF fs i) j) = .int .u64 ((if fF fs i = nextF s then 0 else (freshS s).wd (fF fs i) j : Nat) : Int)
      rw [if_neg hne]
    · rw [if_neg hl, if_pos (by omega), if_neg hl, if_pos (by omega)]
      refine ⟨by show rb < w3.heap.size; omega, ?_⟩
      unfold WRow
      show w8.heap[w3.heap.size]? = _
      rw [hgw]
      unfold zrow
      congr 4
      funext j
      show Value.int .u64 0 = .int .u64 (((takeS s).wd (nextF s) j : Nat) : Int)
      rw [take_zero]
      rfl
  · intro i j hi hj e
    simp at hi hj
    have lt : ∀ q, q < fs.length → fG fs q < w3.heap.size := fun q hq => block_lt (hR.words q hq).2
    rw [fG_append, fG_append] at e
    by_cases h1 : i < fs.length
    · have := lt i h1
      rw [if_pos h1] at e
      by_cases h2 : j < fs.length
      · rw [if_pos h2] at e
        exact hR.apart i j h1 h2 e
      · rw [if_neg h2, if_pos (by omega)] at e
        have e' : fG fs i = w3.heap.size := e
        omega
    · rw [if_neg h1, if_pos (by omega)] at e
      by_cases h2 : j < fs.length
      · have := lt j h2
        rw [if_pos h2] at e
        have e' : w3.heap.size = fG fs j := e
        omega
      · omega
  · intro a h
    simp at h
    subst h
    rcases hat with h2 | h2
    · obtain ⟨ad, e1, e2⟩ := own_of_some h2
      exact .inl (by show T g5; rw [← e2]; exact t2 ad e1)
    · exact .inr ⟨by show w3.heap.size ≤ g5; omega, by show g5 < w8.heap.size; omega⟩
  · intro i hi
    simp at hi
    rw [fG_append]
    by_cases hl : i < fs.length
    · rw [if_pos hl]; exact .inl (t4 i hl)
    · rw [if_neg hl, if_pos (by omega)]
      exact .inr ⟨Nat.le_refl _, by show w3.heap.size < w8.heap.size; omega⟩
  · intro q hq
    rcases hq with h | h
    · have := hI q h; omega
    · exact h.2
  · intro q hq
    rcases hq with h | h
    · exact .inl h
    · exact .inr h.1
end Go.Proofs.Ytoldbaandkgmkaa
