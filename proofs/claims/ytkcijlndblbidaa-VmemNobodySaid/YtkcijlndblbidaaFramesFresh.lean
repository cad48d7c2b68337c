/- The walks of fresh. -/
import Derived.Test.YtkcijlndblbidaaFramesGive2
import Derived.Deep.RegionHeld3
import Derived.Deep.RegionLaw
namespace Go.Proofs.Ytkcijlndblbidaa.Fr
open Go.ChangeShapes Go.WideShapes Go.ChangeAt Go.RowKit
set_option linter.unusedVariables false

def dropBack (s : PS) (l : List Nat) : PS := { s with bk := l }
set_option maxRecDepth 100000 in
set_option maxHeartbeats 1000000 in
theorem fresh_back (S : Nat → Prop) (b room page : Nat) (s : PS) (w : World) (hP : Pl S b room page s w) (hk : s.ok room page) (l : List Nat) (f : Nat) (hl : s.bk = l ++ [f]) :
    Calls Try.prog 147 #[.pointer (some ⟨b, 0, none⟩)] w fun e w' => e = .returned (.int .i64 f) ∧ PDid S b room page (dropBack s l) w w' := by
  obtain ⟨aw, cw, at_, ct, ab, cb, hF, ⟨s1, s2, s3, s4⟩, hI⟩ := hP
  have hlen : s.bk.length = l.length + 1 := by rw [hl]; simp
  obtain ⟨-, hcb, hcm, hform, -⟩ := hF.back.form
  obtain ⟨g, rfl, hg1, hg2⟩ := hform (by omega)
  have c2 := at_cell hF.head 2 _ rfl
  have f2 := at_free hF.head 2
  have cf := hF.back.cell (show l.length < s.bk.length by omega)
  have hv : backV s l.length = .int .i64 f := by unfold backV; rw [hl]; simp
  rw [hv] at cf
  have hmax : l.length ≤ 4096 := by
    have := hk.less
    have := hk.few
    have := hk.room1
    omega
  rw [hlen] at hcb
  have Hres := Lib.hid (show PDid S b room page (dropBack s l) w (w.setCell ⟨b, 2, none⟩ (.slice (some ⟨g, 0, none⟩) l.length cb)) from
    ⟨S, ⟨_, _, _, _, _, _, ⟨(heap_setCell_same _ b 2 _ _ _ hF.head).trans rfl, hF.words.headSet 2 _, hF.taken.headSet 2 _, (((hF.back.shrink (show l.length ≤ s.bk.length by omega)).congr fun i hi => by
      unfold backV
      show Value.int .i64 ((s.bk.getD i 0 : Nat) : Int) = .int .i64 ((l.getD i 0 : Nat) : Int)
      rw [hl, List.getD_eq_getElem?_getD, List.getD_eq_getElem?_getD, List.getElem?_append_left hi]).headSet 2 _)⟩, ⟨s1, s2, s3, s4⟩, hI.mono (by simp [World.setCell])⟩, (Chg.refl S w).set (p := ⟨b, 2, none⟩) (.inl s1) _, Grew.refl _ _⟩)
  have c2' : w.cell? ⟨b, 2, none⟩ = some (.slice (some ⟨g, 0, none⟩) (l.length + 1) cb) := by rw [c2, ← hlen]; rfl
  have hcap0 : ¬ cb = 0 := by omega
  have hcap1 : (l.length : Int) ≤ cb := by omega
  clear hF hk hl hv hlen c2 hform s1 s2 s3 s4 hI
  go_enter Try.func147, Try.ntmps147
  go_wp2
  go_ret
  exact ⟨rfl, Hres.out⟩
def moreS (s : PS) : PS := { s with n := s.n + 1, tk := fun i => if i = s.n then false else s.tk i, wd := fun f i => if f = s.n then 0 else s.wd f i }
theorem pushed_taken (s : PS) : ftab s.n (takenV s) ++ [Value.bool false] = ftab (s.n + 1) (takenV (moreS s)) := by
  apply List.ext_getElem?
  intro i
  have hb : takenV (moreS s) i = .bool (if i = s.n then false else s.tk i) := rfl
  rw [List.getElem?_append, ftab_length, ftab_get, ftab_get, hb]
  by_cases h : i < s.n
  · rw [if_pos h, if_pos h, if_pos (by omega), if_neg (by omega)]; rfl
  · rw [if_neg h]
    by_cases h2 : i = s.n
    · subst h2
      rw [if_pos (by omega), if_pos rfl]
      simp
    · rw [if_neg (by omega), List.getElem?_eq_none (by simp; omega)]
theorem more_words (page : Nat) (s : PS) (hp : 1 ≤ page) : ∀ i, i < s.n * page + page → (if i < s.n * page then wordV page s i else Value.int .u64 0) = wordV page (moreS s) i := by
  intro i hi
  have hb : wordV page (moreS s) i = .int .u64 ((if i / page = s.n then 0 else s.wd (i / page) (i % page) : Nat) : Int) := rfl
  rw [hb]
  by_cases h : i < s.n * page
  · rw [if_pos h, if_neg (by
      have := (Nat.div_lt_iff_lt_mul (show 0 < page by omega)).2 h
      omega)]
    rfl
  · rw [if_neg h, if_pos (by
      have h1 := (Nat.le_div_iff_mul_le (show 0 < page by omega)).2 (Nat.not_lt.1 h)
      have h2 := (Nat.div_lt_iff_lt_mul (show 0 < page by omega)).2 (show i < (s.n + 1) * page by rw [Nat.add_mul]; omega)
      omega)]
    rfl
theorem fresh_end {S : Nat → Prop} {b room page : Nat} {s : PS} {aw at_ ab : Option Addr} {cw ct cb g2 cap2 g3 cap3 : Nat} {w w2 w3 w4 : World}
    (hM : FMem b room page s aw cw at_ ct ab cb w) (old2 : ∀ k, k < w.heap.size → some k ≠ (Value.slice at_ s.n ct).ownBlock → w2.heap[k]? = w.heap[k]?)
    (hown : w2.ownsRow (b + 1) 4 1 (.slice (some ⟨g2, 0, none⟩) (s.n + 1) cap2) (s.n + 1) (ftab s.n (takenV s) ++ [.bool false]))
    (hgrow : (w.alloc (.cells #[.bool false] 4)).grownBy w2 (Value.slice at_ s.n ct).ownBlock) (hat : (Value.slice at_ s.n ct).ownBlock = some g2 ∨ g2 = w.heap.size + 1)
    (hw3 : w2.setCell ⟨b, 1, none⟩ (.slice (some ⟨g2, 0, none⟩) (s.n + 1) cap2) = w3)
    (hown4 : OwnF (b + 1) 23 (.slice (some ⟨g3, 0, none⟩) (s.n * page + page) cap3) (s.n * page + page) (fun i => if i < s.n * page then wordV page s i else .int .u64 0) w4)
    (hgrow4 : w3.drew.grownBy w4 (Value.slice aw (s.n * page) cw).ownBlock) (hat4 : (Value.slice aw (s.n * page) cw).ownBlock = some g3 ∨ g3 = w3.drew.heap.size) (hlt4 : g3 < w4.heap.size)
    (hd4 : w4.heap[b]? = some (.cells (#[.slice aw (s.n * page) cw, .slice at_ s.n ct, .slice ab s.bk.length cb, .int .i64 room, .int .i64 page, .int .i64 s.used, .int .i64 s.high, .int .i64 s.times].setIfInBounds 1 (.slice (some ⟨g2, 0, none⟩) (s.n + 1) cap2)) 206 (0, 0)))
    (hp : 1 ≤ page) (hS : S b ∧ (∀ a, aw = some a → S a.block) ∧ (∀ a, at_ = some a → S a.block) ∧ ∀ a, ab = some a → S a.block) (hI : In S w) :
    PDid S b room page (moreS s) w (w4.setCell ⟨b, 0, none⟩ (.slice (some ⟨g3, 0, none⟩) (s.n * page + page) cap3)) := by
  obtain ⟨s1, s2, s3, s4⟩ := hS
  have hsz2 : w.heap.size + 1 ≤ w2.heap.size := by have := hgrow.size; simpa using this
  have hsz3 : w3.heap.size = w2.heap.size := by rw [← hw3]; simp [World.setCell]
  have hsz4 : w3.heap.size ≤ w4.heap.size := hgrow4.size
  have hfin : (w4.setCell ⟨b, 0, none⟩ (.slice (some ⟨g3, 0, none⟩) (s.n * page + page) cap3)).heap.size = w4.heap.size := by simp [World.setCell]
  have hmul : (moreS s).n * page = s.n * page + page := by show (s.n + 1) * page = _; rw [Nat.add_mul, Nat.one_mul]
  have ht2 : OwnF (b + 1) 4 (.slice (some ⟨g2, 0, none⟩) (s.n + 1) cap2) (s.n + 1) (takenV (moreS s)) w2 := by
    unfold OwnF
    rw [← pushed_taken]
    exact hown
  have hk2 : OwnF (b + 1) 3 (.slice ab s.bk.length cb) s.bk.length (backV s) w2 := hM.back.from fun k hk => old2 k (hM.back.lt k hk).2 (fun e => hM.back.unlike hM.taken bool_int.symm hk e.symm rfl)
  have hw2 : OwnF (b + 1) 23 (.slice aw (s.n * page) cw) (s.n * page) (wordV page s) w2 := hM.words.from fun k hk => old2 k (hM.words.lt k hk).2 (fun e => hM.words.unlike hM.taken word_bool hk e.symm rfl)
  have up3 : ∀ {e n : Nat} {v : Value} {f : Nat → Value}, OwnF (b + 1) e v n f w2 → OwnF (b + 1) e v n f w3 := fun h => by rw [← hw3]; exact h.headSet 1 _
  have hw3w := up3 hw2
  have up4 : ∀ {e n : Nat} {v : Value} {f : Nat → Value}, 23 ≠ e → OwnF (b + 1) e v n f w2 → OwnF (b + 1) e v n f w4 := fun he h => by
    have h3 := up3 h
    exact h3.from fun k hk => hgrow4.block k (h3.lt k hk).2 (fun e => hw3w.unlike h3 he e.symm hk rfl)
  have c2 : Chg S w w2 := ((Chg.refl S w).alloc (.cells #[.bool false] 4)).trans (T := fun k => S k ∨ w.heap.size ≤ k) ⟨hgrow.os, hgrow.tape, hgrow.output, hgrow.size, fun k hk hn => hgrow.block k hk (fun e => by
    obtain ⟨ad, e1, e2⟩ := own_of_some e.symm
    exact hn (.inl (by rw [← e2]; exact s3 ad e1)))⟩ (fun q hq h => h.resolve_right (by omega))
  have c3 : Chg S w w3 := by rw [← hw3]; exact c2.set (p := ⟨b, 1, none⟩) (.inl s1) _
  have c4 : Chg S w w4 := c3.drew.trans (T := S) ⟨hgrow4.os, hgrow4.tape, hgrow4.output, hgrow4.size, fun k hk hn => hgrow4.block k hk (fun e => by
    obtain ⟨ad, e1, e2⟩ := own_of_some e.symm
    exact hn (by rw [← e2]; exact s2 ad e1))⟩ (fun q hq h => h)
  refine ⟨fun k => S k ∨ k = g2 ∨ k = g3, ⟨some ⟨g3, 0, none⟩, cap3, some ⟨g2, 0, none⟩, cap2, ab, cb, ⟨?_, ?_, ?_, ?_⟩, ⟨.inl s1, fun a h => .inr (.inr (by simp at h; rw [← h])), fun a h => .inr (.inl (by simp at h; rw [← h])), fun a h => .inl (s4 a h)⟩, ?_⟩, ?_, ?_⟩
  · rw [heap_setCell_same _ b 0 _ _ _ hd4, hmul]
    rfl
  · rw [hmul]
    exact (hown4.congr (more_words page s hp)).headSet 0 _
  · exact (up4 word_bool ht2).headSet 0 _
  · exact (up4 word_int hk2).headSet 0 _
  · intro k hk
    rw [hfin]
    rcases hk with h | h | h
    · have := hI k h; omega
    · have := (ht2.lt g2 rfl).2; omega
    · omega
  · exact c4.set (p := ⟨b, 0, none⟩) (.inl s1) _
  · intro k hk
    rcases hk with h | h | h
    · exact .inl h
    · subst h
      rcases hat with h2 | h2
      · obtain ⟨ad, e1, e2⟩ := own_of_some h2
        exact .inl (by rw [← e2]; exact s3 ad e1)
      · exact .inr (by omega)
    · subst h
      rcases hat4 with h2 | h2
      · obtain ⟨ad, e1, e2⟩ := own_of_some h2
        exact .inl (by rw [← e2]; exact s2 ad e1)
      · have : w3.drew.heap.size = w3.heap.size := rfl
        exact .inr (by omega)
set_option maxRecDepth 100000 in
set_option maxHeartbeats 2000000 in
theorem fresh_new (S : Nat → Prop) (b room page : Nat) (s : PS) (w : World) (hP : Pl S b room page s w) (hk : s.ok room page) (hl : s.bk = []) (hn : s.n < room) :
    Calls Try.prog 147 #[.pointer (some ⟨b, 0, none⟩)] w fun e w' => e = .returned (.int .i64 s.n) ∧ PDid S b room page (moreS s) w w' := by
  obtain ⟨aw, cw, at_, ct, ab, cb, hF, ⟨s1, s2, s3, s4⟩, hI⟩ := hP
  have hlen : s.bk.length = 0 := by rw [hl]; rfl
  have c1 := at_cell hF.head 1 _ rfl
  have c2 := at_cell hF.head 2 _ rfl
  have lb := block_lt hF.head
  have hr := hk.room1
  obtain ⟨hp1, hp2⟩ := hk.page1
  obtain ⟨i0, hi, hz0, hz1, hz2⟩ := info_parts bool_info
  have HF := Lib.hid hF
  have HS := Lib.hid (show (S b ∧ (∀ a, aw = some a → S a.block) ∧ (∀ a, at_ = some a → S a.block) ∧ ∀ a, ab = some a → S a.block) ∧ In S w from ⟨⟨s1, s2, s3, s4⟩, hI⟩)
  have HB := Lib.hid (show w.ownsRow (b + 1) 4 1 (.slice at_ s.n ct) s.n (ftab s.n (takenV s)) from hF.taken)
  rw [hlen] at c2
  clear hF hk hl s1 s2 s3 s4 hI
  go_enter Try.func147, Try.ntmps147
  go_wp2_with (at_builtin; refine wpList_append_lies _ rfl (.tmp 41) (.tmp 42) 72 rfl (b + 1) 4 i0 (.bool false) 1 1 Try.underlying72 hi hz0 hz1 hz2 rfl (by decide) _ _ _ rfl (HB.out.alloc _) ⟨w.heap.size, 0, none⟩ 1 1 [.bool false] rfl rfl ?c1 ?c2 ?c3 ?c4 ?c5 ?c6 (w.heap.size + 1) ?c7 ?_)
  case c1 => exact World.news_of_block (heap_alloc_new w (.cells #[.bool false] 4))
  case c2 => intro u hu; simp at hu; subst hu; rfl
  case c3 => omega
  case c4 => unfold maxLen; omega
  case c5 => omega
  case c6 => simp; omega
  case c7 => simp
  intro g2 cap2 w2 hown hgrow hat hlt
  have hne1 : some b ≠ (Value.slice at_ s.n ct).ownBlock := fun e => by
    have := (HB.out.lt b e.symm).1
    omega
  have hd : w2.heap[b]? = _ := (hgrow.block b (by simp; omega) hne1).trans (blockB (below_new w _) (Nat.le_refl _) HF.out.head)
  have old2 : ∀ k, k < w.heap.size → some k ≠ (Value.slice at_ s.n ct).ownBlock → w2.heap[k]? = w.heap[k]? := fun k hk hn => (hgrow.block k (by simp; omega) hn).trans (Below.heap_alloc w _ k hk)
  have hw2 : OwnF (b + 1) 23 (.slice aw (s.n * page) cw) (s.n * page) (wordV page s) w2 := HF.out.words.from fun k hk => old2 k (HF.out.words.lt k hk).2 (fun e => HF.out.words.unlike HF.out.taken word_bool hk e.symm rfl)
  have d1 := at_cell hd 1 _ rfl
  have f1 := at_free hd 1
  have hsz2 : w.heap.size + 1 ≤ w2.heap.size := by have := hgrow.size; simpa using this
  obtain ⟨w3, hw3⟩ : ∃ w3, w2.setCell ⟨b, 1, none⟩ (.slice (some ⟨g2, 0, none⟩) (s.n + 1) cap2) = w3 := ⟨_, rfl⟩
  have hd3 := heap_setCell_same w2 b 1 _ _ (.slice (some ⟨g2, 0, none⟩) (s.n + 1) cap2) hd
  rw [hw3] at hd3
  have hsz3 : w3.heap.size = w2.heap.size := by rw [← hw3]; simp [World.setCell]
  have hw3w : OwnF (b + 1) 23 (.slice aw (s.n * page) cw) (s.n * page) (wordV page s) w3.drew := by
    rw [← hw3]
    exact (hw2.headSet 1 _).from fun _ _ => rfl
  obtain ⟨i1, hj, hy0, hy1, hy2⟩ := info_parts word_info
  have hmx : s.n * page ≤ 4096 * 256 := Nat.mul_le_mul (by omega) hp2
  obtain ⟨g3, cap3, w4, hrun, hown4, hgrow4, hat4, hlt4⟩ := run_append_made (P := Try.prog) w3.drew (b + 1) 69 3 69 23 .i64 i1 (.int .u64 0) 8 Try.underlying69 Try.underlying3 hj hy0 hy1 hy2 rfl rfl _ _ _ hw3w page (by omega) (by unfold maxLen; omega) (by omega) (by show b + 1 ≤ w3.heap.size; omega)
  have a0 := at_cell hd3 0 _ rfl
  have a4 := at_cell hd3 4 _ rfl
  have hne3 : some b ≠ (Value.slice aw (s.n * page) cw).ownBlock := fun e => by
    have := (hw2.lt b e.symm).1
    omega
  have hd4 : w4.heap[b]? = _ := (hgrow4.block b (by show b < w3.heap.size; omega) hne3).trans hd3
  have e0 := at_cell hd4 0 _ rfl
  have g0f := at_free hd4 0
  have Hown := Lib.hid hown
  have Hgrow := Lib.hid hgrow
  have Hat := Lib.hid hat
  have Hown4 := Lib.hid hown4
  have Hgrow4 := Lib.hid hgrow4
  have Hat4 := Lib.hid hat4
  have Hd4 := Lib.hid hd4
  have Hw3 := Lib.hid hw3
  have Hold2 := Lib.hid old2
  clear hown hgrow hat hown4 hgrow4 hat4 hd hd3 hd4 hw2 hw3w old2 c1 c2
  go_wp2
  go_region_law ((refine step_append_run _ (by rfl) (.tmp 50) (.tmp 54) 69 3 _ (by rfl) (by rfl) _ _ (by rfl) (by rfl) _ w4 hrun ?_))
  all_goals
    go_wp2
    go_ret
    exact ⟨rfl, fresh_end HF.out Hold2.out Hown.out Hgrow.out Hat.out Hw3.out Hown4.out Hgrow4.out Hat4.out hlt4 Hd4.out hp1 HS.out.1 HS.out.2⟩
end Go.Proofs.Ytkcijlndblbidaa.Fr
