/- The walk of Give. -/
import Derived.Test.YtkcijlndblbidaaFramesGive
namespace Go.Proofs.Ytkcijlndblbidaa.Fr
open Go.ChangeShapes Go.WideShapes Go.ChangeAt Go.RowKit
set_option linter.unusedVariables false

def giveE (s : PS) (f : Int) : Int := if has s f then 0 else 6
def giveT (s : PS) (f : Nat) : PS := { s with used := s.used - 1, tk := fun i => if i = f then false else s.tk i, bk := s.bk ++ [f] }
def giveS (s : PS) (f : Int) : PS := if has s f then giveT s f.toNat else s
theorem backs_notin {room page : Nat} {s : PS} (hk : s.ok room page) {f : Nat} (h : s.tk f = true) : f ∉ s.bk := fun hf => by
  have := (hk.back f hf).2
  rw [h] at this
  cases this
theorem nodup_bound {l : List Nat} {n : Nat} (hl : l.Nodup) (hb : ∀ x, x ∈ l → x < n) : l.length ≤ n := by
  induction n generalizing l with
  | zero =>
    cases l with
    | nil => exact Nat.le_refl _
    | cons a t => have := hb a (by simp); omega
  | succ n ih =>
    have h1 : (l.erase n).length ≤ n := ih (hl.erase n) fun x hx => by
      have hne : x ≠ n := fun e => by
        subst e
        exact (List.Nodup.mem_erase_iff hl).1 hx |>.1 rfl
      have := hb x (List.mem_of_mem_erase hx)
      omega
    have h2 := List.length_erase (a := n) (l := l)
    split at h2 <;> omega
theorem give_ok {room page : Nat} {s : PS} (hk : s.ok room page) (f : Int) (h : has s f = true) : (giveT s f.toNat).ok room page ∧ 1 ≤ s.used := by
  obtain ⟨⟨h1, h2⟩, h3⟩ := (has_iff _ _).1 h
  have hnot := backs_notin hk h3
  have hu := hk.used
  have hnd : (s.bk ++ [f.toNat]).Nodup := by
    rw [List.nodup_append]
    refine ⟨hk.once, by simp, fun a ha c hc e => ?_⟩
    simp at hc
    subst hc
    subst e
    exact hnot ha
  have hlen := nodup_bound (n := s.n) hnd (fun x hx => by
    simp at hx
    rcases hx with hx | hx
    · exact (hk.back x hx).1
    · omega)
  simp at hlen
  refine ⟨⟨hk.room1, hk.page1, hk.few, ?_, ?_, hk.high, fun x hx => ?_, hnd, hk.small⟩, by omega⟩
  · show (s.bk ++ [f.toNat]).length ≤ s.n
    simpa using hlen
  · show s.used - 1 + (s.bk ++ [f.toNat]).length = s.n
    simp
    omega
  · show x < s.n ∧ (if x = f.toNat then false else s.tk x) = false
    have hx' : x ∈ s.bk ++ [f.toNat] := hx
    simp at hx'
    rcases hx' with hx' | hx'
    · obtain ⟨a, c⟩ := hk.back x hx'
      exact ⟨a, by split <;> simp_all⟩
    · exact ⟨by omega, by rw [if_pos hx']⟩
theorem FMem.setTaken {b room page : Nat} {s : PS} {aw ab : Option Addr} {cw ct cb g : Nat} {w : World} (h : FMem b room page s aw cw (some ⟨g, 0, none⟩) ct ab cb w) (f : Nat) (v : Bool) :
    FMem b room page { s with tk := fun i => if i = f then v else s.tk i } aw cw (some ⟨g, 0, none⟩) ct ab cb (w.setCell ⟨g, f, none⟩ (.bool v)) := by
  obtain ⟨n1, n2, n3⟩ := h.ne
  have hb : b ≠ g := by have := n2 _ rfl; simp at this; omega
  refine ⟨?_, ?_, ?_, ?_⟩
  · rw [far hb]; exact h.head
  · exact h.words.from fun k hk => far (h.words.unlike h.taken word_bool hk rfl)
  · refine (h.taken.set f (.bool v)).congr fun j hj => ?_
    unfold takenV
    by_cases e : j = f
    · simp [e]
    · simp [e]
  · exact h.back.from fun k hk => far (h.back.unlike h.taken bool_int.symm hk rfl)
theorem pushed_back (s : PS) (f : Nat) : ftab s.bk.length (backV s) ++ [Value.int .i64 f] = ftab (giveT s f).bk.length (backV (giveT s f)) := by
  apply List.ext_getElem?
  intro i
  have hl : (giveT s f).bk.length = s.bk.length + 1 := by simp [giveT]
  rw [List.getElem?_append, ftab_length, ftab_get, ftab_get, hl]
  have hb : ∀ i, backV (giveT s f) i = .int .i64 ((s.bk ++ [f]).getD i 0 : Nat) := fun _ => rfl
  by_cases h : i < s.bk.length
  · rw [if_pos h, if_pos h, if_pos (by omega), hb]
    unfold backV
    rw [List.getD_eq_getElem?_getD, List.getD_eq_getElem?_getD, List.getElem?_append_left h]
  · rw [if_neg h]
    by_cases h2 : i = s.bk.length
    · subst h2
      rw [if_pos (by omega), hb]
      simp
    · rw [if_neg (by omega), List.getElem?_eq_none (by simp; omega)]
theorem give_end {S : Nat → Prop} {b room page : Nat} {s : PS} {aw ab : Option Addr} {cw ct cb g f g2 cap2 : Nat} {w w1 w2 : World}
    (hM : FMem b room page { s with tk := fun i => if i = f then false else s.tk i } aw cw (some ⟨g, 0, none⟩) ct ab cb w1)
    (hd : w2.heap[b]? = some (.cells #[.slice aw (s.n * page) cw, .slice (some ⟨g, 0, none⟩) s.n ct, .slice ab s.bk.length cb, .int .i64 room, .int .i64 page, .int .i64 s.used, .int .i64 s.high, .int .i64 s.times] 206 (0, 0)))
    (hown : w2.ownsRow (b + 1) 3 1 (.slice (some ⟨g2, 0, none⟩) (s.bk.length + 1) cap2) (s.bk.length + 1) (ftab s.bk.length (backV s) ++ [.int .i64 f]))
    (hgrow : (w1.alloc (.cells #[.int .i64 f] 3)).grownBy w2 (Value.slice ab s.bk.length cb).ownBlock) (hat : (Value.slice ab s.bk.length cb).ownBlock = some g2 ∨ g2 = w1.heap.size + 1) (hlt : g2 < w2.heap.size)
    (hS : S b ∧ (∀ a, aw = some a → S a.block) ∧ (∀ a, some (⟨g, 0, none⟩ : Addr) = some a → S a.block) ∧ ∀ a, ab = some a → S a.block) (hI : In S w) (hw1 : w.setCell ⟨g, f, none⟩ (.bool false) = w1) (hu : 1 ≤ s.used) :
    PDid S b room page (giveT s f) w ((w2.setCell ⟨b, 2, none⟩ (.slice (some ⟨g2, 0, none⟩) (s.bk.length + 1) cap2)).setCell ⟨b, 5, none⟩ (.int .i64 ((s.used : Int) - 1))) := by
  obtain ⟨s1, s2, s3, s4⟩ := hS
  have hsz1 : w1.heap.size = w.heap.size := by rw [← hw1]; simp [World.setCell]
  have hsz2 : w1.heap.size + 1 ≤ w2.heap.size := by have := hgrow.size; simpa using this
  have hfin : ((w2.setCell ⟨b, 2, none⟩ (.slice (some ⟨g2, 0, none⟩) (s.bk.length + 1) cap2)).setCell ⟨b, 5, none⟩ (.int .i64 ((s.used : Int) - 1))).heap.size = w2.heap.size := by simp [World.setCell]
  have old : ∀ k, k < w1.heap.size → some k ≠ (Value.slice ab s.bk.length cb).ownBlock → w2.heap[k]? = w1.heap[k]? := fun k hk hn => (hgrow.block k (by simp; omega) hn).trans (Below.heap_alloc w1 _ k hk)
  have hback : OwnF (b + 1) 3 (.slice (some ⟨g2, 0, none⟩) (giveT s f).bk.length cap2) (giveT s f).bk.length (backV (giveT s f)) w2 := by
    unfold OwnF
    rw [← pushed_back]
    have : (giveT s f).bk.length = s.bk.length + 1 := by simp [giveT]
    rw [this]
    exact hown
  have c1 : Chg S w w1 := by rw [← hw1]; exact (Chg.refl S w).set (p := ⟨g, f, none⟩) (.inl (s3 ⟨g, 0, none⟩ rfl)) _
  have c2 : Chg S w w2 := (c1.alloc (.cells #[.int .i64 f] 3)).trans (T := fun k => S k ∨ w.heap.size ≤ k) ⟨hgrow.os, hgrow.tape, hgrow.output, hgrow.size, fun k hk hn => hgrow.block k hk (fun e => by
    obtain ⟨ad, e1, e2⟩ := own_of_some e.symm
    exact hn (.inl (by rw [← e2]; exact s4 ad e1)))⟩ (fun q hq h => h.resolve_right (by omega))
  refine ⟨fun k => S k ∨ k = g2, ⟨aw, cw, some ⟨g, 0, none⟩, ct, some ⟨g2, 0, none⟩, cap2, ⟨?_, ?_, ?_, ?_⟩, ⟨.inl s1, fun a h => .inl (s2 a h), fun a h => .inl (s3 a h), fun a h => .inr (by simp at h; rw [← h])⟩, ?_⟩, ?_, ?_⟩
  · rw [heap_setCell_same _ b 5 _ _ _ (heap_setCell_same _ b 2 _ _ _ hd)]
    have hl : (giveT s f).bk.length = s.bk.length + 1 := by simp [giveT]
    rw [hl, show ((s.used : Int) - 1) = ((s.used - 1 : Nat) : Int) by omega]
    rfl
  · exact (((hM.words.from (w' := w2) fun k hk => old k (hM.words.lt k hk).2 (fun e => hM.words.unlike hM.back word_int hk e.symm rfl)).headSet 2 _).headSet 5 _)
  · exact (((hM.taken.from (w' := w2) fun k hk => old k (hM.taken.lt k hk).2 (fun e => hM.taken.unlike hM.back bool_int hk e.symm rfl)).headSet 2 _).headSet 5 _)
  · exact ((hback.headSet 2 _).headSet 5 _)
  · intro k hk
    rw [hfin]
    rcases hk with h | h
    · have := hI k h; omega
    · omega
  · exact (c2.set (p := ⟨b, 2, none⟩) (.inl s1) _).set (p := ⟨b, 5, none⟩) (.inl s1) _
  · intro k hk
    rcases hk with h | h
    · exact .inl h
    · subst h
      rcases hat with h2 | h2
      · obtain ⟨ad, e1, e2⟩ := own_of_some h2
        exact .inl (by rw [← e2]; exact s4 ad e1)
      · exact .inr (by omega)
set_option maxRecDepth 100000 in
set_option maxHeartbeats 2000000 in
theorem give_pl (S : Nat → Prop) (b room page : Nat) (s : PS) (w : World) (hP : Pl S b room page s w) (hk : s.ok room page) (f : Int) :
    Calls Try.prog 108 #[.pointer (some ⟨b, 0, none⟩), .int .i64 f] w fun e w' => e = .returned (.int .i64 (giveE s f)) ∧ PDid S b room page (giveS s f) w w' := by
  have HP := Lib.hid hP
  obtain ⟨aw, cw, at_, ct, ab, cb, hF, ⟨s1, s2, s3, s4⟩, hI⟩ := hP
  have Hc := check_any hF hk f
  unfold giveE giveS
  by_cases h : has s f = true
  · rw [if_pos h, if_pos h]
    rw [if_pos h] at Hc
    obtain ⟨hok, hu1⟩ := give_ok hk f h
    obtain ⟨⟨h1, h2⟩, h3⟩ := (has_iff _ _).1 h
    obtain ⟨f, rfl⟩ : ∃ q : Nat, f = q := ⟨f.toNat, by omega⟩
    rw [Int.toNat_natCast] at h3 hok ⊢
    obtain ⟨-, -, -, hform, -⟩ := hF.taken.form
    obtain ⟨g, rfl, hg1, hg2⟩ := hform (by omega)
    have cf := hF.taken.cell (show f < s.n by omega)
    have ff := hF.taken.free f
    have hm1 := hF.setTaken f false
    generalize hw1 : w.setCell ⟨g, f, none⟩ (.bool false) = w1 at *
    have c1 := at_cell hF.head 1 _ rfl
    have d2 := at_cell hm1.head 2 _ rfl
    have lb := block_lt hm1.head
    obtain ⟨i0, hi, hz0, hz1, hz2⟩ := info_parts int_info
    have hbl := hk.less
    have hnr := hk.few
    have hr := hk.room1
    have huse := hk.used
    have HM1 := Lib.hid hm1
    have HB := Lib.hid (show w1.ownsRow (b + 1) 3 1 (.slice ab s.bk.length cb) s.bk.length (ftab s.bk.length (backV s)) from hm1.back)
    have HF := Lib.hid hF
    have Hok := Lib.hid hok
    have Hh := Lib.hid h
    replace Hc := Lib.hid Hc
    have Hw1 := Lib.hid hw1
    have HS := Lib.hid (show (S b ∧ (∀ a, aw = some a → S a.block) ∧ (∀ a, some (⟨g, 0, none⟩ : Addr) = some a → S a.block) ∧ ∀ a, ab = some a → S a.block) ∧ In S w from ⟨⟨s1, s2, s3, s4⟩, hI⟩)
    clear hm1 hF hok h s1 s2 s3 s4 hI hform hk
    go_enter Try.func108, Try.ntmps108
    go_wp2_with (first
      | (go_at_call 150; refine Hc.out.mono ?_; rintro e w2 ⟨rfl, rfl⟩)
      | (at_builtin; refine wpList_append_lies _ rfl (.tmp 22) (.tmp 24) 71 rfl (b + 1) 3 i0 (.int .i64 0) 1 8 Try.underlying71 hi hz0 hz1 hz2 rfl (by decide) _ _ _ rfl (HB.out.alloc _) ⟨w1.heap.size, 0, none⟩ 1 1 [.int .i64 f] rfl rfl ?c1 ?c2 ?c3 ?c4 ?c5 ?c6 (w1.heap.size + 1) ?c7 ?_))
    case c1 => exact World.news_of_block (heap_alloc_new w1 (.cells #[.int .i64 f] 3))
    case c2 => intro u hu; simp at hu; subst hu; rfl
    case c3 => omega
    case c4 => unfold maxLen; omega
    case c5 => omega
    case c6 => simp; omega
    case c7 => simp
    intro g2 cap2 w2 hown hgrow hat hlt
    have hne : some b ≠ (Value.slice ab s.bk.length cb).ownBlock := fun e => by
      have := (HB.out.lt b e.symm).1
      omega
    have hd : w2.heap[b]? = _ := (hgrow.block b (by simp; omega) hne).trans (blockB (below_new w1 _) (Nat.le_refl _) HM1.out.head)
    have e2 := at_cell hd 2 _ rfl
    have e5 := at_cell hd 5 _ rfl
    have g2f := at_free hd 2
    have g5f := at_free hd 5
    have Hd := Lib.hid hd
    have Hown := Lib.hid hown
    have Hgrow := Lib.hid hgrow
    have Hat := Lib.hid hat
    have hu2 : (0 : Int) ≤ (s.used : Int) - 1 := by omega
    clear hd hown hgrow hat c1 d2 hw1 cf ff
    go_wp2
    go_ret
    exact ⟨rfl, give_end HM1.out Hd.out Hown.out Hgrow.out Hat.out hlt HS.out.1 HS.out.2 Hw1.out hu1⟩
  · rw [if_neg h, if_neg h]
    rw [if_neg h] at Hc
    replace Hc := Lib.hid Hc
    clear hF hk h s1 s2 s3 s4 hI
    go_enter Try.func108, Try.ntmps108
    go_wp2_with (go_at_call 150; refine Hc.out.mono ?_; rintro e w1 ⟨rfl, rfl⟩)
    go_ret
    exact ⟨rfl, PDid.of HP.out (Below.refl _ _)⟩
end Go.Proofs.Ytkcijlndblbidaa.Fr
