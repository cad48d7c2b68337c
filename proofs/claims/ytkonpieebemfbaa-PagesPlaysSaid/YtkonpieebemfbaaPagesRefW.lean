/- The walks of the reference's Put, Frame, Drop, Move. -/
import Derived.Test.YtkonpieebemfbaaPagesRel
import Derived.Deep.RegionHeld3
import Derived.Deep.RegionWith
namespace Go.Proofs.Ytkonpieebemfbaa
open Go.ChangeShapes Go.WideShapes Go.ChangeAt Go.RowKit
set_option linter.unusedVariables false

/-- the reference's map in block rb, its blocks among T, with at most k entries, that tell the same as F -/
def Rp (T : Nat → Prop) (rb np : Nat) (F : Nat → Nat) (k : Nat) (w : World) : Prop :=
  ∃ a cap es, RMap rb np a cap es w ∧ Rel np F es ∧ es.length ≤ k ∧ (T rb ∧ ∀ g, a = some g → T g.block) ∧ In T w
theorem Rp.keep {S T : Nat → Prop} {rb np k : Nat} {F : Nat → Nat} {w w' : World} (h : Rp T rb np F k w) (c : Chg S w w') (ap : Apart T S) : Rp T rb np F k w' := by
  obtain ⟨a, cap, es, hR, hF, hk, ⟨t1, t2⟩, hI⟩ := h
  refine ⟨a, cap, es, ⟨c.keep hR.head (fun s => ap _ t1 s), hR.own.1, ?_⟩, hF, hk, ⟨t1, t2⟩, hI.mono c.size⟩
  rcases hR.own.2 with e | ⟨g, c2, cur, e, h1, h2, h3⟩
  · exact .inl e
  · refine .inr ⟨g, c2, cur, e, h1, c.keep h2 (fun s => ?_), h3⟩
    simp at e
    exact ap g (t2 _ e.1) s
theorem Rp.grow {T : Nat → Prop} {rb np k : Nat} {F : Nat → Nat} {w w' : World} (h : Rp T rb np F k w) (c : Below w.heap.size w w') : Rp T rb np F k w' :=
  h.keep (S := fun _ => False) (Chg.of c) (fun _ _ h => h)
theorem Rp.in {T : Nat → Prop} {rb np k : Nat} {F : Nat → Nat} {w : World} (h : Rp T rb np F k w) : In T w := by
  obtain ⟨_, _, _, _, _, _, _, h⟩ := h; exact h
theorem Rp.more {T : Nat → Prop} {rb np k k' : Nat} {F : Nat → Nat} {w : World} (h : Rp T rb np F k w) (hk : k ≤ k') : Rp T rb np F k' w := by
  obtain ⟨a, c, es, h1, h2, h3, h4⟩ := h
  exact ⟨a, c, es, h1, h2, by omega, h4⟩
def RDid (T : Nat → Prop) (rb np : Nat) (F : Nat → Nat) (k : Nat) (w w' : World) : Prop := ∃ T', Rp T' rb np F k w' ∧ Chg T w w' ∧ Grew T T' w
theorem RDid.same {T : Nat → Prop} {rb np k k' : Nat} {F : Nat → Nat} {w : World} (h : Rp T rb np F k w) (hk : k ≤ k') : RDid T rb np F k' w w := ⟨T, h.more hk, Chg.refl _ _, Grew.refl _ _⟩
theorem own_of_heap {w w' : World} {base size n : Nat} {e : TypeId} {v : Value} {xs : List Value} (h : w.ownsRow base e size v n xs) (hh : ∀ g, v.ownBlock = some g → w'.heap[g]? = w.heap[g]?) : w'.ownsRow base e size v n xs := by
  refine ⟨h.1, ?_⟩
  rcases h.2 with e | ⟨g, c, cur, e, h1, h2, h3⟩
  · exact .inl e
  · exact .inr ⟨g, c, cur, e, h1, (hh g (by rw [e]; rfl)).trans h2, h3⟩
theorem chg_of_grown {T : Nat → Prop} {w w' : World} {row : Option Nat} (h : w.grownBy w' row) (ht : ∀ g, row = some g → T g ∨ w.heap.size ≤ g) : Chg T w w' :=
  ⟨h.os, h.tape, h.output, h.size, fun k hk hn => h.block k hk (fun e => by rcases ht k e.symm with a | a; exact hn a; omega)⟩

set_option maxRecDepth 100000 in
set_option maxHeartbeats 2000000 in
theorem refPut_any (T : Nat → Prop) (rb np k : Nat) (F : Nat → Nat) (w : World) (hP : Rp T rb np F k w) (hk : k ≤ 900) (p f : Int) :
    Calls Try.prog 13 #[.pointer (some ⟨rb, 0, none⟩), .int .i64 p, .int .i64 f] w fun e w' => e = .returned (.int .i64 (putR np F p f).1) ∧ RDid T rb np (putR np F p f).2 (k + 1) w w' := by
  have HP := Lib.hid hP
  obtain ⟨a, cap, es, hR, hF, hes, ⟨t1, t2⟩, hI⟩ := hP
  have Hin := Lib.hid (refIn_any rb np cap a es w hR p)
  have HR := Lib.hid hR
  have HF := Lib.hid hF
  have HI := Lib.hid hI
  have Ht2 := Lib.hid t2
  have Ht1 := Lib.hid t1
  clear hR hF hI t1 t2
  unfold putR
  by_cases h1 : 0 ≤ p ∧ p < np
  · rw [if_neg (Classical.not_not.2 h1)]
    unfold inB at Hin
    rw [decide_eq_true h1] at Hin
    obtain ⟨p, rfl⟩ : ∃ q : Nat, p = q := ⟨p.toNat, by omega⟩
    rw [Int.toNat_natCast]
    have hp : p < np := by omega
    clear h1
    by_cases h2 : f < 0 ∨ 2147483648 ≤ f
    · rw [if_pos h2]
      rcases h2 with h2 | h2
      · go_enter Try.func13, Try.ntmps13
        go_wp2_with (go_at_call 25; refine Hin.out.mono ?_; rintro e w1 ⟨rfl, rfl⟩)
        go_ret
        exact ⟨rfl, RDid.same HP.out (by omega)⟩
      · have h0 : ¬ f < 0 := by omega
        go_enter Try.func13, Try.ntmps13
        go_wp2_with (go_at_call 25; refine Hin.out.mono ?_; rintro e w1 ⟨rfl, rfl⟩)
        go_ret
        exact ⟨rfl, RDid.same HP.out (by omega)⟩
    · rw [if_neg h2]
      have h3 : ¬ f < 0 := by omega
      have h4 : ¬ 2147483648 ≤ f := by omega
      have h5 : f < 2147483648 := by omega
      have h6 : 0 ≤ f := by omega
      clear h2
      by_cases h7 : F p ≠ 0
      · rw [if_pos h7]
        obtain ⟨i, hi, hat, hei, hFp⟩ := HF.out.at h7
        have Hat := Lib.hid (refAt_any rb np cap a es w HR.out (by omega) p i hat)
        have hi0 : (0 : Int) ≤ i := by omega
        clear h7 hat hei hFp
        go_enter Try.func13, Try.ntmps13
        go_wp2_with (first | (go_at_call 25; refine Hin.out.mono ?_; rintro e w1 ⟨rfl, rfl⟩) | (go_at_call 26; refine Hat.out.mono ?_; rintro e w1 ⟨rfl, rfl⟩))
        go_ret
        exact ⟨rfl, RDid.same HP.out (by omega)⟩
      · rw [if_neg h7]
        have hF0 : F p = 0 := Classical.not_not.1 h7
        have Hat := Lib.hid (refAt_any rb np cap a es w HR.out (by omega) p (-1) (HF.out.not hF0))
        have Hrel := Lib.hid (HF.out.put (f := f.toNat) hp hF0)
        have c1 := at_cell HR.out.head 1 _ rfl
        have f1 := at_free HR.out.head 1
        have lrb := block_lt HR.out.head
        obtain ⟨i0, hi, hz0, hz1, hz2⟩ := info_parts entry_info
        have hfn : ((f.toNat : Nat) : Int) = f := by omega
        have Hfn := Lib.hid hfn
        clear h7 hF0 hfn
        go_enter Try.func13, Try.ntmps13
        go_wp2_with (first | (go_at_call 25; refine Hin.out.mono ?_; rintro e w1 ⟨rfl, rfl⟩) | (go_at_call 26; refine Hat.out.mono ?_; rintro e w1 ⟨rfl, rfl⟩) | (at_builtin; refine wpList_append_lies _ rfl _ _ 38 rfl (rb + 1) 58 i0 (.agg #[.int .i64 0, .int .i64 0]) 2 16 Try.underlying38 hi hz0 hz1 hz2 rfl (by decide) _ _ _ rfl (HR.out.own.alloc _) ⟨w.heap.size, 0, none⟩ 1 1 [.int .i64 p, .int .i64 f] rfl rfl ?c1 ?c2 ?c3 ?c4 ?c5 ?c6 (w.heap.size + 1) ?c7 ?_))
        case c1 => exact World.news_of_block (heap_alloc_new w (.cells #[.int .i64 p, .int .i64 f] 58))
        case c2 => intro u hu; simp at hu; rcases hu with rfl | rfl <;> rfl
        case c3 => omega
        case c4 => unfold maxLen; omega
        case c5 => omega
        case c6 => simp; omega
        case c7 => simp
        intro g cap2 w1 hown hgrow hat hlt
        have hne : some rb ≠ (Value.slice a es.length cap).ownBlock := fun e => by
          have := (HR.out.own.lt rb e.symm).1
          omega
        have d1 : w1.cell? ⟨rb, 1, none⟩ = some (.slice a es.length cap) := (hgrow.cell_far ⟨rb, 1, none⟩ (by simp; omega) hne).trans (cellB (below_new w _) (Nat.le_refl _) c1)
        have e1 : w1.frozen? ⟨rb, 1, none⟩ = false := (hgrow.frozen_far ⟨rb, 1, none⟩ (by simp; omega) hne).trans (((below_new w _).frozen (p := ⟨rb, 1, none⟩) lrb).trans f1)
        have Hhead := Lib.hid (show w1.heap[rb]? = _ from (hgrow.block rb (by simp; omega) hne).trans (blockB (below_new w _) (Nat.le_refl _) HR.out.head))
        have Hown := Lib.hid hown
        have Hat2 := Lib.hid hat
        have Hchg := Lib.hid (show Chg T w w1 from (Chg.of (below_new w _)).trans (chg_of_grown (T := fun k => T k ∨ w.heap.size ≤ k) hgrow (fun g hg => by
          cases a with
          | none => cases hg
          | some ad => exact .inl (.inl (by have := Ht2.out ad rfl; simp [Value.ownBlock] at hg; rw [← hg]; exact this)))) (fun q hq h => h.resolve_right (by omega)))
        clear hown hgrow hat
        go_wp2
        go_ret
        have hgb : rb < g := by
          have := (Hown.out.lt g rfl).1
          omega
        refine ⟨rfl, fun k => T k ∨ k = g, ⟨some ⟨g, 0, none⟩, cap2, es ++ [(p, f.toNat)], ⟨?_, ?_⟩, Hrel.out, by simp; omega, ⟨.inl Ht1.out, ?_⟩, ?_⟩, ?_, ?_⟩
        · rw [heap_setCell_same _ rb 1 _ _ _ Hhead.out]
          simp
        · have := own_of_heap (w' := w1.setCell ⟨rb, 1, none⟩ (.slice (some ⟨g, 0, none⟩) (es.length + 1) cap2)) Hown.out (fun k hk => Below.heap_setCell w1 ⟨rb, 1, none⟩ _ k (by simp [Value.ownBlock] at hk; subst hk; simp; omega))
          rw [ecells_append, List.length_append]
          simp only [ecells]
          rw [Hfn.out]
          exact this
        · intro x hx
          simp at hx
          rw [← hx]
          exact .inr rfl
        · intro x hx
          have hs := Hchg.out.size
          rcases hx with h | h
          · have := HI.out x h; simp [World.setCell]; omega
          · subst h; simpa [World.setCell] using hlt
        · exact Hchg.out.set (.inl Ht1.out) _
        · intro x hx
          rcases hx with h | h
          · exact .inl h
          · subst h
            rcases Hat2.out with h2 | h2
            · cases a with
              | none => cases h2
              | some ad => exact .inl (by have := Ht2.out ad rfl; simp [Value.ownBlock] at h2; rw [← h2]; exact this)
            · exact .inr (by omega)
  · rw [if_pos h1]
    unfold inB at Hin
    rw [decide_eq_false h1] at Hin
    clear h1
    go_enter Try.func13, Try.ntmps13
    go_wp2_with (go_at_call 25; refine Hin.out.mono ?_; rintro e w1 ⟨rfl, rfl⟩)
    go_ret
    exact ⟨rfl, RDid.same HP.out (by omega)⟩
end Go.Proofs.Ytkonpieebemfbaa
