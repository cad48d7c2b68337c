/- The walk of the reference's Move. -/
import Derived.Test.YtkonpieebemfbaaPagesRefW2
namespace Go.Proofs.Ytkonpieebemfbaa
open Go.ChangeShapes Go.WideShapes Go.ChangeAt Go.RowKit
set_option linter.unusedVariables false

theorem RMap.drew {rb np cap : Nat} {a : Option Addr} {es : List (Nat × Nat)} {w : World} (h : RMap rb np a cap es w) : RMap rb np a cap es w.drew := ⟨h.head, own_of_heap h.own (fun _ _ => rfl)⟩
set_option maxRecDepth 100000 in
set_option maxHeartbeats 2000000 in
theorem refMove_any (T : Nat → Prop) (rb np k : Nat) (F : Nat → Nat) (w : World) (hP : Rp T rb np F k w) (hk : k ≤ 900) (p q : Int) :
    Calls Try.prog 15 #[.pointer (some ⟨rb, 0, none⟩), .int .i64 p, .int .i64 q] w fun e w' => e = .returned (.int .i64 (moveR np F p q).1) ∧ RDid T rb np (moveR np F p q).2 k w w' := by
  have HP := Lib.hid hP
  obtain ⟨a, cap, es, hR, hF, hes, ⟨t1, t2⟩, hI⟩ := hP
  have Hp := Lib.hid (refIn_any rb np cap a es w hR p)
  have Hq := Lib.hid (refIn_any rb np cap a es w hR q)
  have HR := Lib.hid hR
  have HF := Lib.hid hF
  have HI := Lib.hid hI
  have Ht2 := Lib.hid t2
  have Ht1 := Lib.hid t1
  clear hR hF hI t1 t2
  unfold moveR
  by_cases h1 : 0 ≤ p ∧ p < np
  · unfold inB at Hp
    rw [decide_eq_true h1] at Hp
    by_cases h2 : 0 ≤ q ∧ q < np
    · rw [if_neg (Classical.not_not.2 ⟨h1, h2⟩)]
      unfold inB at Hq
      rw [decide_eq_true h2] at Hq
      obtain ⟨p, rfl⟩ : ∃ q : Nat, p = q := ⟨p.toNat, by omega⟩
      obtain ⟨q, rfl⟩ : ∃ x : Nat, q = x := ⟨q.toNat, by omega⟩
      rw [Int.toNat_natCast, Int.toNat_natCast]
      have hp : p < np := by omega
      have hq : q < np := by omega
      clear h1 h2
      by_cases h7 : F p = 0
      · rw [if_pos h7]
        have Hat := Lib.hid (refAt_any rb np cap a es w HR.out (by omega) p (-1) (HF.out.not h7))
        clear h7
        go_enter Try.func15, Try.ntmps15
        go_wp2_with (first | (go_at_call 25; refine Hp.out.mono ?_; rintro e w1 ⟨rfl, rfl⟩; clear Hp) | (go_at_call 25; refine Hq.out.mono ?_; rintro e w1 ⟨rfl, rfl⟩) | (go_at_call 26; refine Hat.out.mono ?_; rintro e w1 ⟨rfl, rfl⟩))
        go_ret
        exact ⟨rfl, RDid.same HP.out (Nat.le_refl _)⟩
      · rw [if_neg h7]
        obtain ⟨i, hi, hat, hei, hFp⟩ := HF.out.at h7
        have Hat := Lib.hid (fun W hW => refAt_any rb np cap a es W hW (by omega) p i hat)
        have hi0 : (0 : Int) ≤ i := by omega
        by_cases h9 : F q ≠ 0
        · rw [if_pos h9]
          obtain ⟨j, hj, hat2, hej, hFq⟩ := HF.out.at h9
          have Hat2 := Lib.hid (refAt_any rb np cap a es w HR.out (by omega) q j hat2)
          have hj0 : (0 : Int) ≤ j := by omega
          clear h7 h9 hat hei hFp hat2 hej hFq
          go_enter Try.func15, Try.ntmps15
          go_wp2_with (first | (go_at_call 25; refine Hp.out.mono ?_; rintro e w1 ⟨rfl, rfl⟩; clear Hp) | (go_at_call 25; refine Hq.out.mono ?_; rintro e w1 ⟨rfl, rfl⟩) | (go_at_call 26; refine (Hat.out _ HR.out).mono ?_; rintro e w1 ⟨rfl, rfl⟩; clear Hat) | (go_at_call 26; refine Hat2.out.mono ?_; rintro e w1 ⟨rfl, rfl⟩))
          go_ret
          exact ⟨rfl, RDid.same HP.out (Nat.le_refl _)⟩
        · rw [if_neg h9]
          have hF0 : F q = 0 := Classical.not_not.1 h9
          have Hat2 := Lib.hid (refAt_any rb np cap a es w HR.out (by omega) q (-1) (HF.out.not hF0))
          have hmv := HF.out.move hi hq hF0
          rw [hei] at hmv
          have Hrel := Lib.hid hmv
          obtain ⟨g, rfl, hg1, hg2⟩ := HR.out.form (by omega)
          obtain ⟨ci, -⟩ := HR.out.cell hi
          have fi : w.frozen? ⟨g, i * 2, none⟩ = false := HR.out.own.frozenAt _
          have c1 := at_cell HR.out.head 1 _ rfl
          have hi2 : (i : Int) < es.length := by omega
          have hgr : g ≠ rb := by omega
          have hrg : rb ≠ g := by omega
          generalize (eP es i : Int) = x at *
          clear h7 h9 hat hei hFp hF0 hmv
          have Hat3 := Lib.hid Hat.out
          go_enter Try.func15, Try.ntmps15
          go_wp2_with (first | (go_at_call 25; refine Hp.out.mono ?_; rintro e w1 ⟨rfl, rfl⟩; clear Hp) | (go_at_call 25; refine Hq.out.mono ?_; rintro e w1 ⟨rfl, rfl⟩) | (go_at_call 26; refine (Hat.out _ HR.out).mono ?_; rintro e w1 ⟨rfl, rfl⟩; clear Hat) | (go_at_call 26; refine Hat2.out.mono ?_; rintro e w1 ⟨rfl, rfl⟩))
          go_region_held3 (fun w' => w'.cell? ⟨rb, 1, none⟩ = some (.slice (some ⟨g, 0, none⟩) es.length cap)) (first | exact c1 | go_keep | (rw [World.cell?_of_block (Below.heap_setCell _ ⟨g, i * 2, none⟩ _ rb hrg)]; exact c1)) ((go_at_call 26; refine (Hat3.out _ HR.out.drew).mono ?_; rintro e w1 ⟨rfl, rfl⟩))
          go_wp2
          go_ret
          have hst := (HR.out.own.stored (i * 2) (.int .i64 q)).1
          rw [ecells_set es i q hi] at hst
          refine ⟨rfl, T, (Rp.grow (w := w.setCell ⟨g, i * 2, none⟩ (.int .i64 q)) ⟨some ⟨g, 0, none⟩, cap, es.set i (q, eF es i), ⟨?_, ?_⟩, Hrel.out, by rw [List.length_set]; exact hes, ⟨Ht1.out, Ht2.out⟩, HI.out.mono (by simp [World.setCell])⟩ (below_drew _)), ((Chg.refl T w).set (p := ⟨g, i * 2, none⟩) (.inl (Ht2.out ⟨g, 0, none⟩ rfl)) _).drew, Grew.refl _ _⟩
          · rw [Below.heap_setCell _ ⟨g, i * 2, none⟩ _ rb hrg, List.length_set]
            exact HR.out.head
          · rw [List.length_set]
            exact hst
    · rw [if_pos (fun h => h2 h.2)]
      unfold inB at Hq
      rw [decide_eq_false h2] at Hq
      clear h1 h2
      go_enter Try.func15, Try.ntmps15
      go_wp2_with (first | (go_at_call 25; refine Hp.out.mono ?_; rintro e w1 ⟨rfl, rfl⟩; clear Hp) | (go_at_call 25; refine Hq.out.mono ?_; rintro e w1 ⟨rfl, rfl⟩))
      go_ret
      exact ⟨rfl, RDid.same HP.out (Nat.le_refl _)⟩
  · rw [if_pos (fun h => h1 h.1)]
    unfold inB at Hp
    rw [decide_eq_false h1] at Hp
    clear h1
    go_enter Try.func15, Try.ntmps15
    go_wp2_with (first | (go_at_call 25; refine Hp.out.mono ?_; rintro e w1 ⟨rfl, rfl⟩; clear Hp))
    go_ret
    exact ⟨rfl, RDid.same HP.out (Nat.le_refl _)⟩
end Go.Proofs.Ytkonpieebemfbaa
