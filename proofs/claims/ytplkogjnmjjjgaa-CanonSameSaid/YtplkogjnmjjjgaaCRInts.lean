/- The walk of the reference's reader of a row of ints. -/
import Derived.Test.YtplkogjnmjjjgaaCRRd
namespace Go.Proofs.Ytplkogjnmjjjgaa
open Go.ChangeShapes Go.WideShapes Go.ChangeAt Go.RowKit
set_option linter.unusedVariables false
set_option linter.unusedSimpArgs false
open Wr.Wire (readNum readFix zag)

theorem intP_ok {s : Rs} (h : s.2 = 0) (e : (readNum s.1).2.2 = 0) : intP s = (zag (readNum s.1).1, (s.1.drop (readNum s.1).2.1, 0)) := by unfold intP; rw [numP_ok h e]
theorem intP_err {s : Rs} (h : s.2 = 0) (e : (readNum s.1).2.2 ≠ 0) : (intP s).2 = (s.1, (readNum s.1).2.2) := by unfold intP; rw [numP_err h e]
theorem rowR_len {α : Type} {one : Rs → α × Rs} (h : Eats one) (s : Rs) : (rowR one s).1.length ≤ s.1.length := by
  have h1 := manyR_len h (numP s).1 (numP s).2
  have h2 := (numP_eats s).1
  unfold rowR
  omega
theorem FKN.note {W0 w : World} {K : List (Nat × Obj)} {rb : Nat} {s : Rs} (h : FKN W0 ((rb, rrO s) :: K) w) {e : Nat} (he : e ≠ 0) : FKN W0 ((rb, rrO (s.1, e)) :: K) (w.setCell ⟨rb, 1, none⟩ (.bool true)) := by
  have h1 := h.set 1 (.bool true)
  unfold rrO
  simpa [he] using h1
theorem FKN.rest {W0 w : World} {K : List (Nat × Obj)} {rb : Nat} {s : Rs} (h : FKN W0 ((rb, rrO s) :: K) w) (hy : s.2 = 0) (l : List UInt8) : FKN W0 ((rb, rrO (l, 0)) :: K) (w.setCell ⟨rb, 0, none⟩ (.string (str l))) := by
  have h1 := h.set 0 (.string (str l))
  unfold rrO
  simpa [hy] using h1
set_option maxRecDepth 100000 in
set_option maxHeartbeats 2000000 in
theorem rints_fk {W0 w : World} {K : List (Nat × Obj)} {rb : Nat} {s : Rs} (h : FKN W0 ((rb, rrO s) :: K) w) (hl : s.1.length ≤ 100000) :
    Calls Try.prog 70 #[.pointer (some ⟨rb, 0, none⟩)] w fun e w' => ∃ al cap, e = .returned (.slice al (rowR intP s).1.length cap) ∧ ∃ R, Rw W0.heap.size 3 1 (rowR intP s).1.length (icI (rowR intP s).1) al cap R ∧ FKN W0 ((rb, rrO (rowR intP s).2) :: (R ++ K)) w' := by
  obtain ⟨i1, hj, hy0, hy1, hy2⟩ := info_parts int_info
  have HN := Lib.hid (rnum_fk h (by omega))
  have hlen := rowR_len intP_eats s
  have hlt := numP_lt s
  have hel := (numP_eats s).1
  obtain ⟨tot, htot⟩ : ∃ tot, rowR intP s = tot := ⟨_, rfl⟩
  unfold rowR at htot
  rw [show rowR intP s = tot from htot] at hlen ⊢
  have Htot := Lib.hid htot
  obtain ⟨n0, hn0⟩ : ∃ n0, (numP s).1 = n0 := ⟨_, rfl⟩
  obtain ⟨s1, hs1⟩ : ∃ s1, (numP s).2 = s1 := ⟨_, rfl⟩
  simp only [hn0, hs1] at Htot HN hlt hel
  have Hlen := Lib.hid (show tot.1.length ≤ 100001 by omega)
  have hs1l : s1.1.length ≤ 100000 := by omega
  clear h htot hn0 hs1 hlen hel hl
  go_enter Try.func70, Try.ntmps70
  go_wp2_with (go_at_call 71; refine HN.out.mono ?_; rintro e w1 ⟨rfl, hF⟩; have HF := Lib.hid hF; clear hF)
  clear HN
  go_loopw [3, 4] (fun ov nv wr => ∃ (n : Nat) (st : Rs) (xs : List Int) (al : Option Addr) (cap : Nat) (R : List (Nat × Obj)), ov = .slice al xs.length cap ∧ nv = .int .u64 n ∧ n < 18446744073709551616 ∧ st.1.length ≤ 100000 ∧ (xs ++ (manyR intP n st).1, (manyR intP n st).2) = tot ∧ Rw W0.heap.size 3 1 xs.length (icI xs) al cap R ∧ FKN W0 ((rb, rrO st) :: (R ++ K)) wr) (fun _ nv _ => (intOf nv).toNat)
  case atStart => exact ⟨n0, s1, [], none, 0, [], rfl, rfl, hlt, hs1l, by simpa using Htot.out, Rw.nil _ _ _, HF.out⟩
  case round =>
    clear HF Htot hlt hs1l
    obtain ⟨n, st, xs, al, cap, R, rfl, rfl, hn, hsl, htot, hr, hF⟩ := hrel
    by_cases h0 : n = 0
    · subst h0
      rw [manyR_zero, List.append_nil] at htot
      have Hr := Lib.hid hr
      have HF := Lib.hid hF
      have Htot := Lib.hid htot
      clear hr hF htot
      go_wp2_with (fail)
      go_ret
      have e := Htot.out
      subst e
      exact ⟨al, cap, rfl, R, Hr.out, HF.out⟩
    · obtain ⟨m, hm⟩ : ∃ m, n = m + 1 := ⟨n - 1, by omega⟩
      have hpos : (0 : Int) < (n : Int) := by omega
      by_cases hy : st.2 = 0
      · obtain ⟨⟨c0, c1⟩, f0, f1⟩ := rr_cells hF _ (noted hy)
        have HR := Lib.hid (Wr.readInt_any (str st.1) wr (by rw [str_size]; omega))
        simp only [str_data] at HR
        rw [hm] at htot
        by_cases he : (readNum st.1).2.2 = 0
        · have hw : IntKind.u64.wrap ((n : Int) - 1) = (m : Int) := by rw [hm]; exact wrap_pred (by omega)
          have hel := (intP_eats st).1
          rw [manyR_more hy (by rw [intP_ok hy he])] at htot
          rw [intP_ok hy he] at htot hel
          have hfit : (readNum st.1).2.1 ≤ (str st.1).size := by rw [str_size]; exact (Wr.Wire.readNum_fits st.1).2.1
          have hsz : (str st.1).size ≤ 1000000000 := by rw [str_size]; omega
          have Hex := Lib.hid (Wr.extract_left st.1 (readNum st.1).2.1)
          rw [he] at HR
          have Htl := Lib.hid (show xs.length ≤ 100000 by
            have h1 := congrArg (fun q => q.1.length) htot
            have h2 := Hlen.out
            simp at h1
            omega)
          simp only at htot hel
          have Htot := Lib.hid htot
          have Hsl2 := Lib.hid (Nat.le_trans hel hsl)
          have Hy := Lib.hid hy
          have Hm := Lib.hid hm
          obtain ⟨al', cap', w4, R', hrun, hr', hN⟩ := hr.app1 (hF.perm (K' := R ++ ((rb, rrO st) :: K)) (permC fun x => by simp only [List.count_append, List.count_cons, List.append_assoc, List.cons_append]; ac_rfl)) hj hy0 hy1 hy2 rfl (by decide) Try.underlying22 #[.int .i64 (zag (readNum st.1).1)] rfl (by intro u hu; simp only [List.mem_cons, List.not_mem_nil, or_false] at hu; rw [hu]; rfl) (by have := Htl.out; unfold maxLen; omega) (by have := Htl.out; omega)
          have hN2 := hN.perm (K' := (rb, rrO st) :: (R' ++ K)) (permC fun x => by simp only [List.count_append, List.count_cons, List.append_assoc, List.cons_append]; ac_rfl)
          obtain ⟨⟨d0, d1⟩, g0, g1⟩ := rr_cells hN2 _ (noted hy)
          have HN2 := Lib.hid (hN2.rest hy (st.1.drop (readNum st.1).2.1))
          have HRUN := Lib.hid hrun
          have Hr' := Lib.hid hr'
          clear hr hF htot hel hy hm h0 he hsl hN hN2 hrun hr'
          generalize readNum st.1 = q at *
          obtain ⟨x, k, e⟩ := q
          simp only at *
          go_wp2_with (first
            | (go_at_call 88; refine HR.out.mono ?_; rintro e w2 ⟨rfl, rfl⟩)
            | (at_builtin; refine wpList_append_run _ rfl (.tmp 36) (.tmp 38) 22 rfl _ _ _ _ rfl rfl HRUN.out ?_))
          rw [Hex.out]
          go_roundw
          case rel => exact ⟨m, _, xs ++ [zag x], al', cap', R', by simp, rfl, by have := Hm.out; omega, Hsl2.out, by simpa using Htot.out, by rw [icI_snoc, List.length_append]; exact Hr'.out, HN2.out⟩
          case measure => simp [intOf]; have := Hm.out; omega
        · rw [manyR_end hy (by rw [intP_err hy he]; exact he), intP_err hy he, List.append_nil] at htot
          have hne2 : ((((readNum st.1).2.2 : Nat) : Int) != 0) = true := by simp; exact he
          have HF := Lib.hid (hF.note he)
          have Hr := Lib.hid hr
          have Htot := Lib.hid htot
          clear hr hF htot hy hm h0 he hsl
          generalize readNum st.1 = q at *
          obtain ⟨x, k, e⟩ := q
          simp only at *
          go_wp2_with (go_at_call 88; refine HR.out.mono ?_; rintro e w2 ⟨rfl, rfl⟩)
          go_ret
          have e := Htot.out
          subst e
          exact ⟨al, cap, rfl, R, Hr.out, HF.out⟩
      · obtain ⟨⟨c0, c1⟩, f0, f1⟩ := rr_cells hF _ (noted' hy)
        rw [hm, manyR_bad hy, List.append_nil] at htot
        have Hr := Lib.hid hr
        have HF := Lib.hid hF
        have Htot := Lib.hid htot
        clear hr hF htot hm hy h0
        go_wp2_with (fail)
        go_ret
        have e := Htot.out
        subst e
        exact ⟨al, cap, rfl, R, Hr.out, HF.out⟩
end Go.Proofs.Ytplkogjnmjjjgaa
