/- The walks of canon.many at ints, and of the closure that reads a float's bits. -/
import Derived.Test.YtplkogjnmjjjgaaCRd
namespace Go.Proofs.Ytplkogjnmjjjgaa
open Go.ChangeShapes Go.WideShapes Go.ChangeAt Go.RowKit
set_option linter.unusedVariables false
set_option linter.unusedSimpArgs false

theorem GR.swap {W0 w w' : World} {K : List (Nat × Obj)} {rb : Nat} {o o' : Obj} {ty : TypeId} {sz k cap : Nat} {xs : List Value} {al : Option Addr} (h : GR W0 ((rb, o) :: K) ty sz k xs al cap w) (hB : W0.heap.size ≤ rb) (hK : ∀ x ∈ K, x.1 ≠ rb) (c : Chg (fun q => q = rb) w w') (ho : w'.heap[rb]? = some o') : GR W0 ((rb, o') :: K) ty sz k xs al cap w' := h.swapK hB hK c ho
theorem numP_lt (s : Rs) : (numP s).1 < 18446744073709551616 := Wr.got_lt (Wr.Wire.readNum_fits s.1).1
theorem wrap_pred {n : Nat} (h : n + 1 < 18446744073709551616) : IntKind.u64.wrap (((n + 1 : Nat) : Int) - 1) = (n : Int) := by
  rw [IntKind.wrap_u64]
  omega
set_option maxRecDepth 100000 in
set_option maxHeartbeats 2000000 in
theorem many_int {W0 w : World} {K : List (Nat × Obj)} {rb : Nat} {s : Rs} (h : FKN W0 ((rb, rdO s) :: K) w) (hl : s.1.length ≤ 100000) :
    Calls Try.prog 64 #[.pointer (some ⟨rb, 0, none⟩), .func (.func 65) #[.pointer (some ⟨rb, 0, none⟩)] #[]] w fun e w' => ∃ al cap, e = .returned (.slice al (rowP intP s).1.length cap) ∧ ∃ R, Rw W0.heap.size 3 1 (rowP intP s).1.length (icI (rowP intP s).1) al cap R ∧ FKN W0 (R ++ ((rb, rdO (rowP intP s).2) :: K)) w' := by
  obtain ⟨i1, hj, hy0, hy1, hy2⟩ := info_parts int_info
  have HN := Lib.hid (num_fk h (by omega))
  have hlen := rowP_len intP_eats s
  have hlt := numP_lt s
  have hel := (numP_eats s).1
  obtain ⟨tot, htot⟩ : ∃ tot, rowP intP s = tot := ⟨_, rfl⟩
  unfold rowP at htot
  rw [show rowP intP s = tot from htot] at hlen ⊢
  have Htot := Lib.hid htot
  obtain ⟨n0, hn0⟩ : ∃ n0, (numP s).1 = n0 := ⟨_, rfl⟩
  obtain ⟨s1, hs1⟩ : ∃ s1, (numP s).2 = s1 := ⟨_, rfl⟩
  simp only [hn0, hs1] at Htot HN hlt hel
  have Hlen := Lib.hid (show tot.1.length ≤ 100001 by omega)
  have hs1l : s1.1.length ≤ 100000 := by omega
  clear h htot hn0 hs1 hlen hel hl
  go_enter Try.func64, Try.ntmps64
  go_wp2_with (go_at_call 67; refine HN.out.mono ?_; rintro e w1 ⟨rfl, hF⟩; have HF := Lib.hid hF; clear hF)
  clear HN
  go_loopw [5, 6] (fun ov nv wr => ∃ (n : Nat) (st : Rs) (xs : List Int) (al : Option Addr) (cap : Nat) (R : List (Nat × Obj)), ov = .slice al xs.length cap ∧ nv = .int .u64 n ∧ n < 18446744073709551616 ∧ st.1.length ≤ 100000 ∧ (xs ++ (manyP intP n st).1, (manyP intP n st).2) = tot ∧ Rw W0.heap.size 3 1 xs.length (icI xs) al cap R ∧ FKN W0 ((rb, rdO st) :: (R ++ K)) wr) (fun _ nv _ => (intOf nv).toNat)
  case atStart => exact ⟨n0, s1, [], none, 0, [], rfl, rfl, hlt, hs1l, by simpa using Htot.out, Rw.nil _ _ _, HF.out⟩
  case round =>
    clear HF Htot hlt hs1l
    obtain ⟨n, st, xs, al, cap, R, rfl, rfl, hn, hsl, htot, hr, hF⟩ := hrel
    have HE := Lib.hid (err_fk hF)
    by_cases h0 : n = 0
    · subst h0
      rw [manyP_zero, List.append_nil] at htot
      have Hr := Lib.hid hr
      have HF := Lib.hid hF
      have Htot := Lib.hid htot
      clear hr hF htot
      go_wp2_with (fail)
      go_ret
      have e := Htot.out
      subst e
      exact ⟨al, cap, rfl, R, Hr.out, HF.out.perm (permC fun x => by simp only [List.count_append, List.count_cons, List.append_assoc, List.cons_append]; ac_rfl)⟩
    · obtain ⟨m, hm⟩ : ∃ m, n = m + 1 := ⟨n - 1, by omega⟩
      have hpos : (0 : Int) < (n : Int) := by omega
      by_cases hy : st.2 = 0
      · have hw : IntKind.u64.wrap ((n : Int) - 1) = (m : Int) := by rw [hm]; exact wrap_pred (by omega)
        rw [hm, manyP_more hy] at htot
        have hye : (((st.2 : Nat) : Int) == 0) = true := by simp [hy]
        have hel := (intP_eats st).1
        have HI := Lib.hid (int_fk hF (by omega))
        have Htl := Lib.hid (show xs.length ≤ 100000 by
          have h1 := congrArg (fun q => q.1.length) htot
          have h2 := Hlen.out
          simp at h1
          omega)
        obtain ⟨v, hv⟩ : ∃ v, (intP st).1 = v := ⟨_, rfl⟩
        obtain ⟨st2, hst2⟩ : ∃ st2, (intP st).2 = st2 := ⟨_, rfl⟩
        simp only [hv, hst2] at htot HI hel
        have Htot := Lib.hid htot
        have Hr := Lib.hid hr
        have HF := Lib.hid hF
        have Hm := Lib.hid hm
        have hsl2 : st2.1.length ≤ 100000 := by omega
        obtain ⟨y, hyy⟩ : ∃ y, st.2 = y := ⟨_, rfl⟩
        rw [hyy] at hye HE
        clear hr hF htot hel hv hst2 hm hy hyy h0
        go_wp2_with (first
          | (go_at_call 69; refine HE.out.mono ?_; rintro e w2 ⟨rfl, rfl⟩)
          | (go_at_call 65; refine HI.out.mono ?_; rintro e w3 ⟨rfl, hF3⟩; obtain ⟨al', cap', w4, R', hrun, hr', hN⟩ := Hr.out.app1 (hF3.perm (K' := R ++ ((rb, rdO st2) :: K)) (permC fun x => by simp only [List.count_append, List.count_cons, List.append_assoc, List.cons_append]; ac_rfl)) hj hy0 hy1 hy2 rfl (by decide) Try.underlying22 #[.int .i64 v] rfl (by intro u hu; simp only [List.mem_cons, List.not_mem_nil, or_false] at hu; rw [hu]; rfl) (by have := Htl.out; unfold maxLen; omega) (by have := Htl.out; omega); have HRUN := Lib.hid hrun; have Hr' := Lib.hid hr'; have HN := Lib.hid hN; clear hrun hr' hN hF3)
          | (at_builtin; refine wpList_append_run _ rfl (.tmp 18) (.tmp 21) 22 rfl _ _ _ _ rfl rfl HRUN.out ?_))
        go_roundw
        case rel => exact ⟨m, st2, xs ++ [v], al', cap', R', by simp, rfl, by have := Hm.out; omega, hsl2, by simpa using Htot.out, by rw [icI_snoc, List.length_append]; exact Hr'.out, HN.out.perm (permC fun x => by simp only [List.count_append, List.count_cons, List.append_assoc, List.cons_append]; ac_rfl)⟩
        case measure => simp [intOf]; have := Hm.out; omega
      · rw [hm, manyP_bad hy, List.append_nil] at htot
        have hye : (((st.2 : Nat) : Int) == 0) = false := by rw [beq_eq_false_iff_ne]; omega
        have Hr := Lib.hid hr
        have HF := Lib.hid hF
        have Htot := Lib.hid htot
        obtain ⟨y, hyy⟩ : ∃ y, st.2 = y := ⟨_, rfl⟩
        rw [hyy] at hye HE
        clear hr hF htot hm hy hyy h0
        go_wp2_with (go_at_call 69; refine HE.out.mono ?_; rintro e w2 ⟨rfl, rfl⟩)
        go_ret
        have e := Htot.out
        subst e
        exact ⟨al, cap, rfl, R, Hr.out, HF.out.perm (permC fun x => by simp only [List.count_append, List.count_cons, List.append_assoc, List.cons_append]; ac_rfl)⟩
end Go.Proofs.Ytplkogjnmjjjgaa
