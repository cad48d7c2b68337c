/- The reference of layer 18 over the same memory: Pointers. -/
import Derived.Test.YtkcijlndblbidaaWRef
namespace Go.Proofs.Ytkcijlndblbidaa
open Go.ChangeShapes Go.WideShapes Go.ChangeAt Go.RowKit
set_option linter.unusedVariables false

theorem ptR_ok (n : Nat) (g : Nat → Nat) (l : List Fnd) : (ptR n g l).2 = 0 ∨ (ptR n g l).1 = [] := by
  induction l with
  | nil => exact .inl rfl
  | cons x l ih =>
    unfold ptR seqN
    split
    · unfold catN
      split
      · exact .inl rfl
      · exact .inr rfl
    · exact .inr rfl
theorem catN_nil (r : List Nat × Int) (h : r.2 = 0 ∨ r.1 = []) : catN [] r = r := by
  obtain ⟨a, b⟩ := r
  unfold catN
  simp only at *
  split
  · rename_i e
    rw [e]
    rfl
  · rename_i e
    rcases h with h | h
    · exact absurd h e
    · rw [h]
section
variable {W0 w w' : World} {m n t : Nat} {g : Nat → Nat} {K : List (Nat × Obj)} {bl c : Nat} {cur : Array Value}
set_option maxRecDepth 100000 in
set_option maxHeartbeats 4000000 in
theorem rpointers_fk (h : FK W0 m n t g K w) (hg : Small n g) (hU : UCells n g cur) (hbl : (bl, .cells cur 23 (0, 0)) ∈ K) (base top : Int) (h3 : top ≤ 9223372036854775807) :
    Calls Try.prog 94 #[.slice (some ⟨bl, 0, none⟩) n c, .int .i64 base, .int .i64 top] w fun e w' => ∃ al cap, e = .returned (.tuple #[.slice al (PR n g base top).1.length cap, .int .i64 (PR n g base top).2]) ∧ GR W0 m n t g K 3 1 (PR n g base top).1.length (icl (PR n g base top).1) al cap w' := by
  have hn := h.dims
  have HA := Lib.hid (rall_fk (c := c) h hg hU hbl base top h3)
  obtain ⟨f1, f2, f3⟩ := allR_facts n g base top
  obtain ⟨R, hR⟩ : ∃ R, PR n g base top = R := ⟨_, rfl⟩
  rw [hR]
  unfold PR at hR
  generalize allR n g base top = A at *
  obtain ⟨l, er⟩ := A
  simp only at *
  by_cases h0 : er = 0
  · subst h0
    rw [if_pos rfl] at hR
    obtain ⟨i1, hj, hy0, hy1, hy2⟩ := info_parts int_info18
    have HR := Lib.hid hR
    have Hg := Lib.hid hg
    have HU := Lib.hid hU
    have Hbl := Lib.hid hbl
    have Hp := Lib.hid f1
    have l1 : (l.length : Int) ≤ 4096 := by omega
    have n1 : (n : Int) ≤ 4096 := by omega
    clear h hg hR hU hbl f1 f3
    go_enter Try.func94, Try.ntmps94
    go_wp2_with (go_at_call 92; refine HA.out.mono ?_; rintro e w1 ⟨al, cap, rfl, h1⟩; obtain ⟨D, hF, hk⟩ := h1.kept; have HF0 := Lib.hid hF; have Hk := Lib.hid hk; clear h1 hF hk)
    clear HA
    go_loopw [10, 11] (fun r i wr => ∃ (k : Nat) (o : List Nat) (al2 : Option Addr) (cap2 : Nat), r = .slice al2 o.length cap2 ∧ i = .int .i64 k ∧ k ≤ l.length ∧ o.length ≤ 255 * k ∧ R = catN o (ptR n g (l.drop k)) ∧ GR W0 m n t g (D ++ K) 3 1 o.length (icl o) al2 cap2 wr) (fun _ i _ => l.length - (intOf i).toNat)
    case atStart => exact ⟨0, [], none, 0, rfl, rfl, by omega, by simp, by rw [List.drop_zero, HR.out]; exact (catN_nil R (HR.out ▸ ptR_ok n g l)).symm, GR.none' HF0.out _ _⟩
    case round =>
      clear HF0
      obtain ⟨k, o, al2, cap2, rfl, rfl, hk, hol, hcat, hF⟩ := hrel
      have HF := Lib.hid hF
      by_cases hlt : k < l.length
      · have hpx := Hp.out (l.getD k ⟨0, 0, 0, 0⟩) (by rw [List.getD_eq_getElem?_getD, List.getElem?_eq_getElem hlt]; exact List.getElem_mem hlt)
        have hdrop : l.drop k = l.getD k ⟨0, 0, 0, 0⟩ :: l.drop (k + 1) := by
          rw [List.drop_eq_getElem_cons hlt, List.getD_eq_getElem?_getD, List.getElem?_eq_getElem hlt]
          rfl
        rw [hdrop, ptR] at hcat
        have hcells := fun w' (h : FK W0 m n t g (D ++ K) w') => kept_fnd Hk.out (fun x hx => List.mem_append_left _ hx) h hlt
        generalize l.getD k ⟨0, 0, 0, 0⟩ = x at *
        obtain ⟨xa, p, f, q⟩ := x
        simp only at *
        have Hcells := Lib.hid hcells
        have Hcat := Lib.hid hcat
        have k1 : (k : Int) < l.length := by omega
        have k2 : (0 : Int) ≤ k := by omega
        have k3 : ((k : Int)).toNat = k := by omega
        have p1 : (p : Int) ≤ 255 := by omega
        clear hF hcat hdrop hcells
        go_wp2_with (fail)
        go_loopw [10, 12] (fun r i wr => ∃ (j : Nat) (o2 : List Nat) (al3 : Option Addr) (cap3 : Nat), r = .slice al3 o2.length cap3 ∧ i = .int .i64 j ∧ j ≤ p ∧ o2.length ≤ 255 * k + j ∧ R = catN o2 (seqN (ptO n g xa (p - j) j) (ptR n g (l.drop (k + 1)))) ∧ GR W0 m n t g (D ++ K) 3 1 o2.length (icl o2) al3 cap3 wr) (fun _ i _ => p - (intOf i).toNat)
        case atStart => exact ⟨0, o, al2, cap2, rfl, rfl, by omega, by omega, Hcat.out, HF.out⟩
        case round =>
          clear HF Hcat
          obtain ⟨j, o2, al3, cap3, rfl, rfl, hjp, hol2, hcat2, hF⟩ := hrel
          obtain ⟨bb, rfl, c0, c1, c2, c3⟩ := Hcells.out _ hF.full
          clear c2 c3
          have HF2 := Lib.hid hF
          by_cases hltj : j < p
          · have hc := (rget_any (HU.out.row (hF.block (List.mem_append_right _ Hbl.out))) c hn.2 Hg.out xa j 1 (.inl rfl)).mono (fun e w' q => (⟨q.1, HF2.out.grow q.2⟩ : _ ∧ GR W0 m n t g (D ++ K) 3 1 o2.length (icl o2) al3 cap3 w'))
            rw [show rgW n g xa j 1 = ptV n g xa j from if_pos rfl, show rgE n g xa j 1 = ptE n g xa j from if_pos rfl] at hc
            rw [show p - j = (p - (j + 1)) + 1 by omega, ptO] at hcat2
            have hv := ptV_lt n g xa j
            have j1 : (j : Int) < p := by omega
            have j2 : (0 : Int) ≤ j := by omega
            generalize ptV n g xa j = v at *
            generalize ptE n g xa j = er at *
            have HC := Lib.hid hc
            clear hc hF
            by_cases h0 : er = 0
            · subst h0
              rw [if_pos rfl, seqN_cat, catN_catN] at hcat2
              by_cases hv0 : v = 0
              · subst hv0
                rw [if_pos rfl, List.append_nil] at hcat2
                have Hcat2 := Lib.hid hcat2
                clear hcat2
                go_wp2_with (go_at_call 73; refine HC.out.mono ?_; rintro e w4 ⟨rfl, h4⟩; have H4 := Lib.hid h4; clear h4 c0 c1)
                go_roundw
                case rel => exact ⟨j + 1, o2, al3, cap3, rfl, by go_num, by omega, by omega, Hcat2.out, H4.out⟩
                case measure => simp [intOf]; omega
              · rw [if_neg hv0] at hcat2
                have Hcat2 := Lib.hid hcat2
                have b1 : ((v : Int) != 0) = true := by rw [bne_iff_ne]; omega
                have hll : o2.length ≤ 1300000 := by omega
                have Hol2 := Lib.hid hol2
                have v1 : (v : Int) < 2147483648 := by omega
                have v2 : (0 : Int) ≤ v := by omega
                clear hcat2 hv0 hol2 hv
                go_wp2_with (first
                  | (go_at_call 73; refine HC.out.mono ?_; rintro e w4 ⟨rfl, h4⟩; have hlow := h4.below.size; have H4 := Lib.hid h4; clear h4 c0 c1)
                  | (at_builtin; refine wpList_append_lies _ rfl (.tmp 57) (.tmp 60) 71 rfl W0.heap.size 3 i1 (.int .i64 0) 1 8 Try.underlying71 hj hy0 hy1 hy2 rfl (by decide) _ _ _ rfl (World.ownsRow.alloc H4.out.row _) ⟨w4.heap.size, 0, none⟩ 1 1 [.int .i64 v] rfl rfl ?k1 ?k2 ?k3 ?k4 ?k5 ?k6 (w4.heap.size + 1) ?k7 ?_))
                case k1 => exact World.news_of_block (heap_alloc_new w4 (.cells #[.int .i64 v] 3))
                case k2 => intro u hu; simp at hu; subst hu; rfl
                case k3 => omega
                case k4 => unfold maxLen; omega
                case k5 => omega
                case k6 => simp; omega
                case k7 => simp
                intro g5 cap5 w5 hown5 hgrow5 hat5 hlt5
                have HN5 := Lib.hid (H4.out.push hown5 hgrow5 hat5)
                clear hown5 hgrow5 hat5
                go_wp2
                go_roundw
                case rel => exact ⟨j + 1, o2 ++ [v], _, _, by rw [List.length_append]; rfl, by go_num, by omega, by have := Hol2.out; rw [List.length_append]; simp; omega, Hcat2.out, by rw [List.length_append, icl_snoc]; exact HN5.out⟩
                case measure => simp [intOf]; omega
            · rw [if_neg h0, seqN_fail _ h0, catN_fail _ _ h0] at hcat2
              have Hcat2 := Lib.hid hcat2
              have b1 : (er != 0) = true := by rw [bne_iff_ne]; exact h0
              clear hcat2 h0
              go_wp2_with (go_at_call 73; refine HC.out.mono ?_; rintro e w4 ⟨rfl, h4⟩; have H4 := Lib.hid h4; clear h4 c0 c1)
              go_ret2
              rw [Hcat2.out]
              exact ⟨none, 0, rfl, GR.none' (H4.out.full.sub fun x hx => List.mem_append_right _ hx) _ _⟩
          · obtain rfl : j = p := by omega
            rw [Nat.sub_self, ptO, seqN_done] at hcat2
            have Hcat2 := Lib.hid hcat2
            have j1 : ¬ (j : Int) < j := by omega
            clear hcat2 hF
            go_wp2
            go_roundw
            case rel => exact ⟨k + 1, o2, al3, cap3, rfl, by go_num, by omega, by omega, Hcat2.out, HF2.out⟩
            case measure => simp [intOf]; omega
      · rw [List.drop_of_length_le (by omega), ptR, catN_done] at hcat
        have Hcat := Lib.hid hcat
        have k1 : ¬ (k : Int) < l.length := by omega
        clear hF hcat
        go_wp2
        go_ret2
        rw [Hcat.out]
        exact ⟨al2, cap2, rfl, HF.out.sub fun x hx => List.mem_append_right _ hx⟩
  · obtain rfl : l = [] := by rcases f3 with h | h; exact absurd h h0; exact h
    have b1 : (er != 0) = true := by rw [bne_iff_ne]; exact h0
    have HR2 := Lib.hid (hR.symm.trans (if_neg h0))
    clear f3 h0 f1 f2 h hg hU hbl hR
    go_enter Try.func94, Try.ntmps94
    go_wp2_with (go_at_call 92; refine HA.out.mono ?_; rintro e w1 ⟨al, cap, rfl, h1⟩; have H1 := Lib.hid h1.full; clear h1)
    go_ret2
    rw [HR2.out]
    exact ⟨none, 0, rfl, GR.none' H1.out _ _⟩
end
end Go.Proofs.Ytkcijlndblbidaa
