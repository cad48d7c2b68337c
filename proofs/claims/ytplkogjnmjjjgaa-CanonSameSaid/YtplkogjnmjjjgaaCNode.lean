/- The walk of the closure that reads a node. -/
import Derived.Test.YtplkogjnmjjjgaaCMany2
namespace Go.Proofs.Ytplkogjnmjjjgaa
open Go.ChangeShapes Go.WideShapes Go.ChangeAt Go.RowKit
set_option linter.unusedVariables false
set_option linter.unusedSimpArgs false

set_option maxRecDepth 100000 in
set_option maxHeartbeats 2000000 in
theorem node_fk {W0 w : World} {K : List (Nat × Obj)} {rb cb fb : Nat} {s : Rs} (h : FKN W0 ((rb, rdO s) :: K) w) (hcb : (cb, Obj.cells #[.pointer (some ⟨rb, 0, none⟩)] 95 (0, 0)) ∈ K)
    (hfb : (fb, Obj.cells #[.func (.func 60) #[] #[.pointer (some ⟨cb, 0, none⟩)]] 100 (0, 0)) ∈ K) (hl : s.1.length ≤ 100000) :
    Calls Try.prog 63 #[.pointer (some ⟨cb, 0, none⟩), .pointer (some ⟨fb, 0, none⟩)] w fun e w' => ∃ ap af aw cp cf cw, e = .returned (.agg #[.slice ap (nodeP s).1.ps.length cp, .slice af (nodeP s).1.fs.length cf, .slice aw (nodeP s).1.ws.length cw]) ∧
      ∃ Rp Rf Rx, Rw W0.heap.size 3 1 (nodeP s).1.ps.length (icI (nodeP s).1.ps) ap cp Rp ∧ Rw W0.heap.size 48 1 (nodeP s).1.fs.length (icU (nodeP s).1.fs) af cf Rf ∧ Rw W0.heap.size 48 1 (nodeP s).1.ws.length (icU (nodeP s).1.ws) aw cw Rx ∧ FKN W0 ((rb, rdO (nodeP s).2) :: (Rp ++ (Rf ++ (Rx ++ K)))) w' := by
  have h1 := h.box #[.slice none 0 0, .slice none 0 0, .slice none 0 0] 47
  have h2 := h1.box #[.slice none 0 0, .slice none 0 0, .slice none 0 0] 47
  simp only [heap_size_alloc] at h2
  obtain ⟨b2, hb2⟩ : ∃ b2, w.heap.size = b2 := ⟨_, rfl⟩
  simp only [hb2] at h2
  obtain ⟨w2, hw2⟩ : ∃ w2, (w.alloc (.cells #[.slice none 0 0, .slice none 0 0, .slice none 0 0] 47)).alloc (.cells #[.slice none 0 0, .slice none 0 0, .slice none 0 0] 47) = w2 := ⟨_, rfl⟩
  rw [hw2] at h2
  have c0 := at_cell (h2.1.block (X := cb) (o := .cells #[.pointer (some ⟨rb, 0, none⟩)] 95 (0, 0)) (by simp [hcb])) 0 _ rfl
  have Hcb := Lib.hid hcb
  have Hfb := Lib.hid hfb
  have H2 := Lib.hid (h2.perm (K' := (rb, rdO s) :: ((b2 + 1, Obj.cells #[.slice none 0 0, .slice none 0 0, .slice none 0 0] 47 (0, 0)) :: (b2, Obj.cells #[.slice none 0 0, .slice none 0 0, .slice none 0 0] 47 (0, 0)) :: K)) (permC fun x => by simp only [List.count_append, List.count_cons, List.append_assoc, List.cons_append]; ac_rfl))
  have e1 := (rowP_eats intP_eats s).1
  have e2 := (rowP_eats fltP_eats (rowP intP s).2).1
  obtain ⟨xp, s1, hp⟩ : ∃ xp s1, rowP intP s = (xp, s1) := ⟨_, _, rfl⟩
  obtain ⟨xf, s2, hf⟩ : ∃ xf s2, rowP fltP s1 = (xf, s2) := ⟨_, _, rfl⟩
  obtain ⟨xw, s3, hx⟩ : ∃ xw s3, rowP wrdP s2 = (xw, s3) := ⟨_, _, rfl⟩
  have hnode : nodeP s = (⟨xp, xf, xw⟩, s3) := by
    unfold nodeP
    simp only [hp, hf, hx]
  rw [hnode]
  simp only [hp, hf] at e1 e2
  have HA := Lib.hid (many_int H2.out hl)
  rw [hp] at HA
  have HB := Lib.hid (fun W K' (h : FKN W0 ((rb, rdO s1) :: K') W) hc => many_flt (cb := cb) h hc (by omega))
  rw [hf] at HB
  have HC := Lib.hid (fun W K' (h : FKN W0 ((rb, rdO s2) :: K') W) => many_wrd h (by omega))
  rw [hx] at HC
  clear h h1 h2 hcb hfb hl e1 e2 hp hf hx hnode
  simp only at HA HB HC
  go_enter Try.func63, Try.ntmps63
  go_wp2_with (first
    | (go_at_call 64; refine HA.out.mono ?_; rintro e w3 ⟨ap, cp, rfl, Rp, hr, hF⟩; have HRp := Lib.hid hr; have hF2 := hF.perm (K' := (b2 + 1, Obj.cells #[.slice none 0 0, .slice none 0 0, .slice none 0 0] 47 (0, 0)) :: ((rb, rdO s1) :: (b2, Obj.cells #[.slice none 0 0, .slice none 0 0, .slice none 0 0] 47 (0, 0)) :: (Rp ++ K))) (permC fun x => by simp only [List.count_append, List.count_cons, List.append_assoc, List.cons_append]; ac_rfl); have hq := hF2.1.block (List.mem_cons_self ..); have x30 := at_cell hq 0 _ rfl; have f30 := at_free hq 0; have hset := hF2.set 0 (.slice ap xp.length cp); obtain ⟨V3, hV3⟩ : ∃ V, w3.setCell ⟨b2 + 1, 0, none⟩ (.slice ap xp.length cp) = V := ⟨_, rfl⟩; rw [hV3] at hset; have c3 := at_cell (hset.1.block (X := cb) (o := .cells #[.pointer (some ⟨rb, 0, none⟩)] 95 (0, 0)) (by have := Hcb.out; simp [this])) 0 _ rfl; have d3 := at_cell (hset.1.block (X := fb) (o := .cells #[.func (.func 60) #[] #[.pointer (some ⟨cb, 0, none⟩)]] 100 (0, 0)) (by have := Hfb.out; simp [this])) 0 _ rfl; have HS3 := Lib.hid hset; clear hr hF hF2 hq hset)
    | (go_at_call 66; refine (HB.out _ _ (HS3.out.perm (K' := (rb, rdO s1) :: ((b2 + 1, Obj.cells #[.slice ap xp.length cp, .slice none 0 0, .slice none 0 0] 47 (0, 0)) :: (b2, Obj.cells #[.slice none 0 0, .slice none 0 0, .slice none 0 0] 47 (0, 0)) :: (Rp ++ K))) (permC fun x => by simp only [List.count_append, List.count_cons, List.append_assoc, List.cons_append]; ac_rfl)) (by have := Hcb.out; simp [this])).mono ?_; clear HB; rintro e w4 ⟨af, cf, rfl, Rf, hr, hF⟩; have HRf := Lib.hid hr; have hF2 := hF.perm (K' := (b2 + 1, Obj.cells #[.slice ap xp.length cp, .slice none 0 0, .slice none 0 0] 47 (0, 0)) :: ((rb, rdO s2) :: (b2, Obj.cells #[.slice none 0 0, .slice none 0 0, .slice none 0 0] 47 (0, 0)) :: (Rp ++ (Rf ++ K)))) (permC fun x => by simp only [List.count_append, List.count_cons, List.append_assoc, List.cons_append]; ac_rfl); have hq := hF2.1.block (List.mem_cons_self ..); have x40 := at_cell hq 1 _ rfl; have f40 := at_free hq 1; have hset := hF2.set 1 (.slice af xf.length cf); obtain ⟨V4, hV4⟩ : ∃ V, w4.setCell ⟨b2 + 1, 1, none⟩ (.slice af xf.length cf) = V := ⟨_, rfl⟩; rw [hV4] at hset; have c4 := at_cell (hset.1.block (X := cb) (o := .cells #[.pointer (some ⟨rb, 0, none⟩)] 95 (0, 0)) (by have := Hcb.out; simp [this])) 0 _ rfl; have HS4 := Lib.hid hset; clear hr hF hF2 hq hset)
    | (go_at_call 66; refine (HC.out _ _ (HS4.out.perm (K' := (rb, rdO s2) :: ((b2 + 1, Obj.cells #[.slice ap xp.length cp, .slice af xf.length cf, .slice none 0 0] 47 (0, 0)) :: (b2, Obj.cells #[.slice none 0 0, .slice none 0 0, .slice none 0 0] 47 (0, 0)) :: (Rp ++ (Rf ++ K)))) (permC fun x => by simp only [List.count_append, List.count_cons, List.append_assoc, List.cons_append]; ac_rfl))).mono ?_; rintro e w5 ⟨aw, cw, rfl, Rx, hr, hF⟩; have HRx := Lib.hid hr; have hF2 := hF.perm (K' := (b2 + 1, Obj.cells #[.slice ap xp.length cp, .slice af xf.length cf, .slice none 0 0] 47 (0, 0)) :: ((rb, rdO s3) :: (b2, Obj.cells #[.slice none 0 0, .slice none 0 0, .slice none 0 0] 47 (0, 0)) :: (Rp ++ (Rf ++ (Rx ++ K))))) (permC fun x => by simp only [List.count_append, List.count_cons, List.append_assoc, List.cons_append]; ac_rfl); have hq := hF2.1.block (List.mem_cons_self ..); have x50 := at_cell hq 2 _ rfl; have f50 := at_free hq 2; have hset := hF2.set 2 (.slice aw xw.length cw); obtain ⟨V5, hV5⟩ : ∃ V, w5.setCell ⟨b2 + 1, 2, none⟩ (.slice aw xw.length cw) = V := ⟨_, rfl⟩; rw [hV5] at hset; have hset : FKN W0 ((b2 + 1, Obj.cells #[.slice ap xp.length cp, .slice af xf.length cf, .slice aw xw.length cw] 47 (0, 0)) :: ((rb, rdO s3) :: (b2, Obj.cells #[.slice none 0 0, .slice none 0 0, .slice none 0 0] 47 (0, 0)) :: (Rp ++ (Rf ++ (Rx ++ K))))) V5 := hset; have hq5 := hset.1.block (List.mem_cons_self ..); have y0 := at_cell hq5 0 _ rfl; have y1 := at_cell hq5 1 _ rfl; have y2 := at_cell hq5 2 _ rfl; have hp6 := hset.perm (K' := (b2, Obj.cells #[.slice none 0 0, .slice none 0 0, .slice none 0 0] 47 (0, 0)) :: ((b2 + 1, Obj.cells #[.slice ap xp.length cp, .slice af xf.length cf, .slice aw xw.length cw] 47 (0, 0)) :: (rb, rdO s3) :: (Rp ++ (Rf ++ (Rx ++ K))))) (permC fun x => by simp only [List.count_append, List.count_cons, List.append_assoc, List.cons_append]; ac_rfl); have hq6 := hp6.1.block (List.mem_cons_self ..); have z0 := at_cell hq6 0 _ rfl; have z1 := at_cell hq6 1 _ rfl; have z2 := at_cell hq6 2 _ rfl; have g0 := at_free hq6 0; have g1 := at_free hq6 1; have g2 := at_free hq6 2; have hs6 := ((hp6.set 0 (.slice ap xp.length cp)).set 1 (.slice af xf.length cf)).set 2 (.slice aw xw.length cw); obtain ⟨V6, hV6⟩ : ∃ V, ((V5.setCell ⟨b2, 0, none⟩ (.slice ap xp.length cp)).setCell ⟨b2, 1, none⟩ (.slice af xf.length cf)).setCell ⟨b2, 2, none⟩ (.slice aw xw.length cw) = V := ⟨_, rfl⟩; rw [hV6] at hs6; have hs6 : FKN W0 ((b2, Obj.cells #[.slice ap xp.length cp, .slice af xf.length cf, .slice aw xw.length cw] 47 (0, 0)) :: ((b2 + 1, Obj.cells #[.slice ap xp.length cp, .slice af xf.length cf, .slice aw xw.length cw] 47 (0, 0)) :: (rb, rdO s3) :: (Rp ++ (Rf ++ (Rx ++ K))))) V6 := hs6; have hq7 := hs6.1.block (List.mem_cons_self ..); have r0 := at_cell hq7 0 _ rfl; have r1 := at_cell hq7 1 _ rfl; have r2 := at_cell hq7 2 _ rfl; have HS6 := Lib.hid hs6; clear hr hF hF2 hq hset hq5 hp6 hq6 hs6 hq7))
  exact bodyPost_ret (v := .agg #[.slice ap xp.length cp, .slice af xf.length cf, .slice aw xw.length cw]) (by simp [results, Try.results63, go_sem, r0, r1, r2]) rfl ⟨ap, af, aw, cp, cf, cw, rfl, Rp, Rf, Rx, HRp.out, HRf.out, HRx.out, FKN.drop (K' := [(b2, Obj.cells #[.slice ap xp.length cp, .slice af xf.length cf, .slice aw xw.length cw] 47 (0, 0)), (b2 + 1, Obj.cells #[.slice ap xp.length cp, .slice af xf.length cf, .slice aw xw.length cw] 47 (0, 0))]) (HS6.out.perm (permC fun x => by simp only [List.count_append, List.count_cons, List.append_assoc, List.cons_append]; ac_rfl))⟩
/-- nodes of the call's own, in a row of the call's own -/
def NsR (base : Nat) (ns : List Nd) (al : Option Addr) (cap : Nat) (B : List (Nat × Obj)) : Prop := ∃ (R : List (Nat × Obj)) (xs : List Value) (Rx : List (Nat × Obj)), Rw base 47 3 ns.length xs al cap R ∧ NsB base ns xs Rx ∧ B = R ++ Rx
set_option maxRecDepth 100000 in
set_option maxHeartbeats 2000000 in
theorem many_node {W0 w : World} {K : List (Nat × Obj)} {rb cb fb : Nat} {s : Rs} (h : FKN W0 ((rb, rdO s) :: K) w) (hcb : (cb, Obj.cells #[.pointer (some ⟨rb, 0, none⟩)] 95 (0, 0)) ∈ K) (hfb : (fb, Obj.cells #[.func (.func 60) #[] #[.pointer (some ⟨cb, 0, none⟩)]] 100 (0, 0)) ∈ K) (hl : s.1.length ≤ 100000) :
    Calls Try.prog 68 #[.pointer (some ⟨rb, 0, none⟩), .func (.func 63) #[] #[.pointer (some ⟨cb, 0, none⟩), .pointer (some ⟨fb, 0, none⟩)]] w fun e w' => ∃ al cap, e = .returned (.slice al (rowP nodeP s).1.length cap) ∧ ∃ B, NsR W0.heap.size (rowP nodeP s).1 al cap B ∧ FKN W0 ((rb, rdO (rowP nodeP s).2) :: (B ++ K)) w' := by
  obtain ⟨i1, hj, hy0, hy1, hy2⟩ := info_parts node_info
  have HN := Lib.hid (num_fk h (by omega))
  have hlen := rowP_len nodeP_eats s
  have hlt := numP_lt s
  have hel := (numP_eats s).1
  obtain ⟨tot, htot⟩ : ∃ tot, rowP nodeP s = tot := ⟨_, rfl⟩
  unfold rowP at htot
  rw [show rowP nodeP s = tot from htot] at hlen ⊢
  have Htot := Lib.hid htot
  obtain ⟨n0, hn0⟩ : ∃ n0, (numP s).1 = n0 := ⟨_, rfl⟩
  obtain ⟨s1, hs1⟩ : ∃ s1, (numP s).2 = s1 := ⟨_, rfl⟩
  simp only [hn0, hs1] at Htot HN hlt hel
  have Hlen := Lib.hid (show tot.1.length ≤ 100001 by omega)
  have hs1l : s1.1.length ≤ 100000 := by omega
  have Hcb := Lib.hid hcb
  have Hfb := Lib.hid hfb
  clear hcb hfb
  clear h htot hn0 hs1 hlen hel hl
  go_enter Try.func68, Try.ntmps68
  go_wp2_with (go_at_call 67; refine HN.out.mono ?_; rintro e w1 ⟨rfl, hF⟩; have HF := Lib.hid hF; clear hF)
  clear HN
  go_loopw [5, 6] (fun ov nv wr => ∃ (n : Nat) (st : Rs) (ns : List Nd) (xs : List Value) (al : Option Addr) (cap : Nat) (R Rx : List (Nat × Obj)), ov = .slice al ns.length cap ∧ nv = .int .u64 n ∧ n < 18446744073709551616 ∧ st.1.length ≤ 100000 ∧ (ns ++ (manyP nodeP n st).1, (manyP nodeP n st).2) = tot ∧ Rw W0.heap.size 47 3 ns.length xs al cap R ∧ NsB W0.heap.size ns xs Rx ∧ FKN W0 ((rb, rdO st) :: ((R ++ Rx) ++ K)) wr) (fun _ nv _ => (intOf nv).toNat)
  case atStart => exact ⟨n0, s1, [], [], none, 0, [], [], rfl, rfl, hlt, hs1l, by simpa using Htot.out, Rw.nil _ _ _, .nil, HF.out⟩
  case round =>
    clear HF Htot hlt hs1l
    obtain ⟨n, st, ns, xs, al, cap, R, Rx, rfl, rfl, hn, hsl, htot, hr, hns, hF⟩ := hrel
    have Hns := Lib.hid hns
    clear hns
    have HE := Lib.hid (err_fk hF)
    by_cases h0 : n = 0
    · subst h0
      rw [manyP_zero, List.append_nil] at htot
      have Hr := Lib.hid hr
      have HF := Lib.hid hF
      have Htot := Lib.hid htot
      clear hr hF htot
      go_wp2_with (fail)
      go_ret
      have e := Htot.out
      subst e
      exact ⟨al, cap, rfl, R ++ Rx, ⟨R, xs, Rx, Hr.out, Hns.out, rfl⟩, HF.out⟩
    · obtain ⟨m, hm⟩ : ∃ m, n = m + 1 := ⟨n - 1, by omega⟩
      have hpos : (0 : Int) < (n : Int) := by omega
      by_cases hy : st.2 = 0
      · have hw : IntKind.u64.wrap ((n : Int) - 1) = (m : Int) := by rw [hm]; exact wrap_pred (by omega)
        rw [hm, manyP_more hy] at htot
        have hye : (((st.2 : Nat) : Int) == 0) = true := by simp [hy]
        have hel := (nodeP_eats st).1
        have HI := Lib.hid (node_fk hF (List.mem_append_right _ Hcb.out) (List.mem_append_right _ Hfb.out) (by omega))
        have Htl := Lib.hid (show ns.length ≤ 100000 by
          have h1 := congrArg (fun q => q.1.length) htot
          have h2 := Hlen.out
          simp at h1
          omega)
        obtain ⟨v, hv⟩ : ∃ v, (nodeP st).1 = v := ⟨_, rfl⟩
        obtain ⟨st2, hst2⟩ : ∃ st2, (nodeP st).2 = st2 := ⟨_, rfl⟩
        simp only [hv, hst2] at htot HI hel
        have Htot := Lib.hid htot
        have Hr := Lib.hid hr
        have HF := Lib.hid hF
        have Hm := Lib.hid hm
        have hsl2 : st2.1.length ≤ 100000 := by omega
        obtain ⟨y, hyy⟩ : ∃ y, st.2 = y := ⟨_, rfl⟩
        rw [hyy] at hye HE
        clear hr hF htot hel hv hst2 hm hy hyy h0
        go_wp2_with (first
          | (go_at_call 69; refine HE.out.mono ?_; rintro e w2 ⟨rfl, rfl⟩)
          | (go_at_call 63; refine HI.out.mono ?_; rintro e w3 ⟨ap, af, aw, cp, cf, cw, rfl, Rp, Rf, Rw2, hrp, hrf, hrw, hF3⟩; obtain ⟨al', cap', w4, R', hrun, hr', hN⟩ := Hr.out.app1 (hF3.perm (K' := R ++ ((rb, rdO st2) :: ((Rp ++ (Rf ++ (Rw2 ++ Rx))) ++ K))) (permC fun x => by simp only [List.count_append, List.count_cons, List.append_assoc, List.cons_append]; ac_rfl)) hj hy0 hy1 hy2 rfl (by decide) Try.underlying23 #[.slice ap v.ps.length cp, .slice af v.fs.length cf, .slice aw v.ws.length cw] rfl (by intro u hu; simp only [List.mem_cons, List.not_mem_nil, or_false] at hu; rcases hu with rfl | rfl | rfl <;> rfl) (by have := Htl.out; unfold maxLen; omega) (by have := Htl.out; omega); have HRUN := Lib.hid hrun; have Hr' := Lib.hid hr'; have HN := Lib.hid hN; have Hns2 := Lib.hid (NsB.snoc Hns.out hrp hrf hrw); clear hrun hr' hN hF3 hrp hrf hrw)
          | (at_builtin; refine wpList_append_run _ rfl (.tmp 18) (.tmp 21) 23 rfl _ _ _ _ rfl rfl HRUN.out ?_))
        go_roundw
        case rel => exact ⟨m, st2, ns ++ [v], _, al', cap', R', Rp ++ (Rf ++ (Rw2 ++ Rx)), by simp, rfl, by have := Hm.out; omega, hsl2, by simpa using Htot.out, by rw [List.length_append]; exact Hr'.out, Hns2.out, HN.out.perm (permC fun x => by simp only [List.count_append, List.count_cons, List.append_assoc, List.cons_append]; ac_rfl)⟩
        case measure => simp [intOf]; have := Hm.out; omega
      · rw [hm, manyP_bad hy, List.append_nil] at htot
        have hye : (((st.2 : Nat) : Int) == 0) = false := by rw [beq_eq_false_iff_ne]; omega
        have Hr := Lib.hid hr
        have HF := Lib.hid hF
        have Htot := Lib.hid htot
        obtain ⟨y, hyy⟩ : ∃ y, st.2 = y := ⟨_, rfl⟩
        rw [hyy] at hye HE
        clear hr hF htot hm hy hyy h0
        go_wp2_with (go_at_call 69; refine HE.out.mono ?_; rintro e w2 ⟨rfl, rfl⟩)
        go_ret
        have e := Htot.out
        subst e
        exact ⟨al, cap, rfl, R ++ Rx, ⟨R, xs, Rx, Hr.out, Hns.out, rfl⟩, HF.out⟩
end Go.Proofs.Ytplkogjnmjjjgaa
