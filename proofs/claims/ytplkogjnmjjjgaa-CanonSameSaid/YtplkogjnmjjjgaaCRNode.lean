/- The walk of the reference's reader of a node. -/
import Derived.Test.YtplkogjnmjjjgaaCRInts
namespace Go.Proofs.Ytplkogjnmjjjgaa
open Go.ChangeShapes Go.WideShapes Go.ChangeAt Go.RowKit
set_option linter.unusedVariables false
set_option linter.unusedSimpArgs false
open Wr.Wire (readNum readFix zag)

def nodeR (s : Rs) : Nd × Rs := (⟨(rowR intP s).1, (rowR fltP (rowR intP s).2).1, (rowP wrdP (rowR fltP (rowR intP s).2).2).1⟩, (rowP wrdP (rowR fltP (rowR intP s).2).2).2)
theorem fltP_ok {s : Rs} (h : s.2 = 0) (e : (readFix s.1).2.2 = 0) : fltP s = (((readFix s.1).1 : Int), (s.1.drop (readFix s.1).2.1, 0)) := by unfold fltP; rw [fixP_ok h e]
theorem fltP_err {s : Rs} (h : s.2 = 0) (e : (readFix s.1).2.2 ≠ 0) : (fltP s).2 = (s.1, (readFix s.1).2.2) := by unfold fltP; rw [fixP_err h e]
theorem rowP_bad {α : Type} {one : Rs → α × Rs} {s : Rs} (h : s.2 ≠ 0) : rowP one s = ([], s) := by
  unfold rowP
  rw [numP_bad h]
  rfl
/-- a node copied from one block into another -/
theorem copy3 {W0 W : World} {K : List (Nat × Obj)} {b2 b3 : Nat} {a b c x y z : Value} (h : FKN W0 ((b3, .cells #[a, b, c] 47 (0, 0)) :: (b2, .cells #[x, y, z] 47 (0, 0)) :: K) W) :
    (W.cell? ⟨b3, 0, none⟩ = some a ∧ W.cell? ⟨b3, 1, none⟩ = some b ∧ W.cell? ⟨b3, 2, none⟩ = some c) ∧ (W.cell? ⟨b2, 0, none⟩ = some x ∧ W.cell? ⟨b2, 1, none⟩ = some y ∧ W.cell? ⟨b2, 2, none⟩ = some z) ∧ (W.frozen? ⟨b2, 0, none⟩ = false ∧ W.frozen? ⟨b2, 1, none⟩ = false ∧ W.frozen? ⟨b2, 2, none⟩ = false) ∧
      ∃ V, ((W.setCell ⟨b2, 0, none⟩ a).setCell ⟨b2, 1, none⟩ b).setCell ⟨b2, 2, none⟩ c = V ∧ (V.cell? ⟨b2, 0, none⟩ = some a ∧ V.cell? ⟨b2, 1, none⟩ = some b ∧ V.cell? ⟨b2, 2, none⟩ = some c) ∧ FKN W0 K V := by
  have hq := h.1.block (List.mem_cons_self ..)
  have hp := h.perm (List.Perm.swap _ _ _)
  have hq2 := hp.1.block (List.mem_cons_self ..)
  have hs := ((hp.set 0 a).set 1 b).set 2 c
  have hq3 := hs.1.block (List.mem_cons_self ..)
  exact ⟨⟨at_cell hq 0 _ rfl, at_cell hq 1 _ rfl, at_cell hq 2 _ rfl⟩, ⟨at_cell hq2 0 _ rfl, at_cell hq2 1 _ rfl, at_cell hq2 2 _ rfl⟩, ⟨at_free hq2 0, at_free hq2 1, at_free hq2 2⟩, _, rfl, ⟨at_cell hq3 0 _ rfl, at_cell hq3 1 _ rfl, at_cell hq3 2 _ rfl⟩, hs.tail.tail⟩
set_option maxRecDepth 100000 in
set_option maxHeartbeats 4000000 in
theorem rnode_fk {W0 w : World} {KM : List (Nat × Obj)} {rb : Nat} {s : Rs} (h : FKN W0 ((rb, rrO s) :: KM) w) (hl : s.1.length ≤ 100000) :
    Calls Try.prog 72 #[.pointer (some ⟨rb, 0, none⟩)] w fun e w' => ∃ ap af aw cp cf cw, e = .returned (.agg #[.slice ap (nodeR s).1.ps.length cp, .slice af (nodeR s).1.fs.length cf, .slice aw (nodeR s).1.ws.length cw]) ∧
      ∃ Rp Rf Rx, Rw W0.heap.size 3 1 (nodeR s).1.ps.length (icI (nodeR s).1.ps) ap cp Rp ∧ Rw W0.heap.size 48 1 (nodeR s).1.fs.length (icU (nodeR s).1.fs) af cf Rf ∧ Rw W0.heap.size 48 1 (nodeR s).1.ws.length (icU (nodeR s).1.ws) aw cw Rx ∧ FKN W0 ((rb, rrO (nodeR s).2) :: (Rp ++ (Rf ++ (Rx ++ KM)))) w' := by
  obtain ⟨i1, hj, hy0, hy1, hy2⟩ := info_parts uint_info
  have h1 := h.box #[.slice none 0 0, .slice none 0 0, .slice none 0 0] 47
  obtain ⟨b2, hb2⟩ : ∃ b2, w.heap.size = b2 := ⟨_, rfl⟩
  simp only [hb2] at h1
  have HI := Lib.hid (rints_fk (h1.perm (List.Perm.swap _ _ _)) hl)
  have e1 := (rowP_eats intP_eats s).1
  rw [← (rowR_P intP s).1] at e1
  have e2 := (rowP_eats fltP_eats (rowR intP s).2).1
  rw [← (rowR_P fltP (rowR intP s).2).1] at e2
  have lf := rowR_len fltP_eats (rowR intP s).2
  have lw := rowP_len wrdP_eats (rowR fltP (rowR intP s).2).2
  obtain ⟨xp, s1, hp⟩ : ∃ xp s1, rowR intP s = (xp, s1) := ⟨_, _, rfl⟩
  obtain ⟨xf, s2, hf⟩ : ∃ xf s2, rowR fltP s1 = (xf, s2) := ⟨_, _, rfl⟩
  obtain ⟨xw, s3, hx⟩ : ∃ xw s3, rowP wrdP s2 = (xw, s3) := ⟨_, _, rfl⟩
  have hnode : nodeR s = (⟨xp, xf, xw⟩, s3) := by
    unfold nodeR
    simp only [hp, hf, hx]
  rw [hnode]
  simp only [hp, hf, hx] at e1 e2 lf lw HI
  have HX := Lib.hid hx
  have Hs1 := Lib.hid (show s1.1.length ≤ 100000 by omega)
  have Hs2 := Lib.hid (show s2.1.length ≤ 100000 by omega)
  have Hxf := Lib.hid (show xf.length ≤ 100000 by omega)
  have Hxw := Lib.hid (show xw.length ≤ 100001 by omega)
  unfold rowR at hf
  have hlt := numP_lt s1
  have hel := (numP_eats s1).1
  have HNu := Lib.hid (fun W K' (h : FKN W0 ((rb, rrO s1) :: K') W) => rnum_fk h (by have := Hs1.out; omega))
  have HNu2 := Lib.hid (fun W K' (h : FKN W0 ((rb, rrO s2) :: K') W) => rnum_fk h (by have := Hs2.out; omega))
  obtain ⟨n0, hn0⟩ : ∃ n0, (numP s1).1 = n0 := ⟨_, rfl⟩
  obtain ⟨s1b, hs1⟩ : ∃ s1b, (numP s1).2 = s1b := ⟨_, rfl⟩
  simp only [hn0, hs1] at hf HNu hlt hel
  have Hf := Lib.hid hf
  have hs1l : s1b.1.length ≤ 100000 := by have := Hs1.out; omega
  clear h h1 hl e1 e2 lf lw hp hf hx hnode hn0 hs1 hel
  go_enter Try.func72, Try.ntmps72
  go_wp2_with (first
    | (go_at_call 70; refine HI.out.mono ?_; rintro e w3 ⟨ap, cp, rfl, Rp, hr, hF⟩; have HRp := Lib.hid hr; have hB := (hF.box #[.slice ap xp.length cp, .slice none 0 0, .slice none 0 0] 47); have HB := Lib.hid (hB.perm (List.Perm.swap _ _ _)); clear hr hF hB)
    | (go_at_call 71; refine (HNu.out _ _ HB.out).mono ?_; rintro e w4 ⟨rfl, hF⟩; have HF := Lib.hid hF; clear hF))
  obtain ⟨b3, hb3⟩ : ∃ b3, w3.heap.size = b3 := ⟨_, rfl⟩
  simp only [hb3] at HF ⊢
  clear HI HNu HB hb3
  go_loopw [4] (fun nv wr => ∃ (n : Nat) (st : Rs) (xs : List Int) (af : Option Addr) (cf : Nat) (R : List (Nat × Obj)), nv = .int .u64 n ∧ n < 18446744073709551616 ∧ st.1.length ≤ 100000 ∧ (xs ++ (manyR fltP n st).1, (manyR fltP n st).2) = (xf, s2) ∧ Rw W0.heap.size 48 1 xs.length (icU xs) af cf R ∧ FKN W0 ((rb, rrO st) :: ((b3, .cells #[.slice ap xp.length cp, .slice af xs.length cf, .slice none 0 0] 47 (0, 0)) :: (b2, .cells #[.slice none 0 0, .slice none 0 0, .slice none 0 0] 47 (0, 0)) :: (R ++ (Rp ++ KM)))) wr) (fun nv _ => (intOf nv).toNat)
  case atStart => exact ⟨n0, s1b, [], none, 0, [], rfl, hlt, hs1l, by rw [List.nil_append]; exact Hf.out, Rw.nil _ _ _, HF.out.perm (permC fun x => by simp only [List.count_append, List.count_cons, List.append_assoc, List.cons_append]; ac_rfl)⟩
  case round =>
    clear HF Hf hlt hs1l
    obtain ⟨n, st, xs, af, cf, R, rfl, hn, hsl, htot, hr, hF⟩ := hrel
    by_cases hgo : n ≠ 0 ∧ st.2 = 0
    · obtain ⟨h0, hy⟩ := hgo
      obtain ⟨m, hm⟩ : ∃ m, n = m + 1 := ⟨n - 1, by omega⟩
      have hpos : (0 : Int) < (n : Int) := by omega
      obtain ⟨⟨c0, c1⟩, f0, f1⟩ := rr_cells hF _ (noted hy)
      have HR := Lib.hid (Wr.readFix_any (str st.1) wr (by rw [str_size]; omega))
      simp only [str_data] at HR
      rw [hm] at htot
      by_cases he : (readFix st.1).2.2 = 0
      · have hw : IntKind.u64.wrap ((n : Int) - 1) = (m : Int) := by rw [hm]; exact wrap_pred (by omega)
        have hel := (fltP_eats st).1
        rw [manyR_more hy (by rw [fltP_ok hy he])] at htot
        rw [fltP_ok hy he] at htot hel
        have hfit : (readFix st.1).2.1 ≤ (str st.1).size := by rw [str_size]; exact Wr.Wire.readFix_fits st.1
        have hsz : (str st.1).size ≤ 1000000000 := by rw [str_size]; omega
        have Hex := Lib.hid (Wr.extract_left st.1 (readFix st.1).2.1)
        rw [he] at HR
        have Htl := Lib.hid (show xs.length ≤ 100000 by
          have h1 := congrArg (fun q => q.1.length) htot
          have h2 := Hxf.out
          simp at h1
          omega)
        simp only at htot hel
        have Htot := Lib.hid htot
        have Hsl2 := Lib.hid (Nat.le_trans hel hsl)
        have Hm := Lib.hid hm
        have hq3 := (hF.1.block (X := b3) (o := .cells #[.slice ap xp.length cp, .slice af xs.length cf, .slice none 0 0] 47 (0, 0)) (List.mem_cons_of_mem _ (List.mem_cons_self ..)))
        have y1 := at_cell hq3 1 _ rfl
        obtain ⟨al', cap', w4, R', hrun, hr', hN⟩ := hr.app1 (hF.perm (K' := R ++ ((b3, Obj.cells #[.slice ap xp.length cp, .slice af xs.length cf, .slice none 0 0] 47 (0, 0)) :: (rb, rrO st) :: (b2, Obj.cells #[.slice none 0 0, .slice none 0 0, .slice none 0 0] 47 (0, 0)) :: (Rp ++ KM))) (permC fun x => by simp only [List.count_append, List.count_cons, List.append_assoc, List.cons_append]; ac_rfl)) hj hy0 hy1 hy2 rfl (by decide) Try.underlying45 #[.int .u64 ((readFix st.1).1 : Nat)] rfl (by intro u hu; simp only [List.mem_cons, List.not_mem_nil, or_false] at hu; rw [hu]; rfl) (by have := Htl.out; unfold maxLen; omega) (by have := Htl.out; omega)
        have hN2 := hN.perm (K' := (b3, Obj.cells #[.slice ap xp.length cp, .slice af xs.length cf, .slice none 0 0] 47 (0, 0)) :: ((rb, rrO st) :: (b2, Obj.cells #[.slice none 0 0, .slice none 0 0, .slice none 0 0] 47 (0, 0)) :: (R' ++ (Rp ++ KM)))) (permC fun x => by simp only [List.count_append, List.count_cons, List.append_assoc, List.cons_append]; ac_rfl)
        have hq4 := hN2.1.block (List.mem_cons_self ..)
        have y2 := at_cell hq4 1 _ rfl
        have g2 := at_free hq4 1
        have hN3 := hN2.set 1 (.slice al' (xs.length + 1) cap')
        obtain ⟨V5, hV5⟩ : ∃ V, w4.setCell ⟨b3, 1, none⟩ (.slice al' (xs.length + 1) cap') = V := ⟨_, rfl⟩
        rw [hV5] at hN3
        have hN4 : FKN W0 ((rb, rrO st) :: ((b3, Obj.cells #[.slice ap xp.length cp, .slice al' (xs.length + 1) cap', .slice none 0 0] 47 (0, 0)) :: (b2, Obj.cells #[.slice none 0 0, .slice none 0 0, .slice none 0 0] 47 (0, 0)) :: (R' ++ (Rp ++ KM)))) V5 := FKN.perm (K := (b3, Obj.cells #[.slice ap xp.length cp, .slice al' (xs.length + 1) cap', .slice none 0 0] 47 (0, 0)) :: ((rb, rrO st) :: (b2, Obj.cells #[.slice none 0 0, .slice none 0 0, .slice none 0 0] 47 (0, 0)) :: (R' ++ (Rp ++ KM)))) hN3 (List.Perm.swap _ _ _)
        obtain ⟨⟨d0, d1⟩, g0, g1⟩ := rr_cells hN4 _ (noted hy)
        have HN2 := Lib.hid (hN4.rest hy (st.1.drop (readFix st.1).2.1))
        have HRUN := Lib.hid hrun
        have Hr' := Lib.hid hr'
        clear hr hF htot hel hy hm h0 he hsl hN hN2 hN3 hN4 hrun hr' hq3 hq4
        generalize readFix st.1 = q at *
        obtain ⟨x, k, e⟩ := q
        simp only at *
        go_wp2_with (first
          | (go_at_call 90; refine HR.out.mono ?_; rintro e w2 ⟨rfl, rfl⟩)
          | (at_builtin; refine wpList_append_run _ rfl (.tmp 41) (.tmp 43) 45 rfl _ _ _ _ rfl rfl HRUN.out ?_))
        rw [Hex.out]
        go_roundw
        case rel => exact ⟨m, _, xs ++ [(x : Int)], al', cap', R', rfl, by have := Hm.out; omega, Hsl2.out, by simpa using Htot.out, by rw [icU_snoc, List.length_append]; exact Hr'.out, by rw [List.length_append]; exact HN2.out⟩
        case measure => simp [intOf]; have := Hm.out; omega
      · rw [manyR_end hy (by rw [fltP_err hy he]; exact he), fltP_err hy he, List.append_nil, Prod.mk.injEq] at htot
        obtain ⟨rfl, hs2⟩ := htot
        have hx := HX.out
        rw [← hs2, rowP_bad he, Prod.mk.injEq] at hx
        obtain ⟨rfl, hs3⟩ := hx
        have hne2 : ((((readFix st.1).2.2 : Nat) : Int) != 0) = true := by simp; exact he
        have hF2 := hF.note he
        obtain ⟨V, hV⟩ : ∃ V, wr.setCell ⟨rb, 1, none⟩ (.bool true) = V := ⟨_, rfl⟩
        rw [hV, hs3] at hF2
        obtain ⟨⟨y0, y1, y2⟩, ⟨z0, z1, z2⟩, ⟨g0, g1, g2⟩, V6, hV6, ⟨r0, r1, r2⟩, hF6⟩ := copy3 (hF2.perm (K' := (b3, Obj.cells #[.slice ap xp.length cp, .slice af xs.length cf, .slice none 0 0] 47 (0, 0)) :: (b2, Obj.cells #[.slice none 0 0, .slice none 0 0, .slice none 0 0] 47 (0, 0)) :: ((rb, rrO s3) :: (R ++ (Rp ++ KM)))) (permC fun x => by simp only [List.count_append, List.count_cons, List.append_assoc, List.cons_append]; ac_rfl))
        have HF6 := Lib.hid hF6
        have Hr := Lib.hid hr
        clear hr hF hF2 hF6 hy hm h0 he hsl hs2 hs3
        generalize readFix st.1 = q at *
        obtain ⟨x, k, e⟩ := q
        simp only at *
        go_wp2_with (go_at_call 90; refine HR.out.mono ?_; rintro e w2 ⟨rfl, rfl⟩)
        exact bodyPost_ret (v := .agg #[.slice ap xp.length cp, .slice af xs.length cf, .slice none 0 0]) (by simp [results, Try.results72, go_sem, r0, r1, r2]) rfl ⟨ap, af, none, cp, cf, 0, rfl, Rp, R, [], HRp.out, Hr.out, Rw.nil _ _ _, HF6.out.perm (permC fun x => by simp only [List.count_append, List.count_cons, List.append_assoc, List.cons_append]; ac_rfl)⟩
    · have hxs : xs = xf ∧ st = s2 := by
        by_cases h0 : n = 0
        · rw [h0, manyR_zero, List.append_nil, Prod.mk.injEq] at htot
          exact htot
        · rw [manyR_bad (fun h => hgo ⟨h0, h⟩), List.append_nil, Prod.mk.injEq] at htot
          exact htot
      have key : n = 0 ∨ (n ≠ 0 ∧ st.2 ≠ 0) := by
        by_cases h0 : n = 0
        · exact .inl h0
        · exact .inr ⟨h0, fun h => hgo ⟨h0, h⟩⟩
      obtain ⟨rfl, rfl⟩ := hxs
      have hx := HX.out
      unfold rowP at hx
      have hlt := numP_lt st
      have hel := (numP_eats st).1
      have HNu3 := Lib.hid (HNu2.out _ _ hF)
      obtain ⟨n1, hn1⟩ : ∃ n1, (numP st).1 = n1 := ⟨_, rfl⟩
      obtain ⟨s2b, hs2b⟩ : ∃ s2b, (numP st).2 = s2b := ⟨_, rfl⟩
      simp only [hn1, hs2b] at hx HNu3 hlt hel
      have Hx := Lib.hid hx
      have Hr := Lib.hid hr
      have hs2l : s2b.1.length ≤ 100000 := by omega
      clear htot hgo hx hn1 hs2b hel hr
      rcases key with h0 | ⟨h0, hy⟩
      all_goals
        first
          | subst h0
          | (have hpos : (0 : Int) < (n : Int) := by omega
             obtain ⟨⟨c0, c1⟩, f0, f1⟩ := rr_cells hF _ (noted' hy)
             clear hy h0)
        clear hF
        go_wp2_with (go_at_call 71; refine HNu3.out.mono ?_; rintro e w4 ⟨rfl, hF⟩; have HF := Lib.hid hF; clear hF)
        go_loopw [8] (fun nv wr => ∃ (n : Nat) (st : Rs) (ys : List Int) (aw : Option Addr) (cw : Nat) (Rx : List (Nat × Obj)), nv = .int .u64 n ∧ n < 18446744073709551616 ∧ st.1.length ≤ 100000 ∧ (ys ++ (manyP wrdP n st).1, (manyP wrdP n st).2) = (xw, s3) ∧ Rw W0.heap.size 48 1 ys.length (icU ys) aw cw Rx ∧ FKN W0 ((rb, rrO st) :: ((b3, Obj.cells #[.slice ap xp.length cp, .slice af xs.length cf, .slice aw ys.length cw] 47 (0, 0)) :: (b2, Obj.cells #[.slice none 0 0, .slice none 0 0, .slice none 0 0] 47 (0, 0)) :: (Rx ++ (R ++ (Rp ++ KM))))) wr) (fun nv _ => (intOf nv).toNat)
        case atStart => exact ⟨n1, s2b, [], none, 0, [], rfl, hlt, hs2l, by rw [List.nil_append]; exact Hx.out, Rw.nil _ _ _, HF.out⟩
        case round =>
          clear HF Hx hlt hs2l
          obtain ⟨n, st, ys, aw, cw, Rx, rfl, hn, hsl, htot, hrx, hF⟩ := hrel
          by_cases hgo : n ≠ 0 ∧ st.2 = 0
          · obtain ⟨h0, hy⟩ := hgo
            obtain ⟨m, hm⟩ : ∃ m, n = m + 1 := ⟨n - 1, by omega⟩
            have hpos : (0 : Int) < (n : Int) := by omega
            have hw : IntKind.u64.wrap ((n : Int) - 1) = (m : Int) := by rw [hm]; exact wrap_pred (by omega)
            obtain ⟨⟨c0, c1⟩, f0, f1⟩ := rr_cells hF _ (noted hy)
            rw [hm, manyP_more hy] at htot
            have hel := (wrdP_eats st).1
            have Htl := Lib.hid (show ys.length ≤ 100000 by
              have h1 := congrArg (fun q => q.1.length) htot
              have h2 := Hxw.out
              simp at h1
              omega)
            have hF1 := hF.grow (below_drew wr)
            have HNu4 := Lib.hid (rnum_fk hF1 (by omega))
            have hv : (wrdP st).1 = ((numP st).1 : Int) := rfl
            have hs : (wrdP st).2 = (numP st).2 := rfl
            rw [hv, hs] at htot
            rw [hs] at hel
            obtain ⟨v, hv2⟩ : ∃ v, (numP st).1 = v := ⟨_, rfl⟩
            obtain ⟨st2, hs2⟩ : ∃ st2, (numP st).2 = st2 := ⟨_, rfl⟩
            simp only [hv2, hs2] at htot HNu4 hel
            have Htot := Lib.hid htot
            have Hsl2 := Lib.hid (Nat.le_trans hel hsl)
            have Hm := Lib.hid hm
            have Hrx := Lib.hid hrx
            have HS := Lib.hid (fun W K' (hW : FKN W0 ((b3, Obj.cells #[.slice ap xp.length cp, .slice af xs.length cf, .slice aw ys.length cw] 47 (0, 0)) :: (b2, Obj.cells #[.slice none 0 0, .slice none 0 0, .slice none 0 0] 47 (0, 0)) :: K') W) => (show W.cell? ⟨b3, 2, none⟩ = some (.slice aw ys.length cw) from at_cell (hW.1.block (List.mem_cons_self ..)) 2 _ rfl))
            have HF1 := Lib.hid (hF1.perm (K' := (b3, Obj.cells #[.slice ap xp.length cp, .slice af xs.length cf, .slice aw ys.length cw] 47 (0, 0)) :: (b2, Obj.cells #[.slice none 0 0, .slice none 0 0, .slice none 0 0] 47 (0, 0)) :: ((rb, rrO st) :: (Rx ++ (R ++ (Rp ++ KM))))) (permC fun x => by simp only [List.count_append, List.count_cons, List.append_assoc, List.cons_append]; ac_rfl))
            clear htot hel hm h0 hsl hF hF1 hv hs hv2 hs2 hrx hy
            go_wp2_with (fail)
            refine wp_region_heldL (S := fun W => W.cell? ⟨b3, 2, none⟩ = some (.slice aw ys.length cw)) (by kernel_rfl) (HS.out _ _ HF1.out) (fun hHeld => ?_)
            generalize wr.drew = V0 at *
            refine wpAnyL_take (i := 0) (v := ?_) rfl (by kernel_rfl) (by kernel_rfl) (by kernel_rfl) (by kernel_rfl) (fun _ _ _ h => h) (Or.inl ⟨by kernel_rfl, ?_⟩) (by assumption) ?_
            rotate_left
            · (intro w hSw; (try dsimp only at hSw); go_simp; try with_reducible rfl)
            simp only [Act.put, List.setIfInBounds_toArray, List.set_cons_zero, List.set_cons_succ]
            refine wpAnyL_take (i := 1) (v := ?_) rfl (by kernel_rfl) (by kernel_rfl) (by kernel_rfl) (by kernel_rfl) (fun _ _ _ h => h) (Or.inl ⟨by kernel_rfl, ?_⟩) (by assumption) ?_
            rotate_left
            · (intro w hSw; (try dsimp only at hSw); go_simp; try with_reducible rfl)
            simp only [Act.put, List.setIfInBounds_toArray, List.set_cons_zero, List.set_cons_succ]
            refine wpAnyL_take (i := 2) (v := ?_) rfl (by kernel_rfl) (by kernel_rfl) (by kernel_rfl) (by kernel_rfl) (fun _ _ _ h => h) (Or.inl ⟨by kernel_rfl, ?_⟩) (by assumption) ?_
            rotate_left
            · (intro w hSw; (try dsimp only at hSw); go_simp; try with_reducible rfl)
            simp only [Act.put, List.setIfInBounds_toArray, List.set_cons_zero, List.set_cons_succ]
            refine wpAnyL_one (i := 3) (by decide +kernel) rfl (fun K hK => ?_)
            go_simp
            go_at_call 71
            refine HNu4.out.mono ?_
            rintro e V1 ⟨rfl, hF⟩
            have hF3 := hF.perm (K' := (b3, Obj.cells #[.slice ap xp.length cp, .slice af xs.length cf, .slice aw ys.length cw] 47 (0, 0)) :: (b2, Obj.cells #[.slice none 0 0, .slice none 0 0, .slice none 0 0] 47 (0, 0)) :: ((rb, rrO st2) :: (Rx ++ (R ++ (Rp ++ KM))))) (permC fun x => by simp only [List.count_append, List.count_cons, List.append_assoc, List.cons_append]; ac_rfl)
            refine hK.out _ _ (HS.out _ _ hF3) (fun hHeld => ?_)
            clear hK K
            try simp only [Act.put, List.setIfInBounds_toArray, List.set_cons_zero, List.set_cons_succ]
            obtain ⟨al', cap', w4, R', hrun, hr', hN⟩ := Hrx.out.app1 (hF3.perm (K' := Rx ++ ((b3, Obj.cells #[.slice ap xp.length cp, .slice af xs.length cf, .slice aw ys.length cw] 47 (0, 0)) :: (b2, Obj.cells #[.slice none 0 0, .slice none 0 0, .slice none 0 0] 47 (0, 0)) :: ((rb, rrO st2) :: (R ++ (Rp ++ KM))))) (permC fun x => by simp only [List.count_append, List.count_cons, List.append_assoc, List.cons_append]; ac_rfl)) hj hy0 hy1 hy2 rfl (by decide) Try.underlying45 #[.int .u64 (v : Nat)] rfl (by intro u hu; simp only [List.mem_cons, List.not_mem_nil, or_false] at hu; rw [hu]; rfl) (by have := Htl.out; unfold maxLen; omega) (by have := Htl.out; omega)
            have hB := (hF3.box #[.int .u64 (v : Nat)] 48).perm (K' := (b3, Obj.cells #[.slice ap xp.length cp, .slice af xs.length cf, .slice aw ys.length cw] 47 (0, 0)) :: (b2, Obj.cells #[.slice none 0 0, .slice none 0 0, .slice none 0 0] 47 (0, 0)) :: ((V1.heap.size, Obj.cells #[.int .u64 (v : Nat)] 48 (0, 0)) :: ((rb, rrO st2) :: (Rx ++ (R ++ (Rp ++ KM)))))) (permC fun x => by simp only [List.count_append, List.count_cons, List.append_assoc, List.cons_append]; ac_rfl)
            have hN2 := hN.perm (K' := (b3, Obj.cells #[.slice ap xp.length cp, .slice af xs.length cf, .slice aw ys.length cw] 47 (0, 0)) :: (b2, Obj.cells #[.slice none 0 0, .slice none 0 0, .slice none 0 0] 47 (0, 0)) :: ((rb, rrO st2) :: (R' ++ (R ++ (Rp ++ KM))))) (permC fun x => by simp only [List.count_append, List.count_cons, List.append_assoc, List.cons_append]; ac_rfl)
            have HRUN := Lib.hid hrun
            have Hr' := Lib.hid hr'
            refine wpAnyL_one (i := 4) (by decide +kernel) rfl (fun K hK => ?_)
            go_simp
            refine hK.out _ _ (HS.out _ _ hB) (fun hHeld => ?_)
            clear hK K
            try simp only [Act.put, List.setIfInBounds_toArray, List.set_cons_zero, List.set_cons_succ]
            refine wpAnyL_one (i := 5) (by decide +kernel) rfl (fun K hK => ?_)
            refine step_append_run _ (by rfl) (.tmp 69) (.tmp 72) 45 45 _ (by rfl) (by rfl) _ _ (by rfl) (by rfl) _ w4 HRUN.out ?_
            refine hK.out _ _ (HS.out _ _ hN2) (fun hHeld => ?_)
            clear hK K
            try simp only [Act.put, List.setIfInBounds_toArray, List.set_cons_zero, List.set_cons_succ]
            have hq := hN2.1.block (List.mem_cons_self ..)
            have b1 := at_cell hq 2 _ rfl
            have g1 := at_free hq 2
            refine wpAnyL_take (i := 6) (v := ?_) rfl (by kernel_rfl) (by kernel_rfl) (by kernel_rfl) (by kernel_rfl) (fun _ _ _ h => h) (Or.inl ⟨by kernel_rfl, ?_⟩) (by assumption) ?_
            rotate_left
            · (intro w hSw; (try dsimp only at hSw); go_simp; try with_reducible rfl)
            simp only [Act.put, List.setIfInBounds_toArray, List.set_cons_zero, List.set_cons_succ]
            refine wpAnyL_last (i := 7) (by kernel_rfl) rfl (by kernel_rfl) (by kernel_rfl) (fun K hK => ?_)
            go_simp
            refine hK.out _ _ ?_
            clear hK K
            try simp only [Act.put, List.setIfInBounds_toArray, List.set_cons_zero, List.set_cons_succ]
            have hfin : FKN W0 ((b3, Obj.cells #[.slice ap xp.length cp, .slice af xs.length cf, .slice al' (ys.length + 1) cap'] 47 (0, 0)) :: (b2, Obj.cells #[.slice none 0 0, .slice none 0 0, .slice none 0 0] 47 (0, 0)) :: ((rb, rrO st2) :: (R' ++ (R ++ (Rp ++ KM))))) _ := hN2.set 2 (.slice al' (ys.length + 1) cap')
            have HFIN := Lib.hid (hfin.perm (K' := (rb, rrO st2) :: ((b3, Obj.cells #[.slice ap xp.length cp, .slice af xs.length cf, .slice al' (ys.length + 1) cap'] 47 (0, 0)) :: (b2, Obj.cells #[.slice none 0 0, .slice none 0 0, .slice none 0 0] 47 (0, 0)) :: (R' ++ (R ++ (Rp ++ KM))))) (permC fun x => by simp only [List.count_append, List.count_cons, List.append_assoc, List.cons_append]; ac_rfl))
            clear hfin hN2 hB hN hrun hr' hF3 hF hq b1 g1 hHeld
            go_wp2_with (fail)
            go_roundw
            case rel => exact ⟨m, st2, ys ++ [(v : Int)], al', cap', R', rfl, by have := Hm.out; omega, Hsl2.out, by simpa using Htot.out, by rw [icU_snoc, List.length_append]; exact Hr'.out, by rw [List.length_append]; exact HFIN.out⟩
            case measure => simp [intOf]; have := Hm.out; omega
          · have hxs : ys = xw ∧ st = s3 := by
              by_cases h0 : n = 0
              · rw [h0, manyP_zero, List.append_nil, Prod.mk.injEq] at htot
                exact htot
              · rw [manyP_bad (fun h => hgo ⟨h0, h⟩), List.append_nil, Prod.mk.injEq] at htot
                exact htot
            have key : n = 0 ∨ (n ≠ 0 ∧ st.2 ≠ 0) := by
              by_cases h0 : n = 0
              · exact .inl h0
              · exact .inr ⟨h0, fun h => hgo ⟨h0, h⟩⟩
            obtain ⟨rfl, rfl⟩ := hxs
            obtain ⟨⟨y0, y1, y2⟩, ⟨z0, z1, z2⟩, ⟨g0, g1, g2⟩, V6, hV6, ⟨r0, r1, r2⟩, hF6⟩ := copy3 (hF.perm (K' := (b3, Obj.cells #[.slice ap xp.length cp, .slice af xs.length cf, .slice aw ys.length cw] 47 (0, 0)) :: (b2, Obj.cells #[.slice none 0 0, .slice none 0 0, .slice none 0 0] 47 (0, 0)) :: ((rb, rrO st) :: (Rx ++ (R ++ (Rp ++ KM))))) (permC fun x => by simp only [List.count_append, List.count_cons, List.append_assoc, List.cons_append]; ac_rfl))
            have HF6 := Lib.hid hF6
            have Hrx := Lib.hid hrx
            clear htot hgo hrx hF6
            rcases key with h0 | ⟨h0, hy⟩
            all_goals
              first
                | subst h0
                | (have hpos : (0 : Int) < (n : Int) := by omega
                   obtain ⟨⟨c0, c1⟩, f0, f1⟩ := rr_cells hF _ (noted' hy)
                   clear hy h0)
              clear hF
              go_wp2_with (fail)
              exact bodyPost_ret (v := .agg #[.slice ap xp.length cp, .slice af xs.length cf, .slice aw ys.length cw]) (by simp [results, Try.results72, go_sem, r0, r1, r2]) rfl ⟨ap, af, aw, cp, cf, cw, rfl, Rp, R, Rx, HRp.out, Hr.out, Hrx.out, HF6.out.perm (permC fun x => by simp only [List.count_append, List.count_cons, List.append_assoc, List.cons_append]; ac_rfl)⟩
end Go.Proofs.Ytplkogjnmjjjgaa
