/- The walk of the reference's Trim. -/
import Derived.Test.YtplkogjnmjjjgaaGReach
namespace Go.Proofs.Ytplkogjnmjjjgaa
open Go.ChangeShapes Go.WideShapes Go.ChangeAt Go.RowKit Go.Maps
set_option linter.unusedVariables false
set_option linter.unusedSimpArgs false

theorem FKN.join {w w1 w2 : World} {E R : List (Nat × Obj)} (h1 : FKN w E w1) (h2 : FKN w1 R w2) : FKN w (R ++ E) w2 := by
  have hg := h1.grow h2.below
  refine ⟨⟨hg.1.1, fun x hx => ?_⟩, ?_, fun x hx => ?_⟩
  · rcases List.mem_append.1 hx with h | h
    · exact h2.1.2 x h
    · exact hg.1.2 x h
  · rw [List.map_append, List.nodup_append]
    refine ⟨h2.2.1, h1.2.1, fun a ha b hb e => ?_⟩
    rw [List.mem_map] at ha hb
    obtain ⟨x, hx, rfl⟩ := ha
    obtain ⟨y, hy, rfl⟩ := hb
    have c1 := h2.2.2 x hx
    have c2 := h1.1.old y hy
    omega
  · rcases List.mem_append.1 hx with h | h
    · have := h2.2.2 x h
      have := h1.below.size
      omega
    · exact h1.2.2 x h
theorem Rw.mono {base base' : Nat} {ty : TypeId} {sz k : Nat} {xs : List Value} {al : Option Addr} {cap : Nat} {R : List (Nat × Obj)} (r : Rw base ty sz k xs al cap R) (h : base' ≤ base) : Rw base' ty sz k xs al cap R := by
  rcases r with h1 | ⟨b, cur, h1, h2, h3⟩
  · exact .inl h1
  · exact .inr ⟨b, cur, h1, by omega, h3⟩
theorem NsB.mono {base base' : Nat} {ns : List Nd} {xs : List Value} {R : List (Nat × Obj)} (r : NsB base ns xs R) (h : base' ≤ base) : NsB base' ns xs R := by
  induction r with
  | nil => exact NsB.nil
  | snoc _ hp hf hw ih => exact NsB.snoc ih (hp.mono h) (hf.mono h) (hw.mono h)
theorem OGr.mono {base base' : Nat} {g : Gr} {ar an : Option Addr} {cr cn : Nat} {B : List (Nat × Obj)} (r : OGr base g ar an cr cn B) (h : base' ≤ base) : OGr base' g ar an cr cn B := by
  obtain ⟨Rr, Rn, xs, Rx, h1, h2, h3, h4⟩ := r
  exact ⟨Rr, Rn, xs, Rx, h1.mono h, h2.mono h, h3.mono h, h4⟩
theorem Rw.rowI {W0 w : World} {K R : List (Nat × Obj)} {al : List Int} {a : Option Addr} {cap : Nat} (r : Rw W0.heap.size 3 1 al.length (icI al) a cap R) (h : KB W0 K w) (hR : ∀ x ∈ R, x ∈ K) : RowI w a al := fun i hi => by
  obtain ⟨b, ha, hc⟩ := r.at_ h hR (icI_get al i hi)
  exact ⟨b, 0, ha, by rw [Nat.zero_add]; exact hc⟩
theorem cells_lx {W0 W : World} {K : List (Nat × Obj)} {bo gb : Nat} {t1 t2 : TypeId} {x0 y0 : Value} {xs ys : Array Value} (h1 : (bo, Obj.cells xs t1 (0, 0)) ∈ K) (hx : xs[0]? = some x0) (h2 : (gb, Obj.cells ys t2 (0, 0)) ∈ K) (hy : ys[0]? = some y0) {p : Addr} {v : Value} (hp : W0.cell? p = some v) (hW : KB W0 K W) :
    W.cell? ⟨bo, 0, none⟩ = some x0 ∧ W.cell? ⟨gb, 0, none⟩ = some y0 ∧ W.cell? p = some v :=
  ⟨at_cell (hW.block h1) 0 _ hx, at_cell (hW.block h2) 0 _ hy, cellB hW.below (Nat.le_refl _) hp⟩
set_option maxRecDepth 100000 in
set_option maxHeartbeats 8000000 in
theorem refTrim_any {w : World} {ar an : Option Addr} {g : Gr} (cr cn : Nat) (hG : GRd w ar an g) (hfew : FewG g) (hmay : mayG g = true) :
    Calls Try.prog 25 #[.agg #[.slice ar g.rs.length cr, .slice an g.ns.length cn]] w fun e w' => ∃ ar' an' cr' cn', e = .returned (.agg #[.slice ar' g.rs.length cr', .slice an' (walkG g).al.length cn']) ∧ ∃ B, OGr w.heap.size (trimG g) ar' an' cr' cn' B ∧ FKN w B w' := by
  obtain ⟨i1, hj, hy0, hy1, hy2⟩ := info_parts int_info
  obtain ⟨i2, hj2, hu0, hu1, hu2⟩ := info_parts uint_info
  obtain ⟨i3, hj3, hv0, hv1, hv2⟩ := info_parts node_info
  have hOk := walkG_ok hmay
  have hal := hOk.len
  have l1 : (g.rs.length : Int) ≤ 3000 := by have := hfew.rs; omega
  have hN := hfew.ns
  have l2 : (g.ns.length : Int) ≤ 3000 := by omega
  have l3 : ((walkG g).al.length : Int) ≤ 3000 := by omega
  have HOk := Lib.hid hOk
  have Hfew := Lib.hid hfew
  have HG := Lib.hid hG
  have h1 := (FKN.refl w).obj (.cells #[.slice ar g.rs.length cr, .slice an g.ns.length cn] 25)
  have h2 := h1.obj (.cells #[.slice none 0 0, .slice none 0 0] 25)
  simp only [heap_size_alloc] at h2
  have HRC := Lib.hid (refReach_any cr cn (hG.below h2.below) hfew hmay)
  have hp2 := h2.below
  obtain ⟨gb, hgb⟩ : ∃ gb, w.heap.size = gb := ⟨_, rfl⟩
  simp only [hgb] at h2
  have H2 := Lib.hid h2
  obtain ⟨E0, hE0⟩ : ∃ E0, [(gb + 1, Obj.cells #[.slice none 0 0, .slice none 0 0] 25 (0, 0)), (gb, Obj.cells #[.slice ar g.rs.length cr, .slice an g.ns.length cn] 25 (0, 0))] = E0 := ⟨_, rfl⟩
  rw [hE0] at H2
  have HE0 := Lib.hid hE0
  have HgE := Lib.hid (show (gb, Obj.cells #[.slice ar g.rs.length cr, .slice an g.ns.length cn] 25 (0, 0)) ∈ E0 from by rw [← hE0]; simp)
  clear h1 h2 hfew hOk hG hE0 hp2
  obtain ⟨w1, hw1⟩ : ∃ w1, (w.alloc (.cells #[.slice ar g.rs.length cr, .slice an g.ns.length cn] 25)).alloc (.cells #[.slice none 0 0, .slice none 0 0] 25) = w1 := ⟨_, rfl⟩
  rw [hw1] at HRC H2
  have HW1 := Lib.hid hw1
  have c0 := at_cell (H2.out.1.block HgE.out) 0 _ rfl
  have c1 := at_cell (H2.out.1.block HgE.out) 1 _ rfl
  rw [← hw1] at c0 c1
  clear hw1
  go_enter Try.func25, Try.ntmps25
  go_wp2_with (go_at_call 22; rw [HW1.out]; refine HRC.out.mono ?_; rintro e w2 ⟨la, lc, rfl, Rl, hrl, hF⟩; have hs12 := H2.out.below.size; have HRl := Lib.hid (hrl.mono hs12); have H3 := Lib.hid ((H2.out.join hF).box #[.slice none 0 0, .slice none 0 0] 25); clear hF hrl)
  obtain ⟨bo, hbo⟩ : ∃ bo, w2.heap.size = bo := ⟨_, rfl⟩
  simp only [hbo] at H3 ⊢
  generalize w2.alloc (.cells #[.slice none 0 0, .slice none 0 0] 25) = w3 at *
  clear c0 c1 HRC H2 HW1 hbo
  go_loopw [5] (fun iv wr => ∃ (k : Nat) (ar1 : Option Addr) (cr1 : Nat) (Rr : List (Nat × Obj)), iv = .int .i64 k ∧ k ≤ g.rs.length ∧ Rw w.heap.size 3 1 k (icI ((g.rs.take k).map (posP (walkG g).al))) ar1 cr1 Rr ∧ FKN w ((bo, .cells #[.slice ar1 k cr1, .slice none 0 0] 25 (0, 0)) :: (Rr ++ (Rl ++ E0))) wr) (fun iv _ => g.rs.length - (intOf iv).toNat)
  case atStart => exact ⟨0, none, 0, [], rfl, by omega, Rw.nil _ _ _, H3.out⟩
  case round =>
    clear H3
    obtain ⟨k, ar1, cr1, Rr, rfl, hk, hrr, hF⟩ := hrel
    have c0 := at_cell (hF.1.block (List.mem_cons_of_mem _ (List.mem_append_right _ (List.mem_append_right _ HgE.out)))) 0 _ rfl
    have c1 := at_cell (hF.1.block (List.mem_cons_of_mem _ (List.mem_append_right _ (List.mem_append_right _ HgE.out)))) 1 _ rfl
    by_cases hlt : k < g.rs.length
    · obtain ⟨b, off, ha, hc⟩ := HG.out.roots.cell
      obtain rfl : ar = some ⟨b, off, none⟩ := by
        rcases ha with e | e
        · rw [e] at hlt; cases hlt
        · exact e
      have p0 := hc k hlt
      have htk : (g.rs.take (k + 1)).map (posP (walkG g).al) = (g.rs.take k).map (posP (walkG g).al) ++ [posP (walkG g).al (g.rs.getD k 0)] := by rw [take_succ_getD 0 hlt, List.map_append]; rfl
      have Htk := Lib.hid htk
      generalize g.rs.getD k 0 = z at *
      have k1 : (k : Int) < g.rs.length := by omega
      have k2 : (0 : Int) ≤ k := by omega
      have k3 : ((k : Int)).toNat = k := by omega
      have hFd := hF.grow (below_drew wr)
      have HAT := Lib.hid (at_any lc z (HRl.out.rowI hFd.1 (fun x hx => List.mem_cons_of_mem _ (List.mem_append_right _ (List.mem_append_left _ hx)))) (by omega))
      have HF := Lib.hid hFd
      have Hq0 := Lib.hid p0
      have Hrr := Lib.hid hrr
      obtain ⟨P, hP⟩ : ∃ P, posP (walkG g).al z = P := ⟨_, rfl⟩
      rw [hP] at HAT Htk
      clear hF hFd hc ha htk hrr hP p0
      go_wp2_with (fail)
      clear c0 c1
      refine wp_region_heldL (S := fun W => W.cell? ⟨bo, 0, none⟩ = some (.slice ar1 k cr1) ∧ W.cell? ⟨gb, 0, none⟩ = some (.slice (some ⟨b, off, none⟩) g.rs.length cr) ∧ W.cell? ⟨b, off + k, none⟩ = some (.int .i64 z)) (by kernel_rfl) (cells_lx (List.mem_cons_self ..) rfl (List.mem_cons_of_mem _ (List.mem_append_right _ (List.mem_append_right _ HgE.out))) rfl Hq0.out HF.out.1) (fun hHeld => ?_)
      generalize wr.drew = w4 at *
      refine wpAnyL_take (i := 0) (v := ?_) rfl (by kernel_rfl) (by kernel_rfl) (by kernel_rfl) (by kernel_rfl) (fun _ _ _ h => h) (Or.inl ⟨by kernel_rfl, ?_⟩) (by assumption) ?_
      rotate_left
      · (intro w hSw; (try dsimp only at hSw); go_simp; try with_reducible rfl)
      simp only [Act.put, List.setIfInBounds_toArray, List.set_cons_zero, List.set_cons_succ]
      refine wpAnyL_take (i := 1) (v := ?_) rfl (by kernel_rfl) (by kernel_rfl) (by kernel_rfl) (by kernel_rfl) (fun _ _ _ h => h) (Or.inl ⟨by kernel_rfl, ?_⟩) (by assumption) ?_
      rotate_left
      · (intro w hSw; (try dsimp only at hSw); go_simp; try with_reducible rfl)
      simp only [Act.put, List.setIfInBounds_toArray, List.set_cons_zero, List.set_cons_succ]
      refine wpAnyL_take (i := 2) (v := ?_) rfl (by kernel_rfl) (by kernel_rfl) (by kernel_rfl) (by kernel_rfl) (fun _ _ _ h => h) (Or.inl ⟨by kernel_rfl, ?_⟩) (by assumption) ?_
      rotate_left
      · (intro w hSw; (try dsimp only at hSw); go_simp; try with_reducible rfl)
      simp only [Act.put, List.setIfInBounds_toArray, List.set_cons_zero, List.set_cons_succ]
      refine wpAnyL_take (i := 3) (v := ?_) rfl (by kernel_rfl) (by kernel_rfl) (by kernel_rfl) (by kernel_rfl) (fun _ _ _ h => h) (Or.inl ⟨by kernel_rfl, ?_⟩) (by assumption) ?_
      rotate_left
      · (intro w hSw; (try dsimp only at hSw); go_simp; try with_reducible rfl)
      simp only [Act.put, List.setIfInBounds_toArray, List.set_cons_zero, List.set_cons_succ]
      refine wpAnyL_take (i := 4) (v := ?_) rfl (by kernel_rfl) (by kernel_rfl) (by kernel_rfl) (by kernel_rfl) (fun _ _ _ h => h) (Or.inl ⟨by kernel_rfl, ?_⟩) (by assumption) ?_
      rotate_left
      · (intro w hSw; (try dsimp only at hSw); go_simp; try with_reducible rfl)
      simp only [Act.put, List.setIfInBounds_toArray, List.set_cons_zero, List.set_cons_succ]
      refine wpAnyL_take (i := 5) (v := ?_) rfl (by kernel_rfl) (by kernel_rfl) (by kernel_rfl) (by kernel_rfl) (fun _ _ _ h => h) (Or.inl ⟨by kernel_rfl, ?_⟩) (by assumption) ?_
      rotate_left
      · (intro w hSw; (try dsimp only at hSw); go_simp; try with_reducible rfl)
      simp only [Act.put, List.setIfInBounds_toArray, List.set_cons_zero, List.set_cons_succ]
      refine wpAnyL_take (i := 6) (v := ?_) rfl (by kernel_rfl) (by kernel_rfl) (by kernel_rfl) (by kernel_rfl) (fun _ _ _ h => h) (Or.inl ⟨by kernel_rfl, ?_⟩) (by assumption) ?_
      rotate_left
      · (intro w hSw; (try dsimp only at hSw); go_simp; try with_reducible rfl)
      simp only [Act.put, List.setIfInBounds_toArray, List.set_cons_zero, List.set_cons_succ]
      refine wpAnyL_take (i := 7) (v := ?_) rfl (by kernel_rfl) (by kernel_rfl) (by kernel_rfl) (by kernel_rfl) (fun _ _ _ h => h) (Or.inl ⟨by kernel_rfl, ?_⟩) (by assumption) ?_
      rotate_left
      · (intro w hSw; (try dsimp only at hSw); go_simp; try with_reducible rfl)
      simp only [Act.put, List.setIfInBounds_toArray, List.set_cons_zero, List.set_cons_succ]
      refine wpAnyL_one (i := 8) (by decide +kernel) rfl (fun K hK => ?_)
      go_simp
      go_at_call 50
      refine HAT.out.mono ?_
      rintro e w5 ⟨rfl, rfl⟩
      refine hK.out _ _ (cells_lx (List.mem_cons_self ..) rfl (List.mem_cons_of_mem _ (List.mem_append_right _ (List.mem_append_right _ HgE.out))) rfl Hq0.out HF.out.1) (fun hHeld => ?_)
      clear hK K
      try simp only [Act.put, List.setIfInBounds_toArray, List.set_cons_zero, List.set_cons_succ]
      obtain ⟨ar2, cr2, w6, Rr2, hrun, hrr2, h6⟩ := Hrr.out.app1 (HF.out.perm (K' := Rr ++ ((bo, Obj.cells #[.slice ar1 k cr1, .slice none 0 0] 25 (0, 0)) :: (Rl ++ E0))) (permC fun x => by simp only [List.count_append, List.count_cons, List.append_assoc, List.cons_append]; ac_rfl)) hj hy0 hy1 hy2 rfl (by decide) Try.underlying22 #[.int .i64 P] rfl (by intro u hu; simp only [List.mem_cons, List.not_mem_nil, or_false] at hu; subst hu; rfl) (by unfold maxLen; omega) (by omega)
      have HRUN := Lib.hid hrun
      have Hrr2 := Lib.hid hrr2
      have hbo := h6.1.block (X := bo) (o := .cells #[.slice ar1 k cr1, .slice none 0 0] 25 (0, 0)) (by simp)
      have b1 := at_cell hbo 0 (.slice ar1 k cr1) rfl
      have f1 := at_free hbo 0
      have H6 := Lib.hid h6
      have HB5 := Lib.hid (HF.out.box #[.int .i64 P] 3)
      clear hrun hrr2 h6 hbo HAT
      refine wpAnyL_one (i := 9) (by decide +kernel) rfl (fun K hK => ?_)
      go_simp
      refine hK.out _ _ (cells_lx (List.mem_cons_of_mem _ (List.mem_cons_self ..)) rfl (List.mem_cons_of_mem _ (List.mem_cons_of_mem _ (List.mem_append_right _ (List.mem_append_right _ HgE.out)))) rfl Hq0.out HB5.out.1) (fun hHeld => ?_)
      clear hK K
      try simp only [Act.put, List.setIfInBounds_toArray, List.set_cons_zero, List.set_cons_succ]
      refine wpAnyL_one (i := 10) (by decide +kernel) rfl (fun K hK => ?_)
      refine step_append_run _ (by rfl) (.tmp 20) (.tmp 28) 22 22 _ (by rfl) (by rfl) _ _ (by rfl) (by rfl) _ w6 HRUN.out ?_
      refine hK.out _ _ (cells_lx (List.mem_append_right _ (List.mem_cons_self ..)) rfl (List.mem_append_right _ (List.mem_cons_of_mem _ (List.mem_append_right _ HgE.out))) rfl Hq0.out H6.out.1) (fun hHeld => ?_)
      clear hK K
      try simp only [Act.put, List.setIfInBounds_toArray, List.set_cons_zero, List.set_cons_succ]
      refine wpAnyL_take (i := 11) (v := ?_) rfl (by kernel_rfl) (by kernel_rfl) (by kernel_rfl) (by kernel_rfl) (fun _ _ _ h => h) (Or.inl ⟨by kernel_rfl, ?_⟩) (by assumption) ?_
      rotate_left
      · (intro w hSw; (try dsimp only at hSw); go_simp; try with_reducible rfl)
      simp only [Act.put, List.setIfInBounds_toArray, List.set_cons_zero, List.set_cons_succ]
      refine wpAnyL_last (i := 12) (by kernel_rfl) rfl (by kernel_rfl) (by kernel_rfl) (fun K hK => ?_)
      go_simp
      refine hK.out _ _ ?_
      clear hK K
      try simp only [Act.put, List.setIfInBounds_toArray, List.set_cons_zero, List.set_cons_succ]
      have hfin := ((H6.out.perm (K' := (bo, Obj.cells #[.slice ar1 k cr1, .slice none 0 0] 25 (0, 0)) :: (Rr2 ++ (Rl ++ E0))) (permC fun x => by simp only [List.count_append, List.count_cons, List.append_assoc, List.cons_append]; ac_rfl)).set 0 (.slice ar2 (k + 1) cr2))
      have HFIN := Lib.hid hfin
      clear hfin H6 HB5 b1 f1 hHeld HF
      go_wp2_with (fail)
      go_roundw
      case rel => exact ⟨k + 1, ar2, cr2, Rr2, by go_num, by omega, by rw [Htk.out, icI_snoc]; exact Hrr2.out, HFIN.out⟩
      case measure => simp [intOf]; omega
    · obtain rfl : k = g.rs.length := by omega
      have k1 : ¬ (g.rs.length : Int) < g.rs.length := by omega
      rw [List.take_length] at hrr
      have HRr := Lib.hid hrr
      have HF := Lib.hid hF
      clear hF hrr
      go_wp2_with (fail)
      clear c0 c1
      go_loopw [6] (fun iv wr => ∃ (i : Nat) (an1 : Option Addr) (cn1 : Nat) (xs : List Value) (Rn Rx : List (Nat × Obj)), iv = .int .i64 i ∧ i ≤ (walkG g).al.length ∧ Rw w.heap.size 47 3 i xs an1 cn1 Rn ∧ NsB w.heap.size (((walkG g).al.take i).map (trimN g)) xs Rx ∧ FKN w ((bo, .cells #[.slice ar1 g.rs.length cr1, .slice an1 i cn1] 25 (0, 0)) :: (Rn ++ (Rx ++ (Rr ++ (Rl ++ E0))))) wr) (fun iv _ => (walkG g).al.length - (intOf iv).toNat)
      case atStart => exact ⟨0, none, 0, [], [], [], rfl, by omega, Rw.nil _ _ _, NsB.nil, HF.out⟩
      case round =>
        clear HF
        obtain ⟨i, an1, cn1, xs, Rn, Rx, rfl, hi, hrn, hnx, hF⟩ := hrel
        by_cases hlt : i < (walkG g).al.length
        · have hF := hF
          have hRlK : ∀ x ∈ Rl, x ∈ Rn ++ (Rx ++ (Rr ++ (Rl ++ E0))) := fun x hx => List.mem_append_right _ (List.mem_append_right _ (List.mem_append_right _ (List.mem_append_left _ hx)))
          have hgK : (gb, Obj.cells #[.slice ar g.rs.length cr, .slice an g.ns.length cn] 25 (0, 0)) ∈ Rn ++ (Rx ++ (Rr ++ (Rl ++ E0))) := List.mem_append_right _ (List.mem_append_right _ (List.mem_append_right _ (List.mem_append_right _ HgE.out)))
          obtain ⟨b0, hla, hz0⟩ := HRl.out.at_ hF.1 (fun x hx => List.mem_cons_of_mem _ (hRlK x hx)) (icI_get _ i hlt)
          have hzz := HOk.out.lt ((walkG g).al.getD i 0) (getD_mem 0 hlt)
          have htk : ((walkG g).al.take (i + 1)).map (trimN g) = ((walkG g).al.take i).map (trimN g) ++ [trimN g ((walkG g).al.getD i 0)] := by rw [take_succ_getD 0 hlt, List.map_append]; rfl
          have hrow : ∀ (K : List (Nat × Obj)) W, (∀ x ∈ Rn ++ (Rx ++ (Rr ++ (Rl ++ E0))), x ∈ K) → KB w K W → W.cell? ⟨b0, i, none⟩ = some (.int .i64 ((walkG g).al.getD i 0)) := fun K W hs hW => by
            obtain ⟨b1, h1, h2⟩ := HRl.out.at_ hW (fun x hx => hs x (hRlK x hx)) (icI_get _ i hlt)
            rw [hla] at h1
            cases h1
            exact h2
          subst hla
          generalize (walkG g).al.getD i 0 = z at *
          obtain ⟨q, rfl⟩ : ∃ q : Nat, z = q := ⟨z.toNat, by omega⟩
          obtain ⟨bn, on, ap, af, aw, cp, cf, cw, rfl, hx0, n0, n1, n2⟩ := HG.out.nodes.at_ (show q < g.ns.length by omega)
          have hin := Hfew.out.each _ (getD_mem default (show q < g.ns.length by omega))
          have htn : trimN g (q : Int) = ⟨(g.ns.getD q default).ps.map (posP (walkG g).al), (g.ns.getD q default).fs, (g.ns.getD q default).ws⟩ := by unfold trimN psAt; rw [Int.toNat_natCast]
          rw [htn] at htk
          generalize g.ns.getD q default = xx at *
          obtain ⟨ps, fs, ws⟩ := xx
          simp only at n0 n1 n2 hin htk hx0
          have k1 : (i : Int) < (walkG g).al.length := by omega
          have k2 : (0 : Int) ≤ i := by omega
          have k3 : ((i : Int)).toNat = i := by omega
          have q1 : (q : Int) < g.ns.length := by omega
          have q2 : (0 : Int) ≤ q := by omega
          have q3 : ((q : Int)).toNat = q := by omega
          have p1 : (ps.length : Int) ≤ 3000 := by omega
          have hS : ∀ K W, (∀ x ∈ Rn ++ (Rx ++ (Rr ++ (Rl ++ E0))), x ∈ K) → KB w K W → W.cell? ⟨gb, 1, none⟩ = some (.slice (some ⟨bn, on, none⟩) g.ns.length cn) ∧ W.cell? ⟨b0, i, none⟩ = some (.int .i64 (q : Int)) ∧ W.cell? ⟨bn, on + q * 3, none⟩ = some (.slice ap ps.length cp) ∧ W.cell? ⟨bn, on + q * 3 + 1, none⟩ = some (.slice af fs.length cf) ∧ W.cell? ⟨bn, on + q * 3 + 2, none⟩ = some (.slice aw ws.length cw) := fun K W hs hW =>
            ⟨at_cell (hW.block (hs _ hgK)) 1 _ rfl, hrow K W hs hW, cellB hW.below (Nat.le_refl _) n0, cellB hW.below (Nat.le_refl _) n1, cellB hW.below (Nat.le_refl _) n2⟩
          have HS := Lib.hid hS
          have HF := Lib.hid (hF.grow (below_drew wr))
          have Hrn := Lib.hid hrn
          have Hnx := Lib.hid hnx
          have Htk := Lib.hid htk
          have HX := Lib.hid hx0
          have HRlK := Lib.hid hRlK
          clear hF hrn hnx htk htn hx0 n0 n1 n2 hS hrow hz0 hzz hRlK hgK
          go_wp2_with (fail)
          refine wp_region_heldL (S := fun W' => W'.cell? ⟨gb, 1, none⟩ = some (.slice (some ⟨bn, on, none⟩) g.ns.length cn) ∧ W'.cell? ⟨b0, i, none⟩ = some (.int .i64 (q : Int)) ∧ W'.cell? ⟨bn, on + q * 3, none⟩ = some (.slice ap ps.length cp) ∧ W'.cell? ⟨bn, on + q * 3 + 1, none⟩ = some (.slice af fs.length cf) ∧ W'.cell? ⟨bn, on + q * 3 + 2, none⟩ = some (.slice aw ws.length cw)) (by kernel_rfl) (HS.out _ _ (fun x hx => List.mem_cons_of_mem _ hx) HF.out.1) (fun hHeld => ?_)
          generalize wr.drew = W2 at *
          refine wpAnyL_take (i := 0) (v := ?_) rfl (by kernel_rfl) (by kernel_rfl) (by kernel_rfl) (by kernel_rfl) (fun _ _ _ h => h) (Or.inl ⟨by kernel_rfl, ?_⟩) (by assumption) ?_
          rotate_left
          · (intro w hSw; (try dsimp only at hSw); go_simp; try with_reducible rfl)
          simp only [Act.put, List.setIfInBounds_toArray, List.set_cons_zero, List.set_cons_succ]
          refine wpAnyL_take (i := 1) (v := ?_) rfl (by kernel_rfl) (by kernel_rfl) (by kernel_rfl) (by kernel_rfl) (fun _ _ _ h => h) (Or.inl ⟨by kernel_rfl, ?_⟩) (by assumption) ?_
          rotate_left
          · (intro w hSw; (try dsimp only at hSw); go_simp; try with_reducible rfl)
          simp only [Act.put, List.setIfInBounds_toArray, List.set_cons_zero, List.set_cons_succ]
          refine wpAnyL_take (i := 2) (v := ?_) rfl (by kernel_rfl) (by kernel_rfl) (by kernel_rfl) (by kernel_rfl) (fun _ _ _ h => h) (Or.inl ⟨by kernel_rfl, ?_⟩) (by assumption) ?_
          rotate_left
          · (intro w hSw; (try dsimp only at hSw); go_simp; try with_reducible rfl)
          simp only [Act.put, List.setIfInBounds_toArray, List.set_cons_zero, List.set_cons_succ]
          refine wpAnyL_take (i := 3) (v := ?_) rfl (by kernel_rfl) (by kernel_rfl) (by kernel_rfl) (by kernel_rfl) (fun _ _ _ h => h) (Or.inl ⟨by kernel_rfl, ?_⟩) (by assumption) ?_
          rotate_left
          · (intro w hSw; (try dsimp only at hSw); go_simp; try with_reducible rfl)
          simp only [Act.put, List.setIfInBounds_toArray, List.set_cons_zero, List.set_cons_succ]
          refine wpAnyL_take (i := 4) (v := ?_) rfl (by kernel_rfl) (by kernel_rfl) (by kernel_rfl) (by kernel_rfl) (fun _ _ _ h => h) (Or.inl ⟨by kernel_rfl, ?_⟩) (by assumption) ?_
          rotate_left
          · (intro w hSw; (try dsimp only at hSw); go_simp; try with_reducible rfl)
          simp only [Act.put, List.setIfInBounds_toArray, List.set_cons_zero, List.set_cons_succ]
          refine wpAnyL_take (i := 5) (v := ?_) rfl (by kernel_rfl) (by kernel_rfl) (by kernel_rfl) (by kernel_rfl) (fun _ _ _ h => h) (Or.inl ⟨by kernel_rfl, ?_⟩) (by assumption) ?_
          rotate_left
          · (intro w hSw; (try dsimp only at hSw); go_simp; try with_reducible rfl)
          simp only [Act.put, List.setIfInBounds_toArray, List.set_cons_zero, List.set_cons_succ]
          refine wpAnyL_take (i := 6) (v := ?_) rfl (by kernel_rfl) (by kernel_rfl) (by kernel_rfl) (by kernel_rfl) (fun _ _ _ h => h) (Or.inl ⟨by kernel_rfl, ?_⟩) (by assumption) ?_
          rotate_left
          · (intro w hSw; (try dsimp only at hSw); go_simp; try with_reducible rfl)
          simp only [Act.put, List.setIfInBounds_toArray, List.set_cons_zero, List.set_cons_succ]
          refine wpAnyL_take (i := 7) (v := ?_) rfl (by kernel_rfl) (by kernel_rfl) (by kernel_rfl) (by kernel_rfl) (fun _ _ _ h => h) (Or.inl ⟨by kernel_rfl, ?_⟩) (by assumption) ?_
          rotate_left
          · (intro w hSw; (try dsimp only at hSw); go_simp; try with_reducible rfl)
          simp only [Act.put, List.setIfInBounds_toArray, List.set_cons_zero, List.set_cons_succ]
          refine wpAnyL_one (i := 8) (by decide +kernel) rfl (fun K hK => ?_)
          go_simp
          refine hK.out _ _ (HS.out _ _ (fun x hx => List.mem_cons_of_mem _ (List.mem_cons_of_mem _ hx)) (HF.out.box _ _).1) (fun hHeld => ?_)
          clear hK K
          try simp only [Act.put, List.setIfInBounds_toArray, List.set_cons_zero, List.set_cons_succ]
          refine wpAnyL_last (i := 9) (by kernel_rfl) rfl (by kernel_rfl) (by kernel_rfl) (fun K hK => ?_)
          go_simp
          refine hK.out _ _ ?_
          clear hK K
          try simp only [Act.put, List.setIfInBounds_toArray, List.set_cons_zero, List.set_cons_succ]
          have hB := HF.out.box #[.slice ap ps.length cp, .slice af fs.length cf, .slice aw ws.length cw] 47
          have hB2 := hB.box #[.slice none 0 0, .slice none 0 0, .slice none 0 0] 47
          simp only [heap_size_alloc] at hB2
          obtain ⟨bx, hbx⟩ : ∃ bx, W2.heap.size = bx := ⟨_, rfl⟩
          simp only [hbx] at hB2 ⊢
          have HB2 := Lib.hid hB2
          clear hHeld HS hB hB2
          go_wp2_with (fail)
          generalize (W2.alloc (.cells #[.slice ap ps.length cp, .slice af fs.length cf, .slice aw ws.length cw] 47)).alloc (.cells #[.slice none 0 0, .slice none 0 0, .slice none 0 0] 47) = W3 at *
          clear hbx
          obtain ⟨K2, hK2⟩ : ∃ K2, (bx, Obj.cells #[.slice ap ps.length cp, .slice af fs.length cf, .slice aw ws.length cw] 47 (0, 0)) :: (bo, Obj.cells #[.slice ar1 g.rs.length cr1, .slice an1 i cn1] 25 (0, 0)) :: (Rn ++ (Rx ++ (Rr ++ (Rl ++ E0)))) = K2 := ⟨_, rfl⟩
          rw [hK2] at HB2
          have HK2 := Lib.hid hK2
          have Hbx := Lib.hid (show (bx, Obj.cells #[.slice ap ps.length cp, .slice af fs.length cf, .slice aw ws.length cw] 47 (0, 0)) ∈ K2 from by rw [← hK2]; exact List.mem_cons_self ..)
          have HRl2 := Lib.hid (show ∀ x ∈ Rl, x ∈ K2 from fun x hx => by rw [← hK2]; exact List.mem_cons_of_mem _ (List.mem_cons_of_mem _ (HRlK.out x hx)))
          clear hK2 HF
          go_loopw [9] (fun jv wr => ∃ (k : Nat) (ap1 : Option Addr) (cp1 : Nat) (Rp : List (Nat × Obj)), jv = .int .i64 k ∧ k ≤ ps.length ∧ Rw w.heap.size 3 1 k (icI ((ps.take k).map (posP (walkG g).al))) ap1 cp1 Rp ∧ FKN w ((bx + 1, .cells #[.slice ap1 k cp1, .slice none 0 0, .slice none 0 0] 47 (0, 0)) :: (Rp ++ K2)) wr) (fun jv _ => ps.length - (intOf jv).toNat)
          case atStart => exact ⟨0, none, 0, [], rfl, by omega, Rw.nil _ _ _, HB2.out⟩
          case round =>
            clear HB2
            obtain ⟨k, ap1, cp1, Rp, rfl, hk, hrp, hF⟩ := hrel
            have c0 := at_cell (hF.1.block (List.mem_cons_of_mem _ (List.mem_append_right _ Hbx.out))) 0 _ rfl
            by_cases hltk : k < ps.length
            · obtain ⟨b, off, ha, hc⟩ := HX.out.ps.cell
              obtain rfl : ap = some ⟨b, off, none⟩ := by
                rcases ha with e | e
                · simp only at e; rw [e] at hltk; cases hltk
                · exact e
              have p0 : w.cell? ⟨b, off + k, none⟩ = some (.int .i64 (ps.getD k 0)) := hc k hltk
              have htp : (ps.take (k + 1)).map (posP (walkG g).al) = (ps.take k).map (posP (walkG g).al) ++ [posP (walkG g).al (ps.getD k 0)] := by rw [take_succ_getD 0 hltk, List.map_append]; rfl
              have Htp := Lib.hid htp
              generalize ps.getD k 0 = z at *
              have j1 : (k : Int) < ps.length := by omega
              have j2 : (0 : Int) ≤ k := by omega
              have j3 : ((k : Int)).toNat = k := by omega
              have hFd := hF.grow (below_drew wr)
              have HAT := Lib.hid (at_any lc z (HRl.out.rowI hFd.1 (fun x hx => List.mem_cons_of_mem _ (List.mem_append_right _ (HRl2.out x hx)))) (by omega))
              have HF := Lib.hid hFd
              have Hp0 := Lib.hid p0
              have Hrp := Lib.hid hrp
              obtain ⟨P, hP⟩ : ∃ P, posP (walkG g).al z = P := ⟨_, rfl⟩
              rw [hP] at HAT Htp
              clear hF hFd hc ha htp hrp hP p0
              go_wp2_with (fail)
              clear c0
              refine wp_region_heldL (S := fun W => W.cell? ⟨bx + 1, 0, none⟩ = some (.slice ap1 k cp1) ∧ W.cell? ⟨bx, 0, none⟩ = some (.slice (some ⟨b, off, none⟩) ps.length cp) ∧ W.cell? ⟨b, off + k, none⟩ = some (.int .i64 z)) (by kernel_rfl) (cells_lx (List.mem_cons_self ..) rfl (List.mem_cons_of_mem _ (List.mem_append_right _ Hbx.out)) rfl Hp0.out HF.out.1) (fun hHeld => ?_)
              generalize wr.drew = w4 at *
              refine wpAnyL_take (i := 0) (v := ?_) rfl (by kernel_rfl) (by kernel_rfl) (by kernel_rfl) (by kernel_rfl) (fun _ _ _ h => h) (Or.inl ⟨by kernel_rfl, ?_⟩) (by assumption) ?_
              rotate_left
              · (intro w hSw; (try dsimp only at hSw); go_simp; try with_reducible rfl)
              simp only [Act.put, List.setIfInBounds_toArray, List.set_cons_zero, List.set_cons_succ]
              refine wpAnyL_take (i := 1) (v := ?_) rfl (by kernel_rfl) (by kernel_rfl) (by kernel_rfl) (by kernel_rfl) (fun _ _ _ h => h) (Or.inl ⟨by kernel_rfl, ?_⟩) (by assumption) ?_
              rotate_left
              · (intro w hSw; (try dsimp only at hSw); go_simp; try with_reducible rfl)
              simp only [Act.put, List.setIfInBounds_toArray, List.set_cons_zero, List.set_cons_succ]
              refine wpAnyL_take (i := 2) (v := ?_) rfl (by kernel_rfl) (by kernel_rfl) (by kernel_rfl) (by kernel_rfl) (fun _ _ _ h => h) (Or.inl ⟨by kernel_rfl, ?_⟩) (by assumption) ?_
              rotate_left
              · (intro w hSw; (try dsimp only at hSw); go_simp; try with_reducible rfl)
              simp only [Act.put, List.setIfInBounds_toArray, List.set_cons_zero, List.set_cons_succ]
              refine wpAnyL_take (i := 3) (v := ?_) rfl (by kernel_rfl) (by kernel_rfl) (by kernel_rfl) (by kernel_rfl) (fun _ _ _ h => h) (Or.inl ⟨by kernel_rfl, ?_⟩) (by assumption) ?_
              rotate_left
              · (intro w hSw; (try dsimp only at hSw); go_simp; try with_reducible rfl)
              simp only [Act.put, List.setIfInBounds_toArray, List.set_cons_zero, List.set_cons_succ]
              refine wpAnyL_take (i := 4) (v := ?_) rfl (by kernel_rfl) (by kernel_rfl) (by kernel_rfl) (by kernel_rfl) (fun _ _ _ h => h) (Or.inl ⟨by kernel_rfl, ?_⟩) (by assumption) ?_
              rotate_left
              · (intro w hSw; (try dsimp only at hSw); go_simp; try with_reducible rfl)
              simp only [Act.put, List.setIfInBounds_toArray, List.set_cons_zero, List.set_cons_succ]
              refine wpAnyL_take (i := 5) (v := ?_) rfl (by kernel_rfl) (by kernel_rfl) (by kernel_rfl) (by kernel_rfl) (fun _ _ _ h => h) (Or.inl ⟨by kernel_rfl, ?_⟩) (by assumption) ?_
              rotate_left
              · (intro w hSw; (try dsimp only at hSw); go_simp; try with_reducible rfl)
              simp only [Act.put, List.setIfInBounds_toArray, List.set_cons_zero, List.set_cons_succ]
              refine wpAnyL_take (i := 6) (v := ?_) rfl (by kernel_rfl) (by kernel_rfl) (by kernel_rfl) (by kernel_rfl) (fun _ _ _ h => h) (Or.inl ⟨by kernel_rfl, ?_⟩) (by assumption) ?_
              rotate_left
              · (intro w hSw; (try dsimp only at hSw); go_simp; try with_reducible rfl)
              simp only [Act.put, List.setIfInBounds_toArray, List.set_cons_zero, List.set_cons_succ]
              refine wpAnyL_take (i := 7) (v := ?_) rfl (by kernel_rfl) (by kernel_rfl) (by kernel_rfl) (by kernel_rfl) (fun _ _ _ h => h) (Or.inl ⟨by kernel_rfl, ?_⟩) (by assumption) ?_
              rotate_left
              · (intro w hSw; (try dsimp only at hSw); go_simp; try with_reducible rfl)
              simp only [Act.put, List.setIfInBounds_toArray, List.set_cons_zero, List.set_cons_succ]
              refine wpAnyL_one (i := 8) (by decide +kernel) rfl (fun K hK => ?_)
              go_simp
              go_at_call 50
              refine HAT.out.mono ?_
              rintro e w5 ⟨rfl, rfl⟩
              refine hK.out _ _ (cells_lx (List.mem_cons_self ..) rfl (List.mem_cons_of_mem _ (List.mem_append_right _ Hbx.out)) rfl Hp0.out HF.out.1) (fun hHeld => ?_)
              clear hK K
              try simp only [Act.put, List.setIfInBounds_toArray, List.set_cons_zero, List.set_cons_succ]
              obtain ⟨ap2, cp2, w6, Rp2, hrun, hrp2, h6⟩ := Hrp.out.app1 (HF.out.perm (K' := Rp ++ ((bx + 1, Obj.cells #[.slice ap1 k cp1, .slice none 0 0, .slice none 0 0] 47 (0, 0)) :: K2)) (permC fun x => by simp only [List.count_append, List.count_cons, List.append_assoc, List.cons_append]; ac_rfl)) hj hy0 hy1 hy2 rfl (by decide) Try.underlying22 #[.int .i64 P] rfl (by intro u hu; simp only [List.mem_cons, List.not_mem_nil, or_false] at hu; subst hu; rfl) (by unfold maxLen; omega) (by omega)
              have HRUN := Lib.hid hrun
              have Hrp2 := Lib.hid hrp2
              have hbo := h6.1.block (X := bx + 1) (o := .cells #[.slice ap1 k cp1, .slice none 0 0, .slice none 0 0] 47 (0, 0)) (by simp)
              have b1 := at_cell hbo 0 (.slice ap1 k cp1) rfl
              have f1 := at_free hbo 0
              have H6 := Lib.hid h6
              have HB5 := Lib.hid (HF.out.box #[.int .i64 P] 3)
              clear hrun hrp2 h6 hbo HAT
              refine wpAnyL_one (i := 9) (by decide +kernel) rfl (fun K hK => ?_)
              go_simp
              refine hK.out _ _ (cells_lx (List.mem_cons_of_mem _ (List.mem_cons_self ..)) rfl (List.mem_cons_of_mem _ (List.mem_cons_of_mem _ (List.mem_append_right _ Hbx.out))) rfl Hp0.out HB5.out.1) (fun hHeld => ?_)
              clear hK K
              try simp only [Act.put, List.setIfInBounds_toArray, List.set_cons_zero, List.set_cons_succ]
              refine wpAnyL_one (i := 10) (by decide +kernel) rfl (fun K hK => ?_)
              refine step_append_run _ (by rfl) (.tmp 53) (.tmp 61) 22 22 _ (by rfl) (by rfl) _ _ (by rfl) (by rfl) _ w6 HRUN.out ?_
              refine hK.out _ _ (cells_lx (List.mem_append_right _ (List.mem_cons_self ..)) rfl (List.mem_append_right _ (List.mem_cons_of_mem _ Hbx.out)) rfl Hp0.out H6.out.1) (fun hHeld => ?_)
              clear hK K
              try simp only [Act.put, List.setIfInBounds_toArray, List.set_cons_zero, List.set_cons_succ]
              refine wpAnyL_take (i := 11) (v := ?_) rfl (by kernel_rfl) (by kernel_rfl) (by kernel_rfl) (by kernel_rfl) (fun _ _ _ h => h) (Or.inl ⟨by kernel_rfl, ?_⟩) (by assumption) ?_
              rotate_left
              · (intro w hSw; (try dsimp only at hSw); go_simp; try with_reducible rfl)
              simp only [Act.put, List.setIfInBounds_toArray, List.set_cons_zero, List.set_cons_succ]
              refine wpAnyL_last (i := 12) (by kernel_rfl) rfl (by kernel_rfl) (by kernel_rfl) (fun K hK => ?_)
              go_simp
              refine hK.out _ _ ?_
              clear hK K
              try simp only [Act.put, List.setIfInBounds_toArray, List.set_cons_zero, List.set_cons_succ]
              have hfin := ((H6.out.perm (K' := (bx + 1, Obj.cells #[.slice ap1 k cp1, .slice none 0 0, .slice none 0 0] 47 (0, 0)) :: (Rp2 ++ K2)) (permC fun x => by simp only [List.count_append, List.count_cons, List.append_assoc, List.cons_append]; ac_rfl)).set 0 (.slice ap2 (k + 1) cp2))
              have HFIN := Lib.hid hfin
              clear hfin H6 HB5 b1 f1 hHeld HF
              go_wp2_with (fail)
              go_roundw
              case rel => exact ⟨k + 1, ap2, cp2, Rp2, by go_num, by omega, by rw [Htp.out, icI_snoc]; exact Hrp2.out, HFIN.out⟩
              case measure => simp [intOf]; omega
            · obtain rfl : k = ps.length := by omega
              have j1 : ¬ (ps.length : Int) < ps.length := by omega
              rw [List.take_length] at hrp
              have ho := HX.out.fs.below hF.below
              obtain ⟨af2, cf2, w6, Rf, run6, hrf, h6⟩ := (Rw.nil w.heap.size 48 1).appN (K := (bx + 1, Obj.cells #[.slice ap1 ps.length cp1, .slice none 0 0, .slice none 0 0] 47 (0, 0)) :: (Rp ++ K2)) hF hj2 hu0 hu1 hu2 rfl (by decide) Try.underlying45 (news := icU fs) (m := fs.length) (by simp [icU]) (a := af) cf (fun h0 => ho.src h0) (fun u hu => by
                unfold icU at hu
                rw [List.mem_map] at hu
                obtain ⟨z, -, rfl⟩ := hu
                rfl) (by unfold maxLen; omega) (by omega)
              rw [Nat.zero_add] at run6 hrf
              have hy5 := hF.1.block (List.mem_cons_self ..)
              have y50 := at_cell hy5 0 _ rfl
              have y51 := at_cell hy5 1 _ rfl
              have hx5 := hF.1.block (List.mem_cons_of_mem _ (List.mem_append_right _ Hbx.out))
              have x51 := at_cell hx5 1 _ rfl
              have h6p := h6.perm (K' := (bx + 1, Obj.cells #[.slice ap1 ps.length cp1, .slice none 0 0, .slice none 0 0] 47 (0, 0)) :: (Rf ++ (Rp ++ K2))) (permC fun x => by simp only [List.count_append, List.count_cons, List.append_assoc, List.cons_append]; ac_rfl)
              have hy6 := h6p.1.block (List.mem_cons_self ..)
              have y61 := at_cell hy6 1 _ rfl
              have z61 := at_free hy6 1
              have h6s := h6p.set 1 (.slice af2 fs.length cf2)
              obtain ⟨v6, hv6⟩ : ∃ v, w6.setCell ⟨bx + 1, 1, none⟩ (.slice af2 fs.length cf2) = v := ⟨_, rfl⟩
              rw [hv6] at h6s
              have h6s : FKN w ((bx + 1, Obj.cells #[.slice ap1 ps.length cp1, .slice af2 fs.length cf2, .slice none 0 0] 47 (0, 0)) :: (Rf ++ (Rp ++ K2))) v6 := h6s
              have how := HX.out.ws.below h6s.below
              obtain ⟨aw2, cw2, w7, Rw2, run7, hrw, h7⟩ := (Rw.nil w.heap.size 48 1).appN (K := (bx + 1, Obj.cells #[.slice ap1 ps.length cp1, .slice af2 fs.length cf2, .slice none 0 0] 47 (0, 0)) :: (Rf ++ (Rp ++ K2))) h6s hj2 hu0 hu1 hu2 rfl (by decide) Try.underlying45 (news := icU ws) (m := ws.length) (by simp [icU]) (a := aw) cw (fun h0 => how.src h0) (fun u hu => by
                unfold icU at hu
                rw [List.mem_map] at hu
                obtain ⟨z, -, rfl⟩ := hu
                rfl) (by unfold maxLen; omega) (by omega)
              rw [Nat.zero_add] at run7 hrw
              have hy7 := h6s.1.block (List.mem_cons_self ..)
              have y72 := at_cell hy7 2 _ rfl
              have hx7 := h6s.1.block (List.mem_cons_of_mem _ (List.mem_append_right _ (List.mem_append_right _ Hbx.out)))
              have x72 := at_cell hx7 2 _ rfl
              have h7p := h7.perm (K' := (bx + 1, Obj.cells #[.slice ap1 ps.length cp1, .slice af2 fs.length cf2, .slice none 0 0] 47 (0, 0)) :: (Rw2 ++ (Rf ++ (Rp ++ K2)))) (permC fun x => by simp only [List.count_append, List.count_cons, List.append_assoc, List.cons_append]; ac_rfl)
              have hy8 := h7p.1.block (List.mem_cons_self ..)
              have y82 := at_cell hy8 2 _ rfl
              have z82 := at_free hy8 2
              have h7s := h7p.set 2 (.slice aw2 ws.length cw2)
              obtain ⟨v7, hv7⟩ : ∃ v, w7.setCell ⟨bx + 1, 2, none⟩ (.slice aw2 ws.length cw2) = v := ⟨_, rfl⟩
              rw [hv7] at h7s
              have h7s : FKN w ((bx + 1, Obj.cells #[.slice ap1 ps.length cp1, .slice af2 fs.length cf2, .slice aw2 ws.length cw2] 47 (0, 0)) :: (Rw2 ++ (Rf ++ (Rp ++ K2)))) v7 := h7s
              have hy9 := h7s.1.block (List.mem_cons_self ..)
              have y90 := at_cell hy9 0 _ rfl
              have y91 := at_cell hy9 1 _ rfl
              have y92 := at_cell hy9 2 _ rfl
              rw [← HK2.out] at h7s
              have hb9 := h7s.1.block (X := bo) (o := .cells #[.slice ar1 g.rs.length cr1, .slice an1 i cn1] 25 (0, 0)) (by simp)
              have b91 := at_cell hb9 1 _ rfl
              obtain ⟨an2, cn2, w8, Rn2, run8, hrn2, h8⟩ := Hrn.out.app1 (h7s.perm (K' := Rn ++ ((bx + 1, Obj.cells #[.slice ap1 ps.length cp1, .slice af2 fs.length cf2, .slice aw2 ws.length cw2] 47 (0, 0)) :: (Rw2 ++ (Rf ++ (Rp ++ ((bx, Obj.cells #[.slice ap ps.length cp, .slice af fs.length cf, .slice aw ws.length cw] 47 (0, 0)) :: (bo, Obj.cells #[.slice ar1 g.rs.length cr1, .slice an1 i cn1] 25 (0, 0)) :: (Rx ++ (Rr ++ (Rl ++ E0)))))))))  (permC fun x => by simp only [List.count_append, List.count_cons, List.append_assoc, List.cons_append]; ac_rfl)) hj3 hv0 hv1 hv2 rfl (by decide) Try.underlying23 #[.slice ap1 ps.length cp1, .slice af2 fs.length cf2, .slice aw2 ws.length cw2] rfl (by intro u hu; simp only [List.mem_cons, List.not_mem_nil, or_false] at hu; rcases hu with rfl | rfl | rfl <;> rfl) (by unfold maxLen; omega) (by omega)
              have hb10 := h8.1.block (X := bo) (o := .cells #[.slice ar1 g.rs.length cr1, .slice an1 i cn1] 25 (0, 0)) (by simp)
              have b101 := at_cell hb10 1 _ rfl
              have z101 := at_free hb10 1
              have hfin := ((h8.perm (K' := (bo, Obj.cells #[.slice ar1 g.rs.length cr1, .slice an1 i cn1] 25 (0, 0)) :: ((bx + 1, Obj.cells #[.slice ap1 ps.length cp1, .slice af2 fs.length cf2, .slice aw2 ws.length cw2] 47 (0, 0)) :: (bx, Obj.cells #[.slice ap ps.length cp, .slice af fs.length cf, .slice aw ws.length cw] 47 (0, 0)) :: (Rn2 ++ ((Rp ++ (Rf ++ (Rw2 ++ Rx))) ++ (Rr ++ (Rl ++ E0)))))) (permC fun x => by simp only [List.count_append, List.count_cons, List.append_assoc, List.cons_append]; ac_rfl)).set 1 (.slice an2 (i + 1) cn2)).perm (K' := (bx + 1, Obj.cells #[.slice ap1 ps.length cp1, .slice af2 fs.length cf2, .slice aw2 ws.length cw2] 47 (0, 0)) :: (bx, Obj.cells #[.slice ap ps.length cp, .slice af fs.length cf, .slice aw ws.length cw] 47 (0, 0)) :: (bo, Obj.cells #[.slice ar1 g.rs.length cr1, .slice an2 (i + 1) cn2] 25 (0, 0)) :: (Rn2 ++ ((Rp ++ (Rf ++ (Rw2 ++ Rx))) ++ (Rr ++ (Rl ++ E0))))) ((List.Perm.swap _ _ _).trans (List.Perm.cons _ (List.Perm.swap _ _ _)))
              have hsn := NsB.snoc (x := ⟨ps.map (posP (walkG g).al), fs, ws⟩) Hnx.out (by rw [List.length_map]; exact hrp) hrf hrw
              rw [← Htk.out] at hsn
              simp only [List.length_map] at hsn
              have HFIN := Lib.hid hfin.tail.tail
              have HSN := Lib.hid hsn
              have HRN2 := Lib.hid hrn2
              have R6 := Lib.hid run6
              have R7 := Lib.hid run7
              have R8 := Lib.hid run8
              clear hfin hsn hrn2 run6 run7 run8 hF hy5 hx5 h6 h6p hy6 h6s h7 hy7 hx7 h7p hy8 h7s hy9 hb9 h8 hb10 hrp hrf hrw ho how
              go_wp2_with (first
                | (at_builtin; refine wpList_append_run _ rfl (.tmp 65) (.tmp 67) 45 rfl _ _ _ _ rfl rfl R6.out ?_; clear R6)
                | (at_builtin; refine wpList_append_run _ rfl (.tmp 71) (.tmp 73) 45 rfl _ _ _ _ rfl rfl R7.out ?_; clear R7)
                | (at_builtin; refine wpList_append_run _ rfl (.tmp 77) (.tmp 79) 23 rfl _ _ _ _ rfl rfl R8.out ?_; clear R8))
              go_roundw
              case rel => exact ⟨i + 1, an2, cn2, _, Rn2, _, by go_num, by omega, HRN2.out, HSN.out, HFIN.out⟩
              case measure => simp [intOf]; omega
        · obtain rfl : i = (walkG g).al.length := by omega
          have j1 : ¬ ((walkG g).al.length : Int) < (walkG g).al.length := by omega
          have hbo := hF.1.block (List.mem_cons_self ..)
          have b0 := at_cell hbo 0 _ rfl
          have b1 := at_cell hbo 1 _ rfl
          rw [← HE0.out] at hF
          have hF := hF.perm (K' := (gb + 1, Obj.cells #[.slice none 0 0, .slice none 0 0] 25 (0, 0)) :: (((gb, Obj.cells #[.slice ar g.rs.length cr, .slice an g.ns.length cn] 25 (0, 0)) :: (bo, Obj.cells #[.slice ar1 g.rs.length cr1, .slice an1 (walkG g).al.length cn1] 25 (0, 0)) :: Rl) ++ (Rr ++ (Rn ++ Rx)))) (permC fun x => by simp only [List.count_append, List.count_cons, List.append_assoc, List.cons_append]; ac_rfl)
          have hrb := hF.1.block (List.mem_cons_self ..)
          have r0 := at_cell hrb 0 _ rfl
          have r1 := at_cell hrb 1 _ rfl
          have f0 := at_free hrb 0
          have f1 := at_free hrb 1
          have hset2 := (hF.set 0 (.slice ar1 g.rs.length cr1)).set 1 (.slice an1 (walkG g).al.length cn1)
          obtain ⟨w9, hw9⟩ : ∃ w9, (wr.setCell ⟨gb + 1, 0, none⟩ (.slice ar1 g.rs.length cr1)).setCell ⟨gb + 1, 1, none⟩ (.slice an1 (walkG g).al.length cn1) = w9 := ⟨_, rfl⟩
          rw [hw9] at hset2
          have HW9 := Lib.hid hw9
          have hq := hset2.1.block (List.mem_cons_self ..)
          have c0 := at_cell hq 0 (.slice ar1 g.rs.length cr1) rfl
          have c1 := at_cell hq 1 (.slice an1 (walkG g).al.length cn1) rfl
          have HFIN := Lib.hid (FKN.drop hset2.tail)
          have Hrn := Lib.hid hrn
          rw [List.take_length] at hnx
          have Hnx := Lib.hid hnx
          clear hF hrn hnx hbo hrb hset2 hw9 hq
          go_wp2_with (fail)
          rw [HW9.out]
          subst hgb
          refine bodyPost_ret (v := .agg #[.slice ar1 g.rs.length cr1, .slice an1 (walkG g).al.length cn1]) (by simp [results, Try.results25, go_sem, c0, c1]) rfl ⟨ar1, an1, cr1, cn1, rfl, Rr ++ (Rn ++ Rx), ⟨Rr, Rn, xs, Rx, ?_, ?_, Hnx.out, rfl⟩, HFIN.out⟩
          · show Rw w.heap.size _ 1 (g.rs.map _).length _ _ _ _
            rw [List.length_map]
            exact HRr.out
          · show Rw w.heap.size _ 3 ((walkG g).al.map _).length _ _ _ _
            rw [List.length_map]
            exact Hrn.out
end Go.Proofs.Ytplkogjnmjjjgaa
