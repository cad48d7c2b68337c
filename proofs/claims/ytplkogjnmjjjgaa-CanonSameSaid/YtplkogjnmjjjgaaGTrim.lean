/- The walk of graph.Trim. -/
import Derived.Test.YtplkogjnmjjjgaaGClone
namespace Go.Proofs.Ytplkogjnmjjjgaa
open Go.ChangeShapes Go.WideShapes Go.ChangeAt Go.RowKit Go.Maps
set_option linter.unusedVariables false
set_option linter.unusedSimpArgs false

theorem isI_row {w : World} {a : Option Addr} {rs : List Int} (h : IntRow .i64 w a rs) : ∀ z ∈ rs, IsI z := by
  intro z hz
  obtain ⟨j, hj, rfl⟩ := List.getElem_of_mem hz
  have h1 := h.each j hj
  rw [List.getD_eq_getElem?_getD, List.getElem?_eq_getElem hj] at h1
  have h2 := bounds_i64 h1
  unfold IsI
  simp only [Option.getD_some] at h2
  omega
/-- how much a graph has -/
structure FewG (g : Gr) : Prop where
  ns : g.ns.length ≤ 3000
  rs : g.rs.length ≤ 3000
  each : ∀ x ∈ g.ns, x.ps.length ≤ 3000 ∧ x.fs.length ≤ 3000 ∧ x.ws.length ≤ 3000
def trimN (g : Gr) (k : Int) : Nd := ⟨(psAt g.ns k).map (posP (walkG g).al), (g.ns.getD k.toNat default).fs, (g.ns.getD k.toNat default).ws⟩
theorem trimG_ns (g : Gr) : (trimG g).ns = (walkG g).al.map (trimN g) := rfl
theorem MOk.walkL {ns : List Nd} {N : Nat} (hN : ∀ k, ∀ q ∈ psAt ns k, inr N q = true) : ∀ (fuel i : Nat) {S : Mt}, MOk N S → MOk N (walkL ns fuel i S) := by
  intro fuel
  induction fuel with
  | zero => intro i S h; exact h
  | succ fuel ih =>
    intro i S h
    unfold Go.Proofs.Ytplkogjnmjjjgaa.walkL
    split
    · exact ih _ (h.meetL _ _ (hN _))
    · exact h
theorem walkG_ok {g : Gr} (h : mayG g = true) : MOk g.ns.length (walkG g) :=
  MOk.walkL (mayG_ps h) _ _ ((MOk.empty _).meetL _ _ (mayG_roots h))
theorem getD_mem {α : Type} {l : List α} {i : Nat} (d : α) (h : i < l.length) : l.getD i d ∈ l := by
  rw [List.getD_eq_getElem?_getD, List.getElem?_eq_getElem h]
  exact List.getElem_mem h
theorem take_succ_getD {α : Type} {l : List α} {k : Nat} (d : α) (h : k < l.length) : l.take (k + 1) = l.take k ++ [l.getD k d] := by
  rw [List.take_add_one, List.getElem?_eq_getElem h, List.getD_eq_getElem?_getD, List.getElem?_eq_getElem h]
  rfl
theorem cells_nx {W0 W : World} {K : List (Nat × Obj)} {bx bo : Nat} {a b c d e : Value} (h1 : (bx, Obj.cells #[a, b, c] 47 (0, 0)) ∈ K) (h2 : (bo, Obj.cells #[d, e] 25 (0, 0)) ∈ K) (hW : KB W0 K W) :
    W.cell? ⟨bx, 0, none⟩ = some a ∧ W.cell? ⟨bx, 1, none⟩ = some b ∧ W.cell? ⟨bx, 2, none⟩ = some c ∧ W.cell? ⟨bo, 1, none⟩ = some e :=
  ⟨at_cell (hW.block h1) 0 _ rfl, at_cell (hW.block h1) 1 _ rfl, at_cell (hW.block h1) 2 _ rfl, at_cell (hW.block h2) 1 _ rfl⟩
set_option maxRecDepth 100000 in
set_option maxHeartbeats 4000000 in
theorem trim_any {w : World} {ar an : Option Addr} {g : Gr} (cr cn : Nat) (hG : GRd w ar an g) (hfew : FewG g) (hmay : mayG g = true) :
    Calls Try.prog 13 #[.agg #[.slice ar g.rs.length cr, .slice an g.ns.length cn]] w fun e w' => ∃ ar' an' cr' cn', e = .returned (.tuple #[.agg #[.slice ar' g.rs.length cr', .slice an' (walkG g).al.length cn'], .int .i64 0]) ∧ ∃ B, OGr w.heap.size (trimG g) ar' an' cr' cn' B ∧ FKN w B w' := by
  have hOk := walkG_ok hmay
  have hal := hOk.len
  have HOk := Lib.hid hOk
  have Hfew := Lib.hid hfew
  have hrs := hfew.rs
  have hns := hfew.ns
  have HG := Lib.hid hG
  have hI0 := isI_row hG.roots
  have HI0 := Lib.hid hI0
  have h1 := (FKN.refl w).obj (.cells #[.slice ar g.rs.length cr, .slice an g.ns.length cn] 25)
  have h2 := h1.obj (.cells #[.slice none 0 0, .slice none 0 0] 25)
  simp only [heap_size_alloc] at h2
  have HC := Lib.hid (check_graph g ar an cr cn _ (hG.below h2.below))
  rw [hmay, if_pos rfl] at HC
  have H2 := Lib.hid h2
  have HW := Lib.hid (fun (W : World) (E : List (Nat × Obj)) (h : FKN w E W) => walk_any h cr cn hG hmay hns hrs)
  clear h1 h2 hfew hOk hI0 hG
  obtain ⟨gb, hgb⟩ : ∃ gb, w.heap.size = gb := ⟨_, rfl⟩
  simp only [hgb] at H2
  obtain ⟨E0, hE0⟩ : ∃ E0, [(gb + 1, Obj.cells #[.slice none 0 0, .slice none 0 0] 25 (0, 0)), (gb, Obj.cells #[.slice ar g.rs.length cr, .slice an g.ns.length cn] 25 (0, 0))] = E0 := ⟨_, rfl⟩
  rw [hE0] at H2
  have HE0 := Lib.hid hE0
  have Hgb := Lib.hid (show ∀ K W, (∀ x ∈ E0, x ∈ K) → FKN w K W → W.heap[gb]? = some (.cells #[.slice ar g.rs.length cr, .slice an g.ns.length cn] 25 (0, 0)) ∧ W.heap[gb + 1]? = some (.cells #[.slice none 0 0, .slice none 0 0] 25 (0, 0)) from fun K W hs hW => by
    subst hE0
    exact ⟨hW.1.block (hs _ (by simp)), hW.1.block (hs _ (by simp))⟩)
  clear hE0
  go_enter Try.func13, Try.ntmps13
  go_wp2_with (first
    | (go_at_call 18; refine HC.out.mono ?_; rintro e w2 ⟨rfl, hb2⟩; have H3 := Lib.hid (H2.out.grow hb2); have c2 := at_cell (Hgb.out _ _ (fun x hx => hx) H3.out).1 0 (.slice ar g.rs.length cr) rfl; have d2 := at_cell (Hgb.out _ _ (fun x hx => hx) H3.out).1 1 (.slice an g.ns.length cn) rfl; clear hb2)
    | (go_at_call 37; refine (HW.out _ _ H3.out).mono ?_; rintro e w3 ⟨p, mb, rfl, hM⟩; obtain ⟨MB, ⟨o, a0, a2, a3, x0, x2, x3, R0, R2, R3, hI, r0, -, -, hMB⟩, hF⟩ := hM.out; have hpm : (p, Obj.cells (metC a0 a2 a3 (walkG g).al.length (walkG g).fr.length (walkG g).st.length x0 x2 x3 mb) 73 (0, 0)) ∈ MB := (by rw [hMB]; exact List.mem_cons_self ..); have hmm : (mb, o) ∈ MB := (by rw [hMB]; exact List.mem_cons_of_mem _ (List.mem_cons_self ..)); have hRm : ∀ x ∈ R0, x ∈ MB := (by rw [hMB]; exact fun x hx => List.mem_cons_of_mem _ (List.mem_cons_of_mem _ (List.mem_append_left _ hx))); have c3 := at_cell (Hgb.out _ _ (fun x hx => List.mem_append_right _ hx) hF).1 0 (.slice ar g.rs.length cr) rfl; have HN := Lib.hid (numbers_any hF (List.mem_append_left _ hpm) rfl (List.mem_append_left _ hmm) hI cr HG.out.roots (by omega) HI0.out); have HF := Lib.hid hF; have HI := Lib.hid hI; have Hr0 := Lib.hid r0; have Hpm := Lib.hid hpm; have Hmm := Lib.hid hmm; have HRm := Lib.hid hRm; clear hM hF hI r0 hpm hmm hRm hMB)
    | (go_at_call 38; refine HN.out.mono ?_; rintro e w4 ⟨al, cap, rfl, Rr, hr, hF4⟩; have hm4 := cellB (below_new w4 (.cells #[.slice al g.rs.length cap, .slice none 0 0] 25)) (Nat.le_refl _) (at_cell (hF4.1.block (List.mem_append_right _ (List.mem_append_left _ Hpm.out))) 0 (.slice a0 (walkG g).al.length x0) rfl); have HRr := Lib.hid hr; have H5 := Lib.hid (hF4.box #[.slice al g.rs.length cap, .slice none 0 0] 25); clear hr hF4 HN HF))
  obtain ⟨bo, hbo⟩ : ∃ bo, w4.heap.size = bo := ⟨_, rfl⟩
  simp only [hbo] at H5 ⊢
  generalize w4.alloc (.cells #[.slice al g.rs.length cap, .slice none 0 0] 25) = w5 at *
  clear hm4 c3 c2 d2 HC HW H2 H3 hbo
  go_loopw [28] (fun iv wr => ∃ (k : Nat) (an' : Option Addr) (cn' : Nat) (xs : List Value) (Rn Rx : List (Nat × Obj)), iv = .int .i64 k ∧ k ≤ (walkG g).al.length ∧ Rw w.heap.size 47 3 k xs an' cn' Rn ∧ NsB w.heap.size (((walkG g).al.take k).map (trimN g)) xs Rx ∧ FKN w ((bo, .cells #[.slice al g.rs.length cap, .slice an' k cn'] 25 (0, 0)) :: (Rn ++ (Rx ++ (Rr ++ (MB ++ E0))))) wr) (fun iv _ => (walkG g).al.length - (intOf iv).toNat)
  case atStart => exact ⟨0, none, 0, [], [], [], rfl, by omega, Rw.nil _ _ _, NsB.nil, H5.out⟩
  case round =>
    clear H5
    obtain ⟨k, an', cn', xs, Rn, Rx, rfl, hk, hrn, hnx, hF⟩ := hrel
    by_cases hlt : k < (walkG g).al.length
    · obtain ⟨b0, rfl, hz0⟩ := Hr0.out.at_ hF.1 (fun x hx => List.mem_cons_of_mem _ (List.mem_append_right _ (List.mem_append_right _ (List.mem_append_right _ (List.mem_append_left _ (HRm.out x hx)))))) (icI_get _ k hlt)
      have hzz := HOk.out.lt ((walkG g).al.getD k 0) (getD_mem 0 hlt)
      have htk : ((walkG g).al.take (k + 1)).map (trimN g) = ((walkG g).al.take k).map (trimN g) ++ [trimN g ((walkG g).al.getD k 0)] := by rw [take_succ_getD 0 hlt, List.map_append]; rfl
      generalize (walkG g).al.getD k 0 = z at *
      obtain ⟨q, rfl⟩ : ∃ q : Nat, z = q := ⟨z.toNat, by omega⟩
      obtain ⟨bn, on, ha, hc⟩ := HG.out.nodes.cell
      obtain rfl : an = some ⟨bn, on, none⟩ := by
        rcases ha with e | e
        · have e2 : g.ns.length = 0 := by rw [e]; rfl
          omega
        · exact e
      obtain ⟨⟨ap, cp, n0, hp⟩, ⟨af, cf, n1, hf⟩, ⟨aw, cw, n2, hw⟩⟩ := hc q (by omega)
      have m0 := cellB hF.below (Nat.le_refl _) n0
      have m1 := cellB hF.below (Nat.le_refl _) n1
      have m2 := cellB hF.below (Nat.le_refl _) n2
      have hin := Hfew.out.each _ (getD_mem default (show q < g.ns.length by omega))
      have htn : trimN g (q : Int) = ⟨(g.ns.getD q default).ps.map (posP (walkG g).al), (g.ns.getD q default).fs, (g.ns.getD q default).ws⟩ := by unfold trimN psAt; rw [Int.toNat_natCast]
      rw [htn] at htk
      generalize g.ns.getD q default = x at *
      obtain ⟨ps, fs, ws⟩ := x
      simp only at m0 m1 m2 hp hf hw hin htk
      obtain ⟨e0, -⟩ := Hgb.out _ _ (fun x hx => List.mem_cons_of_mem _ (List.mem_append_right _ (List.mem_append_right _ (List.mem_append_right _ (List.mem_append_right _ hx))))) hF
      have e1 := at_cell e0 1 (.slice (some ⟨bn, on, none⟩) g.ns.length cn) rfl
      have hX := hF.box #[.slice ap ps.length cp, .slice af fs.length cf, .slice aw ws.length cw] 47
      have HX := Lib.hid (hX.grow (below_drew _))
      have Hrn := Lib.hid hrn
      have Hnx := Lib.hid hnx
      have Hp := Lib.hid hp
      have Hf := Lib.hid hf
      have Hw := Lib.hid hw
      have Htk := Lib.hid htk
      have k1 : (k : Int) < (walkG g).al.length := by omega
      have k2 : (0 : Int) ≤ k := by omega
      have k3 : ((k : Int)).toNat = k := by omega
      have q1 : (q : Int) < g.ns.length := by omega
      have q2 : (0 : Int) ≤ q := by omega
      have q3 : ((q : Int)).toNat = q := by omega
      clear hX hF hrn hnx hp hf hw htk htn hc ha n0 n1 n2 e0 hzz
      go_wp2_with (fail)
      obtain ⟨bx, hbx⟩ : ∃ bx, wr.heap.size = bx := ⟨_, rfl⟩
      simp only [hbx] at HX ⊢
      generalize wr.alloc (.cells #[.slice ap ps.length cp, .slice af fs.length cf, .slice aw ws.length cw] 47) = w6 at *
      clear m0 m1 m2 e1 hz0 hbx
      obtain ⟨j1, hj, hy0, hy1, hy2⟩ := info_parts node_info
      refine wp_region_heldL (S := fun W => W.cell? ⟨bx, 0, none⟩ = some (.slice ap ps.length cp) ∧ W.cell? ⟨bx, 1, none⟩ = some (.slice af fs.length cf) ∧ W.cell? ⟨bx, 2, none⟩ = some (.slice aw ws.length cw) ∧ W.cell? ⟨bo, 1, none⟩ = some (.slice an' k cn')) (by kernel_rfl) (cells_nx (d := .slice al g.rs.length cap) (by simp) (by simp) HX.out.1) (fun hHeld => ?_)
      refine wpAnyL_take (i := 0) (v := ?_) rfl (by kernel_rfl) (by kernel_rfl) (by kernel_rfl) (by kernel_rfl) (fun _ _ _ h => h) (Or.inl ⟨by kernel_rfl, ?_⟩) (by assumption) ?_
      rotate_left
      · (intro w hSw; (try dsimp only at hSw); go_simp; try with_reducible rfl)
      simp only [Act.put, List.setIfInBounds_toArray, List.set_cons_zero, List.set_cons_succ]
      refine wpAnyL_take (i := 1) (v := ?_) rfl (by kernel_rfl) (by kernel_rfl) (by kernel_rfl) (by kernel_rfl) (fun _ _ _ h => h) (Or.inl ⟨by kernel_rfl, ?_⟩) (by assumption) ?_
      rotate_left
      · (intro w hSw; (try dsimp only at hSw); go_simp; try with_reducible rfl)
      simp only [Act.put, List.setIfInBounds_toArray, List.set_cons_zero, List.set_cons_succ]
      refine wpAnyL_take (i := 2) (v := ?_) rfl (by kernel_rfl) (by kernel_rfl) (by kernel_rfl) (by kernel_rfl) (fun _ _ _ h => h) (Or.inl ⟨by kernel_rfl, ?_⟩) (by assumption) ?_
      rotate_left
      · (intro w hSw; (try dsimp only at hSw); go_simp; try with_reducible rfl)
      simp only [Act.put, List.setIfInBounds_toArray, List.set_cons_zero, List.set_cons_succ]
      refine wpAnyL_take (i := 3) (v := ?_) rfl (by kernel_rfl) (by kernel_rfl) (by kernel_rfl) (by kernel_rfl) (fun _ _ _ h => h) (Or.inl ⟨by kernel_rfl, ?_⟩) (by assumption) ?_
      rotate_left
      · (intro w hSw; (try dsimp only at hSw); go_simp; try with_reducible rfl)
      simp only [Act.put, List.setIfInBounds_toArray, List.set_cons_zero, List.set_cons_succ]
      refine wpAnyL_take (i := 4) (v := ?_) rfl (by kernel_rfl) (by kernel_rfl) (by kernel_rfl) (by kernel_rfl) (fun _ _ _ h => h) (Or.inl ⟨by kernel_rfl, ?_⟩) (by assumption) ?_
      rotate_left
      · (intro w hSw; (try dsimp only at hSw); go_simp; try with_reducible rfl)
      simp only [Act.put, List.setIfInBounds_toArray, List.set_cons_zero, List.set_cons_succ]
      refine wpAnyL_take (i := 6) (v := ?_) rfl (by kernel_rfl) (by kernel_rfl) (by kernel_rfl) (by kernel_rfl) (fun _ _ _ h => h) (Or.inl ⟨by kernel_rfl, ?_⟩) (by assumption) ?_
      rotate_left
      · (intro w hSw; (try dsimp only at hSw); go_simp; try with_reducible rfl)
      simp only [Act.put, List.setIfInBounds_toArray, List.set_cons_zero, List.set_cons_succ]
      refine wpAnyL_take (i := 7) (v := ?_) rfl (by kernel_rfl) (by kernel_rfl) (by kernel_rfl) (by kernel_rfl) (fun _ _ _ h => h) (Or.inl ⟨by kernel_rfl, ?_⟩) (by assumption) ?_
      rotate_left
      · (intro w hSw; (try dsimp only at hSw); go_simp; try with_reducible rfl)
      simp only [Act.put, List.setIfInBounds_toArray, List.set_cons_zero, List.set_cons_succ]
      refine wpAnyL_take (i := 9) (v := ?_) rfl (by kernel_rfl) (by kernel_rfl) (by kernel_rfl) (by kernel_rfl) (fun _ _ _ h => h) (Or.inl ⟨by kernel_rfl, ?_⟩) (by assumption) ?_
      rotate_left
      · (intro w hSw; (try dsimp only at hSw); go_simp; try with_reducible rfl)
      simp only [Act.put, List.setIfInBounds_toArray, List.set_cons_zero, List.set_cons_succ]
      refine wpAnyL_take (i := 10) (v := ?_) rfl (by kernel_rfl) (by kernel_rfl) (by kernel_rfl) (by kernel_rfl) (fun _ _ _ h => h) (Or.inl ⟨by kernel_rfl, ?_⟩) (by assumption) ?_
      rotate_left
      · (intro w hSw; (try dsimp only at hSw); go_simp; try with_reducible rfl)
      simp only [Act.put, List.setIfInBounds_toArray, List.set_cons_zero, List.set_cons_succ]
      refine wpAnyL_one (i := 5) (by decide +kernel) rfl (fun K hK => ?_)
      go_simp
      go_at_call 38
      refine (numbers_any HX.out (List.mem_cons_of_mem _ (List.mem_cons_of_mem _ (List.mem_append_right _ (List.mem_append_right _ (List.mem_append_right _ (List.mem_append_left _ Hpm.out)))))) rfl (List.mem_cons_of_mem _ (List.mem_cons_of_mem _ (List.mem_append_right _ (List.mem_append_right _ (List.mem_append_right _ (List.mem_append_left _ Hmm.out)))))) HI.out cp Hp.out (by omega) (isI_row Hp.out)).mono ?_
      rintro e w7 ⟨a7, c7, rfl, R7, hr7, h7⟩
      have H7 := Lib.hid h7
      have Hr7 := Lib.hid hr7
      clear h7 hr7 HX
      refine hK.out _ _ (cells_nx (d := .slice al g.rs.length cap) (by simp) (by simp) H7.out.1) (fun hHeld => ?_)
      clear hK K
      try simp only [Act.put, List.setIfInBounds_toArray, List.set_cons_zero, List.set_cons_succ]
      refine wpAnyL_one (i := 8) (by decide +kernel) rfl (fun K hK => ?_)
      go_simp
      go_at_call 39
      refine (clone_u64 H7.out cf Hf.out (by omega)).mono ?_
      rintro e w8 ⟨a8, c8, rfl, R8, hr8, h8⟩
      have H8 := Lib.hid h8
      have Hr8 := Lib.hid hr8
      clear h8 hr8 H7
      refine hK.out _ _ (cells_nx (d := .slice al g.rs.length cap) (by simp) (by simp) H8.out.1) (fun hHeld => ?_)
      clear hK K
      try simp only [Act.put, List.setIfInBounds_toArray, List.set_cons_zero, List.set_cons_succ]
      refine wpAnyL_one (i := 11) (by decide +kernel) rfl (fun K hK => ?_)
      go_simp
      go_at_call 39
      refine (clone_u64 H8.out cw Hw.out (by omega)).mono ?_
      rintro e w9 ⟨a9, c9, rfl, R9, hr9, h9⟩
      have H9 := Lib.hid h9
      have Hr9 := Lib.hid hr9
      clear h9 hr9 H8
      refine hK.out _ _ (cells_nx (d := .slice al g.rs.length cap) (by simp) (by simp) H9.out.1) (fun hHeld => ?_)
      clear hK K
      try simp only [Act.put, List.setIfInBounds_toArray, List.set_cons_zero, List.set_cons_succ]
      refine wpAnyL_take (i := 12) (v := ?_) rfl (by kernel_rfl) (by kernel_rfl) (by kernel_rfl) (by kernel_rfl) (fun _ _ _ h => h) (Or.inl ⟨by kernel_rfl, ?_⟩) (by assumption) ?_
      rotate_left
      · (intro w hSw; (try dsimp only at hSw); go_simp; try with_reducible rfl)
      simp only [Act.put, List.setIfInBounds_toArray, List.set_cons_zero, List.set_cons_succ]
      obtain ⟨an2, cn2, w10, Rn2, hrun, hrn2, h10⟩ := Hrn.out.app1 (H9.out.perm (K' := Rn ++ (R9 ++ (R8 ++ (R7 ++ ((bx, Obj.cells #[.slice ap ps.length cp, .slice af fs.length cf, .slice aw ws.length cw] 47 (0, 0)) :: (bo, Obj.cells #[.slice al g.rs.length cap, .slice an' k cn'] 25 (0, 0)) :: (Rx ++ (Rr ++ (MB ++ E0)))))))) (permC fun x => by simp only [List.count_append, List.count_cons, List.append_assoc, List.cons_append]; ac_rfl)) hj hy0 hy1 hy2 rfl (by decide) Try.underlying23 #[.slice a7 ps.length c7, .slice a8 fs.length c8, .slice a9 ws.length c9] rfl (by intro u hu; simp only [List.mem_cons, List.not_mem_nil, or_false] at hu; rcases hu with rfl | rfl | rfl <;> rfl) (by unfold maxLen; omega) (by omega)
      have HRUN := Lib.hid hrun
      have Hrn2 := Lib.hid hrn2
      have hbo := h10.1.block (X := bo) (o := .cells #[.slice al g.rs.length cap, .slice an' k cn'] 25 (0, 0)) (by simp)
      have b1 := at_cell hbo 1 (.slice an' k cn') rfl
      have f1 := at_free hbo 1
      have H10 := Lib.hid h10
      have hB9 := H9.out.box #[.slice a7 ps.length c7, .slice a8 fs.length c8, .slice a9 ws.length c9] 47
      have HB9 := Lib.hid hB9
      clear hrun hrn2 h10 hB9 hbo
      refine wpAnyL_one (i := 13) (by decide +kernel) rfl (fun K hK => ?_)
      go_simp
      refine hK.out _ _ (cells_nx (d := .slice al g.rs.length cap) (by simp) (by simp) HB9.out.1) (fun hHeld => ?_)
      clear hK K
      try simp only [Act.put, List.setIfInBounds_toArray, List.set_cons_zero, List.set_cons_succ]
      refine wpAnyL_one (i := 14) (by decide +kernel) rfl (fun K hK => ?_)
      refine step_append_run _ (by rfl) (.tmp 38) (.tmp 50) 23 23 _ (by rfl) (by rfl) _ _ (by rfl) (by rfl) _ w10 HRUN.out ?_
      refine hK.out _ _ (cells_nx (d := .slice al g.rs.length cap) (by simp) (by simp) H10.out.1) (fun hHeld => ?_)
      clear hK K
      try simp only [Act.put, List.setIfInBounds_toArray, List.set_cons_zero, List.set_cons_succ]
      refine wpAnyL_take (i := 15) (v := ?_) rfl (by kernel_rfl) (by kernel_rfl) (by kernel_rfl) (by kernel_rfl) (fun _ _ _ h => h) (Or.inl ⟨by kernel_rfl, ?_⟩) (by assumption) ?_
      rotate_left
      · (intro w hSw; (try dsimp only at hSw); go_simp; try with_reducible rfl)
      simp only [Act.put, List.setIfInBounds_toArray, List.set_cons_zero, List.set_cons_succ]
      refine wpAnyL_last (i := 16) (by kernel_rfl) rfl (by kernel_rfl) (by kernel_rfl) (fun K hK => ?_)
      go_simp
      refine hK.out _ _ ?_
      clear hK K
      try simp only [Act.put, List.setIfInBounds_toArray, List.set_cons_zero, List.set_cons_succ]
      have hfin := ((H10.out.perm (K' := (bo, Obj.cells #[.slice al g.rs.length cap, .slice an' k cn'] 25 (0, 0)) :: (bx, Obj.cells #[.slice ap ps.length cp, .slice af fs.length cf, .slice aw ws.length cw] 47 (0, 0)) :: (Rn2 ++ ((R7 ++ (R8 ++ (R9 ++ Rx))) ++ (Rr ++ (MB ++ E0))))) (permC fun x => by simp only [List.count_append, List.count_cons, List.append_assoc, List.cons_append]; ac_rfl)).set 1 (.slice an2 (k + 1) cn2)).perm (K' := (bx, Obj.cells #[.slice ap ps.length cp, .slice af fs.length cf, .slice aw ws.length cw] 47 (0, 0)) :: (bo, Obj.cells #[.slice al g.rs.length cap, .slice an2 (k + 1) cn2] 25 (0, 0)) :: (Rn2 ++ ((R7 ++ (R8 ++ (R9 ++ Rx))) ++ (Rr ++ (MB ++ E0))))) (List.Perm.swap _ _ _)
      have hsn := NsB.snoc (x := ⟨ps.map (posP (walkG g).al), fs, ws⟩) Hnx.out (by rw [List.length_map]; exact Hr7.out) Hr8.out Hr9.out
      rw [← Htk.out] at hsn
      simp only [List.length_map] at hsn
      have HFIN := Lib.hid hfin.tail
      have HSN := Lib.hid hsn
      clear hfin hsn H10 H9 b1 f1 hHeld
      go_wp2_with (fail)
      go_roundw
      case rel => exact ⟨k + 1, an2, cn2, _, Rn2, _, by go_num, by omega, Hrn2.out, HSN.out, HFIN.out⟩
      case measure => simp [intOf]; omega
    · obtain rfl : k = (walkG g).al.length := by omega
      have k1 : ¬ ((walkG g).al.length : Int) < (walkG g).al.length := by omega
      have hbo := hF.1.block (X := bo) (o := .cells #[.slice al g.rs.length cap, .slice an' (walkG g).al.length cn'] 25 (0, 0)) (List.mem_cons_self ..)
      have b0 := at_cell hbo 0 _ rfl
      have b1 := at_cell hbo 1 _ rfl
      have hrb := (Hgb.out _ _ (fun x hx => List.mem_cons_of_mem _ (List.mem_append_right _ (List.mem_append_right _ (List.mem_append_right _ (List.mem_append_right _ hx))))) hF).2
      have r0 := at_cell hrb 0 _ rfl
      have r1 := at_cell hrb 1 _ rfl
      have f0 := at_free hrb 0
      have f1 := at_free hrb 1
      have HF := Lib.hid hF
      have Hrn := Lib.hid hrn
      have Hnx := Lib.hid hnx
      clear hF hrn hnx hbo hrb
      go_wp2_with (fail)
      have hset := (HF.out.perm (K' := E0 ++ (Rr ++ (Rn ++ (Rx ++ ((bo, Obj.cells #[.slice al g.rs.length cap, .slice an' (walkG g).al.length cn'] 25 (0, 0)) :: MB))))) (permC fun x => by simp only [List.count_append, List.count_cons, List.append_assoc, List.cons_append]; ac_rfl))
      rw [← HE0.out] at hset
      simp only [List.cons_append, List.nil_append] at hset
      have hset2 := (hset.set 0 (.slice al g.rs.length cap)).set 1 (.slice an' (walkG g).al.length cn')
      obtain ⟨w9, hw9⟩ : ∃ w9, (wr.setCell ⟨gb + 1, 0, none⟩ (.slice al g.rs.length cap)).setCell ⟨gb + 1, 1, none⟩ (.slice an' (walkG g).al.length cn') = w9 := ⟨_, rfl⟩
      rw [hw9] at hset2 ⊢
      have hq := hset2.1.block (List.mem_cons_self ..)
      have c0 := at_cell hq 0 (.slice al g.rs.length cap) rfl
      have c1 := at_cell hq 1 (.slice an' (walkG g).al.length cn') rfl
      have hfin := FKN.drop (K' := (bo, Obj.cells #[.slice al g.rs.length cap, .slice an' (walkG g).al.length cn'] 25 (0, 0)) :: MB) (hset2.tail.tail.perm (K' := ((bo, Obj.cells #[.slice al g.rs.length cap, .slice an' (walkG g).al.length cn'] 25 (0, 0)) :: MB) ++ (Rr ++ (Rn ++ Rx))) (permC fun x => by simp only [List.count_append, List.count_cons, List.append_assoc, List.cons_append]; ac_rfl))
      have Hnx2 := Hnx.out
      rw [List.take_length] at Hnx2
      subst hgb
      refine bodyPost_ret (v := .tuple #[.agg #[.slice al g.rs.length cap, .slice an' (walkG g).al.length cn'], .int .i64 0]) (by simp [results, Try.results13, go_sem, c0, c1]) rfl ⟨al, an', cap, cn', rfl, Rr ++ (Rn ++ Rx), ⟨Rr, Rn, xs, Rx, ?_, ?_, Hnx2, rfl⟩, hfin⟩
      · show Rw w.heap.size _ 1 (g.rs.map _).length _ _ _ _
        rw [List.length_map]
        exact HRr.out
      · show Rw w.heap.size _ 3 ((walkG g).al.map _).length _ _ _ _
        rw [List.length_map]
        exact Hrn.out
end Go.Proofs.Ytplkogjnmjjjgaa
