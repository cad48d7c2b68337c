/- The walk of turned: a graph of which two nodes have each other's numbers. Printed by wip/tools/genturn.py. -/
import Derived.Test.YtplkogjnmjjjgaaGTurn1
namespace Go.Proofs.Ytplkogjnmjjjgaa
open Go.ChangeShapes Go.WideShapes Go.ChangeAt Go.RowKit Go.Maps
set_option linter.unusedVariables false
set_option linter.unusedSimpArgs false

def trnN (i k : Int) (g : Gr) (n : Nat) : Nd := ⟨(g.ns.getD (swI i k n).toNat default).ps.map (swI i k), (g.ns.getD (swI i k n).toNat default).fs, (g.ns.getD (swI i k n).toNat default).ws⟩
def turnG (i k : Int) (g : Gr) : Gr := ⟨g.rs.map (swI i k), (List.range g.ns.length).map (trnN i k g)⟩
theorem introw_one {k : IntKind} {w : World} {b : Nat} {x : Int} {t : TypeId} (h : w.heap[b]? = some (.cells #[.int k x] t (0, 0))) (h1 : (Lit.int k x).wf = true) : IntRow k w (some ⟨b, 0, none⟩) [x] := by
  refine ⟨by simp [maxLen], fun i hi => ?_, b, 0, .inr rfl, fun i hi => ?_⟩
  · match i, hi with
    | 0, _ => exact h1
  · rw [Nat.zero_add]
    match i, hi with
    | 0, _ => exact at_cell h 0 _ rfl
theorem swI_lt {i k : Int} {N n : Nat} (hi : 0 ≤ i ∧ i < N) (hk : 0 ≤ k ∧ k < N) (hn : n < N) : ∃ q : Nat, swI i k n = q ∧ q < N := by
  unfold swI
  split
  · exact ⟨k.toNat, by omega, by omega⟩
  · split
    · exact ⟨i.toNat, by omega, by omega⟩
    · exact ⟨n, rfl, hn⟩
theorem range_take_succ (f : Nat → Nd) {t N : Nat} (h : t < N) : (List.range (t + 1)).map f = (List.range t).map f ++ [f t] := by
  rw [List.range_succ, List.map_append]
  rfl
set_option maxRecDepth 100000 in
set_option maxHeartbeats 1600000 in
theorem turned_any {W0 w : World} {ar an : Option Addr} {g : Gr} (cr cn : Nat) (i k : Int) (hG : GRd W0 ar an g) (hb0 : Below W0.heap.size W0 w) (hfew : FewG g) (hi : 0 ≤ i ∧ i < g.ns.length) (hk : 0 ≤ k ∧ k < g.ns.length) :
    Calls Try.prog 27 #[.agg #[.slice ar g.rs.length cr, .slice an g.ns.length cn], .int .i64 i, .int .i64 k] w fun e w' => ∃ ar' an' cr' cn', e = .returned (.agg #[.slice ar' g.rs.length cr', .slice an' g.ns.length cn']) ∧ ∃ B, TGr W0 (turnG i k g) ar' an' cr' cn' B ∧ FKN w B w' := by
  obtain ⟨i3, hj3, hv0, hv1, hv2⟩ := info_parts node_info
  have l1 : (g.rs.length : Int) ≤ 1500 := by have := hfew.rs; omega
  have hN := hfew.ns
  have l2 : (g.ns.length : Int) ≤ 100 := by omega
  have hrs := hfew.rs
  have Hfew := Lib.hid hfew
  have HG := Lib.hid hG
  have HB0 := Lib.hid (fun W (h : Below w.heap.size w W) => hb0.trans (h.mono hb0.size))
  have HS0 := Lib.hid hb0.size
  have Hik := Lib.hid (And.intro hi hk)
  have h1 := (FKN.refl w).box #[.slice ar g.rs.length cr, .slice an g.ns.length cn] 25
  have h2 := h1.box #[.int .i64 i] 3
  have h3 := h2.box #[.int .i64 k] 3
  have h4 := h3.box #[.slice none 0 0, .slice none 0 0] 25
  simp only [heap_size_alloc] at h4
  obtain ⟨gb, hgb⟩ : ∃ gb, w.heap.size = gb := ⟨_, rfl⟩
  simp only [hgb] at h4
  obtain ⟨w1, hw1⟩ : ∃ w1, (((w.alloc (.cells #[.slice ar g.rs.length cr, .slice an g.ns.length cn] 25)).alloc (.cells #[.int .i64 i] 3)).alloc (.cells #[.int .i64 k] 3)).alloc (.cells #[.slice none 0 0, .slice none 0 0] 25) = w1 := ⟨_, rfl⟩
  rw [hw1] at h4
  have HW1 := Lib.hid hw1
  have H4 := Lib.hid h4
  obtain ⟨E0, hE0⟩ : ∃ E0, [(gb + 1 + 1 + 1, Obj.cells #[.slice none 0 0, .slice none 0 0] 25 (0, 0)), (gb + 1 + 1, Obj.cells #[.int .i64 k] 3 (0, 0)), (gb + 1, Obj.cells #[.int .i64 i] 3 (0, 0)), (gb, Obj.cells #[.slice ar g.rs.length cr, .slice an g.ns.length cn] 25 (0, 0))] = E0 := ⟨_, rfl⟩
  rw [hE0] at H4
  have HE0 := Lib.hid hE0
  have Hgm := Lib.hid (show (gb, Obj.cells #[.slice ar g.rs.length cr, .slice an g.ns.length cn] 25 (0, 0)) ∈ E0 from by rw [← hE0]; simp)
  have HCE := Lib.hid (show ∀ K W, (∀ x ∈ E0, x ∈ K) → KB w K W → W.cell? ⟨gb + 1, 0, none⟩ = some (.int .i64 i) ∧ W.cell? ⟨gb + 1 + 1, 0, none⟩ = some (.int .i64 k) from fun K W hs hW => by
    subst hE0
    exact ⟨at_cell (hW.block (hs (gb + 1, Obj.cells #[.int .i64 i] 3 (0, 0)) (by simp))) 0 _ rfl, at_cell (hW.block (hs (gb + 1 + 1, Obj.cells #[.int .i64 k] 3 (0, 0)) (by simp))) 0 _ rfl⟩)
  clear h1 h2 h3 h4 hfew hG hb0 hE0 hi hk
  have c0 := at_cell (H4.out.1.block Hgm.out) 0 _ rfl
  have c1 := at_cell (H4.out.1.block Hgm.out) 1 _ rfl
  obtain ⟨ci, ck⟩ := HCE.out _ _ (fun x hx => hx) H4.out.1
  have HSW := Lib.hid (swap_any ci ck cr (HG.out.roots.below (HB0.out _ H4.out.below)) (by omega))
  rw [← hw1] at c0 c1
  clear hw1 ci ck
  go_enter Try.func27, Try.ntmps27
  go_wp2_with (go_at_call 57; rw [HW1.out]; refine HSW.out.mono ?_; rintro e w2 ⟨a1, d1, rfl, Rr, hr, hF⟩; have hs12 := H4.out.below.size; have HRr := Lib.hid (hr.mono hs12); have H5 := Lib.hid ((H4.out.join hF).box #[.slice a1 g.rs.length d1, .slice none 0 0] 25); have c5 := cellB (below_new w2 (.cells #[.slice a1 g.rs.length d1, .slice none 0 0] 25)) (Nat.le_refl _) (at_cell ((H4.out.join hF).1.block (List.mem_append_right _ Hgm.out)) 1 _ rfl); clear hF hr)
  obtain ⟨bo, hbo⟩ : ∃ bo, w2.heap.size = bo := ⟨_, rfl⟩
  simp only [hbo] at H5 ⊢
  generalize w2.alloc (.cells #[.slice a1 g.rs.length d1, .slice none 0 0] 25) = w3 at *
  clear c0 c1 c5 HSW H4 HW1 hbo
  go_loopw [20] (fun iv wr => ∃ (t : Nat) (an1 : Option Addr) (cn1 : Nat) (xs : List Value) (Rn Rx : List (Nat × Obj)), iv = .int .i64 t ∧ t ≤ g.ns.length ∧ Rw w.heap.size 47 3 t xs an1 cn1 Rn ∧ NsT W0 ((List.range t).map (trnN i k g)) xs Rx ∧ FKN w ((bo, .cells #[.slice a1 g.rs.length d1, .slice an1 t cn1] 25 (0, 0)) :: (Rn ++ (Rx ++ (Rr ++ E0)))) wr) (fun iv _ => g.ns.length - (intOf iv).toNat)
  case atStart => exact ⟨0, none, 0, [], [], [], rfl, by omega, Rw.nil _ _ _, NsT.nil, H5.out⟩
  case round =>
    clear H5
    obtain ⟨t, an1, cn1, xs, Rn, Rx, rfl, ht, hrn, hnx, hF⟩ := hrel
    have hEL : ∀ x ∈ E0, x ∈ (bo, Obj.cells #[.slice a1 g.rs.length d1, .slice an1 t cn1] 25 (0, 0)) :: (Rn ++ (Rx ++ (Rr ++ E0))) := fun x hx => List.mem_cons_of_mem _ (List.mem_append_right _ (List.mem_append_right _ (List.mem_append_right _ hx)))
    by_cases hlt : t < g.ns.length
    · obtain ⟨q, hq, hqN⟩ := swI_lt Hik.out.1 Hik.out.2 hlt
      have htn := range_take_succ (trnN i k g) hlt
      have hx1 : trnN i k g t = ⟨(g.ns.getD q default).ps.map (swI i k), (g.ns.getD q default).fs, (g.ns.getD q default).ws⟩ := by unfold trnN; rw [hq, Int.toNat_natCast]
      rw [hx1] at htn
      obtain ⟨bn, on, ap, af, aw, cp, cf, cw, rfl, hx0, n0, n1, n2⟩ := HG.out.nodes.at_ hqN
      have hin := Hfew.out.each _ (getD_mem default hqN)
      generalize g.ns.getD q default = xx at *
      obtain ⟨ps, fs, ws⟩ := xx
      simp only at n0 n1 n2 hin hx0 htn
      obtain ⟨L0, hL0⟩ : ∃ L0, (bo, Obj.cells #[.slice a1 g.rs.length d1, .slice an1 t cn1] 25 (0, 0)) :: (Rn ++ (Rx ++ (Rr ++ E0))) = L0 := ⟨_, rfl⟩
      rw [hL0] at hF hEL
      have hS : ∀ K W, (∀ x ∈ L0, x ∈ K) → KB w K W → W.cell? ⟨gb, 1, none⟩ = some (.slice (some ⟨bn, on, none⟩) g.ns.length cn) ∧ W.cell? ⟨bn, on + q * 3, none⟩ = some (.slice ap ps.length cp) ∧ W.cell? ⟨bn, on + q * 3 + 1, none⟩ = some (.slice af fs.length cf) ∧ W.cell? ⟨bn, on + q * 3 + 2, none⟩ = some (.slice aw ws.length cw) := fun K W hs hW =>
        ⟨at_cell (hW.block (hs _ (hEL _ Hgm.out))) 1 _ rfl, cellB (HB0.out _ hW.below) (Nat.le_refl _) n0, cellB (HB0.out _ hW.below) (Nat.le_refl _) n1, cellB (HB0.out _ hW.below) (Nat.le_refl _) n2⟩
      have HS := Lib.hid hS
      have HC := Lib.hid (fun K W (hs : ∀ x ∈ L0, x ∈ K) (hW : KB w K W) => HCE.out K W (fun x hx => hs x (hEL x hx)) hW)
      have H := Lib.hid (hF.grow (below_drew wr))
      have Hrn := Lib.hid hrn
      have Hnx := Lib.hid hnx
      have Htn := Lib.hid htn
      have HX0 := Lib.hid hx0
      have HL0 := Lib.hid hL0
      have Hq := Lib.hid hq
      have k1 : (t : Int) < g.ns.length := by omega
      have k2 : (0 : Int) ≤ t := by omega
      have k3 : ((t : Int)).toNat = t := by omega
      have q1 : (q : Int) < g.ns.length := by omega
      have q2 : (0 : Int) ≤ q := by omega
      have q3 : ((q : Int)).toNat = q := by omega
      have p1 : (ps.length : Int) ≤ 1500 := by omega
      have c1 := (hS L0 wr (fun x hx => hx) hF.1).1
      clear hF hrn hnx htn hx1 hx0 n0 n1 n2 hS hEL hL0 hq
      go_wp2_with (fail)
      clear c1
      refine wp_region_heldL (S := fun W' => W'.cell? ⟨gb, 1, none⟩ = some (.slice (some ⟨bn, on, none⟩) g.ns.length cn) ∧ W'.cell? ⟨bn, on + q * 3, none⟩ = some (.slice ap ps.length cp) ∧ W'.cell? ⟨bn, on + q * 3 + 1, none⟩ = some (.slice af fs.length cf) ∧ W'.cell? ⟨bn, on + q * 3 + 2, none⟩ = some (.slice aw ws.length cw)) (by kernel_rfl) (HS.out _ _ (fun x hx => hx) H.out.1) (fun hHeld => ?_)
      generalize wr.drew = V0 at *
      refine wpAnyL_take (i := 0) (v := ?_) rfl (by kernel_rfl) (by kernel_rfl) (by kernel_rfl) (by kernel_rfl) (fun _ _ _ h => h) (Or.inl ⟨by kernel_rfl, ?_⟩) (by assumption) ?_
      rotate_left
      · (intro w hSw; (try dsimp only at hSw); go_simp; try with_reducible rfl)
      simp only [Act.put, List.setIfInBounds_toArray, List.set_cons_zero, List.set_cons_succ]
      refine wpAnyL_take (i := 1) (v := ?_) rfl (by kernel_rfl) (by kernel_rfl) (by kernel_rfl) (by kernel_rfl) (fun _ _ _ h => h) (Or.inl ⟨by kernel_rfl, ?_⟩) (by assumption) ?_
      rotate_left
      · (intro w hSw; (try dsimp only at hSw); go_simp; try with_reducible rfl)
      simp only [Act.put, List.setIfInBounds_toArray, List.set_cons_zero, List.set_cons_succ]
      refine wpAnyL_take (i := 2) (v := ?_) rfl (by kernel_rfl) (by kernel_rfl) (by kernel_rfl) (by kernel_rfl) (fun _ _ _ h => h) (Or.inl ⟨by kernel_rfl, ?_⟩) (by assumption) ?_
      rotate_left
      · (intro w hSw; (try dsimp only at hSw); go_simp; try with_reducible rfl)
      simp only [Act.put, List.setIfInBounds_toArray, List.set_cons_zero, List.set_cons_succ]
      refine wpAnyL_take (i := 3) (v := ?_) rfl (by kernel_rfl) (by kernel_rfl) (by kernel_rfl) (by kernel_rfl) (fun _ _ _ h => h) (Or.inl ⟨by kernel_rfl, ?_⟩) (by assumption) ?_
      rotate_left
      · (intro w hSw; (try dsimp only at hSw); go_simp; try with_reducible rfl)
      simp only [Act.put, List.setIfInBounds_toArray, List.set_cons_zero, List.set_cons_succ]
      refine wpAnyL_two (i := 4) (j := 10) (by kernel_rfl) rfl rfl (fun K hK => ?_) (fun K hK => ?_)
      · go_simp
        have hb := H.out.box #[.int .i64 (t : Int)] 3
        refine hK.out _ _ (HS.out _ _ (fun x hx => (List.mem_cons_of_mem _ hx)) hb.1) (fun hHeld => ?_)
        clear hK K
        try simp only [Act.put, List.setIfInBounds_toArray, List.set_cons_zero, List.set_cons_succ]
        obtain ⟨T, hT⟩ : ∃ T, V0.heap.size = T := ⟨_, rfl⟩
        simp only [hT] at hb ⊢
        replace H := Lib.hid hb
        have Hrow := Lib.hid (fun K W (hm : (T, Obj.cells #[.int .i64 (t : Int)] 3 (0, 0)) ∈ K) (hW : KB w K W) => introw_one (hW.block hm) (WalkArith.wf_i64 (show IsI (t : Int) by unfold IsI; omega)))
        clear hb
        generalize V0.alloc (.cells #[.int .i64 (t : Int)] 3) = V1 at *
        clear hT
        refine wpAnyL_two (i := 5) (j := 10) (by kernel_rfl) rfl rfl (fun K hK => ?_) (fun K hK => ?_)
        · go_simp
          go_at_call 57
          obtain ⟨ci, ck⟩ := HC.out _ _ (fun x hx => (List.mem_cons_of_mem _ hx)) H.out.1
          refine (swap_any ci ck 1 (Hrow.out _ _ (by simp) H.out.1) (by simp)).mono ?_
          clear ci ck
          rintro e V2 ⟨aR, cR, rfl, R, hr, hF⟩
          have hj := H.out.join hF
          refine hK.out _ _ (HS.out _ _ (fun x hx => (List.mem_append_right _ (List.mem_cons_of_mem _ hx))) hj.1) (fun hHeld => ?_)
          clear hK K
          try simp only [Act.put, List.setIfInBounds_toArray, List.set_cons_zero, List.set_cons_succ]
          obtain ⟨bR, rfl, hcR⟩ := hr.at_ hF.1 (fun x hx => hx) (show (icI ([(t : Int)].map (swI i k)))[0]? = some (.int .i64 (swI i k (t : Int))) from rfl)
          have HcR := Lib.hid (fun K W (hm : ∀ x ∈ R, x ∈ K) (hW : KB w K W) => (show W.cell? ⟨bR, 0, none⟩ = some (.int .i64 (q : Int)) by
            obtain ⟨b', e, h'⟩ := Rw.at_ (hr.mono H.out.below.size) hW hm (show (icI ([(t : Int)].map (swI i k)))[0]? = some (.int .i64 (swI i k (t : Int))) from rfl)
            cases e
            rw [Hq.out] at h'
            exact h'))
          replace H := Lib.hid hj
          clear hj hr hF Hrow hcR
          refine wpAnyL_take (i := 6) (v := ?_) rfl (by kernel_rfl) (by kernel_rfl) (by kernel_rfl) (by kernel_rfl) (fun _ _ _ h => h) (Or.inl ⟨by kernel_rfl, ?_⟩) (by assumption) ?_
          rotate_left
          · (intro w hSw; (try dsimp only at hSw); go_simp; try with_reducible rfl)
          simp only [Act.put, List.setIfInBounds_toArray, List.set_cons_zero, List.set_cons_succ]
          refine wpAnyL_two (i := 7) (j := 10) (by kernel_rfl) rfl rfl (fun K hK => ?_) (fun K hK => ?_)
          · have hcR := HcR.out _ _ (fun x hx => by simp [hx]) H.out.1
            go_simp
            refine hK.out _ _ (HS.out _ _ (fun x hx => (List.mem_append_right _ (List.mem_cons_of_mem _ hx))) H.out.1) (fun hHeld => ?_)
            clear hK K
            try simp only [Act.put, List.setIfInBounds_toArray, List.set_cons_zero, List.set_cons_succ]
            clear hcR HcR
            refine wpAnyL_take (i := 8) (v := ?_) rfl (by kernel_rfl) (by kernel_rfl) (by kernel_rfl) (by kernel_rfl) (fun _ _ _ h => h) (Or.inl ⟨by kernel_rfl, ?_⟩) (by assumption) ?_
            rotate_left
            · (intro w hSw; (try dsimp only at hSw); go_simp; try with_reducible rfl)
            simp only [Act.put, List.setIfInBounds_toArray, List.set_cons_zero, List.set_cons_succ]
            refine wpAnyL_take (i := 9) (v := ?_) rfl (by kernel_rfl) (by kernel_rfl) (by kernel_rfl) (by kernel_rfl) (fun _ _ _ h => h) (Or.inl ⟨by kernel_rfl, ?_⟩) (by assumption) ?_
            rotate_left
            · (intro w hSw; (try dsimp only at hSw); go_simp; try with_reducible rfl)
            simp only [Act.put, List.setIfInBounds_toArray, List.set_cons_zero, List.set_cons_succ]
            refine wpAnyL_one (i := 10) (by decide +kernel) rfl (fun K hK => ?_)
            go_simp
            have hb := H.out.box #[.slice none 0 0, .slice none 0 0, .slice none 0 0] 47
            refine hK.out _ _ (HS.out _ _ (fun x hx => (List.mem_cons_of_mem _ (List.mem_append_right _ (List.mem_cons_of_mem _ hx)))) hb.1) (fun hHeld => ?_)
            clear hK K
            try simp only [Act.put, List.setIfInBounds_toArray, List.set_cons_zero, List.set_cons_succ]
            obtain ⟨X, hX⟩ : ∃ X, V2.heap.size = X := ⟨_, rfl⟩
            simp only [hX] at hb ⊢
            replace H := Lib.hid hb
            clear hb
            generalize V2.alloc (.cells #[.slice none 0 0, .slice none 0 0, .slice none 0 0] 47) = V4 at *
            clear hX
            have hq := H.out.1.block (X := X) (o := .cells #[.slice none 0 0, .slice none 0 0, .slice none 0 0] 47 (0, 0)) (by simp)
            have x0 := at_cell hq 0 _ rfl
            have x1 := at_cell hq 1 _ rfl
            have x2 := at_cell hq 2 _ rfl
            have f0 := at_free hq 0
            have f1 := at_free hq 1
            have f2 := at_free hq 2
            refine wpAnyL_last (i := 11) (by kernel_rfl) rfl (by kernel_rfl) (by kernel_rfl) (fun K hK => ?_)
            go_simp
            refine hK.out _ _ ?_
            clear hK K
            try simp only [Act.put, List.setIfInBounds_toArray, List.set_cons_zero, List.set_cons_succ]
            have hset := (((H.out.perm (K' := (X, Obj.cells #[.slice none 0 0, .slice none 0 0, .slice none 0 0] 47 (0, 0)) :: ((T, Obj.cells #[.int .i64 (t : Int)] 3 (0, 0)) :: R ++ L0)) (permC fun x => by simp only [List.count_append, List.count_cons, List.append_assoc, List.cons_append]; ac_rfl)).set 0 (.slice ap ps.length cp)).set 1 (.slice af fs.length cf)).set 2 (.slice aw ws.length cw)
            have hset : FKN w ((X, Obj.cells #[.slice ap ps.length cp, .slice af fs.length cf, .slice aw ws.length cw] 47 (0, 0)) :: L0) _ := FKN.drop (K' := (T, Obj.cells #[.int .i64 (t : Int)] 3 (0, 0)) :: R) (hset.perm (K' := ((T, Obj.cells #[.int .i64 (t : Int)] 3 (0, 0)) :: R) ++ ((X, Obj.cells #[.slice ap ps.length cp, .slice af fs.length cf, .slice aw ws.length cw] 47 (0, 0)) :: L0)) (permC fun x => by simp only [List.count_append, List.count_cons, List.append_assoc, List.cons_append]; ac_rfl))
            have HX := Lib.hid hset
            clear hset hq x0 x1 x2 f0 f1 f2 H hHeld
            generalize ((V4.setCell ⟨X, 0, none⟩ (.slice ap ps.length cp)).setCell ⟨X, 1, none⟩ (.slice af fs.length cf)).setCell ⟨X, 2, none⟩ (.slice aw ws.length cw) = W9 at *
            have y0 := at_cell (HX.out.1.block (List.mem_cons_self ..)) 0 _ rfl
            obtain ⟨ci, ck⟩ := HC.out _ _ (fun x hx => List.mem_cons_of_mem _ hx) HX.out.1
            have HSW := Lib.hid (swap_any (zs := ps) ci ck cp (IntRow.below (show IntRow .i64 W0 ap ps from HX0.out.ps) (HB0.out _ HX.out.below)) (by omega))
            clear ci ck
            go_wp2_with (fail)
            go_at_call 57
            refine HSW.out.mono ?_
            rintro e W10 ⟨aP, cP, rfl, RP, hrp, hF10⟩
            have h10 := (HX.out.join hF10).perm (K' := (X, Obj.cells #[.slice ap ps.length cp, .slice af fs.length cf, .slice aw ws.length cw] 47 (0, 0)) :: (RP ++ L0)) (permC fun x => by simp only [List.count_append, List.count_cons, List.append_assoc, List.cons_append]; ac_rfl)
            have hq := h10.1.block (List.mem_cons_self ..)
            have y100 := at_cell hq 0 _ rfl
            have f100 := at_free hq 0
            have h11 := h10.set 0 (.slice aP ps.length cP)
            obtain ⟨W11, hW11⟩ : ∃ W11, W10.setCell ⟨X, 0, none⟩ (.slice aP ps.length cP) = W11 := ⟨_, rfl⟩
            rw [hW11] at h11
            have h11 : FKN w ((X, Obj.cells #[.slice aP ps.length cP, .slice af fs.length cf, .slice aw ws.length cw] 47 (0, 0)) :: (RP ++ L0)) W11 := h11
            have hq2 := h11.1.block (List.mem_cons_self ..)
            have y110 := at_cell hq2 0 _ rfl
            have y111 := at_cell hq2 1 _ rfl
            have y112 := at_cell hq2 2 _ rfl
            rw [← HL0.out] at h11
            have hb11 := h11.1.block (X := bo) (o := .cells #[.slice a1 g.rs.length d1, .slice an1 t cn1] 25 (0, 0)) (by simp)
            have b111 := at_cell hb11 1 _ rfl
            obtain ⟨an2, cn2, W12, Rn2, run12, hrn2, h12⟩ := Hrn.out.app1 (h11.perm (K' := Rn ++ ((X, Obj.cells #[.slice aP ps.length cP, .slice af fs.length cf, .slice aw ws.length cw] 47 (0, 0)) :: (RP ++ ((bo, Obj.cells #[.slice a1 g.rs.length d1, .slice an1 t cn1] 25 (0, 0)) :: (Rx ++ (Rr ++ E0)))))) (permC fun x => by simp only [List.count_append, List.count_cons, List.append_assoc, List.cons_append]; ac_rfl)) hj3 hv0 hv1 hv2 rfl (by decide) Try.underlying23 #[.slice aP ps.length cP, .slice af fs.length cf, .slice aw ws.length cw] rfl (by intro u hu; simp only [List.mem_cons, List.not_mem_nil, or_false] at hu; rcases hu with rfl | rfl | rfl <;> rfl) (by unfold maxLen; omega) (by omega)
            have hb12 := h12.1.block (X := bo) (o := .cells #[.slice a1 g.rs.length d1, .slice an1 t cn1] 25 (0, 0)) (by simp)
            have b121 := at_cell hb12 1 _ rfl
            have f121 := at_free hb12 1
            have HFIN := Lib.hid (((h12.perm (K' := (bo, Obj.cells #[.slice a1 g.rs.length d1, .slice an1 t cn1] 25 (0, 0)) :: ((X, Obj.cells #[.slice aP ps.length cP, .slice af fs.length cf, .slice aw ws.length cw] 47 (0, 0)) :: (Rn2 ++ ((RP ++ Rx) ++ (Rr ++ E0))))) (permC fun x => by simp only [List.count_append, List.count_cons, List.append_assoc, List.cons_append]; ac_rfl)).set 1 (.slice an2 (t + 1) cn2)).perm (K' := (X, Obj.cells #[.slice aP ps.length cP, .slice af fs.length cf, .slice aw ws.length cw] 47 (0, 0)) :: (bo, Obj.cells #[.slice a1 g.rs.length d1, .slice an2 (t + 1) cn2] 25 (0, 0)) :: (Rn2 ++ ((RP ++ Rx) ++ (Rr ++ E0)))) (List.Perm.swap _ _ _)).tail
            have hsn := NsT.snoc (x := ⟨ps.map (swI i k), fs, ws⟩) (cf := cf) (cw := cw) Hnx.out (.inl (by rw [List.length_map]; exact (hrp.mono HX.out.below.size).mono HS0.out)) HX0.out.fs HX0.out.ws
            rw [← Htn.out] at hsn
            simp only [List.length_map] at hsn
            have HSN := Lib.hid hsn
            have HRN2 := Lib.hid hrn2
            have R12 := Lib.hid run12
            clear hrp hF10 h10 hq h11 hq2 hb11 h12 hb12 hsn hrn2 run12 HSW y0
            go_wp2_with (at_builtin; refine wpList_append_run _ rfl (.tmp 39) (.tmp 41) 23 rfl _ _ _ _ rfl rfl R12.out ?_; clear R12)
            go_roundw
            case rel => exact ⟨t + 1, an2, cn2, _, Rn2, _, by go_num, by omega, HRN2.out, HSN.out, HFIN.out⟩
            case measure => simp [intOf]; omega
          · go_simp
            have hb := H.out.box #[.slice none 0 0, .slice none 0 0, .slice none 0 0] 47
            refine hK.out _ _ (HS.out _ _ (fun x hx => (List.mem_cons_of_mem _ (List.mem_append_right _ (List.mem_cons_of_mem _ hx)))) hb.1) (fun hHeld => ?_)
            clear hK K
            try simp only [Act.put, List.setIfInBounds_toArray, List.set_cons_zero, List.set_cons_succ]
            obtain ⟨X, hX⟩ : ∃ X, V2.heap.size = X := ⟨_, rfl⟩
            simp only [hX] at hb ⊢
            replace H := Lib.hid hb
            clear hb
            generalize V2.alloc (.cells #[.slice none 0 0, .slice none 0 0, .slice none 0 0] 47) = V3 at *
            clear hX
            refine wpAnyL_one (i := 7) (by decide +kernel) rfl (fun K hK => ?_)
            have hcR := HcR.out _ _ (fun x hx => by simp [hx]) H.out.1
            go_simp
            refine hK.out _ _ (HS.out _ _ (fun x hx => (List.mem_cons_of_mem _ (List.mem_append_right _ (List.mem_cons_of_mem _ hx)))) H.out.1) (fun hHeld => ?_)
            clear hK K
            try simp only [Act.put, List.setIfInBounds_toArray, List.set_cons_zero, List.set_cons_succ]
            clear hcR HcR
            refine wpAnyL_take (i := 8) (v := ?_) rfl (by kernel_rfl) (by kernel_rfl) (by kernel_rfl) (by kernel_rfl) (fun _ _ _ h => h) (Or.inl ⟨by kernel_rfl, ?_⟩) (by assumption) ?_
            rotate_left
            · (intro w hSw; (try dsimp only at hSw); go_simp; try with_reducible rfl)
            simp only [Act.put, List.setIfInBounds_toArray, List.set_cons_zero, List.set_cons_succ]
            refine wpAnyL_take (i := 9) (v := ?_) rfl (by kernel_rfl) (by kernel_rfl) (by kernel_rfl) (by kernel_rfl) (fun _ _ _ h => h) (Or.inl ⟨by kernel_rfl, ?_⟩) (by assumption) ?_
            rotate_left
            · (intro w hSw; (try dsimp only at hSw); go_simp; try with_reducible rfl)
            simp only [Act.put, List.setIfInBounds_toArray, List.set_cons_zero, List.set_cons_succ]
            have hq := H.out.1.block (X := X) (o := .cells #[.slice none 0 0, .slice none 0 0, .slice none 0 0] 47 (0, 0)) (by simp)
            have x0 := at_cell hq 0 _ rfl
            have x1 := at_cell hq 1 _ rfl
            have x2 := at_cell hq 2 _ rfl
            have f0 := at_free hq 0
            have f1 := at_free hq 1
            have f2 := at_free hq 2
            refine wpAnyL_last (i := 11) (by kernel_rfl) rfl (by kernel_rfl) (by kernel_rfl) (fun K hK => ?_)
            go_simp
            refine hK.out _ _ ?_
            clear hK K
            try simp only [Act.put, List.setIfInBounds_toArray, List.set_cons_zero, List.set_cons_succ]
            have hset := (((H.out.perm (K' := (X, Obj.cells #[.slice none 0 0, .slice none 0 0, .slice none 0 0] 47 (0, 0)) :: ((T, Obj.cells #[.int .i64 (t : Int)] 3 (0, 0)) :: R ++ L0)) (permC fun x => by simp only [List.count_append, List.count_cons, List.append_assoc, List.cons_append]; ac_rfl)).set 0 (.slice ap ps.length cp)).set 1 (.slice af fs.length cf)).set 2 (.slice aw ws.length cw)
            have hset : FKN w ((X, Obj.cells #[.slice ap ps.length cp, .slice af fs.length cf, .slice aw ws.length cw] 47 (0, 0)) :: L0) _ := FKN.drop (K' := (T, Obj.cells #[.int .i64 (t : Int)] 3 (0, 0)) :: R) (hset.perm (K' := ((T, Obj.cells #[.int .i64 (t : Int)] 3 (0, 0)) :: R) ++ ((X, Obj.cells #[.slice ap ps.length cp, .slice af fs.length cf, .slice aw ws.length cw] 47 (0, 0)) :: L0)) (permC fun x => by simp only [List.count_append, List.count_cons, List.append_assoc, List.cons_append]; ac_rfl))
            have HX := Lib.hid hset
            clear hset hq x0 x1 x2 f0 f1 f2 H hHeld
            generalize ((V3.setCell ⟨X, 0, none⟩ (.slice ap ps.length cp)).setCell ⟨X, 1, none⟩ (.slice af fs.length cf)).setCell ⟨X, 2, none⟩ (.slice aw ws.length cw) = W9 at *
            have y0 := at_cell (HX.out.1.block (List.mem_cons_self ..)) 0 _ rfl
            obtain ⟨ci, ck⟩ := HC.out _ _ (fun x hx => List.mem_cons_of_mem _ hx) HX.out.1
            have HSW := Lib.hid (swap_any (zs := ps) ci ck cp (IntRow.below (show IntRow .i64 W0 ap ps from HX0.out.ps) (HB0.out _ HX.out.below)) (by omega))
            clear ci ck
            go_wp2_with (fail)
            go_at_call 57
            refine HSW.out.mono ?_
            rintro e W10 ⟨aP, cP, rfl, RP, hrp, hF10⟩
            have h10 := (HX.out.join hF10).perm (K' := (X, Obj.cells #[.slice ap ps.length cp, .slice af fs.length cf, .slice aw ws.length cw] 47 (0, 0)) :: (RP ++ L0)) (permC fun x => by simp only [List.count_append, List.count_cons, List.append_assoc, List.cons_append]; ac_rfl)
            have hq := h10.1.block (List.mem_cons_self ..)
            have y100 := at_cell hq 0 _ rfl
            have f100 := at_free hq 0
            have h11 := h10.set 0 (.slice aP ps.length cP)
            obtain ⟨W11, hW11⟩ : ∃ W11, W10.setCell ⟨X, 0, none⟩ (.slice aP ps.length cP) = W11 := ⟨_, rfl⟩
            rw [hW11] at h11
            have h11 : FKN w ((X, Obj.cells #[.slice aP ps.length cP, .slice af fs.length cf, .slice aw ws.length cw] 47 (0, 0)) :: (RP ++ L0)) W11 := h11
            have hq2 := h11.1.block (List.mem_cons_self ..)
            have y110 := at_cell hq2 0 _ rfl
            have y111 := at_cell hq2 1 _ rfl
            have y112 := at_cell hq2 2 _ rfl
            rw [← HL0.out] at h11
            have hb11 := h11.1.block (X := bo) (o := .cells #[.slice a1 g.rs.length d1, .slice an1 t cn1] 25 (0, 0)) (by simp)
            have b111 := at_cell hb11 1 _ rfl
            obtain ⟨an2, cn2, W12, Rn2, run12, hrn2, h12⟩ := Hrn.out.app1 (h11.perm (K' := Rn ++ ((X, Obj.cells #[.slice aP ps.length cP, .slice af fs.length cf, .slice aw ws.length cw] 47 (0, 0)) :: (RP ++ ((bo, Obj.cells #[.slice a1 g.rs.length d1, .slice an1 t cn1] 25 (0, 0)) :: (Rx ++ (Rr ++ E0)))))) (permC fun x => by simp only [List.count_append, List.count_cons, List.append_assoc, List.cons_append]; ac_rfl)) hj3 hv0 hv1 hv2 rfl (by decide) Try.underlying23 #[.slice aP ps.length cP, .slice af fs.length cf, .slice aw ws.length cw] rfl (by intro u hu; simp only [List.mem_cons, List.not_mem_nil, or_false] at hu; rcases hu with rfl | rfl | rfl <;> rfl) (by unfold maxLen; omega) (by omega)
            have hb12 := h12.1.block (X := bo) (o := .cells #[.slice a1 g.rs.length d1, .slice an1 t cn1] 25 (0, 0)) (by simp)
            have b121 := at_cell hb12 1 _ rfl
            have f121 := at_free hb12 1
            have HFIN := Lib.hid (((h12.perm (K' := (bo, Obj.cells #[.slice a1 g.rs.length d1, .slice an1 t cn1] 25 (0, 0)) :: ((X, Obj.cells #[.slice aP ps.length cP, .slice af fs.length cf, .slice aw ws.length cw] 47 (0, 0)) :: (Rn2 ++ ((RP ++ Rx) ++ (Rr ++ E0))))) (permC fun x => by simp only [List.count_append, List.count_cons, List.append_assoc, List.cons_append]; ac_rfl)).set 1 (.slice an2 (t + 1) cn2)).perm (K' := (X, Obj.cells #[.slice aP ps.length cP, .slice af fs.length cf, .slice aw ws.length cw] 47 (0, 0)) :: (bo, Obj.cells #[.slice a1 g.rs.length d1, .slice an2 (t + 1) cn2] 25 (0, 0)) :: (Rn2 ++ ((RP ++ Rx) ++ (Rr ++ E0)))) (List.Perm.swap _ _ _)).tail
            have hsn := NsT.snoc (x := ⟨ps.map (swI i k), fs, ws⟩) (cf := cf) (cw := cw) Hnx.out (.inl (by rw [List.length_map]; exact (hrp.mono HX.out.below.size).mono HS0.out)) HX0.out.fs HX0.out.ws
            rw [← Htn.out] at hsn
            simp only [List.length_map] at hsn
            have HSN := Lib.hid hsn
            have HRN2 := Lib.hid hrn2
            have R12 := Lib.hid run12
            clear hrp hF10 h10 hq h11 hq2 hb11 h12 hb12 hsn hrn2 run12 HSW y0
            go_wp2_with (at_builtin; refine wpList_append_run _ rfl (.tmp 39) (.tmp 41) 23 rfl _ _ _ _ rfl rfl R12.out ?_; clear R12)
            go_roundw
            case rel => exact ⟨t + 1, an2, cn2, _, Rn2, _, by go_num, by omega, HRN2.out, HSN.out, HFIN.out⟩
            case measure => simp [intOf]; omega
        · go_simp
          have hb := H.out.box #[.slice none 0 0, .slice none 0 0, .slice none 0 0] 47
          refine hK.out _ _ (HS.out _ _ (fun x hx => (List.mem_cons_of_mem _ (List.mem_cons_of_mem _ hx))) hb.1) (fun hHeld => ?_)
          clear hK K
          try simp only [Act.put, List.setIfInBounds_toArray, List.set_cons_zero, List.set_cons_succ]
          obtain ⟨X, hX⟩ : ∃ X, V1.heap.size = X := ⟨_, rfl⟩
          simp only [hX] at hb ⊢
          replace H := Lib.hid hb
          clear hb
          generalize V1.alloc (.cells #[.slice none 0 0, .slice none 0 0, .slice none 0 0] 47) = V2 at *
          clear hX
          refine wpAnyL_one (i := 5) (by decide +kernel) rfl (fun K hK => ?_)
          go_simp
          go_at_call 57
          obtain ⟨ci, ck⟩ := HC.out _ _ (fun x hx => (List.mem_cons_of_mem _ (List.mem_cons_of_mem _ hx))) H.out.1
          refine (swap_any ci ck 1 (Hrow.out _ _ (by simp) H.out.1) (by simp)).mono ?_
          clear ci ck
          rintro e V3 ⟨aR, cR, rfl, R, hr, hF⟩
          have hj := H.out.join hF
          refine hK.out _ _ (HS.out _ _ (fun x hx => (List.mem_append_right _ (List.mem_cons_of_mem _ (List.mem_cons_of_mem _ hx)))) hj.1) (fun hHeld => ?_)
          clear hK K
          try simp only [Act.put, List.setIfInBounds_toArray, List.set_cons_zero, List.set_cons_succ]
          obtain ⟨bR, rfl, hcR⟩ := hr.at_ hF.1 (fun x hx => hx) (show (icI ([(t : Int)].map (swI i k)))[0]? = some (.int .i64 (swI i k (t : Int))) from rfl)
          have HcR := Lib.hid (fun K W (hm : ∀ x ∈ R, x ∈ K) (hW : KB w K W) => (show W.cell? ⟨bR, 0, none⟩ = some (.int .i64 (q : Int)) by
            obtain ⟨b', e, h'⟩ := Rw.at_ (hr.mono H.out.below.size) hW hm (show (icI ([(t : Int)].map (swI i k)))[0]? = some (.int .i64 (swI i k (t : Int))) from rfl)
            cases e
            rw [Hq.out] at h'
            exact h'))
          replace H := Lib.hid hj
          clear hj hr hF Hrow hcR
          refine wpAnyL_take (i := 6) (v := ?_) rfl (by kernel_rfl) (by kernel_rfl) (by kernel_rfl) (by kernel_rfl) (fun _ _ _ h => h) (Or.inl ⟨by kernel_rfl, ?_⟩) (by assumption) ?_
          rotate_left
          · (intro w hSw; (try dsimp only at hSw); go_simp; try with_reducible rfl)
          simp only [Act.put, List.setIfInBounds_toArray, List.set_cons_zero, List.set_cons_succ]
          refine wpAnyL_one (i := 7) (by decide +kernel) rfl (fun K hK => ?_)
          have hcR := HcR.out _ _ (fun x hx => by simp [hx]) H.out.1
          go_simp
          refine hK.out _ _ (HS.out _ _ (fun x hx => (List.mem_append_right _ (List.mem_cons_of_mem _ (List.mem_cons_of_mem _ hx)))) H.out.1) (fun hHeld => ?_)
          clear hK K
          try simp only [Act.put, List.setIfInBounds_toArray, List.set_cons_zero, List.set_cons_succ]
          clear hcR HcR
          refine wpAnyL_take (i := 8) (v := ?_) rfl (by kernel_rfl) (by kernel_rfl) (by kernel_rfl) (by kernel_rfl) (fun _ _ _ h => h) (Or.inl ⟨by kernel_rfl, ?_⟩) (by assumption) ?_
          rotate_left
          · (intro w hSw; (try dsimp only at hSw); go_simp; try with_reducible rfl)
          simp only [Act.put, List.setIfInBounds_toArray, List.set_cons_zero, List.set_cons_succ]
          refine wpAnyL_take (i := 9) (v := ?_) rfl (by kernel_rfl) (by kernel_rfl) (by kernel_rfl) (by kernel_rfl) (fun _ _ _ h => h) (Or.inl ⟨by kernel_rfl, ?_⟩) (by assumption) ?_
          rotate_left
          · (intro w hSw; (try dsimp only at hSw); go_simp; try with_reducible rfl)
          simp only [Act.put, List.setIfInBounds_toArray, List.set_cons_zero, List.set_cons_succ]
          have hq := H.out.1.block (X := X) (o := .cells #[.slice none 0 0, .slice none 0 0, .slice none 0 0] 47 (0, 0)) (by simp)
          have x0 := at_cell hq 0 _ rfl
          have x1 := at_cell hq 1 _ rfl
          have x2 := at_cell hq 2 _ rfl
          have f0 := at_free hq 0
          have f1 := at_free hq 1
          have f2 := at_free hq 2
          refine wpAnyL_last (i := 11) (by kernel_rfl) rfl (by kernel_rfl) (by kernel_rfl) (fun K hK => ?_)
          go_simp
          refine hK.out _ _ ?_
          clear hK K
          try simp only [Act.put, List.setIfInBounds_toArray, List.set_cons_zero, List.set_cons_succ]
          have hset := (((H.out.perm (K' := (X, Obj.cells #[.slice none 0 0, .slice none 0 0, .slice none 0 0] 47 (0, 0)) :: ((T, Obj.cells #[.int .i64 (t : Int)] 3 (0, 0)) :: R ++ L0)) (permC fun x => by simp only [List.count_append, List.count_cons, List.append_assoc, List.cons_append]; ac_rfl)).set 0 (.slice ap ps.length cp)).set 1 (.slice af fs.length cf)).set 2 (.slice aw ws.length cw)
          have hset : FKN w ((X, Obj.cells #[.slice ap ps.length cp, .slice af fs.length cf, .slice aw ws.length cw] 47 (0, 0)) :: L0) _ := FKN.drop (K' := (T, Obj.cells #[.int .i64 (t : Int)] 3 (0, 0)) :: R) (hset.perm (K' := ((T, Obj.cells #[.int .i64 (t : Int)] 3 (0, 0)) :: R) ++ ((X, Obj.cells #[.slice ap ps.length cp, .slice af fs.length cf, .slice aw ws.length cw] 47 (0, 0)) :: L0)) (permC fun x => by simp only [List.count_append, List.count_cons, List.append_assoc, List.cons_append]; ac_rfl))
          have HX := Lib.hid hset
          clear hset hq x0 x1 x2 f0 f1 f2 H hHeld
          generalize ((V3.setCell ⟨X, 0, none⟩ (.slice ap ps.length cp)).setCell ⟨X, 1, none⟩ (.slice af fs.length cf)).setCell ⟨X, 2, none⟩ (.slice aw ws.length cw) = W9 at *
          have y0 := at_cell (HX.out.1.block (List.mem_cons_self ..)) 0 _ rfl
          obtain ⟨ci, ck⟩ := HC.out _ _ (fun x hx => List.mem_cons_of_mem _ hx) HX.out.1
          have HSW := Lib.hid (swap_any (zs := ps) ci ck cp (IntRow.below (show IntRow .i64 W0 ap ps from HX0.out.ps) (HB0.out _ HX.out.below)) (by omega))
          clear ci ck
          go_wp2_with (fail)
          go_at_call 57
          refine HSW.out.mono ?_
          rintro e W10 ⟨aP, cP, rfl, RP, hrp, hF10⟩
          have h10 := (HX.out.join hF10).perm (K' := (X, Obj.cells #[.slice ap ps.length cp, .slice af fs.length cf, .slice aw ws.length cw] 47 (0, 0)) :: (RP ++ L0)) (permC fun x => by simp only [List.count_append, List.count_cons, List.append_assoc, List.cons_append]; ac_rfl)
          have hq := h10.1.block (List.mem_cons_self ..)
          have y100 := at_cell hq 0 _ rfl
          have f100 := at_free hq 0
          have h11 := h10.set 0 (.slice aP ps.length cP)
          obtain ⟨W11, hW11⟩ : ∃ W11, W10.setCell ⟨X, 0, none⟩ (.slice aP ps.length cP) = W11 := ⟨_, rfl⟩
          rw [hW11] at h11
          have h11 : FKN w ((X, Obj.cells #[.slice aP ps.length cP, .slice af fs.length cf, .slice aw ws.length cw] 47 (0, 0)) :: (RP ++ L0)) W11 := h11
          have hq2 := h11.1.block (List.mem_cons_self ..)
          have y110 := at_cell hq2 0 _ rfl
          have y111 := at_cell hq2 1 _ rfl
          have y112 := at_cell hq2 2 _ rfl
          rw [← HL0.out] at h11
          have hb11 := h11.1.block (X := bo) (o := .cells #[.slice a1 g.rs.length d1, .slice an1 t cn1] 25 (0, 0)) (by simp)
          have b111 := at_cell hb11 1 _ rfl
          obtain ⟨an2, cn2, W12, Rn2, run12, hrn2, h12⟩ := Hrn.out.app1 (h11.perm (K' := Rn ++ ((X, Obj.cells #[.slice aP ps.length cP, .slice af fs.length cf, .slice aw ws.length cw] 47 (0, 0)) :: (RP ++ ((bo, Obj.cells #[.slice a1 g.rs.length d1, .slice an1 t cn1] 25 (0, 0)) :: (Rx ++ (Rr ++ E0)))))) (permC fun x => by simp only [List.count_append, List.count_cons, List.append_assoc, List.cons_append]; ac_rfl)) hj3 hv0 hv1 hv2 rfl (by decide) Try.underlying23 #[.slice aP ps.length cP, .slice af fs.length cf, .slice aw ws.length cw] rfl (by intro u hu; simp only [List.mem_cons, List.not_mem_nil, or_false] at hu; rcases hu with rfl | rfl | rfl <;> rfl) (by unfold maxLen; omega) (by omega)
          have hb12 := h12.1.block (X := bo) (o := .cells #[.slice a1 g.rs.length d1, .slice an1 t cn1] 25 (0, 0)) (by simp)
          have b121 := at_cell hb12 1 _ rfl
          have f121 := at_free hb12 1
          have HFIN := Lib.hid (((h12.perm (K' := (bo, Obj.cells #[.slice a1 g.rs.length d1, .slice an1 t cn1] 25 (0, 0)) :: ((X, Obj.cells #[.slice aP ps.length cP, .slice af fs.length cf, .slice aw ws.length cw] 47 (0, 0)) :: (Rn2 ++ ((RP ++ Rx) ++ (Rr ++ E0))))) (permC fun x => by simp only [List.count_append, List.count_cons, List.append_assoc, List.cons_append]; ac_rfl)).set 1 (.slice an2 (t + 1) cn2)).perm (K' := (X, Obj.cells #[.slice aP ps.length cP, .slice af fs.length cf, .slice aw ws.length cw] 47 (0, 0)) :: (bo, Obj.cells #[.slice a1 g.rs.length d1, .slice an2 (t + 1) cn2] 25 (0, 0)) :: (Rn2 ++ ((RP ++ Rx) ++ (Rr ++ E0)))) (List.Perm.swap _ _ _)).tail
          have hsn := NsT.snoc (x := ⟨ps.map (swI i k), fs, ws⟩) (cf := cf) (cw := cw) Hnx.out (.inl (by rw [List.length_map]; exact (hrp.mono HX.out.below.size).mono HS0.out)) HX0.out.fs HX0.out.ws
          rw [← Htn.out] at hsn
          simp only [List.length_map] at hsn
          have HSN := Lib.hid hsn
          have HRN2 := Lib.hid hrn2
          have R12 := Lib.hid run12
          clear hrp hF10 h10 hq h11 hq2 hb11 h12 hb12 hsn hrn2 run12 HSW y0
          go_wp2_with (at_builtin; refine wpList_append_run _ rfl (.tmp 39) (.tmp 41) 23 rfl _ _ _ _ rfl rfl R12.out ?_; clear R12)
          go_roundw
          case rel => exact ⟨t + 1, an2, cn2, _, Rn2, _, by go_num, by omega, HRN2.out, HSN.out, HFIN.out⟩
          case measure => simp [intOf]; omega
      · go_simp
        have hb := H.out.box #[.slice none 0 0, .slice none 0 0, .slice none 0 0] 47
        refine hK.out _ _ (HS.out _ _ (fun x hx => (List.mem_cons_of_mem _ hx)) hb.1) (fun hHeld => ?_)
        clear hK K
        try simp only [Act.put, List.setIfInBounds_toArray, List.set_cons_zero, List.set_cons_succ]
        obtain ⟨X, hX⟩ : ∃ X, V0.heap.size = X := ⟨_, rfl⟩
        simp only [hX] at hb ⊢
        replace H := Lib.hid hb
        clear hb
        generalize V0.alloc (.cells #[.slice none 0 0, .slice none 0 0, .slice none 0 0] 47) = V1 at *
        clear hX
        refine wpAnyL_one (i := 4) (by decide +kernel) rfl (fun K hK => ?_)
        go_simp
        have hb := H.out.box #[.int .i64 (t : Int)] 3
        refine hK.out _ _ (HS.out _ _ (fun x hx => (List.mem_cons_of_mem _ (List.mem_cons_of_mem _ hx))) hb.1) (fun hHeld => ?_)
        clear hK K
        try simp only [Act.put, List.setIfInBounds_toArray, List.set_cons_zero, List.set_cons_succ]
        obtain ⟨T, hT⟩ : ∃ T, V1.heap.size = T := ⟨_, rfl⟩
        simp only [hT] at hb ⊢
        replace H := Lib.hid hb
        have Hrow := Lib.hid (fun K W (hm : (T, Obj.cells #[.int .i64 (t : Int)] 3 (0, 0)) ∈ K) (hW : KB w K W) => introw_one (hW.block hm) (WalkArith.wf_i64 (show IsI (t : Int) by unfold IsI; omega)))
        clear hb
        generalize V1.alloc (.cells #[.int .i64 (t : Int)] 3) = V2 at *
        clear hT
        refine wpAnyL_one (i := 5) (by decide +kernel) rfl (fun K hK => ?_)
        go_simp
        go_at_call 57
        obtain ⟨ci, ck⟩ := HC.out _ _ (fun x hx => (List.mem_cons_of_mem _ (List.mem_cons_of_mem _ hx))) H.out.1
        refine (swap_any ci ck 1 (Hrow.out _ _ (by simp) H.out.1) (by simp)).mono ?_
        clear ci ck
        rintro e V3 ⟨aR, cR, rfl, R, hr, hF⟩
        have hj := H.out.join hF
        refine hK.out _ _ (HS.out _ _ (fun x hx => (List.mem_append_right _ (List.mem_cons_of_mem _ (List.mem_cons_of_mem _ hx)))) hj.1) (fun hHeld => ?_)
        clear hK K
        try simp only [Act.put, List.setIfInBounds_toArray, List.set_cons_zero, List.set_cons_succ]
        obtain ⟨bR, rfl, hcR⟩ := hr.at_ hF.1 (fun x hx => hx) (show (icI ([(t : Int)].map (swI i k)))[0]? = some (.int .i64 (swI i k (t : Int))) from rfl)
        have HcR := Lib.hid (fun K W (hm : ∀ x ∈ R, x ∈ K) (hW : KB w K W) => (show W.cell? ⟨bR, 0, none⟩ = some (.int .i64 (q : Int)) by
          obtain ⟨b', e, h'⟩ := Rw.at_ (hr.mono H.out.below.size) hW hm (show (icI ([(t : Int)].map (swI i k)))[0]? = some (.int .i64 (swI i k (t : Int))) from rfl)
          cases e
          rw [Hq.out] at h'
          exact h'))
        replace H := Lib.hid hj
        clear hj hr hF Hrow hcR
        refine wpAnyL_take (i := 6) (v := ?_) rfl (by kernel_rfl) (by kernel_rfl) (by kernel_rfl) (by kernel_rfl) (fun _ _ _ h => h) (Or.inl ⟨by kernel_rfl, ?_⟩) (by assumption) ?_
        rotate_left
        · (intro w hSw; (try dsimp only at hSw); go_simp; try with_reducible rfl)
        simp only [Act.put, List.setIfInBounds_toArray, List.set_cons_zero, List.set_cons_succ]
        refine wpAnyL_one (i := 7) (by decide +kernel) rfl (fun K hK => ?_)
        have hcR := HcR.out _ _ (fun x hx => by simp [hx]) H.out.1
        go_simp
        refine hK.out _ _ (HS.out _ _ (fun x hx => (List.mem_append_right _ (List.mem_cons_of_mem _ (List.mem_cons_of_mem _ hx)))) H.out.1) (fun hHeld => ?_)
        clear hK K
        try simp only [Act.put, List.setIfInBounds_toArray, List.set_cons_zero, List.set_cons_succ]
        clear hcR HcR
        refine wpAnyL_take (i := 8) (v := ?_) rfl (by kernel_rfl) (by kernel_rfl) (by kernel_rfl) (by kernel_rfl) (fun _ _ _ h => h) (Or.inl ⟨by kernel_rfl, ?_⟩) (by assumption) ?_
        rotate_left
        · (intro w hSw; (try dsimp only at hSw); go_simp; try with_reducible rfl)
        simp only [Act.put, List.setIfInBounds_toArray, List.set_cons_zero, List.set_cons_succ]
        refine wpAnyL_take (i := 9) (v := ?_) rfl (by kernel_rfl) (by kernel_rfl) (by kernel_rfl) (by kernel_rfl) (fun _ _ _ h => h) (Or.inl ⟨by kernel_rfl, ?_⟩) (by assumption) ?_
        rotate_left
        · (intro w hSw; (try dsimp only at hSw); go_simp; try with_reducible rfl)
        simp only [Act.put, List.setIfInBounds_toArray, List.set_cons_zero, List.set_cons_succ]
        have hq := H.out.1.block (X := X) (o := .cells #[.slice none 0 0, .slice none 0 0, .slice none 0 0] 47 (0, 0)) (by simp)
        have x0 := at_cell hq 0 _ rfl
        have x1 := at_cell hq 1 _ rfl
        have x2 := at_cell hq 2 _ rfl
        have f0 := at_free hq 0
        have f1 := at_free hq 1
        have f2 := at_free hq 2
        refine wpAnyL_last (i := 11) (by kernel_rfl) rfl (by kernel_rfl) (by kernel_rfl) (fun K hK => ?_)
        go_simp
        refine hK.out _ _ ?_
        clear hK K
        try simp only [Act.put, List.setIfInBounds_toArray, List.set_cons_zero, List.set_cons_succ]
        have hset := (((H.out.perm (K' := (X, Obj.cells #[.slice none 0 0, .slice none 0 0, .slice none 0 0] 47 (0, 0)) :: ((T, Obj.cells #[.int .i64 (t : Int)] 3 (0, 0)) :: R ++ L0)) (permC fun x => by simp only [List.count_append, List.count_cons, List.append_assoc, List.cons_append]; ac_rfl)).set 0 (.slice ap ps.length cp)).set 1 (.slice af fs.length cf)).set 2 (.slice aw ws.length cw)
        have hset : FKN w ((X, Obj.cells #[.slice ap ps.length cp, .slice af fs.length cf, .slice aw ws.length cw] 47 (0, 0)) :: L0) _ := FKN.drop (K' := (T, Obj.cells #[.int .i64 (t : Int)] 3 (0, 0)) :: R) (hset.perm (K' := ((T, Obj.cells #[.int .i64 (t : Int)] 3 (0, 0)) :: R) ++ ((X, Obj.cells #[.slice ap ps.length cp, .slice af fs.length cf, .slice aw ws.length cw] 47 (0, 0)) :: L0)) (permC fun x => by simp only [List.count_append, List.count_cons, List.append_assoc, List.cons_append]; ac_rfl))
        have HX := Lib.hid hset
        clear hset hq x0 x1 x2 f0 f1 f2 H hHeld
        generalize ((V3.setCell ⟨X, 0, none⟩ (.slice ap ps.length cp)).setCell ⟨X, 1, none⟩ (.slice af fs.length cf)).setCell ⟨X, 2, none⟩ (.slice aw ws.length cw) = W9 at *
        have y0 := at_cell (HX.out.1.block (List.mem_cons_self ..)) 0 _ rfl
        obtain ⟨ci, ck⟩ := HC.out _ _ (fun x hx => List.mem_cons_of_mem _ hx) HX.out.1
        have HSW := Lib.hid (swap_any (zs := ps) ci ck cp (IntRow.below (show IntRow .i64 W0 ap ps from HX0.out.ps) (HB0.out _ HX.out.below)) (by omega))
        clear ci ck
        go_wp2_with (fail)
        go_at_call 57
        refine HSW.out.mono ?_
        rintro e W10 ⟨aP, cP, rfl, RP, hrp, hF10⟩
        have h10 := (HX.out.join hF10).perm (K' := (X, Obj.cells #[.slice ap ps.length cp, .slice af fs.length cf, .slice aw ws.length cw] 47 (0, 0)) :: (RP ++ L0)) (permC fun x => by simp only [List.count_append, List.count_cons, List.append_assoc, List.cons_append]; ac_rfl)
        have hq := h10.1.block (List.mem_cons_self ..)
        have y100 := at_cell hq 0 _ rfl
        have f100 := at_free hq 0
        have h11 := h10.set 0 (.slice aP ps.length cP)
        obtain ⟨W11, hW11⟩ : ∃ W11, W10.setCell ⟨X, 0, none⟩ (.slice aP ps.length cP) = W11 := ⟨_, rfl⟩
        rw [hW11] at h11
        have h11 : FKN w ((X, Obj.cells #[.slice aP ps.length cP, .slice af fs.length cf, .slice aw ws.length cw] 47 (0, 0)) :: (RP ++ L0)) W11 := h11
        have hq2 := h11.1.block (List.mem_cons_self ..)
        have y110 := at_cell hq2 0 _ rfl
        have y111 := at_cell hq2 1 _ rfl
        have y112 := at_cell hq2 2 _ rfl
        rw [← HL0.out] at h11
        have hb11 := h11.1.block (X := bo) (o := .cells #[.slice a1 g.rs.length d1, .slice an1 t cn1] 25 (0, 0)) (by simp)
        have b111 := at_cell hb11 1 _ rfl
        obtain ⟨an2, cn2, W12, Rn2, run12, hrn2, h12⟩ := Hrn.out.app1 (h11.perm (K' := Rn ++ ((X, Obj.cells #[.slice aP ps.length cP, .slice af fs.length cf, .slice aw ws.length cw] 47 (0, 0)) :: (RP ++ ((bo, Obj.cells #[.slice a1 g.rs.length d1, .slice an1 t cn1] 25 (0, 0)) :: (Rx ++ (Rr ++ E0)))))) (permC fun x => by simp only [List.count_append, List.count_cons, List.append_assoc, List.cons_append]; ac_rfl)) hj3 hv0 hv1 hv2 rfl (by decide) Try.underlying23 #[.slice aP ps.length cP, .slice af fs.length cf, .slice aw ws.length cw] rfl (by intro u hu; simp only [List.mem_cons, List.not_mem_nil, or_false] at hu; rcases hu with rfl | rfl | rfl <;> rfl) (by unfold maxLen; omega) (by omega)
        have hb12 := h12.1.block (X := bo) (o := .cells #[.slice a1 g.rs.length d1, .slice an1 t cn1] 25 (0, 0)) (by simp)
        have b121 := at_cell hb12 1 _ rfl
        have f121 := at_free hb12 1
        have HFIN := Lib.hid (((h12.perm (K' := (bo, Obj.cells #[.slice a1 g.rs.length d1, .slice an1 t cn1] 25 (0, 0)) :: ((X, Obj.cells #[.slice aP ps.length cP, .slice af fs.length cf, .slice aw ws.length cw] 47 (0, 0)) :: (Rn2 ++ ((RP ++ Rx) ++ (Rr ++ E0))))) (permC fun x => by simp only [List.count_append, List.count_cons, List.append_assoc, List.cons_append]; ac_rfl)).set 1 (.slice an2 (t + 1) cn2)).perm (K' := (X, Obj.cells #[.slice aP ps.length cP, .slice af fs.length cf, .slice aw ws.length cw] 47 (0, 0)) :: (bo, Obj.cells #[.slice a1 g.rs.length d1, .slice an2 (t + 1) cn2] 25 (0, 0)) :: (Rn2 ++ ((RP ++ Rx) ++ (Rr ++ E0)))) (List.Perm.swap _ _ _)).tail
        have hsn := NsT.snoc (x := ⟨ps.map (swI i k), fs, ws⟩) (cf := cf) (cw := cw) Hnx.out (.inl (by rw [List.length_map]; exact (hrp.mono HX.out.below.size).mono HS0.out)) HX0.out.fs HX0.out.ws
        rw [← Htn.out] at hsn
        simp only [List.length_map] at hsn
        have HSN := Lib.hid hsn
        have HRN2 := Lib.hid hrn2
        have R12 := Lib.hid run12
        clear hrp hF10 h10 hq h11 hq2 hb11 h12 hb12 hsn hrn2 run12 HSW y0
        go_wp2_with (at_builtin; refine wpList_append_run _ rfl (.tmp 39) (.tmp 41) 23 rfl _ _ _ _ rfl rfl R12.out ?_; clear R12)
        go_roundw
        case rel => exact ⟨t + 1, an2, cn2, _, Rn2, _, by go_num, by omega, HRN2.out, HSN.out, HFIN.out⟩
        case measure => simp [intOf]; omega
    · obtain rfl : t = g.ns.length := by omega
      have j1 : ¬ (g.ns.length : Int) < g.ns.length := by omega
      have hbo := hF.1.block (List.mem_cons_self ..)
      have b0 := at_cell hbo 0 _ rfl
      have b1 := at_cell hbo 1 _ rfl
      rw [← HE0.out] at hF
      have hF := hF.perm (K' := (gb + 1 + 1 + 1, Obj.cells #[.slice none 0 0, .slice none 0 0] 25 (0, 0)) :: (((gb + 1 + 1, Obj.cells #[.int .i64 k] 3 (0, 0)) :: (gb + 1, Obj.cells #[.int .i64 i] 3 (0, 0)) :: (gb, Obj.cells #[.slice ar g.rs.length cr, .slice an g.ns.length cn] 25 (0, 0)) :: [(bo, Obj.cells #[.slice a1 g.rs.length d1, .slice an1 g.ns.length cn1] 25 (0, 0))]) ++ (Rr ++ (Rn ++ Rx)))) (permC fun x => by simp only [List.count_append, List.count_cons, List.append_assoc, List.cons_append]; ac_rfl)
      have hrb := hF.1.block (List.mem_cons_self ..)
      have r0 := at_cell hrb 0 _ rfl
      have r1 := at_cell hrb 1 _ rfl
      have f0 := at_free hrb 0
      have f1 := at_free hrb 1
      have hset2 := (hF.set 0 (.slice a1 g.rs.length d1)).set 1 (.slice an1 g.ns.length cn1)
      obtain ⟨w9, hw9⟩ : ∃ w9, (wr.setCell ⟨gb + 1 + 1 + 1, 0, none⟩ (.slice a1 g.rs.length d1)).setCell ⟨gb + 1 + 1 + 1, 1, none⟩ (.slice an1 g.ns.length cn1) = w9 := ⟨_, rfl⟩
      rw [hw9] at hset2
      have HW9 := Lib.hid hw9
      have hq := hset2.1.block (List.mem_cons_self ..)
      have c0 := at_cell hq 0 (.slice a1 g.rs.length d1) rfl
      have c1 := at_cell hq 1 (.slice an1 g.ns.length cn1) rfl
      have HFIN := Lib.hid (FKN.drop hset2.tail)
      have Hrn := Lib.hid hrn
      have Hnx := Lib.hid hnx
      clear hF hrn hnx hbo hrb hset2 hw9 hq hEL
      go_wp2_with (fail)
      rw [HW9.out]
      subst hgb
      refine bodyPost_ret (v := .agg #[.slice a1 g.rs.length d1, .slice an1 g.ns.length cn1]) (by simp [results, Try.results27, go_sem, c0, c1]) rfl ⟨a1, an1, d1, cn1, rfl, Rr ++ (Rn ++ Rx), ⟨Rr, Rn, xs, Rx, ?_, ?_, Hnx.out, rfl⟩, HFIN.out⟩
      · show Rw W0.heap.size _ 1 (g.rs.map _).length _ _ _ _
        rw [List.length_map]
        exact HRr.out.mono HS0.out
      · show Rw W0.heap.size _ 3 ((List.range g.ns.length).map _).length _ _ _ _
        rw [List.length_map, List.length_range]
        exact Hrn.out.mono HS0.out
end Go.Proofs.Ytplkogjnmjjjgaa
