/- The walk of the reference's Reach. -/
import Derived.Test.YtplkogjnmjjjgaaGMay
namespace Go.Proofs.Ytplkogjnmjjjgaa
open Go.ChangeShapes Go.WideShapes Go.ChangeAt Go.RowKit Go.Maps
set_option linter.unusedVariables false
set_option linter.unusedSimpArgs false

theorem GR.rowI {W0 w : World} {K : List (Nat × Obj)} {al : List Int} {a : Option Addr} {cap : Nat} (h : GR W0 K 3 1 al.length (icI al) a cap w) : RowI w a al := fun i hi => by
  obtain ⟨b, ha, hc⟩ := h.at_ (icI_get al i hi)
  exact ⟨b, 0, ha, by rw [Nat.zero_add]; exact hc⟩
/-- whether a node is met, as the guarded test shows it -/
theorem meet_cases (S : Mt) (z f s : Int) : (decide (0 ≤ z) = false ∧ meetM S z f s = S) ∨ (decide (0 ≤ z) = true ∧ decide (posP S.al z < 0) = false ∧ meetM S z f s = S) ∨ (decide (0 ≤ z) = true ∧ decide (posP S.al z < 0) = true ∧ meetM S z f s = ⟨S.al ++ [z], S.fr ++ [f], S.st ++ [s]⟩) := by
  unfold meetM
  by_cases h1 : z < 0
  · exact .inl ⟨decide_eq_false (by omega), if_pos (.inl h1)⟩
  · by_cases h2 : z ∈ S.al
    · refine .inr (.inl ⟨decide_eq_true (by omega), decide_eq_false ?_, if_pos (.inr h2)⟩)
      unfold posP
      rw [if_pos h2]
      omega
    · refine .inr (.inr ⟨decide_eq_true (by omega), decide_eq_true ?_, if_neg (by rw [not_or]; exact ⟨h1, h2⟩)⟩)
      unfold posP
      rw [if_neg h2]
      omega
set_option maxRecDepth 100000 in
set_option maxHeartbeats 4000000 in
theorem refReach_any {w : World} {ar an : Option Addr} {g : Gr} (cr cn : Nat) (hG : GRd w ar an g) (hfew : FewG g) (hmay : mayG g = true) :
    Calls Try.prog 22 #[.agg #[.slice ar g.rs.length cr, .slice an g.ns.length cn]] w fun e w' => ∃ al cap, e = .returned (.slice al (walkG g).al.length cap) ∧ ∃ R, Rw w.heap.size 3 1 (walkG g).al.length (icI (walkG g).al) al cap R ∧ FKN w R w' := by
  obtain ⟨i1, hj, hy0, hy1, hy2⟩ := info_parts int_info
  have h1 := (FKN.refl w).box #[.slice ar g.rs.length cr, .slice an g.ns.length cn] 25
  have l1 : (g.rs.length : Int) ≤ 3000 := by have := hfew.rs; omega
  have hN := hfew.ns
  have l2 : (g.ns.length : Int) ≤ 3000 := by omega
  have HG := Lib.hid hG
  have Hfew := Lib.hid hfew
  have Hmr := Lib.hid (mayG_roots hmay)
  have Hmp := Lib.hid (mayG_ps hmay)
  obtain ⟨gb, hgb⟩ : ∃ gb, w.heap.size = gb := ⟨_, rfl⟩
  simp only [hgb] at h1
  obtain ⟨K, hK⟩ : ∃ K, [(gb, Obj.cells #[.slice ar g.rs.length cr, .slice an g.ns.length cn] 25 (0, 0))] = K := ⟨_, rfl⟩
  rw [hK] at h1
  have HK := Lib.hid hK
  have Hcs := Lib.hid (show ∀ W, KB w K W → W.cell? ⟨gb, 0, none⟩ = some (.slice ar g.rs.length cr) ∧ W.cell? ⟨gb, 1, none⟩ = some (.slice an g.ns.length cn) from fun W hW => by
    subst hK
    exact ⟨at_cell (hW.block (List.mem_cons_self ..)) 0 _ rfl, at_cell (hW.block (List.mem_cons_self ..)) 1 _ rfl⟩)
  have H1 := Lib.hid (GR.none' h1.1 3 1)
  obtain ⟨WG, hWG⟩ : ∃ WG, walkG g = WG := ⟨_, rfl⟩
  rw [hWG]
  have HWG := Lib.hid hWG
  obtain ⟨S1, hS1⟩ : ∃ S1, meetL (-1) g.rs 0 ⟨[], [], []⟩ = S1 := ⟨_, rfl⟩
  have HS1 := Lib.hid hS1
  clear h1 hG hfew hmay hK hWG hS1
  go_enter Try.func22, Try.ntmps22
  go_wp2_with (fail)
  go_loopw [3, 4] (fun ov iv wr => ∃ (k : Nat) (S : Mt) (al : Option Addr) (cap : Nat), ov = .slice al S.al.length cap ∧ iv = .int .i64 k ∧ k ≤ g.rs.length ∧ MOk g.ns.length S ∧ meetL (-1) (g.rs.drop k) k S = S1 ∧ GR w K 3 1 S.al.length (icI S.al) al cap wr) (fun _ iv _ => g.rs.length - (intOf iv).toNat)
  case atStart => exact ⟨0, ⟨[], [], []⟩, none, 0, rfl, rfl, by omega, MOk.empty _, HS1.out, H1.out⟩
  case round =>
    clear H1
    obtain ⟨k, S, al, cap, rfl, rfl, hk, hOk, hml, hG⟩ := hrel
    obtain ⟨c0, c1⟩ := Hcs.out _ hG.full
    have hal := hOk.len
    by_cases hlt : k < g.rs.length
    · rw [meetL_next _ _ _ _ hlt] at hml
      have hin := Hmr.out (g.rs.getD k 0) (getD_mem 0 hlt)
      obtain ⟨b, off, ha, hc⟩ := (HG.out.roots.below hG.below).cell
      obtain rfl : ar = some ⟨b, off, none⟩ := by
        rcases ha with e | e
        · rw [e] at hlt; cases hlt
        · exact e
      have q0 := hc k hlt
      have hcas := meet_cases S (g.rs.getD k 0) (-1) (k : Int)
      have HOk := Lib.hid (hOk.meet (f := -1) (s := (k : Int)) hin)
      generalize g.rs.getD k 0 = z at *
      have HAT := Lib.hid (at_any cap z hG.rowI (by omega))
      have k1 : (k : Int) < g.rs.length := by omega
      have k2 : (0 : Int) ≤ k := by omega
      have k3 : ((k : Int)).toNat = k := by omega
      clear hc ha hin hOk
      rcases hcas with ⟨h1, h2⟩ | ⟨h1, h2, h3⟩ | ⟨h1, h2, h3⟩
      · rw [h2] at hml HOk
        have Hml := Lib.hid hml
        have HG1 := Lib.hid hG
        clear hml h2 hG HAT
        go_wp2_with (fail)
        go_roundw
        case rel => exact ⟨k + 1, S, al, cap, rfl, by go_num, by omega, HOk.out, Hml.out, HG1.out⟩
        case measure => simp [intOf]; omega
      · rw [h3] at hml HOk
        have Hml := Lib.hid hml
        have HG1 := Lib.hid hG
        clear hml h3 hG
        generalize posP S.al z = P at *
        go_wp2_with (go_at_call 50; refine HAT.out.mono ?_; rintro e w2 ⟨rfl, rfl⟩)
        go_roundw
        case rel => exact ⟨k + 1, S, al, cap, rfl, by go_num, by omega, HOk.out, Hml.out, HG1.out⟩
        case measure => simp [intOf]; omega
      · rw [h3] at hml HOk
        have Hml := Lib.hid hml
        obtain ⟨x, cx, w5, hrun, hG5⟩ := hG.append1 hj hy0 hy1 hy2 rfl Try.underlying22 (.int .i64 z) rfl (by unfold maxLen; omega) (by omega)
        rw [← icI_snoc] at hG5
        have HG5 := Lib.hid hG5
        have HR := Lib.hid hrun
        clear hml h3 hG hG5 hrun
        generalize posP S.al z = P at *
        go_wp2_with (first
          | (go_at_call 50; refine HAT.out.mono ?_; rintro e w2 ⟨rfl, rfl⟩)
          | (at_builtin; refine wpList_append_run _ rfl (.tmp 31) (.tmp 37) 22 rfl _ _ _ _ rfl rfl HR.out ?_))
        go_roundw
        case rel => exact ⟨k + 1, ⟨S.al ++ [z], S.fr ++ [-1], S.st ++ [(k : Int)]⟩, x, cx, by simp, by go_num, by omega, HOk.out, Hml.out, by simpa using HG5.out⟩
        case measure => simp [intOf]; omega
    · obtain rfl : k = g.rs.length := by omega
      rw [meetL_end] at hml
      subst hml
      have k1 : ¬ (g.rs.length : Int) < g.rs.length := by omega
      have HGR := Lib.hid hG
      have HOk := Lib.hid hOk
      have HW1 := Lib.hid (show walkL g.ns (g.ns.length + 1) 0 S = WG by rw [← HWG.out]; unfold walkG; rw [HS1.out])
      clear hG hOk
      go_wp2_with (fail)
      clear c0 c1
      go_loopw [3, 5] (fun ov iv wr => ∃ (i fuel : Nat) (S : Mt) (al : Option Addr) (cap : Nat), ov = .slice al S.al.length cap ∧ iv = .int .i64 i ∧ fuel + i = g.ns.length + 1 ∧ i ≤ S.al.length ∧ MOk g.ns.length S ∧ walkL g.ns fuel i S = WG ∧ GR w K 3 1 S.al.length (icI S.al) al cap wr) (fun _ iv _ => g.ns.length + 1 - (intOf iv).toNat)
      case atStart => exact ⟨0, _, S, al, cap, rfl, rfl, rfl, by omega, HOk.out, HW1.out, HGR.out⟩
      case round =>
        clear HGR HW1 HOk
        obtain ⟨i, fuel, S, al, cap, rfl, rfl, hfu, hi, hOk, hwl, hG⟩ := hrel
        have hal := hOk.len
        obtain ⟨c0, c1⟩ := Hcs.out _ hG.full
        by_cases hlt : i < S.al.length
        · obtain ⟨fl, rfl⟩ : ∃ fl, fuel = fl + 1 := ⟨fuel - 1, by omega⟩
          rw [walkL, if_pos hlt] at hwl
          obtain ⟨b0, rfl, hz⟩ := hG.at_ (icI_get S.al i hlt)
          have hzz := hOk.lt (S.al.getD i 0) (getD_mem 0 hlt)
          generalize S.al.getD i 0 = z at *
          obtain ⟨q, rfl⟩ : ∃ q : Nat, z = q := ⟨z.toNat, by omega⟩
          obtain ⟨bn, on, ap, af, aw, cp, cf, cw, rfl, hx0, n0, n1, n2⟩ := HG.out.nodes.at_ (show q < g.ns.length by omega)
          have hps : psAt g.ns (q : Int) = (g.ns.getD q default).ps := by unfold psAt; rw [Int.toNat_natCast]
          have hpin := Hmp.out (q : Int)
          have hpl := (Hfew.out.each _ (getD_mem default (show q < g.ns.length by omega))).1
          rw [hps] at hwl hpin
          generalize g.ns.getD q default = xx at *
          obtain ⟨ps, fs, ws⟩ := xx
          simp only at *
          have m0 := cellB (hG.grow (below_drew wr)).below (Nat.le_refl _) n0
          have m1 := cellB (hG.grow (below_drew wr)).below (Nat.le_refl _) n1
          have m2 := cellB (hG.grow (below_drew wr)).below (Nat.le_refl _) n2
          have Hp := Lib.hid hx0.ps
          have Hpin := Lib.hid hpin
          have Hwl := Lib.hid hwl
          have HGd := Lib.hid (hG.grow (below_drew _))
          have HOk := Lib.hid hOk
          have k1 : (i : Int) < S.al.length := by omega
          have k2 : (0 : Int) ≤ i := by omega
          have k3 : ((i : Int)).toNat = i := by omega
          have q1 : (q : Int) < g.ns.length := by omega
          have q2 : (0 : Int) ≤ q := by omega
          have q3 : ((q : Int)).toNat = q := by omega
          have p1 : (ps.length : Int) ≤ 3000 := by omega
          obtain ⟨S2, hS2⟩ : ∃ S2, meetL (i : Int) ps 0 S = S2 := ⟨_, rfl⟩
          rw [hS2] at Hwl
          have HS2 := Lib.hid hS2
          clear hG hwl hx0 hps hpin hOk hS2 n0 n1 n2 hzz
          go_wp2_with (fail)
          clear c0 c1
          obtain ⟨c0, c1⟩ := Hcs.out _ HGd.out.full
          have hz := cellB (below_drew wr) (Nat.le_refl _) hz
          have hS : ∀ W', Below wr.drew.heap.size wr.drew W' → W'.cell? ⟨gb, 1, none⟩ = some (.slice (some ⟨bn, on, none⟩) g.ns.length cn) ∧ W'.cell? ⟨b0, i, none⟩ = some (.int .i64 (q : Int)) ∧ W'.cell? ⟨bn, on + q * 3, none⟩ = some (.slice ap ps.length cp) ∧ W'.cell? ⟨bn, on + q * 3 + 1, none⟩ = some (.slice af fs.length cf) ∧ W'.cell? ⟨bn, on + q * 3 + 2, none⟩ = some (.slice aw ws.length cw) := fun W' hW =>
            ⟨cellB hW (Nat.le_refl _) c1, cellB hW (Nat.le_refl _) hz, cellB hW (Nat.le_refl _) m0, cellB hW (Nat.le_refl _) m1, cellB hW (Nat.le_refl _) m2⟩
          have HS := Lib.hid hS
          clear hS
          refine wp_region_heldL (S := fun W' => W'.cell? ⟨gb, 1, none⟩ = some (.slice (some ⟨bn, on, none⟩) g.ns.length cn) ∧ W'.cell? ⟨b0, i, none⟩ = some (.int .i64 (q : Int)) ∧ W'.cell? ⟨bn, on + q * 3, none⟩ = some (.slice ap ps.length cp) ∧ W'.cell? ⟨bn, on + q * 3 + 1, none⟩ = some (.slice af fs.length cf) ∧ W'.cell? ⟨bn, on + q * 3 + 2, none⟩ = some (.slice aw ws.length cw)) (by kernel_rfl) (HS.out _ (Below.refl _ _)) (fun hHeld => ?_)
          generalize wr.drew = W2 at *
          refine wpAnyL_take (i := 0) (v := ?_) rfl (by kernel_rfl) (by kernel_rfl) (by kernel_rfl) (by kernel_rfl) (fun _ _ _ h => h) (Or.inl ⟨by kernel_rfl, ?_⟩) (by assumption) ?_
          rotate_left
          · (intro w hSw; (try dsimp only at hSw); go_simp; try with_reducible rfl)
          simp only [Act.put, List.setIfInBounds_toArray, List.set_cons_zero, List.set_cons_succ]
          refine wpAnyL_take (i := 1) (v := ?_) rfl (by kernel_rfl) (by kernel_rfl) (by kernel_rfl) (by kernel_rfl) (fun _ _ _ h => h) (Or.inl ⟨by kernel_rfl, ?_⟩) (by assumption) ?_
          rotate_left
          · (intro w hSw; (try dsimp only at hSw); go_simp; try with_reducible rfl)
          simp only [Act.put, List.setIfInBounds_toArray, List.set_cons_zero, List.set_cons_succ]
          refine wpAnyL_take (i := 2) (v := ?_) rfl (by kernel_rfl) (by kernel_rfl) (by kernel_rfl) (by kernel_rfl) (fun _ _ _ h => h) (Or.inl ⟨by kernel_rfl, ?_⟩) (by assumption) ?_
          rotate_left
          · (intro w hSw; (try dsimp only at hSw); go_simp; try with_reducible rfl)
          simp only [Act.put, List.setIfInBounds_toArray, List.set_cons_zero, List.set_cons_succ]
          refine wpAnyL_take (i := 3) (v := ?_) rfl (by kernel_rfl) (by kernel_rfl) (by kernel_rfl) (by kernel_rfl) (fun _ _ _ h => h) (Or.inl ⟨by kernel_rfl, ?_⟩) (by assumption) ?_
          rotate_left
          · (intro w hSw; (try dsimp only at hSw); go_simp; try with_reducible rfl)
          simp only [Act.put, List.setIfInBounds_toArray, List.set_cons_zero, List.set_cons_succ]
          refine wpAnyL_take (i := 4) (v := ?_) rfl (by kernel_rfl) (by kernel_rfl) (by kernel_rfl) (by kernel_rfl) (fun _ _ _ h => h) (Or.inl ⟨by kernel_rfl, ?_⟩) (by assumption) ?_
          rotate_left
          · (intro w hSw; (try dsimp only at hSw); go_simp; try with_reducible rfl)
          simp only [Act.put, List.setIfInBounds_toArray, List.set_cons_zero, List.set_cons_succ]
          refine wpAnyL_take (i := 5) (v := ?_) rfl (by kernel_rfl) (by kernel_rfl) (by kernel_rfl) (by kernel_rfl) (fun _ _ _ h => h) (Or.inl ⟨by kernel_rfl, ?_⟩) (by assumption) ?_
          rotate_left
          · (intro w hSw; (try dsimp only at hSw); go_simp; try with_reducible rfl)
          simp only [Act.put, List.setIfInBounds_toArray, List.set_cons_zero, List.set_cons_succ]
          refine wpAnyL_take (i := 6) (v := ?_) rfl (by kernel_rfl) (by kernel_rfl) (by kernel_rfl) (by kernel_rfl) (fun _ _ _ h => h) (Or.inl ⟨by kernel_rfl, ?_⟩) (by assumption) ?_
          rotate_left
          · (intro w hSw; (try dsimp only at hSw); go_simp; try with_reducible rfl)
          simp only [Act.put, List.setIfInBounds_toArray, List.set_cons_zero, List.set_cons_succ]
          refine wpAnyL_take (i := 7) (v := ?_) rfl (by kernel_rfl) (by kernel_rfl) (by kernel_rfl) (by kernel_rfl) (fun _ _ _ h => h) (Or.inl ⟨by kernel_rfl, ?_⟩) (by assumption) ?_
          rotate_left
          · (intro w hSw; (try dsimp only at hSw); go_simp; try with_reducible rfl)
          simp only [Act.put, List.setIfInBounds_toArray, List.set_cons_zero, List.set_cons_succ]
          refine wpAnyL_one (i := 8) (by decide +kernel) rfl (fun K hK => ?_)
          go_simp
          refine hK.out _ _ (HS.out _ (below_new _ _)) (fun hHeld => ?_)
          clear hK K
          try simp only [Act.put, List.setIfInBounds_toArray, List.set_cons_zero, List.set_cons_succ]
          refine wpAnyL_last (i := 9) (by kernel_rfl) rfl (by kernel_rfl) (by kernel_rfl) (fun K hK => ?_)
          go_simp
          refine hK.out _ _ ?_
          clear hK K
          try simp only [Act.put, List.setIfInBounds_toArray, List.set_cons_zero, List.set_cons_succ]
          have hB := HGd.out.box #[.slice ap ps.length cp, .slice af fs.length cf, .slice aw ws.length cw] 47
          have hp4 := Hp.out.below hB.below
          obtain ⟨bx, hbx⟩ : ∃ bx, W2.heap.size = bx := ⟨_, rfl⟩
          simp only [hbx] at hB ⊢
          have HB := Lib.hid hB
          clear hHeld c0 c1 m0 m1 m2 hz HGd HS hbx hB hp4
          generalize W2.alloc (.cells #[.slice ap ps.length cp, .slice af fs.length cf, .slice aw ws.length cw] 47) = W3 at *
          have Hx := Lib.hid (show ∀ W, KB w ((bx, Obj.cells #[.slice ap ps.length cp, .slice af fs.length cf, .slice aw ws.length cw] 47 (0, 0)) :: K) W → W.cell? ⟨bx, 0, none⟩ = some (.slice ap ps.length cp) from fun W hW => at_cell (hW.block (List.mem_cons_self ..)) 0 _ rfl)
          go_wp2_with (fail)
          go_loopw [3, 7] (fun ov jv wr => ∃ (k : Nat) (T : Mt) (al : Option Addr) (cap : Nat), ov = .slice al T.al.length cap ∧ jv = .int .i64 k ∧ k ≤ ps.length ∧ MOk g.ns.length T ∧ S.al.length ≤ T.al.length ∧ meetL (i : Int) (ps.drop k) k T = S2 ∧ GR w ((bx, Obj.cells #[.slice ap ps.length cp, .slice af fs.length cf, .slice aw ws.length cw] 47 (0, 0)) :: K) 3 1 T.al.length (icI T.al) al cap wr) (fun _ jv _ => ps.length - (intOf jv).toNat)
          case atStart => exact ⟨0, S, _, _, rfl, rfl, by omega, HOk.out, Nat.le_refl _, HS2.out, HB.out⟩
          case round =>
            clear HB HOk
            obtain ⟨k, T, al2, cap2, rfl, rfl, hk, hOk, hlen, hml, hG⟩ := hrel
            have halT := hOk.len
            have d0 := Hx.out _ hG.full
            by_cases hlt2 : k < ps.length
            · rw [meetL_next _ _ _ _ hlt2] at hml
              have hin := Hpin.out (ps.getD k 0) (getD_mem 0 hlt2)
              obtain ⟨b, off, ha, hc⟩ := (Hp.out.below hG.below).cell
              obtain rfl : ap = some ⟨b, off, none⟩ := by
                rcases ha with e | e
                · rw [e] at hlt2; cases hlt2
                · exact e
              have q0 := hc k hlt2
              have hl2 := meetM_len T (ps.getD k 0) (i : Int) (k : Int)
              have hcas := meet_cases T (ps.getD k 0) (i : Int) (k : Int)
              have HOk := Lib.hid (hOk.meet (f := (i : Int)) (s := (k : Int)) hin)
              generalize ps.getD k 0 = z at *
              have HAT := Lib.hid (at_any cap2 z hG.rowI (by omega))
              have j1 : (k : Int) < ps.length := by omega
              have j2 : (0 : Int) ≤ k := by omega
              have j3 : ((k : Int)).toNat = k := by omega
              clear hc ha hin hOk
              rcases hcas with ⟨h1, h2⟩ | ⟨h1, h2, h3⟩ | ⟨h1, h2, h3⟩
              · rw [h2] at hml HOk
                have Hml := Lib.hid hml
                have HG1 := Lib.hid hG
                clear hml h2 hG HAT hl2
                go_wp2_with (fail)
                go_roundw
                case rel => exact ⟨k + 1, T, al2, cap2, rfl, by go_num, by omega, HOk.out, by omega, Hml.out, HG1.out⟩
                case measure => simp [intOf]; omega
              · rw [h3] at hml HOk
                have Hml := Lib.hid hml
                have HG1 := Lib.hid hG
                clear hml h3 hG hl2
                generalize posP T.al z = P at *
                go_wp2_with (go_at_call 50; refine HAT.out.mono ?_; rintro e w2 ⟨rfl, rfl⟩)
                go_roundw
                case rel => exact ⟨k + 1, T, al2, cap2, rfl, by go_num, by omega, HOk.out, by omega, Hml.out, HG1.out⟩
                case measure => simp [intOf]; omega
              · rw [h3] at hml HOk hl2
                have Hml := Lib.hid hml
                obtain ⟨x, cx, w5, hrun, hG5⟩ := hG.append1 hj hy0 hy1 hy2 rfl Try.underlying22 (.int .i64 z) rfl (by unfold maxLen; omega) (by omega)
                rw [← icI_snoc] at hG5
                have HG5 := Lib.hid hG5
                have HR := Lib.hid hrun
                have Hl2 := Lib.hid hl2
                clear hml h3 hG hG5 hrun hl2
                generalize posP T.al z = P at *
                go_wp2_with (first
                  | (go_at_call 50; refine HAT.out.mono ?_; rintro e w2 ⟨rfl, rfl⟩)
                  | (at_builtin; refine wpList_append_run _ rfl (.tmp 76) (.tmp 82) 22 rfl _ _ _ _ rfl rfl HR.out ?_))
                go_roundw
                case rel => exact ⟨k + 1, ⟨T.al ++ [z], T.fr ++ [(i : Int)], T.st ++ [(k : Int)]⟩, x, cx, by simp, by go_num, by omega, HOk.out, by have := Hl2.out; simp only at this ⊢; omega, Hml.out, by simpa using HG5.out⟩
                case measure => simp [intOf]; omega
            · obtain rfl : k = ps.length := by omega
              rw [meetL_end] at hml
              subst hml
              have j1 : ¬ (ps.length : Int) < ps.length := by omega
              have HG1 := Lib.hid hG
              have HOk := Lib.hid hOk
              clear hG hOk
              go_wp2_with (fail)
              go_roundw
              case rel => exact ⟨i + 1, fl, T, _, _, rfl, by go_num, by omega, by omega, HOk.out, Hwl.out, HG1.out.tail⟩
              case measure => simp [intOf]; omega
        · have k1 : ¬ (i : Int) < S.al.length := by omega
          have hSW : S = WG := by
            obtain ⟨f, rfl⟩ : ∃ f, fuel = f + 1 := ⟨fuel - 1, by omega⟩
            rw [walkL, if_neg hlt] at hwl
            exact hwl
          obtain ⟨R, hr, hN⟩ := (hG.sub (K' := []) (fun x hx => by cases hx)).rw (by simp) (fun x hx => by cases hx)
          rw [List.append_nil] at hN
          have HRW := Lib.hid hr
          have HN := Lib.hid hN
          have HSW := Lib.hid hSW
          clear hG hwl hSW hr hN
          go_wp2_with (fail)
          go_ret
          subst hgb
          rw [← HSW.out]
          exact ⟨al, cap, rfl, R, HRW.out, HN.out⟩
end Go.Proofs.Ytplkogjnmjjjgaa
