/- The walk of graph.walk: all nodes that are reached are met. -/
import Derived.Test.YtplkogjnmjjjgaaGMeet
import Derived.BigQuiet
namespace Go.Proofs.Ytplkogjnmjjjgaa
open Go.ChangeShapes Go.WideShapes Go.ChangeAt Go.RowKit Go.Maps
set_option linter.unusedVariables false
set_option linter.unusedSimpArgs false

theorem below_drewN' (n : Nat) (w : World) : Below w.heap.size w (w.drewN n) := ⟨rfl, rfl, rfl, Nat.le_refl _, fun _ _ => rfl⟩
theorem FKN.obj {W0 w : World} {K : List (Nat × Obj)} (h : FKN W0 K w) (o : Obj) : FKN W0 ((w.heap.size, o) :: K) (w.alloc o) := by
  refine ⟨h.1.adopt (below_new w _) (Nat.le_refl _) (heap_alloc_new w _), ?_, fun x hx => ?_⟩
  · rw [List.map_cons, List.nodup_cons]
    refine ⟨fun hm => ?_, h.2.1⟩
    rw [List.mem_map] at hm
    obtain ⟨x, hx, e⟩ := hm
    have := h.1.old x hx
    simp only at e
    omega
  · simp only [List.mem_cons] at hx
    rcases hx with rfl | hx
    · exact h.1.below.size
    · exact h.2.2 x hx
theorem meetM_len (S : Mt) (k f s : Int) : S.al.length ≤ (meetM S k f s).al.length := by
  unfold meetM
  split
  · exact Nat.le_refl _
  · simp
theorem meetL_next (f : Int) (l : List Int) (i : Nat) (S : Mt) (h : i < l.length) : meetL f (l.drop i) i S = meetL f (l.drop (i + 1)) (i + 1) (meetM S (l.getD i 0) f (i : Int)) := by
  have := meetL_step f l 0 i S h
  simpa using this
theorem MetS.below {W0 w : World} {p mb : Nat} {S : Mt} {E : List (Nat × Obj)} (h : MetS W0 p mb S E w) : Below W0.heap.size W0 w := by
  obtain ⟨o, a0, a2, a3, c0, c2, c3, R0, R2, R3, h1, h2⟩ := h
  exact h2.all.1.below
theorem MetS.inE {W0 w : World} {p mb : Nat} {S : Mt} {E : List (Nat × Obj)} (h : MetS W0 p mb S E w) {x : Nat × Obj} (hx : x ∈ E) : w.heap[x.1]? = some x.2 := by
  obtain ⟨o, a0, a2, a3, c0, c2, c3, R0, R2, R3, h1, h2⟩ := h
  exact h2.inE hx
theorem MetS.tailE {W0 w : World} {p mb : Nat} {S : Mt} {x : Nat × Obj} {E : List (Nat × Obj)} (h : MetS W0 p mb S (x :: E) w) : MetS W0 p mb S E w := by
  obtain ⟨o, a0, a2, a3, c0, c2, c3, R0, R2, R3, h1, h2⟩ := h
  exact ⟨o, a0, a2, a3, c0, c2, c3, R0, R2, R3, h1, h2.dropE (X := [x])⟩
/-- the row of the nodes met -/
theorem MetS.row {W0 w : World} {p mb : Nat} {S : Mt} {E : List (Nat × Obj)} (h : MetS W0 p mb S E w) : ∃ a0 c0, w.cell? ⟨p, 0, none⟩ = some (.slice a0 S.al.length c0) ∧ ∀ i, i < S.al.length → ∃ b, a0 = some ⟨b, 0, none⟩ ∧ w.cell? ⟨b, i, none⟩ = some (.int .i64 (S.al.getD i 0)) := by
  obtain ⟨o, a0, a2, a3, c0, c2, c3, R0, R2, R3, h1, h2⟩ := h
  exact ⟨a0, c0, h2.cell.1, fun i hi => h2.r0.at_ h2.all.1 (fun x hx => List.mem_cons_of_mem _ (List.mem_cons_of_mem _ (List.mem_append_left _ hx))) (icI_get _ i hi)⟩
theorem heap_size_alloc (w : World) (o : Obj) : (w.alloc o).heap.size = w.heap.size + 1 := by simp
set_option maxRecDepth 100000 in
set_option maxHeartbeats 4000000 in
theorem walk_any {W0 w : World} {E : List (Nat × Obj)} (h : FKN W0 E w) {ar an : Option Addr} {g : Gr} (cr cn : Nat) (hG : GRd W0 ar an g) (hmay : mayG g = true) (hN : g.ns.length ≤ 3000) (hR : g.rs.length ≤ 3000) :
    Calls Try.prog 37 #[.agg #[.slice ar g.rs.length cr, .slice an g.ns.length cn]] w fun e w' => ∃ p mb, e = .returned (.pointer (some ⟨p, 0, none⟩)) ∧ MetS W0 p mb (walkG g) E w' := by
  have hmm : ∀ w : World, (Instr.makeMap 71 none).run Try.prog w = .ok (.map (some w.heap.size)) (w.alloc (.map #[] 0)) := fun w => by kernel_rfl
  have h1 := h.obj (.cells #[.slice ar g.rs.length cr, .slice an g.ns.length cn] 25)
  have h2 := h1.obj (.map #[] 0)
  have h3 := h2.obj (.cells #[.slice none 0 0, .map (some (w.heap.size + 1)), .slice none 0 0, .slice none 0 0] 73)
  simp only [heap_size_alloc] at h3
  have hM : MetS W0 (w.heap.size + 1 + 1) (w.heap.size + 1) ⟨[], [], []⟩ ((w.heap.size, .cells #[.slice ar g.rs.length cr, .slice an g.ns.length cn] 25 (0, 0)) :: E) (((w.alloc (.cells #[.slice ar g.rs.length cr, .slice an g.ns.length cn] 25)).alloc (.map #[] 0)).alloc (.cells #[.slice none 0 0, .map (some (w.heap.size + 1)), .slice none 0 0, .slice none 0 0] 73)) :=
    ⟨.map #[] 0, none, none, none, 0, 0, 0, [], [], [], IM.made, Rw.nil _ _ _, Rw.nil _ _ _, Rw.nil _ _ _, h3⟩
  have HM := Lib.hid hM
  have HG := Lib.hid hG
  have Hmr := Lib.hid (mayG_roots hmay)
  have Hmp := Lib.hid (mayG_ps hmay)
  obtain ⟨WG, hWG⟩ : ∃ WG, walkG g = WG := ⟨_, rfl⟩
  rw [hWG]
  have HWG := Lib.hid hWG
  obtain ⟨S1, hS1⟩ : ∃ S1, meetL (-1) g.rs 0 ⟨[], [], []⟩ = S1 := ⟨_, rfl⟩
  have HS1 := Lib.hid hS1
  clear h h1 h2 h3 hM hG hmay hWG hS1
  have hr1 : (g.rs.length : Int) ≤ 3000 := by omega
  have hn1 : (g.ns.length : Int) ≤ 3000 := by omega
  obtain ⟨gb, hgb⟩ : ∃ gb, w.heap.size = gb := ⟨_, rfl⟩
  have c0 := at_cell (by simpa using blockB (seq (below_new (w.alloc (.cells #[.slice ar g.rs.length cr, .slice an g.ns.length cn] 25)) (.map #[] 0)) (below_new _ (.cells #[.slice none 0 0, .map (some (w.heap.size + 1)), .slice none 0 0, .slice none 0 0] 73))) (Nat.le_refl _) (heap_alloc_new w (.cells #[.slice ar g.rs.length cr, .slice an g.ns.length cn] 25))) 0 (.slice ar g.rs.length cr) rfl
  simp only [hgb] at HM c0
  go_enter Try.func37, Try.ntmps37
  go_wp2_with (fail)
  obtain ⟨E1, hE1⟩ : ∃ E1, (gb, Obj.cells #[.slice ar g.rs.length cr, .slice an g.ns.length cn] 25 (0, 0)) :: E = E1 := ⟨_, rfl⟩
  have HE1 := Lib.hid hE1
  have Hgc := Lib.hid (show ∀ S W, MetS W0 (gb + 1 + 1) (gb + 1) S E1 W → W.cell? ⟨gb, 1, none⟩ = some (.slice an g.ns.length cn) from fun S W hW => at_cell (hW.inE (x := (gb, Obj.cells #[.slice ar g.rs.length cr, .slice an g.ns.length cn] 25 (0, 0))) (by rw [← hE1]; exact List.mem_cons_self ..)) 1 _ rfl)
  rw [hE1] at HM
  clear hE1 c0
  go_loopw [15] (fun iv wr => ∃ (k : Nat) (S : Mt), iv = .int .i64 k ∧ k ≤ g.rs.length ∧ MOk g.ns.length S ∧ meetL (-1) (g.rs.drop k) k S = S1 ∧ MetS W0 (gb + 1 + 1) (gb + 1) S E1 wr) (fun iv _ => g.rs.length - (intOf iv).toNat)
  case atStart => exact ⟨0, _, rfl, by omega, MOk.empty _, HS1.out, HM.out⟩
  case round =>
    clear HM
    obtain ⟨k, S, rfl, hk, hOk, hml, hM⟩ := hrel
    by_cases hlt : k < g.rs.length
    · rw [meetL_next _ _ _ _ hlt] at hml
      have hin := Hmr.out (g.rs.getD k 0) (by rw [List.getD_eq_getElem?_getD, List.getElem?_eq_getElem hlt]; exact List.getElem_mem hlt)
      obtain ⟨b, off, ha, hc⟩ := (HG.out.below hM.below).roots.cell
      obtain rfl : ar = some ⟨b, off, none⟩ := by
        rcases ha with e | e
        · rw [e] at hlt; simp at hlt
        · exact e
      have c1 := hc k hlt
      generalize g.rs.getD k 0 = z at *
      have HME := Lib.hid (meet_any hM hOk (by omega) z (-1) k hin)
      have HOk := Lib.hid (hOk.meet (f := -1) (s := (k : Int)) hin)
      have Hml := Lib.hid hml
      have k1 : (k : Int) < g.rs.length := by omega
      have k2 : (0 : Int) ≤ k := by omega
      have k3 : ((k : Int)).toNat = k := by omega
      clear hml hM hOk hc ha hin
      go_wp2_with (go_at_call 79; refine HME.out.mono ?_; rintro e w2 ⟨rfl, h2⟩; have H2 := Lib.hid h2; clear h2)
      go_roundw
      case rel => exact ⟨k + 1, _, by go_num, by omega, HOk.out, Hml.out, H2.out⟩
      case measure => simp [intOf]; omega
    · obtain rfl : k = g.rs.length := by omega
      rw [meetL_end] at hml
      subst hml
      have k1 : ¬ (g.rs.length : Int) < g.rs.length := by omega
      have HM := Lib.hid hM
      have HOk := Lib.hid hOk
      have HW1 := Lib.hid (show walkL g.ns (g.ns.length + 1) 0 S = WG by rw [← HWG.out]; unfold walkG; rw [HS1.out])
      clear hM hOk
      go_wp2_with (fail)
      go_loopw [6] (fun iv wr => ∃ (i fuel : Nat) (S : Mt), iv = .int .i64 i ∧ fuel + i = g.ns.length + 1 ∧ i ≤ S.al.length ∧ MOk g.ns.length S ∧ walkL g.ns fuel i S = WG ∧ MetS W0 (gb + 1 + 1) (gb + 1) S E1 wr) (fun iv _ => g.ns.length + 1 - (intOf iv).toNat)
      case atStart => exact ⟨0, _, S, rfl, rfl, by omega, HOk.out, HW1.out, HM.out⟩
      case round =>
        clear HM HW1 HOk
        obtain ⟨i, fuel, S, rfl, hfu, hi, hOk, hwl, hM⟩ := hrel
        have hal := hOk.len
        obtain ⟨a0, d0, e0, hrow⟩ := hM.row
        by_cases hlt : i < S.al.length
        · obtain ⟨fl, rfl⟩ : ∃ fl, fuel = fl + 1 := ⟨fuel - 1, by omega⟩
          rw [walkL, if_pos hlt] at hwl
          obtain ⟨b0, rfl, hz⟩ := hrow i hlt
          have hzz := hOk.lt (S.al.getD i 0) (by rw [List.getD_eq_getElem?_getD, List.getElem?_eq_getElem hlt]; exact List.getElem_mem hlt)
          generalize S.al.getD i 0 = z at *
          obtain ⟨q, rfl⟩ : ∃ q : Nat, z = q := ⟨z.toNat, by omega⟩
          obtain ⟨bn, on, ha, hc⟩ := HG.out.nodes.cell
          obtain rfl : an = some ⟨bn, on, none⟩ := by
            rcases ha with e | e
            · have e2 : g.ns.length = 0 := by rw [e]; rfl
              omega
            · exact e
          obtain ⟨⟨ap, cp, n00, hp⟩, -, -⟩ := hc q (by omega)
          have n0 := cellB hM.below (Nat.le_refl _) n00
          clear n00
          have hps : psAt g.ns (q : Int) = (g.ns.getD q default).ps := by unfold psAt; rw [Int.toNat_natCast]
          rw [← hps] at n0 hp
          have hpin := Hmp.out (q : Int)
          generalize psAt g.ns (q : Int) = ps at *
          have hgc := Hgc.out _ _ hM
          have Hp := Lib.hid hp
          have Hpin := Lib.hid hpin
          have hpm := hp.many
          unfold maxLen at hpm
          have Hwl := Lib.hid hwl
          have HM := Lib.hid (fun nq => hM.grow (below_drewN' nq _))
          have HOk := Lib.hid hOk
          have k1 : (i : Int) < S.al.length := by omega
          have k2 : (0 : Int) ≤ i := by omega
          have k3 : ((i : Int)).toNat = i := by omega
          have q1 : (q : Int) < g.ns.length := by omega
          have q2 : (0 : Int) ≤ q := by omega
          have q3 : ((q : Int)).toNat = q := by omega
          have p1 : (ps.length : Int) ≤ 9223372036854775807 := by omega
          clear hM hwl hrow hc ha hps hp hpin hOk
          obtain ⟨S2, hS2⟩ : ∃ S2, meetL (i : Int) ps 0 S = S2 := ⟨_, rfl⟩
          rw [hS2] at Hwl
          have HS2 := Lib.hid hS2
          clear hS2
          go_wp2_with (fail)
          go_quiet (fail)
          have HMq := Lib.hid (HM.out nq)
          have hbq := below_drewN' nq wr
          generalize wr.drewN nq = wq at *
          go_wp2_with (fail)
          clear HM hgc n0 e0 hz hbq
          go_loopw [47] (fun jv wr => ∃ (k : Nat) (T : Mt), jv = .int .i64 k ∧ k ≤ ps.length ∧ MOk g.ns.length T ∧ S.al.length ≤ T.al.length ∧ meetL (i : Int) (ps.drop k) k T = S2 ∧ MetS W0 (gb + 1 + 1) (gb + 1) T E1 wr) (fun jv _ => ps.length - (intOf jv).toNat)
          case atStart => exact ⟨0, S, rfl, by omega, HOk.out, Nat.le_refl _, HS2.out, HMq.out⟩
          case round =>
            clear HMq HOk
            obtain ⟨k, T, rfl, hk, hOk, hlen, hml, hM⟩ := hrel
            by_cases hlt2 : k < ps.length
            · rw [meetL_next _ _ _ _ hlt2] at hml
              have hin := Hpin.out (ps.getD k 0) (by rw [List.getD_eq_getElem?_getD, List.getElem?_eq_getElem hlt2]; exact List.getElem_mem hlt2)
              obtain ⟨b, off, ha, hc⟩ := (Hp.out.below hM.below).cell
              obtain rfl : ap = some ⟨b, off, none⟩ := by
                rcases ha with e | e
                · rw [e] at hlt2; simp at hlt2
                · exact e
              have c1 := hc k hlt2
              generalize ps.getD k 0 = z at *
              have HME := Lib.hid (meet_any hM hOk (by omega) z (i : Int) k hin)
              have HOk := Lib.hid (hOk.meet (f := (i : Int)) (s := (k : Int)) hin)
              have hl2 := meetM_len T z (i : Int) (k : Int)
              have Hml := Lib.hid hml
              have j1 : (k : Int) < ps.length := by omega
              have j2 : (0 : Int) ≤ k := by omega
              have j3 : ((k : Int)).toNat = k := by omega
              clear hml hM hOk hc ha hin
              go_wp2_with (go_at_call 79; refine HME.out.mono ?_; rintro e w2 ⟨rfl, h2⟩; have H2 := Lib.hid h2; clear h2)
              go_roundw
              case rel => exact ⟨k + 1, _, by go_num, by omega, HOk.out, by omega, Hml.out, H2.out⟩
              case measure => simp [intOf]; omega
            · obtain rfl : k = ps.length := by omega
              rw [meetL_end] at hml
              subst hml
              have j1 : ¬ (ps.length : Int) < ps.length := by omega
              have HM := Lib.hid hM
              have HOk := Lib.hid hOk
              clear hM hOk
              go_wp2_with (fail)
              go_roundw
              case rel => exact ⟨i + 1, fl, _, by go_num, by omega, by omega, HOk.out, Hwl.out, HM.out⟩
              case measure => simp [intOf]; omega
        · have k1 : ¬ (i : Int) < S.al.length := by omega
          have hSW : S = WG := by
            obtain ⟨f, rfl⟩ : ∃ f, fuel = f + 1 := ⟨fuel - 1, by omega⟩
            rw [walkL, if_neg hlt] at hwl
            exact hwl
          have HM := Lib.hid hM
          have HSW := Lib.hid hSW
          clear hM hwl hrow hSW
          go_wp2_with (fail)
          go_ret
          exact ⟨gb + 1 + 1, rfl, gb + 1, by rw [← HSW.out]; have hh := HM.out; rw [← HE1.out] at hh; exact hh.tailE⟩
end Go.Proofs.Ytplkogjnmjjjgaa
