/- The walk of the player's do. -/
import Derived.Test.YtkcijlndblbidaaTPq
import Derived.Deep.CutRange
namespace Go.Proofs.Ytkcijlndblbidaa
open Go.ChangeShapes Go.WideShapes Go.ChangeAt Go.RowKit
set_option linter.unusedVariables false
set_option linter.unusedSimpArgs false

def PlaySaid (W0 : World) (m wk n t p : Nat) (l : List RA) (i too : Nat) (g : Nat → Nat) (lg : List (Nat × Nat)) (st : PS) (E : List (Nat × Obj)) (w : World) : Prop :=
    too ≤ l.length → i ≤ too + 1 → szS st + 3 * (too + 1 - i) ≤ 5000 → lg.length + (too + 1 - i) ≤ 5000 → Small n g → PTs W0 m wk n t g lg p l st E w →
      Calls Try.prog 54 #[.pointer (some ⟨p, 0, none⟩), .pointer (some ⟨wk, 0, none⟩), .int .i64 i, .int .i64 too] w fun e w' =>
        e = endP (doG n l i too g st).bad ∧ ∃ l2, l2.length ≤ too - i ∧ undoG (doG n l i too g st).g l2 = g ∧ PTs W0 m wk n t (doG n l i too g st).g (lg ++ l2) p l (doG n l i too g st).st E w'
theorem small_put {n : Nat} {g : Nat → Nat} (h : Small n g) (p x : Nat) (hx : x < 18446744073709551616) : Small n (putG g p x) := by
  intro b hb
  unfold putG
  split
  · exact hx
  · exact h b hb
theorem doG_small_d (n : Nat) (l : List RA) (hk : ∀ x ∈ l, x.w < 18446744073709551616) (d : Nat) : ∀ (i too : Nat) (g : Nat → Nat) (st : PS), too - i ≤ d → too ≤ l.length → Small n g → Small n (doG n l i too g st).g := by
  induction d with
  | zero =>
    intro i too g st hd hl hg
    rw [doG, dif_neg (by omega)]
    exact hg
  | succ d ih =>
    intro i too g st hd hl hg
    by_cases hlt : i < too
    · have hw := hk (l.getD i default) (by rw [List.getD_eq_getElem?_getD, List.getElem?_eq_getElem (show i < l.length by omega)]; exact List.getElem_mem _)
      rw [doG, dif_pos hlt]
      simp only
      split
      · split
        · split
          · exact ih _ _ _ _ (by omega) hl (small_put hg _ _ hw)
          · exact ih _ _ _ _ (by omega) hl hg
        · exact hg
      · split
        · exact hg
        · split
          · refine ih _ _ _ _ (by omega) hl ?_
            split
            · exact hg
            · exact ih _ _ _ _ (by omega) (by omega) hg
          · exact ih _ _ _ _ (by omega) hl hg
    · rw [doG, dif_neg hlt]
      exact hg
theorem doG_small (n : Nat) (l : List RA) (i too : Nat) (g : Nat → Nat) (st : PS) (hk : ∀ x ∈ l, x.w < 18446744073709551616) (hl : too ≤ l.length) (hg : Small n g) : Small n (doG n l i too g st).g := doG_small_d n l hk _ i too g st (Nat.le_refl _) hl hg
/-- behind a Load: what the append of the loaded word rests on -/
theorem play_load {W0 w : World} {m wk n t : Nat} {g : Nat → Nat} {lg : List (Nat × Nat)} {p : Nat} {l : List RA} {st : PS} {E : List (Nat × Obj)} {b4 bx : Nat} {kz xa xe : Int} {xw : Nat} {a0 a1 a2 a3 a4 : Option Addr} {c0 c1 c2 c3 c4 : Nat} {R0 R1 R2 R3 R4 : List (Nat × Obj)}
    (h : PT1 W0 m wk n t g lg p l st ((bx, .cells #[.int .i64 kz, .int .i64 xa, .int .u64 xw, .int .i64 xe] 179 (0, 0)) :: (b4, .cells #[.pointer (some ⟨p, 0, none⟩)] 79 (0, 0)) :: E) a0 a1 a2 a3 a4 c0 c1 c2 c3 c4 R0 R1 R2 R3 R4 w) (hsz : szS st ≤ 100000) (v : Nat) :
    w.cell? ⟨b4, 0, none⟩ = some (.pointer (some ⟨p, 0, none⟩)) ∧ w.cell? ⟨bx, 1, none⟩ = some (.int .i64 xa) ∧ w.cell? ⟨p, 1, none⟩ = some (.slice a1 st.ld.length c1) ∧
    (w.alloc (.cells #[.int .u64 v] 23)).cell? ⟨p, 1, none⟩ = some (.slice a1 st.ld.length c1) ∧ (w.alloc (.cells #[.int .u64 v] 23)).cell? ⟨b4, 0, none⟩ = some (.pointer (some ⟨p, 0, none⟩)) ∧ (w.alloc (.cells #[.int .u64 v] 23)).cell? ⟨bx, 1, none⟩ = some (.int .i64 xa) ∧
    ∃ (x : Option Addr) (cx : Nat) (w6 : World) (Rx : List (Nat × Obj)), Hid ((Builtin.append_ #[69, 69] 69 #[.slice a1 st.ld.length c1, .slice (some ⟨w.heap.size, 0, none⟩) 1 1]).run Try.prog (w.alloc (.cells #[.int .u64 v] 23)) = .ok (.slice x (st.ld.length + 1) cx) w6) ∧
      w6.cell? ⟨b4, 0, none⟩ = some (.pointer (some ⟨p, 0, none⟩)) ∧ w6.cell? ⟨bx, 1, none⟩ = some (.int .i64 xa) ∧ w6.cell? ⟨p, 1, none⟩ = some (.slice a1 st.ld.length c1) ∧ w6.frozen? ⟨p, 1, none⟩ = false ∧
      (w6.setCell ⟨p, 1, none⟩ (.slice x (st.ld.length + 1) cx)).cell? ⟨b4, 0, none⟩ = some (.pointer (some ⟨p, 0, none⟩)) ∧ (w6.setCell ⟨p, 1, none⟩ (.slice x (st.ld.length + 1) cx)).cell? ⟨bx, 1, none⟩ = some (.int .i64 xa) ∧
      Hid (PT1 W0 m wk n t g lg p l { st with ld := st.ld ++ [v] } ((bx, .cells #[.int .i64 kz, .int .i64 xa, .int .u64 xw, .int .i64 xe] 179 (0, 0)) :: (b4, .cells #[.pointer (some ⟨p, 0, none⟩)] 79 (0, 0)) :: E) a0 x a2 a3 a4 c0 cx c2 c3 c4 R0 Rx R2 R3 R4 (w6.setCell ⟨p, 1, none⟩ (.slice x (st.ld.length + 1) cx))) := by
  have h8b := h.boxE #[.int .u64 v] 23
  obtain ⟨x, cx, w6, Rx, hrun6, hE6, hs6, h6⟩ := h.app1 v hsz
  exact ⟨at_cell (h.inE (List.mem_cons_of_mem _ (List.mem_cons_self ..))) 0 _ rfl, (act_cells (h.inE (List.mem_cons_self ..))).2.1, h.cell.2.1, h8b.cell.2.1, at_cell (h8b.inE (List.mem_cons_of_mem _ (List.mem_cons_of_mem _ (List.mem_cons_self ..)))) 0 _ rfl, (act_cells (h8b.inE (List.mem_cons_of_mem _ (List.mem_cons_self ..)))).2.1,
    x, cx, w6, Rx, hrun6, at_cell (hE6 _ (List.mem_cons_of_mem _ (List.mem_cons_self ..))) 0 _ rfl, (act_cells (hE6 _ (List.mem_cons_self ..))).2.1, at_cell hs6 1 _ rfl, at_free hs6 1, at_cell (h6.inE (List.mem_cons_of_mem _ (List.mem_cons_self ..))) 0 _ rfl, (act_cells (h6.inE (List.mem_cons_self ..))).2.1, h6⟩
set_option maxRecDepth 100000 in
set_option maxHeartbeats 16000000 in
theorem play_step {W0 : World} {m wk n t p : Nat} {l : List RA} (hl : l.length ≤ 150) (hk : ∀ x ∈ l, x.w < 18446744073709551616) (hn : 1 ≤ n ∧ n ≤ 4096)
    (d : Nat) (ih : ∀ (i too : Nat) (g : Nat → Nat) (lg : List (Nat × Nat)) (st : PS) (E : List (Nat × Obj)) (w : World), too - i < d → PlaySaid W0 m wk n t p l i too g lg st E w) :
    ∀ (i too : Nat) (g : Nat → Nat) (lg : List (Nat × Nat)) (st : PS) (E : List (Nat × Obj)) (w : World), too - i ≤ d → PlaySaid W0 m wk n t p l i too g lg st E w := by
    intro i too g lg st E w hd hto hi hsz hlg hg hS
    obtain ⟨D, hD⟩ : ∃ D, doG n l i too g st = D := ⟨_, rfl⟩
    rw [hD]
    have HD0 := Lib.hid hD
    obtain ⟨EP, hEP⟩ : ∃ EP, endP D.bad = EP := ⟨_, rfl⟩
    rw [hEP]
    have HEP := Lib.hid hEP
    clear hEP
    obtain ⟨a0, a1, a2, a3, a4, c0, c1, c2, c3, c4, R0, R1, R2, R3, R4, h⟩ := hS
    have H5 := Lib.hid (h.boxE #[.pointer (some ⟨p, 0, none⟩)] 79)
    have HG := Lib.hid hg
    clear h hD hg
    have l1 : (l.length : Int) ≤ 150 := by omega
    go_enter Try.func54, Try.ntmps54
    go_wp2_with (fail)
    obtain ⟨b4, hb4⟩ : ∃ b4, w.heap.size = b4 := ⟨_, rfl⟩
    simp only [hb4] at H5 ⊢
    go_loopw [8] (fun iv wr => ∃ (k : Nat) (g' : Nat → Nat) (l1 : List (Nat × Nat)) (st' : PS), iv = .int .i64 k ∧ i ≤ k ∧ k ≤ too + 1 ∧ doG n l k too g' st' = D ∧ undoG g' l1 = g ∧ l1.length ≤ k - i ∧ l1.length ≤ too - i ∧ szS st' + 3 * (too + 1 - k) ≤ 5000 ∧ Small n g' ∧ PTs W0 m wk n t g' (lg ++ l1) p l st' ((b4, .cells #[.pointer (some ⟨p, 0, none⟩)] 79 (0, 0)) :: E) wr) (fun iv _ => too + 1 - (intOf iv).toNat)
    case atStart => exact ⟨i, g, [], st, rfl, by omega, hi, HD0.out, rfl, by simp, by simp, hsz, HG.out, by rw [List.append_nil]; exact ⟨_, _, _, _, _, _, _, _, _, _, _, _, _, _, _, H5.out⟩⟩
    case round =>
      clear H5 HD0 HG
      obtain ⟨k, g', l1, st', rfl, hk0, hk1, hd, hun, hl1, hl2, hsz', hg', a0, a1, a2, a3, a4, c0, c1, c2, c3, c4, R0, R1, R2, R3, R4, h⟩ := hrel
      have HU := Lib.hid hun
      have HG := Lib.hid hg'
      clear hun hg'
      by_cases hlt : k < too
      · have hkl : k < l.length := by omega
        obtain ⟨ba, rfl, d0, d1, d2, d3⟩ := h.rowc.act hkl
        rw [doG, dif_pos hlt] at hd
        have hxw := hk (l.getD k default) (by rw [List.getD_eq_getElem?_getD, List.getElem?_eq_getElem hkl]; exact List.getElem_mem hkl)
        have hcl := closeG_ge l k 0 (by omega)
        generalize l.getD k default = x at *
        obtain ⟨kz, hkz⟩ : ∃ kz : Int, (x.k : Int) = kz := ⟨_, rfl⟩
        have hB := h.boxE #[.int .i64 kz, .int .i64 x.a, .int .u64 x.w, .int .i64 x.e] 179
        have p0 := at_cell (h.inE (List.mem_cons_self ..)) 0 (.pointer (some ⟨p, 0, none⟩)) rfl
        have s0 := h.cell.1
        have HB := Lib.hid hB
        obtain ⟨b0, b1, b2, b3⟩ := act_cells (hB.inE (List.mem_cons_self ..))
        have q1 : (k : Int) < l.length := by omega
        have q2 : (0 : Int) ≤ k := by omega
        have q3 : ((k : Int)).toNat = k := by omega
        have q4 : (k : Int) < too := by omega
        rw [hkz] at d0
        obtain ⟨xk, xa, xw, xe⟩ := x
        simp only at *
        clear h hB
        obtain ⟨bx, hbx⟩ : ∃ bx, wr.heap.size = bx := ⟨_, rfl⟩
        by_cases h1 : xk ≤ 1
        · rw [if_pos h1] at hd
          cases hin : inG n xa with
          | false =>
            rw [hin, if_neg (by simp)] at hd
            have HD := Lib.hid hd
            have HS1 := Lib.hid (fun x => store_out HB.out.tw xa x hin)
            have HL1 := Lib.hid (load_out (HB.out.grow (below_drew _)).tw xa hin)
            obtain rfl | rfl : kz = 0 ∨ kz = 1 := by omega
            · clear h1 hkz hd hcl hin HL1
              go_wp2_with (go_at_call 63; refine (HS1.out _).mono ?_; rintro e w7 ⟨rfl, h7⟩; have H7 := Lib.hid h7; clear h7)
              refine ⟨rfl, ?_, l1, by omega, ?_, ?_⟩
              · rw [← HEP.out, ← HD.out]; rfl
              · rw [← HD.out]; exact HU.out
              · rw [← HD.out]; exact ⟨_, _, _, _, _, _, _, _, _, _, _, _, _, _, _, (HB.out.work H7.out).dropE (X := [_, _])⟩
            · clear h1 hkz hd hcl hin HS1
              go_wp2_with (fail)
              simp only [hbx] at HB b0 b1 HL1 ⊢
              generalize wr.alloc (.cells #[.int .i64 _, .int .i64 xa, .int .u64 xw, .int .i64 xe] 179) = wb at *
              have p1 := at_cell (HB.out.inE (List.mem_cons_of_mem _ (List.mem_cons_self ..))) 0 (.pointer (some ⟨p, 0, none⟩)) rfl
              have s1 := HB.out.cell.2.1
              clear p0 s0 d0 d1 d2 d3
              have HFIN := Lib.hid (show ∀ w7, PTs W0 m wk n t g' (lg ++ l1) p l st' E w7 → Ending.panicked [{ v := thrownV 11 xa, recovered := false }] = EP ∧ ∃ l2, l2.length ≤ too - i ∧ undoG D.g l2 = g ∧ PTs W0 m wk n t D.g (lg ++ l2) p l D.st E w7 from fun w7 h7 => ⟨by rw [← HEP.out, ← HD.out]; rfl, l1, by omega, by rw [← HD.out]; exact HU.out, by rw [← HD.out]; exact h7⟩)
              refine wp_region_held_drew (S := fun w' => w'.cell? ⟨b4, 0, none⟩ = some (.pointer (some ⟨p, 0, none⟩)) ∧ w'.cell? ⟨p, 1, none⟩ = some (.slice a1 st'.ld.length c1) ∧ w'.cell? ⟨bx, 1, none⟩ = some (.int .i64 xa)) (by kernel_rfl) ⟨p1, s1, b1⟩ (fun hHeld => ?_)
              refine wpAnyH_take (i := 0) (v := ?_) rfl (by kernel_rfl) (by kernel_rfl) (by kernel_rfl) (fun _ _ _ h => h) (Or.inl ⟨by rfl, ?_⟩) (by assumption) ?_
              rotate_left
              · (intro w hSw; (try dsimp only at hSw); go_simp; try with_reducible rfl)
              simp only [Act.put, List.setIfInBounds_toArray, List.set_cons_zero, List.set_cons_succ]
              refine wpAnyH_take (i := 1) (v := ?_) rfl (by kernel_rfl) (by kernel_rfl) (by kernel_rfl) (fun _ _ _ h => h) (Or.inl ⟨by rfl, ?_⟩) (by assumption) ?_
              rotate_left
              · (intro w hSw; (try dsimp only at hSw); go_simp; try with_reducible rfl)
              simp only [Act.put, List.setIfInBounds_toArray, List.set_cons_zero, List.set_cons_succ]
              refine wpAnyH_take (i := 2) (v := ?_) rfl (by kernel_rfl) (by kernel_rfl) (by kernel_rfl) (fun _ _ _ h => h) (Or.inl ⟨by rfl, ?_⟩) (by assumption) ?_
              rotate_left
              · (intro w hSw; (try dsimp only at hSw); go_simp; try with_reducible rfl)
              simp only [Act.put, List.setIfInBounds_toArray, List.set_cons_zero, List.set_cons_succ]
              refine wpAnyH_take (i := 3) (v := ?_) rfl (by kernel_rfl) (by kernel_rfl) (by kernel_rfl) (fun _ _ _ h => h) (Or.inl ⟨by rfl, ?_⟩) (by assumption) ?_
              rotate_left
              · (intro w hSw; (try dsimp only at hSw); go_simp; try with_reducible rfl)
              simp only [Act.put, List.setIfInBounds_toArray, List.set_cons_zero, List.set_cons_succ]
              refine wpAnyH_take (i := 4) (v := ?_) rfl (by kernel_rfl) (by kernel_rfl) (by kernel_rfl) (fun _ _ _ h => h) (Or.inl ⟨by rfl, ?_⟩) (by assumption) ?_
              rotate_left
              · (intro w hSw; (try dsimp only at hSw); go_simp; try with_reducible rfl)
              simp only [Act.put, List.setIfInBounds_toArray, List.set_cons_zero, List.set_cons_succ]
              refine wpAnyH_take (i := 5) (v := ?_) rfl (by kernel_rfl) (by kernel_rfl) (by kernel_rfl) (fun _ _ _ h => h) (Or.inl ⟨by rfl, ?_⟩) (by assumption) ?_
              rotate_left
              · (intro w hSw; (try dsimp only at hSw); go_simp; try with_reducible rfl)
              simp only [Act.put, List.setIfInBounds_toArray, List.set_cons_zero, List.set_cons_succ]
              refine wpAnyH_take (i := 6) (v := ?_) rfl (by kernel_rfl) (by kernel_rfl) (by kernel_rfl) (fun _ _ _ h => h) (Or.inl ⟨by rfl, ?_⟩) (by assumption) ?_
              rotate_left
              · (intro w hSw; (try dsimp only at hSw); go_simp; try with_reducible rfl)
              simp only [Act.put, List.setIfInBounds_toArray, List.set_cons_zero, List.set_cons_succ]
              refine wpAnyH_take (i := 7) (v := ?_) rfl (by kernel_rfl) (by kernel_rfl) (by kernel_rfl) (fun _ _ _ h => h) (Or.inl ⟨by rfl, ?_⟩) (by assumption) ?_
              rotate_left
              · (intro w hSw; (try dsimp only at hSw); go_simp; try with_reducible rfl)
              simp only [Act.put, List.setIfInBounds_toArray, List.set_cons_zero, List.set_cons_succ]
              refine wpAnyH_ready (rs := [8]) (by kernel_rfl) (by simp) ?_
              refine AllReadyH.cons rfl (fun K hK => ?_) AllReadyH.nil
              go_simp
              go_at_call 65
              refine HL1.out.mono ?_
              rintro e w7 ⟨rfl, h7⟩
              exact ⟨rfl, HFIN.out _ ⟨_, _, _, _, _, _, _, _, _, _, _, _, _, _, _, (HB.out.work h7).dropE (X := [_, _])⟩⟩
          | true =>
            rw [hin, if_pos rfl] at hd
            obtain ⟨p1, p2⟩ := inG_true hin
            obtain ⟨pa, rfl⟩ : ∃ pa : Nat, xa = pa := ⟨xa.toNat, by omega⟩
            have p3 : ((pa : Int)).toNat = pa := by omega
            rw [p3] at hd
            obtain rfl | rfl : kz = 0 ∨ kz = 1 := by omega
            · obtain rfl : xk = 0 := by omega
              rw [if_pos rfl] at hd
              have HD := Lib.hid hd
              have HS1 := Lib.hid (store_tw HB.out.tw (pa : Int) xw hxw hin (HG.out _ (by omega)) (by rw [List.length_append]; omega))
              rw [p3] at HS1
              clear h1 hkz hd hcl hin
              go_wp2_with (go_at_call 63; refine HS1.out.mono ?_; rintro e w7 ⟨rfl, h7⟩; have H7 := Lib.hid h7; clear h7)
              go_roundw
              case rel => exact ⟨k + 1, putG g' pa xw, l1 ++ [(pa, g' pa)], st', by go_num, by omega, by omega, HD.out, by rw [undoG_append, undoG_put]; exact HU.out, by simp; omega, by simp; omega, by omega, small_put HG.out _ _ hxw, _, _, _, _, _, _, _, _, _, _, _, _, _, _, _, by rw [← List.append_assoc]; exact (HB.out.work H7.out).dropE (X := [_])⟩
              case measure => simp [intOf]; omega
            · obtain rfl : xk = 1 := by omega
              rw [if_neg (by omega)] at hd
              have HD := Lib.hid hd
              have HL1 := Lib.hid (load_tw (HB.out.grow (below_drew _)).tw (pa : Int) hin)
              rw [p3] at HL1
              clear h1 hkz hd hcl hin
              go_wp2_with (fail)
              simp only [hbx] at HB b0 b1 HL1 ⊢
              generalize wr.alloc (.cells #[.int .i64 _, .int .i64 (pa : Int), .int .u64 xw, .int .i64 xe] 179) = wb at *
              have p1b := at_cell (HB.out.inE (List.mem_cons_of_mem _ (List.mem_cons_self ..))) 0 (.pointer (some ⟨p, 0, none⟩)) rfl
              have s1 := (HB.out.grow (below_drew _)).cell.2.1
              clear p0 s0 d0 d1 d2 d3
              have HAF := Lib.hid (fun w7 h7 => play_load (HB.out.work (g' := g') (lg' := lg ++ l1) (w' := w7) h7) (by omega) (g' pa))
              refine wp_region_held_drew (S := fun w' => w'.cell? ⟨b4, 0, none⟩ = some (.pointer (some ⟨p, 0, none⟩)) ∧ w'.cell? ⟨bx, 1, none⟩ = some (.int .i64 pa)) (by kernel_rfl) ⟨p1b, b1⟩ (fun hHeld => ?_)
              refine wpAnyH_take (i := 0) (v := ?_) rfl (by kernel_rfl) (by kernel_rfl) (by kernel_rfl) (fun _ _ _ h => h) (Or.inl ⟨by rfl, ?_⟩) (by assumption) ?_
              rotate_left
              · (intro w hSw; (try dsimp only at hSw); go_simp; try with_reducible rfl)
              simp only [Act.put, List.setIfInBounds_toArray, List.set_cons_zero, List.set_cons_succ]
              refine wpAnyH_take (i := 1) (v := ?_) rfl (by kernel_rfl) (by kernel_rfl) (by kernel_rfl) (fun _ _ _ h => h) (Or.inl ⟨by rfl, ?_⟩) (by assumption) ?_
              rotate_left
              · (intro w hSw; (try dsimp only at hSw); go_simp; try with_reducible rfl)
              simp only [Act.put, List.setIfInBounds_toArray, List.set_cons_zero, List.set_cons_succ]
              refine wpAnyH_take (i := 2) (v := ?_) rfl (by kernel_rfl) (by kernel_rfl) (by kernel_rfl) (fun _ _ _ h => h) (Or.inl ⟨by rfl, ?_⟩) (by assumption) ?_
              rotate_left
              · (intro w hSw; (try dsimp only at hSw); go_simp; try with_reducible rfl)
              simp only [Act.put, List.setIfInBounds_toArray, List.set_cons_zero, List.set_cons_succ]
              refine wpAnyH_take (i := 3) (v := ?_) rfl (by kernel_rfl) (by kernel_rfl) (by kernel_rfl) (fun _ _ _ h => h) (Or.inl ⟨by rfl, ?_⟩) (by assumption) ?_
              rotate_left
              · (intro w hSw; (try dsimp only at hSw); go_simp; try with_reducible rfl)
              simp only [Act.put, List.setIfInBounds_toArray, List.set_cons_zero, List.set_cons_succ]
              refine wpAnyH_take (i := 5) (v := ?_) rfl (by kernel_rfl) (by kernel_rfl) (by kernel_rfl) (fun _ _ _ h => h) (Or.inl ⟨by rfl, ?_⟩) (by assumption) ?_
              rotate_left
              · (intro w hSw; (try dsimp only at hSw); go_simp; try with_reducible rfl)
              simp only [Act.put, List.setIfInBounds_toArray, List.set_cons_zero, List.set_cons_succ]
              refine wpAnyH_take (i := 6) (v := ?_) rfl (by kernel_rfl) (by kernel_rfl) (by kernel_rfl) (fun _ _ _ h => h) (Or.inl ⟨by rfl, ?_⟩) (by assumption) ?_
              rotate_left
              · (intro w hSw; (try dsimp only at hSw); go_simp; try with_reducible rfl)
              simp only [Act.put, List.setIfInBounds_toArray, List.set_cons_zero, List.set_cons_succ]
              refine wpAnyH_take (i := 7) (v := ?_) rfl (by kernel_rfl) (by kernel_rfl) (by kernel_rfl) (fun _ _ _ h => h) (Or.inl ⟨by rfl, ?_⟩) (by assumption) ?_
              rotate_left
              · (intro w hSw; (try dsimp only at hSw); go_simp; try with_reducible rfl)
              simp only [Act.put, List.setIfInBounds_toArray, List.set_cons_zero, List.set_cons_succ]
              refine wpAnyH_ready (rs := [4, 8]) (by kernel_rfl) (by simp) ?_
              refine AllReadyH.cons rfl (fun K hK => ?_) (AllReadyH.cons rfl (fun K hK => ?_) AllReadyH.nil)
              · go_simp
                refine hK.out _ _ ⟨p1b, b1⟩ (fun hHeld => ?_)
                clear hK K
                try simp only [Act.put, List.setIfInBounds_toArray, List.set_cons_zero, List.set_cons_succ]
                refine wpAnyH_ready (rs := [8]) (by kernel_rfl) (by simp) ?_
                refine AllReadyH.cons rfl (fun K hK => ?_) AllReadyH.nil
                go_simp
                go_at_call 65
                refine HL1.out.mono ?_
                rintro e w7 ⟨rfl, h7⟩
                obtain ⟨p7, b7, s7, s8, p8, b8, x, cx, w6, Rx, HRUN, p9, b9, t1, fz, pf, bf, H6⟩ := HAF.out w7 h7
                clear h7
                try go_wp2_with (fail)
                refine hK.out _ _ ⟨p7, b7⟩ (fun hHeld => ?_)
                clear hK K
                try simp only [Act.put, List.setIfInBounds_toArray, List.set_cons_zero, List.set_cons_succ]
                refine wpAnyH_ready (rs := [9]) (by kernel_rfl) (by simp) ?_
                refine AllReadyH.cons rfl (fun K hK => ?_) AllReadyH.nil
                go_simp
                refine hK.out _ _ ⟨p8, b8⟩ (fun hHeld => ?_)
                clear hK K
                try simp only [Act.put, List.setIfInBounds_toArray, List.set_cons_zero, List.set_cons_succ]
                refine wpAnyH_ready (rs := [10]) (by kernel_rfl) (by simp) ?_
                refine AllReadyH.cons rfl (fun K hK => ?_) AllReadyH.nil
                refine step_append_run _ (by rfl) (.tmp 43) (.tmp 48) 69 69 _ (by rfl) (by rfl) _ _ (by rfl) (by rfl) _ w6 HRUN.out ?_
                refine hK.out _ _ ⟨p9, b9⟩ (fun hHeld => ?_)
                clear hK K
                try simp only [Act.put, List.setIfInBounds_toArray, List.set_cons_zero, List.set_cons_succ]
                refine wpAnyH_take (i := 11) (v := ?_) rfl (by kernel_rfl) (by kernel_rfl) (by kernel_rfl) (fun _ _ _ h => h) (Or.inl ⟨by rfl, ?_⟩) (by assumption) ?_
                rotate_left
                · (intro w hSw; (try dsimp only at hSw); go_simp; try with_reducible rfl)
                simp only [Act.put, List.setIfInBounds_toArray, List.set_cons_zero, List.set_cons_succ]
                refine wpAnyH_take (i := 12) (v := ?_) rfl (by kernel_rfl) (by kernel_rfl) (by kernel_rfl) (fun _ _ _ h => h) (Or.inl ⟨by rfl, ?_⟩) (by assumption) ?_
                rotate_left
                · (intro w hSw; (try dsimp only at hSw); go_simp; try with_reducible rfl)
                simp only [Act.put, List.setIfInBounds_toArray, List.set_cons_zero, List.set_cons_succ]
                refine wpAnyH_ready (rs := [13]) (by kernel_rfl) (by simp) ?_
                refine AllReadyH.cons rfl (fun K hK => ?_) AllReadyH.nil
                go_simp
                refine hK.out _ _ ⟨pf, bf⟩ (fun hHeld => ?_)
                clear hK K
                try simp only [Act.put, List.setIfInBounds_toArray, List.set_cons_zero, List.set_cons_succ]
                refine wpAnyH_done (by kernel_rfl) ?_ _
                go_wp2_with (fail)
                go_roundw
                case rel => exact ⟨k + 1, g', l1, { st' with ld := st'.ld ++ [g' pa] }, by go_num, by omega, by omega, HD.out, HU.out, by omega, by omega, by simp [szS] at hsz' ⊢; omega, HG.out, _, _, _, _, _, _, _, _, _, _, _, _, _, _, _, H6.out.dropE (X := [_])⟩
                case measure => simp [intOf]; omega
              · go_simp
                go_at_call 65
                refine HL1.out.mono ?_
                rintro e w7 ⟨rfl, h7⟩
                obtain ⟨p7, b7, s7, s8, p8, b8, x, cx, w6, Rx, HRUN, p9, b9, t1, fz, pf, bf, H6⟩ := HAF.out w7 h7
                clear h7
                try go_wp2_with (fail)
                refine hK.out _ _ ⟨p7, b7⟩ (fun hHeld => ?_)
                clear hK K
                try simp only [Act.put, List.setIfInBounds_toArray, List.set_cons_zero, List.set_cons_succ]
                refine wpAnyH_ready (rs := [4, 9]) (by kernel_rfl) (by simp) ?_
                refine AllReadyH.cons rfl (fun K hK => ?_) (AllReadyH.cons rfl (fun K hK => ?_) AllReadyH.nil)
                · go_simp
                  refine hK.out _ _ ⟨p7, b7⟩ (fun hHeld => ?_)
                  clear hK K
                  try simp only [Act.put, List.setIfInBounds_toArray, List.set_cons_zero, List.set_cons_succ]
                  refine wpAnyH_ready (rs := [9]) (by kernel_rfl) (by simp) ?_
                  refine AllReadyH.cons rfl (fun K hK => ?_) AllReadyH.nil
                  go_simp
                  refine hK.out _ _ ⟨p8, b8⟩ (fun hHeld => ?_)
                  clear hK K
                  try simp only [Act.put, List.setIfInBounds_toArray, List.set_cons_zero, List.set_cons_succ]
                  refine wpAnyH_ready (rs := [10]) (by kernel_rfl) (by simp) ?_
                  refine AllReadyH.cons rfl (fun K hK => ?_) AllReadyH.nil
                  refine step_append_run _ (by rfl) (.tmp 43) (.tmp 48) 69 69 _ (by rfl) (by rfl) _ _ (by rfl) (by rfl) _ w6 HRUN.out ?_
                  refine hK.out _ _ ⟨p9, b9⟩ (fun hHeld => ?_)
                  clear hK K
                  try simp only [Act.put, List.setIfInBounds_toArray, List.set_cons_zero, List.set_cons_succ]
                  refine wpAnyH_take (i := 11) (v := ?_) rfl (by kernel_rfl) (by kernel_rfl) (by kernel_rfl) (fun _ _ _ h => h) (Or.inl ⟨by rfl, ?_⟩) (by assumption) ?_
                  rotate_left
                  · (intro w hSw; (try dsimp only at hSw); go_simp; try with_reducible rfl)
                  simp only [Act.put, List.setIfInBounds_toArray, List.set_cons_zero, List.set_cons_succ]
                  refine wpAnyH_take (i := 12) (v := ?_) rfl (by kernel_rfl) (by kernel_rfl) (by kernel_rfl) (fun _ _ _ h => h) (Or.inl ⟨by rfl, ?_⟩) (by assumption) ?_
                  rotate_left
                  · (intro w hSw; (try dsimp only at hSw); go_simp; try with_reducible rfl)
                  simp only [Act.put, List.setIfInBounds_toArray, List.set_cons_zero, List.set_cons_succ]
                  refine wpAnyH_ready (rs := [13]) (by kernel_rfl) (by simp) ?_
                  refine AllReadyH.cons rfl (fun K hK => ?_) AllReadyH.nil
                  go_simp
                  refine hK.out _ _ ⟨pf, bf⟩ (fun hHeld => ?_)
                  clear hK K
                  try simp only [Act.put, List.setIfInBounds_toArray, List.set_cons_zero, List.set_cons_succ]
                  refine wpAnyH_done (by kernel_rfl) ?_ _
                  go_wp2_with (fail)
                  go_roundw
                  case rel => exact ⟨k + 1, g', l1, { st' with ld := st'.ld ++ [g' pa] }, by go_num, by omega, by omega, HD.out, HU.out, by omega, by omega, by simp [szS] at hsz' ⊢; omega, HG.out, _, _, _, _, _, _, _, _, _, _, _, _, _, _, _, H6.out.dropE (X := [_])⟩
                  case measure => simp [intOf]; omega
                · go_simp
                  refine hK.out _ _ ⟨p8, b8⟩ (fun hHeld => ?_)
                  clear hK K
                  try simp only [Act.put, List.setIfInBounds_toArray, List.set_cons_zero, List.set_cons_succ]
                  refine wpAnyH_ready (rs := [4]) (by kernel_rfl) (by simp) ?_
                  refine AllReadyH.cons rfl (fun K hK => ?_) AllReadyH.nil
                  go_simp
                  refine hK.out _ _ ⟨p8, b8⟩ (fun hHeld => ?_)
                  clear hK K
                  try simp only [Act.put, List.setIfInBounds_toArray, List.set_cons_zero, List.set_cons_succ]
                  refine wpAnyH_ready (rs := [10]) (by kernel_rfl) (by simp) ?_
                  refine AllReadyH.cons rfl (fun K hK => ?_) AllReadyH.nil
                  refine step_append_run _ (by rfl) (.tmp 43) (.tmp 48) 69 69 _ (by rfl) (by rfl) _ _ (by rfl) (by rfl) _ w6 HRUN.out ?_
                  refine hK.out _ _ ⟨p9, b9⟩ (fun hHeld => ?_)
                  clear hK K
                  try simp only [Act.put, List.setIfInBounds_toArray, List.set_cons_zero, List.set_cons_succ]
                  refine wpAnyH_take (i := 11) (v := ?_) rfl (by kernel_rfl) (by kernel_rfl) (by kernel_rfl) (fun _ _ _ h => h) (Or.inl ⟨by rfl, ?_⟩) (by assumption) ?_
                  rotate_left
                  · (intro w hSw; (try dsimp only at hSw); go_simp; try with_reducible rfl)
                  simp only [Act.put, List.setIfInBounds_toArray, List.set_cons_zero, List.set_cons_succ]
                  refine wpAnyH_take (i := 12) (v := ?_) rfl (by kernel_rfl) (by kernel_rfl) (by kernel_rfl) (fun _ _ _ h => h) (Or.inl ⟨by rfl, ?_⟩) (by assumption) ?_
                  rotate_left
                  · (intro w hSw; (try dsimp only at hSw); go_simp; try with_reducible rfl)
                  simp only [Act.put, List.setIfInBounds_toArray, List.set_cons_zero, List.set_cons_succ]
                  refine wpAnyH_ready (rs := [13]) (by kernel_rfl) (by simp) ?_
                  refine AllReadyH.cons rfl (fun K hK => ?_) AllReadyH.nil
                  go_simp
                  refine hK.out _ _ ⟨pf, bf⟩ (fun hHeld => ?_)
                  clear hK K
                  try simp only [Act.put, List.setIfInBounds_toArray, List.set_cons_zero, List.set_cons_succ]
                  refine wpAnyH_done (by kernel_rfl) ?_ _
                  go_wp2_with (fail)
                  go_roundw
                  case rel => exact ⟨k + 1, g', l1, { st' with ld := st'.ld ++ [g' pa] }, by go_num, by omega, by omega, HD.out, HU.out, by omega, by omega, by simp [szS] at hsz' ⊢; omega, HG.out, _, _, _, _, _, _, _, _, _, _, _, _, _, _, _, H6.out.dropE (X := [_])⟩
                  case measure => simp [intOf]; omega
        · rw [if_neg h1] at hd
          by_cases h2 : xk = 2
          · rw [if_pos h2] at hd
            have HD := Lib.hid hd
            obtain rfl : kz = 2 := by omega
            have HF := Lib.hid (fail_tw HB.out.tw xe xa)
            clear h1 h2 hkz hd hcl
            go_wp2_with (go_at_call 59; refine HF.out.mono ?_; rintro e w7 ⟨rfl, rfl⟩)
            refine ⟨rfl, ?_, l1, by omega, ?_, ?_⟩
            · rw [← HEP.out, ← HD.out]; rfl
            · rw [← HD.out]; exact HU.out
            · rw [← HD.out]; exact ⟨_, _, _, _, _, _, _, _, _, _, _, _, _, _, _, HB.out.dropE (X := [_, _])⟩
          · rw [if_neg h2] at hd
            by_cases h3 : xk = 3
            · rw [if_pos h3] at hd
              obtain rfl : kz = 3 := by omega
              have hmx : max k (min (closeG l k 0) too) = min (closeG l k 0) too := by omega
              rw [hmx] at hd
              have HCL := Lib.hid (close_any HB.out.rowc hl c0 k (by omega))
              have hcge : k ≤ min (closeG l k 0) too ∧ min (closeG l k 0) too ≤ too := by omega
              generalize closeG l k 0 = cl at *
              obtain ⟨c, hc⟩ : ∃ c, min cl too = c := ⟨_, rfl⟩
              rw [hc] at hd hcge
              have hsz2 := doG_sz n l (k + 1) c g' st'
              have hcall : ∀ (E : List (Nat × Obj)) (W : World), PTs W0 m wk n t g' (lg ++ l1) p l st' E W → _ := fun E W hW => ih (k + 1) c g' (lg ++ l1) st' E W (by omega) (by omega) (by omega) (by omega) (by rw [List.length_append]; omega) HG.out hW
              rw [show ((k + 1 : Nat) : Int) = (k : Int) + 1 by omega] at hcall
              have hsmall := doG_small n l (k + 1) c g' st' hk (by omega) HG.out
              generalize doG n l (k + 1) c g' st' = D2 at *
              have h3b := ((HB.out.boxE #[.int .i64 (c : Int)] 3).boxE #[.int .i64 ((k : Int) + 1)] 3).boxE #[.bool false] 4
              simp only [heap_size_alloc, hbx] at h3b
              have hpart := play_part (E := E) (b4 := b4) (bx := bx) (be := bx + 1) (bb := bx + 1 + 1) (bo := bx + 1 + 1 + 1) (kz := 3) (xa := xa) (xe := xe) (xw := xw) hcall (by rw [List.length_append]; omega) (h3b.permE (List.perm_append_comm (l₁ := bxs b4 bx (bx + 1) (bx + 1 + 1) (bx + 1 + 1 + 1) p 3 xa xe xw c ((k : Int) + 1) false) (l₂ := E)))
              obtain ⟨G2, hG2⟩ : ∃ G2, (if D2.bad.isSome then g' else D2.g) = G2 := ⟨_, rfl⟩
              have hsm2 : Small n G2 := by
                rw [← hG2]
                split
                · exact HG.out
                · exact hsmall
              rw [hG2] at hd hpart
              obtain ⟨b2g, ⟨ld, er, ats, en⟩, bad⟩ := D2
              simp only at *
              have hpush : (PS.mk ld er ats en).push bad = ⟨ld, er ++ [resE bad], ats ++ [resA bad], en ++ [bad.isNone]⟩ := by
                rcases bad with _ | ⟨e, a⟩ <;> rfl
              rw [hpush] at hd
              generalize resE bad = ve at *
              generalize resA bad = va at *
              generalize bad.isNone = vo at *
              have HD := Lib.hid hd
              have HP := Lib.hid hpart
              have HS := Lib.hid hsm2
              have hmf : ∀ (fn : Fn) (first cap : Array Value) (w : World), (Instr.makeFunc fn first cap).run Try.prog w = .ok (.func fn first cap) w := fun _ _ _ _ => rfl
              have hcs : (cl = c ∧ (cl : Int) ≤ too) ∨ (c = too ∧ ¬ (cl : Int) ≤ too ∧ (too : Int) < cl) := by omega
              have p0b := at_cell (HB.out.inE (List.mem_cons_of_mem _ (List.mem_cons_self ..))) 0 (.pointer (some ⟨p, 0, none⟩)) rfl
              have s0b := HB.out.cell.1
              clear h1 h2 h3 hkz hd hcl hmx hc hpush hG2 hcall hpart h3b hsmall hsm2
              rcases hcs with ⟨rfl, hm⟩ | ⟨rfl, hm, hm2⟩
              all_goals
                go_wp2_with (first
                  | (go_at_call 121; refine HCL.out.mono ?_; rintro e w1 ⟨rfl, rfl⟩; clear HCL)
                  | (go_at_call 61; refine HP.out.mono ?_; rintro e w7 ⟨rfl, lx, hx1, hx2, a0, a1, a2, a3, a4, c0, c1, c2, c3, c4, R0, R1, R2, R3, R4, h7⟩; have H7 := Lib.hid ((h7.permE List.perm_append_comm).boxE #[.int .i64 ve, .int .i64 va] 83); have HX2 := Lib.hid hx2; clear h7 hx2 HP))
                obtain ⟨bf, hbf⟩ : ∃ bf, w7.heap.size = bf := ⟨_, rfl⟩
                simp only [hbf] at H7 ⊢
                generalize w7.alloc (.cells #[.int .i64 ve, .int .i64 va] 83) = w8 at *
                have HX := H7
                clear H7
                obtain ⟨e0, e1, s0, s1, x2, cx2, w6, Rx2, HRUN, e6, t6, z6, e9, h9⟩ := (HX.out.grow (below_drew _)).far2 (by simp [szS] at hsz2 hsz' ⊢; omega) ve
                have pA := at_cell (e0 (b4, .cells #[.pointer (some ⟨p, 0, none⟩)] 79 (0, 0)) (by simp [bxs])) 0 (.pointer (some ⟨p, 0, none⟩)) rfl
                have pB := at_cell (e1 (b4, .cells #[.pointer (some ⟨p, 0, none⟩)] 79 (0, 0)) (by simp [bxs])) 0 (.pointer (some ⟨p, 0, none⟩)) rfl
                have pC := at_cell (e6 (b4, .cells #[.pointer (some ⟨p, 0, none⟩)] 79 (0, 0)) (by simp [bxs])) 0 (.pointer (some ⟨p, 0, none⟩)) rfl
                have pD := at_cell (e9 (b4, .cells #[.pointer (some ⟨p, 0, none⟩)] 79 (0, 0)) (by simp [bxs])) 0 (.pointer (some ⟨p, 0, none⟩)) rfl
                have fA := at_cell (e0 (bf, .cells #[.int .i64 ve, .int .i64 va] 83 (0, 0)) (List.mem_cons_self ..)) 0 (.int .i64 ve) rfl
                have fB := at_cell (e1 (bf, .cells #[.int .i64 ve, .int .i64 va] 83 (0, 0)) (List.mem_cons_self ..)) 0 (.int .i64 ve) rfl
                have fC := at_cell (e6 (bf, .cells #[.int .i64 ve, .int .i64 va] 83 (0, 0)) (List.mem_cons_self ..)) 0 (.int .i64 ve) rfl
                have fD := at_cell (e9 (bf, .cells #[.int .i64 ve, .int .i64 va] 83 (0, 0)) (List.mem_cons_self ..)) 0 (.int .i64 ve) rfl
                have HY := Lib.hid h9
                clear e0 e1 e6 e9 h9 HX
                simp only at HY HRUN s0 s1 t6 pA pB pC pD fA fB fC fD
                refine wp_region_held_drew (S := fun w' => w'.cell? ⟨b4, 0, none⟩ = some (.pointer (some ⟨p, 0, none⟩)) ∧ w'.cell? ⟨bf, 0, none⟩ = some (.int .i64 ve)) (by kernel_rfl) ⟨pA, fA⟩ (fun hHeld => ?_)
                generalize w8.drew = wd2 at *
                refine wpAnyH_take (i := 0) (v := ?_) rfl (by kernel_rfl) (by kernel_rfl) (by kernel_rfl) (fun _ _ _ h => h) (Or.inl ⟨by rfl, ?_⟩) (by assumption) ?_
                rotate_left
                · (intro w hSw; (try dsimp only at hSw); go_simp; try with_reducible rfl)
                simp only [Act.put, List.setIfInBounds_toArray, List.set_cons_zero, List.set_cons_succ]
                refine wpAnyH_take (i := 1) (v := ?_) rfl (by kernel_rfl) (by kernel_rfl) (by kernel_rfl) (fun _ _ _ h => h) (Or.inl ⟨by rfl, ?_⟩) (by assumption) ?_
                rotate_left
                · (intro w hSw; (try dsimp only at hSw); go_simp; try with_reducible rfl)
                simp only [Act.put, List.setIfInBounds_toArray, List.set_cons_zero, List.set_cons_succ]
                refine wpAnyH_take (i := 2) (v := ?_) rfl (by kernel_rfl) (by kernel_rfl) (by kernel_rfl) (fun _ _ _ h => h) (Or.inl ⟨by rfl, ?_⟩) (by assumption) ?_
                rotate_left
                · (intro w hSw; (try dsimp only at hSw); go_simp; try with_reducible rfl)
                simp only [Act.put, List.setIfInBounds_toArray, List.set_cons_zero, List.set_cons_succ]
                refine wpAnyH_take (i := 3) (v := ?_) rfl (by kernel_rfl) (by kernel_rfl) (by kernel_rfl) (fun _ _ _ h => h) (Or.inl ⟨by rfl, ?_⟩) (by assumption) ?_
                rotate_left
                · (intro w hSw; (try dsimp only at hSw); go_simp; try with_reducible rfl)
                simp only [Act.put, List.setIfInBounds_toArray, List.set_cons_zero, List.set_cons_succ]
                refine wpAnyH_take (i := 5) (v := ?_) rfl (by kernel_rfl) (by kernel_rfl) (by kernel_rfl) (fun _ _ _ h => h) (Or.inl ⟨by rfl, ?_⟩) (by assumption) ?_
                rotate_left
                · (intro w hSw; (try dsimp only at hSw); go_simp; try with_reducible rfl)
                simp only [Act.put, List.setIfInBounds_toArray, List.set_cons_zero, List.set_cons_succ]
                refine wpAnyH_take (i := 6) (v := ?_) rfl (by kernel_rfl) (by kernel_rfl) (by kernel_rfl) (fun _ _ _ h => h) (Or.inl ⟨by rfl, ?_⟩) (by assumption) ?_
                rotate_left
                · (intro w hSw; (try dsimp only at hSw); go_simp; try with_reducible rfl)
                simp only [Act.put, List.setIfInBounds_toArray, List.set_cons_zero, List.set_cons_succ]
                refine wpAnyH_ready (rs := [4, 7]) (by kernel_rfl) (by simp) ?_
                refine AllReadyH.cons rfl (fun K hK => ?_) (AllReadyH.cons rfl (fun K hK => ?_) AllReadyH.nil)
                go_simp
                refine hK.out _ _ ⟨pA, fA⟩ (fun hHeld => ?_)
                clear hK K
                try simp only [Act.put, List.setIfInBounds_toArray, List.set_cons_zero, List.set_cons_succ]
                refine wpAnyH_ready (rs := [7]) (by kernel_rfl) (by simp) ?_
                refine AllReadyH.cons rfl (fun K hK => ?_) AllReadyH.nil
                go_simp
                refine hK.out _ _ ⟨pB, fB⟩ (fun hHeld => ?_)
                clear hK K
                try simp only [Act.put, List.setIfInBounds_toArray, List.set_cons_zero, List.set_cons_succ]
                rotate_left
                go_simp
                refine hK.out _ _ ⟨pB, fB⟩ (fun hHeld => ?_)
                clear hK K
                try simp only [Act.put, List.setIfInBounds_toArray, List.set_cons_zero, List.set_cons_succ]
                refine wpAnyH_ready (rs := [4]) (by kernel_rfl) (by simp) ?_
                refine AllReadyH.cons rfl (fun K hK => ?_) AllReadyH.nil
                go_simp
                refine hK.out _ _ ⟨pB, fB⟩ (fun hHeld => ?_)
                clear hK K
                try simp only [Act.put, List.setIfInBounds_toArray, List.set_cons_zero, List.set_cons_succ]
                all_goals
                  refine wpAnyH_ready (rs := [8]) (by kernel_rfl) (by simp) ?_
                  refine AllReadyH.cons rfl (fun K hK => ?_) AllReadyH.nil
                  refine step_append_run _ (by rfl) (.tmp 79) (.tmp 82) 71 71 _ (by rfl) (by rfl) _ _ (by rfl) (by rfl) _ w6 HRUN.out ?_
                  refine hK.out _ _ ⟨pC, fC⟩ (fun hHeld => ?_)
                  clear hK K
                  try simp only [Act.put, List.setIfInBounds_toArray, List.set_cons_zero, List.set_cons_succ]
                  refine wpAnyH_take (i := 9) (v := ?_) rfl (by kernel_rfl) (by kernel_rfl) (by kernel_rfl) (fun _ _ _ h => h) (Or.inl ⟨by rfl, ?_⟩) (by assumption) ?_
                  rotate_left
                  · (intro w hSw; (try dsimp only at hSw); go_simp; try with_reducible rfl)
                  simp only [Act.put, List.setIfInBounds_toArray, List.set_cons_zero, List.set_cons_succ]
                  refine wpAnyH_take (i := 10) (v := ?_) rfl (by kernel_rfl) (by kernel_rfl) (by kernel_rfl) (fun _ _ _ h => h) (Or.inl ⟨by rfl, ?_⟩) (by assumption) ?_
                  rotate_left
                  · (intro w hSw; (try dsimp only at hSw); go_simp; try with_reducible rfl)
                  simp only [Act.put, List.setIfInBounds_toArray, List.set_cons_zero, List.set_cons_succ]
                  refine wpAnyH_ready (rs := [11]) (by kernel_rfl) (by simp) ?_
                  refine AllReadyH.cons rfl (fun K hK => ?_) AllReadyH.nil
                  go_simp
                  refine hK.out _ _ ⟨pD, fD⟩ (fun hHeld => ?_)
                  clear hK K
                  try simp only [Act.put, List.setIfInBounds_toArray, List.set_cons_zero, List.set_cons_succ]
                  refine wpAnyH_done (by kernel_rfl) ?_ _
                  go_wp2_with (fail)
                  generalize w6.setCell ⟨p, 2, none⟩ (.slice x2 (er.length + 1) cx2) = wY2 at *
                  have HX := HY
                  clear HY HRUN s0 s1 t6 z6 pA pB pC pD fA fB fC fD
                all_goals
                  obtain ⟨e0, e1, s0, s1, x3, cx3, w6, Rx3, HRUN, e6, t6, z6, e9, h9⟩ := (HX.out.grow (below_drew _)).far3 (by simp [szS] at hsz2 hsz' ⊢; omega) va
                  have pA := at_cell (e0 (b4, .cells #[.pointer (some ⟨p, 0, none⟩)] 79 (0, 0)) (by simp [bxs])) 0 (.pointer (some ⟨p, 0, none⟩)) rfl
                  have pB := at_cell (e1 (b4, .cells #[.pointer (some ⟨p, 0, none⟩)] 79 (0, 0)) (by simp [bxs])) 0 (.pointer (some ⟨p, 0, none⟩)) rfl
                  have pC := at_cell (e6 (b4, .cells #[.pointer (some ⟨p, 0, none⟩)] 79 (0, 0)) (by simp [bxs])) 0 (.pointer (some ⟨p, 0, none⟩)) rfl
                  have pD := at_cell (e9 (b4, .cells #[.pointer (some ⟨p, 0, none⟩)] 79 (0, 0)) (by simp [bxs])) 0 (.pointer (some ⟨p, 0, none⟩)) rfl
                  have fA := at_cell (e0 (bf, .cells #[.int .i64 ve, .int .i64 va] 83 (0, 0)) (List.mem_cons_self ..)) 1 (.int .i64 va) rfl
                  have fB := at_cell (e1 (bf, .cells #[.int .i64 ve, .int .i64 va] 83 (0, 0)) (List.mem_cons_self ..)) 1 (.int .i64 va) rfl
                  have fC := at_cell (e6 (bf, .cells #[.int .i64 ve, .int .i64 va] 83 (0, 0)) (List.mem_cons_self ..)) 1 (.int .i64 va) rfl
                  have fD := at_cell (e9 (bf, .cells #[.int .i64 ve, .int .i64 va] 83 (0, 0)) (List.mem_cons_self ..)) 1 (.int .i64 va) rfl
                  have HY := Lib.hid h9
                  clear e0 e1 e6 e9 h9 HX
                  simp only at HY HRUN s0 s1 t6 pA pB pC pD fA fB fC fD
                  refine wp_region_held_drew (S := fun w' => w'.cell? ⟨b4, 0, none⟩ = some (.pointer (some ⟨p, 0, none⟩)) ∧ w'.cell? ⟨bf, 1, none⟩ = some (.int .i64 va)) (by kernel_rfl) ⟨pA, fA⟩ (fun hHeld => ?_)
                  generalize wY2.drew = wd3 at *
                  refine wpAnyH_take (i := 0) (v := ?_) rfl (by kernel_rfl) (by kernel_rfl) (by kernel_rfl) (fun _ _ _ h => h) (Or.inl ⟨by rfl, ?_⟩) (by assumption) ?_
                  rotate_left
                  · (intro w hSw; (try dsimp only at hSw); go_simp; try with_reducible rfl)
                  simp only [Act.put, List.setIfInBounds_toArray, List.set_cons_zero, List.set_cons_succ]
                  refine wpAnyH_take (i := 1) (v := ?_) rfl (by kernel_rfl) (by kernel_rfl) (by kernel_rfl) (fun _ _ _ h => h) (Or.inl ⟨by rfl, ?_⟩) (by assumption) ?_
                  rotate_left
                  · (intro w hSw; (try dsimp only at hSw); go_simp; try with_reducible rfl)
                  simp only [Act.put, List.setIfInBounds_toArray, List.set_cons_zero, List.set_cons_succ]
                  refine wpAnyH_take (i := 2) (v := ?_) rfl (by kernel_rfl) (by kernel_rfl) (by kernel_rfl) (fun _ _ _ h => h) (Or.inl ⟨by rfl, ?_⟩) (by assumption) ?_
                  rotate_left
                  · (intro w hSw; (try dsimp only at hSw); go_simp; try with_reducible rfl)
                  simp only [Act.put, List.setIfInBounds_toArray, List.set_cons_zero, List.set_cons_succ]
                  refine wpAnyH_take (i := 3) (v := ?_) rfl (by kernel_rfl) (by kernel_rfl) (by kernel_rfl) (fun _ _ _ h => h) (Or.inl ⟨by rfl, ?_⟩) (by assumption) ?_
                  rotate_left
                  · (intro w hSw; (try dsimp only at hSw); go_simp; try with_reducible rfl)
                  simp only [Act.put, List.setIfInBounds_toArray, List.set_cons_zero, List.set_cons_succ]
                  refine wpAnyH_take (i := 5) (v := ?_) rfl (by kernel_rfl) (by kernel_rfl) (by kernel_rfl) (fun _ _ _ h => h) (Or.inl ⟨by rfl, ?_⟩) (by assumption) ?_
                  rotate_left
                  · (intro w hSw; (try dsimp only at hSw); go_simp; try with_reducible rfl)
                  simp only [Act.put, List.setIfInBounds_toArray, List.set_cons_zero, List.set_cons_succ]
                  refine wpAnyH_take (i := 6) (v := ?_) rfl (by kernel_rfl) (by kernel_rfl) (by kernel_rfl) (fun _ _ _ h => h) (Or.inl ⟨by rfl, ?_⟩) (by assumption) ?_
                  rotate_left
                  · (intro w hSw; (try dsimp only at hSw); go_simp; try with_reducible rfl)
                  simp only [Act.put, List.setIfInBounds_toArray, List.set_cons_zero, List.set_cons_succ]
                  refine wpAnyH_ready (rs := [4, 7]) (by kernel_rfl) (by simp) ?_
                  refine AllReadyH.cons rfl (fun K hK => ?_) (AllReadyH.cons rfl (fun K hK => ?_) AllReadyH.nil)
                  go_simp
                  refine hK.out _ _ ⟨pA, fA⟩ (fun hHeld => ?_)
                  clear hK K
                  try simp only [Act.put, List.setIfInBounds_toArray, List.set_cons_zero, List.set_cons_succ]
                  refine wpAnyH_ready (rs := [7]) (by kernel_rfl) (by simp) ?_
                  refine AllReadyH.cons rfl (fun K hK => ?_) AllReadyH.nil
                  go_simp
                  refine hK.out _ _ ⟨pB, fB⟩ (fun hHeld => ?_)
                  clear hK K
                  try simp only [Act.put, List.setIfInBounds_toArray, List.set_cons_zero, List.set_cons_succ]
                  rotate_left
                  go_simp
                  refine hK.out _ _ ⟨pB, fB⟩ (fun hHeld => ?_)
                  clear hK K
                  try simp only [Act.put, List.setIfInBounds_toArray, List.set_cons_zero, List.set_cons_succ]
                  refine wpAnyH_ready (rs := [4]) (by kernel_rfl) (by simp) ?_
                  refine AllReadyH.cons rfl (fun K hK => ?_) AllReadyH.nil
                  go_simp
                  refine hK.out _ _ ⟨pB, fB⟩ (fun hHeld => ?_)
                  clear hK K
                  try simp only [Act.put, List.setIfInBounds_toArray, List.set_cons_zero, List.set_cons_succ]
                  all_goals
                    refine wpAnyH_ready (rs := [8]) (by kernel_rfl) (by simp) ?_
                    refine AllReadyH.cons rfl (fun K hK => ?_) AllReadyH.nil
                    refine step_append_run _ (by rfl) (.tmp 90) (.tmp 93) 71 71 _ (by rfl) (by rfl) _ _ (by rfl) (by rfl) _ w6 HRUN.out ?_
                    refine hK.out _ _ ⟨pC, fC⟩ (fun hHeld => ?_)
                    clear hK K
                    try simp only [Act.put, List.setIfInBounds_toArray, List.set_cons_zero, List.set_cons_succ]
                    refine wpAnyH_take (i := 9) (v := ?_) rfl (by kernel_rfl) (by kernel_rfl) (by kernel_rfl) (fun _ _ _ h => h) (Or.inl ⟨by rfl, ?_⟩) (by assumption) ?_
                    rotate_left
                    · (intro w hSw; (try dsimp only at hSw); go_simp; try with_reducible rfl)
                    simp only [Act.put, List.setIfInBounds_toArray, List.set_cons_zero, List.set_cons_succ]
                    refine wpAnyH_take (i := 10) (v := ?_) rfl (by kernel_rfl) (by kernel_rfl) (by kernel_rfl) (fun _ _ _ h => h) (Or.inl ⟨by rfl, ?_⟩) (by assumption) ?_
                    rotate_left
                    · (intro w hSw; (try dsimp only at hSw); go_simp; try with_reducible rfl)
                    simp only [Act.put, List.setIfInBounds_toArray, List.set_cons_zero, List.set_cons_succ]
                    refine wpAnyH_ready (rs := [11]) (by kernel_rfl) (by simp) ?_
                    refine AllReadyH.cons rfl (fun K hK => ?_) AllReadyH.nil
                    go_simp
                    refine hK.out _ _ ⟨pD, fD⟩ (fun hHeld => ?_)
                    clear hK K
                    try simp only [Act.put, List.setIfInBounds_toArray, List.set_cons_zero, List.set_cons_succ]
                    refine wpAnyH_done (by kernel_rfl) ?_ _
                    go_wp2_with (fail)
                    generalize w6.setCell ⟨p, 3, none⟩ (.slice x3 (ats.length + 1) cx3) = wY3 at *
                    have HX := HY
                    clear HY HRUN s0 s1 t6 z6 pA pB pC pD fA fB fC fD
                  all_goals
                    obtain ⟨e0, e1, s0, s1, x4, cx4, w6, Rx4, HRUN, e6, t6, z6, e9, h9⟩ := (HX.out.grow (below_drew _)).far4 (by simp [szS] at hsz2 hsz' ⊢; omega) vo
                    have pA := at_cell (e0 (b4, .cells #[.pointer (some ⟨p, 0, none⟩)] 79 (0, 0)) (by simp [bxs])) 0 (.pointer (some ⟨p, 0, none⟩)) rfl
                    have pB := at_cell (e1 (b4, .cells #[.pointer (some ⟨p, 0, none⟩)] 79 (0, 0)) (by simp [bxs])) 0 (.pointer (some ⟨p, 0, none⟩)) rfl
                    have pC := at_cell (e6 (b4, .cells #[.pointer (some ⟨p, 0, none⟩)] 79 (0, 0)) (by simp [bxs])) 0 (.pointer (some ⟨p, 0, none⟩)) rfl
                    have pD := at_cell (e9 (b4, .cells #[.pointer (some ⟨p, 0, none⟩)] 79 (0, 0)) (by simp [bxs])) 0 (.pointer (some ⟨p, 0, none⟩)) rfl
                    have fA := at_cell (e0 (bx + 1 + 1 + 1, .cells #[.bool vo] 4 (0, 0)) (by simp [bxs])) 0 (.bool vo) rfl
                    have fB := at_cell (e1 (bx + 1 + 1 + 1, .cells #[.bool vo] 4 (0, 0)) (by simp [bxs])) 0 (.bool vo) rfl
                    have fC := at_cell (e6 (bx + 1 + 1 + 1, .cells #[.bool vo] 4 (0, 0)) (by simp [bxs])) 0 (.bool vo) rfl
                    have fD := at_cell (e9 (bx + 1 + 1 + 1, .cells #[.bool vo] 4 (0, 0)) (by simp [bxs])) 0 (.bool vo) rfl
                    have HY := Lib.hid h9
                    clear e0 e1 e6 e9 h9 HX
                    simp only at HY HRUN s0 s1 t6 pA pB pC pD fA fB fC fD
                    refine wp_region_held_drew (S := fun w' => w'.cell? ⟨b4, 0, none⟩ = some (.pointer (some ⟨p, 0, none⟩)) ∧ w'.cell? ⟨bx + 1 + 1 + 1, 0, none⟩ = some (.bool vo)) (by kernel_rfl) ⟨pA, fA⟩ (fun hHeld => ?_)
                    generalize wY3.drew = wd4 at *
                    refine wpAnyH_take (i := 0) (v := ?_) rfl (by kernel_rfl) (by kernel_rfl) (by kernel_rfl) (fun _ _ _ h => h) (Or.inl ⟨by rfl, ?_⟩) (by assumption) ?_
                    rotate_left
                    · (intro w hSw; (try dsimp only at hSw); go_simp; try with_reducible rfl)
                    simp only [Act.put, List.setIfInBounds_toArray, List.set_cons_zero, List.set_cons_succ]
                    refine wpAnyH_take (i := 1) (v := ?_) rfl (by kernel_rfl) (by kernel_rfl) (by kernel_rfl) (fun _ _ _ h => h) (Or.inl ⟨by rfl, ?_⟩) (by assumption) ?_
                    rotate_left
                    · (intro w hSw; (try dsimp only at hSw); go_simp; try with_reducible rfl)
                    simp only [Act.put, List.setIfInBounds_toArray, List.set_cons_zero, List.set_cons_succ]
                    refine wpAnyH_take (i := 2) (v := ?_) rfl (by kernel_rfl) (by kernel_rfl) (by kernel_rfl) (fun _ _ _ h => h) (Or.inl ⟨by rfl, ?_⟩) (by assumption) ?_
                    rotate_left
                    · (intro w hSw; (try dsimp only at hSw); go_simp; try with_reducible rfl)
                    simp only [Act.put, List.setIfInBounds_toArray, List.set_cons_zero, List.set_cons_succ]
                    refine wpAnyH_take (i := 3) (v := ?_) rfl (by kernel_rfl) (by kernel_rfl) (by kernel_rfl) (fun _ _ _ h => h) (Or.inl ⟨by rfl, ?_⟩) (by assumption) ?_
                    rotate_left
                    · (intro w hSw; (try dsimp only at hSw); go_simp; try with_reducible rfl)
                    simp only [Act.put, List.setIfInBounds_toArray, List.set_cons_zero, List.set_cons_succ]
                    refine wpAnyH_take (i := 5) (v := ?_) rfl (by kernel_rfl) (by kernel_rfl) (by kernel_rfl) (fun _ _ _ h => h) (Or.inl ⟨by rfl, ?_⟩) (by assumption) ?_
                    rotate_left
                    · (intro w hSw; (try dsimp only at hSw); go_simp; try with_reducible rfl)
                    simp only [Act.put, List.setIfInBounds_toArray, List.set_cons_zero, List.set_cons_succ]
                    refine wpAnyH_ready (rs := [4, 6]) (by kernel_rfl) (by simp) ?_
                    refine AllReadyH.cons rfl (fun K hK => ?_) (AllReadyH.cons rfl (fun K hK => ?_) AllReadyH.nil)
                    go_simp
                    refine hK.out _ _ ⟨pA, fA⟩ (fun hHeld => ?_)
                    clear hK K
                    try simp only [Act.put, List.setIfInBounds_toArray, List.set_cons_zero, List.set_cons_succ]
                    refine wpAnyH_ready (rs := [6]) (by kernel_rfl) (by simp) ?_
                    refine AllReadyH.cons rfl (fun K hK => ?_) AllReadyH.nil
                    go_simp
                    refine hK.out _ _ ⟨pB, fB⟩ (fun hHeld => ?_)
                    clear hK K
                    try simp only [Act.put, List.setIfInBounds_toArray, List.set_cons_zero, List.set_cons_succ]
                    rotate_left
                    go_simp
                    refine hK.out _ _ ⟨pB, fB⟩ (fun hHeld => ?_)
                    clear hK K
                    try simp only [Act.put, List.setIfInBounds_toArray, List.set_cons_zero, List.set_cons_succ]
                    refine wpAnyH_ready (rs := [4]) (by kernel_rfl) (by simp) ?_
                    refine AllReadyH.cons rfl (fun K hK => ?_) AllReadyH.nil
                    go_simp
                    refine hK.out _ _ ⟨pB, fB⟩ (fun hHeld => ?_)
                    clear hK K
                    try simp only [Act.put, List.setIfInBounds_toArray, List.set_cons_zero, List.set_cons_succ]
                    all_goals
                      refine wpAnyH_ready (rs := [7]) (by kernel_rfl) (by simp) ?_
                      refine AllReadyH.cons rfl (fun K hK => ?_) AllReadyH.nil
                      refine step_append_run _ (by rfl) (.tmp 101) (.tmp 103) 72 72 _ (by rfl) (by rfl) _ _ (by rfl) (by rfl) _ w6 HRUN.out ?_
                      refine hK.out _ _ ⟨pC, fC⟩ (fun hHeld => ?_)
                      clear hK K
                      try simp only [Act.put, List.setIfInBounds_toArray, List.set_cons_zero, List.set_cons_succ]
                      refine wpAnyH_take (i := 8) (v := ?_) rfl (by kernel_rfl) (by kernel_rfl) (by kernel_rfl) (fun _ _ _ h => h) (Or.inl ⟨by rfl, ?_⟩) (by assumption) ?_
                      rotate_left
                      · (intro w hSw; (try dsimp only at hSw); go_simp; try with_reducible rfl)
                      simp only [Act.put, List.setIfInBounds_toArray, List.set_cons_zero, List.set_cons_succ]
                      refine wpAnyH_take (i := 9) (v := ?_) rfl (by kernel_rfl) (by kernel_rfl) (by kernel_rfl) (fun _ _ _ h => h) (Or.inl ⟨by rfl, ?_⟩) (by assumption) ?_
                      rotate_left
                      · (intro w hSw; (try dsimp only at hSw); go_simp; try with_reducible rfl)
                      simp only [Act.put, List.setIfInBounds_toArray, List.set_cons_zero, List.set_cons_succ]
                      refine wpAnyH_ready (rs := [10]) (by kernel_rfl) (by simp) ?_
                      refine AllReadyH.cons rfl (fun K hK => ?_) AllReadyH.nil
                      go_simp
                      refine hK.out _ _ ⟨pD, fD⟩ (fun hHeld => ?_)
                      clear hK K
                      try simp only [Act.put, List.setIfInBounds_toArray, List.set_cons_zero, List.set_cons_succ]
                      refine wpAnyH_done (by kernel_rfl) ?_ _
                      first
                        | (have ce := at_cell (HY.out.inE (x := (bx + 1, .cells #[.int .i64 (c : Int)] 3 (0, 0))) (by (simp [bxs]; done))) 0 (.int .i64 (c : Int)) rfl)
                        | (have ce := at_cell (HY.out.inE (x := (bx + 1, .cells #[.int .i64 (cl : Int)] 3 (0, 0))) (by (simp [bxs]; done))) 0 (.int .i64 (cl : Int)) rfl)
                      simp only at ce
                      clear HRUN s0 s1 t6 z6 pA pB pC pD fA fB fC fD
                      go_wp2_with (fail)
                      go_roundw
                      case rel => exact ⟨_ + 1, G2, l1 ++ lx, ⟨ld, er ++ [ve], ats ++ [va], en ++ [vo]⟩, by go_num, by omega, by omega, HD.out, by rw [undoG_append, HX2.out]; exact HU.out, by simp; omega, by simp; omega, by simp [szS] at hsz2 hsz' ⊢; omega, HS.out, _, _, _, _, _, _, _, _, _, _, _, _, _, _, _, by rw [← List.append_assoc]; exact (HY.out.dropE (X := [_, _, _, _, _])).permE (List.Perm.refl _)⟩
                      case measure => simp [intOf]; omega
            · rw [if_neg h3] at hd
              have z0 : (kz == 0) = false := by rw [beq_eq_false_iff_ne]; omega
              have z1 : (kz == 1) = false := by rw [beq_eq_false_iff_ne]; omega
              have z2 : (kz == 2) = false := by rw [beq_eq_false_iff_ne]; omega
              have z3 : (kz == 3) = false := by rw [beq_eq_false_iff_ne]; omega
              have HD := Lib.hid hd
              clear h1 h2 h3 hkz hd hcl
              go_wp2_with (fail)
              go_roundw
              case rel => exact ⟨k + 1, g', l1, st', by go_num, by omega, by omega, HD.out, HU.out, by omega, by omega, by omega, HG.out, _, _, _, _, _, _, _, _, _, _, _, _, _, _, _, HB.out.dropE (X := [_])⟩
              case measure => simp [intOf]; omega
      · rw [doG, dif_neg hlt] at hd
        have q4 : ¬ (k : Int) < too := by omega
        have HH := Lib.hid h
        subst hd
        clear h
        go_wp2_with (fail)
        go_end0
        refine ⟨HEP.out, l1, by omega, HU.out, a0, a1, a2, a3, a4, c0, c1, c2, c3, c4, R0, R1, R2, R3, R4, HH.out.dropE (X := [_])⟩
end Go.Proofs.Ytkcijlndblbidaa
