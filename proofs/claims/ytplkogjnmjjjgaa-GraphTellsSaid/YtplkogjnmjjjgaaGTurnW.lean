/- The walk of GraphTurns. -/
import Derived.Test.YtplkogjnmjjjgaaGTurn3
namespace Go.Proofs.Ytplkogjnmjjjgaa
open Go.ChangeShapes Go.WideShapes Go.ChangeAt Go.RowKit Go.Maps
set_option linter.unusedVariables false
set_option linter.unusedSimpArgs false

/-- a word of a node of an own graph: its block, and what it is once the word is another one -/
theorem NsB.word {base : Nat} {ns : List Nd} {xs : List Value} {R : List (Nat × Obj)} (h : NsB base ns xs R) {j : Nat} (hj : j < ns.length) (hw : 0 < (ns.getD j default).ws.length) :
    ∃ (bw : Nat) (cur : Array Value) (A C : List (Nat × Obj)) (cw : Nat), R = A ++ (bw, Obj.cells cur 48 (0, 0)) :: C ∧ xs[j * 3 + 2]? = some (.slice (some ⟨bw, 0, none⟩) (ns.getD j default).ws.length cw) ∧ cur[0]? = some (.int .u64 ((ns.getD j default).ws.getD 0 0)) ∧
      ∀ z, NsB base (ns.set j (wordN (ns.getD j default) z)) xs (A ++ (bw, Obj.cells (cur.setIfInBounds 0 (.int .u64 z)) 48 (0, 0)) :: C) := by
  induction h with
  | nil => cases hj
  | @snoc ns xs R x ap af aw cp cf cw Rp Rf Rx h hp hf hx ih =>
    have hlen := h.len
    by_cases hlt : j < ns.length
    · have e : (ns ++ [x]).getD j default = ns.getD j default := by
        rw [List.getD_eq_getElem?_getD, List.getD_eq_getElem?_getD, List.getElem?_append_left hlt]
      rw [e] at hw ⊢
      obtain ⟨bw, cur, A, C, cw', rfl, h2, h3, h4⟩ := ih hlt hw
      refine ⟨bw, cur, Rp ++ (Rf ++ (Rx ++ A)), C, cw', by simp, by rw [List.getElem?_append_left (by omega)]; exact h2, h3, fun z => ?_⟩
      have := NsB.snoc (h4 z) hp hf hx
      rw [List.set_append_left _ _ hlt]
      simpa using this
    · obtain rfl : j = ns.length := by
        rw [List.length_append] at hj
        simp at hj
        omega
      have e : (ns ++ [x]).getD ns.length default = x := by
        rw [List.getD_eq_getElem?_getD, List.getElem?_append_right (Nat.le_refl _)]
        simp
      rw [e] at hw ⊢
      rcases hx with ⟨-, h0, -⟩ | ⟨b, cur, rfl, h2, h3, h4, h5, h6, h7, rfl⟩
      · omega
      · rw [Nat.mul_one] at h6 h5
        refine ⟨b, cur, Rp ++ Rf, R, cw, by simp, by rw [List.getElem?_append_right (by omega), hlen, Nat.add_sub_cancel_left]; rfl, ?_, fun z => ?_⟩
        · have := icU_get x.ws 0 hw
          rw [← h6, List.getElem?_take_of_lt hw] at this
          simpa using this
        · rw [List.set_append_right _ _ (Nat.le_refl _), Nat.sub_self, List.set_cons_zero]
          have hn : Rw base 48 1 (wordN x z).ws.length (icU (wordN x z).ws) (some ⟨b, 0, none⟩) cw [(b, .cells (cur.setIfInBounds 0 (.int .u64 z)) 48 (0, 0))] := by
            refine .inr ⟨b, _, rfl, h2, by simpa [wordN] using h3, h4, by simpa using h5, ?_, by simp [icU], rfl⟩
            have hl : (wordN x z).ws.length = x.ws.length := by simp [wordN]
            rw [hl, Nat.mul_one, Array.toList_setIfInBounds, List.take_set, h6]
            simp [icU, wordN, List.map_set]
          have := NsB.snoc (x := wordN x z) h hp hf hn
          have hl : (wordN x z).ws.length = x.ws.length := by simp [wordN]
          rw [hl] at this
          have this2 : NsB base (ns ++ [wordN x z]) (xs ++ [.slice ap x.ps.length cp, .slice af x.fs.length cf, .slice (some ⟨b, 0, none⟩) x.ws.length cw]) (Rp ++ (Rf ++ ([(b, Obj.cells (cur.setIfInBounds 0 (.int .u64 z)) 48 (0, 0))] ++ R))) := this
          simpa using this2
theorem word_ok {t : Gr} {j : Nat} {u : Int} (h : OkG t) (hu : (Lit.int .u64 u).wf = true) : OkG (wordG t j u) := by
  have hl : (wordG t j u).ns.length = t.ns.length := by simp [wordG]
  refine ⟨h.rs, fun y hy => ?_⟩
  obtain ⟨n, hn, rfl⟩ := List.getElem_of_mem hy
  have e : (wordG t j u).ns[n] = (wordG t j u).ns.getD n default := by rw [List.getD_eq_getElem?_getD, List.getElem?_eq_getElem hn]; rfl
  rw [e, word_at]
  split
  · refine ⟨(h.at_ j).ps, (h.at_ j).fs, fun i hi => ?_⟩
    unfold wordN at hi ⊢
    simp only [List.length_set] at hi
    simp only
    rw [List.getD_eq_getElem?_getD, List.getElem?_set]
    split
    · rename_i h0
      subst h0
      rw [if_pos hi]
      exact hu
    · rw [← List.getD_eq_getElem?_getD]
      exact (h.at_ j).ws i hi
  · exact h.at_ n
theorem past_cases (N : Nat) (z : Int) : (decide (z < -1) = true ∧ inr (N + 1) z = false) ∨ (decide (z < -1) = false ∧ decide ((N : Int) < z) = true ∧ inr (N + 1) z = false) ∨ (decide (z < -1) = false ∧ decide ((N : Int) < z) = false ∧ inr (N + 1) z = true) := by
  unfold inr
  by_cases h1 : z < -1
  · exact .inl ⟨decide_eq_true h1, decide_eq_false (by omega)⟩
  · by_cases h2 : (N : Int) < z
    · exact .inr (.inl ⟨decide_eq_false h1, decide_eq_true h2, decide_eq_false (by omega)⟩)
    · exact .inr (.inr ⟨decide_eq_false h1, decide_eq_false h2, decide_eq_true (by omega)⟩)
theorem set_back {cur : Array Value} {z u : Value} (h : cur[0]? = some z) : (cur.setIfInBounds 0 u).setIfInBounds 0 z = cur := by
  have hlt : 0 < cur.size := (Array.getElem?_eq_some_iff.1 h).1
  apply Array.ext_getElem?
  intro i
  rw [Array.getElem?_setIfInBounds, Array.getElem?_setIfInBounds]
  by_cases e : 0 = i
  · subst e
    rw [if_pos rfl, if_pos (by simpa using hlt), h]
  · rw [if_neg e, if_neg e]
theorem sameG_self (g : Gr) : sameG g g = true := sameG_iff.2 rfl
theorem rem_lt (a : Int) {n : Nat} (hn : 1 ≤ n) : ∃ k : Nat, (IntKind.u64.wrap a).tmod (n : Int) = k ∧ k < n := by
  have h : 0 ≤ IntKind.u64.wrap a := by rw [IntKind.wrap_u64]; omega
  rw [Int.tmod_eq_emod_of_nonneg h]
  have h1 := Int.emod_nonneg (IntKind.u64.wrap a) (show (n : Int) ≠ 0 by omega)
  have h2 := Int.emod_lt_of_pos (IntKind.u64.wrap a) (show (0 : Int) < n by omega)
  exact ⟨(IntKind.u64.wrap a % n).toNat, by omega, by omega⟩
set_option maxRecDepth 100000 in
set_option maxHeartbeats 1600000 in
theorem gturns_any {w : World} {ar an ap af aw : Option Addr} {g : Gr} {x : Nd} (cr cn cp cf cw : Nat) (a b u : Int) (hG : GRd w ar an g) (hs : SmG g) (hx : NdR w ap af aw x) (hxs : x.ps.length ≤ 2 ^ 47 ∧ x.fs.length ≤ 2 ^ 47 ∧ x.ws.length ≤ 2 ^ 47) (hu : (Lit.int .u64 u).wf = true)
    (ha : -9223372036854775808 ≤ a ∧ a ≤ 9223372036854775807) (hb : -9223372036854775808 ≤ b ∧ b ≤ 9223372036854775807) :
    Calls Try.prog 6 #[.agg #[.slice ar g.rs.length cr, .slice an g.ns.length cn], .agg #[.int .i64 a, .int .i64 b], .agg #[.slice ap x.ps.length cp, .slice af x.fs.length cf, .slice aw x.ws.length cw, .int .u64 u]] w fun e w' => e = .returned (.bool true) ∧ Below w.heap.size w w' := by
  have h1 := (FKN.refl w).box #[.slice ar g.rs.length cr, .slice an g.ns.length cn] 25
  have h2 := h1.box #[.int .i64 a, .int .i64 b] 52
  have h3 := h2.box #[.slice ap x.ps.length cp, .slice af x.fs.length cf, .slice aw x.ws.length cw, .int .u64 u] 54
  simp only [heap_size_alloc] at h3
  obtain ⟨gb, hgb⟩ : ∃ gb, w.heap.size = gb := ⟨_, rfl⟩
  simp only [hgb] at h3
  have l1 : (g.ns.length : Int) ≤ 140737488355328 := by have := hs.ns; omega
  have p1 : (x.ps.length : Int) ≤ 140737488355328 := by omega
  have p2 : (x.fs.length : Int) ≤ 140737488355328 := by omega
  have p3 : (x.ws.length : Int) ≤ 140737488355328 := by omega
  obtain ⟨E0, hE0⟩ : ∃ E0, [(gb + 1 + 1, Obj.cells #[.slice ap x.ps.length cp, .slice af x.fs.length cf, .slice aw x.ws.length cw, .int .u64 u] 54 (0, 0)), (gb + 1, Obj.cells #[.int .i64 a, .int .i64 b] 52 (0, 0)), (gb, Obj.cells #[.slice ar g.rs.length cr, .slice an g.ns.length cn] 25 (0, 0))] = E0 := ⟨_, rfl⟩
  rw [hE0] at h3
  have HCg := Lib.hid (show ∀ K W, FKN w (K ++ E0) W → (W.cell? ⟨gb, 0, none⟩ = some (.slice ar g.rs.length cr) ∧ W.cell? ⟨gb, 1, none⟩ = some (.slice an g.ns.length cn)) ∧ (W.cell? ⟨gb + 1, 0, none⟩ = some (.int .i64 a) ∧ W.cell? ⟨gb + 1, 1, none⟩ = some (.int .i64 b)) ∧ (W.cell? ⟨gb + 1 + 1, 0, none⟩ = some (.slice ap x.ps.length cp) ∧ W.cell? ⟨gb + 1 + 1, 1, none⟩ = some (.slice af x.fs.length cf) ∧ W.cell? ⟨gb + 1 + 1, 2, none⟩ = some (.slice aw x.ws.length cw) ∧ W.cell? ⟨gb + 1 + 1, 3, none⟩ = some (.int .u64 u)) from fun K W hW => by
    subst hE0
    have k0 := hW.drop
    exact ⟨⟨at_cell (k0.tail.tail.1.block (List.mem_cons_self ..)) 0 _ rfl, at_cell (k0.tail.tail.1.block (List.mem_cons_self ..)) 1 _ rfl⟩, ⟨at_cell (k0.tail.1.block (List.mem_cons_self ..)) 0 _ rfl, at_cell (k0.tail.1.block (List.mem_cons_self ..)) 1 _ rfl⟩, at_cell (k0.1.block (List.mem_cons_self ..)) 0 _ rfl, at_cell (k0.1.block (List.mem_cons_self ..)) 1 _ rfl, at_cell (k0.1.block (List.mem_cons_self ..)) 2 _ rfl, at_cell (k0.1.block (List.mem_cons_self ..)) 3 _ rfl⟩)
  have HgE := Lib.hid (show ∀ K W, (∀ x ∈ E0, x ∈ K) → KB w K W → W.cell? ⟨gb, 0, none⟩ = some (.slice ar g.rs.length cr) ∧ W.cell? ⟨gb, 1, none⟩ = some (.slice an g.ns.length cn) from fun K W hs hW => by
    subst hE0
    have hq := hW.block (hs (gb, Obj.cells #[.slice ar g.rs.length cr, .slice an g.ns.length cn] 25 (0, 0)) (by simp))
    exact ⟨at_cell hq 0 _ rfl, at_cell hq 1 _ rfl⟩)
  obtain ⟨w1, hw1⟩ : ∃ w1, ((w.alloc (.cells #[.slice ar g.rs.length cr, .slice an g.ns.length cn] 25)).alloc (.cells #[.int .i64 a, .int .i64 b] 52)).alloc (.cells #[.slice ap x.ps.length cp, .slice af x.fs.length cf, .slice aw x.ws.length cw, .int .u64 u] 54) = w1 := ⟨_, rfl⟩
  rw [hw1] at h3
  have HW1 := Lib.hid hw1
  have H3 := Lib.hid (h3.grow (below_drew _))
  have HG := Lib.hid hG
  have HX := Lib.hid hx
  have HF := Lib.hid (fun W (h : Below w.heap.size w W) => far_any cr cn (hG.below h) hs)
  have HM := Lib.hid (fun W (h : Below w.heap.size w W) => refMay_any cr cn (hG.below h))
  have HL := Lib.hid lives_any
  clear h1 h2 h3 hE0 hw1 hG hx
  go_enter Try.func6, Try.ntmps6
  go_wp2_with (fail)
  rw [HW1.out]
  refine wp_region_heldL (S := fun W => (W.cell? ⟨gb, 0, none⟩ = some (.slice ar g.rs.length cr) ∧ W.cell? ⟨gb, 1, none⟩ = some (.slice an g.ns.length cn)) ∧ (W.cell? ⟨gb + 1, 0, none⟩ = some (.int .i64 a) ∧ W.cell? ⟨gb + 1, 1, none⟩ = some (.int .i64 b)) ∧ (W.cell? ⟨gb + 1 + 1, 0, none⟩ = some (.slice ap x.ps.length cp) ∧ W.cell? ⟨gb + 1 + 1, 1, none⟩ = some (.slice af x.fs.length cf) ∧ W.cell? ⟨gb + 1 + 1, 2, none⟩ = some (.slice aw x.ws.length cw) ∧ W.cell? ⟨gb + 1 + 1, 3, none⟩ = some (.int .u64 u))) (by kernel_rfl) (HCg.out [] _ H3.out) (fun hHeld => ?_)
  generalize w1.drew = V0 at *
  refine wpAnyL_take (i := 0) (v := ?_) rfl (by kernel_rfl) (by kernel_rfl) (by kernel_rfl) (by kernel_rfl) (fun _ _ _ h => h) (Or.inl ⟨by kernel_rfl, ?_⟩) (by assumption) ?_
  rotate_left
  · (intro w hSw; (try dsimp only at hSw); go_simp; try with_reducible rfl)
  simp only [Act.put, List.setIfInBounds_toArray, List.set_cons_zero, List.set_cons_succ]
  refine wpAnyL_take (i := 1) (v := ?_) rfl (by kernel_rfl) (by kernel_rfl) (by kernel_rfl) (by kernel_rfl) (fun _ _ _ h => h) (Or.inl ⟨by kernel_rfl, ?_⟩) (by assumption) ?_
  rotate_left
  · (intro w hSw; (try dsimp only at hSw); go_simp; try with_reducible rfl)
  simp only [Act.put, List.setIfInBounds_toArray, List.set_cons_zero, List.set_cons_succ]
  refine wpAnyL_take (i := 2) (v := ?_) rfl (by kernel_rfl) (by kernel_rfl) (by kernel_rfl) (by kernel_rfl) (fun _ _ _ h => h) (Or.inl ⟨by kernel_rfl, ?_⟩) (by assumption) ?_
  rotate_left
  · (intro w hSw; (try dsimp only at hSw); go_simp; try with_reducible rfl)
  simp only [Act.put, List.setIfInBounds_toArray, List.set_cons_zero, List.set_cons_succ]
  refine wpAnyL_take (i := 3) (v := ?_) rfl (by kernel_rfl) (by kernel_rfl) (by kernel_rfl) (by kernel_rfl) (fun _ _ _ h => h) (Or.inl ⟨by kernel_rfl, ?_⟩) (by assumption) ?_
  rotate_left
  · (intro w hSw; (try dsimp only at hSw); go_simp; try with_reducible rfl)
  simp only [Act.put, List.setIfInBounds_toArray, List.set_cons_zero, List.set_cons_succ]
  refine wpAnyL_take (i := 4) (v := ?_) rfl (by kernel_rfl) (by kernel_rfl) (by kernel_rfl) (by kernel_rfl) (fun _ _ _ h => h) (Or.inl ⟨by kernel_rfl, ?_⟩) (by assumption) ?_
  rotate_left
  · (intro w hSw; (try dsimp only at hSw); go_simp; try with_reducible rfl)
  simp only [Act.put, List.setIfInBounds_toArray, List.set_cons_zero, List.set_cons_succ]
  refine wpAnyL_take (i := 5) (v := ?_) rfl (by kernel_rfl) (by kernel_rfl) (by kernel_rfl) (by kernel_rfl) (fun _ _ _ h => h) (Or.inl ⟨by kernel_rfl, ?_⟩) (by assumption) ?_
  rotate_left
  · (intro w hSw; (try dsimp only at hSw); go_simp; try with_reducible rfl)
  simp only [Act.put, List.setIfInBounds_toArray, List.set_cons_zero, List.set_cons_succ]
  refine wpAnyL_take (i := 6) (v := ?_) rfl (by kernel_rfl) (by kernel_rfl) (by kernel_rfl) (by kernel_rfl) (fun _ _ _ h => h) (Or.inl ⟨by kernel_rfl, ?_⟩) (by assumption) ?_
  rotate_left
  · (intro w hSw; (try dsimp only at hSw); go_simp; try with_reducible rfl)
  simp only [Act.put, List.setIfInBounds_toArray, List.set_cons_zero, List.set_cons_succ]
  refine wpAnyL_one (i := 7) (by decide +kernel) rfl (fun K hK => ?_)
  go_simp
  have hb4 := H3.out.box #[.slice none 0 0, .slice none 0 0, .slice none 0 0] 47
  refine hK.out _ _ (HCg.out [_] _ hb4) (fun hHeld => ?_)
  clear hK K
  try simp only [Act.put, List.setIfInBounds_toArray, List.set_cons_zero, List.set_cons_succ]
  obtain ⟨bx, hbx⟩ : ∃ bx, V0.heap.size = bx := ⟨_, rfl⟩
  simp only [hbx] at hb4 ⊢
  have H4 := Lib.hid hb4
  clear hb4
  generalize V0.alloc (.cells #[.slice none 0 0, .slice none 0 0, .slice none 0 0] 47) = V1 at *
  clear hbx
  refine wpAnyL_one (i := 8) (by decide +kernel) rfl (fun K hK => ?_)
  go_simp
  refine hK.out _ _ (HCg.out [_] _ H4.out) (fun hHeld => ?_)
  clear hK K
  try simp only [Act.put, List.setIfInBounds_toArray, List.set_cons_zero, List.set_cons_succ]
  have hq := H4.out.1.block (List.mem_cons_self ..)
  have x0 := at_cell hq 0 _ rfl
  have x1 := at_cell hq 1 _ rfl
  have x2 := at_cell hq 2 _ rfl
  have f0 := at_free hq 0
  have f1 := at_free hq 1
  have f2 := at_free hq 2
  have hset := ((H4.out.set 0 (.slice ap x.ps.length cp)).set 1 (.slice af x.fs.length cf)).set 2 (.slice aw x.ws.length cw)
  have hset : FKN w ((bx, Obj.cells #[.slice ap x.ps.length cp, .slice af x.fs.length cf, .slice aw x.ws.length cw] 47 (0, 0)) :: E0) _ := hset
  refine wpAnyL_one (i := 9) (by decide +kernel) rfl (fun K hK => ?_)
  go_simp
  refine hK.out _ _ (HCg.out [_] _ hset) (fun hHeld => ?_)
  clear hK K
  try simp only [Act.put, List.setIfInBounds_toArray, List.set_cons_zero, List.set_cons_succ]
  have H5 := Lib.hid hset
  clear hset hq x0 x1 x2 f0 f1 f2
  generalize ((V1.setCell ⟨bx, 0, none⟩ (.slice ap x.ps.length cp)).setCell ⟨bx, 1, none⟩ (.slice af x.fs.length cf)).setCell ⟨bx, 2, none⟩ (.slice aw x.ws.length cw) = V2 at *
  refine wpAnyL_last (i := 10) (by kernel_rfl) rfl (by kernel_rfl) (by kernel_rfl) (fun K hK => ?_)
  go_simp
  refine hK.out _ _ ?_
  clear hK K
  try simp only [Act.put, List.setIfInBounds_toArray, List.set_cons_zero, List.set_cons_succ]
  clear hHeld H3 H4
  have Hcx := Lib.hid (show ∀ K W, FKN w (K ++ ((bx, Obj.cells #[.slice ap x.ps.length cp, .slice af x.fs.length cf, .slice aw x.ws.length cw] 47 (0, 0)) :: E0)) W → ((W.cell? ⟨gb, 0, none⟩ = some (.slice ar g.rs.length cr) ∧ W.cell? ⟨gb, 1, none⟩ = some (.slice an g.ns.length cn)) ∧ (W.cell? ⟨gb + 1, 0, none⟩ = some (.int .i64 a) ∧ W.cell? ⟨gb + 1, 1, none⟩ = some (.int .i64 b))) ∧ (W.cell? ⟨bx, 0, none⟩ = some (.slice ap x.ps.length cp) ∧ W.cell? ⟨bx, 1, none⟩ = some (.slice af x.fs.length cf) ∧ W.cell? ⟨bx, 2, none⟩ = some (.slice aw x.ws.length cw)) from fun K W hW => by
    have h0 := HCg.out (K ++ [(bx, Obj.cells #[.slice ap x.ps.length cp, .slice af x.fs.length cf, .slice aw x.ws.length cw] 47 (0, 0))]) W (by rw [List.append_assoc]; exact hW)
    have hq := hW.drop.1.block (List.mem_cons_self ..)
    exact ⟨⟨h0.1, h0.2.1⟩, at_cell hq 0 _ rfl, at_cell hq 1 _ rfl, at_cell hq 2 _ rfl⟩)
  clear HCg
  obtain ⟨⟨⟨c0, c1⟩, -⟩, x0, x1, x2⟩ := Hcx.out [] _ H5.out
  cases hf : farG g with
  | true =>
    rw [hf] at HF
    clear hf hs
    go_wp2_with (first
      | (go_at_call 10; refine (HF.out _ H5.out.below).mono ?_; rintro e w6 ⟨rfl, hb⟩; have H6 := Lib.hid (H5.out.grow hb); clear hb)
      | (go_at_call 11; refine (HL.out _).mono ?_; rintro e w7 ⟨rfl, hb⟩; have H7 := Lib.hid (H6.out.grow hb); clear hb))
    go_ret
    subst hgb
    exact ⟨rfl, H7.out.below⟩
  | false =>
    have near := near_of hf
    have few := near.few
    rw [hf] at HF
    cases hm : mayG g with
    | false =>
      rw [hm] at HM
      clear hf hs few near hm
      go_wp2_with (first
        | (go_at_call 10; refine (HF.out _ H5.out.below).mono ?_; rintro e w6 ⟨rfl, hb⟩; have H6 := Lib.hid (H5.out.grow hb); obtain ⟨⟨⟨c0, c1⟩, -⟩, x0, x1, x2⟩ := Hcx.out [] _ H6.out; clear hb)
        | (go_at_call 17; refine (HM.out _ H6.out.below).mono ?_; rintro e w7 ⟨rfl, hb⟩; have H7 := Lib.hid (H6.out.grow hb); clear hb)
        | (go_at_call 11; refine (HL.out _).mono ?_; rintro e w8 ⟨rfl, hb⟩; have H8 := Lib.hid (H7.out.grow hb); clear hb))
      go_ret
      subst hgb
      exact ⟨rfl, H8.out.below⟩
    | true =>
      rw [hm] at HM
      by_cases hn0 : g.ns.length = 0
      · have hn1 : ((g.ns.length : Int) == 0) = true := by simp [hn0]
        clear hf hs few near hm hn0
        go_wp2_with (first
          | (go_at_call 10; refine (HF.out _ H5.out.below).mono ?_; rintro e w6 ⟨rfl, hb⟩; have H6 := Lib.hid (H5.out.grow hb); obtain ⟨⟨⟨c0, c1⟩, -⟩, x0, x1, x2⟩ := Hcx.out [] _ H6.out; clear hb)
          | (go_at_call 17; refine (HM.out _ H6.out.below).mono ?_; rintro e w7 ⟨rfl, hb⟩; have H7 := Lib.hid (H6.out.grow hb); clear hb)
          | (go_at_call 11; refine (HL.out _).mono ?_; rintro e w8 ⟨rfl, hb⟩; have H8 := Lib.hid (H7.out.grow hb); clear hb))
        go_ret
        subst hgb
        exact ⟨rfl, H8.out.below⟩
      · have hn1 : ((g.ns.length : Int) == 0) = false := by rw [beq_eq_false_iff_ne]; omega
        by_cases h255 : x.ps.length + x.fs.length + x.ws.length ≤ 255
        · have hd5 : decide ((255 : Int) < x.ps.length + x.fs.length + x.ws.length) = false := decide_eq_false (by omega)
          have l2 : (g.ns.length : Int) ≤ 60 := by have := near.ns; omega
          obtain ⟨I, hI, hIN⟩ := rem_lt a (show 1 ≤ g.ns.length by omega)
          obtain ⟨J, hJ, hJN⟩ := rem_lt b (show 1 ≤ g.ns.length by omega)
          have hnu : IntKind.u64.wrap (g.ns.length : Int) = g.ns.length := by rw [IntKind.wrap_u64]; omega
          have hI1 : IntKind.i64.wrap (I : Int) = I := by rw [IntKind.wrap_i64]; omega
          have hJ1 : IntKind.i64.wrap (J : Int) = J := by rw [IntKind.wrap_i64]; omega
          have hne : ¬ (g.ns.length : Int) = 0 := by omega
          go_wp2_with (first
            | (go_at_call 10; refine (HF.out _ H5.out.below).mono ?_; rintro e w6 ⟨rfl, hb⟩; have H6 := Lib.hid (H5.out.grow hb); obtain ⟨⟨⟨c0, c1⟩, -⟩, x0, x1, x2⟩ := Hcx.out [] _ H6.out; clear hb)
            | (go_at_call 17; refine (HM.out _ H6.out.below).mono ?_; rintro e w7 ⟨rfl, hb⟩; have H7 := Lib.hid (H6.out.grow hb); obtain ⟨⟨⟨c0, c1⟩, -⟩, x0, x1, x2⟩ := Hcx.out [] _ H7.out; clear hb))
          clear c0 c1 x0 x1 x2
          have H8 := Lib.hid (H7.out.grow (below_drew w7))
          refine wp_region_heldL (S := fun W => ((W.cell? ⟨gb, 0, none⟩ = some (.slice ar g.rs.length cr) ∧ W.cell? ⟨gb, 1, none⟩ = some (.slice an g.ns.length cn)) ∧ (W.cell? ⟨gb + 1, 0, none⟩ = some (.int .i64 a) ∧ W.cell? ⟨gb + 1, 1, none⟩ = some (.int .i64 b))) ∧ (W.cell? ⟨bx, 0, none⟩ = some (.slice ap x.ps.length cp) ∧ W.cell? ⟨bx, 1, none⟩ = some (.slice af x.fs.length cf) ∧ W.cell? ⟨bx, 2, none⟩ = some (.slice aw x.ws.length cw))) (by kernel_rfl) (Hcx.out [] _ H8.out) (fun hHeld => ?_)
          generalize w7.drew = W8 at *
          refine wpAnyL_take (i := 0) (v := ?_) rfl (by kernel_rfl) (by kernel_rfl) (by kernel_rfl) (by kernel_rfl) (fun _ _ _ h => h) (Or.inl ⟨by kernel_rfl, ?_⟩) (by assumption) ?_
          rotate_left
          · (intro w hSw; (try dsimp only at hSw); go_simp; try with_reducible rfl)
          simp only [Act.put, List.setIfInBounds_toArray, List.set_cons_zero, List.set_cons_succ]
          refine wpAnyL_take (i := 1) (v := ?_) rfl (by kernel_rfl) (by kernel_rfl) (by kernel_rfl) (by kernel_rfl) (fun _ _ _ h => h) (Or.inl ⟨by kernel_rfl, ?_⟩) (by assumption) ?_
          rotate_left
          · (intro w hSw; (try dsimp only at hSw); go_simp; try with_reducible rfl)
          simp only [Act.put, List.setIfInBounds_toArray, List.set_cons_zero, List.set_cons_succ]
          refine wpAnyL_take (i := 2) (v := ?_) rfl (by kernel_rfl) (by kernel_rfl) (by kernel_rfl) (by kernel_rfl) (fun _ _ _ h => h) (Or.inl ⟨by kernel_rfl, ?_⟩) (by assumption) ?_
          rotate_left
          · (intro w hSw; (try dsimp only at hSw); go_simp; try with_reducible rfl)
          simp only [Act.put, List.setIfInBounds_toArray, List.set_cons_zero, List.set_cons_succ]
          refine wpAnyL_take (i := 3) (v := ?_) rfl (by kernel_rfl) (by kernel_rfl) (by kernel_rfl) (by kernel_rfl) (fun _ _ _ h => h) (Or.inl ⟨by kernel_rfl, ?_⟩) (by assumption) ?_
          rotate_left
          · (intro w hSw; (try dsimp only at hSw); go_simp; try with_reducible rfl)
          simp only [Act.put, List.setIfInBounds_toArray, List.set_cons_zero, List.set_cons_succ]
          refine wpAnyL_take (i := 4) (v := ?_) rfl (by kernel_rfl) (by kernel_rfl) (by kernel_rfl) (by kernel_rfl) (fun _ _ _ h => h) (Or.inl ⟨by kernel_rfl, ?_⟩) (by assumption) ?_
          rotate_left
          · (intro w hSw; (try dsimp only at hSw); go_simp; try with_reducible rfl)
          simp only [Act.put, List.setIfInBounds_toArray, List.set_cons_zero, List.set_cons_succ]
          refine wpAnyL_take (i := 5) (v := ?_) rfl (by kernel_rfl) (by kernel_rfl) (by kernel_rfl) (by kernel_rfl) (fun _ _ _ h => h) (Or.inl ⟨by kernel_rfl, ?_⟩) (by assumption) ?_
          rotate_left
          · (intro w hSw; (try dsimp only at hSw); go_simp; try with_reducible rfl)
          simp only [Act.put, List.setIfInBounds_toArray, List.set_cons_zero, List.set_cons_succ]
          refine wpAnyL_take (i := 6) (v := ?_) rfl (by kernel_rfl) (by kernel_rfl) (by kernel_rfl) (by kernel_rfl) (fun _ _ _ h => h) (Or.inl ⟨by kernel_rfl, ?_⟩) (by assumption) ?_
          rotate_left
          · (intro w hSw; (try dsimp only at hSw); go_simp; try with_reducible rfl)
          simp only [Act.put, List.setIfInBounds_toArray, List.set_cons_zero, List.set_cons_succ]
          refine wpAnyL_take (i := 7) (v := ?_) rfl (by kernel_rfl) (by kernel_rfl) (by kernel_rfl) (by kernel_rfl) (fun _ _ _ h => h) (Or.inl ⟨by kernel_rfl, ?_⟩) (by assumption) ?_
          rotate_left
          · (intro w hSw; (try dsimp only at hSw); go_simp; try with_reducible rfl)
          simp only [Act.put, List.setIfInBounds_toArray, List.set_cons_zero, List.set_cons_succ]
          refine wpAnyL_take (i := 8) (v := ?_) rfl (by kernel_rfl) (by kernel_rfl) (by kernel_rfl) (by kernel_rfl) (fun _ _ _ h => h) (Or.inl ⟨by kernel_rfl, ?_⟩) (by assumption) ?_
          rotate_left
          · (intro w hSw; (try dsimp only at hSw); go_simp; try with_reducible rfl)
          simp only [Act.put, List.setIfInBounds_toArray, List.set_cons_zero, List.set_cons_succ]
          refine wpAnyL_take (i := 9) (v := ?_) rfl (by kernel_rfl) (by kernel_rfl) (by kernel_rfl) (by kernel_rfl) (fun _ _ _ h => h) (Or.inl ⟨by kernel_rfl, ?_⟩) (by assumption) ?_
          rotate_left
          · (intro w hSw; (try dsimp only at hSw); go_simp; try with_reducible rfl)
          simp only [Act.put, List.setIfInBounds_toArray, List.set_cons_zero, List.set_cons_succ]
          refine wpAnyL_take (i := 10) (v := ?_) rfl (by kernel_rfl) (by kernel_rfl) (by kernel_rfl) (by kernel_rfl) (fun _ _ _ h => h) (Or.inl ⟨by kernel_rfl, ?_⟩) (by assumption) ?_
          rotate_left
          · (intro w hSw; (try dsimp only at hSw); go_simp; try with_reducible rfl)
          simp only [Act.put, List.setIfInBounds_toArray, List.set_cons_zero, List.set_cons_succ]
          refine wpAnyL_take (i := 11) (v := ?_) rfl (by kernel_rfl) (by kernel_rfl) (by kernel_rfl) (by kernel_rfl) (fun _ _ _ h => h) (Or.inl ⟨by kernel_rfl, ?_⟩) (by assumption) ?_
          rotate_left
          · (intro w hSw; (try dsimp only at hSw); go_simp; try with_reducible rfl)
          simp only [Act.put, List.setIfInBounds_toArray, List.set_cons_zero, List.set_cons_succ]
          refine wpAnyL_take (i := 12) (v := ?_) rfl (by kernel_rfl) (by kernel_rfl) (by kernel_rfl) (by kernel_rfl) (fun _ _ _ h => h) (Or.inl ⟨by kernel_rfl, ?_⟩) (by assumption) ?_
          rotate_left
          · (intro w hSw; (try dsimp only at hSw); go_simp; try with_reducible rfl)
          simp only [Act.put, List.setIfInBounds_toArray, List.set_cons_zero, List.set_cons_succ]
          refine wpAnyL_take (i := 13) (v := ?_) rfl (by kernel_rfl) (by kernel_rfl) (by kernel_rfl) (by kernel_rfl) (fun _ _ _ h => h) (Or.inl ⟨by kernel_rfl, ?_⟩) (by assumption) ?_
          rotate_left
          · (intro w hSw; (try dsimp only at hSw); go_simp; try with_reducible rfl)
          simp only [Act.put, List.setIfInBounds_toArray, List.set_cons_zero, List.set_cons_succ]
          refine wpAnyL_take (i := 14) (v := ?_) rfl (by kernel_rfl) (by kernel_rfl) (by kernel_rfl) (by kernel_rfl) (fun _ _ _ h => h) (Or.inl ⟨by kernel_rfl, ?_⟩) (by assumption) ?_
          rotate_left
          · (intro w hSw; (try dsimp only at hSw); go_simp; try with_reducible rfl)
          simp only [Act.put, List.setIfInBounds_toArray, List.set_cons_zero, List.set_cons_succ]
          have hIJ : (0 ≤ (I : Int) ∧ (I : Int) < g.ns.length) ∧ (0 ≤ (J : Int) ∧ (J : Int) < g.ns.length) := by omega
          have HIJ := Lib.hid hIJ
          clear hIJ hI hJ hnu hI1 hJ1
          refine wpAnyL_two (i := 15) (j := 16) (by decide +kernel) rfl rfl (fun K hK => ?_) (fun K hK => ?_)
          go_simp
          go_at_call 27
          refine (turned_any cr cn I J HG.out H8.out.below few HIJ.out.1 HIJ.out.2).mono ?_
          rintro e W9 ⟨ah, nh, ch, kh, rfl, B, ⟨Rr, Rn, xs, Rx, hr, hn, hxx, rfl⟩, hF⟩
          have hj := H8.out.join hF
          refine hK.out _ _ (Hcx.out (Rr ++ (Rn ++ Rx)) _ hj) (fun hHeld => ?_)
          clear hK K
          try simp only [Act.put, List.setIfInBounds_toArray, List.set_cons_zero, List.set_cons_succ]
          refine wpAnyL_one (i := 16) (by decide +kernel) rfl (fun K hK => ?_)
          go_simp
          have hb4 := hj.box #[.slice none 0 0, .slice none 0 0] 25
          refine hK.out _ _ (Hcx.out (_ :: (Rr ++ (Rn ++ Rx))) _ hb4) (fun hHeld => ?_)
          clear hK K
          try simp only [Act.put, List.setIfInBounds_toArray, List.set_cons_zero, List.set_cons_succ]
          obtain ⟨bh, hbh⟩ : ∃ bh, W9.heap.size = bh := ⟨_, rfl⟩
          simp only [hbh] at hb4 ⊢
          clear hF hj
          generalize W9.alloc (.cells #[.slice none 0 0, .slice none 0 0] 25) = V9 at *
          clear hbh
          have hq := hb4.1.block (List.mem_cons_self ..)
          have y0 := at_cell hq 0 _ rfl
          have y1 := at_cell hq 1 _ rfl
          have f0 := at_free hq 0
          have f1 := at_free hq 1
          have hset : FKN w ((bh, Obj.cells #[.slice ah g.rs.length ch, .slice nh g.ns.length kh] 25 (0, 0)) :: ((Rr ++ (Rn ++ Rx)) ++ ((bx, Obj.cells #[.slice ap x.ps.length cp, .slice af x.fs.length cf, .slice aw x.ws.length cw] 47 (0, 0)) :: E0))) _ := (hb4.set 0 (.slice ah g.rs.length ch)).set 1 (.slice nh g.ns.length kh)
          refine wpAnyL_last (i := 17) (by kernel_rfl) rfl (by kernel_rfl) (by kernel_rfl) (fun K hK => ?_)
          go_simp
          refine hK.out _ _ ?_
          clear hK K
          try simp only [Act.put, List.setIfInBounds_toArray, List.set_cons_zero, List.set_cons_succ]
          have H9 := Lib.hid hset
          have HR := Lib.hid hr
          have HN := Lib.hid hn
          have HXX := Lib.hid hxx
          clear hset hb4 hq y0 y1 f0 f1 hr hn hxx hHeld
          generalize (V9.setCell ⟨bh, 0, none⟩ (.slice ah g.rs.length ch)).setCell ⟨bh, 1, none⟩ (.slice nh g.ns.length kh) = W10 at *
          rotate_left
          go_simp
          have hb4 := H8.out.box #[.slice none 0 0, .slice none 0 0] 25
          refine hK.out _ _ (Hcx.out [_] _ hb4) (fun hHeld => ?_)
          clear hK K
          try simp only [Act.put, List.setIfInBounds_toArray, List.set_cons_zero, List.set_cons_succ]
          obtain ⟨bh, hbh⟩ : ∃ bh, W8.heap.size = bh := ⟨_, rfl⟩
          simp only [hbh] at hb4 ⊢
          generalize W8.alloc (.cells #[.slice none 0 0, .slice none 0 0] 25) = V8 at *
          clear hbh
          refine wpAnyL_one (i := 15) (by decide +kernel) rfl (fun K hK => ?_)
          go_simp
          go_at_call 27
          refine (turned_any cr cn I J HG.out hb4.below few HIJ.out.1 HIJ.out.2).mono ?_
          rintro e V9 ⟨ah, nh, ch, kh, rfl, B, ⟨Rr, Rn, xs, Rx, hr, hn, hxx, rfl⟩, hF⟩
          have hj := (hb4.join hF).perm (K' := (bh, Obj.cells #[.slice none 0 0, .slice none 0 0] 25 (0, 0)) :: ((Rr ++ (Rn ++ Rx)) ++ ((bx, Obj.cells #[.slice ap x.ps.length cp, .slice af x.fs.length cf, .slice aw x.ws.length cw] 47 (0, 0)) :: E0))) (permC fun x => by simp only [List.count_append, List.count_cons, List.append_assoc, List.cons_append]; ac_rfl)
          refine hK.out _ _ (Hcx.out (_ :: (Rr ++ (Rn ++ Rx))) _ hj) (fun hHeld => ?_)
          clear hK K
          try simp only [Act.put, List.setIfInBounds_toArray, List.set_cons_zero, List.set_cons_succ]
          have hq := hj.1.block (List.mem_cons_self ..)
          have y0 := at_cell hq 0 _ rfl
          have y1 := at_cell hq 1 _ rfl
          have f0 := at_free hq 0
          have f1 := at_free hq 1
          have hset : FKN w ((bh, Obj.cells #[.slice ah g.rs.length ch, .slice nh g.ns.length kh] 25 (0, 0)) :: ((Rr ++ (Rn ++ Rx)) ++ ((bx, Obj.cells #[.slice ap x.ps.length cp, .slice af x.fs.length cf, .slice aw x.ws.length cw] 47 (0, 0)) :: E0))) _ := (hj.set 0 (.slice ah g.rs.length ch)).set 1 (.slice nh g.ns.length kh)
          refine wpAnyL_last (i := 17) (by kernel_rfl) rfl (by kernel_rfl) (by kernel_rfl) (fun K hK => ?_)
          go_simp
          refine hK.out _ _ ?_
          clear hK K
          try simp only [Act.put, List.setIfInBounds_toArray, List.set_cons_zero, List.set_cons_succ]
          have H9 := Lib.hid hset
          have HR := Lib.hid hr
          have HN := Lib.hid hn
          have HXX := Lib.hid hxx
          clear hset hb4 hF hj hq y0 y1 f0 f1 hr hn hxx hHeld
          generalize (V9.setCell ⟨bh, 0, none⟩ (.slice ah g.rs.length ch)).setCell ⟨bh, 1, none⟩ (.slice nh g.ns.length kh) = W10 at *
          all_goals
            obtain ⟨⟨⟨c0, c1⟩, -⟩, x0, x1, x2⟩ := Hcx.out (_ :: (Rr ++ (Rn ++ Rx))) _ H9.out
            go_wp2_with (fail)
            clear c0 c1 x0 x1 x2
            go_loopw [69] (fun iv wr => ∃ t : Nat, iv = .int .i64 t ∧ t ≤ x.ps.length ∧ wr = W10 ∧ ∀ l, l < t → inr (g.ns.length + 1) (x.ps.getD l 0) = true) (fun iv _ => x.ps.length - (intOf iv).toNat)
            case atStart => exact ⟨0, rfl, by omega, rfl, fun l hl => by omega⟩
            case round =>
              obtain ⟨t, rfl, ht, hwr, hpre⟩ := hrel
              subst hwr
              have Hpre := Lib.hid hpre
              clear hpre
              obtain ⟨⟨⟨c0, c1⟩, -⟩, x0, x1, x2⟩ := Hcx.out (_ :: (Rr ++ (Rn ++ Rx))) _ H9.out
              by_cases hlt : t < x.ps.length
              · obtain ⟨b1, o1, e1, d1⟩ := (HX.out.ps.below H9.out.below).cell
                obtain rfl : ap = some ⟨b1, o1, none⟩ := by
                  rcases e1 with e | e
                  · rw [e] at hlt; cases hlt
                  · exact e
                have q0 := d1 t hlt
                have k1 : (t : Int) < x.ps.length := by omega
                have k2 : (0 : Int) ≤ t := by omega
                have k3 : ((t : Int)).toNat = t := by omega
                have Hn := Lib.hid (fun (e : inr (g.ns.length + 1) (x.ps.getD t 0) = true) l (hl : l < t + 1) => (show inr (g.ns.length + 1) (x.ps.getD l 0) = true by
                  rcases Nat.lt_or_ge l t with h2 | h2
                  · exact Hpre.out l h2
                  · rw [show l = t by omega]; exact e))
                have hcas := past_cases g.ns.length (x.ps.getD t 0)
                generalize x.ps.getD t 0 = z at *
                clear e1 d1
                rcases hcas with ⟨h1, -⟩ | ⟨h1, h2, -⟩ | ⟨h1, h2, h3⟩
                · go_wp2_with (go_at_call 11; refine (HL.out _).mono ?_; rintro e w8 ⟨rfl, hb⟩; have H10 := Lib.hid (H9.out.grow hb); clear hb)
                  go_ret
                  subst hgb
                  exact ⟨rfl, H10.out.below⟩
                · go_wp2_with (go_at_call 11; refine (HL.out _).mono ?_; rintro e w8 ⟨rfl, hb⟩; have H10 := Lib.hid (H9.out.grow hb); clear hb)
                  go_ret
                  subst hgb
                  exact ⟨rfl, H10.out.below⟩
                · have HB := Lib.hid (Hn.out h3)
                  clear h3
                  go_wp2_with (fail)
                  go_roundw
                  case rel => exact ⟨t + 1, by go_num, by omega, by trivial, HB.out⟩
                  case measure => simp [intOf]; omega
              · obtain rfl : t = x.ps.length := by omega
                have k1 : ¬ (x.ps.length : Int) < x.ps.length := by omega
                have hp : ∀ q ∈ x.ps, inr (g.ns.length + 1) q = true := fun q hq => by
                  obtain ⟨l, hl, rfl⟩ := List.getElem_of_mem hq
                  have := Hpre.out l hl
                  rwa [List.getD_eq_getElem?_getD, List.getElem?_eq_getElem hl] at this
                have hmh := add_may (x := x) hm HIJ.out.1 HIJ.out.2 h255 hp
                have fewh := add_few (x := x) near HIJ.out.1 HIJ.out.2 h255
                have okh := add_ok (turn_ok HG.out.ok (by omega) HIJ.out.1 HIJ.out.2) (show OkN x from ⟨HX.out.ps.each, HX.out.fs.each, HX.out.ws.each⟩)
                have htr := add_trim (x := x) hm HIJ.out.1 HIJ.out.2 h255 hp
                obtain ⟨i3, hj3, hv0, hv1, hv2⟩ := info_parts node_info
                have hNN := HN.out
                rw [turn_len] at hNN
                obtain ⟨nh2, kh2, W11, Rn2, run11, hrn2, h11⟩ := hNN.app1 (H9.out.perm (K' := Rn ++ ((bh, Obj.cells #[.slice ah g.rs.length ch, .slice nh g.ns.length kh] 25 (0, 0)) :: (Rr ++ (Rx ++ ((bx, Obj.cells #[.slice ap x.ps.length cp, .slice af x.fs.length cf, .slice aw x.ws.length cw] 47 (0, 0)) :: E0))))) (permC fun x => by simp only [List.count_append, List.count_cons, List.append_assoc, List.cons_append]; ac_rfl)) hj3 hv0 hv1 hv2 rfl (by decide) Try.underlying23 #[.slice ap x.ps.length cp, .slice af x.fs.length cf, .slice aw x.ws.length cw] rfl (by intro u hu; simp only [List.mem_cons, List.not_mem_nil, or_false] at hu; rcases hu with rfl | rfl | rfl <;> rfl) (by unfold maxLen; omega) (by omega)
                have hb9 := H9.out.1.block (List.mem_cons_self ..)
                have y91 := at_cell hb9 1 _ rfl
                have hb11 := h11.1.block (X := bh) (o := .cells #[.slice ah g.rs.length ch, .slice nh g.ns.length kh] 25 (0, 0)) (by simp)
                have y111 := at_cell hb11 1 _ rfl
                have f111 := at_free hb11 1
                have h12 := (h11.perm (K' := (bh, Obj.cells #[.slice ah g.rs.length ch, .slice nh g.ns.length kh] 25 (0, 0)) :: ((Rr ++ (Rn2 ++ Rx)) ++ ((bx, Obj.cells #[.slice ap x.ps.length cp, .slice af x.fs.length cf, .slice aw x.ws.length cw] 47 (0, 0)) :: E0))) (permC fun x => by simp only [List.count_append, List.count_cons, List.append_assoc, List.cons_append]; ac_rfl)).set 1 (.slice nh2 (g.ns.length + 1) kh2)
                obtain ⟨W12, hW12⟩ : ∃ W12, W11.setCell ⟨bh, 1, none⟩ (.slice nh2 (g.ns.length + 1) kh2) = W12 := ⟨_, rfl⟩
                rw [hW12] at h12
                have h12 : FKN w ((bh, Obj.cells #[.slice ah g.rs.length ch, .slice nh2 (g.ns.length + 1) kh2] 25 (0, 0)) :: ((Rr ++ (Rn2 ++ Rx)) ++ ((bx, Obj.cells #[.slice ap x.ps.length cp, .slice af x.fs.length cf, .slice aw x.ws.length cw] 47 (0, 0)) :: E0))) W12 := h12
                have htg : TGr w (addG (turnG I J g) x) ah nh2 ch kh2 (Rr ++ (Rn2 ++ Rx)) := ⟨Rr, Rn2, _, Rx, HR.out, by rw [add_len]; exact hrn2, NsT.snoc (x := x) HXX.out (.inr ⟨rfl, HX.out.ps⟩) HX.out.fs HX.out.ws, rfl⟩
                have hrd := htg.rd h12.1 (fun y hy => List.mem_cons_of_mem _ (List.mem_append_left _ hy)) okh
                have hsm := same_any cr cn ch kh2 (HG.out.below h12.below) hrd few fewh
                rw [hm, hmh, htr, sameG_self, add_len, show (addG (turnG (I : Int) (J : Int) g) x).rs.length = g.rs.length from by simp [addG, turnG]] at hsm
                simp only [Bool.and_self, if_true] at hsm
                have HSM := Lib.hid hsm
                have HT := Lib.hid (fun W (h : Below w.heap.size w W) => refTrim_any cr cn (HG.out.below h) few hm)
                have H12 := Lib.hid h12
                have R11 := Lib.hid run11
                obtain ⟨⟨⟨c120, c121⟩, -⟩, -⟩ := Hcx.out (_ :: (Rr ++ (Rn2 ++ Rx))) _ h12
                have hb12 := h12.1.block (List.mem_cons_self ..)
                have y120 := at_cell hb12 0 _ rfl
                have y121 := at_cell hb12 1 _ rfl
                clear hNN run11 hrn2 h11 hb9 hb11 h12 htg hrd hsm hb12 okh htr hmh fewh hp c0 c1
                go_wp2_with (first
                  | (at_builtin; refine wpList_append_run _ rfl (.tmp 90) (.tmp 92) 23 rfl _ _ _ _ rfl rfl R11.out ?_; clear R11)
                  | (go_at_call 26; refine HSM.out.mono ?_; rintro e W13 ⟨rfl, hb⟩; have H13 := Lib.hid (H12.out.grow hb); obtain ⟨⟨⟨c130, c131⟩, -⟩, -⟩ := Hcx.out (_ :: (Rr ++ (Rn2 ++ Rx))) _ H13.out; clear hb)
                  | (go_at_call 25; refine (HT.out _ H13.out.below).mono ?_; rintro e W14 ⟨ta, tn, tc, tk, rfl, B, ⟨Tr, Tn, ys, Tx, hTr, hTn, hTx, rfl⟩, hF⟩; have HTr := Lib.hid (hTr.mono H13.out.below.size); have HTn := Lib.hid (hTn.mono H13.out.below.size); have HTx := Lib.hid (hTx.mono H13.out.below.size); have H15 := Lib.hid ((H13.out.join hF).box #[.slice ta g.rs.length tc, .slice tn (walkG g).al.length tk] 25); clear hF hTr hTn hTx))
                obtain ⟨bt, hbt⟩ : ∃ bt, W14.heap.size = bt := ⟨_, rfl⟩
                simp only [hbt] at H15 ⊢
                generalize W14.alloc (.cells #[.slice ta g.rs.length tc, .slice tn (walkG g).al.length tk] 25) = W15 at *
                obtain ⟨Kr, hKr⟩ : ∃ Kr, (bh, Obj.cells #[.slice ah g.rs.length ch, .slice nh2 (g.ns.length + 1) kh2] 25 (0, 0)) :: ((Rr ++ (Rn2 ++ Rx)) ++ ((bx, Obj.cells #[.slice ap x.ps.length cp, .slice af x.fs.length cf, .slice aw x.ws.length cw] 47 (0, 0)) :: E0)) = Kr := ⟨_, rfl⟩
                have H15 := H15.out
                rw [hKr] at H15
                have HK := Lib.hid (fun K W (hK : ∀ x ∈ Kr, x ∈ K) (hW : FKN w K W) => (show W.cell? ⟨gb, 0, none⟩ = some (.slice ar g.rs.length cr) ∧ W.cell? ⟨gb, 1, none⟩ = some (.slice an g.ns.length cn) from by
                  have h0 := HgE.out K W (fun y hy => hK y (by rw [← hKr]; simp [hy])) hW.1
                  exact h0))
                have H16 := Lib.hid H15
                have hlx := (walkG_ok hm).len
                have okT := HG.out.ok.trim (show (walkG g).al.length ≤ 1000 by have := near.ns; omega)
                have fewT := trimG_few hm few
                have mayT := trimG_may hm
                have trT := trimG_twice hm
                have La : ((walkG g).al.length : Int) ≤ 60 := by have := near.ns; omega
                clear hbt hKr H15 H12 H13 HSM HT c120 c121 c130 c131 y91 y111 f111 y120 y121 hW12
                go_wp2_with (fail)
                go_loopw [112] (fun iv wr => ∃ t : Nat, iv = .int .i64 t ∧ t ≤ (walkG g).al.length ∧ FKN w ((bt, Obj.cells #[.slice ta g.rs.length tc, .slice tn (walkG g).al.length tk] 25 (0, 0)) :: ((Tr ++ (Tn ++ Tx)) ++ Kr)) wr) (fun iv _ => (walkG g).al.length - (intOf iv).toNat)
                case atStart => exact ⟨0, rfl, by omega, H16.out⟩
                case round =>
                  clear H16
                  obtain ⟨t, rfl, ht, hF⟩ := hrel
                  have hbq := hF.1.block (List.mem_cons_self ..)
                  have t0 := at_cell hbq 0 _ rfl
                  have t1 := at_cell hbq 1 _ rfl
                  obtain ⟨c0, c1⟩ := HK.out _ _ (fun x hx => List.mem_cons_of_mem _ (List.mem_append_right _ hx)) hF
                  by_cases hlt : t < (walkG g).al.length
                  · have hlT : t < (trimG g).ns.length := by rw [trimG_nlen]; exact hlt
                    have k1 : (t : Int) < (walkG g).al.length := by omega
                    have k2 : (0 : Int) ≤ t := by omega
                    have k3 : ((t : Int)).toNat = t := by omega
                    by_cases hw0 : 0 < ((trimG g).ns.getD t default).ws.length
                    · obtain ⟨bw, cur, A, C, cw2, hTe, hys, hc0, hmod⟩ := HTx.out.word hlT hw0
                      obtain ⟨bT, rfl, e2⟩ := HTn.out.at_ hF.1 (fun x hx => List.mem_cons_of_mem _ (List.mem_append_left _ (List.mem_append_right _ (List.mem_append_left _ hx)))) hys
                      subst hTe
                      obtain ⟨v, hv⟩ : ∃ v, (((trimG g).ns.getD t default).ws.getD 0 0 == u) = v := ⟨_, rfl⟩
                      have hws := word_same (u := u) hlT hw0
                      rw [hv] at hws
                      have hvv : (v != v) = false := by simp
                      have hF1 := hF.perm (K' := (bw, Obj.cells cur 48 (0, 0)) :: ((bt, Obj.cells #[.slice ta g.rs.length tc, .slice (some ⟨bT, 0, none⟩) (walkG g).al.length tk] 25 (0, 0)) :: ((Tr ++ (Tn ++ (A ++ C))) ++ Kr))) (permC fun x => by simp only [List.count_append, List.count_cons, List.append_assoc, List.cons_append]; ac_rfl)
                      have hq := hF1.1.block (List.mem_cons_self ..)
                      have e3 := at_cell hq 0 _ hc0
                      have f3 := at_free hq 0
                      have hs1 := (hF1.set 0 (.int .u64 u)).perm (K' := (bt, Obj.cells #[.slice ta g.rs.length tc, .slice (some ⟨bT, 0, none⟩) (walkG g).al.length tk] 25 (0, 0)) :: ((Tr ++ (Tn ++ (A ++ (bw, Obj.cells (cur.setIfInBounds 0 (.int .u64 u)) 48 (0, 0)) :: C))) ++ Kr)) (permC fun x => by simp only [List.count_append, List.count_cons, List.append_assoc, List.cons_append]; ac_rfl)
                      obtain ⟨V1, hV1⟩ : ∃ V, wr.setCell ⟨bw, 0, none⟩ (.int .u64 u) = V := ⟨_, rfl⟩
                      rw [hV1] at hs1
                      have hbq1 := hs1.1.block (List.mem_cons_self ..)
                      have t10 := at_cell hbq1 0 _ rfl
                      have t11 := at_cell hbq1 1 _ rfl
                      obtain ⟨c10, c11⟩ := HK.out _ _ (fun x hx => List.mem_cons_of_mem _ (List.mem_append_right _ hx)) hs1
                      have hl2 : (wordG (trimG g) t u).ns.length = (trimG g).ns.length := by simp [wordG]
                      have hog : OGr w.heap.size (wordG (trimG g) t u) ta (some ⟨bT, 0, none⟩) tc tk (Tr ++ (Tn ++ (A ++ (bw, Obj.cells (cur.setIfInBounds 0 (.int .u64 u)) 48 (0, 0)) :: C))) := ⟨Tr, Tn, ys, _, HTr.out, by rw [hl2]; exact HTn.out, hmod u, rfl⟩
                      have hrd := hog.rd hs1.1 (fun y hy => List.mem_cons_of_mem _ (List.mem_append_left _ hy)) (word_ok okT hu)
                      have hsm := same_any cr cn tc tk (HG.out.below hs1.below) hrd few (word_few fewT)
                      rw [hm, word_may mayT, word_trim hm, hws, hl2, trimG_nlen, show (wordG (trimG g) t u).rs.length = g.rs.length from trimG_rlen g] at hsm
                      simp only [Bool.true_and, Bool.and_self, if_true] at hsm
                      have HSM := Lib.hid hsm
                      have HS1 := Lib.hid hs1
                      have Hback := Lib.hid (fun W (hW : FKN w ((bt, Obj.cells #[.slice ta g.rs.length tc, .slice (some ⟨bT, 0, none⟩) (walkG g).al.length tk] 25 (0, 0)) :: ((Tr ++ (Tn ++ (A ++ (bw, Obj.cells (cur.setIfInBounds 0 (.int .u64 u)) 48 (0, 0)) :: C))) ++ Kr)) W) => (show W.cell? ⟨bt, 1, none⟩ = some (.slice (some ⟨bT, 0, none⟩) (walkG g).al.length tk) ∧ W.cell? ⟨bT, t * 3 + 2, none⟩ = some (.slice (some ⟨bw, 0, none⟩) ((trimG g).ns.getD t default).ws.length cw2) ∧ W.cell? ⟨bw, 0, none⟩ = some (.int .u64 u) ∧ W.frozen? ⟨bw, 0, none⟩ = false ∧ FKN w ((bt, Obj.cells #[.slice ta g.rs.length tc, .slice (some ⟨bT, 0, none⟩) (walkG g).al.length tk] 25 (0, 0)) :: ((Tr ++ (Tn ++ (A ++ (bw, Obj.cells cur 48 (0, 0)) :: C))) ++ Kr)) (W.setCell ⟨bw, 0, none⟩ (.int .u64 (((trimG g).ns.getD t default).ws.getD 0 0))) from by
                        have g1 := hW.perm (K' := (bw, Obj.cells (cur.setIfInBounds 0 (.int .u64 u)) 48 (0, 0)) :: ((bt, Obj.cells #[.slice ta g.rs.length tc, .slice (some ⟨bT, 0, none⟩) (walkG g).al.length tk] 25 (0, 0)) :: ((Tr ++ (Tn ++ (A ++ C))) ++ Kr))) (permC fun x => by simp only [List.count_append, List.count_cons, List.append_assoc, List.cons_append]; ac_rfl)
                        have hqb := g1.1.block (List.mem_cons_self ..)
                        have hlt0 : 0 < cur.size := (Array.getElem?_eq_some_iff.1 hc0).1
                        obtain ⟨bT', e4, e5⟩ := HTn.out.at_ hW.1 (fun x hx => List.mem_cons_of_mem _ (List.mem_append_left _ (List.mem_append_right _ (List.mem_append_left _ hx)))) hys
                        cases e4
                        have g2 := g1.set 0 (.int .u64 (((trimG g).ns.getD t default).ws.getD 0 0))
                        rw [set_back hc0] at g2
                        exact ⟨at_cell (hW.1.block (List.mem_cons_self ..)) 1 _ rfl, e5, at_cell hqb 0 _ (by simp [hlt0]), at_free hqb 0, g2.perm (permC fun x => by simp only [List.count_append, List.count_cons, List.append_assoc, List.cons_append]; ac_rfl)⟩))
                      have hn0 : ((((trimG g).ns.getD t default).ws.length : Int) == 0) = false := by rw [beq_eq_false_iff_ne]; omega
                      have hnp : (0 : Int) < (((trimG g).ns.getD t default).ws.length : Int) := by omega
                      clear hF hF1 hq hs1 hbq hbq1 hog hrd hsm hmod hws hc0 hl2 hys hw0
                      generalize ((trimG g).ns.getD t default).ws.getD 0 0 = z at *
                      generalize ((trimG g).ns.getD t default).ws.length = n at *
                      go_wp2_with (go_at_call 26; refine HSM.out.mono ?_; rintro e V2 ⟨rfl, hb⟩; obtain ⟨m1, m2, m3, m4, m5⟩ := Hback.out _ (HS1.out.grow hb); have HV3 := Lib.hid m5; clear hb m5)
                      go_roundw
                      case rel => exact ⟨t + 1, by go_num, by omega, HV3.out⟩
                      case measure => simp [intOf]; omega
                    · obtain ⟨-, -, aw3, -, -, cw3, ⟨-, -, hys⟩, -⟩ := HTx.out.rd hF.1 (fun x hx => List.mem_cons_of_mem _ (List.mem_append_left _ (List.mem_append_right _ (List.mem_append_right _ hx)))) okT.ns t hlT
                      obtain ⟨bT, rfl, e2⟩ := HTn.out.at_ hF.1 (fun x hx => List.mem_cons_of_mem _ (List.mem_append_left _ (List.mem_append_right _ (List.mem_append_left _ hx)))) hys
                      rw [show ((trimG g).ns.getD t default).ws.length = 0 by omega] at e2
                      have HF9 := Lib.hid hF
                      clear hF hbq hys hw0
                      go_wp2_with (fail)
                      go_roundw
                      case rel => exact ⟨t + 1, by go_num, by omega, HF9.out⟩
                      case measure => simp [intOf]; omega
                  · obtain rfl : t = (walkG g).al.length := by omega
                    have k1 : ¬ ((walkG g).al.length : Int) < (walkG g).al.length := by omega
                    have HF9 := Lib.hid hF
                    clear hF hbq
                    go_wp2_with (go_at_call 11; refine (HL.out _).mono ?_; rintro e w8 ⟨rfl, hb⟩; have H20 := Lib.hid (HF9.out.grow hb); clear hb)
                    go_ret
                    subst hgb
                    exact ⟨rfl, H20.out.below⟩
        · have hd5 : decide ((255 : Int) < x.ps.length + x.fs.length + x.ws.length) = true := decide_eq_true (by omega)
          clear hf hs few near hm hn0 h255
          go_wp2_with (first
            | (go_at_call 10; refine (HF.out _ H5.out.below).mono ?_; rintro e w6 ⟨rfl, hb⟩; have H6 := Lib.hid (H5.out.grow hb); obtain ⟨⟨⟨c0, c1⟩, -⟩, x0, x1, x2⟩ := Hcx.out [] _ H6.out; clear hb)
            | (go_at_call 17; refine (HM.out _ H6.out.below).mono ?_; rintro e w7 ⟨rfl, hb⟩; have H7 := Lib.hid (H6.out.grow hb); obtain ⟨⟨⟨c0, c1⟩, -⟩, x0, x1, x2⟩ := Hcx.out [] _ H7.out; clear hb)
            | (go_at_call 11; refine (HL.out _).mono ?_; rintro e w8 ⟨rfl, hb⟩; have H8 := Lib.hid (H7.out.grow hb); clear hb))
          go_ret
          subst hgb
          exact ⟨rfl, H8.out.below⟩
end Go.Proofs.Ytplkogjnmjjjgaa
