/- The walk of a piece of work's undo. -/
import Derived.Test.YtkcijlndblbidaaTOps
import Derived.Deep.RegionHeld3
namespace Go.Proofs.Ytkcijlndblbidaa
open Go.ChangeShapes Go.WideShapes Go.ChangeAt Go.RowKit
set_option linter.unusedVariables false

section
variable {W0 : World} {m wk n t t' : Nat} {g g' : Nat → Nat} {l : List (Nat × Nat)} {K K' : List (Nat × Obj)} {al : Option Addr} {cap : Nat} {S : Nat → Prop} {v : VS} {w w' : World}
theorem TW1.entry (h : TW1 W0 m wk n t g l K al cap S v w) {i : Nat} (hi : i < l.length) : ∃ gb, al = some ⟨gb, 0, none⟩ ∧ w.cell? ⟨gb, i * 2, none⟩ = some (.int .i64 (l.getD i (0, 0)).1) ∧ w.cell? ⟨gb, i * 2 + 1, none⟩ = some (.int .u64 (l.getD i (0, 0)).2) := by
  rcases h.row.2 with ⟨e, h0⟩ | ⟨gb, c, cur, e, h1, h2, h3, h4, h5, h6⟩
  · omega
  · simp at e
    obtain ⟨rfl, rfl⟩ := e
    obtain ⟨g1, g2⟩ := ocells_get l i hi
    have hc : ∀ j x, j < l.length * 2 → (ocells l)[j]? = some x → cur[j]? = some x := fun j x hj hx => by
      rw [← h6, List.getElem?_take_of_lt hj] at hx
      simpa using hx
    exact ⟨gb, rfl, at_cell h2 _ _ (hc _ _ (by omega) g1), at_cell h2 _ _ (hc _ _ (by omega) g2)⟩
theorem TW1.fits (h : TW1 W0 m wk n t g l K al cap S v w) : l.length ≤ cap := by
  rcases h.row.2 with ⟨e, h0⟩ | ⟨gb, c, cur, e, h1, h2, h3, h4, h5, h6⟩
  · omega
  · simp at e
    obtain ⟨rfl, rfl⟩ := e
    exact h3
theorem TW1.cut (h : TW1 W0 m wk n t g l K al cap S v w) {k : Nat} (hk : k ≤ l.length) : TW W0 m wk n t g (l.take k) K (w.setCell ⟨wk, 1, none⟩ (.slice al k cap)) := by
  have hlen : (l.take k).length = k := by rw [List.length_take]; omega
  have c5 : Chg (fun q => q = wk) w (w.setCell ⟨wk, 1, none⟩ (.slice al k cap)) := (Chg.refl (fun q => q = wk) w).set (p := ⟨wk, 1, none⟩) (.inl rfl) _
  refine ⟨al, cap, S, v, h.vm.keep c5 (fun q hs hq => h.outw (by rw [← hq]; exact hs)), h.words, ?_, ?_, h.upS, h.below.setCell h.low _, h.outw, h.low, h.outr, fun x hx => ?_, fun y hy => h.small y (List.mem_of_mem_take hy)⟩
  · rw [heap_setCell_same w wk 1 _ _ _ h.head, hlen]
    rfl
  · rw [hlen]
    refine ⟨by rw [ocells_length, hlen], ?_⟩
    rcases h.row.2 with ⟨e, h0⟩ | ⟨gb, c, cur, e, h1, h2, h3, h4, h5, h6⟩
    · simp at e
      obtain ⟨rfl, e1, rfl⟩ := e
      exact .inl ⟨by rw [show k = 0 by omega], by omega⟩
    · simp at e
      obtain ⟨rfl, rfl⟩ := e
      have hne : gb ≠ wk := by
        rintro rfl
        rw [h.head] at h2
        simp at h2
      refine .inr ⟨gb, cap, cur, rfl, h1, (far hne).trans h2, by omega, h4, h5, ?_⟩
      rw [← ocells_take, ← h6, List.take_take, Nat.min_eq_left (by omega)]
  · have := h.outk x hx
    exact ⟨this.1, this.2.1, (far this.2.1).trans this.2.2⟩
theorem TW1.storeM (h : TW1 W0 m wk n t g l K al cap S v w) (a : Int) (x : Nat) (hx : x < 18446744073709551616) (ha : inG n a = true) :
    Calls Try.prog 19 #[.pointer (some ⟨m, 0, none⟩), .int .i64 a, .int .u64 x] w fun e w' => e = .returned (.int .i64 0) ∧ ∃ S' v', TW1 W0 m wk n t (putG g a.toNat x) l K al cap S' v' w' := by
  obtain ⟨e1, -⟩ := loadE_full h.words a
  rw [ha, if_pos rfl] at e1
  have hst := store_vm S m n 1 n t v w h.vm a x hx
  rw [e1] at hst
  refine hst.mono fun e w' ⟨he, hd⟩ => ⟨he, ?_⟩
  obtain ⟨S', k⟩ := h.did hd (g' := putG g a.toNat x) (fun p hp => by
    unfold storeV
    rw [e1, if_pos rfl]
    refine ⟨(h.words p hp).1, ?_⟩
    show (if p = a.toNat then x else v.wd p) = if p = a.toNat then x else g p
    split
    · rfl
    · exact (h.words p hp).2)
  exact ⟨S', _, k⟩
theorem TW1.grow (h : TW1 W0 m wk n t g l K al cap S v w) (c : Below w.heap.size w w') : ∃ S', TW1 W0 m wk n t g l K al cap S' v w' := h.did (VDid.of h.vm c) h.words
end
theorem undoG_step {g : Nat → Nat} {l : List (Nat × Nat)} {j : Nat} (hj : j < l.length) : undoG g (l.drop j) = putG (undoG g (l.drop (j + 1))) (l.getD j (0, 0)).1 (l.getD j (0, 0)).2 := by
  rw [List.drop_eq_getElem_cons hj, List.getD_eq_getElem?_getD, List.getElem?_eq_getElem hj]
  rfl
set_option maxRecDepth 100000 in
set_option maxHeartbeats 400000 in
theorem undo_tw {W0 : World} {m wk n t k0 : Nat} {g : Nat → Nat} {l : List (Nat × Nat)} {K : List (Nat × Obj)} {w : World} (h : TW W0 m wk n t g l K w) (hk0 : k0 ≤ l.length) (hlen : l.length ≤ 1000000) :
    Calls Try.prog 154 #[.pointer (some ⟨wk, 0, none⟩), .int .i64 k0] w fun e w' => e = .returned (.tuple #[]) ∧ TW W0 m wk n t (undoG g (l.drop k0)) (l.take k0) K w' := by
  have hst := store_at ⟨m, 0, none⟩
  have hsn := store_nil ⟨m, 0, none⟩
  obtain ⟨al, cap, c1⟩ := h.log
  have HN := Lib.hid h
  clear h
  go_enter Try.func154, Try.ntmps154
  go_wp2_with (fail)
  clear c1
  go_loopw [4] (fun i wr => ∃ (z : Int) (j : Nat), i = .int .i64 z ∧ z + 1 = j ∧ k0 ≤ j ∧ j ≤ l.length ∧ TW W0 m wk n t (undoG g (l.drop j)) l K wr) (fun i _ => (intOf i + 1).toNat)
  case atStart => exact ⟨_, l.length, rfl, by go_num, hk0, Nat.le_refl _, by rw [List.drop_length]; exact HN.out⟩
  case round =>
    clear HN
    obtain ⟨z, j', rfl, hz, hk, hj', hN⟩ := hrel
    by_cases hz0 : (k0 : Int) ≤ z
    · obtain ⟨j, rfl⟩ : ∃ j : Nat, z = j := ⟨z.toNat, by omega⟩
      obtain rfl : j + 1 = j' := by omega
      clear hz
      have hj : j < l.length := by omega
      obtain ⟨al1, cap1, S1, v1, hT⟩ := hN
      obtain ⟨gb, rfl, d1, d2⟩ := hT.entry hj
      have c0 := at_cell hT.head 0 _ rfl
      have c1 := at_cell hT.head 1 _ rfl
      have hsm := hT.small (l.getD j (0, 0)) (by
        rw [List.getD_eq_getElem?_getD, List.getElem?_eq_getElem hj]
        exact List.getElem_mem hj)
      have Hstep := Lib.hid (undoG_step (g := g) hj)
      obtain ⟨ea, ex, h1, h2⟩ : ∃ ea ex, (l.getD j (0, 0)).1 = ea ∧ (l.getD j (0, 0)).2 = ex := ⟨_, _, rfl, rfl⟩
      rw [h1, h2] at hsm
      rw [h1] at d1
      rw [h2] at d2
      have Hstep2 := Lib.hid (show undoG g (l.drop j) = putG (undoG g (l.drop (j + 1))) ea ex by rw [Hstep.out, h1, h2])
      have hin : inG n (ea : Int) = true := by simp [inG]; omega
      have Hs := Lib.hid (fun W S (hW : TW1 W0 m wk n t (undoG g (l.drop (j + 1))) l K (some ⟨gb, 0, none⟩) cap1 S v1 W) => hW.storeM (ea : Int) ex hsm.2 hin)
      have HT := Lib.hid hT
      have Hj := Lib.hid hj
      have H12 := Lib.hid (And.intro h1 h2)
      have j1 : (0 : Int) ≤ j := by omega
      have j2 : (j : Int) < l.length := by omega
      have j3 : ((j : Int) : Int).toNat = j := by omega
      have j4 : (j : Int) ≤ 1000000 := by omega
      clear hT hsm hin h1 h2 Hstep
      go_wp2_with (fail)
      go_region_held3 (fun w' => w'.cell? ⟨wk, 0, none⟩ = some (.iface 26 (.pointer (some ⟨m, 0, none⟩))) ∧ w'.cell? ⟨wk, 1, none⟩ = some (.slice (some ⟨gb, 0, none⟩) l.length cap1) ∧ w'.cell? ⟨gb, j * 2, none⟩ = some (.int .i64 ea) ∧ w'.cell? ⟨gb, j * 2 + 1, none⟩ = some (.int .u64 ex)) (first | exact ⟨c0, c1, d1, d2⟩ | exact ⟨b0, b1, b2, b3⟩ | go_keep) ((go_at_call 19; obtain ⟨S2, hT2⟩ := HT.out.grow (below_drew wr); refine (Hs.out _ _ hT2).mono ?_; rintro e w1 ⟨rfl, S3, v3, hd⟩; have b0 := at_cell hd.head 0 _ rfl; have b1 := at_cell hd.head 1 _ rfl; obtain ⟨gb3, hgb, b2, b3⟩ := hd.entry Hj.out; cases hgb; rw [H12.out.1] at b2; rw [H12.out.2] at b3; have hd' : TW W0 m wk n t (putG (undoG g (l.drop (j + 1))) ea ex) l K w1 := ⟨_, _, _, _, hd⟩; have HN2 := Lib.hid hd'; clear hd hd' hT2))
      all_goals
        go_wp2
        go_roundw
        case rel => exact ⟨(j : Int) - 1, j, by go_num, by omega, by omega, by omega, by rw [Hstep2.out]; exact HN2.out⟩
        case measure => simp [intOf]
    · obtain rfl : j' = k0 := by omega
      obtain ⟨al1, cap1, S1, v1, hT⟩ := hN
      have c1 := at_cell hT.head 1 _ rfl
      have f1 := at_free hT.head 1
      have HN := Lib.hid (hT.cut hk0)
      have hcap : j' ≤ cap1 := Nat.le_trans hk0 hT.fits
      clear hz hT
      go_wp2
      go_end0
      exact ⟨rfl, HN.out⟩
end Go.Proofs.Ytkcijlndblbidaa
