/- The walks of roots.Table's methods at a table that was made: New, check, Get, Set, Copy, Len. -/
import Derived.Test.YtdiooepnapdafaaKit
import Derived.RegionTactic
import Derived.Laws.MakeOwn
import Derived.Laws.OwnMore
namespace Go.Proofs.Ytdiooepnapdafaa
open Go.ChangeShapes Go.WideShapes Go.ChangeAt Go.RowKit

theorem int_info : (Try.prog.info? 3).map (fun i => (i.zero, i.size, i.bytes)) = some (some (.int .i64 0), 1, 8) := by kernel_rfl
/-- numbers as cells -/
def icells (zs : List Int) : List Value := zs.map (.int .i64)
/-- a row of numbers in block g -/
def RowAt (g : Nat) (zs : List Int) (w : World) : Prop := w.heap[g]? = some (.cells (icells zs).toArray 3 (0, 0))
theorem RowAt.cell {g : Nat} {zs : List Int} {w : World} (h : RowAt g zs w) {j : Nat} (hj : j < zs.length) : w.cell? ⟨g, j, none⟩ = some (.int .i64 (zs.getD j 0)) :=
  at_cell h j _ (by simp [icells, hj])
theorem RowAt.free {g : Nat} {zs : List Int} {w : World} (h : RowAt g zs w) (j : Nat) : w.frozen? ⟨g, j, none⟩ = false := at_free h j
theorem RowAt.set {g : Nat} {zs : List Int} {w : World} (h : RowAt g zs w) (j : Nat) (v : Int) : RowAt g (zs.set j v) (w.setCell ⟨g, j, none⟩ (.int .i64 v)) := by
  have := heap_setCell_same w g j _ _ (.int .i64 v) h
  unfold RowAt
  rw [this]
  simp [icells, List.map_set]
/-- a table in block b, its slots in block g -/
structure Tab (g b : Nat) (zs : List Int) (w : World) : Prop where
  row : RowAt g zs w
  head : w.heap[b]? = some (.cells #[.slice (some ⟨g, 0, none⟩) zs.length zs.length] 46 (0, 0))
  few : zs.length ≤ 64
theorem Tab.ne {g b : Nat} {zs : List Int} {w : World} (h : Tab g b zs w) : g ≠ b := by
  intro e
  have h1 := h.row
  have h2 := h.head
  unfold RowAt at h1
  rw [e, h2] at h1
  simp at h1
/-- of what was there block b alone may have changed -/
def Only (b : Nat) (w w' : World) : Prop := w'.os = w.os ∧ w'.tape = w.tape ∧ w'.output = w.output ∧ w.heap.size ≤ w'.heap.size ∧ ∀ k, k < w.heap.size → k ≠ b → w'.heap[k]? = w.heap[k]?
theorem Only.of {b : Nat} {w w1 : World} (h : Below w.heap.size w w1) : Only b w w1 := ⟨h.os, h.tape, h.output, h.size, fun k hk _ => h.block k hk⟩
theorem Only.set {b : Nat} {w w1 : World} (h : Below w.heap.size w w1) (i : Nat) (v : Value) : Only b w (w1.setCell ⟨b, i, none⟩ v) :=
  ⟨h.os, h.tape, h.output, by have := h.size; simpa [World.setCell] using this, fun k hk hb => by rw [Below.heap_setCell w1 ⟨b, i, none⟩ v k hb]; exact h.block k hk⟩
theorem Only.below {b B : Nat} {w w' : World} (h : Only b w w') (hB : B ≤ b) (hw : B ≤ w.heap.size) : Below B w w' :=
  ⟨h.1, h.2.1, h.2.2.1, h.2.2.2.1, fun k hk => h.2.2.2.2 k (by omega) (by omega)⟩
theorem Only.keep {b : Nat} {w w' : World} (h : Only b w w') {k : Nat} {o : Obj} (hk : w.heap[k]? = some o) (hb : k ≠ b) : w'.heap[k]? = some o := by
  rw [h.2.2.2.2 k (block_lt hk) hb]; exact hk
theorem Tab.grow {g b : Nat} {zs : List Int} {w w' : World} (h : Tab g b zs w) (hb : Below w.heap.size w w') : Tab g b zs w' :=
  ⟨blockB hb (Nat.le_refl _) h.row, blockB hb (Nat.le_refl _) h.head, h.few⟩
theorem Tab.set {g b : Nat} {zs : List Int} {w : World} (h : Tab g b zs w) (j : Nat) (v : Int) : Tab g b (zs.set j v) (w.setCell ⟨g, j, none⟩ (.int .i64 v)) :=
  ⟨h.row.set j v, by rw [Below.heap_setCell w ⟨g, j, none⟩ _ b (fun e => h.ne e.symm), List.length_set]; exact h.head, by rw [List.length_set]; exact h.few⟩

theorem made_ints (n : Nat) : madeCells (Value.int .i64 0).cells (n * 1) = (icells (List.replicate n 0)).toArray := by
  apply Array.toList_inj.1
  rw [Nat.mul_one]
  show (madeCells #[Value.int .i64 0] n).toList = _
  rw [toList_madeCells_one]
  simp [icells]

theorem new_no (n : Int) (w : World) (h : n < 1 ∨ 64 < n) :
    Calls Try.prog 5 #[.int .i64 n] w fun e w' => e = .returned (.tuple #[.pointer none, .int .i64 5]) ∧ w = w' := by
  rcases h with h | h
  · go_enter Try.func5, Try.ntmps5
    go_wp2
    go_ret2
    exact ⟨rfl, rfl⟩
  · have h1 : ¬ n < 1 := by omega
    go_enter Try.func5, Try.ntmps5
    go_wp2
    go_ret2
    exact ⟨rfl, rfl⟩
theorem new_yes (n : Nat) (w : World) (h1 : 1 ≤ n) (h2 : n ≤ 64) :
    Calls Try.prog 5 #[.int .i64 n] w fun e w' => e = .returned (.tuple #[.pointer (some ⟨w.heap.size + 1, 0, none⟩), .int .i64 0]) ∧ Tab w.heap.size (w.heap.size + 1) (List.replicate n 0) w' ∧ Below w.heap.size w w' := by
  obtain ⟨i0, hi, hz0, hz1, hz2⟩ := info_parts int_info
  have hmk : ∀ W : World, (Instr.makeSlice 28 (.int .i64 (n : Int)) (.int .i64 (n : Int))).run Try.prog W = .ok (.slice (some ⟨W.heap.size, 0, none⟩) n n) (W.alloc (.cells (icells (List.replicate n 0)).toArray 3)) := fun W => by
    have h := run_make (P := Try.prog) W 28 3 i0 (.int .i64 0) Try.underlying28 hi hz0 .i64 .i64 (n : Int) (n : Int) (by omega) (by omega) (by rw [hz2]; omega) (by omega)
    rw [hz1, Int.toNat_natCast, made_ints] at h
    exact h
  have hb1 := below_new w (.cells (icells (List.replicate n 0)).toArray 3)
  have hg1 := heap_alloc_new w (.cells (icells (List.replicate n 0)).toArray 3)
  have hsz : (w.alloc (.cells (icells (List.replicate n 0)).toArray 3)).heap.size = w.heap.size + 1 := by simp
  have Hb1 := Lib.hid hb1
  have Hg1 := Lib.hid hg1
  have Hsz := Lib.hid hsz
  clear hb1 hg1 hsz
  go_enter Try.func5, Try.ntmps5
  go_wp2
  go_ret2
  have hb2 := below_new (w.alloc (.cells (icells (List.replicate n 0)).toArray 3)) (.cells #[.slice (some ⟨w.heap.size, 0, none⟩) n n] 46)
  have hg2 := heap_alloc_new (w.alloc (.cells (icells (List.replicate n 0)).toArray 3)) (.cells #[.slice (some ⟨w.heap.size, 0, none⟩) n n] 46)
  rw [Hsz.out] at hg2
  refine ⟨by first | rfl | (rw [← Hsz.out]; rfl), ⟨blockB hb2 (Nat.le_refl _) Hg1.out, ?_, by simp; omega⟩, seq Hb1.out hb2⟩
  rw [List.length_replicate]
  exact hg2

/-- what check answers -/
def chk (n : Nat) (xs : List Int) : Int := if ∀ j, j < xs.length → 0 ≤ xs.getD j 0 ∧ xs.getD j 0 < n then 0 else 17
set_option maxHeartbeats 1000000 in
theorem check_any (g b l : Nat) (zs xs : List Int) (w : World) (hT : Tab g b zs w) (hx : ∀ j, j < xs.length → w.cell? ⟨l, j, none⟩ = some (.int .i64 (xs.getD j 0))) (hl : xs.length ≤ 64) :
    Calls Try.prog 20 #[.pointer (some ⟨b, 0, none⟩), .slice (some ⟨l, 0, none⟩) xs.length xs.length] w fun e w' => e = .returned (.int .i64 (chk zs.length xs)) ∧ w = w' := by
  have c0 := at_cell hT.head 0 _ rfl
  have Hx := Lib.hid hx
  have hfew := hT.few
  obtain ⟨r, hr⟩ : ∃ r, chk zs.length xs = r := ⟨_, rfl⟩
  rw [hr]
  have Hr := Lib.hid hr
  clear hx hT hr
  go_enter Try.func20, Try.ntmps20
  go_wp2
  go_loopw [11] (fun i wr => ∃ (m : Nat), i = .int .i64 m ∧ m ≤ xs.length ∧ (∀ j, j < m → 0 ≤ xs.getD j 0 ∧ xs.getD j 0 < zs.length) ∧ wr = w) (fun i _ => xs.length - (intOf i).toNat)
  case atStart => exact ⟨0, rfl, by omega, by omega, rfl⟩
  case round =>
    obtain ⟨m, rfl, hm, hall, rfl⟩ := hrel
    have Hall := Lib.hid hall
    clear hall
    by_cases hlt : m < xs.length
    · have cm := Hx.out m hlt
      obtain ⟨x, hxm⟩ : ∃ x, xs.getD m 0 = x := ⟨_, rfl⟩
      rw [hxm] at cm
      have Hxm := Lib.hid hxm
      clear hxm
      by_cases hbad : x < 0 ∨ (zs.length : Int) ≤ x
      · have hc : chk zs.length xs = 17 := by
          unfold chk
          rw [if_neg]
          intro h
          have := h m hlt
          rw [Hxm.out] at this
          omega
        obtain rfl : r = 17 := Hr.out.symm.trans hc
        clear hc Hr
        rcases hbad with h1 | h1
        · go_wp2
          go_ret
          exact ⟨rfl, rfl⟩
        · have h0 : ¬ x < 0 := by omega
          go_wp2
          go_ret
          exact ⟨rfl, rfl⟩
      · have h0 : ¬ x < 0 := by omega
        have h1 : ¬ (zs.length : Int) ≤ x := by omega
        go_wp2
        go_roundw
        case rel => exact ⟨m + 1, by go_num, by omega, fun j hj => by
          by_cases e : j = m
          · rw [e, Hxm.out]; omega
          · exact Hall.out j (by omega), trivial⟩
        case measure => simp [intOf]; omega
    · obtain rfl : xs.length = m := by omega
      have hc : chk zs.length xs = 0 := if_pos Hall.out
      obtain rfl : r = 0 := Hr.out.symm.trans hc
      clear hc Hr
      go_wp2
      go_ret
      exact ⟨rfl, rfl⟩
end Go.Proofs.Ytdiooepnapdafaa
