/- PgAll: several texts in one. -/
import Derived.Test.YtkcijlndblbidaaKit
import Derived.RegionTactic
import Derived.Laws.MakeOwn
import Derived.Laws.OwnMore
import Derived.Laws.Tables
import Derived.Laws.NewBlocks
import Derived.Test.YtkcijlndblbidaaSep
/- A map of pages as it lies in memory. -/
namespace Go.Proofs.Ytkcijlndblbidaa.Pg
open Go.ChangeShapes Go.WideShapes Go.ChangeAt Go.RowKit

/-- how many of a table's pages have a frame (F: page to frame and one; i: the table) -/
def cntF (F : Nat → Nat) (i : Nat) : Nat → Nat
  | 0 => 0
  | j + 1 => cntF F i j + if F (i * 256 + j) = 0 then 0 else 1
/-- a table's cells -/
def tcells (F : Nat → Nat) (i : Nat) : Array Value := ((List.range 256).map fun j => Value.int .u32 (F (i * 256 + j))).toArray.push (.int .i64 (cntF F i 256))
def ptr (o : Option Nat) : Value := .pointer (o.map fun k => ⟨k, 0, none⟩)
/-- how many of all tables' pages have a frame -/
def sumF (F : Nat → Nat) : Nat → Nat
  | 0 => 0
  | i + 1 => sumF F i + cntF F i 256
structure PMap (b tb np : Nat) (ts : List (Option Nat)) (F : Nat → Nat) (w : World) : Prop where
  head : w.heap[b]? = some (.cells #[.slice (some ⟨tb, 0, none⟩) ts.length ts.length, .int .i64 np, .int .i64 (sumF F ts.length)] 209 (0, 0))
  row : w.heap[tb]? = some (.cells (ts.map ptr).toArray 228 (0, 0))
  many : ts.length * 256 ≤ 524288 + 255 ∧ np ≤ ts.length * 256
  none : ∀ i, i < ts.length → ts.getD i none = Option.none → ∀ j, j < 256 → F (i * 256 + j) = 0
  some : ∀ i k, i < ts.length → ts.getD i Option.none = Option.some k → w.heap[k]? = Option.some (.cells (tcells F i) 231 (0, 0)) ∧ 0 < cntF F i 256
  apart : ∀ i j k, i < ts.length → j < ts.length → ts.getD i Option.none = Option.some k → ts.getD j Option.none = Option.some k → i = j
  small : ∀ p, F p < 4294967296
end Go.Proofs.Ytkcijlndblbidaa.Pg

/- The walk of Map.get. -/
namespace Go.Proofs.Ytkcijlndblbidaa.Pg
open Go.ChangeShapes Go.WideShapes Go.ChangeAt Go.RowKit

theorem tcells_get (F : Nat → Nat) (i j : Nat) (h : j < 256) : (tcells F i)[j]? = some (.int .u32 (F (i * 256 + j))) := by
  unfold tcells
  rw [Array.getElem?_push]
  simp [h]
  omega
theorem ts_cell {b tb np : Nat} {ts : List (Option Nat)} {F : Nat → Nat} {w : World} (h : PMap b tb np ts F w) {i : Nat} (hi : i < ts.length) : w.cell? ⟨tb, i, none⟩ = some (ptr (ts.getD i none)) :=
  at_cell h.row i _ (by simp [hi])
set_option maxHeartbeats 1000000 in
theorem get_any (b tb np : Nat) (ts : List (Option Nat)) (F : Nat → Nat) (w : World) (hM : PMap b tb np ts F w) (i j : Nat) (hi : i < ts.length) (hj : j < 256) :
    Calls Try.prog 146 #[.pointer (some ⟨b, 0, none⟩), .int .i64 ((i * 256 + j : Nat) : Int)] w fun e w' => e = .returned (.int .u32 (F (i * 256 + j))) ∧ w = w' := by
  have c0 := at_cell hM.head 0 _ rfl
  have ci := ts_cell hM hi
  have hm := hM.many.1
  have hq : ((i * 256 + j : Nat) : Int) / 256 = i := by omega
  have hr : ((i * 256 + j : Nat) : Int) % 256 = j := by omega
  have hp0 : (0 : Int) ≤ ((i * 256 + j : Nat) : Int) := by omega
  have hp1 : ((i * 256 + j : Nat) : Int) ≤ 1000000 := by omega
  cases ht : ts.getD i none with
  | none =>
    have hz := hM.none i hi ht j hj
    rw [hz]
    rw [ht] at ci
    unfold ptr at ci
    simp only [Option.map_none] at ci
    clear hM hz ht
    generalize ((i * 256 + j : Nat) : Int) = p at *
    go_enter Try.func146, Try.ntmps146
    go_wp2
    go_ret
    exact ⟨rfl, rfl⟩
  | some k =>
    have cj := at_cell (hM.some i k hi ht).1 j _ (tcells_get F i j hj)
    rw [ht] at ci
    unfold ptr at ci
    simp only [Option.map_some] at ci
    clear hM ht
    generalize F (i * 256 + j) = x at *
    generalize ((i * 256 + j : Nat) : Int) = p at *
    go_enter Try.func146, Try.ntmps146
    go_wp2
    go_ret
    exact ⟨rfl, rfl⟩
end Go.Proofs.Ytkcijlndblbidaa.Pg

/- The walk of Map.in. -/
namespace Go.Proofs.Ytkcijlndblbidaa.Pg
open Go.ChangeShapes Go.WideShapes Go.ChangeAt Go.RowKit

/-- what 'in' answers -/
def inn (np : Nat) (xs : List Int) : Int := if ∀ j, j < xs.length → 0 ≤ xs.getD j 0 ∧ xs.getD j 0 < np then 0 else 11
set_option maxHeartbeats 1000000 in
theorem in_any (b tb np l : Nat) (ts : List (Option Nat)) (F : Nat → Nat) (xs : List Int) (w : World) (hM : PMap b tb np ts F w) (hx : ∀ j, j < xs.length → w.cell? ⟨l, j, none⟩ = some (.int .i64 (xs.getD j 0))) (hl : xs.length ≤ 64) :
    Calls Try.prog 145 #[.pointer (some ⟨b, 0, none⟩), .slice (some ⟨l, 0, none⟩) xs.length xs.length] w fun e w' => e = .returned (.int .i64 (inn np xs)) ∧ w = w' := by
  have c1 := at_cell hM.head 1 _ rfl
  have Hx := Lib.hid hx
  obtain ⟨r, hr⟩ : ∃ r, inn np xs = r := ⟨_, rfl⟩
  rw [hr]
  have Hr := Lib.hid hr
  clear hx hM hr
  go_enter Try.func145, Try.ntmps145
  go_wp2
  go_loopw [11] (fun i wr => ∃ (m : Nat), i = .int .i64 m ∧ m ≤ xs.length ∧ (∀ j, j < m → 0 ≤ xs.getD j 0 ∧ xs.getD j 0 < np) ∧ wr = w) (fun i _ => xs.length - (intOf i).toNat)
  case atStart => exact ⟨0, rfl, by omega, by omega, rfl⟩
  case round =>
    obtain ⟨m, rfl, hm, hall, rfl⟩ := hrel
    have Hall := Lib.hid hall
    clear hall
    by_cases hlt : m < xs.length
    · have cm := Hx.out m hlt
      obtain ⟨x, hxm⟩ : ∃ x, xs.getD m 0 = x := ⟨_, rfl⟩
      rw [hxm] at cm
      have Hxm := Lib.hid hxm
      clear hxm
      by_cases hbad : x < 0 ∨ (np : Int) ≤ x
      · have hc : inn np xs = 11 := by
          unfold inn
          rw [if_neg]
          intro h
          have := h m hlt
          rw [Hxm.out] at this
          omega
        obtain rfl : r = 11 := Hr.out.symm.trans hc
        clear hc Hr
        rcases hbad with h1 | h1
        · go_wp2
          go_ret
          exact ⟨rfl, rfl⟩
        · have h0 : ¬ x < 0 := by omega
          go_wp2
          go_ret
          exact ⟨rfl, rfl⟩
      · have h0 : ¬ x < 0 := by omega
        have h1 : ¬ (np : Int) ≤ x := by omega
        go_wp2
        go_roundw
        case rel => exact ⟨m + 1, by go_num, by omega, fun j hj => by
          by_cases e : j = m
          · rw [e, Hxm.out]; omega
          · exact Hall.out j (by omega), trivial⟩
        case measure => simp [intOf]; omega
    · obtain rfl : xs.length = m := by omega
      have hc : inn np xs = 0 := if_pos Hall.out
      obtain rfl : r = 0 := Hr.out.symm.trans hc
      clear hc Hr
      go_wp2
      go_ret
      exact ⟨rfl, rfl⟩
end Go.Proofs.Ytkcijlndblbidaa.Pg

/- How the counts turn where one page turns. No program in sight. -/
namespace Go.Proofs.Ytkcijlndblbidaa.Pg

/-- one page turned -/
def turn (F : Nat → Nat) (p x : Nat) : Nat → Nat := fun q => if q = p then x else F q
theorem cnt_same {F G : Nat → Nat} {i m : Nat} (h : ∀ j, j < m → G (i * 256 + j) = F (i * 256 + j)) : cntF G i m = cntF F i m := by
  induction m with
  | zero => rfl
  | succ m ih => simp only [cntF]; rw [ih (fun j hj => h j (by omega)), h m (by omega)]
theorem cnt_turn {F : Nat → Nat} {i j x m : Nat} (hj : j < m) (hx : x ≠ 0) (h0 : F (i * 256 + j) = 0) : cntF (turn F (i * 256 + j) x) i m = cntF F i m + 1 := by
  induction m with
  | zero => omega
  | succ m ih =>
    simp only [cntF]
    by_cases e : j = m
    · subst e
      rw [cnt_same (F := F) (fun q hq => by unfold turn; rw [if_neg (by omega)])]
      have : turn F (i * 256 + j) x (i * 256 + j) = x := if_pos rfl
      rw [this, if_neg hx, if_pos h0]
    · rw [ih (by omega)]
      have : turn F (i * 256 + j) x (i * 256 + m) = F (i * 256 + m) := if_neg (by omega)
      rw [this]
      omega
theorem cnt_clear {F : Nat → Nat} {i j m : Nat} (hj : j < m) (h0 : F (i * 256 + j) ≠ 0) : cntF (turn F (i * 256 + j) 0) i m + 1 = cntF F i m := by
  induction m with
  | zero => omega
  | succ m ih =>
    simp only [cntF]
    by_cases e : j = m
    · subst e
      rw [cnt_same (F := F) (fun q hq => by unfold turn; rw [if_neg (by omega)])]
      have : turn F (i * 256 + j) 0 (i * 256 + j) = 0 := if_pos rfl
      rw [this, if_pos rfl, if_neg h0]
    · have := ih (by omega)
      have e2 : turn F (i * 256 + j) 0 (i * 256 + m) = F (i * 256 + m) := if_neg (by omega)
      rw [e2]
      omega
theorem cnt_other {F : Nat → Nat} {i i' j x : Nat} (hj : j < 256) (h : i' ≠ i) : cntF (turn F (i * 256 + j) x) i' 256 = cntF F i' 256 :=
  cnt_same fun q hq => by unfold turn; rw [if_neg (by omega)]
theorem sum_turn {F : Nat → Nat} {i j x m : Nat} (hi : i < m) (hj : j < 256) (hx : x ≠ 0) (h0 : F (i * 256 + j) = 0) : sumF (turn F (i * 256 + j) x) m = sumF F m + 1 := by
  have below : ∀ q, q ≤ i → sumF (turn F (i * 256 + j) x) q = sumF F q := by
    intro q
    induction q with
    | zero => intro _; rfl
    | succ q ih => intro h; simp only [sumF]; rw [ih (by omega), cnt_other hj (by omega)]
  induction m with
  | zero => omega
  | succ m ih =>
    simp only [sumF]
    by_cases e : i = m
    · subst e
      rw [below i (by omega), cnt_turn hj hx h0]
      omega
    · rw [ih (by omega), cnt_other hj (by omega)]
      omega
theorem sum_clear {F : Nat → Nat} {i j m : Nat} (hi : i < m) (hj : j < 256) (h0 : F (i * 256 + j) ≠ 0) : sumF (turn F (i * 256 + j) 0) m + 1 = sumF F m := by
  have below : ∀ q, q ≤ i → sumF (turn F (i * 256 + j) 0) q = sumF F q := by
    intro q
    induction q with
    | zero => intro _; rfl
    | succ q ih => intro h; simp only [sumF]; rw [ih (by omega), cnt_other hj (by omega)]
  induction m with
  | zero => omega
  | succ m ih =>
    simp only [sumF]
    by_cases e : i = m
    · subst e
      rw [below i (by omega)]
      have := cnt_clear (m := 256) hj h0
      omega
    · have := ih (by omega)
      rw [cnt_other hj (by omega)]
      omega
end Go.Proofs.Ytkcijlndblbidaa.Pg

/- The walk of Map.set (under way). -/
namespace Go.Proofs.Ytkcijlndblbidaa.Pg
open Go.ChangeShapes Go.WideShapes Go.ChangeAt Go.RowKit

theorem cnt_le (F : Nat → Nat) (i m : Nat) : cntF F i m ≤ m := by
  induction m with
  | zero => exact Nat.le_refl _
  | succ m ih => simp only [cntF]; split <;> omega
theorem sum_le (F : Nat → Nat) (m : Nat) : sumF F m ≤ 256 * m := by
  induction m with
  | zero => exact Nat.le_refl _
  | succ m ih => have := cnt_le F m 256; simp only [sumF]; omega
theorem tcells_cnt (F : Nat → Nat) (i : Nat) : (tcells F i)[256]? = some (.int .i64 (cntF F i 256)) := by
  unfold tcells
  rw [Array.getElem?_push]
  simp
set_option maxHeartbeats 1000000 in
theorem set_there (b tb np : Nat) (ts : List (Option Nat)) (F : Nat → Nat) (w : World) (hM : PMap b tb np ts F w) (i j k x : Nat) (hi : i < ts.length) (hj : j < 256) (hk : ts.getD i none = some k) (hx : x ≠ 0) (hx2 : x < 4294967296) (h0 : F (i * 256 + j) = 0) :
    Calls Try.prog 149 #[.pointer (some ⟨b, 0, none⟩), .int .i64 ((i * 256 + j : Nat) : Int), .int .u32 x] w fun e w' => e = .returned (.tuple #[]) ∧ w' = ((w.setCell ⟨k, j, none⟩ (.int .u32 x)).setCell ⟨k, 256, none⟩ (.int .i64 (cntF F i 256 + 1))).setCell ⟨b, 2, none⟩ (.int .i64 (sumF F ts.length + 1)) := by
  have c0 := at_cell hM.head 0 _ rfl
  have c2 := at_cell hM.head 2 _ rfl
  have f2 := at_free hM.head 2
  have ci := ts_cell hM hi
  have hm := hM.many.1
  have hq : ((i * 256 + j : Nat) : Int) / 256 = i := by omega
  have hr : ((i * 256 + j : Nat) : Int) % 256 = j := by omega
  have hp0 : (0 : Int) ≤ ((i * 256 + j : Nat) : Int) := by omega
  have hp1 : ((i * 256 + j : Nat) : Int) ≤ 1000000 := by omega
  have hT := (hM.some i k hi hk).1
  have cj := at_cell hT j _ (tcells_get F i j hj)
  have cn := at_cell hT 256 _ (tcells_cnt F i)
  have fj := at_free hT j
  have fn := at_free hT 256
  have hkb : k ≠ b := by
    intro e
    have h1 := hM.head
    rw [← e, hT] at h1
    simp at h1
  have hx3 : ¬ (x : Int) = 0 := by omega
  have hcb : cntF F i 256 ≤ 1000000 := by have := cnt_le F i 256; omega
  have hsb : sumF F ts.length ≤ 1000000000 := by have := sum_le F ts.length; omega
  rw [hk] at ci
  unfold ptr at ci
  simp only [Option.map_some] at ci
  clear hM hk hT
  generalize F (i * 256 + j) = y at *
  generalize ((i * 256 + j : Nat) : Int) = p at *
  generalize cntF F i 256 = cn0 at *
  generalize sumF F ts.length = sm0 at *
  go_enter Try.func149, Try.ntmps149
  go_wp2
  go_end0
  exact ⟨rfl, rfl⟩
end Go.Proofs.Ytkcijlndblbidaa.Pg

/- What set leaves is a map again: at a table that is there. -/
namespace Go.Proofs.Ytkcijlndblbidaa.Pg
open Go.ChangeShapes Go.WideShapes Go.ChangeAt Go.RowKit

theorem tcells_turn {F : Nat → Nat} {i j x : Nat} (hj : j < 256) (n : Nat) (hn : cntF (turn F (i * 256 + j) x) i 256 = n) :
    ((tcells F i).setIfInBounds j (.int .u32 x)).setIfInBounds 256 (.int .i64 n) = tcells (turn F (i * 256 + j) x) i := by
  apply Array.ext_getElem?
  intro q
  rw [Array.getElem?_setIfInBounds, Array.getElem?_setIfInBounds]
  have hsz : (tcells F i).size = 257 := by simp [tcells]
  have hsz2 : (tcells (turn F (i * 256 + j) x) i).size = 257 := by simp [tcells]
  by_cases h : 256 = q
  · subst h
    rw [if_pos rfl, tcells_cnt, hn]
    simp [hsz]
  · rw [if_neg h]
    by_cases h2 : j = q
    · subst h2
      rw [if_pos rfl, tcells_get _ _ _ hj]
      have : turn F (i * 256 + j) x (i * 256 + j) = x := if_pos rfl
      rw [this]
      simp [hsz]; omega
    · rw [if_neg h2]
      by_cases hq : q < 256
      · rw [tcells_get _ _ _ hq, tcells_get _ _ _ hq]
        have : turn F (i * 256 + j) x (i * 256 + q) = F (i * 256 + q) := if_neg (by omega)
        rw [this]
      · rw [Array.getElem?_eq_none (by omega), Array.getElem?_eq_none (by omega)]
theorem tcells_other {F : Nat → Nat} {i i' j x : Nat} (hj : j < 256) (h : i' ≠ i) : tcells (turn F (i * 256 + j) x) i' = tcells F i' := by
  unfold tcells
  rw [cnt_other hj h]
  congr 2
  apply List.map_congr_left
  intro q hq
  have : turn F (i * 256 + j) x (i' * 256 + q) = F (i' * 256 + q) := if_neg (by simp at hq; omega)
  rw [this]
end Go.Proofs.Ytkcijlndblbidaa.Pg

/- A map after set at a table that is there. -/
namespace Go.Proofs.Ytkcijlndblbidaa.Pg
open Go.ChangeShapes Go.WideShapes Go.ChangeAt Go.RowKit

theorem PMap.put_there {b tb np : Nat} {ts : List (Option Nat)} {F : Nat → Nat} {w : World} (hM : PMap b tb np ts F w) {i j k x : Nat} (hi : i < ts.length) (hj : j < 256) (hk : ts.getD i Option.none = Option.some k) (hx : x ≠ 0) (hx2 : x < 4294967296) (h0 : F (i * 256 + j) = 0) :
    PMap b tb np ts (turn F (i * 256 + j) x) (((w.setCell ⟨k, j, Option.none⟩ (.int .u32 x)).setCell ⟨k, 256, Option.none⟩ (.int .i64 (cntF F i 256 + 1))).setCell ⟨b, 2, Option.none⟩ (.int .i64 (sumF F ts.length + 1))) := by
  have hT := (hM.some i k hi hk).1
  have hkb : k ≠ b := by
    intro e
    have h1 := hM.head
    rw [← e, hT] at h1
    simp at h1
  have hkt : tb ≠ k := by
    intro e
    have h1 := hM.row
    rw [e, hT] at h1
    simp at h1
  have hbt : tb ≠ b := by
    intro e
    have h1 := hM.row
    rw [e, hM.head] at h1
    simp at h1
  have hs := sum_turn (F := F) (m := ts.length) hi hj hx h0
  have hc := cnt_turn (F := F) (m := 256) hj hx h0
  have hb1 : ((w.setCell ⟨k, j, Option.none⟩ (.int .u32 x)).setCell ⟨k, 256, Option.none⟩ (.int .i64 (cntF F i 256 + 1))).heap[b]? = Option.some (.cells #[.slice (Option.some ⟨tb, 0, Option.none⟩) ts.length ts.length, .int .i64 np, .int .i64 (sumF F ts.length)] 209 (0, 0)) := by
    rw [Below.heap_setCell _ ⟨k, 256, Option.none⟩ _ b (fun e => hkb e.symm), Below.heap_setCell _ ⟨k, j, Option.none⟩ _ b (fun e => hkb e.symm)]
    exact hM.head
  refine ⟨?_, ?_, hM.many, ?_, ?_, hM.apart, ?_⟩
  · rw [heap_setCell_same _ b 2 _ _ _ hb1, hs]
    simp
  · rw [Below.heap_setCell _ ⟨b, 2, Option.none⟩ _ tb hbt, Below.heap_setCell _ ⟨k, 256, Option.none⟩ _ tb hkt, Below.heap_setCell _ ⟨k, j, Option.none⟩ _ tb hkt]
    exact hM.row
  · intro i' hi' hn q hq
    have hne : i' ≠ i := by
      intro e
      rw [e, hk] at hn
      simp at hn
    have : turn F (i * 256 + j) x (i' * 256 + q) = F (i' * 256 + q) := if_neg (by omega)
    rw [this]
    exact hM.none i' hi' hn q hq
  · intro i' k' hi' hk'
    by_cases e : i' = i
    · subst e
      obtain rfl : k = k' := by rw [hk] at hk'; simpa using hk'
      refine ⟨?_, by omega⟩
      rw [Below.heap_setCell _ ⟨b, 2, Option.none⟩ _ k hkb]
      rw [heap_setCell_same _ k 256 _ _ _ (heap_setCell_same _ k j _ _ _ hT)]
      rw [show ((cntF F i' 256 : Int) + 1) = ((cntF F i' 256 + 1 : Nat) : Int) by omega, tcells_turn hj _ hc]
    · have hne : k' ≠ k := fun e2 => e (hM.apart i' i k hi' hi (by rw [← e2]; exact hk') hk)
      have hT' := hM.some i' k' hi' hk'
      have hk'b : k' ≠ b := by
        intro e
        have h1 := hM.head
        rw [← e, hT'.1] at h1
        simp at h1
      rw [tcells_other hj e, cnt_other hj e, Below.heap_setCell _ ⟨b, 2, Option.none⟩ _ k' hk'b, Below.heap_setCell _ ⟨k, 256, Option.none⟩ _ k' hne, Below.heap_setCell _ ⟨k, j, Option.none⟩ _ k' hne]
      exact hT'
  · intro p
    unfold turn
    split
    · exact hx2
    · exact hM.small p
end Go.Proofs.Ytkcijlndblbidaa.Pg

/- The walk of Map.set where a page's frame is taken away and its table stays. -/
namespace Go.Proofs.Ytkcijlndblbidaa.Pg
open Go.ChangeShapes Go.WideShapes Go.ChangeAt Go.RowKit
set_option linter.unusedVariables false

set_option maxHeartbeats 1000000 in
theorem set_clear (b tb np : Nat) (ts : List (Option Nat)) (F : Nat → Nat) (w : World) (hM : PMap b tb np ts F w) (i j k : Nat) (hi : i < ts.length) (hj : j < 256) (hk : ts.getD i none = some k) (h0 : F (i * 256 + j) ≠ 0) (hc : 1 < cntF F i 256) :
    Calls Try.prog 149 #[.pointer (some ⟨b, 0, none⟩), .int .i64 ((i * 256 + j : Nat) : Int), .int .u32 0] w fun e w' => e = .returned (.tuple #[]) ∧ w' = ((w.setCell ⟨k, j, none⟩ (.int .u32 0)).setCell ⟨k, 256, none⟩ (.int .i64 ((cntF F i 256 : Int) - 1))).setCell ⟨b, 2, none⟩ (.int .i64 ((sumF F ts.length : Int) - 1)) := by
  have c0 := at_cell hM.head 0 _ rfl
  have c2 := at_cell hM.head 2 _ rfl
  have f2 := at_free hM.head 2
  have ci := ts_cell hM hi
  have hm := hM.many.1
  have hq : ((i * 256 + j : Nat) : Int) / 256 = i := by omega
  have hr : ((i * 256 + j : Nat) : Int) % 256 = j := by omega
  have hp0 : (0 : Int) ≤ ((i * 256 + j : Nat) : Int) := by omega
  have hp1 : ((i * 256 + j : Nat) : Int) ≤ 1000000 := by omega
  have hT := (hM.some i k hi hk).1
  have cj := at_cell hT j _ (tcells_get F i j hj)
  have cn := at_cell hT 256 _ (tcells_cnt F i)
  have fj := at_free hT j
  have fn := at_free hT 256
  have hkb : k ≠ b := by
    intro e
    have h1 := hM.head
    rw [← e, hT] at h1
    simp at h1
  have hcb : cntF F i 256 ≤ 1000000 := by have := cnt_le F i 256; omega
  have hsb : sumF F ts.length ≤ 1000000000 := by have := sum_le F ts.length; omega
  rw [hk] at ci
  unfold ptr at ci
  simp only [Option.map_some] at ci
  clear hM hk hT
  clear h0
  generalize F (i * 256 + j) = y at *
  generalize ((i * 256 + j : Nat) : Int) = p at *
  generalize cntF F i 256 = cn0 at *
  generalize sumF F ts.length = sm0 at *
  go_enter Try.func149, Try.ntmps149
  go_wp2
  go_end0
  exact ⟨rfl, rfl⟩
end Go.Proofs.Ytkcijlndblbidaa.Pg

/- The walk of Map.set where a page's frame is taken away and its table goes. -/
namespace Go.Proofs.Ytkcijlndblbidaa.Pg
open Go.ChangeShapes Go.WideShapes Go.ChangeAt Go.RowKit
set_option linter.unusedVariables false

set_option maxHeartbeats 1000000 in
theorem set_last (b tb np : Nat) (ts : List (Option Nat)) (F : Nat → Nat) (w : World) (hM : PMap b tb np ts F w) (i j k : Nat) (hi : i < ts.length) (hj : j < 256) (hk : ts.getD i none = some k) (h0 : F (i * 256 + j) ≠ 0) (hc : cntF F i 256 = 1) :
    Calls Try.prog 149 #[.pointer (some ⟨b, 0, none⟩), .int .i64 ((i * 256 + j : Nat) : Int), .int .u32 0] w fun e w' => e = .returned (.tuple #[]) ∧ w' = (((w.setCell ⟨k, j, none⟩ (.int .u32 0)).setCell ⟨k, 256, none⟩ (.int .i64 ((cntF F i 256 : Int) - 1))).setCell ⟨b, 2, none⟩ (.int .i64 ((sumF F ts.length : Int) - 1))).setCell ⟨tb, i, none⟩ (.pointer none) := by
  have c0 := at_cell hM.head 0 _ rfl
  have c2 := at_cell hM.head 2 _ rfl
  have f2 := at_free hM.head 2
  have ci := ts_cell hM hi
  have fi := at_free hM.row i
  have hkt : tb ≠ k := by
    intro e
    have h1 := hM.row
    rw [e, (hM.some i k hi hk).1] at h1
    simp at h1
  have hbt : tb ≠ b := by
    intro e
    have h1 := hM.row
    rw [e, hM.head] at h1
    simp at h1
  have hm := hM.many.1
  have hq : ((i * 256 + j : Nat) : Int) / 256 = i := by omega
  have hr : ((i * 256 + j : Nat) : Int) % 256 = j := by omega
  have hp0 : (0 : Int) ≤ ((i * 256 + j : Nat) : Int) := by omega
  have hp1 : ((i * 256 + j : Nat) : Int) ≤ 1000000 := by omega
  have hT := (hM.some i k hi hk).1
  have cj := at_cell hT j _ (tcells_get F i j hj)
  have cn := at_cell hT 256 _ (tcells_cnt F i)
  have fj := at_free hT j
  have fn := at_free hT 256
  have hkb : k ≠ b := by
    intro e
    have h1 := hM.head
    rw [← e, hT] at h1
    simp at h1
  have hcb : cntF F i 256 ≤ 1000000 := by have := cnt_le F i 256; omega
  have hsb : sumF F ts.length ≤ 1000000000 := by have := sum_le F ts.length; omega
  rw [hk] at ci
  unfold ptr at ci
  simp only [Option.map_some] at ci
  clear hM hk hT
  clear h0
  generalize F (i * 256 + j) = y at *
  generalize ((i * 256 + j : Nat) : Int) = p at *
  rw [hc] at *
  generalize sumF F ts.length = sm0 at *
  go_enter Try.func149, Try.ntmps149
  go_wp2
  go_end0
  exact ⟨rfl, rfl⟩
end Go.Proofs.Ytkcijlndblbidaa.Pg

/- A map after set has taken a page's frame away: the table stays. -/
namespace Go.Proofs.Ytkcijlndblbidaa.Pg
open Go.ChangeShapes Go.WideShapes Go.ChangeAt Go.RowKit

theorem PMap.clear_there {b tb np : Nat} {ts : List (Option Nat)} {F : Nat → Nat} {w : World} (hM : PMap b tb np ts F w) {i j k : Nat} (hi : i < ts.length) (hj : j < 256) (hk : ts.getD i Option.none = Option.some k) (h0 : F (i * 256 + j) ≠ 0) (hc1 : 1 < cntF F i 256) :
    PMap b tb np ts (turn F (i * 256 + j) 0) (((w.setCell ⟨k, j, Option.none⟩ (.int .u32 0)).setCell ⟨k, 256, Option.none⟩ (.int .i64 ((cntF F i 256 : Int) - 1))).setCell ⟨b, 2, Option.none⟩ (.int .i64 ((sumF F ts.length : Int) - 1))) := by
  have hT := (hM.some i k hi hk).1
  have hkb : k ≠ b := by
    intro e
    have h1 := hM.head
    rw [← e, hT] at h1
    simp at h1
  have hkt : tb ≠ k := by
    intro e
    have h1 := hM.row
    rw [e, hT] at h1
    simp at h1
  have hbt : tb ≠ b := by
    intro e
    have h1 := hM.row
    rw [e, hM.head] at h1
    simp at h1
  have hs := sum_clear (F := F) (m := ts.length) hi hj h0
  have hc := cnt_clear (F := F) (m := 256) hj h0
  have hb1 : ((w.setCell ⟨k, j, Option.none⟩ (.int .u32 0)).setCell ⟨k, 256, Option.none⟩ (.int .i64 ((cntF F i 256 : Int) - 1))).heap[b]? = Option.some (.cells #[.slice (Option.some ⟨tb, 0, Option.none⟩) ts.length ts.length, .int .i64 np, .int .i64 (sumF F ts.length)] 209 (0, 0)) := by
    rw [Below.heap_setCell _ ⟨k, 256, Option.none⟩ _ b (fun e => hkb e.symm), Below.heap_setCell _ ⟨k, j, Option.none⟩ _ b (fun e => hkb e.symm)]
    exact hM.head
  refine ⟨?_, ?_, hM.many, ?_, ?_, hM.apart, ?_⟩
  · rw [heap_setCell_same _ b 2 _ _ _ hb1, show ((sumF F ts.length : Int) - 1) = (sumF (turn F (i * 256 + j) 0) ts.length : Nat) by omega]
    simp
  · rw [Below.heap_setCell _ ⟨b, 2, Option.none⟩ _ tb hbt, Below.heap_setCell _ ⟨k, 256, Option.none⟩ _ tb hkt, Below.heap_setCell _ ⟨k, j, Option.none⟩ _ tb hkt]
    exact hM.row
  · intro i' hi' hn q hq
    have hne : i' ≠ i := by
      intro e
      rw [e, hk] at hn
      simp at hn
    have : turn F (i * 256 + j) 0 (i' * 256 + q) = F (i' * 256 + q) := if_neg (by omega)
    rw [this]
    exact hM.none i' hi' hn q hq
  · intro i' k' hi' hk'
    by_cases e : i' = i
    · subst e
      obtain rfl : k = k' := by rw [hk] at hk'; simpa using hk'
      refine ⟨?_, by omega⟩
      rw [Below.heap_setCell _ ⟨b, 2, Option.none⟩ _ k hkb]
      rw [heap_setCell_same _ k 256 _ _ _ (heap_setCell_same _ k j _ _ _ hT)]
      rw [show ((cntF F i' 256 : Int) - 1) = (cntF (turn F (i' * 256 + j) 0) i' 256 : Nat) by omega]
      have ht := tcells_turn (F := F) (i := i') (x := 0) hj _ rfl
      rw [← ht]
      rfl
    · have hne : k' ≠ k := fun e2 => e (hM.apart i' i k hi' hi (by rw [← e2]; exact hk') hk)
      have hT' := hM.some i' k' hi' hk'
      have hk'b : k' ≠ b := by
        intro e
        have h1 := hM.head
        rw [← e, hT'.1] at h1
        simp at h1
      rw [tcells_other hj e, cnt_other hj e, Below.heap_setCell _ ⟨b, 2, Option.none⟩ _ k' hk'b, Below.heap_setCell _ ⟨k, 256, Option.none⟩ _ k' hne, Below.heap_setCell _ ⟨k, j, Option.none⟩ _ k' hne]
      exact hT'
  · intro p
    unfold turn
    split
    · omega
    · exact hM.small p
end Go.Proofs.Ytkcijlndblbidaa.Pg

/- A map after set has taken the last frame of a table away: the table goes. -/
namespace Go.Proofs.Ytkcijlndblbidaa.Pg
open Go.ChangeShapes Go.WideShapes Go.ChangeAt Go.RowKit

theorem cnt_zero {F : Nat → Nat} {i m : Nat} (h : cntF F i m = 0) : ∀ j, j < m → F (i * 256 + j) = 0 := by
  induction m with
  | zero => intro j hj; omega
  | succ m ih =>
    intro j hj
    simp only [cntF] at h
    by_cases e : j = m
    · subst e
      by_cases h0 : F (i * 256 + j) = 0
      · exact h0
      · rw [if_neg h0] at h; omega
    · exact ih (by omega) j (by omega)
theorem getD_set {ts : List (Option Nat)} {i i' : Nat} {o : Option Nat} (hi : i < ts.length) : (ts.set i o).getD i' Option.none = if i' = i then o else ts.getD i' Option.none := by
  rw [List.getD_eq_getElem?_getD, List.getElem?_set]
  by_cases h : i' = i
  · subst h
    simp [hi]
  · rw [if_neg (fun e => h e.symm), if_neg h, List.getD_eq_getElem?_getD]
theorem PMap.clear_last {b tb np : Nat} {ts : List (Option Nat)} {F : Nat → Nat} {w : World} (hM : PMap b tb np ts F w) {i j k : Nat} (hi : i < ts.length) (hj : j < 256) (hk : ts.getD i Option.none = Option.some k) (h0 : F (i * 256 + j) ≠ 0) (hc1 : cntF F i 256 = 1) (v1 v2 : Value) :
    PMap b tb np (ts.set i Option.none) (turn F (i * 256 + j) 0) ((((w.setCell ⟨k, j, Option.none⟩ v1).setCell ⟨k, 256, Option.none⟩ v2).setCell ⟨b, 2, Option.none⟩ (.int .i64 ((sumF F ts.length : Int) - 1))).setCell ⟨tb, i, Option.none⟩ (.pointer Option.none)) := by
  have hT := (hM.some i k hi hk).1
  have hkb : k ≠ b := by
    intro e
    have h1 := hM.head
    rw [← e, hT] at h1
    simp at h1
  have hkt : tb ≠ k := by
    intro e
    have h1 := hM.row
    rw [e, hT] at h1
    simp at h1
  have hbt : tb ≠ b := by
    intro e
    have h1 := hM.row
    rw [e, hM.head] at h1
    simp at h1
  have hs := sum_clear (F := F) (m := ts.length) hi hj h0
  have hc := cnt_clear (F := F) (m := 256) hj h0
  have hz := cnt_zero (F := turn F (i * 256 + j) 0) (i := i) (m := 256) (by omega)
  have hb1 : ((w.setCell ⟨k, j, Option.none⟩ v1).setCell ⟨k, 256, Option.none⟩ v2).heap[b]? = Option.some (.cells #[.slice (Option.some ⟨tb, 0, Option.none⟩) ts.length ts.length, .int .i64 np, .int .i64 (sumF F ts.length)] 209 (0, 0)) := by
    rw [Below.heap_setCell _ ⟨k, 256, Option.none⟩ _ b (fun e => hkb e.symm), Below.heap_setCell _ ⟨k, j, Option.none⟩ _ b (fun e => hkb e.symm)]
    exact hM.head
  have hr1 : (((w.setCell ⟨k, j, Option.none⟩ v1).setCell ⟨k, 256, Option.none⟩ v2).setCell ⟨b, 2, Option.none⟩ (.int .i64 ((sumF F ts.length : Int) - 1))).heap[tb]? = Option.some (.cells (ts.map ptr).toArray 228 (0, 0)) := by
    rw [Below.heap_setCell _ ⟨b, 2, Option.none⟩ _ tb hbt, Below.heap_setCell _ ⟨k, 256, Option.none⟩ _ tb hkt, Below.heap_setCell _ ⟨k, j, Option.none⟩ _ tb hkt]
    exact hM.row
  refine ⟨?_, ?_, by rw [List.length_set]; exact hM.many, ?_, ?_, ?_, ?_⟩
  · rw [Below.heap_setCell _ ⟨tb, i, Option.none⟩ _ b (fun e => hbt e.symm), heap_setCell_same _ b 2 _ _ _ hb1, List.length_set, show ((sumF F ts.length : Int) - 1) = (sumF (turn F (i * 256 + j) 0) ts.length : Nat) by omega]
    simp
  · rw [heap_setCell_same _ tb i _ _ _ hr1]
    simp [List.map_set, ptr]
  · intro i' hi' hn q hq
    by_cases e : i' = i
    · subst e
      exact hz q hq
    · rw [getD_set hi, if_neg e] at hn
      rw [List.length_set] at hi'
      have : turn F (i * 256 + j) 0 (i' * 256 + q) = F (i' * 256 + q) := if_neg (by omega)
      rw [this]
      exact hM.none i' hi' hn q hq
  · intro i' k' hi' hk'
    rw [List.length_set] at hi'
    rw [getD_set hi] at hk'
    by_cases e : i' = i
    · rw [if_pos e] at hk'; cases hk'
    · rw [if_neg e] at hk'
      have hne : k' ≠ k := fun e2 => e (hM.apart i' i k hi' hi (by rw [← e2]; exact hk') hk)
      have hT' := hM.some i' k' hi' hk'
      have hk'b : k' ≠ b := by
        intro e
        have h1 := hM.head
        rw [← e, hT'.1] at h1
        simp at h1
      have hk't : k' ≠ tb := by
        intro e
        have h1 := hM.row
        rw [← e, hT'.1] at h1
        simp at h1
      rw [tcells_other hj e, cnt_other hj e, Below.heap_setCell _ ⟨tb, i, Option.none⟩ _ k' hk't, Below.heap_setCell _ ⟨b, 2, Option.none⟩ _ k' hk'b, Below.heap_setCell _ ⟨k, 256, Option.none⟩ _ k' hne, Below.heap_setCell _ ⟨k, j, Option.none⟩ _ k' hne]
      exact hT'
  · intro p q r hp hq h1 h2
    rw [List.length_set] at hp hq
    rw [getD_set hi] at h1 h2
    by_cases e1 : p = i
    · rw [if_pos e1] at h1; cases h1
    · by_cases e2 : q = i
      · rw [if_pos e2] at h2; cases h2
      · rw [if_neg e1] at h1
        rw [if_neg e2] at h2
        exact hM.apart p q r hp hq h1 h2
  · intro p
    unfold turn
    split
    · omega
    · exact hM.small p
end Go.Proofs.Ytkcijlndblbidaa.Pg

/- The walk of Map.set where a page gets a frame and its table is made. -/
namespace Go.Proofs.Ytkcijlndblbidaa.Pg
open Go.ChangeShapes Go.WideShapes Go.ChangeAt Go.RowKit
set_option linter.unusedVariables false

def tzero : Array Value := tcells (fun _ => 0) 0
theorem zero_table (w : World) : (zeroValue 231).run Try.prog w = .ok (.agg tzero) w := by kernel_rfl
theorem cnt_zeros (i m : Nat) : cntF (fun _ => 0) i m = 0 := by
  induction m with
  | zero => rfl
  | succ m ih => simp [cntF, ih]
theorem tzero_get (j : Nat) (h : j < 256) : tzero[j]? = some (.int .u32 0) := tcells_get _ _ j h
theorem tzero_size : tzero.size = 257 := by simp [tzero, tcells]
theorem tzero_cnt : tzero[256]? = some (.int .i64 0) := by have := tcells_cnt (fun _ => 0) 0; rw [cnt_zeros] at this; exact this

set_option maxRecDepth 100000 in
set_option maxHeartbeats 1000000 in
theorem set_new (b tb np : Nat) (ts : List (Option Nat)) (F : Nat → Nat) (w : World) (hM : PMap b tb np ts F w) (i j x : Nat) (hi : i < ts.length) (hj : j < 256) (hk : ts.getD i none = none) (hx : x ≠ 0) (hx2 : x < 4294967296) :
    Calls Try.prog 149 #[.pointer (some ⟨b, 0, none⟩), .int .i64 ((i * 256 + j : Nat) : Int), .int .u32 x] w fun e w' => e = .returned (.tuple #[]) ∧ w' = ((w.setCell ⟨tb, i, none⟩ (.pointer (some ⟨w.heap.size, 0, none⟩))).setCell ⟨b, 2, none⟩ (.int .i64 (sumF F ts.length + 1))).alloc (.cells ((tzero.setIfInBounds j (.int .u32 x)).setIfInBounds 256 (.int .i64 1)) 231) := by
  have c0 := at_cell hM.head 0 _ rfl
  have c2 := at_cell hM.head 2 _ rfl
  have f2 := at_free hM.head 2
  have ci := ts_cell hM hi
  have fi := at_free hM.row i
  have hm := hM.many.1
  have hq : ((i * 256 + j : Nat) : Int) / 256 = i := by omega
  have hr : ((i * 256 + j : Nat) : Int) % 256 = j := by omega
  have hp0 : (0 : Int) ≤ ((i * 256 + j : Nat) : Int) := by omega
  have hp1 : ((i * 256 + j : Nat) : Int) ≤ 1000000 := by omega
  have hbt : tb ≠ b := by
    intro e
    have h1 := hM.row
    rw [e, hM.head] at h1
    simp at h1
  have hT := heap_alloc_new w (.cells tzero 231)
  have cj := at_cell hT j _ (tzero_get j hj)
  have cn := at_cell hT 256 _ tzero_cnt
  have fj := at_free hT j
  have fn := at_free hT 256
  have hB := below_new w (.cells tzero 231)
  have ltb := block_lt hM.row
  have lb := block_lt hM.head
  have hkb : w.heap.size ≠ b := by omega
  have hkt : w.heap.size ≠ tb := by omega
  have hkt' : tb ≠ w.heap.size := by omega
  have d0 := cellB hB (Nat.le_refl _) c0
  have d2 := cellB hB (Nat.le_refl _) c2
  have e2 := (hB.frozen (p := ⟨b, 2, none⟩) lb).trans f2
  have di := cellB hB (Nat.le_refl _) ci
  have ei := (hB.frozen (p := ⟨tb, i, none⟩) ltb).trans fi
  have hx3 : ¬ (x : Int) = 0 := by omega
  have hsb : sumF F ts.length ≤ 1000000000 := by have := sum_le F ts.length; omega
  rw [hk] at ci di
  unfold ptr at ci di
  simp only [Option.map_none] at ci di
  have hbld := zero_table
  have hz := tzero_get j hj
  have hz1 : (tzero.setIfInBounds j (.int .u32 x))[256]? = some (.int .i64 0) := by
    rw [Array.getElem?_setIfInBounds, if_neg (by omega)]; exact tzero_cnt
  have hz2 : ((tzero.setIfInBounds j (.int .u32 x)).setIfInBounds 256 (.int .i64 1))[256]? = some (.int .i64 1) := by
    rw [Array.getElem?_setIfInBounds, if_pos rfl, if_pos (by simp [tzero_size])]
  clear hM hk hT hB
  generalize ((i * 256 + j : Nat) : Int) = p at *
  generalize sumF F ts.length = sm0 at *
  go_enter Try.func149, Try.ntmps149
  go_wp2
  go_end0
  exact ⟨rfl, rfl⟩
end Go.Proofs.Ytkcijlndblbidaa.Pg

/- A map after set has made a table; and set in one contract: of what was there only the map's blocks change. -/
namespace Go.Proofs.Ytkcijlndblbidaa.Pg
open Go.ChangeShapes Go.WideShapes Go.ChangeAt Go.RowKit

theorem tcells_nil {F : Nat → Nat} {i : Nat} (h : ∀ j, j < 256 → F (i * 256 + j) = 0) : tcells F i = tzero := by
  unfold tzero tcells
  have hc : cntF F i 256 = cntF (fun _ => 0) 0 256 := by
    have : ∀ m, m ≤ 256 → cntF F i m = 0 := by
      intro m
      induction m with
      | zero => intro _; rfl
      | succ m ih => intro hm; simp [cntF, ih (by omega), h m (by omega)]
    rw [this 256 (Nat.le_refl _), cnt_zeros]
  rw [hc]
  congr 2
  apply List.map_congr_left
  intro q hq
  rw [h q (by simpa using hq)]
theorem PMap.put_new {b tb np : Nat} {ts : List (Option Nat)} {F : Nat → Nat} {w : World} (hM : PMap b tb np ts F w) {i j x : Nat} (hi : i < ts.length) (hj : j < 256) (hk : ts.getD i Option.none = Option.none) (hx : x ≠ 0) (hx2 : x < 4294967296) :
    PMap b tb np (ts.set i (Option.some w.heap.size)) (turn F (i * 256 + j) x) (((w.setCell ⟨tb, i, Option.none⟩ (.pointer (Option.some ⟨w.heap.size, 0, Option.none⟩))).setCell ⟨b, 2, Option.none⟩ (.int .i64 (sumF F ts.length + 1))).alloc (.cells ((tzero.setIfInBounds j (.int .u32 x)).setIfInBounds 256 (.int .i64 1)) 231)) := by
  have hbt : tb ≠ b := by
    intro e
    have h1 := hM.row
    rw [e, hM.head] at h1
    simp at h1
  have hzero := hM.none i hi hk
  have h0 := hzero j hj
  have hs := sum_turn (F := F) (m := ts.length) hi hj hx h0
  have hc := cnt_turn (F := F) (m := 256) hj hx h0
  have hc0 : cntF F i 256 = 0 := by
    have := tcells_cnt F i
    rw [tcells_nil hzero, tzero_cnt] at this
    simpa using this.symm
  have hsz : ((w.setCell ⟨tb, i, Option.none⟩ (.pointer (Option.some ⟨w.heap.size, 0, Option.none⟩))).setCell ⟨b, 2, Option.none⟩ (.int .i64 (sumF F ts.length + 1))).heap.size = w.heap.size := by simp [World.setCell]
  have old : ∀ k, k < w.heap.size → k ≠ b → k ≠ tb → (((w.setCell ⟨tb, i, Option.none⟩ (.pointer (Option.some ⟨w.heap.size, 0, Option.none⟩))).setCell ⟨b, 2, Option.none⟩ (.int .i64 (sumF F ts.length + 1))).alloc (.cells ((tzero.setIfInBounds j (.int .u32 x)).setIfInBounds 256 (.int .i64 1)) 231)).heap[k]? = w.heap[k]? := by
    intro k hk h1 h2
    rw [Below.heap_alloc _ _ k (by omega), Below.heap_setCell _ ⟨b, 2, Option.none⟩ _ k h1, Below.heap_setCell _ ⟨tb, i, Option.none⟩ _ k h2]
  have hb1 : (w.setCell ⟨tb, i, Option.none⟩ (.pointer (Option.some ⟨w.heap.size, 0, Option.none⟩))).heap[b]? = Option.some (.cells #[.slice (Option.some ⟨tb, 0, Option.none⟩) ts.length ts.length, .int .i64 np, .int .i64 (sumF F ts.length)] 209 (0, 0)) := by
    rw [Below.heap_setCell _ ⟨tb, i, Option.none⟩ _ b (fun e => hbt e.symm)]
    exact hM.head
  have lb := block_lt hM.head
  have lt := block_lt hM.row
  refine ⟨?_, ?_, by rw [List.length_set]; exact hM.many, ?_, ?_, ?_, ?_⟩
  · rw [Below.heap_alloc _ _ b (by omega), heap_setCell_same _ b 2 _ _ _ hb1, List.length_set, hs]
    simp
  · rw [Below.heap_alloc _ _ tb (by omega), Below.heap_setCell _ ⟨b, 2, Option.none⟩ _ tb hbt, heap_setCell_same _ tb i _ _ _ hM.row]
    simp [List.map_set, ptr]
  · intro i' hi' hn q hq
    rw [List.length_set] at hi'
    by_cases e : i' = i
    · rw [getD_set hi, if_pos e] at hn; cases hn
    · rw [getD_set hi, if_neg e] at hn
      have : turn F (i * 256 + j) x (i' * 256 + q) = F (i' * 256 + q) := if_neg (by omega)
      rw [this]
      exact hM.none i' hi' hn q hq
  · intro i' k' hi' hk'
    rw [List.length_set] at hi'
    rw [getD_set hi] at hk'
    by_cases e : i' = i
    · rw [if_pos e] at hk'
      obtain rfl : w.heap.size = k' := by simpa using hk'
      subst e
      refine ⟨?_, by omega⟩
      have := heap_alloc_new ((w.setCell ⟨tb, i', Option.none⟩ (.pointer (Option.some ⟨w.heap.size, 0, Option.none⟩))).setCell ⟨b, 2, Option.none⟩ (.int .i64 (sumF F ts.length + 1))) (.cells ((tzero.setIfInBounds j (.int .u32 x)).setIfInBounds 256 (.int .i64 1)) 231)
      rw [hsz] at this
      rw [this, ← tcells_nil hzero, show (1 : Int) = ((1 : Nat) : Int) from rfl, tcells_turn hj 1 (by omega)]
    · rw [if_neg e] at hk'
      have hT' := hM.some i' k' hi' hk'
      have hk'b : k' ≠ b := by
        intro e
        have h1 := hM.head
        rw [← e, hT'.1] at h1
        simp at h1
      have hk't : k' ≠ tb := by
        intro e
        have h1 := hM.row
        rw [← e, hT'.1] at h1
        simp at h1
      rw [tcells_other hj e, cnt_other hj e, old k' (block_lt hT'.1) hk'b hk't]
      exact hT'
  · intro p q r hp hq h1 h2
    rw [List.length_set] at hp hq
    rw [getD_set hi] at h1 h2
    by_cases e1 : p = i
    · by_cases e2 : q = i
      · omega
      · rw [if_pos e1] at h1
        rw [if_neg e2] at h2
        have := block_lt (hM.some q r hq h2).1
        simp at h1
        omega
    · rw [if_neg e1] at h1
      by_cases e2 : q = i
      · rw [if_pos e2] at h2
        have := block_lt (hM.some p r hp h1).1
        simp at h2
        omega
      · rw [if_neg e2] at h2
        exact hM.apart p q r hp hq h1 h2
  · intro p
    unfold turn
    split
    · exact hx2
    · exact hM.small p

/-- a map in block b whose blocks are among S, and that has np pages with the frames F -/
def Mp (S : Nat → Prop) (b np : Nat) (F : Nat → Nat) (w : World) : Prop :=
  ∃ tb ts, PMap b tb np ts F w ∧ (S b ∧ S tb ∧ ∀ i k, i < ts.length → ts.getD i none = some k → S k) ∧ In S w ∧ ts.length = (np + 255) / 256
theorem Mp.in {S : Nat → Prop} {b np : Nat} {F : Nat → Nat} {w : World} (h : Mp S b np F w) : In S w := by
  obtain ⟨_, _, _, _, h, _⟩ := h; exact h
theorem Mp.keep {S T : Nat → Prop} {b np : Nat} {F : Nat → Nat} {w w' : World} (h : Mp S b np F w) (c : Chg T w w') (a : Apart S T) : Mp S b np F w' := by
  obtain ⟨tb, ts, hM, ⟨s1, s2, s3⟩, hI, hl⟩ := h
  exact ⟨tb, ts, ⟨c.keep hM.head (fun t => a _ s1 t), c.keep hM.row (fun t => a _ s2 t), hM.many, hM.none, fun i k hi hk => ⟨c.keep (hM.some i k hi hk).1 (fun t => a _ (s3 i k hi hk) t), (hM.some i k hi hk).2⟩, hM.apart, hM.small⟩, ⟨s1, s2, s3⟩, hI.mono c.size, hl⟩
theorem Mp.grow {S : Nat → Prop} {b np : Nat} {F : Nat → Nat} {w w' : World} (h : Mp S b np F w) (c : Below w.heap.size w w') : Mp S b np F w' :=
  h.keep (T := fun _ => False) (Chg.of c) (fun _ _ h => h)
theorem set_mp (S : Nat → Prop) (b np : Nat) (F : Nat → Nat) (w : World) (hM : Mp S b np F w) (p x : Nat) (hp : p < np) (hx2 : x < 4294967296) (hx : x = 0 ↔ F p ≠ 0) :
    Calls Try.prog 149 #[.pointer (some ⟨b, 0, none⟩), .int .i64 p, .int .u32 x] w fun e w' => e = .returned (.tuple #[]) ∧ ∃ S', Mp S' b np (turn F p x) w' ∧ Chg S w w' ∧ Grew S S' w := by
  obtain ⟨tb, ts, hM, ⟨s1, s2, s3⟩, hI, hl⟩ := hM
  have hm := hM.many
  obtain ⟨i, j, hi, hj, rfl⟩ : ∃ i j, i < ts.length ∧ j < 256 ∧ p = i * 256 + j := ⟨p / 256, p % 256, by omega, by omega, by omega⟩
  by_cases h0 : x = 0
  · subst h0
    have hF := hx.1 rfl
    cases hk : ts.getD i none with
    | none => exact absurd (hM.none i hi hk j hj) hF
    | some k =>
      have hc := (hM.some i k hi hk).2
      by_cases h1 : cntF F i 256 = 1
      · refine (set_last b tb np ts F w hM i j k hi hj hk hF h1).mono ?_
        rintro e w' ⟨rfl, rfl⟩
        refine ⟨rfl, S, ⟨tb, _, hM.clear_last hi hj hk hF h1 _ _, ⟨s1, s2, ?_⟩, ?_, by rw [List.length_set]; exact hl⟩, ?_, Grew.refl _ _⟩
        · intro i' k' hi' hk'
          rw [List.length_set] at hi'
          rw [getD_set hi] at hk'
          split at hk'
          · cases hk'
          · exact s3 i' k' hi' hk'
        · exact hI.mono (by simp [World.setCell])
        · exact ((((Chg.refl S w).set (.inl (s3 i k hi hk)) _).set (.inl (s3 i k hi hk)) _).set (.inl s1) _).set (.inl s2) _
      · refine (set_clear b tb np ts F w hM i j k hi hj hk hF (by omega)).mono ?_
        rintro e w' ⟨rfl, rfl⟩
        refine ⟨rfl, S, ⟨tb, _, hM.clear_there hi hj hk hF (by omega), ⟨s1, s2, s3⟩, hI.mono (by simp [World.setCell]), hl⟩, ?_, Grew.refl _ _⟩
        exact (((Chg.refl S w).set (.inl (s3 i k hi hk)) _).set (.inl (s3 i k hi hk)) _).set (.inl s1) _
  · have hF : F (i * 256 + j) = 0 := by
      apply Classical.byContradiction
      intro h
      exact h0 (hx.2 h)
    cases hk : ts.getD i none with
    | none =>
      refine (set_new b tb np ts F w hM i j x hi hj hk h0 hx2).mono ?_
      rintro e w' ⟨rfl, rfl⟩
      refine ⟨rfl, fun k => S k ∨ k = w.heap.size, ⟨tb, _, hM.put_new hi hj hk h0 hx2, ⟨.inl s1, .inl s2, ?_⟩, ?_, by rw [List.length_set]; exact hl⟩, ?_, ?_⟩
      · intro i' k' hi' hk'
        rw [List.length_set] at hi'
        rw [getD_set hi] at hk'
        split at hk'
        · right; simpa using hk'.symm
        · exact .inl (s3 i' k' hi' hk')
      · intro q hq
        rcases hq with a | a
        · have := hI q a; simp [World.setCell]; omega
        · simp [World.setCell]; omega
      · exact (((Chg.refl S w).set (.inl s2) _).set (.inl s1) _).alloc _
      · intro q hq
        rcases hq with a | a
        · exact .inl a
        · exact .inr (by omega)
    | some k =>
      refine (set_there b tb np ts F w hM i j k x hi hj hk h0 hx2 hF).mono ?_
      rintro e w' ⟨rfl, rfl⟩
      refine ⟨rfl, S, ⟨tb, _, hM.put_there hi hj hk h0 hx2 hF, ⟨s1, s2, s3⟩, hI.mono (by simp [World.setCell]), hl⟩, ?_, Grew.refl _ _⟩
      exact (((Chg.refl S w).set (.inl (s3 i k hi hk)) _).set (.inl (s3 i k hi hk)) _).set (.inl s1) _
end Go.Proofs.Ytkcijlndblbidaa.Pg

/- The walks of Put, Frame, Drop, Move at a map whose blocks are among S. -/
namespace Go.Proofs.Ytkcijlndblbidaa.Pg
open Go.ChangeShapes Go.WideShapes Go.ChangeAt Go.RowKit
set_option linter.unusedVariables false

/-- a map that has become F', of what was there only S changed -/
def Did (S : Nat → Prop) (b np : Nat) (F' : Nat → Nat) (w w' : World) : Prop := ∃ S', Mp S' b np F' w' ∧ Chg S w w' ∧ Grew S S' w
theorem Did.of {S : Nat → Prop} {b np : Nat} {F : Nat → Nat} {w w' : World} (hM : Mp S b np F w) (h : Below w.heap.size w w') : Did S b np F w w' := ⟨S, hM.grow h, Chg.of h, Grew.refl _ _⟩
theorem Did.after {S : Nat → Prop} {b np : Nat} {F : Nat → Nat} {w w1 w' : World} (h : Below w.heap.size w w1) (k : Did S b np F w1 w') : Did S b np F w w' := by
  obtain ⟨S', h1, h2, h3⟩ := k
  exact ⟨S', h1, (Chg.of h).trans h2 (fun _ _ h => h), (Grew.refl S w).trans h3 h.size⟩
theorem Did.then {S S' : Nat → Prop} {b np : Nat} {G : Nat → Nat} {w w1 w' : World} (h : Chg S w w1) (g : Grew S S' w) (k : Did S' b np G w1 w') : Did S b np G w w' := by
  obtain ⟨S2, h1, h2, h3⟩ := k
  exact ⟨S2, h1, h.then h2 g, g.trans h3 h.size⟩
/-- every block of S is B or later -/
def Up (B : Nat) (S : Nat → Prop) : Prop := ∀ k, S k → B ≤ k
theorem Did.up {S : Nat → Prop} {b np B : Nat} {F : Nat → Nat} {w w' : World} (h : Did S b np F w w') (u : Up B S) (hB : B ≤ w.heap.size) : ∃ S', Mp S' b np F w' ∧ Up B S' ∧ Below B w w' := by
  obtain ⟨S', h1, h2, h3⟩ := h
  refine ⟨S', h1, fun k hk => ?_, h2.below u hB⟩
  rcases h3 k hk with a | a
  · exact u k a
  · omega
theorem get_mp (S : Nat → Prop) (b np : Nat) (F : Nat → Nat) (w : World) (hM : Mp S b np F w) (p : Nat) (hp : p < np) :
    Calls Try.prog 146 #[.pointer (some ⟨b, 0, none⟩), .int .i64 p] w fun e w' => e = .returned (.int .u32 (F p)) ∧ w = w' := by
  obtain ⟨tb, ts, hM, _, _⟩ := hM
  have hm := hM.many
  obtain ⟨i, j, hi, hj, rfl⟩ : ∃ i j, i < ts.length ∧ j < 256 ∧ p = i * 256 + j := ⟨p / 256, p % 256, by omega, by omega, by omega⟩
  exact get_any b tb np ts F w hM i j hi hj
theorem in1_mp (S : Nat → Prop) (b np : Nat) (F : Nat → Nat) (w : World) (hM : Mp S b np F w) (p r : Int) (hr : inn np [p] = r) :
    Calls Try.prog 145 #[.pointer (some ⟨b, 0, none⟩), .slice (some ⟨w.heap.size, 0, none⟩) 1 1] (w.alloc (.cells #[.int .i64 p] 3)) fun e w' => e = .returned (.int .i64 r) ∧ w.alloc (.cells #[.int .i64 p] 3) = w' := by
  obtain ⟨tb, ts, hM, _, _⟩ := hM.grow (below_new w (.cells #[.int .i64 p] 3))
  rw [← hr]
  refine in_any b tb np _ ts F [p] _ hM ?_ (by simp)
  intro j hj
  obtain rfl : j = 0 := by simpa using hj
  exact at_cell (heap_alloc_new w (.cells #[.int .i64 p] 3)) 0 _ rfl
theorem in2_mp (S : Nat → Prop) (b np : Nat) (F : Nat → Nat) (w : World) (hM : Mp S b np F w) (p q r : Int) (hr : inn np [p, q] = r) :
    Calls Try.prog 145 #[.pointer (some ⟨b, 0, none⟩), .slice (some ⟨w.heap.size, 0, none⟩) 2 2] (w.alloc (.cells #[.int .i64 p, .int .i64 q] 3)) fun e w' => e = .returned (.int .i64 r) ∧ w.alloc (.cells #[.int .i64 p, .int .i64 q] 3) = w' := by
  obtain ⟨tb, ts, hM, _, _⟩ := hM.grow (below_new w (.cells #[.int .i64 p, .int .i64 q] 3))
  rw [← hr]
  refine in_any b tb np _ ts F [p, q] _ hM ?_ (by simp)
  intro j hj
  have h2 := heap_alloc_new w (.cells #[.int .i64 p, .int .i64 q] 3)
  have : j = 0 ∨ j = 1 := by simp at hj; omega
  rcases this with rfl | rfl
  · exact at_cell h2 0 _ rfl
  · exact at_cell h2 1 _ rfl
theorem inn1 (np : Nat) (p : Int) : inn np [p] = if 0 ≤ p ∧ p < np then 0 else 11 := by
  unfold inn
  by_cases h : 0 ≤ p ∧ p < np
  · rw [if_pos h, if_pos]
    intro j hj
    obtain rfl : j = 0 := by simpa using hj
    exact h
  · rw [if_neg h, if_neg]
    intro k
    exact h (k 0 (by simp))
theorem inn2 (np : Nat) (p q : Int) : inn np [p, q] = if (0 ≤ p ∧ p < np) ∧ 0 ≤ q ∧ q < np then 0 else 11 := by
  unfold inn
  by_cases h : (0 ≤ p ∧ p < np) ∧ 0 ≤ q ∧ q < np
  · rw [if_pos h, if_pos]
    intro j hj
    have : j = 0 ∨ j = 1 := by simp at hj; omega
    rcases this with rfl | rfl
    · exact h.1
    · exact h.2
  · rw [if_neg h, if_neg]
    intro k
    exact h ⟨k 0 (by simp), k 1 (by simp)⟩

/-- what Put answers and leaves -/
def putR (np : Nat) (F : Nat → Nat) (p f : Int) : Int × (Nat → Nat) :=
  if ¬ (0 ≤ p ∧ p < np) then (11, F) else if f < 0 ∨ 2147483648 ≤ f then (5, F) else if F p.toNat ≠ 0 then (13, F) else (0, turn F p.toNat (f.toNat + 1))
set_option maxRecDepth 100000 in
set_option maxHeartbeats 1000000 in
theorem put_mp (S : Nat → Prop) (b np : Nat) (F : Nat → Nat) (w : World) (hM : Mp S b np F w) (p f : Int) :
    Calls Try.prog 106 #[.pointer (some ⟨b, 0, none⟩), .int .i64 p, .int .i64 f] w fun e w' => e = .returned (.int .i64 (putR np F p f).1) ∧ Did S b np (putR np F p f).2 w w' := by
  have Hin := Lib.hid (in1_mp S b np F w hM p _ (inn1 np p))
  have Hb := Lib.hid (below_new w (.cells #[.int .i64 p] 3))
  have HM := Lib.hid hM
  clear hM
  unfold putR
  by_cases h1 : 0 ≤ p ∧ p < np
  · rw [if_neg (Classical.not_not.2 h1)]
    rw [if_pos h1] at Hin
    obtain ⟨p, rfl⟩ : ∃ q : Nat, p = q := ⟨p.toNat, by omega⟩
    rw [Int.toNat_natCast]
    have hp : p < np := by omega
    clear h1
    by_cases h2 : f < 0 ∨ 2147483648 ≤ f
    · rw [if_pos h2]
      rcases h2 with h2 | h2
      · go_enter Try.func106, Try.ntmps106
        go_wp2_with (go_at_call 145; refine Hin.out.mono ?_; rintro e w1 ⟨rfl, rfl⟩)
        go_ret
        exact ⟨rfl, Did.of HM.out Hb.out⟩
      · have h0 : ¬ f < 0 := by omega
        go_enter Try.func106, Try.ntmps106
        go_wp2_with (go_at_call 145; refine Hin.out.mono ?_; rintro e w1 ⟨rfl, rfl⟩)
        go_ret
        exact ⟨rfl, Did.of HM.out Hb.out⟩
    · rw [if_neg h2]
      have h3 : ¬ f < 0 := by omega
      have h4 : ¬ 2147483648 ≤ f := by omega
      have h5 : f < 2147483648 := by omega
      have h6 : 0 ≤ f := by omega
      have HM1 := Lib.hid (HM.out.grow Hb.out)
      have Hget := Lib.hid (get_mp S b np F _ HM1.out p hp)
      clear h2
      by_cases h7 : F p ≠ 0
      · rw [if_pos h7]
        have h8 : ¬ (F p : Int) = 0 := by omega
        generalize F p = x at *
        clear h7
        go_enter Try.func106, Try.ntmps106
        go_wp2_with (first | (go_at_call 145; refine Hin.out.mono ?_; rintro e w1 ⟨rfl, rfl⟩) | (go_at_call 146; refine Hget.out.mono ?_; rintro e w1 ⟨rfl, rfl⟩))
        go_ret
        exact ⟨rfl, Did.of HM.out Hb.out⟩
      · rw [if_neg h7]
        have hF : F p = 0 := Classical.not_not.1 h7
        rw [hF] at Hget
        have Hset := set_mp S b np F _ HM1.out p (f.toNat + 1) hp (by omega) (by omega)
        rw [show ((f.toNat + 1 : Nat) : Int) = f + 1 by omega] at Hset
        replace Hset := Lib.hid Hset
        clear h7 hF
        go_enter Try.func106, Try.ntmps106
        go_wp2_with (first | (go_at_call 145; refine Hin.out.mono ?_; rintro e w1 ⟨rfl, rfl⟩) | (go_at_call 146; refine Hget.out.mono ?_; rintro e w1 ⟨rfl, rfl⟩) | (go_at_call 149; refine Hset.out.mono ?_; rintro e w1 ⟨rfl, hd⟩; have Hd := Lib.hid hd; clear hd))
        go_ret
        exact ⟨rfl, Did.after Hb.out Hd.out⟩
  · rw [if_pos h1]
    rw [if_neg h1] at Hin
    clear h1
    go_enter Try.func106, Try.ntmps106
    go_wp2_with (go_at_call 145; refine Hin.out.mono ?_; rintro e w1 ⟨rfl, rfl⟩)
    go_ret
    exact ⟨rfl, Did.of HM.out Hb.out⟩
end Go.Proofs.Ytkcijlndblbidaa.Pg

/- The walks of Frame, Drop, Move at a map whose blocks are among S. -/
namespace Go.Proofs.Ytkcijlndblbidaa.Pg
open Go.ChangeShapes Go.WideShapes Go.ChangeAt Go.RowKit
set_option linter.unusedVariables false

/-- what Frame answers -/
def frameR (np : Nat) (F : Nat → Nat) (p : Int) : Int × Int :=
  if ¬ (0 ≤ p ∧ p < np) then (0, 11) else if F p.toNat = 0 then (0, 12) else ((F p.toNat : Int) - 1, 0)
set_option maxRecDepth 100000 in
set_option maxHeartbeats 1000000 in
theorem frame_mp (S : Nat → Prop) (b np : Nat) (F : Nat → Nat) (w : World) (hM : Mp S b np F w) (p : Int) :
    Calls Try.prog 104 #[.pointer (some ⟨b, 0, none⟩), .int .i64 p] w fun e w' => e = .returned (.tuple #[.int .i64 (frameR np F p).1, .int .i64 (frameR np F p).2]) ∧ Below w.heap.size w w' := by
  have Hin := Lib.hid (in1_mp S b np F w hM p _ (inn1 np p))
  have Hb := Lib.hid (below_new w (.cells #[.int .i64 p] 3))
  have HM1 := Lib.hid (hM.grow Hb.out)
  unfold frameR
  by_cases h1 : 0 ≤ p ∧ p < np
  · rw [if_neg (Classical.not_not.2 h1)]
    rw [if_pos h1] at Hin
    obtain ⟨p, rfl⟩ : ∃ q : Nat, p = q := ⟨p.toNat, by omega⟩
    rw [Int.toNat_natCast]
    have hp : p < np := by omega
    clear h1
    have Hget := Lib.hid (get_mp S b np F _ HM1.out p hp)
    have hsm : F p < 4294967296 := by
      obtain ⟨_, _, hm, _⟩ := hM
      exact hm.small p
    clear hM
    by_cases h7 : F p = 0
    · rw [if_pos h7]
      rw [h7] at Hget
      clear h7 hsm
      go_enter Try.func104, Try.ntmps104
      go_wp2_with (first | (go_at_call 145; refine Hin.out.mono ?_; rintro e w1 ⟨rfl, rfl⟩) | (go_at_call 146; refine Hget.out.mono ?_; rintro e w1 ⟨rfl, rfl⟩))
      go_ret2
      exact ⟨rfl, Hb.out⟩
    · rw [if_neg h7]
      obtain ⟨x, hx⟩ : ∃ x : Int, x = F p := ⟨_, rfl⟩
      rw [← hx] at Hget
      rw [← hx]
      have h8 : ¬ x = 0 := by omega
      have h9 : 0 ≤ x := by omega
      have h10 : x ≤ 10000000000 := by omega
      clear h7 hx hsm
      go_enter Try.func104, Try.ntmps104
      go_wp2_with (first | (go_at_call 145; refine Hin.out.mono ?_; rintro e w1 ⟨rfl, rfl⟩) | (go_at_call 146; refine Hget.out.mono ?_; rintro e w1 ⟨rfl, rfl⟩))
      go_ret2
      exact ⟨rfl, Hb.out⟩
  · rw [if_pos h1]
    rw [if_neg h1] at Hin
    clear h1 hM
    go_enter Try.func104, Try.ntmps104
    go_wp2_with (go_at_call 145; refine Hin.out.mono ?_; rintro e w1 ⟨rfl, rfl⟩)
    go_ret2
    exact ⟨rfl, Hb.out⟩

/-- what Drop leaves -/
def dropF (np : Nat) (F : Nat → Nat) (p : Int) : Nat → Nat := if (frameR np F p).2 = 0 then turn F p.toNat 0 else F
set_option maxRecDepth 100000 in
set_option maxHeartbeats 1000000 in
theorem drop_mp (S : Nat → Prop) (b np : Nat) (F : Nat → Nat) (w : World) (hM : Mp S b np F w) (p : Int) :
    Calls Try.prog 107 #[.pointer (some ⟨b, 0, none⟩), .int .i64 p] w fun e w' => e = .returned (.tuple #[.int .i64 (frameR np F p).1, .int .i64 (frameR np F p).2]) ∧ Did S b np (dropF np F p) w w' := by
  have HF := Lib.hid (frame_mp S b np F w hM p)
  have HM := Lib.hid hM
  clear hM
  unfold dropF
  by_cases h : (frameR np F p).2 = 0
  · rw [if_pos h]
    have h2 : (0 ≤ p ∧ p < np) ∧ F p.toNat ≠ 0 := by
      unfold frameR at h
      by_cases h1 : 0 ≤ p ∧ p < np
      · rw [if_neg (Classical.not_not.2 h1)] at h
        by_cases h2 : F p.toNat = 0
        · rw [if_pos h2] at h; cases h
        · exact ⟨h1, h2⟩
      · rw [if_pos h1] at h; cases h
    obtain ⟨⟨h3, h4⟩, h5⟩ := h2
    obtain ⟨p, rfl⟩ : ∃ q : Nat, p = q := ⟨p.toNat, by omega⟩
    rw [Int.toNat_natCast] at *
    have Hset := Lib.hid fun W hW => set_mp S b np F W hW p 0 (by omega) (by omega) (by simpa using h5)
    rw [h] at HF
    rw [h]
    generalize (frameR np F p).1 = x at *
    clear h h3 h4 h5
    go_enter Try.func107, Try.ntmps107
    go_wp2_with (first | (go_at_call 104; refine HF.out.mono ?_; rintro e w1 ⟨rfl, hb⟩; have Hb := Lib.hid hb; clear hb) | (go_at_call 149; refine (Hset.out _ (HM.out.grow Hb.out)).mono ?_; rintro e w2 ⟨rfl, hd⟩; have Hd := Lib.hid hd; clear hd))
    go_ret2
    exact ⟨rfl, Did.after Hb.out Hd.out⟩
  · rw [if_neg h]
    obtain ⟨y, hy⟩ : ∃ y, (frameR np F p).2 = y := ⟨_, rfl⟩
    rw [hy] at HF h
    rw [hy]
    generalize (frameR np F p).1 = x at *
    clear hy
    go_enter Try.func107, Try.ntmps107
    go_wp2_with (first | (go_at_call 104; refine HF.out.mono ?_; rintro e w1 ⟨rfl, hb⟩; have Hb := Lib.hid hb; clear hb))
    go_ret2
    exact ⟨rfl, Did.of HM.out Hb.out⟩

/-- what Move answers and leaves -/
def moveR (np : Nat) (F : Nat → Nat) (p q : Int) : Int × (Nat → Nat) :=
  if ¬ ((0 ≤ p ∧ p < np) ∧ 0 ≤ q ∧ q < np) then (11, F) else if F p.toNat = 0 then (12, F) else if F q.toNat ≠ 0 then (13, F) else (0, turn (turn F p.toNat 0) q.toNat (F p.toNat))
set_option maxRecDepth 100000 in
set_option maxHeartbeats 2000000 in
theorem move_mp (S : Nat → Prop) (b np : Nat) (F : Nat → Nat) (w : World) (hM : Mp S b np F w) (p q : Int) :
    Calls Try.prog 109 #[.pointer (some ⟨b, 0, none⟩), .int .i64 p, .int .i64 q] w fun e w' => e = .returned (.int .i64 (moveR np F p q).1) ∧ Did S b np (moveR np F p q).2 w w' := by
  have Hin := Lib.hid (in2_mp S b np F w hM p q _ (inn2 np p q))
  have Hb := Lib.hid (below_new w (.cells #[.int .i64 p, .int .i64 q] 3))
  have HM1 := Lib.hid (hM.grow Hb.out)
  have HM := Lib.hid hM
  unfold moveR
  by_cases h1 : (0 ≤ p ∧ p < np) ∧ 0 ≤ q ∧ q < np
  · rw [if_neg (Classical.not_not.2 h1)]
    rw [if_pos h1] at Hin
    obtain ⟨p, rfl⟩ : ∃ q : Nat, p = q := ⟨p.toNat, by omega⟩
    obtain ⟨q, rfl⟩ : ∃ x : Nat, q = x := ⟨q.toNat, by omega⟩
    rw [Int.toNat_natCast, Int.toNat_natCast]
    have hp : p < np := by omega
    have hq : q < np := by omega
    clear h1
    have Hgp := Lib.hid (get_mp S b np F _ HM1.out p hp)
    have Hgq := Lib.hid (get_mp S b np F _ HM1.out q hq)
    have hsm : F p < 4294967296 := by
      obtain ⟨_, _, hm, _⟩ := hM
      exact hm.small p
    clear hM
    by_cases h7 : F p = 0
    · rw [if_pos h7]
      rw [h7] at Hgp
      clear h7 hsm
      go_enter Try.func109, Try.ntmps109
      go_wp2_with (first | (go_at_call 145; refine Hin.out.mono ?_; rintro e w1 ⟨rfl, rfl⟩) | (go_at_call 146; refine Hgp.out.mono ?_; rintro e w1 ⟨rfl, rfl⟩))
      go_ret
      exact ⟨rfl, Did.of HM.out Hb.out⟩
    · rw [if_neg h7]
      have h8 : ¬ (F p : Int) = 0 := by omega
      by_cases h9 : F q ≠ 0
      · rw [if_pos h9]
        have h10 : ¬ (F q : Int) = 0 := by omega
        generalize (F p : Int) = x at *
        generalize (F q : Int) = y at *
        clear h7 h9 hsm
        go_enter Try.func109, Try.ntmps109
        go_wp2_with (first | (go_at_call 145; refine Hin.out.mono ?_; rintro e w1 ⟨rfl, rfl⟩) | (go_at_call 146; refine Hgp.out.mono ?_; rintro e w1 ⟨rfl, rfl⟩; clear Hgp) | (go_at_call 146; refine Hgq.out.mono ?_; rintro e w1 ⟨rfl, rfl⟩))
        go_ret
        exact ⟨rfl, Did.of HM.out Hb.out⟩
      · rw [if_neg h9]
        have hF : F q = 0 := Classical.not_not.1 h9
        rw [hF] at Hgq
        have hpq : q ≠ p := by rintro rfl; exact h7 hF
        have Hs1 := set_mp S b np F _ HM1.out p 0 hp (by omega) (by simpa using h7)
        have Hs2 : ∀ S' W, Mp S' b np (turn F p 0) W → _ := fun S' W hW => set_mp S' b np (turn F p 0) W hW q (F p) hq hsm (by
          have : turn F p 0 q = F q := if_neg hpq
          rw [this, hF]; omega)
        obtain ⟨x, hx⟩ : ∃ x : Int, x = F p := ⟨_, rfl⟩
        rw [← hx] at Hgp h8
        simp only [← hx] at Hs2
        replace Hs1 := Lib.hid Hs1
        replace Hs2 := Lib.hid Hs2
        clear h9 hF h7 hsm hx
        have Hgp2 := Lib.hid Hgp.out
        go_enter Try.func109, Try.ntmps109
        go_wp2_with (first | (go_at_call 145; refine Hin.out.mono ?_; rintro e w1 ⟨rfl, rfl⟩) | (go_at_call 146; refine Hgp.out.mono ?_; rintro e w1 ⟨rfl, rfl⟩; clear Hgp) | (go_at_call 146; refine Hgq.out.mono ?_; rintro e w1 ⟨rfl, rfl⟩; clear Hgq) | (go_at_call 146; refine Hgp2.out.mono ?_; rintro e w1 ⟨rfl, rfl⟩; clear Hgp2) | (go_at_call 149; refine Hs1.out.mono ?_; rintro e w2 ⟨rfl, S1, m1, c1, g1⟩; have M1 := Lib.hid m1; have C1 := Lib.hid c1; have G1 := Lib.hid g1; clear m1 c1 g1 Hs1) | (go_at_call 149; refine (Hs2.out _ _ M1.out).mono ?_; rintro e w3 ⟨rfl, hd⟩; have Hd := Lib.hid hd; clear hd))
        go_ret
        exact ⟨rfl, Did.after Hb.out (Did.then C1.out G1.out Hd.out)⟩
  · rw [if_pos h1]
    rw [if_neg h1] at Hin
    clear h1 hM
    go_enter Try.func109, Try.ntmps109
    go_wp2_with (go_at_call 145; refine Hin.out.mono ?_; rintro e w1 ⟨rfl, rfl⟩)
    go_ret
    exact ⟨rfl, Did.of HM.out Hb.out⟩
end Go.Proofs.Ytkcijlndblbidaa.Pg

/- The walks of New and Len. -/
namespace Go.Proofs.Ytkcijlndblbidaa.Pg
open Go.ChangeShapes Go.WideShapes Go.ChangeAt Go.RowKit
set_option linter.unusedVariables false

theorem ptr_info : (Try.prog.info? 228).map (fun i => (i.zero, i.size, i.bytes)) = some (some (.pointer none), 1, 8) := by kernel_rfl
def nils (n : Nat) : Array Value := ((List.replicate n (none : Option Nat)).map ptr).toArray
theorem made_ptrs (n : Nat) : madeCells (Value.pointer none).cells (n * 1) = nils n := by
  apply Array.toList_inj.1
  rw [Nat.mul_one]
  show (madeCells #[Value.pointer none] n).toList = _
  rw [toList_madeCells_one]
  simp [nils, ptr]
theorem sum_zeros (m : Nat) : sumF (fun _ => 0) m = 0 := by
  induction m with
  | zero => rfl
  | succ m ih => simp [sumF, ih, cnt_zeros]
theorem new_no (n : Int) (w : World) (h : n < 1 ∨ 524288 < n) :
    Calls Try.prog 98 #[.int .i64 n] w fun e w' => e = .returned (.tuple #[.pointer none, .int .i64 5]) ∧ w = w' := by
  rcases h with h | h
  · go_enter Try.func98, Try.ntmps98
    go_wp2
    go_ret2
    exact ⟨rfl, rfl⟩
  · have h1 : ¬ n < 1 := by omega
    go_enter Try.func98, Try.ntmps98
    go_wp2
    go_ret2
    exact ⟨rfl, rfl⟩
set_option maxRecDepth 100000 in
theorem new_yes (np : Nat) (w : World) (h1 : 1 ≤ np) (h2 : np ≤ 524288) :
    Calls Try.prog 98 #[.int .i64 np] w fun e w' => e = .returned (.tuple #[.pointer (some ⟨w.heap.size + 1, 0, none⟩), .int .i64 0]) ∧ (∃ S, Mp S (w.heap.size + 1) np (fun _ => 0) w' ∧ Up w.heap.size S) ∧ Below w.heap.size w w' := by
  obtain ⟨i0, hi, hz0, hz1, hz2⟩ := info_parts ptr_info
  obtain ⟨nt, hnt⟩ : ∃ nt, nt = (np + 255) / 256 := ⟨_, rfl⟩
  have hmk : ∀ W : World, (Instr.makeSlice 207 (.int .i64 (nt : Int)) (.int .i64 (nt : Int))).run Try.prog W = .ok (.slice (some ⟨W.heap.size, 0, none⟩) nt nt) (W.alloc (.cells (nils nt) 228)) := fun W => by
    have h := run_make (P := Try.prog) W 207 228 i0 (.pointer none) Try.underlying207 hi hz0 .i64 .i64 (nt : Int) (nt : Int) (by omega) (by omega) (by rw [hz2]; omega) (by omega)
    rw [hz1, Int.toNat_natCast, made_ptrs] at h
    exact h
  have hb1 := below_new w (.cells (nils nt) 228)
  have hg1 := heap_alloc_new w (.cells (nils nt) 228)
  have hsz : (w.alloc (.cells (nils nt) 228)).heap.size = w.heap.size + 1 := by simp
  have hq : ((np : Int) + 256 - 1) / 256 = nt := by omega
  have hx1 : (1 : Int) ≤ np := by omega
  have hx2 : (np : Int) ≤ 524288 := by omega
  obtain ⟨z, hz⟩ : ∃ z : Int, (np : Int) = z := ⟨_, rfl⟩
  rw [hz] at hq hx1 hx2 ⊢
  have Hz := Lib.hid hz
  have Hnt := Lib.hid hnt
  have Hb1 := Lib.hid hb1
  have Hg1 := Lib.hid hg1
  have Hsz := Lib.hid hsz
  have H2 := Lib.hid h2
  clear hb1 hg1 hsz hz hnt h1 h2
  go_enter Try.func98, Try.ntmps98
  go_wp2
  go_ret2
  have hb2 := below_new (w.alloc (.cells (nils nt) 228)) (.cells #[.slice (some ⟨w.heap.size, 0, none⟩) nt nt, .int .i64 z, .int .i64 0] 209)
  have hg2 := heap_alloc_new (w.alloc (.cells (nils nt) 228)) (.cells #[.slice (some ⟨w.heap.size, 0, none⟩) nt nt, .int .i64 z, .int .i64 0] 209)
  rw [Hsz.out] at hg2
  have hn := Hnt.out
  have h2 := H2.out
  refine ⟨by first | rfl | (rw [← Hsz.out]; rfl), ⟨fun k => k = w.heap.size ∨ k = w.heap.size + 1, ⟨w.heap.size, List.replicate nt none, ⟨?_, ?_, ?_, ?_, ?_, ?_, ?_⟩, ⟨.inr rfl, .inl rfl, ?_⟩, ?_, ?_⟩, ?_⟩, seq Hb1.out hb2⟩
  · rw [hg2, ← Hz.out, List.length_replicate, sum_zeros]; rfl
  · exact blockB hb2 (Nat.le_refl _) Hg1.out
  · rw [List.length_replicate]; omega
  · intro i hi _ j hj; rfl
  · intro i k hi hk
    simp at hi
    simp [hi] at hk
  · intro i j k hi hj hk
    simp at hi
    simp [hi] at hk
  · intro p; omega
  · intro i k hi hk
    simp at hi
    simp [hi] at hk
  · intro k hk
    simp
    omega
  · rw [List.length_replicate]; exact hn
  · intro k hk
    omega
end Go.Proofs.Ytkcijlndblbidaa.Pg
