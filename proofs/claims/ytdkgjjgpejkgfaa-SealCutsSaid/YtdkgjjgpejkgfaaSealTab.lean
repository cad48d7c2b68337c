/- The walk of seal.table: it returns the 256 remainders of the register, whatever the world. -/
import Derived.Test.YtdkgjjgpejkgfaaRows
import Derived.Test.YtdkgjjgpejkgfaaSealMath
import Derived.WalkKit
import Derived.ProofKit
import Derived.WalkLawsBesides
import Derived.WalkSpells
import Derived.Laws.Rows
import Derived.Laws.BitsAllLaws
import Derived.Below
import Derived.Outline
import Derived.Lib.Hide
namespace Go.Proofs.Ytdkgjjgpejkgfaa
open Go.ChangeShapes Go.WideShapes Go.ChangeAt Go.RowKit

def zeros256 : Array Value := Array.replicate 256 (.int .u32 0)
theorem zero_table (w : World) : (zeroValue 42).run Try.prog w = .ok (.agg zeros256) w := by kernel_rfl
theorem zeros256_size : zeros256.size = 256 := by unfold zeros256; simp

def tabArr : Array Value := Array.ofFn (n := 256) fun i => .int .u32 (Crc.stN 8 i : Nat)

/-- the table's block after k rounds -/
structure TabRow (w : World) (k : Nat) (wr : World) : Prop where
  row : ∃ cs : Array Value, wr.heap[w.heap.size + 1]? = some (.cells cs 42 (0, 0)) ∧ cs.size = 256 ∧ ∀ j, j < 256 → cs[j]? = some (.int .u32 (if j < k then Crc.stN 8 j else 0 : Nat))
  res : wr.heap[w.heap.size]? = some (.cells zeros256 42 (0, 0))
  below : Below w.heap.size w wr

theorem tabArr_size : tabArr.size = 256 := by unfold tabArr; simp
theorem tab_info : (Try.prog.info? 42).map (·.size) = some tabArr.size := by rw [tabArr_size]; kernel_rfl
theorem tab_old : zeros256.size = tabArr.size := by rw [tabArr_size, zeros256_size]
theorem tab_one : tabArr.all (·.oneCell') = true := by
  rw [Array.all_eq_true]
  intro i hi
  simp [tabArr, Value.oneCell']
theorem TabRow.done {w wr : World} (h : TabRow w 256 wr) : wr.heap[w.heap.size + 1]? = some (.cells tabArr 42 (0, 0)) := by
  obtain ⟨cs, hcs, hsz, hc⟩ := h.row
  have : cs = tabArr := by
    apply Array.ext_getElem?
    intro j
    by_cases hj : j < 256
    · rw [hc j hj, if_pos hj]
      simp [tabArr, hj]
    · rw [Array.getElem?_eq_none (by omega), Array.getElem?_eq_none (by rw [tabArr_size]; omega)]
  rw [hcs, this]
theorem tab_step (j k : Nat) (hk : k < 256) : bits BinOp.xor IntKind.u32 ((Crc.stN j k : Nat) / 2 : Int) (bits BinOp.and IntKind.u32 2197175160 (-bits BinOp.and IntKind.u32 (Crc.stN j k : Nat) 1 % 4294967296)) = (Crc.stN (j + 1) k : Nat) := by
  have hl : Crc.stN j k < 4294967296 := Crc.stN_lt (by omega)
  show _ = ((Crc.st (Crc.stN j k) : Nat) : Int)
  generalize Crc.stN j k = r at *
  rw [show (1 : Int) = ((1 : Nat) : Int) from rfl, u32_and_nat r 1 hl (by decide), nat_mask1]
  have h2 : (r : Int) / 2 = ((r / 2 : Nat) : Int) := by omega
  rw [h2]
  unfold Crc.st
  rcases Nat.mod_two_eq_zero_or_one r with x | x
  · rw [x]
    have : bits BinOp.and IntKind.u32 2197175160 (-((0 : Nat) : Int) % 4294967296) = ((0 : Nat) : Int) := u32_and_nat 2197175160 0 (by decide) (by decide)
    rw [this, u32_xor_nat _ _ (by omega) (by decide)]; simp
  · rw [x]
    have : bits BinOp.and IntKind.u32 2197175160 (-((1 : Nat) : Int) % 4294967296) = ((2197175160 : Nat) : Int) := u32_and_nat 2197175160 4294967295 (by decide) (by decide)
    rw [this, u32_xor_nat _ _ (by omega) (by decide)]; simp

theorem tab_start (w : World) : TabRow w 0 ((w.alloc (.cells zeros256 42)).alloc (.cells zeros256 42)) where
  row := ⟨zeros256, heap_alloc2_new _ _ _, zeros256_size, fun j hj => by simp [zeros256, hj]⟩
  res := heap_alloc2_old _ _ _
  below := ((Below.refl _ _).alloc (Nat.le_refl _) _).alloc (by simp) _
theorem TabRow.cell {w wr : World} {k : Nat} (h : TabRow w k wr) (hk : k < 256) : ∃ v, wr.cell? ⟨w.heap.size + 1, k, none⟩ = some v := by
  obtain ⟨cs, hcs, hsz, hc⟩ := h.row
  exact ⟨_, (cell_of_row wr _ k cs _ _ hcs).trans (hc k hk)⟩
theorem TabRow.free {w wr : World} {k : Nat} (h : TabRow w k wr) (j : Nat) : wr.frozen? ⟨w.heap.size + 1, j, none⟩ = false := by
  obtain ⟨cs, hcs, hsz, hc⟩ := h.row
  exact frozen_of_row wr _ j cs _ hcs
theorem TabRow.step {w wr : World} {k : Nat} (h : TabRow w k wr) (hk : k < 256) : TabRow w (k + 1) (wr.setCell ⟨w.heap.size + 1, k, none⟩ (.int .u32 (Crc.stN 8 k : Nat))) where
  row := by
    obtain ⟨cs, hcs, hsz, hc⟩ := h.row
    refine ⟨_, heap_setCell_same wr _ k cs _ _ hcs, by simp [hsz], fun j hj => ?_⟩
    rw [Array.getElem?_setIfInBounds]
    by_cases e : k = j
    · subst e; simp [hsz, hk]
    · rw [if_neg e, hc j hj]
      by_cases hl : j < k
      · rw [if_pos hl, if_pos (by omega)]
      · rw [if_neg hl, if_neg (by omega)]
  res := by rw [heap_setCell_other _ _ _ _ (by simp)]; exact h.res
  below := h.below.setCell (by simp) _

set_option maxRecDepth 100000 in
theorem table_any (w : World) :
    Calls Try.prog 19 #[] w fun e w' => e = .returned (.agg tabArr) ∧ Below w.heap.size w w' := by
  have hz := zero_table
  go_enter Try.func19, Try.ntmps19
  go_wp2
  go_loopw [4] (fun i wr => ∃ k : Nat, k ≤ 256 ∧ i = .int .i64 k ∧ TabRow w k wr) (fun i _ => 256 - (intOf i).toNat)
  case atStart => exact ⟨0, by omega, rfl, tab_start w⟩
  case round =>
    obtain ⟨k, hk, rfl, hT⟩ := hrel
    by_cases hlt : k < 256
    · have hi : (k : Int) < 256 := by omega
      obtain ⟨v0, hc⟩ := hT.cell hlt
      have hf := hT.free k
      have HT := Lib.hid hT; clear hT
      go_wp2
      go_loop [3, 9] (fun r i => ∃ j : Nat, j ≤ 8 ∧ i = .int .i64 j ∧ r = .int .u32 (Crc.stN j k : Nat)) (fun _ i => 8 - (intOf i).toNat)
      case atStart => exact ⟨0, by omega, rfl, rfl⟩
      case round =>
        obtain ⟨j, hj, rfl, rfl⟩ := hrel
        by_cases hjl : j < 8
        · go_wp2
          go_round
          case rel => exact ⟨j + 1, by omega, by go_num, by rw [tab_step j k hlt]⟩
          case measure => simp [intOf]; omega
        · obtain rfl : j = 8 := by omega
          go_wp2
          go_roundw
          case rel => exact ⟨k + 1, by omega, by go_num, HT.out.step hlt⟩
          case measure => simp [intOf]; omega
    · obtain rfl : k = 256 := by omega
      have hcs := hT.done
      have hres := hT.res
      have hb := hT.below
      clear hT hlt hk
      go_wp2_with (first | refine wpList_load_row rfl 42 _ rfl (w.heap.size + 1) rfl 42 tabArr (0, 0) _ hcs Try.underlying42 rfl tab_info ?_ | refine wpList_store_row rfl 42 _ _ rfl w.heap.size tabArr rfl rfl 42 zeros256 hres tab_info tab_old tab_one ?_)
      refine bodyPost_ret (v := .agg tabArr) ?_ rfl ⟨rfl, ?_⟩
      · exact results_cell_row (p := 0) (by kernel_rfl) _ _ w.heap.size 42 tabArr (0, 0) _ rfl (setRow_heap _ _ _ _ _ _ hres) Try.underlying42 rfl tab_info
      · exact hb.trans ⟨rfl, rfl, rfl, by simp, fun i hi => setRow_other wr _ i _ (by omega)⟩
end Go.Proofs.Ytdkgjjgpejkgfaa
