/- The walks of roots.Table's Get, Set, Copy and Len, at a table that was made. -/
import Derived.Test.YtdiooepnapdafaaRootsTab
namespace Go.Proofs.Ytdiooepnapdafaa
open Go.ChangeShapes Go.WideShapes Go.ChangeAt Go.RowKit

theorem Tab.drew {g b : Nat} {zs : List Int} {w : World} (h : Tab g b zs w) : Tab g b zs w.drew := ⟨h.row, h.head, h.few⟩
theorem Only.drew {b : Nat} {w w' : World} (h : Only b w w') : Only b w w'.drew := h
theorem chk_one_yes {n k : Nat} (h : k < n) : chk n [(k : Int)] = 0 := if_pos (by
  intro j hj
  obtain rfl : j = 0 := by simp at hj; omega
  simp; omega)
theorem chk_one_no {n : Nat} {i : Int} (h : i < 0 ∨ (n : Int) ≤ i) : chk n [i] = 17 := if_neg (by
  intro hh
  have := hh 0 (by simp)
  simp at this
  omega)
theorem chk_two_yes {n k j : Nat} (h : k < n) (h2 : j < n) : chk n [(k : Int), (j : Int)] = 0 := if_pos (by
  intro q hq
  obtain rfl | rfl : q = 0 ∨ q = 1 := by simp at hq; omega
  · simp; omega
  · simp; omega)
theorem chk_two_no {n : Nat} {i j : Int} (h : (i < 0 ∨ (n : Int) ≤ i) ∨ (j < 0 ∨ (n : Int) ≤ j)) : chk n [i, j] = 17 := if_neg (by
  intro hh
  have h0 := hh 0 (by simp)
  have h1 := hh 1 (by simp)
  simp at h0 h1
  omega)
/-- the check of one slot, at the block that the call has made -/
theorem check_one (g b : Nat) (zs : List Int) (i r : Int) (w : World) (hT : Tab g b zs w) (hr : chk zs.length [i] = r) :
    Calls Try.prog 20 #[.pointer (some ⟨b, 0, none⟩), .slice (some ⟨w.heap.size, 0, none⟩) 1 1] (w.alloc (.cells #[.int .i64 i] 3)) fun e w' => e = .returned (.int .i64 r) ∧ w.alloc (.cells #[.int .i64 i] 3) = w' := by
  have := check_any g b w.heap.size zs [i] _ (hT.grow (below_new w (.cells #[.int .i64 i] 3))) (fun j hj => by
    obtain rfl : j = 0 := by simp at hj; omega
    exact at_cell (heap_alloc_new w _) 0 _ rfl) (by simp)
  rw [hr] at this
  exact this
theorem check_two (g b : Nat) (zs : List Int) (i j r : Int) (w : World) (hT : Tab g b zs w) (hr : chk zs.length [i, j] = r) :
    Calls Try.prog 20 #[.pointer (some ⟨b, 0, none⟩), .slice (some ⟨w.heap.size, 0, none⟩) 2 2] (w.alloc (.cells #[.int .i64 i, .int .i64 j] 3)) fun e w' => e = .returned (.int .i64 r) ∧ w.alloc (.cells #[.int .i64 i, .int .i64 j] 3) = w' := by
  have := check_any g b w.heap.size zs [i, j] _ (hT.grow (below_new w (.cells #[.int .i64 i, .int .i64 j] 3))) (fun q hq => by
    obtain rfl | rfl : q = 0 ∨ q = 1 := by simp at hq; omega
    · exact at_cell (heap_alloc_new w _) 0 _ rfl
    · exact at_cell (heap_alloc_new w _) 1 _ rfl) (by simp)
  rw [hr] at this
  exact this

theorem get_yes (g b : Nat) (zs : List Int) (k : Nat) (w : World) (hT : Tab g b zs w) (hk : k < zs.length) :
    Calls Try.prog 14 #[.pointer (some ⟨b, 0, none⟩), .int .i64 k] w fun e w' => e = .returned (.tuple #[.int .i64 (zs.getD k 0), .int .i64 0]) ∧ Below w.heap.size w w' := by
  have hc := check_one g b zs k 0 w hT (chk_one_yes hk)
  have hb := below_new w (.cells #[.int .i64 (k : Int)] 3)
  have hT2 := hT.grow hb
  have hfew := hT.few
  have c0 := at_cell hT2.head 0 _ rfl
  have c1 := hT2.row.cell hk
  have Hc := Lib.hid hc
  clear hc hT hT2
  generalize zs.getD k 0 = x at *
  go_enter Try.func14, Try.ntmps14
  go_wp2_with (go_at_call 20; refine Hc.out.mono ?_; rintro e w1 ⟨rfl, rfl⟩; clear Hc)
  go_ret2
  exact ⟨rfl, hb⟩
theorem get_no (g b : Nat) (zs : List Int) (i : Int) (w : World) (hT : Tab g b zs w) (hi : i < 0 ∨ (zs.length : Int) ≤ i) :
    Calls Try.prog 14 #[.pointer (some ⟨b, 0, none⟩), .int .i64 i] w fun e w' => e = .returned (.tuple #[.int .i64 0, .int .i64 17]) ∧ Below w.heap.size w w' := by
  have hc := check_one g b zs i 17 w hT (chk_one_no hi)
  have hb := below_new w (.cells #[.int .i64 i] 3)
  have Hc := Lib.hid hc
  clear hc hT
  go_enter Try.func14, Try.ntmps14
  go_wp2_with (go_at_call 20; refine Hc.out.mono ?_; rintro e w1 ⟨rfl, rfl⟩; clear Hc)
  go_ret2
  exact ⟨rfl, hb⟩
theorem set_yes (g b : Nat) (zs : List Int) (k : Nat) (v : Int) (w : World) (hT : Tab g b zs w) (hk : k < zs.length) (hv : 0 ≤ v) :
    Calls Try.prog 7 #[.pointer (some ⟨b, 0, none⟩), .int .i64 k, .int .i64 v] w fun e w' => e = .returned (.int .i64 0) ∧ Tab g b (zs.set k v) w' ∧ Only g w w' := by
  have hc := check_one g b zs k 0 w hT (chk_one_yes hk)
  have hb := below_new w (.cells #[.int .i64 (k : Int)] 3)
  have hT2 := hT.grow hb
  have hfew := hT.few
  have c0 := at_cell hT2.head 0 _ rfl
  have c1 := hT2.row.cell hk
  have f1 := hT2.row.free k
  have Hc := Lib.hid hc
  have HT := Lib.hid hT2
  clear hc hT hT2
  go_enter Try.func7, Try.ntmps7
  go_wp2_with (go_at_call 20; refine Hc.out.mono ?_; rintro e w1 ⟨rfl, rfl⟩; clear Hc)
  go_ret
  exact ⟨rfl, HT.out.set k v, Only.set hb _ _⟩
theorem set_neg (g b : Nat) (zs : List Int) (k : Nat) (v : Int) (w : World) (hT : Tab g b zs w) (hk : k < zs.length) (hv : v < 0) :
    Calls Try.prog 7 #[.pointer (some ⟨b, 0, none⟩), .int .i64 k, .int .i64 v] w fun e w' => e = .returned (.int .i64 5) ∧ Below w.heap.size w w' := by
  have hc := check_one g b zs k 0 w hT (chk_one_yes hk)
  have hb := below_new w (.cells #[.int .i64 (k : Int)] 3)
  have Hc := Lib.hid hc
  clear hc hT
  go_enter Try.func7, Try.ntmps7
  go_wp2_with (go_at_call 20; refine Hc.out.mono ?_; rintro e w1 ⟨rfl, rfl⟩; clear Hc)
  go_ret
  exact ⟨rfl, hb⟩
theorem set_no (g b : Nat) (zs : List Int) (i v : Int) (w : World) (hT : Tab g b zs w) (hi : i < 0 ∨ (zs.length : Int) ≤ i) :
    Calls Try.prog 7 #[.pointer (some ⟨b, 0, none⟩), .int .i64 i, .int .i64 v] w fun e w' => e = .returned (.int .i64 17) ∧ Below w.heap.size w w' := by
  have hc := check_one g b zs i 17 w hT (chk_one_no hi)
  have hb := below_new w (.cells #[.int .i64 i] 3)
  have Hc := Lib.hid hc
  clear hc hT
  go_enter Try.func7, Try.ntmps7
  go_wp2_with (go_at_call 20; refine Hc.out.mono ?_; rintro e w1 ⟨rfl, rfl⟩; clear Hc)
  go_ret
  exact ⟨rfl, hb⟩
theorem copy_no (g b : Nat) (zs : List Int) (i j : Int) (w : World) (hT : Tab g b zs w) (hi : (i < 0 ∨ (zs.length : Int) ≤ i) ∨ (j < 0 ∨ (zs.length : Int) ≤ j)) :
    Calls Try.prog 9 #[.pointer (some ⟨b, 0, none⟩), .int .i64 i, .int .i64 j] w fun e w' => e = .returned (.int .i64 17) ∧ Below w.heap.size w w' := by
  have hc := check_two g b zs i j 17 w hT (chk_two_no hi)
  have hb := below_new w (.cells #[.int .i64 i, .int .i64 j] 3)
  have Hc := Lib.hid hc
  clear hc hT
  go_enter Try.func9, Try.ntmps9
  go_wp2_with (go_at_call 20; refine Hc.out.mono ?_; rintro e w1 ⟨rfl, rfl⟩; clear Hc)
  go_ret
  exact ⟨rfl, hb⟩
set_option maxHeartbeats 1000000 in
theorem copy_yes (g b : Nat) (zs : List Int) (k j : Nat) (w : World) (hT : Tab g b zs w) (hk : k < zs.length) (hj : j < zs.length) :
    Calls Try.prog 9 #[.pointer (some ⟨b, 0, none⟩), .int .i64 k, .int .i64 j] w fun e w' => e = .returned (.int .i64 0) ∧ Tab g b (zs.set k (zs.getD j 0)) w' ∧ Only g w w' := by
  have hc := check_two g b zs k j 0 w hT (chk_two_yes hk hj)
  have hb := below_new w (.cells #[.int .i64 (k : Int), .int .i64 (j : Int)] 3)
  have hT2 := hT.grow hb
  have hfew := hT.few
  have Hc := Lib.hid hc
  obtain ⟨W, hW⟩ : ∃ W, w.alloc (.cells #[.int .i64 (k : Int), .int .i64 (j : Int)] 3) = W := ⟨_, rfl⟩
  rw [hW] at hb hT2 Hc
  have HW := Lib.hid hW
  have c0 := at_cell hT2.head 0 _ rfl
  have c1 := hT2.row.cell hj
  have f1 := hT2.row.free k
  have c2 := hT2.row.cell hk
  have HT := Lib.hid hT2
  clear hc hT hT2 hW
  generalize zs.getD j 0 = x at *
  go_enter Try.func9, Try.ntmps9
  go_wp2_with (go_at_call 20; rw [HW.out]; refine Hc.out.mono ?_; rintro e w1 ⟨rfl, rfl⟩; clear Hc)
  go_region
  all_goals
    go_wp2
    go_ret
    exact ⟨rfl, (HT.out.set k _).drew, (Only.set hb _ _).drew⟩
theorem len_any (g b : Nat) (zs : List Int) (w : World) (hT : Tab g b zs w) :
    Calls Try.prog 18 #[.pointer (some ⟨b, 0, none⟩)] w fun e w' => e = .returned (.int .i64 zs.length) ∧ w = w' := by
  have c0 := at_cell hT.head 0 _ rfl
  have hfew := hT.few
  clear hT
  go_enter Try.func18, Try.ntmps18
  go_wp2
  go_ret
  exact ⟨rfl, rfl⟩
end Go.Proofs.Ytdiooepnapdafaa
