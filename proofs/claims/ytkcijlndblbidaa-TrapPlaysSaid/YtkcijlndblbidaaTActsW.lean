/- The acts of TrapPlays, as the reference has them. -/
import Derived.Test.YtkcijlndblbidaaTUndoesW
import Derived.Test.YtkcijlndblbidaaWGrow
namespace Go.Proofs.Ytkcijlndblbidaa
open Go.ChangeShapes Go.WideShapes Go.ChangeAt Go.RowKit
set_option linter.unusedVariables false

structure RA where
  k : Nat
  a : Int
  w : Nat
  e : Int
instance : Inhabited RA := ⟨⟨0, 0, 0, 0⟩⟩
def kindR (x : Nat) : Nat := [0, 0, 0, 0, 0, 0, 1, 1, 1, 1, 2, 3, 3, 4, 4, 9].getD (x % 16) 0
def toRA (p : A10.Act) : RA := ⟨kindR p.f0, p.f1, p.f2, p.f3⟩
def RA.cells (x : RA) : List Value := [.int .i64 x.k, .int .i64 x.a, .int .u64 x.w, .int .i64 x.e]
def racells (l : List RA) : List Value := l.flatMap RA.cells
theorem racells_snoc (l : List RA) (x : RA) : racells (l ++ [x]) = racells l ++ x.cells := by simp [racells]
theorem racells_get (l : List RA) (i j : Nat) (hi : i < l.length) (hj : j < 4) : (racells l)[i * 4 + j]? = (l.getD i default).cells[j]? := by
  induction l generalizing i with
  | nil => simp at hi
  | cons x l ih =>
    show (x.cells ++ racells l)[i * 4 + j]? = _
    cases i with
    | zero =>
      rw [List.getElem?_append_left (by simp [RA.cells]; omega)]
      simp
    | succ i =>
      rw [List.getElem?_append_right (by simp [RA.cells]; omega)]
      rw [show (i + 1) * 4 + j - x.cells.length = i * 4 + j by simp [RA.cells]; omega]
      rw [ih i (by simpa using hi)]
      simp
theorem ract_info : (Try.prog.info? 179).map (fun i => (i.zero, i.size, i.bytes)) = some (some (.agg #[.int .i64 0, .int .i64 0, .int .u64 0, .int .i64 0]), 4, 32) := by kernel_rfl
def kindsV : Array Value := #[.int .i64 0, .int .i64 0, .int .i64 0, .int .i64 0, .int .i64 0, .int .i64 0, .int .i64 1, .int .i64 1, .int .i64 1, .int .i64 1, .int .i64 2, .int .i64 3, .int .i64 3, .int .i64 4, .int .i64 4, .int .i64 9]
theorem kindsV_get (x : Nat) : kindsV[x % 16]? = some (.int .i64 (kindR x)) := by
  unfold kindR
  have h : x % 16 < 16 := Nat.mod_lt _ (by omega)
  generalize x % 16 = r at *
  have : r = 0 ∨ r = 1 ∨ r = 2 ∨ r = 3 ∨ r = 4 ∨ r = 5 ∨ r = 6 ∨ r = 7 ∨ r = 8 ∨ r = 9 ∨ r = 10 ∨ r = 11 ∨ r = 12 ∨ r = 13 ∨ r = 14 ∨ r = 15 := by omega
  rcases this with rfl | rfl | rfl | rfl | rfl | rfl | rfl | rfl | rfl | rfl | rfl | rfl | rfl | rfl | rfl | rfl <;> rfl
theorem kindR_le (x : Nat) : kindR x ≤ 9 := by
  unfold kindR
  have h : x % 16 < 16 := Nat.mod_lt _ (by omega)
  generalize x % 16 = r at *
  have : r = 0 ∨ r = 1 ∨ r = 2 ∨ r = 3 ∨ r = 4 ∨ r = 5 ∨ r = 6 ∨ r = 7 ∨ r = 8 ∨ r = 9 ∨ r = 10 ∨ r = 11 ∨ r = 12 ∨ r = 13 ∨ r = 14 ∨ r = 15 := by omega
  rcases this with rfl | rfl | rfl | rfl | rfl | rfl | rfl | rfl | rfl | rfl | rfl | rfl | rfl | rfl | rfl | rfl <;> decide
section
variable {W0 w w' : World} {m n t : Nat} {g : Nat → Nat} {K : List (Nat × Obj)}
set_option maxRecDepth 100000 in
set_option maxHeartbeats 4000000 in
theorem acts_fk (h : FK W0 m n t g K w) (a : Option Addr) (ps : List A10.Act) (cap : Nat) (hA : A10.Acts W0 a ps) (hl : ps.length ≤ 150) :
    Calls Try.prog 51 #[.slice a ps.length cap] w fun e w' => ∃ al cap', e = .returned (.slice al ps.length cap') ∧ GR W0 m n t g K 179 4 ps.length (racells (ps.map toRA)) al cap' w' := by
  obtain ⟨i1, hj, hy0, hy1, hy2⟩ := info_parts ract_info
  have HA := Lib.hid hA
  have H := Lib.hid (h.box kindsV 181)
  unfold kindsV at H
  have l1 : (ps.length : Int) ≤ 150 := by omega
  clear h hA
  go_enter Try.func51, Try.ntmps51
  go_wp2_with (fail)
  obtain ⟨TB, hTB⟩ : ∃ TB, w.heap.size = TB := ⟨_, rfl⟩
  rw [hTB] at H ⊢
  go_loopw [4, 10] (fun r i wr => ∃ (k : Nat) (al : Option Addr) (cap2 : Nat), r = .slice al k cap2 ∧ i = .int .i64 k ∧ k ≤ ps.length ∧ GR W0 m n t g ((TB, .cells kindsV 181 (0, 0)) :: K) 179 4 k (racells ((ps.take k).map toRA)) al cap2 wr) (fun _ i _ => ps.length - (intOf i).toNat)
  case atStart => exact ⟨0, none, 0, rfl, rfl, by omega, GR.none' H.out _ _⟩
  case round =>
    clear H hTB
    obtain ⟨k, al, cap2, rfl, rfl, hk, hF⟩ := hrel
    by_cases hlt : k < ps.length
    · obtain ⟨b1, off, ha, hc⟩ := (HA.out.below hF.below).cell
      obtain rfl : a = some ⟨b1, off, none⟩ := by
        rcases ha with rfl | e
        · simp at hlt
        · exact e
      obtain ⟨c0, c1, c2, c3⟩ := hc k hlt
      have hok := (HA.out.each k hlt)
      have htake : ps.take (k + 1) = ps.take k ++ [ps.getD k default] := by
        rw [List.take_add_one, List.getElem?_eq_getElem hlt, List.getD_eq_getElem?_getD, List.getElem?_eq_getElem hlt]
        rfl
      clear ha hc
      generalize ps.getD k default = x at *
      obtain ⟨x0, x1, x2, x3⟩ := x
      simp only at *
      have hx0 : x0 < 256 := hok.1
      have hbx := hF.box #[.int .u8 x0, .int .i64 x1, .int .u64 x2, .int .i64 x3] 93
      have hq := hbx.block (List.mem_cons_self ..)
      have d0 := at_cell hq 0 (.int .u8 x0) rfl
      have d1 := at_cell hq 1 (.int .i64 x1) rfl
      have d2 := at_cell hq 2 (.int .u64 x2) rfl
      have d3 := at_cell hq 3 (.int .i64 x3) rfl
      have dt := at_cell (hbx.block (X := TB) (o := .cells kindsV 181 (0, 0)) (by simp)) (x0 % 16) _ (kindsV_get x0)
      obtain ⟨r, hr⟩ : ∃ r, x0 % 16 = r := ⟨_, rfl⟩
      have hr16 : r < 16 := by omega
      rw [hr] at dt
      have m1 : ((x0 : Int)).tmod 16 = r := by rw [Int.tmod_eq_emod_of_nonneg (by omega)]; omega
      have m2 : IntKind.u8.wrap (r : Int) = r := by rw [IntKind.wrap_u8]; omega
      have m3 : (r : Int) < 16 := by omega
      have m4 : (0 : Int) ≤ r := by omega
      obtain ⟨kd, hkd⟩ : ∃ kd, kindR x0 = kd := ⟨_, rfl⟩
      rw [hkd] at dt
      have hlow := hbx.below.size
      have HB := Lib.hid (hbx.grow (below_drew _))
      have Htake := Lib.hid htake
      have Hkd := Lib.hid hkd
      have Hr := Lib.hid hr
      have k1 : (k : Int) < ps.length := by omega
      have k2 : (0 : Int) ≤ k := by omega
      have k3 : ((k : Int)).toNat = k := by omega
      clear hF hbx hq hok htake hkd hr
      go_wp2_with (fail)
      obtain ⟨bx, hbx⟩ : ∃ bx, wr.heap.size = bx := ⟨_, rfl⟩
      rw [hbx] at HB d0 d1 d2 d3 ⊢
      clear hbx
      generalize wr.alloc (.cells #[.int .u8 x0, .int .i64 x1, .int .u64 x2, .int .i64 x3] 93) = wb at *
      go_region_held3 (fun w' => w'.cell? ⟨bx, 0, none⟩ = some (.int .u8 x0) ∧ w'.cell? ⟨bx, 1, none⟩ = some (.int .i64 x1) ∧ w'.cell? ⟨bx, 2, none⟩ = some (.int .u64 x2) ∧ w'.cell? ⟨bx, 3, none⟩ = some (.int .i64 x3) ∧ w'.cell? ⟨TB, r, none⟩ = some (.int .i64 kd)) (first | exact ⟨d0, d1, d2, d3, dt⟩ | exact ⟨e0, e1, e2, e3, et⟩ | go_keep) ((refine step_append_lies _ (by rfl) (.tmp 14) (.tmp 27) 77 (by rfl) W0.heap.size 179 i1 (.agg #[.int .i64 0, .int .i64 0, .int .u64 0, .int .i64 0]) 4 32 Try.underlying77 hj hy0 hy1 hy2 rfl (by decide) _ k _ (by rfl) (World.ownsRow.alloc HB.out.row _) ⟨wb.heap.size, 0, none⟩ 1 1 [.int .i64 kd, .int .i64 x1, .int .u64 x2, .int .i64 x3] (by rfl) (by rfl) (World.news_of_block (heap_alloc_new wb.drew (.cells #[.int .i64 kd, .int .i64 x1, .int .u64 x2, .int .i64 x3] 179))) (by intro u hu; simp at hu; rcases hu with rfl | rfl | rfl | rfl <;> rfl) (by omega) (by unfold maxLen; omega) (by omega) (by simp; omega) (wb.heap.size + 1) (by simp) ?_; intro g5 cap5 w5 hown5 hgrow5 hat5 hlt5; have HN5 := Lib.hid (HB.out.push hown5 hgrow5 hat5); have hq5 := HN5.out.block (List.mem_cons_self ..); have e0 := at_cell hq5 0 (.int .u8 x0) rfl; have e1 := at_cell hq5 1 (.int .i64 x1) rfl; have e2 := at_cell hq5 2 (.int .u64 x2) rfl; have e3 := at_cell hq5 3 (.int .i64 x3) rfl; have et := at_cell (HN5.out.block (X := TB) (o := .cells kindsV 181 (0, 0)) (by simp)) r (.int .i64 kd) (by rw [← Hr.out, ← Hkd.out]; exact kindsV_get x0); clear hown5 hgrow5 hat5 hq5))
      go_wp2
      go_roundw
      case rel => exact ⟨k + 1, _, _, rfl, by go_num, by omega, by
        rw [Htake.out, List.map_append, List.map_cons, List.map_nil, racells_snoc, show (toRA ⟨x0, x1, x2, x3⟩).cells = [.int .i64 kd, .int .i64 x1, .int .u64 x2, .int .i64 x3] by rw [← Hkd.out]; rfl]
        exact HN5.out.tail⟩
      case measure => simp [intOf]; omega
    · obtain rfl : k = ps.length := by omega
      have HF := Lib.hid hF.tail
      have k1 : ¬ (ps.length : Int) < ps.length := by omega
      rw [List.take_length] at HF
      clear hF
      go_wp2
      go_ret
      exact ⟨al, cap2, rfl, HF.out⟩
end
end Go.Proofs.Ytkcijlndblbidaa
