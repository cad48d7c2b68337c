/- The walk of 'stores' (layer 10): a run of stores that go well; what it does in plain words, and that undoing it brings the old words back. -/
import Derived.Test.YtkcijlndblbidaaTWords
import Derived.Test.YtkcijlndblbidaaTUndo
import Derived.Test.YtkcijlndblbidaaTActs
import Derived.StillTailTactics
namespace Go.Proofs.Ytkcijlndblbidaa
open Go.ChangeShapes Go.WideShapes Go.ChangeAt Go.RowKit
set_option linter.unusedVariables false

/-- where an act stores -/
def adrS (n : Nat) (p : A10.Act) : Nat := ((p.f1 % 18446744073709551616) % n).toNat
def runS (n : Nat) : (Nat → Nat) → List (Nat × Nat) → List A10.Act → (Nat → Nat) × List (Nat × Nat)
  | g, l, [] => (g, l)
  | g, l, p :: ps => runS n (putG g (adrS n p) p.f2) (l ++ [(adrS n p, g (adrS n p))]) ps
theorem runS_snoc (n : Nat) (g : Nat → Nat) (l : List (Nat × Nat)) (ps : List A10.Act) (p : A10.Act) :
    runS n g l (ps ++ [p]) = (putG (runS n g l ps).1 (adrS n p) p.f2, (runS n g l ps).2 ++ [(adrS n p, (runS n g l ps).1 (adrS n p))]) := by
  induction ps generalizing g l with
  | nil => rfl
  | cons q ps ih => exact ih _ _
theorem runS_length (n : Nat) (g : Nat → Nat) (l : List (Nat × Nat)) (ps : List A10.Act) : (runS n g l ps).2.length = l.length + ps.length := by
  induction ps generalizing g l with
  | nil => rfl
  | cons q ps ih => rw [runS, ih]; simp; omega
theorem runS_take (n : Nat) (g : Nat → Nat) (l : List (Nat × Nat)) (ps : List A10.Act) : ∃ ext, (runS n g l ps).2 = l ++ ext ∧ ∀ b, undoG (runS n g l ps).1 ext b = g b := by
  induction ps generalizing g l with
  | nil => exact ⟨[], by simp [runS], fun b => rfl⟩
  | cons q ps ih =>
    obtain ⟨ext, h1, h2⟩ := ih (putG g (adrS n q) q.f2) (l ++ [(adrS n q, g (adrS n q))])
    refine ⟨(adrS n q, g (adrS n q)) :: ext, by rw [runS, h1]; simp, fun b => ?_⟩
    rw [runS]
    have h3 := h2 b
    show putG (undoG _ ext) (adrS n q) (g (adrS n q)) b = g b
    by_cases e : b = adrS n q
    · show (if b = adrS n q then g (adrS n q) else _) = g b
      rw [if_pos e, e]
    · show (if b = adrS n q then g (adrS n q) else _) = g b
      rw [if_neg e, h3]
      show (if b = adrS n q then q.f2 else g b) = g b
      rw [if_neg e]
theorem adrS_lt {n : Nat} (hn : 1 ≤ n) (p : A10.Act) : adrS n p < n := by
  unfold adrS
  have h1 := Int.emod_nonneg (p.f1 % 18446744073709551616) (show (n : Int) ≠ 0 by omega)
  have h2 := Int.emod_lt_of_pos (p.f1 % 18446744073709551616) (show (0 : Int) < n by omega)
  omega
theorem runS_small (n : Nat) (g : Nat → Nat) (l : List (Nat × Nat)) (ps : List A10.Act) (hg : ∀ b, b < n → g b < 18446744073709551616) (hp : ∀ p ∈ ps, p.f2 < 18446744073709551616) : ∀ b, b < n → (runS n g l ps).1 b < 18446744073709551616 := by
  induction ps generalizing g l with
  | nil => exact hg
  | cons q ps ih =>
    refine ih _ _ (fun b hb => ?_) fun p h => hp p (List.mem_cons_of_mem _ h)
    unfold putG
    split
    · exact hp q (List.mem_cons_self ..)
    · exact hg b hb
theorem adr_spell {n : Nat} (hn : 1 ≤ n) (p : A10.Act) : (IntKind.u64.wrap p.f1).tmod (n : Int) = (adrS n p : Nat) := by
  have h : 0 ≤ IntKind.u64.wrap p.f1 := by rw [IntKind.wrap_u64]; omega
  rw [Int.tmod_eq_emod_of_nonneg h, IntKind.wrap_u64]
  unfold adrS
  have := Int.emod_nonneg (p.f1 % 18446744073709551616) (show (n : Int) ≠ 0 by omega)
  omega
theorem wrap_small {p : Nat} (h : p ≤ 4096) : IntKind.i64.wrap (p : Int) = p := IntWalk.i64_in _ (by omega)
theorem wrapu_small {p : Nat} (h : p ≤ 4096) : IntKind.u64.wrap (p : Int) = p := by rw [IntKind.wrap_u64]; omega
set_option maxRecDepth 100000 in
set_option maxHeartbeats 1000000 in
theorem stores_any {W0 : World} {m wk n t : Nat} {g : Nat → Nat} {l : List (Nat × Nat)} {K : List (Nat × Obj)} {w : World} (h : TW W0 m wk n t g l K w) {a : Option Addr} {ps : List A10.Act} (hA : A10.Acts W0 a ps) (hg : ∀ b, b < n → g b < 18446744073709551616) (hl : l.length + ps.length ≤ 100000) (cap : Nat) :
    Calls Try.prog 57 #[.pointer (some ⟨wk, 0, none⟩), .slice a ps.length cap, .int .i64 n] w fun e w' => e = .returned (.tuple #[]) ∧ TW W0 m wk n t (runS n g l ps).1 (runS n g l ps).2 K w' := by
  have hn := h.dims
  have HA := Lib.hid hA
  have H0 := Lib.hid h
  have Hg := Lib.hid hg
  have hlen1 : (ps.length : Int) ≤ 100000 := by omega
  clear h hA hg
  go_enter Try.func57, Try.ntmps57
  go_wp2_with (fail)
  go_loopw [10] (fun i wr => ∃ (k : Nat), i = .int .i64 k ∧ k ≤ ps.length ∧ TW W0 m wk n t (runS n g l (ps.take k)).1 (runS n g l (ps.take k)).2 K wr) (fun i _ => ps.length - (intOf i).toNat)
  case atStart => exact ⟨0, rfl, by omega, H0.out⟩
  case round =>
    clear H0
    obtain ⟨k, rfl, hk, hT⟩ := hrel
    have hb := hT.below
    by_cases hlt : k < ps.length
    · have hP2 := HA.out.below hb
      obtain ⟨b1, off, ha, hcell⟩ := hP2.cell
      obtain rfl : a = some ⟨b1, off, none⟩ := by
        rcases ha with rfl | ha
        · simp at hlt
        · exact ha
      obtain ⟨c0, c1, c2, c3⟩ := hcell k hlt
      have hact := hP2.each k hlt
      have hsn := runS_snoc n g l (ps.take k) (ps.getD k default)
      have htk : ps.take k ++ [ps.getD k default] = ps.take (k + 1) := by
        rw [List.take_add_one, List.getElem?_eq_getElem hlt, List.getD_eq_getElem?_getD, List.getElem?_eq_getElem hlt]
        rfl
      rw [htk] at hsn
      have hlen : (runS n g l (ps.take k)).2.length ≤ 1000000 := by
        rw [runS_length, List.length_take]
        omega
      have hgs := runS_small n g l (ps.take k) Hg.out (fun p hp => by
        obtain ⟨j, hj, rfl⟩ := List.mem_iff_getElem.1 (List.mem_of_mem_take hp)
        have := (hP2.each j hj).2.2.1
        rwa [List.getD_eq_getElem?_getD, List.getElem?_eq_getElem hj] at this)
      obtain ⟨g1, hg1⟩ : ∃ g1, (runS n g l (ps.take k)).1 = g1 := ⟨_, rfl⟩
      obtain ⟨l1, hl1⟩ : ∃ l1, (runS n g l (ps.take k)).2 = l1 := ⟨_, rfl⟩
      rw [hg1, hl1] at hsn hT
      rw [hl1] at hlen
      rw [hg1] at hgs
      have hadr := adr_spell (n := n) (by omega) (ps.getD k default)
      have hadl := adrS_lt (n := n) (by omega) (ps.getD k default)
      generalize adrS n (ps.getD k default) = p at *
      clear hcell ha hP2 hb htk hg1 hl1
      generalize ps.getD k default = q at *
      obtain ⟨kd, pa, px, pe⟩ := q
      obtain ⟨hkd, hpa, hpx, hpe⟩ := hact
      simp only at *
      have Hsn := Lib.hid hsn
      have hbx := hT.box #[.int .u8 kd, .int .i64 pa, .int .u64 px, .int .i64 pe] 93
      have hblk := hbx.block (List.mem_cons_self ..)
      have d0 := at_cell hblk 0 _ rfl
      have d1 := at_cell hblk 1 _ rfl
      have d2 := at_cell hblk 2 _ rfl
      have d3 := at_cell hblk 3 _ rfl
      have HS := Lib.hid hbx
      have hpn : inG n (p : Int) = true := by simp [inG]; omega
      have HST := Lib.hid (fun W (hW : TW W0 m wk n t g1 l1 ((wr.heap.size, .cells #[.int .u8 kd, .int .i64 pa, .int .u64 px, .int .i64 pe] 93 (0, 0)) :: K) W) => by
        have := store_tw hW (p : Int) px hpx hpn (hgs _ (by rw [Int.toNat_natCast]; exact hadl)) hlen
        simpa only [Int.toNat_natCast] using this)
      clear hT hbx hblk hsn hgs hlen hpn
      have k1 : (k : Int) < ps.length := by omega
      have k2 : (0 : Int) ≤ k := by omega
      have k3 : ((k : Int)).toNat = k := by omega
      have n1 : (1 : Int) ≤ n := by omega
      have n2 : (n : Int) ≤ 4096 := by omega
      have p1 : (p : Int) ≤ 4096 := by omega
      have p2 : (p : Int) < n := by omega
      go_wp2_with (fail)
      have w1 := wrapu_small (p := n) (by omega)
      have w2 := wrap_small (p := p) (by omega)
      have n3 : (n : Int) ≠ 0 := by omega
      have n4 : n ≠ 0 := by omega
      refine wp_region_still_tail 10 (by kernel_rfl) (by kernel_rfl) ?_
      simp only [List.take_succ_cons, List.take_zero, List.drop_succ_cons, List.drop_zero]
      have HS2 := Lib.hid (HS.out.grow (below_drew _))
      unfold World.drew at HS2
      generalize ({ wr.alloc (.cells #[.int .u8 kd, .int .i64 pa, .int .u64 px, .int .i64 pe] 93) with drawn := (wr.alloc (.cells #[.int .u8 kd, .int .i64 pa, .int .u64 px, .int .i64 pe] 93)).drawn + 1 } : World) = W at *
      have hblk := HS2.out.block (List.mem_cons_self ..)
      clear HS d0 d1 d2 d3 c0 c1 c2 c3
      have d1 := at_cell hblk 1 _ rfl
      have d2 := at_cell hblk 2 _ rfl
      clear hblk
      repeat still_step
      refine wpStill_nil ?_
      go_wp2_with ((go_at_call 63; refine (HST.out _ HS2.out).mono ?_; rintro e w5 ⟨rfl, h5⟩; have H5 := Lib.hid h5.tail; clear h5))
      go_roundw
      case rel => exact ⟨k + 1, by go_num, by omega, by rw [Hsn.out]; exact H5.out⟩
      case measure => simp [intOf]; omega
    · obtain rfl : k = ps.length := by omega
      rw [List.take_length] at hT
      have HT := Lib.hid hT
      clear hT hb
      go_wp2
      go_end0
      exact ⟨rfl, HT.out⟩
end Go.Proofs.Ytkcijlndblbidaa
