/- The walks of a region's methods. -/
import Derived.Test.YtkcijlndblbidaaVAll
import Derived.Deep.RegionHeld3
import Derived.Deep.QuietTactic
import Derived.BigQuiet
import Derived.IntWalk
namespace Go.Proofs.Ytkcijlndblbidaa
open Go.ChangeShapes Go.WideShapes Go.ChangeAt Go.RowKit
set_option linter.unusedVariables false

def RB (m base top limit : Nat) : Obj := .cells #[.pointer (some ⟨m, 0, none⟩), .int .i64 base, .int .i64 top, .int .i64 limit] 169 (0, 0)
/-- a memory and a region of it -/
structure BK (W0 : World) (m r words page room t : Nat) (v : VS) (base top limit : Nat) (K : List (Nat × Obj)) (w : World) : Prop where
  vk : VK W0 m words page room t v ((r, RB m base top limit) :: K) w
  low : W0.heap.size ≤ r
  apart : ∀ x ∈ K, x.1 ≠ r
  le : base ≤ top ∧ top ≤ limit ∧ limit ≤ words
section
variable {W0 w w' : World} {m r words page room t t' : Nat} {v v' : VS} {base top limit : Nat} {K K' : List (Nat × Obj)}
theorem BK.head (h : BK W0 m r words page room t v base top limit K w) : w.heap[r]? = some (.cells #[.pointer (some ⟨m, 0, none⟩), .int .i64 base, .int .i64 top, .int .i64 limit] 169 (0, 0)) := h.vk.block (List.mem_cons_self ..)
theorem BK.cells (h : BK W0 m r words page room t v base top limit K w) : w.cell? ⟨r, 0, none⟩ = some (.pointer (some ⟨m, 0, none⟩)) ∧ w.cell? ⟨r, 1, none⟩ = some (.int .i64 base) ∧ w.cell? ⟨r, 2, none⟩ = some (.int .i64 top) ∧ w.cell? ⟨r, 3, none⟩ = some (.int .i64 limit) :=
  ⟨at_cell h.head 0 _ rfl, at_cell h.head 1 _ rfl, at_cell h.head 2 _ rfl, at_cell h.head 3 _ rfl⟩
theorem BK.with (h : BK W0 m r words page room t v base top limit K w) (k : VK W0 m words page room t' v' ((r, RB m base top limit) :: K) w') : BK W0 m r words page room t' v' base top limit K w' := ⟨k, h.low, h.apart, h.le⟩
theorem BK.grow (h : BK W0 m r words page room t v base top limit K w) (c : Below w.heap.size w w') : BK W0 m r words page room t v base top limit K w' := h.with (h.vk.grow c)
theorem BK.drewN (h : BK W0 m r words page room t v base top limit K w) (n : Nat) : BK W0 m r words page room t v base top limit K (w.drewN n) := h.grow (Fr.below_drewN' n w)
theorem BK.drew (h : BK W0 m r words page room t v base top limit K w) : BK W0 m r words page room t v base top limit K w.drew := h.grow (below_drew w)
theorem BK.more (h : BK W0 m r words page room t v base top limit K w) (ht : t ≤ t') : BK W0 m r words page room t' v base top limit K w := h.with (h.vk.more ht)
theorem BK.below (h : BK W0 m r words page room t v base top limit K w) : Below W0.heap.size W0 w := h.vk.below
theorem BK.setTop (h : BK W0 m r words page room t v base top limit K w) {x : Nat} (hx : base ≤ x ∧ x ≤ limit) : BK W0 m r words page room t v base x limit K (w.setCell ⟨r, 2, none⟩ (.int .i64 x)) :=
  ⟨h.vk.set h.low h.apart 2 (.int .i64 x), h.low, h.apart, hx.1, hx.2, h.le.2.2⟩
theorem BK.limits (h : BK W0 m r words page room t v base top limit K w) : limit ≤ 524288 := by
  obtain ⟨S, h1, _⟩ := h.vk
  have := h1.dims.1
  have := h.le
  omega
theorem BK.box (h : BK W0 m r words page room t v base top limit K w) (cs : Array Value) (ty : TypeId) : BK W0 m r words page room t v base top limit ((w.heap.size, .cells cs ty (0, 0)) :: K) (w.alloc (.cells cs ty)) :=
  ⟨(h.vk.box cs ty).sub fun x hx => by
    simp only [List.mem_cons] at hx ⊢
    rcases hx with h | h | h
    · exact .inr (.inl h)
    · exact .inl h
    · exact .inr (.inr h), h.low, fun x hx => by
    simp only [List.mem_cons] at hx
    rcases hx with rfl | hx
    · have := block_lt h.head
      simp only []
      omega
    · exact h.apart x hx, h.le⟩
theorem BK.tail {x : Nat × Obj} (h : BK W0 m r words page room t v base top limit (x :: K) w) : BK W0 m r words page room t v base top limit K w :=
  ⟨h.vk.sub fun y hy => by
    simp only [List.mem_cons] at hy ⊢
    exact hy.imp id .inr, h.low, fun y hy => h.apart y (List.mem_cons_of_mem _ hy), h.le⟩
theorem BK.block (h : BK W0 m r words page room t v base top limit K w) {X : Nat} {o : Obj} (hx : (X, o) ∈ K) : w.heap[X]? = some o := h.vk.block (List.mem_cons_of_mem _ hx)
end
theorem rnone_cells (r m : Nat) (w : World) (c0 : w.cell? ⟨r, 0, none⟩ = some (.pointer (some ⟨m, 0, none⟩))) :
    Calls Try.prog 115 #[.pointer (some ⟨r, 0, none⟩)] w fun e w' => e = .returned (.bool false) ∧ w = w' := by
  go_enter Try.func115, Try.ntmps115
  go_wp2
  go_ret
  exact ⟨rfl, rfl⟩
/-- what Alloc answers and leaves -/
def allocE (words page room : Nat) (v : VS) (top limit : Nat) (n : Int) : Int := if n < 1 then 15 else if (limit : Int) - top < n then 21 else needE words page room v top ((top : Int) + n)
def allocA (words page room : Nat) (v : VS) (top limit : Nat) (n : Int) : Nat := if allocE words page room v top limit n = 0 then top else 0
def allocV (words page room : Nat) (v : VS) (top limit : Nat) (n : Int) : VS := if n < 1 then v else if (limit : Int) - top < n then v else needV words page room v top ((top : Int) + n)
def allocT (words page room : Nat) (v : VS) (top limit : Nat) (n : Int) : Nat := if allocE words page room v top limit n = 0 then top + n.toNat else top
section
variable {W0 w : World} {m r words page room t : Nat} {v : VS} {base top limit : Nat} {K : List (Nat × Obj)}
set_option maxRecDepth 100000 in
set_option maxHeartbeats 1000000 in
theorem alloc_bk (h : BK W0 m r words page room t v base top limit K w) (ht : t ≤ 999000000) (n : Int) :
    Calls Try.prog 33 #[.pointer (some ⟨r, 0, none⟩), .int .i64 n] w fun e w' => e = .returned (.tuple #[.int .i64 (allocA words page room v top limit n), .int .i64 (allocE words page room v top limit n)]) ∧ BK W0 m r words page room (t + words / page) (allocV words page room v top limit n) base (allocT words page room v top limit n) limit K w' := by
  obtain ⟨c0, c1, c2, c3⟩ := h.cells
  have Hnone := Lib.hid (rnone_cells r m w c0)
  have hlim := h.limits
  have hle := h.le
  have HB := Lib.hid h
  have s1 : IntKind.i64.wrap ((limit : Int) - top) = (limit : Int) - top := IntWalk.i64_in _ (by omega)
  unfold allocA allocV allocT allocE
  by_cases h1 : n < 1
  · rw [if_pos h1, if_pos h1, if_neg (by decide), if_neg (by decide)]
    clear h s1
    go_enter Try.func33, Try.ntmps33
    go_wp2_with (go_at_call 115; refine Hnone.out.mono ?_; rintro e w1 ⟨rfl, rfl⟩)
    go_ret2
    exact ⟨rfl, HB.out.more (Nat.le_add_right _ _)⟩
  · rw [if_neg h1, if_neg h1]
    by_cases h2 : (limit : Int) - top < n
    · rw [if_pos h2, if_pos h2, if_neg (by decide), if_neg (by decide)]
      have q1 : decide ((limit : Int) - top < n) = true := decide_eq_true h2
      clear h
      go_enter Try.func33, Try.ntmps33
      go_wp2_with (go_at_call 115; refine Hnone.out.mono ?_; rintro e w1 ⟨rfl, rfl⟩)
      go_quiet (fail)
      go_wp2
      go_ret2
      exact ⟨rfl, (HB.out.drewN _).more (Nat.le_add_right _ _)⟩
    · rw [if_neg h2, if_neg h2]
      have q1 : decide ((limit : Int) - top < n) = false := decide_eq_false h2
      have hneed := fun W (k : BK W0 m r words page room t v base top limit K W) => need_vk k.vk ht top ((top : Int) + n)
      have s2 : IntKind.i64.wrap ((top : Int) + n) = (top : Int) + n := IntWalk.i64_in _ (by omega)
      obtain ⟨E, hE⟩ : ∃ E, needE words page room v top ((top : Int) + n) = E := ⟨_, rfl⟩
      obtain ⟨v', hv'⟩ : ∃ v', needV words page room v top ((top : Int) + n) = v' := ⟨_, rfl⟩
      simp only [hE, hv'] at hneed ⊢
      have Hneed := Lib.hid hneed
      have S1 := Lib.hid s1
      have S2 := Lib.hid s2
      have Q1 := Lib.hid q1
      clear h hE hv' hneed s1 s2 q1
      by_cases h3 : E = 0
      · subst h3
        rw [if_pos rfl, if_pos rfl]
        have s1 := S1.out
        have q1 := Q1.out
        go_enter Try.func33, Try.ntmps33
        go_wp2_with (go_at_call 115; refine Hnone.out.mono ?_; rintro e w1 ⟨rfl, rfl⟩)
        go_quiet (fail)
        clear s1 q1 c0 c1 c2 c3
        go_wp2
        have HB2 := Lib.hid (HB.out.drewN nq)
        generalize w.drewN nq = W at *
        obtain ⟨c0, c1, c2, c3⟩ := HB2.out.cells
        have s2 := S2.out
        go_region_held3 (fun w' => w'.cell? ⟨r, 0, none⟩ = some (.pointer (some ⟨m, 0, none⟩)) ∧ w'.cell? ⟨r, 2, none⟩ = some (.int .i64 top)) (first | exact ⟨c0, c2⟩ | exact ⟨d0, d2⟩ | go_keep) ((go_at_call 18; refine (Hneed.out _ (HB2.out.grow (below_drew W))).mono ?_; rintro e w5 ⟨rfl, k5⟩; have HB5 := Lib.hid (HB2.out.with k5); obtain ⟨d0, d1, d2, d3⟩ := HB5.out.cells; have f2 := at_free HB5.out.head 2; clear k5))
        clear c0 c1 c2 c3 s2
        go_wp2
        go_ret2
        refine ⟨rfl, ?_⟩
        have := HB5.out.setTop (x := top + n.toNat) (by omega)
        rw [show ((top + n.toNat : Nat) : Int) = top + n by omega] at this
        exact this
      · rw [if_neg h3, if_neg h3]
        have s1 := S1.out
        have q1 := Q1.out
        go_enter Try.func33, Try.ntmps33
        go_wp2_with (go_at_call 115; refine Hnone.out.mono ?_; rintro e w1 ⟨rfl, rfl⟩)
        go_quiet (fail)
        clear s1 q1 c0 c1 c2 c3
        go_wp2
        have HB2 := Lib.hid (HB.out.drewN nq)
        generalize w.drewN nq = W at *
        obtain ⟨c0, c1, c2, c3⟩ := HB2.out.cells
        have s2 := S2.out
        go_region_held3 (fun w' => w'.cell? ⟨r, 0, none⟩ = some (.pointer (some ⟨m, 0, none⟩)) ∧ w'.cell? ⟨r, 2, none⟩ = some (.int .i64 top)) (first | exact ⟨c0, c2⟩ | exact ⟨d0, d2⟩ | go_keep) ((go_at_call 18; refine (Hneed.out _ (HB2.out.grow (below_drew W))).mono ?_; rintro e w5 ⟨rfl, k5⟩; have HB5 := Lib.hid (HB2.out.with k5); obtain ⟨d0, d1, d2, d3⟩ := HB5.out.cells; clear k5))
        clear c0 c1 c2 c3 s2
        go_wp2
        go_ret2
        exact ⟨rfl, HB5.out⟩
theorem base_bk (h : BK W0 m r words page room t v base top limit K w) : Calls Try.prog 36 #[.pointer (some ⟨r, 0, none⟩)] w fun e w' => e = .returned (.int .i64 base) ∧ w = w' := by
  obtain ⟨c0, c1, c2, c3⟩ := h.cells
  have Hnone := Lib.hid (rnone_cells r m w c0)
  clear h
  go_enter Try.func36, Try.ntmps36
  go_wp2_with (go_at_call 115; refine Hnone.out.mono ?_; rintro e w1 ⟨rfl, rfl⟩)
  go_ret
  exact ⟨rfl, rfl⟩
theorem limit_bk (h : BK W0 m r words page room t v base top limit K w) : Calls Try.prog 37 #[.pointer (some ⟨r, 0, none⟩)] w fun e w' => e = .returned (.int .i64 limit) ∧ w = w' := by
  obtain ⟨c0, c1, c2, c3⟩ := h.cells
  have Hnone := Lib.hid (rnone_cells r m w c0)
  clear h
  go_enter Try.func37, Try.ntmps37
  go_wp2_with (go_at_call 115; refine Hnone.out.mono ?_; rintro e w1 ⟨rfl, rfl⟩)
  go_ret
  exact ⟨rfl, rfl⟩
theorem top_bk (h : BK W0 m r words page room t v base top limit K w) : Calls Try.prog 34 #[.pointer (some ⟨r, 0, none⟩)] w fun e w' => e = .returned (.int .i64 top) ∧ w = w' := by
  obtain ⟨c0, c1, c2, c3⟩ := h.cells
  have Hnone := Lib.hid (rnone_cells r m w c0)
  clear h
  go_enter Try.func34, Try.ntmps34
  go_wp2_with (go_at_call 115; refine Hnone.out.mono ?_; rintro e w1 ⟨rfl, rfl⟩)
  go_ret
  exact ⟨rfl, rfl⟩
theorem left_bk (h : BK W0 m r words page room t v base top limit K w) : Calls Try.prog 38 #[.pointer (some ⟨r, 0, none⟩)] w fun e w' => e = .returned (.int .i64 ((limit : Int) - top)) ∧ BK W0 m r words page room t v base top limit K w' := by
  obtain ⟨c0, c1, c2, c3⟩ := h.cells
  have Hnone := Lib.hid (rnone_cells r m w c0)
  have hlim := h.limits
  have hle := h.le
  have s1 : IntKind.i64.wrap ((limit : Int) - top) = (limit : Int) - top := IntWalk.i64_in _ (by omega)
  have HB := Lib.hid h
  clear h hle
  go_enter Try.func38, Try.ntmps38
  go_wp2_with (go_at_call 115; refine Hnone.out.mono ?_; rintro e w1 ⟨rfl, rfl⟩)
  go_quiet (fail)
  go_wp2
  go_ret
  exact ⟨rfl, HB.out.drewN _⟩
/-- what Set answers and leaves -/
def setE (base limit : Nat) (x : Int) : Int := if x < base ∨ (limit : Int) < x then 5 else 0
def setT (base limit top : Nat) (x : Int) : Nat := if setE base limit x = 0 then x.toNat else top
set_option maxRecDepth 100000 in
theorem set_bk (h : BK W0 m r words page room t v base top limit K w) (x : Int) : Calls Try.prog 35 #[.pointer (some ⟨r, 0, none⟩), .int .i64 x] w fun e w' => e = .returned (.int .i64 (setE base limit x)) ∧ BK W0 m r words page room t v base (setT base limit top x) limit K w' := by
  obtain ⟨c0, c1, c2, c3⟩ := h.cells
  have Hnone := Lib.hid (rnone_cells r m w c0)
  have f2 := at_free h.head 2
  have HB := Lib.hid h
  clear h
  unfold setT setE
  by_cases h1 : x < base
  · rw [if_pos (.inl h1), if_neg (by decide)]
    go_enter Try.func35, Try.ntmps35
    go_wp2_with (go_at_call 115; refine Hnone.out.mono ?_; rintro e w1 ⟨rfl, rfl⟩)
    go_ret
    exact ⟨rfl, HB.out⟩
  · by_cases h2 : (limit : Int) < x
    · rw [if_pos (.inr h2), if_neg (by decide)]
      go_enter Try.func35, Try.ntmps35
      go_wp2_with (go_at_call 115; refine Hnone.out.mono ?_; rintro e w1 ⟨rfl, rfl⟩)
      go_ret
      exact ⟨rfl, HB.out⟩
    · have h3 : ¬ (x < base ∨ (limit : Int) < x) := by omega
      rw [if_neg h3, if_pos rfl]
      obtain ⟨x, rfl⟩ : ∃ q : Nat, x = q := ⟨x.toNat, by omega⟩
      have Hx := Lib.hid (HB.out.setTop (x := x) (by omega))
      clear h3
      go_enter Try.func35, Try.ntmps35
      go_wp2_with (go_at_call 115; refine Hnone.out.mono ?_; rintro e w1 ⟨rfl, rfl⟩)
      go_ret
      exact ⟨rfl, Hx.out⟩
set_option maxRecDepth 100000 in
theorem release_bk (h : BK W0 m r words page room t v base top limit K w) : Calls Try.prog 39 #[.pointer (some ⟨r, 0, none⟩)] w fun e w' => e = .returned (.int .i64 (freeR words page v base limit).1) ∧ BK W0 m r words page room t (freeR words page v base limit).2 base base limit K w' := by
  obtain ⟨c0, c1, c2, c3⟩ := h.cells
  have Hnone := Lib.hid (rnone_cells r m w c0)
  have f2 := at_free h.head 2
  have hle := h.le
  have HB2 := Lib.hid (h.setTop (x := base) (by omega))
  have hfree := fun W (k : BK W0 m r words page room t v base base limit K W) => free_vk k.vk base limit
  generalize freeR words page v base limit = F at *
  have Hfree := Lib.hid hfree
  clear h hle hfree
  go_enter Try.func39, Try.ntmps39
  go_wp2_with (go_at_call 115; refine Hnone.out.mono ?_; rintro e w1 ⟨rfl, rfl⟩)
  generalize w.setCell ⟨r, 2, none⟩ (.int .i64 base) = W at *
  clear c0 c1 c2 c3 f2
  obtain ⟨c0, c1, c2, c3⟩ := HB2.out.cells
  go_region_held3 (fun w' => w'.cell? ⟨r, 0, none⟩ = some (.pointer (some ⟨m, 0, none⟩)) ∧ w'.cell? ⟨r, 1, none⟩ = some (.int .i64 base) ∧ w'.cell? ⟨r, 3, none⟩ = some (.int .i64 limit)) (first | exact ⟨c0, c1, c3⟩ | exact ⟨d0, d1, d3⟩ | go_keep) ((go_at_call 23; refine (Hfree.out _ (HB2.out.grow (below_drew W))).mono ?_; rintro e w5 ⟨rfl, k5⟩; have HB5 := Lib.hid (HB2.out.with k5); obtain ⟨d0, d1, d2, d3⟩ := HB5.out.cells; clear k5))
  go_wp2
  go_ret
  exact ⟨rfl, HB5.out⟩
end
/-- may a region lie so? -/
def okR (words : Nat) (a b : Int) : Prop := 0 ≤ a ∧ a ≤ b ∧ b ≤ words
instance (words : Nat) (a b : Int) : Decidable (okR words a b) := by unfold okR; infer_instance
set_option maxRecDepth 100000 in
theorem new_bk_no {W0 w : World} {m words page room t : Nat} {v : VS} {K : List (Nat × Obj)} (h : VK W0 m words page room t v K w) (a b : Int) (hn : ¬ okR words a b) :
    Calls Try.prog 32 #[.pointer (some ⟨m, 0, none⟩), .int .i64 a, .int .i64 b] w fun e w' => e = .returned (.tuple #[.pointer none, .int .i64 5]) ∧ w = w' := by
  have Hw := Lib.hid (words_vk h)
  obtain ⟨S, hv, _⟩ := h
  have hd := hv.dims.1
  have hz : ¬ (words : Int) = 0 := by omega
  have hzb : ((words : Int) == 0) = false := by simp; omega
  unfold okR at hn
  clear hv
  by_cases h1 : a < 0
  · have q1 : decide (a < 0) = true := decide_eq_true h1
    go_enter Try.func32, Try.ntmps32
    go_wp2_with (go_at_call 27; refine Hw.out.mono ?_; rintro e w1 ⟨rfl, rfl⟩)
    go_ret2
    exact ⟨rfl, rfl⟩
  · by_cases h2 : b < a
    · have q1 : decide (a < 0) = false := decide_eq_false h1
      have q2 : decide (b < a) = true := decide_eq_true h2
      go_enter Try.func32, Try.ntmps32
      go_wp2_with (go_at_call 27; refine Hw.out.mono ?_; rintro e w1 ⟨rfl, rfl⟩)
      go_ret2
      exact ⟨rfl, rfl⟩
    · have h3 : (words : Int) < b := by omega
      have q1 : decide (a < 0) = false := decide_eq_false h1
      have q2 : decide (b < a) = false := decide_eq_false h2
      have q3 : decide ((words : Int) < b) = true := decide_eq_true h3
      go_enter Try.func32, Try.ntmps32
      go_wp2_with (go_at_call 27; refine Hw.out.mono ?_; rintro e w1 ⟨rfl, rfl⟩)
      go_ret2
      exact ⟨rfl, rfl⟩
set_option maxRecDepth 100000 in
theorem new_bk {W0 w : World} {m words page room t : Nat} {v : VS} {K : List (Nat × Obj)} (h : VK W0 m words page room t v K w) (a b : Nat) (hn : okR words a b) :
    Calls Try.prog 32 #[.pointer (some ⟨m, 0, none⟩), .int .i64 a, .int .i64 b] w fun e w' => e = .returned (.tuple #[.pointer (some ⟨w.heap.size, 0, none⟩), .int .i64 0]) ∧ BK W0 m w.heap.size words page room t v a a b K w' := by
  have Hw := Lib.hid (words_vk h)
  have hbl := h.below
  have HB := Lib.hid (show BK W0 m w.heap.size words page room t v a a b K (w.alloc (.cells #[.pointer (some ⟨m, 0, none⟩), .int .i64 a, .int .i64 a, .int .i64 b] 169)) from
    ⟨h.box _ _, hbl.size, fun x hx => by
      obtain ⟨S, _, _, _, hK⟩ := h
      have := block_lt (hK x hx).2
      omega, Nat.le_refl _, by unfold okR at hn; omega, by unfold okR at hn; omega⟩)
  obtain ⟨S, hv, _⟩ := h
  have hd := hv.dims.1
  have hz : ¬ (words : Int) = 0 := by omega
  have hzb : ((words : Int) == 0) = false := by simp; omega
  unfold okR at hn
  have h1 : ¬ (a : Int) < 0 := by omega
  have h2 : ¬ (b : Int) < a := by omega
  have h3 : ¬ (words : Int) < b := by omega
  have h4 : ¬ b < a := by omega
  have h5 : ¬ words < b := by omega
  have q2 : decide ((b : Int) < a) = false := decide_eq_false h2
  have q3 : decide ((words : Int) < b) = false := decide_eq_false h3
  have q4 : decide (b < a) = false := decide_eq_false h4
  have q5 : decide (words < b) = false := decide_eq_false h5
  clear hv hn
  go_enter Try.func32, Try.ntmps32
  go_wp2_with (go_at_call 27; refine Hw.out.mono ?_; rintro e w1 ⟨rfl, rfl⟩)
  go_ret2
  exact ⟨rfl, HB.out⟩
end Go.Proofs.Ytkcijlndblbidaa
