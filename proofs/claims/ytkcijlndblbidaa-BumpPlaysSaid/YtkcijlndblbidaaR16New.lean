/- The walks of the references' New, and both sides beside each other. -/
import Derived.Test.YtkcijlndblbidaaR16
namespace Go.Proofs.Ytkcijlndblbidaa
open Go.ChangeShapes Go.WideShapes Go.ChangeAt Go.RowKit
set_option linter.unusedVariables false

set_option maxRecDepth 100000 in
theorem new9_yes (room : Nat) (w : World) (h1 : 1 ≤ room) (h2 : room ≤ 4096) :
    Calls Try.prog 40 #[.int .i64 64, .int .i64 4, .int .i64 room] w fun e w' => e = .returned (.tuple #[.pointer (some ⟨w.heap.size + 1, 0, none⟩), .int .i64 0]) ∧ Rm (fun k => k = w.heap.size + 1) (w.heap.size + 1) room VS.zero w' ∧ Below w.heap.size w w' := by
  have hpg : Fr.pageB 4 = true := by decide
  have Hnew := Lib.hid ((Fr.refNew_any room 4 w).mono fun e w' h => h.2 ⟨by omega, by omega, hpg⟩)
  have hres := fun (o : Obj) => (show Rm (fun k => k = w.heap.size + 1) (w.heap.size + 1) room VS.zero ((w.alloc o).alloc (.cells #[.int .i64 64, .int .i64 4, .int .i64 room, .int .i64 0, .slice none 0 0] 175)) ∧ Below w.heap.size w ((w.alloc o).alloc (.cells #[.int .i64 64, .int .i64 4, .int .i64 room, .int .i64 0, .slice none 0 0] 175)) from by
    have e : (w.alloc o).heap.size = w.heap.size + 1 := by simp
    refine ⟨⟨none, 0, [], ⟨?_, World.ownsRow_nil _ _ _ _⟩, ⟨fun i hi => by simp at hi, fun p hp hm => by simp [VS.zero] at hm, fun i j hi => by simp at hi, rfl⟩, ⟨rfl, by simp⟩, fun k hk => by subst hk; simp⟩, seq (below_new w o) (below_new _ _)⟩
    have := heap_alloc_new (w.alloc o) (.cells #[.int .i64 64, .int .i64 4, .int .i64 room, .int .i64 0, .slice none 0 0] 175)
    rw [e] at this
    exact this)
  have Hres := Lib.hid hres
  clear hres hpg
  go_enter Try.func40, Try.ntmps40
  go_wp2_with (go_at_call 116; refine Hnew.out.mono ?_; rintro e w1 ⟨rfl, rfl⟩)
  go_ret2
  obtain ⟨a, b⟩ := Hres.out (.cells #[.int .i64 room, .int .i64 4, .slice none 0 0, .slice none 0 0, .int .i64 0, .int .i64 0, .int .i64 0] 220)
  exact ⟨rfl, a, b⟩
set_option maxRecDepth 100000 in
theorem new16_no {T : Nat → Prop} {rb room : Nat} {v : VS} {w : World} (h : Rm T rb room v w) (a b : Int) (hn : ¬ okR 64 a b) :
    Calls Try.prog 41 #[.pointer (some ⟨rb, 0, none⟩), .int .i64 a, .int .i64 b] w fun e w' => e = .returned (.tuple #[.pointer none, .int .i64 5]) ∧ w = w' := by
  obtain ⟨c0, -⟩ := h.page
  unfold okR at hn
  clear h
  by_cases h1 : a < 0
  · have q1 : decide (a < 0) = true := decide_eq_true h1
    go_enter Try.func41, Try.ntmps41
    go_wp2
    go_ret2
    exact ⟨rfl, rfl⟩
  · by_cases h2 : b < a
    · have q1 : decide (a < 0) = false := decide_eq_false h1
      have q2 : decide (b < a) = true := decide_eq_true h2
      go_enter Try.func41, Try.ntmps41
      go_wp2
      go_ret2
      exact ⟨rfl, rfl⟩
    · have h3 : 64 < b := by omega
      have q1 : decide (a < 0) = false := decide_eq_false h1
      have q2 : decide (b < a) = false := decide_eq_false h2
      have q3 : decide (64 < b) = true := decide_eq_true h3
      go_enter Try.func41, Try.ntmps41
      go_wp2
      go_ret2
      exact ⟨rfl, rfl⟩
set_option maxRecDepth 100000 in
theorem new16_yes {T : Nat → Prop} {rb room : Nat} {v : VS} {w : World} (h : Rm T rb room v w) (a b : Nat) (hn : okR 64 a b) :
    Calls Try.prog 41 #[.pointer (some ⟨rb, 0, none⟩), .int .i64 a, .int .i64 b] w fun e w' => e = .returned (.tuple #[.pointer (some ⟨w.heap.size, 0, none⟩), .int .i64 0]) ∧ Rr (fun k => T k ∨ k = w.heap.size) rb w.heap.size room v a a b w' ∧ Below w.heap.size w w' := by
  obtain ⟨c0, -⟩ := h.page
  unfold okR at hn
  have Hres := Lib.hid (show Rr (fun k => T k ∨ k = w.heap.size) rb w.heap.size room v a a b (w.alloc (.cells #[.pointer (some ⟨rb, 0, none⟩), .int .i64 a, .int .i64 a, .int .i64 b] 64)) ∧ Below w.heap.size w (w.alloc (.cells #[.pointer (some ⟨rb, 0, none⟩), .int .i64 a, .int .i64 a, .int .i64 b] 64)) from
    ⟨⟨⟨T, h.grow (below_new w _), fun hk => by have := h.in _ hk; omega, fun k hk => .inl hk⟩, heap_alloc_new w _, .inr rfl, fun k hk => by
      rcases hk with hk | rfl
      · have := h.in k hk; simp; omega
      · simp, by omega⟩, below_new w _⟩)
  have g1 : ¬ (a : Int) < 0 := by omega
  have g2 : ¬ (b : Int) < a := by omega
  have g3 : ¬ 64 < (b : Int) := by omega
  have g4 : ¬ b < a := by omega
  have q1 : decide ((a : Int) < 0) = false := decide_eq_false g1
  have q2 : decide ((b : Int) < a) = false := decide_eq_false g2
  have q3 : decide (64 < (b : Int)) = false := decide_eq_false g3
  have q4 : decide (b < a) = false := decide_eq_false g4
  clear h hn
  go_enter Try.func41, Try.ntmps41
  go_wp2
  go_ret2
  exact ⟨rfl, Hres.out.1, Hres.out.2⟩
/-- both sides: the program's memory and region, the reference's, and a block X beside them -/
structure J1 (W0 : World) (m r rb rr room t : Nat) (v : VS) (base top limit : Nat) (v2 : VS) (top2 : Nat) (K : List (Nat × Obj)) (S T : Nat → Prop) (w : World) : Prop where
  vm : Vm S m 64 4 room t v w
  ref : Rr T rb rr room v2 base top2 limit w
  apart : Apart S T
  upS : Fr.Up W0.heap.size S
  upT : Fr.Up W0.heap.size T
  below : Below W0.heap.size W0 w
  reg : w.heap[r]? = some (.cells #[.pointer (some ⟨m, 0, none⟩), .int .i64 base, .int .i64 top, .int .i64 limit] 169 (0, 0))
  low : W0.heap.size ≤ r
  rS : ¬ S r
  rT : ¬ T r
  le : base ≤ top ∧ top ≤ limit ∧ limit ≤ 64
  out : ∀ x ∈ K, ¬ S x.1 ∧ ¬ T x.1 ∧ x.1 ≠ r ∧ w.heap[x.1]? = some x.2
def J (W0 : World) (m r rb rr room t : Nat) (v : VS) (base top limit : Nat) (v2 : VS) (top2 : Nat) (K : List (Nat × Obj)) (w : World) : Prop := ∃ S T, J1 W0 m r rb rr room t v base top limit v2 top2 K S T w
/-- the blocks of T with what they hold -/
theorem tl_ex (T : Nat → Prop) (w : World) : ∃ L : List (Nat × Obj), ∀ x, x ∈ L ↔ T x.1 ∧ w.heap[x.1]? = some x.2 := by
  have inst : ∀ k, Decidable (T k) := fun k => Classical.propDecidable (T k)
  refine ⟨(List.range w.heap.size).filterMap fun k => if T k then w.heap[k]?.map fun o => (k, o) else none, fun x => ?_⟩
  rw [List.mem_filterMap]
  constructor
  · rintro ⟨k, hk, h⟩
    split at h
    · rename_i hT
      obtain ⟨o, ho, e⟩ := Option.map_eq_some_iff.1 h
      subst e
      exact ⟨hT, ho⟩
    · cases h
  · rintro ⟨h1, h2⟩
    refine ⟨x.1, List.mem_range.2 (block_lt h2), ?_⟩
    rw [if_pos h1, h2]
    rfl
section
variable {W0 : World} {m r rb rr room t t' : Nat} {v v' : VS} {base top top' limit : Nat} {v2 v2' : VS} {top2 top2' : Nat} {K : List (Nat × Obj)} {w w' : World}
theorem J.bk (h : J W0 m r rb rr room t v base top limit v2 top2 K w) : ∃ T L, (∀ x, x ∈ L ↔ T x.1 ∧ w.heap[x.1]? = some x.2) ∧ (∀ k, T k → ∃ o, w.heap[k]? = some o) ∧ BK W0 m r 64 4 room t v base top limit (K ++ L) w ∧ Rr T rb rr room v2 base top2 limit w ∧ Fr.Up W0.heap.size T ∧ ¬ T r ∧ ∀ x ∈ K, ¬ T x.1 := by
  obtain ⟨S, T, c⟩ := h
  obtain ⟨L, hL⟩ := tl_ex T w
  refine ⟨T, L, hL, fun k hk => ⟨w.heap[k]'(c.ref.ins k hk), Array.getElem?_eq_getElem (c.ref.ins k hk)⟩, ⟨⟨S, c.vm, c.upS, c.below, fun x hx => ?_⟩, c.low, fun x hx => ?_, c.le⟩, c.ref, c.upT, c.rT, fun x hx => (c.out x hx).2.1⟩
  · simp only [List.mem_cons, List.mem_append] at hx
    rcases hx with rfl | hx | hx
    · exact ⟨c.rS, c.reg⟩
    · exact ⟨(c.out x hx).1, (c.out x hx).2.2.2⟩
    · have := (hL _).1 hx
      exact ⟨fun s => c.apart _ s this.1, this.2⟩
  · simp only [List.mem_append] at hx
    rcases hx with hx | hx
    · exact (c.out x hx).2.2.1
    · rintro rfl
      exact c.rT ((hL _).1 hx).1
/-- an operation of the program -/
theorem J.prog (h : J W0 m r rb rr room t v base top limit v2 top2 K w) {f : FuncId} {args : Array Value} {R : Ending} (op : ∀ K', BK W0 m r 64 4 room t v base top limit K' w → Calls Try.prog f args w fun e w' => e = R ∧ BK W0 m r 64 4 room t' v' base top' limit K' w') :
    Calls Try.prog f args w fun e w' => e = R ∧ J W0 m r rb rr room t' v' base top' limit v2 top2 K w' := by
  obtain ⟨T, L, hL, hT, hB, hR, hU, h1, h2⟩ := h.bk
  refine (op _ hB).mono fun e w' ⟨he, hB'⟩ => ⟨he, ?_⟩
  obtain ⟨S, hv, hu, hbl, hk⟩ := hB'.vk
  have hsame : ∀ k, T k → w'.heap[k]? = w.heap[k]? := fun k hk2 => by
    obtain ⟨o, ho⟩ := hT k hk2
    have := hk (k, o) (List.mem_cons_of_mem _ (List.mem_append_right _ ((hL _).2 ⟨hk2, ho⟩)))
    rw [this.2, ho]
  refine ⟨S, T, hv, hR.same hsame, fun k s tk => ?_, hu, hU, hbl, hB'.head, hB'.low, (hk (r, RB m base top' limit) (List.mem_cons_self ..)).1, h1, hB'.le, fun x hx => ?_⟩
  · obtain ⟨o, ho⟩ := hT k tk
    exact (hk (k, o) (List.mem_cons_of_mem _ (List.mem_append_right _ ((hL _).2 ⟨tk, ho⟩)))).1 s
  · have := hk x (List.mem_cons_of_mem _ (List.mem_append_left _ hx))
    exact ⟨this.1, h2 x hx, hB'.apart x (List.mem_append_left _ hx), this.2⟩
/-- an operation of the reference -/
theorem J.refer (h : J W0 m r rb rr room t v base top limit v2 top2 K w) {f : FuncId} {args : Array Value} {R : Ending} (op : ∀ T, Rr T rb rr room v2 base top2 limit w → Calls Try.prog f args w fun e w' => e = R ∧ RrDid T rb rr room v2' base top2' limit w w') :
    Calls Try.prog f args w fun e w' => e = R ∧ J W0 m r rb rr room t v base top limit v2' top2' K w' := by
  obtain ⟨S, T, c⟩ := h
  refine (op T c.ref).mono fun e w' ⟨he, T', k1, k2, k3⟩ => ⟨he, S, T', c.vm.keep k2 c.apart, k1, (k3.apart c.apart.symm c.vm.in).symm, c.upS, fun k hk => ?_, c.below.trans (k2.below c.upT c.below.size), k2.keep c.reg c.rT, c.low, c.rS, fun a => ?_, c.le, fun x hx => ?_⟩
  · rcases k3 k hk with a | a
    · exact c.upT k a
    · have := c.below.size; omega
  · rcases k3 _ a with b | b
    · exact c.rT b
    · have := block_lt c.reg; omega
  · obtain ⟨o1, o2, o3, o4⟩ := c.out x hx
    refine ⟨o1, fun a => ?_, o3, k2.keep o4 o2⟩
    rcases k3 _ a with b | b
    · exact o2 b
    · have := block_lt o4; omega
theorem J.grow (h : J W0 m r rb rr room t v base top limit v2 top2 K w) (c : Below w.heap.size w w') : J W0 m r rb rr room t v base top limit v2 top2 K w' := by
  obtain ⟨S, T, j⟩ := h
  exact ⟨S, T, j.vm.grow c, j.ref.grow c, j.apart, j.upS, j.upT, j.below.trans (c.mono j.below.size), blockB c (Nat.le_refl _) j.reg, j.low, j.rS, j.rT, j.le, fun x hx => ⟨(j.out x hx).1, (j.out x hx).2.1, (j.out x hx).2.2.1, blockB c (Nat.le_refl _) (j.out x hx).2.2.2⟩⟩
theorem J.drewN (h : J W0 m r rb rr room t v base top limit v2 top2 K w) (n : Nat) : J W0 m r rb rr room t v base top limit v2 top2 K (w.drewN n) := h.grow (Fr.below_drewN' n w)
theorem J.drew (h : J W0 m r rb rr room t v base top limit v2 top2 K w) : J W0 m r rb rr room t v base top limit v2 top2 K w.drew := h.grow (below_drew w)
theorem J.box (h : J W0 m r rb rr room t v base top limit v2 top2 K w) (cs : Array Value) (ty : TypeId) : J W0 m r rb rr room t v base top limit v2 top2 ((w.heap.size, .cells cs ty (0, 0)) :: K) (w.alloc (.cells cs ty)) := by
  have h0 := h.grow (below_new w (.cells cs ty))
  obtain ⟨S0, T0, j0⟩ := h
  refine ⟨S0, T0, j0.vm.grow (below_new w _), j0.ref.grow (below_new w _), j0.apart, j0.upS, j0.upT, j0.below.alloc j0.below.size _, blockB (below_new w _) (Nat.le_refl _) j0.reg, j0.low, j0.rS, j0.rT, j0.le, fun x hx => ?_⟩
  simp only [List.mem_cons] at hx
  rcases hx with rfl | hx
  · exact ⟨fun s => by have := j0.vm.in _ s; simp at this, fun s => by have := j0.ref.ins _ s; simp at this, by have := block_lt j0.reg; simp only []; omega, heap_alloc_new w _⟩
  · exact ⟨(j0.out x hx).1, (j0.out x hx).2.1, (j0.out x hx).2.2.1, blockB (below_new w _) (Nat.le_refl _) (j0.out x hx).2.2.2⟩
theorem J.tail {x : Nat × Obj} (h : J W0 m r rb rr room t v base top limit v2 top2 (x :: K) w) : J W0 m r rb rr room t v base top limit v2 top2 K w := by
  obtain ⟨S, T, j⟩ := h
  exact ⟨S, T, j.vm, j.ref, j.apart, j.upS, j.upT, j.below, j.reg, j.low, j.rS, j.rT, j.le, fun y hy => j.out y (List.mem_cons_of_mem _ hy)⟩
theorem J.more (h : J W0 m r rb rr room t v base top limit v2 top2 K w) (ht : t ≤ t') : J W0 m r rb rr room t' v base top limit v2 top2 K w := by
  obtain ⟨S, T, j⟩ := h
  exact ⟨S, T, j.vm.more ht, j.ref, j.apart, j.upS, j.upT, j.below, j.reg, j.low, j.rS, j.rT, j.le, j.out⟩
theorem J.block (h : J W0 m r rb rr room t v base top limit v2 top2 K w) {X : Nat} {o : Obj} (hx : (X, o) ∈ K) : w.heap[X]? = some o := by
  obtain ⟨S, T, j⟩ := h
  exact (j.out _ hx).2.2.2
theorem J.below (h : J W0 m r rb rr room t v base top limit v2 top2 K w) : Below W0.heap.size W0 w := by
  obtain ⟨S, T, j⟩ := h
  exact j.below
theorem J.rcells (h : J W0 m r rb rr room t v base top limit v2 top2 K w) : w.cell? ⟨rr, 1, none⟩ = some (.int .i64 base) ∧ w.cell? ⟨rr, 2, none⟩ = some (.int .i64 top2) ∧ w.cell? ⟨rr, 3, none⟩ = some (.int .i64 limit) := by
  obtain ⟨S, T, j⟩ := h
  exact j.ref.cells.2
theorem J.dims (h : J W0 m r rb rr room t v base top limit v2 top2 K w) : room ≤ 4096 ∧ v.used ≤ room ∧ v.high ≤ 4096 ∧ limit ≤ 64 ∧ top ≤ limit := by
  obtain ⟨S, T, j⟩ := h
  obtain ⟨-, -, -, h4, h5, h6⟩ := j.vm.dims
  exact ⟨h4.2, h5, h6, j.le.2.2, j.le.2.1⟩
end
end Go.Proofs.Ytkcijlndblbidaa
