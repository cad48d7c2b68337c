/- The walk of Run. -/
import Derived.Test.YtkcijlndblbidaaTPart
namespace Go.Proofs.Ytkcijlndblbidaa
open Go.ChangeShapes Go.WideShapes Go.ChangeAt Go.RowKit
set_option linter.unusedVariables false

section
variable {W0 : World} {m wk n t : Nat} {g : Nat → Nat} {l : List (Nat × Nat)} {E K : List (Nat × Obj)} {w w' : World}
theorem FK.work (h : FK W0 m n t g K w) : TW W0 m w.heap.size n t g [] K (w.alloc (.cells #[.iface 26 (.pointer (some ⟨m, 0, none⟩)), .slice none 0 0] 186)) := by
  obtain ⟨v, ⟨S, h1, h2, h3, h4⟩, hv⟩ := h
  refine ⟨none, 0, S, v, h1.grow (below_new w _), hv, heap_alloc_new w _, World.ownsRow_nil _ _ _ _, h2, h3.alloc h3.size _, (fun hs => ?_), h3.size, (fun ad e => ?_), (fun x hx => ⟨(h4 x hx).1, ?_, blockB (below_new w _) (Nat.le_refl _) (h4 x hx).2⟩), (fun e he => ?_)⟩
  · have := h1.in _ hs
    simp at this
  · cases e
  · have := block_lt (h4 x hx).2
    omega
  · cases he
theorem TW.full (h : TW W0 m wk n t g l K w) : FK W0 m n t g K w := by
  obtain ⟨al, cap, S, v, h⟩ := h
  exact ⟨v, ⟨S, h.vm, h.upS, h.below, fun x hx => ⟨(h.outk x hx).1, (h.outk x hx).2.2⟩⟩, h.words⟩
theorem FK.away {B4 s : Nat} {cs : Array Value} (h : FK W0 m n t g ((B4, .cells cs 83 (0, 0)) :: (E ++ K)) w) (hE : ∀ x ∈ E, x.1 < s) (h4 : s ≤ B4) (hK : ∀ x ∈ K, ∀ cs, x.2 ≠ .cells cs 83 (0, 0)) : ∀ x ∈ E ++ K, x.1 ≠ B4 := by
  intro x hx
  have h1 : w.heap[x.1]? = some x.2 := h.block (List.mem_cons_of_mem _ hx)
  have h2 : w.heap[B4]? = some (.cells cs 83 (0, 0)) := h.block (List.mem_cons_self ..)
  rcases List.mem_append.1 hx with hx | hx
  · have := hE x hx
    omega
  · intro e
    rw [e, h2] at h1
    exact hK x hx cs (Option.some.inj h1).symm
set_option maxRecDepth 100000 in
/-- Run, where part answers a fault (er, a) -/
theorem run_ret {F : FuncId} {caps : Array Value} {er a : Int} {R : (Nat → Nat) → List (Nat × Obj) → Prop}
    (hp : ∀ wk E W, TW W0 m wk n t g [] (E ++ K) W → Calls Try.prog 122 #[.pointer (some ⟨wk, 0, none⟩), .func (.func F) #[] caps] W fun e' W' => e' = .returned (.agg #[.int .i64 er, .int .i64 a]) ∧ ∃ g' l' K', R g' K' ∧ (∀ x ∈ K', ∀ cs, x.2 ≠ .cells cs 83 (0, 0)) ∧ TW W0 m wk n t g' l' (E ++ K') W')
    (E : List (Nat × Obj)) (w : World) (h : FK W0 m n t g (E ++ K) w) :
    Calls Try.prog 52 #[.iface 26 (.pointer (some ⟨m, 0, none⟩)), .func (.func F) #[] caps] w fun e' W' => e' = .returned (.agg #[.int .i64 er, .int .i64 a]) ∧ ∃ g' K', R g' K' ∧ (∀ x ∈ K', ∀ cs, x.2 ≠ .cells cs 83 (0, 0)) ∧ FK W0 m n t g' (E ++ K') W' := by
  have Hold := Lib.hid (fun x (hx : x ∈ E) => block_lt (h.block (o := x.2) (X := x.1) (List.mem_append_left _ hx)))
  have hW0 := h.below.size
  have hT := (h.box #[.int .i64 0, .int .i64 0] 83).work
  have HP := Lib.hid (hp _ ((_, .cells #[.int .i64 0, .int .i64 0] 83 (0, 0)) :: E) _ hT)
  clear h hp hT
  go_enter Try.func52, Try.ntmps52
  go_wp2_with (go_at_call 122; have hp := HP.out; simp only [heap_size_alloc] at hp; refine hp.mono ?_; rintro e1 w1 ⟨rfl, g1, l1, K1, hr, hk1, h1⟩; have hf := h1.full; simp only [List.cons_append] at hf; have hw := hf.away Hold.out (Nat.le_refl _) hk1; have hb4 := hf.block (List.mem_cons_self ..); have f4 := at_free hb4 0; have f5 := at_free hb4 1; have d4 := at_cell hb4 0 _ rfl; have d5 := at_cell hb4 1 _ rfl; have H1 := Lib.hid ((hf.set (by omega) hw 0 (.int .i64 er)).set (by omega) hw 1 (.int .i64 a)); have HR := Lib.hid hr; have HK1 := Lib.hid hk1; clear h1 hf hw hb4 hr hk1 hp)
  obtain ⟨w2, hw2⟩ : ∃ w2, (w1.setCell ⟨w.heap.size, 0, none⟩ (.int .i64 er)).setCell ⟨w.heap.size, 1, none⟩ (.int .i64 a) = w2 := ⟨_, rfl⟩
  have h2 : FK W0 m n t g1 ((w.heap.size, .cells #[.int .i64 er, .int .i64 a] 83 (0, 0)) :: (E ++ K1)) w2 := by rw [← hw2]; exact H1.out
  rw [hw2]
  have hb2 := h2.block (List.mem_cons_self ..)
  have q4 : w2.cell? ⟨w.heap.size, 0, none⟩ = some (.int .i64 er) := at_cell hb2 0 _ rfl
  have q5 : w2.cell? ⟨w.heap.size, 1, none⟩ = some (.int .i64 a) := at_cell hb2 1 _ rfl
  exact bodyPost_ret (v := .agg #[.int .i64 er, .int .i64 a]) (by simp [results, Try.results52, go_sem, q4, q5]) rfl ⟨rfl, g1, K1, HR.out, HK1.out, h2.tail⟩
set_option maxRecDepth 100000 in
/-- Run, where part panics -/
theorem run_panics {F : FuncId} {caps : Array Value} {chain : List PanicEntry} {R : (Nat → Nat) → List (Nat × Obj) → Prop}
    (hp : ∀ wk E W, TW W0 m wk n t g [] (E ++ K) W → Calls Try.prog 122 #[.pointer (some ⟨wk, 0, none⟩), .func (.func F) #[] caps] W fun e' W' => e' = .panicked chain ∧ ∃ g' l' K', R g' K' ∧ (∀ x ∈ K', ∀ cs, x.2 ≠ .cells cs 83 (0, 0)) ∧ TW W0 m wk n t g' l' (E ++ K') W')
    (E : List (Nat × Obj)) (w : World) (h : FK W0 m n t g (E ++ K) w) :
    Calls Try.prog 52 #[.iface 26 (.pointer (some ⟨m, 0, none⟩)), .func (.func F) #[] caps] w fun e' W' => e' = .panicked chain ∧ ∃ g' K', R g' K' ∧ (∀ x ∈ K', ∀ cs, x.2 ≠ .cells cs 83 (0, 0)) ∧ FK W0 m n t g' (E ++ K') W' := by
  have hT := (h.box #[.int .i64 0, .int .i64 0] 83).work
  have HP := Lib.hid (hp _ ((_, .cells #[.int .i64 0, .int .i64 0] 83 (0, 0)) :: E) _ hT)
  clear h hp hT
  go_enter Try.func52, Try.ntmps52
  go_wp2_with (go_at_call 122; have hp := HP.out; simp only [heap_size_alloc] at hp; refine hp.mono ?_; rintro e1 w1 ⟨rfl, g1, l1, K1, hr, hk1, h1⟩; have hf := h1.full; simp only [List.cons_append] at hf; have H1 := Lib.hid hf.tail; have HR := Lib.hid hr; have HK1 := Lib.hid hk1; clear h1 hf hr hk1 hp)
  exact ⟨rfl, rfl, g1, K1, HR.out, HK1.out, H1.out⟩
set_option maxRecDepth 100000 in
/-- Part of a Work, where part answers a fault (er, a) -/
theorem part_ret {f : Value} {er a : Int} {R : (Nat → Nat) → List (Nat × Nat) → List (Nat × Obj) → Prop}
    (hp : ∀ E W, TW W0 m wk n t g l (E ++ K) W → Calls Try.prog 122 #[.pointer (some ⟨wk, 0, none⟩), f] W fun e' W' => e' = .returned (.agg #[.int .i64 er, .int .i64 a]) ∧ ∃ g' l' K', R g' l' K' ∧ (∀ x ∈ K', ∀ cs, x.2 ≠ .cells cs 83 (0, 0)) ∧ TW W0 m wk n t g' l' (E ++ K') W')
    (E : List (Nat × Obj)) (w : World) (h : TW W0 m wk n t g l (E ++ K) w) :
    Calls Try.prog 61 #[.pointer (some ⟨wk, 0, none⟩), f] w fun e' W' => e' = .returned (.agg #[.int .i64 er, .int .i64 a]) ∧ ∃ g' l' K', R g' l' K' ∧ (∀ x ∈ K', ∀ cs, x.2 ≠ .cells cs 83 (0, 0)) ∧ TW W0 m wk n t g' l' (E ++ K') W' := by
  have Hold := Lib.hid h.old
  have hW0 := h.below.size
  have hT := h.box #[.int .i64 0, .int .i64 0] 83
  have c0 := hT.space
  have he := space_eql ⟨m, 0, none⟩
  have HP := Lib.hid (hp ((_, .cells #[.int .i64 0, .int .i64 0] 83 (0, 0)) :: E) _ hT)
  clear h hp hT
  go_enter Try.func61, Try.ntmps61
  go_wp2_with (go_at_call 122; have hp := HP.out; refine hp.mono ?_; rintro e1 w1 ⟨rfl, g1, l1, K1, hr, hk1, h1⟩; simp only [List.cons_append] at h1; have hw := h1.full.away Hold.out (Nat.le_refl _) hk1; have hb4 := h1.block (List.mem_cons_self ..); have f4 := at_free hb4 0; have f5 := at_free hb4 1; have d4 := at_cell hb4 0 _ rfl; have d5 := at_cell hb4 1 _ rfl; have H1 := Lib.hid ((h1.set (by omega) hw 0 (.int .i64 er)).set (by omega) hw 1 (.int .i64 a)); have HR := Lib.hid hr; have HK1 := Lib.hid hk1; clear h1 hw hb4 hr hk1 hp)
  obtain ⟨w2, hw2⟩ : ∃ w2, (w1.setCell ⟨w.heap.size, 0, none⟩ (.int .i64 er)).setCell ⟨w.heap.size, 1, none⟩ (.int .i64 a) = w2 := ⟨_, rfl⟩
  have h2 : TW W0 m wk n t g1 l1 ((w.heap.size, .cells #[.int .i64 er, .int .i64 a] 83 (0, 0)) :: (E ++ K1)) w2 := by rw [← hw2]; exact H1.out
  rw [hw2]
  have hb2 := h2.block (List.mem_cons_self ..)
  have q4 : w2.cell? ⟨w.heap.size, 0, none⟩ = some (.int .i64 er) := at_cell hb2 0 _ rfl
  have q5 : w2.cell? ⟨w.heap.size, 1, none⟩ = some (.int .i64 a) := at_cell hb2 1 _ rfl
  exact bodyPost_ret (v := .agg #[.int .i64 er, .int .i64 a]) (by simp [results, Try.results61, go_sem, q4, q5]) rfl ⟨rfl, g1, l1, K1, HR.out, HK1.out, h2.tail⟩
end
end Go.Proofs.Ytkcijlndblbidaa
