/- The walk of Guard. -/
import Derived.Test.YtkcijlndblbidaaTOthers2
namespace Go.Proofs.Ytkcijlndblbidaa
open Go.ChangeShapes Go.WideShapes Go.ChangeAt Go.RowKit
set_option linter.unusedVariables false

section
variable {W0 : World} {m n t B5 : Nat} {g : Nat → Nat} {K E : List (Nat × Obj)} {w : World}
theorem guard1_idle (h : FK W0 m n t g ((B5, .cells #[.nilIface] 20 (0, 0)) :: K) w) (hX : W0.heap.size ≤ B5) (hK : ∀ x ∈ K, x.1 ≠ B5) :
    CallsD Try.prog 124 #[.pointer (some ⟨B5, 0, none⟩)] .returning w fun e u' w' => e = .returned (.tuple #[]) ∧ u' = .returning ∧ FK W0 m n t g ((B5, .cells #[.nilIface] 20 (0, 0)) :: K) w' := by
  have q := h.block (List.mem_cons_self ..)
  have c5 : w.cell? ⟨B5, 0, none⟩ = some .nilIface := at_cell q 0 _ rfl
  have f5 := at_free q 0
  have H := Lib.hid (h.set hX hK 0 .nilIface)
  clear h q hK
  refine callsD_of_wpS Try.func124 rfl fun c₀ cs hu => ?_
  apply wpS_region
  simp [wpOpsS, go_sem, recoverD, hu, Try.ntmps124, c5, f5]
  cases c₀
  simp_all [bodyPostS, results, Try.results124]
  exact H.out
theorem guard1_caught (h : FK W0 m n t g ((B5, .cells #[.nilIface] 20 (0, 0)) :: K) w) (hX : W0.heap.size ≤ B5) (hK : ∀ x ∈ K, x.1 ≠ B5) (T : TypeId) (v : Value) (older : List PanicEntry) :
    CallsD Try.prog 124 #[.pointer (some ⟨B5, 0, none⟩)] (.panicking ({ v := .iface T v, recovered := false } :: older)) w fun e u' w' => e = .returned (.tuple #[]) ∧ u' = .panicking ({ v := .iface T v, recovered := true } :: older) ∧ FK W0 m n t g ((B5, .cells #[.iface T v] 20 (0, 0)) :: K) w' := by
  have q := h.block (List.mem_cons_self ..)
  have c5 : w.cell? ⟨B5, 0, none⟩ = some .nilIface := at_cell q 0 _ rfl
  have f5 := at_free q 0
  have H := Lib.hid (h.set hX hK 0 (.iface T v))
  clear h q hK
  refine callsD_of_wpS Try.func124 rfl fun c₀ cs hu => ?_
  apply wpS_region
  simp [wpOpsS, go_sem, recoverD, hu, Try.ntmps124, c5, f5]
  cases c₀
  simp_all [bodyPostS, results, Try.results124]
  exact H.out
theorem swap2 {a b : Nat × Obj} {L : List (Nat × Obj)} : ∀ x ∈ b :: a :: L, x ∈ a :: b :: L := by
  intro x hx
  simp only [List.mem_cons] at hx ⊢
  rcases hx with h | h | h
  · exact .inr (.inl h)
  · exact .inl h
  · exact .inr (.inr h)
theorem FK.old (h : FK W0 m n t g E w) : ∀ x ∈ E, x.1 < w.heap.size := fun x hx => block_lt (h.block (o := x.2) (X := x.1) hx)
set_option maxRecDepth 100000 in
theorem guard_ret {f : Value} {er a : Int} {g' : Nat → Nat} (hr : ∀ B W, FK W0 m n t g (B ++ E) W → Calls Try.prog 52 #[.iface 26 (.pointer (some ⟨m, 0, none⟩)), f] W fun e' W' => e' = .returned (.agg #[.int .i64 er, .int .i64 a]) ∧ FK W0 m n t g' (B ++ E) W')
    (h : FK W0 m n t g E w) :
    Calls Try.prog 66 #[.iface 26 (.pointer (some ⟨m, 0, none⟩)), f] w fun e' W' => e' = .returned (.tuple #[.agg #[.int .i64 er, .int .i64 a], .nilIface]) ∧ FK W0 m n t g' E W' := by
  have hmf : ∀ (fn : Fn) (first cap : Array Value) (w : World), (Instr.makeFunc fn first cap).run Try.prog w = .ok (.func fn first cap) w := fun _ _ _ _ => rfl
  have Hold := Lib.hid h.old
  have hW0 := h.below.size
  have hB := (h.box #[.int .i64 0, .int .i64 0] 83).box #[.nilIface] 20
  rw [heap_size_alloc] at hB
  have HR := Lib.hid (hr [_, _] _ hB)
  clear h hB hr
  go_enter_defers Try.func66, Try.ntmps66
  go_wp2_with (fail)
  refine HR.out.mono ?_
  rintro e1 w1 ⟨rfl, h1⟩
  simp only [List.cons_append, List.nil_append] at h1
  have h2 : FK W0 m n t g' ((w.heap.size, .cells #[.int .i64 0, .int .i64 0] 83 (0, 0)) :: (w.heap.size + 1, .cells #[.nilIface] 20 (0, 0)) :: E) w1 := h1.sub swap2
  have q := h2.block (List.mem_cons_self ..)
  have q2 := h2.block (List.mem_cons_of_mem _ (List.mem_cons_self ..))
  have f4 := at_free q 0
  have f5 := at_free q 1
  have f6 := at_free q2 0
  have d4 := at_cell q 0 _ rfl
  have d5 := at_cell q 1 _ rfl
  have d6 := at_cell q2 0 _ rfl
  have away : ∀ x ∈ (w.heap.size + 1, Obj.cells #[.nilIface] 20 (0, 0)) :: E, x.1 ≠ w.heap.size := fun x hx => by
    simp only [List.mem_cons] at hx
    rcases hx with rfl | hx
    · simp
    · have := Hold.out x hx; omega
  have h3 := (h2.set hW0 away 0 (.int .i64 er)).set hW0 away 1 (.int .i64 a)
  have away2 : ∀ x ∈ (w.heap.size, Obj.cells ((#[Value.int IntKind.i64 0, .int .i64 0].setIfInBounds 0 (.int .i64 er)).setIfInBounds 1 (.int .i64 a)) 83 (0, 0)) :: E, x.1 ≠ w.heap.size + 1 := fun x hx => by
    simp only [List.mem_cons] at hx
    rcases hx with rfl | hx
    · simp
    · have := Hold.out x hx; omega
  have h4 := (h3.sub (K' := (w.heap.size + 1, .cells #[.nilIface] 20 (0, 0)) :: (w.heap.size, Obj.cells ((#[Value.int IntKind.i64 0, .int .i64 0].setIfInBounds 0 (.int .i64 er)).setIfInBounds 1 (.int .i64 a)) 83 (0, 0)) :: E) swap2).set (by omega) away2 0 .nilIface
  have H4 := Lib.hid h4
  have Haw := Lib.hid away2
  clear h1 h2 h3 h4 q q2 away away2
  go_wp2
  obtain ⟨w2, hw2⟩ : ∃ w2, ((w1.setCell ⟨w.heap.size, 0, none⟩ (.int .i64 er)).setCell ⟨w.heap.size, 1, none⟩ (.int .i64 a)).setCell ⟨w.heap.size + 1, 0, none⟩ .nilIface = w2 := ⟨_, rfl⟩
  have h5 : FK W0 m n t g' ((w.heap.size + 1, .cells #[.nilIface] 20 (0, 0)) :: (w.heap.size, Obj.cells ((#[Value.int IntKind.i64 0, .int .i64 0].setIfInBounds 0 (.int .i64 er)).setIfInBounds 1 (.int .i64 a)) 83 (0, 0)) :: E) w2 := by rw [← hw2]; exact H4.out
  rw [hw2]
  refine leaves_cons (f := 124) (args := #[.pointer (some ⟨w.heap.size + 1, 0, none⟩)]) (by simp) (by simp [go_sem]) ?_
  refine (guard1_idle h5 (by omega) Haw.out).mono ?_
  rintro e u' w3 ⟨rfl, rfl, h6⟩
  have hb2 := h6.block (List.mem_cons_of_mem _ (List.mem_cons_self ..))
  have hb3 := h6.block (List.mem_cons_self ..)
  have q4 : w3.cell? ⟨w.heap.size, 0, none⟩ = some (.int .i64 er) := at_cell hb2 0 _ rfl
  have q5 : w3.cell? ⟨w.heap.size, 1, none⟩ = some (.int .i64 a) := at_cell hb2 1 _ rfl
  have q6 : w3.cell? ⟨w.heap.size + 1, 0, none⟩ = some .nilIface := at_cell hb3 0 _ rfl
  simp [Leaves, settle, results, Try.results66, go_sem, q4, q5, q6]
  exact h6.tail.tail
set_option maxRecDepth 100000 in
theorem guard_panics {f : Value} {T : TypeId} {v : Value} {older : List PanicEntry} {g' : Nat → Nat} (hgo : older.dropWhile (fun x => !x.goexit) = []) (hr : ∀ B W, FK W0 m n t g (B ++ E) W → Calls Try.prog 52 #[.iface 26 (.pointer (some ⟨m, 0, none⟩)), f] W fun e' W' => e' = .panicked ({ v := .iface T v, recovered := false } :: older) ∧ FK W0 m n t g' (B ++ E) W')
    (h : FK W0 m n t g E w) :
    Calls Try.prog 66 #[.iface 26 (.pointer (some ⟨m, 0, none⟩)), f] w fun e' W' => e' = .returned (.tuple #[.agg #[.int .i64 0, .int .i64 0], .iface T v]) ∧ FK W0 m n t g' E W' := by
  have hmf : ∀ (fn : Fn) (first cap : Array Value) (w : World), (Instr.makeFunc fn first cap).run Try.prog w = .ok (.func fn first cap) w := fun _ _ _ _ => rfl
  have Hold := Lib.hid h.old
  have hW0 := h.below.size
  have hB := (h.box #[.int .i64 0, .int .i64 0] 83).box #[.nilIface] 20
  rw [heap_size_alloc] at hB
  have HR := Lib.hid (hr [_, _] _ hB)
  clear h hB hr
  go_enter_defers Try.func66, Try.ntmps66
  go_wp2_with (fail)
  refine HR.out.mono ?_
  rintro e1 w1 ⟨rfl, h1⟩
  simp only [List.cons_append, List.nil_append] at h1
  have away : ∀ x ∈ (w.heap.size, Obj.cells #[.int .i64 0, .int .i64 0] 83 (0, 0)) :: E, x.1 ≠ w.heap.size + 1 := fun x hx => by
    simp only [List.mem_cons] at hx
    rcases hx with rfl | hx
    · simp
    · have := Hold.out x hx; omega
  have H1 := Lib.hid h1
  have Haw := Lib.hid away
  clear h1 away
  go_wp2
  refine leaves_cons (f := 124) (args := #[.pointer (some ⟨w.heap.size + 1, 0, none⟩)]) (by simp) (by simp [go_sem]) ?_
  refine (guard1_caught H1.out (by omega) Haw.out T v _).mono ?_
  rintro e u' w3 ⟨rfl, rfl, h6⟩
  have hb2 := h6.block (List.mem_cons_of_mem _ (List.mem_cons_self ..))
  have hb3 := h6.block (List.mem_cons_self ..)
  have q4 : w3.cell? ⟨w.heap.size, 0, none⟩ = some (.int .i64 0) := at_cell hb2 0 _ rfl
  have q5 : w3.cell? ⟨w.heap.size, 1, none⟩ = some (.int .i64 0) := at_cell hb2 1 _ rfl
  have q6 : w3.cell? ⟨w.heap.size + 1, 0, none⟩ = some (.iface T v) := at_cell hb3 0 _ rfl
  simp [Leaves, settle, results, Try.results66, go_sem, q4, q5, q6, hgo]
  exact h6.tail.tail
end
end Go.Proofs.Ytkcijlndblbidaa
