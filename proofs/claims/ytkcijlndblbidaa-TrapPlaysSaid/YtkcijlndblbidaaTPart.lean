/- The walk of part: its piece of work ends, throws a fault, or panics with something else. -/
import Derived.Test.YtkcijlndblbidaaTPart1
namespace Go.Proofs.Ytkcijlndblbidaa
open Go.ChangeShapes Go.WideShapes Go.ChangeAt Go.RowKit
set_option linter.unusedVariables false

section
variable {W0 : World} {m wk n t : Nat} {g : Nat → Nat} {l : List (Nat × Nat)} {E K : List (Nat × Obj)} {w w' : World}
/-- what a piece of work F (with captured values) may rest on, and how it ends: at e; R tells the words, the log and the blocks behind it -/
def Does (W0 : World) (m wk n t : Nat) (F : FuncId) (caps : Array Value) (g : Nat → Nat) (l : List (Nat × Nat)) (K : List (Nat × Obj)) (e : Ending) (R : (Nat → Nat) → List (Nat × Nat) → List (Nat × Obj) → Prop) : Prop :=
  ∀ E W, TW W0 m wk n t g l (E ++ K) W → Calls Try.prog F (#[.pointer (some ⟨wk, 0, none⟩)] ++ caps) W fun e' W' => e' = e ∧ ∃ g' l' K', R g' l' K' ∧ (∀ x ∈ K', ∀ cs, x.2 ≠ .cells cs 83 (0, 0)) ∧ TW W0 m wk n t g' l' (E ++ K') W'
theorem heap_size_alloc (w : World) (o : Obj) : (w.alloc o).heap.size = w.heap.size + 1 := by simp
theorem TW.old (h : TW W0 m wk n t g l (E ++ K) w) : ∀ x ∈ E, x.1 < w.heap.size := fun x hx => block_lt (h.block (o := x.2) (X := x.1) (List.mem_append_left _ hx))
theorem TW.away {B2 B4 B5 s : Nat} {o2 o5 : Obj} {cs : Array Value} (h : TW W0 m wk n t g l ((B5, o5) :: (B4, .cells cs 83 (0, 0)) :: (B2, o2) :: (E ++ K)) w) (h5 : B5 ≠ B4) (h2 : B2 ≠ B4) (hE : ∀ x ∈ E, x.1 < s) (h4 : s ≤ B4) (hK : ∀ x ∈ K, ∀ cs, x.2 ≠ .cells cs 83 (0, 0)) :
    ∀ x ∈ (B5, o5) :: (B2, o2) :: (E ++ K), x.1 ≠ B4 := by
  intro x hx
  simp only [List.mem_cons, List.mem_append] at hx
  rcases hx with rfl | rfl | hx | hx
  · exact h5
  · exact h2
  · have := hE x hx
    omega
  · intro e
    have h1 : w.heap[x.1]? = some x.2 := h.block (by simp only [List.mem_cons, List.mem_append]; exact .inr (.inr (.inr (.inr hx))))
    have h2 : w.heap[B4]? = some (.cells cs 83 (0, 0)) := h.block (by simp)
    rw [e, h2] at h1
    exact hK x hx cs (Option.some.inj h1).symm
theorem swap4 {B2 B4 B5 : Nat} {o2 o4 o5 : Obj} {L : List (Nat × Obj)} : ∀ x ∈ (B4, o4) :: (B5, o5) :: (B2, o2) :: L, x ∈ (B5, o5) :: (B4, o4) :: (B2, o2) :: L := by
  intro x hx
  simp only [List.mem_cons] at hx ⊢
  rcases hx with h | h | h | h
  · exact .inr (.inl h)
  · exact .inl h
  · exact .inr (.inr (.inl h))
  · exact .inr (.inr (.inr h))
theorem rest3 {a b c : Nat × Obj} {L : List (Nat × Obj)} : ∀ x ∈ L, x ∈ a :: b :: c :: L := fun x hx => List.mem_cons_of_mem _ (List.mem_cons_of_mem _ (List.mem_cons_of_mem _ hx))
set_option maxRecDepth 100000 in
theorem part_ok {F : FuncId} {caps : Array Value} (hF : ∀ args w, (callFunc F args).run Try.prog w = .ok (.enter F args) w) {R : (Nat → Nat) → List (Nat × Nat) → List (Nat × Obj) → Prop}
    (hd : Does W0 m wk n t F caps g l K (.returned (.tuple #[])) R) (E : List (Nat × Obj)) (w : World) (h : TW W0 m wk n t g l (E ++ K) w) :
    Calls Try.prog 122 #[.pointer (some ⟨wk, 0, none⟩), .func (.func F) #[] caps] w fun e' W' => e' = .returned (.agg #[.int .i64 0, .int .i64 0]) ∧ ∃ g' l' K', R g' l' K' ∧ (∀ x ∈ K', ∀ cs, x.2 ≠ .cells cs 83 (0, 0)) ∧ TW W0 m wk n t g' l' (E ++ K') W' := by
  have hmf : ∀ (fn : Fn) (first cap : Array Value) (w : World), (Instr.makeFunc fn first cap).run Try.prog w = .ok (.func fn first cap) w := fun _ _ _ _ => rfl
  have hB2 := h.box #[.pointer (some ⟨wk, 0, none⟩)] 85
  have hB4 := hB2.box #[.int .i64 0, .int .i64 0] 83
  have hB5 := hB4.box #[.int .i64 l.length] 3
  obtain ⟨al, cap, c1⟩ := hB4.log
  clear hB2 hB4
  have Hold := Lib.hid h.old
  have hW0 := h.below.size
  have HD := Lib.hid hd
  have H := Lib.hid hB5
  clear h hB5 hd
  go_enter_defers Try.func122, Try.ntmps122
  go_wp2_with (fail)
  refine (HD.out ((_, .cells #[.int .i64 l.length] 3 (0, 0)) :: (_, .cells #[.int .i64 0, .int .i64 0] 83 (0, 0)) :: (_, .cells #[.pointer (some ⟨wk, 0, none⟩)] 85 (0, 0)) :: E) _ H.out).mono ?_
  rintro e1 w1 ⟨rfl, g1, l1, K1, hr, hk1, h1⟩
  simp only [heap_size_alloc, List.cons_append] at h1
  have hw := h1.away (by omega) (by omega) Hold.out (by omega) hk1
  have hb4 := h1.block (X := w.heap.size + 1) (o := .cells #[.int .i64 0, .int .i64 0] 83 (0, 0)) (by simp)
  have f4 := at_free hb4 0
  have f5 := at_free hb4 1
  have d4 := at_cell hb4 0 _ rfl
  have d5 := at_cell hb4 1 _ rfl
  have H1 := Lib.hid (((h1.sub swap4).set (by omega) hw 0 (.int .i64 0)).set (by omega) hw 1 (.int .i64 0))
  have HR := Lib.hid hr
  have HK1 := Lib.hid hk1
  clear h1 hw hb4 hr hk1
  go_wp2
  refine leaves_cons (f := 153) (args := #[.pointer (some ⟨w.heap.size, 0, none⟩), .pointer (some ⟨w.heap.size + 1 + 1, 0, none⟩), .pointer (some ⟨w.heap.size + 1, 0, none⟩)]) (by simp) (by simp [go_sem]) ?_
  refine (part1_idle _).mono ?_
  rintro e u' w'' ⟨rfl, rfl, rfl⟩
  obtain ⟨w2, hw2⟩ : ∃ w2, (w1.setCell ⟨w.heap.size + 1, 0, none⟩ (.int .i64 0)).setCell ⟨w.heap.size + 1, 1, none⟩ (.int .i64 0) = w2 := ⟨_, rfl⟩
  have h2 : TW W0 m wk n t g1 l1 ((w.heap.size + 1, .cells #[.int .i64 0, .int .i64 0] 83 (0, 0)) :: (w.heap.size + 1 + 1, .cells #[.int .i64 l.length] 3 (0, 0)) :: (w.heap.size, .cells #[.pointer (some ⟨wk, 0, none⟩)] 85 (0, 0)) :: (E ++ K1)) w2 := by rw [← hw2]; exact H1.out
  rw [hw2]
  have hb2 := h2.block (List.mem_cons_self ..)
  have q4 : w2.cell? ⟨w.heap.size + 1, 0, none⟩ = some (.int .i64 0) := at_cell hb2 0 _ rfl
  have q5 : w2.cell? ⟨w.heap.size + 1, 1, none⟩ = some (.int .i64 0) := at_cell hb2 1 _ rfl
  simp [Leaves, settle, results, Try.results122, go_sem, q4, q5]
  exact ⟨g1, l1, K1, HR.out, fun a b hx cs => HK1.out (a, b) hx cs, h2.sub rest3⟩
set_option maxRecDepth 100000 in
theorem part_thrown {F : FuncId} {caps : Array Value} (hF : ∀ args w, (callFunc F args).run Try.prog w = .ok (.enter F args) w) {R : (Nat → Nat) → List (Nat × Nat) → List (Nat × Obj) → Prop} {er a : Int}
    (hd : Does W0 m wk n t F caps g l K (.panicked [{ v := thrownV er a, recovered := false }]) R) (hR : ∀ g' l' K', R g' l' K' → l.length ≤ l'.length ∧ l'.length ≤ 1000000) (E : List (Nat × Obj)) (w : World) (h : TW W0 m wk n t g l (E ++ K) w) :
    Calls Try.prog 122 #[.pointer (some ⟨wk, 0, none⟩), .func (.func F) #[] caps] w fun e' W' => e' = .returned (.agg #[.int .i64 er, .int .i64 a]) ∧ ∃ g' l' K', R g' l' K' ∧ (∀ x ∈ K', ∀ cs, x.2 ≠ .cells cs 83 (0, 0)) ∧ TW W0 m wk n t (undoG g' (l'.drop l.length)) (l'.take l.length) (E ++ K') W' := by
  have hmf : ∀ (fn : Fn) (first cap : Array Value) (w : World), (Instr.makeFunc fn first cap).run Try.prog w = .ok (.func fn first cap) w := fun _ _ _ _ => rfl
  have hB2 := h.box #[.pointer (some ⟨wk, 0, none⟩)] 85
  have hB4 := hB2.box #[.int .i64 0, .int .i64 0] 83
  have hB5 := hB4.box #[.int .i64 l.length] 3
  obtain ⟨al, cap, c1⟩ := hB4.log
  clear hB2 hB4
  have Hold := Lib.hid h.old
  have hW0 := h.below.size
  have HD := Lib.hid hd
  have H := Lib.hid hB5
  have HRR := Lib.hid hR
  clear h hB5 hd hR
  go_enter_defers Try.func122, Try.ntmps122
  go_wp2_with (fail)
  refine (HD.out ((_, .cells #[.int .i64 l.length] 3 (0, 0)) :: (_, .cells #[.int .i64 0, .int .i64 0] 83 (0, 0)) :: (_, .cells #[.pointer (some ⟨wk, 0, none⟩)] 85 (0, 0)) :: E) _ H.out).mono ?_
  rintro e1 w1 ⟨rfl, g1, l1, K1, hr, hk1, h1⟩
  simp only [heap_size_alloc, List.cons_append] at h1
  have hw := h1.away (by omega) (by omega) Hold.out (by omega) hk1
  have hrr := HRR.out _ _ _ hr
  have HPT := Lib.hid (fun older => part1_thrown (B2 := w.heap.size) (B5 := w.heap.size + 1 + 1) (k0 := l.length) (h1.sub swap4) (by simp) (by simp) (by omega) hw hrr.1 hrr.2 er a older)
  have HR := Lib.hid hr
  have HK1 := Lib.hid hk1
  clear h1 hw hr hk1 hrr
  go_wp2
  refine leaves_cons (f := 153) (args := #[.pointer (some ⟨w.heap.size, 0, none⟩), .pointer (some ⟨w.heap.size + 1 + 1, 0, none⟩), .pointer (some ⟨w.heap.size + 1, 0, none⟩)]) (by simp) (by simp [go_sem]) ?_
  refine (HPT.out _).mono ?_
  rintro e u' w2 ⟨rfl, rfl, h2⟩
  have hb2 := h2.block (List.mem_cons_self ..)
  have q4 : w2.cell? ⟨w.heap.size + 1, 0, none⟩ = some (.int .i64 er) := at_cell hb2 0 _ rfl
  have q5 : w2.cell? ⟨w.heap.size + 1, 1, none⟩ = some (.int .i64 a) := at_cell hb2 1 _ rfl
  simp [Leaves, settle, results, Try.results122, go_sem, q4, q5]
  exact ⟨g1, l1, K1, HR.out, fun a b hx cs => HK1.out (a, b) hx cs, h2.sub rest3⟩
set_option maxRecDepth 100000 in
theorem part_other {F : FuncId} {caps : Array Value} (hF : ∀ args w, (callFunc F args).run Try.prog w = .ok (.enter F args) w) {R : (Nat → Nat) → List (Nat × Nat) → List (Nat × Obj) → Prop} {T : TypeId} {v : Value} {older : List PanicEntry} (hta : ∀ w, (Instr.typeAssert (.iface T v) 20 188 true).run Try.prog w = .ok (.tuple #[.agg #[.int .i64 0, .int .i64 0], .bool false]) w)
    (hd : Does W0 m wk n t F caps g l K (.panicked ({ v := (.iface T v), recovered := false } :: older)) R) (hR : ∀ g' l' K', R g' l' K' → l.length ≤ l'.length ∧ l'.length ≤ 1000000) (E : List (Nat × Obj)) (w : World) (h : TW W0 m wk n t g l (E ++ K) w) :
    Calls Try.prog 122 #[.pointer (some ⟨wk, 0, none⟩), .func (.func F) #[] caps] w fun e' W' => e' = .panicked ({ v := .iface T v, recovered := false } :: { v := .iface T v, recovered := true } :: older) ∧ ∃ g' l' K', R g' l' K' ∧ (∀ x ∈ K', ∀ cs, x.2 ≠ .cells cs 83 (0, 0)) ∧ TW W0 m wk n t (undoG g' (l'.drop l.length)) (l'.take l.length) (E ++ K') W' := by
  have hmf : ∀ (fn : Fn) (first cap : Array Value) (w : World), (Instr.makeFunc fn first cap).run Try.prog w = .ok (.func fn first cap) w := fun _ _ _ _ => rfl
  have hB2 := h.box #[.pointer (some ⟨wk, 0, none⟩)] 85
  have hB4 := hB2.box #[.int .i64 0, .int .i64 0] 83
  have hB5 := hB4.box #[.int .i64 l.length] 3
  obtain ⟨al, cap, c1⟩ := hB4.log
  clear hB2 hB4
  have Hold := Lib.hid h.old
  have hW0 := h.below.size
  have HD := Lib.hid hd
  have H := Lib.hid hB5
  have HRR := Lib.hid hR
  clear h hB5 hd hR
  go_enter_defers Try.func122, Try.ntmps122
  go_wp2_with (fail)
  refine (HD.out ((_, .cells #[.int .i64 l.length] 3 (0, 0)) :: (_, .cells #[.int .i64 0, .int .i64 0] 83 (0, 0)) :: (_, .cells #[.pointer (some ⟨wk, 0, none⟩)] 85 (0, 0)) :: E) _ H.out).mono ?_
  rintro e1 w1 ⟨rfl, g1, l1, K1, hr, hk1, h1⟩
  simp only [heap_size_alloc, List.cons_append] at h1
  have hw := h1.away (by omega) (by omega) Hold.out (by omega) hk1
  have hrr := HRR.out _ _ _ hr
  have HPT := Lib.hid (fun older => part1_other (B2 := w.heap.size) (B5 := w.heap.size + 1 + 1) (k0 := l.length) (h1.sub swap4) (by simp) (by simp) hrr.1 hrr.2 T v hta older)
  have HR := Lib.hid hr
  have HK1 := Lib.hid hk1
  clear h1 hw hr hk1 hrr
  go_wp2
  refine leaves_cons (f := 153) (args := #[.pointer (some ⟨w.heap.size, 0, none⟩), .pointer (some ⟨w.heap.size + 1 + 1, 0, none⟩), .pointer (some ⟨w.heap.size + 1, 0, none⟩)]) (by simp) (by simp [go_sem]) ?_
  refine (HPT.out _).mono ?_
  rintro e u' w2 ⟨rfl, rfl, h2⟩
  exact ⟨rfl, g1, l1, K1, HR.out, HK1.out, h2.sub rest3⟩
end
end Go.Proofs.Ytkcijlndblbidaa
