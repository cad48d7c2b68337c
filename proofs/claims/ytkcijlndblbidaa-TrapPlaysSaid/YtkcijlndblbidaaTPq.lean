/- TPq: several texts in one. -/
import Derived.Test.YtkcijlndblbidaaTRun
import Derived.Test.YtkcijlndblbidaaTDo
/- part, Part and Run for pieces of work that change blocks beside the memory: all blocks apart. -/
namespace Go.Proofs.Ytkcijlndblbidaa
open Go.ChangeShapes Go.WideShapes Go.ChangeAt Go.RowKit
set_option linter.unusedVariables false

section
variable {W0 : World} {m wk n t : Nat} {g : Nat → Nat} {l : List (Nat × Nat)} {E K : List (Nat × Obj)} {w w' : World}
/-- blocks, each in a place of its own, above a base -/
def NL (W0 : World) (K : List (Nat × Obj)) : Prop := (K.map (·.1)).Nodup ∧ ∀ x ∈ K, W0.heap.size ≤ x.1
theorem NL.tail {x : Nat × Obj} (h : NL W0 (x :: K)) : NL W0 K := ⟨(List.nodup_cons.1 (by rw [← List.map_cons]; exact h.1)).2, fun y hy => h.2 y (List.mem_cons_of_mem _ hy)⟩
theorem NL.fresh {s : Nat} {o : Obj} (h : NL W0 K) (hs : W0.heap.size ≤ s) (hK : ∀ x ∈ K, x.1 < s) : NL W0 ((s, o) :: K) := by
  refine ⟨?_, fun x hx => ?_⟩
  · rw [List.map_cons, List.nodup_cons]
    refine ⟨fun hm => ?_, h.1⟩
    rw [List.mem_map] at hm
    obtain ⟨x, hx, e⟩ := hm
    have := hK x hx
    simp only at e
    omega
  · simp only [List.mem_cons] at hx
    rcases hx with rfl | hx
    · exact hs
    · exact h.2 x hx
theorem TW.nl_box (h : TW W0 m wk n t g l K w) (hn : NL W0 K) (cs : Array Value) (ty : TypeId) : NL W0 ((w.heap.size, .cells cs ty (0, 0)) :: K) :=
  hn.fresh h.below.size fun x hx => block_lt (h.block (o := x.2) (X := x.1) hx)
theorem FK.nl_box (h : FK W0 m n t g K w) (hn : NL W0 K) (cs : Array Value) (ty : TypeId) : NL W0 ((w.heap.size, .cells cs ty (0, 0)) :: K) :=
  hn.fresh h.below.size fun x hx => block_lt (h.block (o := x.2) (X := x.1) hx)
/-- as Does, where all blocks lie apart -/
def Does2 (W0 : World) (m wk n t : Nat) (F : FuncId) (caps : Array Value) (g : Nat → Nat) (l : List (Nat × Nat)) (K : List (Nat × Obj)) (e : Ending) (R : (Nat → Nat) → List (Nat × Nat) → List (Nat × Obj) → Prop) : Prop :=
  ∀ E W, NL W0 (E ++ K) → TW W0 m wk n t g l (E ++ K) W → Calls Try.prog F (#[.pointer (some ⟨wk, 0, none⟩)] ++ caps) W fun e' W' => e' = e ∧ ∃ g' l' K', R g' l' K' ∧ NL W0 (E ++ K') ∧ (∀ x ∈ K', ∀ cs, x.2 ≠ .cells cs 83 (0, 0)) ∧ TW W0 m wk n t g' l' (E ++ K') W'
set_option maxRecDepth 100000 in
theorem part_ok2 {F : FuncId} {caps : Array Value} (hF : ∀ args w, (callFunc F args).run Try.prog w = .ok (.enter F args) w) {R : (Nat → Nat) → List (Nat × Nat) → List (Nat × Obj) → Prop}
    (hd : Does2 W0 m wk n t F caps g l K (.returned (.tuple #[])) R) (E : List (Nat × Obj)) (w : World) (hn : NL W0 (E ++ K)) (h : TW W0 m wk n t g l (E ++ K) w) :
    Calls Try.prog 122 #[.pointer (some ⟨wk, 0, none⟩), .func (.func F) #[] caps] w fun e' W' => e' = .returned (.agg #[.int .i64 0, .int .i64 0]) ∧ ∃ g' l' K', R g' l' K' ∧ NL W0 (E ++ K') ∧ (∀ x ∈ K', ∀ cs, x.2 ≠ .cells cs 83 (0, 0)) ∧ TW W0 m wk n t g' l' (E ++ K') W' := by
  have hmf : ∀ (fn : Fn) (first cap : Array Value) (w : World), (Instr.makeFunc fn first cap).run Try.prog w = .ok (.func fn first cap) w := fun _ _ _ _ => rfl
  have hB2 := h.box #[.pointer (some ⟨wk, 0, none⟩)] 85
  have hB4 := hB2.box #[.int .i64 0, .int .i64 0] 83
  have hB5 := hB4.box #[.int .i64 l.length] 3
  have HN := Lib.hid (hB4.nl_box (hB2.nl_box (h.nl_box hn #[.pointer (some ⟨wk, 0, none⟩)] 85) #[.int .i64 0, .int .i64 0] 83) #[.int .i64 l.length] 3)
  obtain ⟨al, cap, c1⟩ := hB4.log
  clear hB2 hB4
  have Hold := Lib.hid h.old
  have hW0 := h.below.size
  have HD := Lib.hid hd
  have H := Lib.hid hB5
  clear h hB5 hd hn
  go_enter_defers Try.func122, Try.ntmps122
  go_wp2_with (fail)
  refine (HD.out ((_, .cells #[.int .i64 l.length] 3 (0, 0)) :: (_, .cells #[.int .i64 0, .int .i64 0] 83 (0, 0)) :: (_, .cells #[.pointer (some ⟨wk, 0, none⟩)] 85 (0, 0)) :: E) _ HN.out H.out).mono ?_
  rintro e1 w1 ⟨rfl, g1, l1, K1, hr, hnl, hk1, h1⟩
  have HN1 := Lib.hid (NL.tail (NL.tail (NL.tail hnl)))
  clear hnl
  simp only [heap_size_alloc, List.cons_append] at h1
  have hw := h1.away (by omega) (by omega) Hold.out (by omega) hk1
  have hb4 := h1.block (X := w.heap.size + 1) (o := .cells #[.int .i64 0, .int .i64 0] 83 (0, 0)) (by simp)
  have f4 := at_free hb4 0
  have f5 := at_free hb4 1
  have d4 := at_cell hb4 0 _ rfl
  have d5 := at_cell hb4 1 _ rfl
  have H1 := Lib.hid (((h1.sub swap4).set (by omega) hw 0 (.int .i64 0)).set (by omega) hw 1 (.int .i64 0))
  have HR := Lib.hid hr
  have HK1 := Lib.hid hk1
  clear h1 hw hb4 hr hk1
  go_wp2
  refine leaves_cons (f := 153) (args := #[.pointer (some ⟨w.heap.size, 0, none⟩), .pointer (some ⟨w.heap.size + 1 + 1, 0, none⟩), .pointer (some ⟨w.heap.size + 1, 0, none⟩)]) (by simp) (by simp [go_sem]) ?_
  refine (part1_idle _).mono ?_
  rintro e u' w'' ⟨rfl, rfl, rfl⟩
  obtain ⟨w2, hw2⟩ : ∃ w2, (w1.setCell ⟨w.heap.size + 1, 0, none⟩ (.int .i64 0)).setCell ⟨w.heap.size + 1, 1, none⟩ (.int .i64 0) = w2 := ⟨_, rfl⟩
  have h2 : TW W0 m wk n t g1 l1 ((w.heap.size + 1, .cells #[.int .i64 0, .int .i64 0] 83 (0, 0)) :: (w.heap.size + 1 + 1, .cells #[.int .i64 l.length] 3 (0, 0)) :: (w.heap.size, .cells #[.pointer (some ⟨wk, 0, none⟩)] 85 (0, 0)) :: (E ++ K1)) w2 := by rw [← hw2]; exact H1.out
  rw [hw2]
  have hb2 := h2.block (List.mem_cons_self ..)
  have q4 : w2.cell? ⟨w.heap.size + 1, 0, none⟩ = some (.int .i64 0) := at_cell hb2 0 _ rfl
  have q5 : w2.cell? ⟨w.heap.size + 1, 1, none⟩ = some (.int .i64 0) := at_cell hb2 1 _ rfl
  simp [Leaves, settle, results, Try.results122, go_sem, q4, q5]
  exact ⟨g1, l1, K1, HR.out, HN1.out, fun a b hx cs => HK1.out (a, b) hx cs, h2.sub rest3⟩
set_option maxRecDepth 100000 in
theorem part_thrown2 {F : FuncId} {caps : Array Value} (hF : ∀ args w, (callFunc F args).run Try.prog w = .ok (.enter F args) w) {R : (Nat → Nat) → List (Nat × Nat) → List (Nat × Obj) → Prop} {er a : Int}
    (hd : Does2 W0 m wk n t F caps g l K (.panicked [{ v := thrownV er a, recovered := false }]) R) (hR : ∀ g' l' K', R g' l' K' → l.length ≤ l'.length ∧ l'.length ≤ 1000000) (E : List (Nat × Obj)) (w : World) (hn : NL W0 (E ++ K)) (h : TW W0 m wk n t g l (E ++ K) w) :
    Calls Try.prog 122 #[.pointer (some ⟨wk, 0, none⟩), .func (.func F) #[] caps] w fun e' W' => e' = .returned (.agg #[.int .i64 er, .int .i64 a]) ∧ ∃ g' l' K', R g' l' K' ∧ NL W0 (E ++ K') ∧ (∀ x ∈ K', ∀ cs, x.2 ≠ .cells cs 83 (0, 0)) ∧ TW W0 m wk n t (undoG g' (l'.drop l.length)) (l'.take l.length) (E ++ K') W' := by
  have hmf : ∀ (fn : Fn) (first cap : Array Value) (w : World), (Instr.makeFunc fn first cap).run Try.prog w = .ok (.func fn first cap) w := fun _ _ _ _ => rfl
  have hB2 := h.box #[.pointer (some ⟨wk, 0, none⟩)] 85
  have hB4 := hB2.box #[.int .i64 0, .int .i64 0] 83
  have hB5 := hB4.box #[.int .i64 l.length] 3
  have HN := Lib.hid (hB4.nl_box (hB2.nl_box (h.nl_box hn #[.pointer (some ⟨wk, 0, none⟩)] 85) #[.int .i64 0, .int .i64 0] 83) #[.int .i64 l.length] 3)
  obtain ⟨al, cap, c1⟩ := hB4.log
  clear hB2 hB4
  have Hold := Lib.hid h.old
  have hW0 := h.below.size
  have HD := Lib.hid hd
  have H := Lib.hid hB5
  have HRR := Lib.hid hR
  clear h hB5 hd hn hR
  go_enter_defers Try.func122, Try.ntmps122
  go_wp2_with (fail)
  refine (HD.out ((_, .cells #[.int .i64 l.length] 3 (0, 0)) :: (_, .cells #[.int .i64 0, .int .i64 0] 83 (0, 0)) :: (_, .cells #[.pointer (some ⟨wk, 0, none⟩)] 85 (0, 0)) :: E) _ HN.out H.out).mono ?_
  rintro e1 w1 ⟨rfl, g1, l1, K1, hr, hnl, hk1, h1⟩
  have HN1 := Lib.hid (NL.tail (NL.tail (NL.tail hnl)))
  clear hnl
  simp only [heap_size_alloc, List.cons_append] at h1
  have hw := h1.away (by omega) (by omega) Hold.out (by omega) hk1
  have hrr := HRR.out _ _ _ hr
  have HPT := Lib.hid (fun older => part1_thrown (B2 := w.heap.size) (B5 := w.heap.size + 1 + 1) (k0 := l.length) (h1.sub swap4) (by simp) (by simp) (by omega) hw hrr.1 hrr.2 er a older)
  have HR := Lib.hid hr
  have HK1 := Lib.hid hk1
  clear h1 hw hr hk1 hrr
  go_wp2
  refine leaves_cons (f := 153) (args := #[.pointer (some ⟨w.heap.size, 0, none⟩), .pointer (some ⟨w.heap.size + 1 + 1, 0, none⟩), .pointer (some ⟨w.heap.size + 1, 0, none⟩)]) (by simp) (by simp [go_sem]) ?_
  refine (HPT.out _).mono ?_
  rintro e u' w2 ⟨rfl, rfl, h2⟩
  have hb2 := h2.block (List.mem_cons_self ..)
  have q4 : w2.cell? ⟨w.heap.size + 1, 0, none⟩ = some (.int .i64 er) := at_cell hb2 0 _ rfl
  have q5 : w2.cell? ⟨w.heap.size + 1, 1, none⟩ = some (.int .i64 a) := at_cell hb2 1 _ rfl
  simp [Leaves, settle, results, Try.results122, go_sem, q4, q5]
  exact ⟨g1, l1, K1, HR.out, HN1.out, fun a b hx cs => HK1.out (a, b) hx cs, h2.sub rest3⟩
set_option maxRecDepth 100000 in
theorem run_ret2 {F : FuncId} {caps : Array Value} {er a : Int} {R : (Nat → Nat) → List (Nat × Obj) → Prop}
    (hp : ∀ wk E W, NL W0 (E ++ K) → TW W0 m wk n t g [] (E ++ K) W → Calls Try.prog 122 #[.pointer (some ⟨wk, 0, none⟩), .func (.func F) #[] caps] W fun e' W' => e' = .returned (.agg #[.int .i64 er, .int .i64 a]) ∧ ∃ g' l' K', R g' K' ∧ NL W0 (E ++ K') ∧ (∀ x ∈ K', ∀ cs, x.2 ≠ .cells cs 83 (0, 0)) ∧ TW W0 m wk n t g' l' (E ++ K') W')
    (E : List (Nat × Obj)) (w : World) (hn : NL W0 (E ++ K)) (h : FK W0 m n t g (E ++ K) w) :
    Calls Try.prog 52 #[.iface 26 (.pointer (some ⟨m, 0, none⟩)), .func (.func F) #[] caps] w fun e' W' => e' = .returned (.agg #[.int .i64 er, .int .i64 a]) ∧ ∃ g' K', R g' K' ∧ NL W0 (E ++ K') ∧ (∀ x ∈ K', ∀ cs, x.2 ≠ .cells cs 83 (0, 0)) ∧ FK W0 m n t g' (E ++ K') W' := by
  have Hold := Lib.hid (fun x (hx : x ∈ E) => block_lt (h.block (o := x.2) (X := x.1) (List.mem_append_left _ hx)))
  have hW0 := h.below.size
  have hN2 := h.nl_box hn #[.int .i64 0, .int .i64 0] 83
  have hT := (h.box #[.int .i64 0, .int .i64 0] 83).work
  have HP := Lib.hid (hp _ ((_, .cells #[.int .i64 0, .int .i64 0] 83 (0, 0)) :: E) _ hN2 hT)
  clear h hp hT hn hN2
  go_enter Try.func52, Try.ntmps52
  go_wp2_with (go_at_call 122; have hp := HP.out; simp only [heap_size_alloc] at hp; refine hp.mono ?_; rintro e1 w1 ⟨rfl, g1, l1, K1, hr, hnl, hk1, h1⟩; have HN1 := Lib.hid (NL.tail hnl); clear hnl; have hf := h1.full; simp only [List.cons_append] at hf; have hw := hf.away Hold.out (Nat.le_refl _) hk1; have hb4 := hf.block (List.mem_cons_self ..); have f4 := at_free hb4 0; have f5 := at_free hb4 1; have d4 := at_cell hb4 0 _ rfl; have d5 := at_cell hb4 1 _ rfl; have H1 := Lib.hid ((hf.set (by omega) hw 0 (.int .i64 er)).set (by omega) hw 1 (.int .i64 a)); have HR := Lib.hid hr; have HK1 := Lib.hid hk1; clear h1 hf hw hb4 hr hk1 hp)
  obtain ⟨w2, hw2⟩ : ∃ w2, (w1.setCell ⟨w.heap.size, 0, none⟩ (.int .i64 er)).setCell ⟨w.heap.size, 1, none⟩ (.int .i64 a) = w2 := ⟨_, rfl⟩
  have h2 : FK W0 m n t g1 ((w.heap.size, .cells #[.int .i64 er, .int .i64 a] 83 (0, 0)) :: (E ++ K1)) w2 := by rw [← hw2]; exact H1.out
  rw [hw2]
  have hb2 := h2.block (List.mem_cons_self ..)
  have q4 : w2.cell? ⟨w.heap.size, 0, none⟩ = some (.int .i64 er) := at_cell hb2 0 _ rfl
  have q5 : w2.cell? ⟨w.heap.size, 1, none⟩ = some (.int .i64 a) := at_cell hb2 1 _ rfl
  exact bodyPost_ret (v := .agg #[.int .i64 er, .int .i64 a]) (by simp [results, Try.results52, go_sem, q4, q5]) rfl ⟨rfl, g1, K1, HR.out, HN1.out, HK1.out, h2.tail⟩
set_option maxRecDepth 100000 in
theorem part_ret2 {f : Value} {er a : Int} {R : (Nat → Nat) → List (Nat × Nat) → List (Nat × Obj) → Prop}
    (hp : ∀ E W, NL W0 (E ++ K) → TW W0 m wk n t g l (E ++ K) W → Calls Try.prog 122 #[.pointer (some ⟨wk, 0, none⟩), f] W fun e' W' => e' = .returned (.agg #[.int .i64 er, .int .i64 a]) ∧ ∃ g' l' K', R g' l' K' ∧ NL W0 (E ++ K') ∧ (∀ x ∈ K', ∀ cs, x.2 ≠ .cells cs 83 (0, 0)) ∧ TW W0 m wk n t g' l' (E ++ K') W')
    (E : List (Nat × Obj)) (w : World) (hn : NL W0 (E ++ K)) (h : TW W0 m wk n t g l (E ++ K) w) :
    Calls Try.prog 61 #[.pointer (some ⟨wk, 0, none⟩), f] w fun e' W' => e' = .returned (.agg #[.int .i64 er, .int .i64 a]) ∧ ∃ g' l' K', R g' l' K' ∧ NL W0 (E ++ K') ∧ (∀ x ∈ K', ∀ cs, x.2 ≠ .cells cs 83 (0, 0)) ∧ TW W0 m wk n t g' l' (E ++ K') W' := by
  have Hold := Lib.hid h.old
  have hW0 := h.below.size
  have hN2 := h.nl_box hn #[.int .i64 0, .int .i64 0] 83
  have hT := h.box #[.int .i64 0, .int .i64 0] 83
  have c0 := hT.space
  have he := space_eql ⟨m, 0, none⟩
  have HP := Lib.hid (hp ((_, .cells #[.int .i64 0, .int .i64 0] 83 (0, 0)) :: E) _ hN2 hT)
  clear h hp hT hn hN2
  go_enter Try.func61, Try.ntmps61
  go_wp2_with (go_at_call 122; have hp := HP.out; refine hp.mono ?_; rintro e1 w1 ⟨rfl, g1, l1, K1, hr, hnl, hk1, h1⟩; have HN1 := Lib.hid (NL.tail hnl); clear hnl; simp only [List.cons_append] at h1; have hw := h1.full.away Hold.out (Nat.le_refl _) hk1; have hb4 := h1.block (List.mem_cons_self ..); have f4 := at_free hb4 0; have f5 := at_free hb4 1; have d4 := at_cell hb4 0 _ rfl; have d5 := at_cell hb4 1 _ rfl; have H1 := Lib.hid ((h1.set (by omega) hw 0 (.int .i64 er)).set (by omega) hw 1 (.int .i64 a)); have HR := Lib.hid hr; have HK1 := Lib.hid hk1; clear h1 hw hb4 hr hk1 hp)
  obtain ⟨w2, hw2⟩ : ∃ w2, (w1.setCell ⟨w.heap.size, 0, none⟩ (.int .i64 er)).setCell ⟨w.heap.size, 1, none⟩ (.int .i64 a) = w2 := ⟨_, rfl⟩
  have h2 : TW W0 m wk n t g1 l1 ((w.heap.size, .cells #[.int .i64 er, .int .i64 a] 83 (0, 0)) :: (E ++ K1)) w2 := by rw [← hw2]; exact H1.out
  rw [hw2]
  have hb2 := h2.block (List.mem_cons_self ..)
  have q4 : w2.cell? ⟨w.heap.size, 0, none⟩ = some (.int .i64 er) := at_cell hb2 0 _ rfl
  have q5 : w2.cell? ⟨w.heap.size, 1, none⟩ = some (.int .i64 a) := at_cell hb2 1 _ rfl
  exact bodyPost_ret (v := .agg #[.int .i64 er, .int .i64 a]) (by simp [results, Try.results61, go_sem, q4, q5]) rfl ⟨rfl, g1, l1, K1, HR.out, HN1.out, HK1.out, h2.tail⟩
end
end Go.Proofs.Ytkcijlndblbidaa

/- The player (layer 10) and its rows, beside a Work. Printed by wip/tools/genpt.py. -/
namespace Go.Proofs.Ytkcijlndblbidaa
open Go.ChangeShapes Go.WideShapes Go.ChangeAt Go.RowKit
set_option linter.unusedVariables false
set_option linter.unusedSimpArgs false

theorem NL.perm {W0 : World} {K K' : List (Nat × Obj)} (h : NL W0 K) (p : List.Perm K K') : NL W0 K' := ⟨(p.map (·.1)).nodup_iff.1 h.1, fun x hx => h.2 x (p.mem_iff.2 hx)⟩
theorem NL.drop {W0 : World} {K K' : List (Nat × Obj)} (h : NL W0 (K' ++ K)) : NL W0 K := by
  refine ⟨?_, fun x hx => h.2 x (List.mem_append_right _ hx)⟩
  have := h.1
  rw [List.map_append] at this
  exact (List.nodup_append.1 this).2.1
theorem NL.head {W0 : World} {x : Nat × Obj} {K : List (Nat × Obj)} (h : NL W0 (x :: K)) : ∀ y ∈ K, y.1 ≠ x.1 := by
  intro y hy e
  have := (List.nodup_cons.1 (by rw [← List.map_cons]; exact h.1)).1
  exact this (e ▸ List.mem_map_of_mem hy)
theorem FKN.nl {W0 w : World} {m n t : Nat} {g : Nat → Nat} {K : List (Nat × Obj)} (h : FKN W0 m n t g K w) : NL W0 K := h.2
/-- the player's own blocks -/
def pbl (p : Nat) (n0 : Nat) (a0 a1 a2 a3 a4 : Option Addr) (c0 c1 c2 c3 c4 : Nat) (R0 R1 R2 R3 R4 : List (Nat × Obj)) (st : PS) (E : List (Nat × Obj)) : List (Nat × Obj) :=
  (p, .cells (spC a0 a1 a2 a3 a4 n0 c0 c1 c2 c3 c4 st) 81 (0, 0)) :: (R0 ++ (R1 ++ (R2 ++ (R3 ++ (R4 ++ E)))))
theorem pbl_in {p n0 : Nat} {a0 a1 a2 a3 a4 : Option Addr} {c0 c1 c2 c3 c4 : Nat} {R0 R1 R2 R3 R4 : List (Nat × Obj)} {st : PS} {E X : List (Nat × Obj)} :
    List.Perm (X ++ pbl p n0 a0 a1 a2 a3 a4 c0 c1 c2 c3 c4 R0 R1 R2 R3 R4 st E) (pbl p n0 a0 a1 a2 a3 a4 c0 c1 c2 c3 c4 R0 R1 R2 R3 R4 st (X ++ E)) := by
  have q := (perm_in (A := (p, Obj.cells (spC a0 a1 a2 a3 a4 n0 c0 c1 c2 c3 c4 st) 81 (0, 0)) :: (R0 ++ (R1 ++ (R2 ++ (R3 ++ R4))))) (R := X) (B := E)).symm
  unfold pbl
  simpa only [List.append_assoc, List.cons_append] using q
theorem pbl_E {p n0 : Nat} {a0 a1 a2 a3 a4 : Option Addr} {c0 c1 c2 c3 c4 : Nat} {R0 R1 R2 R3 R4 : List (Nat × Obj)} {st : PS} {E : List (Nat × Obj)} {x : Nat × Obj} (hx : x ∈ E) : x ∈ pbl p n0 a0 a1 a2 a3 a4 c0 c1 c2 c3 c4 R0 R1 R2 R3 R4 st E :=
  List.mem_cons_of_mem _ (List.mem_append_right _ (List.mem_append_right _ (List.mem_append_right _ (List.mem_append_right _ (List.mem_append_right _ hx)))))
theorem pbl_R0 {p n0 : Nat} {a0 a1 a2 a3 a4 : Option Addr} {c0 c1 c2 c3 c4 : Nat} {R0 R1 R2 R3 R4 : List (Nat × Obj)} {st : PS} {E : List (Nat × Obj)} : ∀ x ∈ R0, x ∈ pbl p n0 a0 a1 a2 a3 a4 c0 c1 c2 c3 c4 R0 R1 R2 R3 R4 st E :=
  fun x hx => List.mem_cons_of_mem _ (List.mem_append_left _ hx)
structure PT1 (W0 : World) (m wk n t : Nat) (g : Nat → Nat) (lg : List (Nat × Nat)) (p : Nat) (l : List RA) (st : PS) (E : List (Nat × Obj)) (a0 a1 a2 a3 a4 : Option Addr) (c0 c1 c2 c3 c4 : Nat) (R0 R1 R2 R3 R4 : List (Nat × Obj)) (w : World) : Prop where
  r0 : Rw W0.heap.size 179 4 l.length (racells l) a0 c0 R0
  r1 : Rw W0.heap.size 23 1 st.ld.length (ulcells st.ld) a1 c1 R1
  r2 : Rw W0.heap.size 3 1 st.er.length (icI st.er) a2 c2 R2
  r3 : Rw W0.heap.size 3 1 st.at_.length (icI st.at_) a3 c3 R3
  r4 : Rw W0.heap.size 4 1 st.en.length (blcells st.en) a4 c4 R4
  tw : TW W0 m wk n t g lg (pbl p l.length a0 a1 a2 a3 a4 c0 c1 c2 c3 c4 R0 R1 R2 R3 R4 st E) w
  nl : NL W0 (pbl p l.length a0 a1 a2 a3 a4 c0 c1 c2 c3 c4 R0 R1 R2 R3 R4 st E)
def PTs (W0 : World) (m wk n t : Nat) (g : Nat → Nat) (lg : List (Nat × Nat)) (p : Nat) (l : List RA) (st : PS) (E : List (Nat × Obj)) (w : World) : Prop :=
  ∃ (a0 a1 a2 a3 a4 : Option Addr) (c0 c1 c2 c3 c4 : Nat) (R0 R1 R2 R3 R4 : List (Nat × Obj)), PT1 W0 m wk n t g lg p l st E a0 a1 a2 a3 a4 c0 c1 c2 c3 c4 R0 R1 R2 R3 R4 w
section
variable {W0 w w' : World} {m wk n t : Nat} {g g' : Nat → Nat} {lg lg' : List (Nat × Nat)} {p : Nat} {l : List RA} {st : PS} {E E' X : List (Nat × Obj)} {a0 a1 a2 a3 a4 : Option Addr} {c0 c1 c2 c3 c4 : Nat} {R0 R1 R2 R3 R4 : List (Nat × Obj)}
theorem PT1.grow (h : PT1 W0 m wk n t g lg p l st E a0 a1 a2 a3 a4 c0 c1 c2 c3 c4 R0 R1 R2 R3 R4 w) (c : Below w.heap.size w w') : PT1 W0 m wk n t g lg p l st E a0 a1 a2 a3 a4 c0 c1 c2 c3 c4 R0 R1 R2 R3 R4 w' := ⟨h.r0, h.r1, h.r2, h.r3, h.r4, h.tw.grow c, h.nl⟩
theorem PT1.work (h : PT1 W0 m wk n t g lg p l st E a0 a1 a2 a3 a4 c0 c1 c2 c3 c4 R0 R1 R2 R3 R4 w) (c : TW W0 m wk n t g' lg' (pbl p l.length a0 a1 a2 a3 a4 c0 c1 c2 c3 c4 R0 R1 R2 R3 R4 st E) w') : PT1 W0 m wk n t g' lg' p l st E a0 a1 a2 a3 a4 c0 c1 c2 c3 c4 R0 R1 R2 R3 R4 w' := ⟨h.r0, h.r1, h.r2, h.r3, h.r4, c, h.nl⟩
theorem PT1.permE (h : PT1 W0 m wk n t g lg p l st E a0 a1 a2 a3 a4 c0 c1 c2 c3 c4 R0 R1 R2 R3 R4 w) (q : List.Perm E E') : PT1 W0 m wk n t g lg p l st E' a0 a1 a2 a3 a4 c0 c1 c2 c3 c4 R0 R1 R2 R3 R4 w := by
  have q2 : List.Perm (pbl p l.length a0 a1 a2 a3 a4 c0 c1 c2 c3 c4 R0 R1 R2 R3 R4 st E) (pbl p l.length a0 a1 a2 a3 a4 c0 c1 c2 c3 c4 R0 R1 R2 R3 R4 st E') :=
    List.Perm.cons _ (List.Perm.append_left _ (List.Perm.append_left _ (List.Perm.append_left _ (List.Perm.append_left _ (List.Perm.append_left _ q)))))
  exact ⟨h.r0, h.r1, h.r2, h.r3, h.r4, h.tw.sub fun x hx => q2.mem_iff.2 hx, h.nl.perm q2⟩
theorem PT1.boxE (h : PT1 W0 m wk n t g lg p l st E a0 a1 a2 a3 a4 c0 c1 c2 c3 c4 R0 R1 R2 R3 R4 w) (cs : Array Value) (ty : TypeId) : PT1 W0 m wk n t g lg p l st ((w.heap.size, .cells cs ty (0, 0)) :: E) a0 a1 a2 a3 a4 c0 c1 c2 c3 c4 R0 R1 R2 R3 R4 (w.alloc (.cells cs ty)) := by
  have q := pbl_in (X := [(w.heap.size, Obj.cells cs ty (0, 0))]) (p := p) (n0 := l.length) (a0 := a0) (a1 := a1) (a2 := a2) (a3 := a3) (a4 := a4) (c0 := c0) (c1 := c1) (c2 := c2) (c3 := c3) (c4 := c4) (R0 := R0) (R1 := R1) (R2 := R2) (R3 := R3) (R4 := R4) (st := st) (E := E)
  exact ⟨h.r0, h.r1, h.r2, h.r3, h.r4, (h.tw.box cs ty).sub fun x hx => q.mem_iff.2 hx, (h.tw.nl_box h.nl cs ty).perm q⟩
theorem PT1.dropE (h : PT1 W0 m wk n t g lg p l st (X ++ E) a0 a1 a2 a3 a4 c0 c1 c2 c3 c4 R0 R1 R2 R3 R4 w) : PT1 W0 m wk n t g lg p l st E a0 a1 a2 a3 a4 c0 c1 c2 c3 c4 R0 R1 R2 R3 R4 w := by
  have q := pbl_in (X := X) (p := p) (n0 := l.length) (a0 := a0) (a1 := a1) (a2 := a2) (a3 := a3) (a4 := a4) (c0 := c0) (c1 := c1) (c2 := c2) (c3 := c3) (c4 := c4) (R0 := R0) (R1 := R1) (R2 := R2) (R3 := R3) (R4 := R4) (st := st) (E := E)
  exact ⟨h.r0, h.r1, h.r2, h.r3, h.r4, h.tw.sub fun x hx => q.mem_iff.1 (List.mem_append_right _ hx), NL.drop (h.nl.perm q.symm)⟩
theorem PT1.inE (h : PT1 W0 m wk n t g lg p l st E a0 a1 a2 a3 a4 c0 c1 c2 c3 c4 R0 R1 R2 R3 R4 w) {x : Nat × Obj} (hx : x ∈ E) : w.heap[x.1]? = some x.2 := h.tw.block (pbl_E hx)
theorem PT1.head (h : PT1 W0 m wk n t g lg p l st E a0 a1 a2 a3 a4 c0 c1 c2 c3 c4 R0 R1 R2 R3 R4 w) : w.heap[p]? = some (.cells (spC a0 a1 a2 a3 a4 l.length c0 c1 c2 c3 c4 st) 81 (0, 0)) := h.tw.block (List.mem_cons_self ..)
theorem PT1.cell (h : PT1 W0 m wk n t g lg p l st E a0 a1 a2 a3 a4 c0 c1 c2 c3 c4 R0 R1 R2 R3 R4 w) :
    w.cell? ⟨p, 0, none⟩ = some (.slice a0 l.length c0) ∧ w.cell? ⟨p, 1, none⟩ = some (.slice a1 st.ld.length c1) ∧ w.cell? ⟨p, 2, none⟩ = some (.slice a2 st.er.length c2) ∧ w.cell? ⟨p, 3, none⟩ = some (.slice a3 st.at_.length c3) ∧ w.cell? ⟨p, 4, none⟩ = some (.slice a4 st.en.length c4) :=
  ⟨at_cell h.head 0 _ rfl, at_cell h.head 1 _ rfl, at_cell h.head 2 _ rfl, at_cell h.head 3 _ rfl, at_cell h.head 4 _ rfl⟩
theorem PT1.rowc (h : PT1 W0 m wk n t g lg p l st E a0 a1 a2 a3 a4 c0 c1 c2 c3 c4 R0 R1 R2 R3 R4 w) : RowC w a0 (racells l) := h.r0.rowc h.tw.full pbl_R0
/-- a cell of a block beside, put -/
theorem PT1.setE {B : Nat} {cs : Array Value} {ty : TypeId} (h : PT1 W0 m wk n t g lg p l st ((B, .cells cs ty (0, 0)) :: E) a0 a1 a2 a3 a4 c0 c1 c2 c3 c4 R0 R1 R2 R3 R4 w) (j : Nat) (x : Value) :
    PT1 W0 m wk n t g lg p l st ((B, .cells (cs.setIfInBounds j x) ty (0, 0)) :: E) a0 a1 a2 a3 a4 c0 c1 c2 c3 c4 R0 R1 R2 R3 R4 (w.setCell ⟨B, j, none⟩ x) := by
  have q := pbl_in (X := [(B, Obj.cells cs ty (0, 0))]) (p := p) (n0 := l.length) (a0 := a0) (a1 := a1) (a2 := a2) (a3 := a3) (a4 := a4) (c0 := c0) (c1 := c1) (c2 := c2) (c3 := c3) (c4 := c4) (R0 := R0) (R1 := R1) (R2 := R2) (R3 := R3) (R4 := R4) (st := st) (E := E)
  have q2 := pbl_in (X := [(B, Obj.cells (cs.setIfInBounds j x) ty (0, 0))]) (p := p) (n0 := l.length) (a0 := a0) (a1 := a1) (a2 := a2) (a3 := a3) (a4 := a4) (c0 := c0) (c1 := c1) (c2 := c2) (c3 := c3) (c4 := c4) (R0 := R0) (R1 := R1) (R2 := R2) (R3 := R3) (R4 := R4) (st := st) (E := E)
  have hn := h.nl.perm q.symm
  have ht := (h.tw.sub (K' := (B, Obj.cells cs ty (0, 0)) :: pbl p l.length a0 a1 a2 a3 a4 c0 c1 c2 c3 c4 R0 R1 R2 R3 R4 st E) fun y hy => q.mem_iff.1 hy).set (hn.2 _ (List.mem_cons_self ..)) (NL.head hn) j x
  exact ⟨h.r0, h.r1, h.r2, h.r3, h.r4, ht.sub fun y hy => q2.mem_iff.2 hy, NL.perm (K := (B, Obj.cells (cs.setIfInBounds j x) ty (0, 0)) :: pbl p l.length a0 a1 a2 a3 a4 c0 c1 c2 c3 c4 R0 R1 R2 R3 R4 st E) ⟨hn.1, fun y hy => by
    simp only [List.mem_cons] at hy
    rcases hy with rfl | hy
    · exact hn.2 (B, .cells cs ty (0, 0)) (List.mem_cons_self ..)
    · exact hn.2 y (List.mem_cons_of_mem _ hy)⟩ q2⟩
/-- the Work's own blocks among those that stay -/
theorem PT1.shut (h : PT1 W0 m wk n t g lg p l st E a0 a1 a2 a3 a4 c0 c1 c2 c3 c4 R0 R1 R2 R3 R4 w) :
    ∃ BK, SP1 W0 m n t g p 81 179 4 l.length (racells l) st (BK ++ E) a0 a1 a2 a3 a4 c0 c1 c2 c3 c4 R0 R1 R2 R3 R4 w ∧
      ∀ g' st' E' a0 a1 a2 a3 a4 c0 c1 c2 c3 c4 R0 R1 R2 R3 R4 w', SP1 W0 m n t g' p 81 179 4 l.length (racells l) st' (BK ++ E') a0 a1 a2 a3 a4 c0 c1 c2 c3 c4 R0 R1 R2 R3 R4 w' →
        PT1 W0 m wk n t g' lg p l st' E' a0 a1 a2 a3 a4 c0 c1 c2 c3 c4 R0 R1 R2 R3 R4 w' := by
  obtain ⟨BK, hF, hback⟩ := h.tw.shut2 h.nl.1 h.nl.2
  refine ⟨BK, ⟨h.r0, h.r1, h.r2, h.r3, h.r4, hF.perm pbl_in⟩, fun g' st' E' a0 a1 a2 a3 a4 c0 c1 c2 c3 c4 R0 R1 R2 R3 R4 w' h' => ?_⟩
  have hF' := h'.all.perm (pbl_in (X := BK)).symm
  exact ⟨h'.r0, h'.r1, h'.r2, h'.r3, h'.r4, hback _ _ _ hF', hF'.drop.nl⟩
theorem PT1.app1 (h : PT1 W0 m wk n t g lg p l st E a0 a1 a2 a3 a4 c0 c1 c2 c3 c4 R0 R1 R2 R3 R4 w) (v : Nat) (hl : szS st ≤ 100000) :
    ∃ (x : Option Addr) (cx : Nat) (w5 : World) (Rx : List (Nat × Obj)), (Builtin.append_ #[69, 69] 69 #[.slice a1 st.ld.length c1, .slice (some ⟨w.heap.size, 0, none⟩) 1 1]).run Try.prog (w.alloc (.cells #[.int .u64 v] 23)) = .ok (.slice x (st.ld.length + 1) cx) w5 ∧
      (∀ x ∈ E, w5.heap[x.1]? = some x.2) ∧ w5.heap[p]? = some (.cells (spC a0 a1 a2 a3 a4 l.length c0 c1 c2 c3 c4 st) 81 (0, 0)) ∧
      PT1 W0 m wk n t g lg p l { st with ld := st.ld ++ [v] } E a0 x a2 a3 a4 c0 cx c2 c3 c4 R0 Rx R2 R3 R4 (w5.setCell ⟨p, 1, none⟩ (.slice x (st.ld.length + 1) cx)) := by
  obtain ⟨BK, hS, hback⟩ := h.shut
  obtain ⟨x, cx, w5, Rx, hrun, hE, hs, -, hp⟩ := hS.app1 v hl
  exact ⟨x, cx, w5, Rx, hrun, fun y hy => hE y (List.mem_append_right _ hy), hs, hback _ _ _ _ _ _ _ _ _ _ _ _ _ _ _ _ _ _ _ hp⟩
theorem PT1.app2 (h : PT1 W0 m wk n t g lg p l st E a0 a1 a2 a3 a4 c0 c1 c2 c3 c4 R0 R1 R2 R3 R4 w) (v : Int) (hl : szS st ≤ 100000) :
    ∃ (x : Option Addr) (cx : Nat) (w5 : World) (Rx : List (Nat × Obj)), (Builtin.append_ #[71, 71] 71 #[.slice a2 st.er.length c2, .slice (some ⟨w.heap.size, 0, none⟩) 1 1]).run Try.prog (w.alloc (.cells #[.int .i64 v] 3)) = .ok (.slice x (st.er.length + 1) cx) w5 ∧
      (∀ x ∈ E, w5.heap[x.1]? = some x.2) ∧ w5.heap[p]? = some (.cells (spC a0 a1 a2 a3 a4 l.length c0 c1 c2 c3 c4 st) 81 (0, 0)) ∧
      PT1 W0 m wk n t g lg p l { st with er := st.er ++ [v] } E a0 a1 x a3 a4 c0 c1 cx c3 c4 R0 R1 Rx R3 R4 (w5.setCell ⟨p, 2, none⟩ (.slice x (st.er.length + 1) cx)) := by
  obtain ⟨BK, hS, hback⟩ := h.shut
  obtain ⟨x, cx, w5, Rx, hrun, hE, hs, -, hp⟩ := hS.app2 v hl
  exact ⟨x, cx, w5, Rx, hrun, fun y hy => hE y (List.mem_append_right _ hy), hs, hback _ _ _ _ _ _ _ _ _ _ _ _ _ _ _ _ _ _ _ hp⟩
theorem PT1.app3 (h : PT1 W0 m wk n t g lg p l st E a0 a1 a2 a3 a4 c0 c1 c2 c3 c4 R0 R1 R2 R3 R4 w) (v : Int) (hl : szS st ≤ 100000) :
    ∃ (x : Option Addr) (cx : Nat) (w5 : World) (Rx : List (Nat × Obj)), (Builtin.append_ #[71, 71] 71 #[.slice a3 st.at_.length c3, .slice (some ⟨w.heap.size, 0, none⟩) 1 1]).run Try.prog (w.alloc (.cells #[.int .i64 v] 3)) = .ok (.slice x (st.at_.length + 1) cx) w5 ∧
      (∀ x ∈ E, w5.heap[x.1]? = some x.2) ∧ w5.heap[p]? = some (.cells (spC a0 a1 a2 a3 a4 l.length c0 c1 c2 c3 c4 st) 81 (0, 0)) ∧
      PT1 W0 m wk n t g lg p l { st with at_ := st.at_ ++ [v] } E a0 a1 a2 x a4 c0 c1 c2 cx c4 R0 R1 R2 Rx R4 (w5.setCell ⟨p, 3, none⟩ (.slice x (st.at_.length + 1) cx)) := by
  obtain ⟨BK, hS, hback⟩ := h.shut
  obtain ⟨x, cx, w5, Rx, hrun, hE, hs, -, hp⟩ := hS.app3 v hl
  exact ⟨x, cx, w5, Rx, hrun, fun y hy => hE y (List.mem_append_right _ hy), hs, hback _ _ _ _ _ _ _ _ _ _ _ _ _ _ _ _ _ _ _ hp⟩
theorem PT1.app4 (h : PT1 W0 m wk n t g lg p l st E a0 a1 a2 a3 a4 c0 c1 c2 c3 c4 R0 R1 R2 R3 R4 w) (v : Bool) (hl : szS st ≤ 100000) :
    ∃ (x : Option Addr) (cx : Nat) (w5 : World) (Rx : List (Nat × Obj)), (Builtin.append_ #[72, 72] 72 #[.slice a4 st.en.length c4, .slice (some ⟨w.heap.size, 0, none⟩) 1 1]).run Try.prog (w.alloc (.cells #[.bool v] 4)) = .ok (.slice x (st.en.length + 1) cx) w5 ∧
      (∀ x ∈ E, w5.heap[x.1]? = some x.2) ∧ w5.heap[p]? = some (.cells (spC a0 a1 a2 a3 a4 l.length c0 c1 c2 c3 c4 st) 81 (0, 0)) ∧
      PT1 W0 m wk n t g lg p l { st with en := st.en ++ [v] } E a0 a1 a2 a3 x c0 c1 c2 c3 cx R0 R1 R2 R3 Rx (w5.setCell ⟨p, 4, none⟩ (.slice x (st.en.length + 1) cx)) := by
  obtain ⟨BK, hS, hback⟩ := h.shut
  obtain ⟨x, cx, w5, Rx, hrun, hE, hs, -, hp⟩ := hS.app4 v hl
  exact ⟨x, cx, w5, Rx, hrun, fun y hy => hE y (List.mem_append_right _ hy), hs, hback _ _ _ _ _ _ _ _ _ _ _ _ _ _ _ _ _ _ _ hp⟩
end
theorem undoG_append (g : Nat → Nat) (a b : List (Nat × Nat)) : undoG g (a ++ b) = undoG (undoG g b) a := by unfold undoG; rw [List.foldr_append]
theorem undoG_put (g : Nat → Nat) (a x : Nat) : undoG (putG g a x) [(a, g a)] = g := by
  funext b
  show putG (putG g a x) a (g a) b = g b
  unfold putG
  split
  · rename_i e; rw [e]
  · rfl
def endP (b : Option (Int × Int)) : Ending := match b with | none => .returned (.tuple #[]) | some (e, a) => .panicked [{ v := thrownV e a, recovered := false }]
end Go.Proofs.Ytkcijlndblbidaa

/- A part of the player's work: its closure, and Part's answer. -/
namespace Go.Proofs.Ytkcijlndblbidaa
open Go.ChangeShapes Go.WideShapes Go.ChangeAt Go.RowKit
set_option linter.unusedVariables false
set_option linter.unusedSimpArgs false

def NF (K : List (Nat × Obj)) : Prop := ∀ x ∈ K, ∀ cs, x.2 ≠ .cells cs 83 (0, 0)
theorem NF.app {K K' : List (Nat × Obj)} (h : NF K) (h' : NF K') : NF (K ++ K') := fun x hx => (List.mem_append.1 hx).elim (h x) (h' x)
theorem NF.box {K : List (Nat × Obj)} (h : NF K) {b : Nat} {cs : Array Value} {ty : TypeId} (hty : ty ≠ 83) : NF ((b, .cells cs ty (0, 0)) :: K) := by
  intro x hx cs2 e
  simp only [List.mem_cons] at hx
  rcases hx with rfl | hx
  · simp only [Obj.cells.injEq] at e
    exact hty e.2.1
  · exact h x hx cs2 e
theorem NF.nil : NF [] := fun x hx => by cases hx
theorem Rw.nf {base : Nat} {ty : TypeId} {sz k : Nat} {xs : List Value} {al : Option Addr} {cap : Nat} {R : List (Nat × Obj)} (r : Rw base ty sz k xs al cap R) (hty : ty ≠ 83) : NF R := by
  rcases r with ⟨-, -, -, -, rfl⟩ | ⟨b, cur, -, -, -, -, -, -, -, rfl⟩
  · exact NF.nil
  · exact NF.nil.box hty
/-- the rows of a player -/
structure RWS (W0 : World) (l : List RA) (st : PS) (a0 a1 a2 a3 a4 : Option Addr) (c0 c1 c2 c3 c4 : Nat) (R0 R1 R2 R3 R4 : List (Nat × Obj)) : Prop where
  r0 : Rw W0.heap.size 179 4 l.length (racells l) a0 c0 R0
  r1 : Rw W0.heap.size 23 1 st.ld.length (ulcells st.ld) a1 c1 R1
  r2 : Rw W0.heap.size 3 1 st.er.length (icI st.er) a2 c2 R2
  r3 : Rw W0.heap.size 3 1 st.at_.length (icI st.at_) a3 c3 R3
  r4 : Rw W0.heap.size 4 1 st.en.length (blcells st.en) a4 c4 R4
section
variable {W0 w w' : World} {m wk n t : Nat} {g g' : Nat → Nat} {lg lg' : List (Nat × Nat)} {p : Nat} {l : List RA} {st : PS} {E E' X B : List (Nat × Obj)} {a0 a1 a2 a3 a4 : Option Addr} {c0 c1 c2 c3 c4 : Nat} {R0 R1 R2 R3 R4 : List (Nat × Obj)}
theorem RWS.nf (r : RWS W0 l st a0 a1 a2 a3 a4 c0 c1 c2 c3 c4 R0 R1 R2 R3 R4) (hB : NF B) : NF (pbl p l.length a0 a1 a2 a3 a4 c0 c1 c2 c3 c4 R0 R1 R2 R3 R4 st B) :=
  NF.box ((r.r0.nf (by decide)).app ((r.r1.nf (by decide)).app ((r.r2.nf (by decide)).app ((r.r3.nf (by decide)).app ((r.r4.nf (by decide)).app hB))))) (by decide)
theorem PT1.rws (h : PT1 W0 m wk n t g lg p l st E a0 a1 a2 a3 a4 c0 c1 c2 c3 c4 R0 R1 R2 R3 R4 w) : RWS W0 l st a0 a1 a2 a3 a4 c0 c1 c2 c3 c4 R0 R1 R2 R3 R4 := ⟨h.r0, h.r1, h.r2, h.r3, h.r4⟩
theorem PT1.out (h : PT1 W0 m wk n t g lg p l st (E ++ B) a0 a1 a2 a3 a4 c0 c1 c2 c3 c4 R0 R1 R2 R3 R4 w) :
    NL W0 (E ++ pbl p l.length a0 a1 a2 a3 a4 c0 c1 c2 c3 c4 R0 R1 R2 R3 R4 st B) ∧ TW W0 m wk n t g lg (E ++ pbl p l.length a0 a1 a2 a3 a4 c0 c1 c2 c3 c4 R0 R1 R2 R3 R4 st B) w :=
  ⟨h.nl.perm pbl_in.symm, h.tw.sub fun x hx => pbl_in.mem_iff.1 hx⟩
theorem RWS.pt (r : RWS W0 l st a0 a1 a2 a3 a4 c0 c1 c2 c3 c4 R0 R1 R2 R3 R4) (hn : NL W0 (E ++ pbl p l.length a0 a1 a2 a3 a4 c0 c1 c2 c3 c4 R0 R1 R2 R3 R4 st B)) (h : TW W0 m wk n t g lg (E ++ pbl p l.length a0 a1 a2 a3 a4 c0 c1 c2 c3 c4 R0 R1 R2 R3 R4 st B) w) :
    PT1 W0 m wk n t g lg p l st (E ++ B) a0 a1 a2 a3 a4 c0 c1 c2 c3 c4 R0 R1 R2 R3 R4 w :=
  ⟨r.r0, r.r1, r.r2, r.r3, r.r4, h.sub fun x hx => pbl_in.mem_iff.2 hx, hn.perm pbl_in⟩
/-- the round's own boxes -/
def bxs (b4 bx be bb bo : Nat) (p : Nat) (kz xa xe : Int) (xw : Nat) (be1 bb1 : Int) (ok : Bool) : List (Nat × Obj) :=
  [(bo, .cells #[.bool ok] 4 (0, 0)), (bb, .cells #[.int .i64 bb1] 3 (0, 0)), (be, .cells #[.int .i64 be1] 3 (0, 0)), (bx, .cells #[.int .i64 kz, .int .i64 xa, .int .u64 xw, .int .i64 xe] 179 (0, 0)), (b4, .cells #[.pointer (some ⟨p, 0, none⟩)] 79 (0, 0))]
theorem bxs_nf {b4 bx be bb bo p : Nat} {kz xa xe : Int} {xw : Nat} {be1 bb1 : Int} {ok : Bool} : NF (bxs b4 bx be bb bo p kz xa xe xw be1 bb1 ok) :=
  NF.box (NF.box (NF.box (NF.box (NF.box NF.nil (by decide)) (by decide)) (by decide)) (by decide)) (by decide)
set_option maxRecDepth 100000 in
set_option maxHeartbeats 2000000 in
theorem play1_does {D2 : PR10} {q : Nat} {b4 bx be bb bo : Nat} {kz xa xe : Int} {xw : Nat} {be1 bb1 : Int}
    (hcall : ∀ (E : List (Nat × Obj)) (W : World), PTs W0 m wk n t g lg p l st E W → Calls Try.prog 54 #[.pointer (some ⟨p, 0, none⟩), .pointer (some ⟨wk, 0, none⟩), .int .i64 bb1, .int .i64 be1] W fun e w' =>
        e = endP D2.bad ∧ ∃ l2, l2.length ≤ q ∧ undoG D2.g l2 = g ∧ PTs W0 m wk n t D2.g (lg ++ l2) p l D2.st E w')
    (r : RWS W0 l st a0 a1 a2 a3 a4 c0 c1 c2 c3 c4 R0 R1 R2 R3 R4) :
    Does2 W0 m wk n t 123 #[.pointer (some ⟨b4, 0, none⟩), .pointer (some ⟨bb, 0, none⟩), .pointer (some ⟨be, 0, none⟩), .pointer (some ⟨bo, 0, none⟩)] g lg
      (pbl p l.length a0 a1 a2 a3 a4 c0 c1 c2 c3 c4 R0 R1 R2 R3 R4 st (bxs b4 bx be bb bo p kz xa xe xw be1 bb1 false)) (endP D2.bad)
      (fun g1 l1 K1 => g1 = D2.g ∧ ∃ l2, l1 = lg ++ l2 ∧ l2.length ≤ q ∧ undoG D2.g l2 = g ∧ ∃ a0 a1 a2 a3 a4 c0 c1 c2 c3 c4 R0 R1 R2 R3 R4, RWS W0 l D2.st a0 a1 a2 a3 a4 c0 c1 c2 c3 c4 R0 R1 R2 R3 R4 ∧ K1 = pbl p l.length a0 a1 a2 a3 a4 c0 c1 c2 c3 c4 R0 R1 R2 R3 R4 D2.st (bxs b4 bx be bb bo p kz xa xe xw be1 bb1 D2.bad.isNone)) := by
  intro E W hn h
  have hP := r.pt hn h
  have e0 : (#[Value.pointer (some ⟨wk, 0, none⟩)] ++ #[Value.pointer (some ⟨b4, 0, none⟩), .pointer (some ⟨bb, 0, none⟩), .pointer (some ⟨be, 0, none⟩), .pointer (some ⟨bo, 0, none⟩)]) = #[.pointer (some ⟨wk, 0, none⟩), .pointer (some ⟨b4, 0, none⟩), .pointer (some ⟨bb, 0, none⟩), .pointer (some ⟨be, 0, none⟩), .pointer (some ⟨bo, 0, none⟩)] := rfl
  rw [e0]
  clear e0
  have c4 := at_cell (hP.inE (x := (b4, .cells #[.pointer (some ⟨p, 0, none⟩)] 79 (0, 0))) (List.mem_append_right _ (by simp [bxs]))) 0 (.pointer (some ⟨p, 0, none⟩)) rfl
  have cb := at_cell (hP.inE (x := (bb, .cells #[.int .i64 bb1] 3 (0, 0))) (List.mem_append_right _ (by simp [bxs]))) 0 (.int .i64 bb1) rfl
  have ce := at_cell (hP.inE (x := (be, .cells #[.int .i64 be1] 3 (0, 0))) (List.mem_append_right _ (by simp [bxs]))) 0 (.int .i64 be1) rfl
  have HC := Lib.hid (hcall _ W ⟨_, _, _, _, _, _, _, _, _, _, _, _, _, _, _, hP⟩)
  simp only at c4 cb ce
  obtain ⟨g2, st2, bad⟩ := D2
  simp only at *
  clear hcall r hn h hP
  cases bad with
  | none =>
    simp only [endP] at HC ⊢
    go_enter Try.func123, Try.ntmps123
    go_wp2_with (go_at_call 54; refine HC.out.mono ?_; rintro e w7 ⟨rfl, l2, q1, q2, a0, a1, a2, a3, a4, c0, c1, c2, c3, c4, R0, R1, R2, R3, R4, h7⟩; have h8 := h7.permE (perm_in (R := [(bo, .cells #[.bool false] 4 (0, 0))])); have f0 := at_free (h8.inE (List.mem_cons_self ..)) 0; have d0 := at_cell (h8.inE (List.mem_cons_self ..)) 0 (.bool false) rfl; have H9 := Lib.hid ((h8.setE 0 (.bool true)).permE (perm_in (R := [(bo, .cells #[.bool true] 4 (0, 0))])).symm); have HQ := Lib.hid q2; clear h7 h8 q2 HC)
    go_end0
    exact ⟨rfl, g2, lg ++ l2, _, ⟨rfl, l2, rfl, q1, HQ.out, a0, a1, a2, a3, a4, _, c1, c2, c3, c4, R0, R1, R2, R3, R4, H9.out.rws, rfl⟩, H9.out.out.1, H9.out.rws.nf bxs_nf, H9.out.out.2⟩
  | some x =>
    obtain ⟨er, ea⟩ := x
    simp only [endP] at HC ⊢
    go_enter Try.func123, Try.ntmps123
    go_wp2_with (go_at_call 54; refine HC.out.mono ?_; rintro e w7 ⟨rfl, l2, q1, q2, a0, a1, a2, a3, a4, c0, c1, c2, c3, c4, R0, R1, R2, R3, R4, h7⟩; have H9 := Lib.hid h7; have HQ := Lib.hid q2; clear h7 q2 HC)
    exact ⟨rfl, rfl, g2, lg ++ l2, _, ⟨rfl, l2, rfl, q1, HQ.out, a0, a1, a2, a3, a4, c0, c1, c2, c3, c4, R0, R1, R2, R3, R4, H9.out.rws, rfl⟩, H9.out.out.1, H9.out.rws.nf bxs_nf, H9.out.out.2⟩
theorem play_part {D2 : PR10} {q : Nat} {b4 bx be bb bo : Nat} {kz xa xe : Int} {xw : Nat} {be1 bb1 : Int}
    (hcall : ∀ (E : List (Nat × Obj)) (W : World), PTs W0 m wk n t g lg p l st E W → Calls Try.prog 54 #[.pointer (some ⟨p, 0, none⟩), .pointer (some ⟨wk, 0, none⟩), .int .i64 bb1, .int .i64 be1] W fun e w' =>
        e = endP D2.bad ∧ ∃ l2, l2.length ≤ q ∧ undoG D2.g l2 = g ∧ PTs W0 m wk n t D2.g (lg ++ l2) p l D2.st E w')
    (hq : lg.length + q ≤ 1000000)
    (h : PT1 W0 m wk n t g lg p l st (E ++ bxs b4 bx be bb bo p kz xa xe xw be1 bb1 false) a0 a1 a2 a3 a4 c0 c1 c2 c3 c4 R0 R1 R2 R3 R4 w) :
    Calls Try.prog 61 #[.pointer (some ⟨wk, 0, none⟩), .func (.func 123) #[] #[.pointer (some ⟨b4, 0, none⟩), .pointer (some ⟨bb, 0, none⟩), .pointer (some ⟨be, 0, none⟩), .pointer (some ⟨bo, 0, none⟩)]] w fun e' W' =>
      e' = .returned (.agg #[.int .i64 (resE D2.bad), .int .i64 (resA D2.bad)]) ∧ ∃ lx, lx.length ≤ q ∧ undoG (if D2.bad.isSome then g else D2.g) lx = g ∧
        PTs W0 m wk n t (if D2.bad.isSome then g else D2.g) (lg ++ lx) p l D2.st (E ++ bxs b4 bx be bb bo p kz xa xe xw be1 bb1 D2.bad.isNone) W' := by
  have hd := play1_does (bx := bx) (b4 := b4) (be := be) (bb := bb) (bo := bo) (kz := kz) (xa := xa) (xe := xe) (xw := xw) hcall h.rws
  have hF : ∀ args w, (callFunc 123 args).run Try.prog w = .ok (.enter 123 args) w := fun _ _ => by kernel_rfl
  obtain ⟨hn, ht⟩ := h.out
  obtain ⟨g2, st2, bad⟩ := D2
  simp only at *
  cases bad with
  | none =>
    refine (part_ret2 (fun E W hn h => part_ok2 hF hd E W hn h) E w hn ht).mono ?_
    rintro e W' ⟨rfl, g1, l1, K1, ⟨rfl, l2, rfl, q1, q2, a0, a1, a2, a3, a4, c0, c1, c2, c3, c4, R0, R1, R2, R3, R4, r', rfl⟩, hn', -, ht'⟩
    exact ⟨rfl, l2, q1, q2, a0, a1, a2, a3, a4, c0, c1, c2, c3, c4, R0, R1, R2, R3, R4, r'.pt hn' ht'⟩
  | some x =>
    obtain ⟨er, ea⟩ := x
    refine (part_ret2 (R := fun g1 l1 K1 => g1 = g ∧ l1 = lg ∧ ∃ a0 a1 a2 a3 a4 c0 c1 c2 c3 c4 R0 R1 R2 R3 R4, RWS W0 l st2 a0 a1 a2 a3 a4 c0 c1 c2 c3 c4 R0 R1 R2 R3 R4 ∧ K1 = pbl p l.length a0 a1 a2 a3 a4 c0 c1 c2 c3 c4 R0 R1 R2 R3 R4 st2 (bxs b4 bx be bb bo p kz xa xe xw be1 bb1 false)) (er := er) (a := ea) (fun E W hn h => (part_thrown2 hF hd (fun g1 l1 K1 hr => by obtain ⟨-, l2, rfl, q1, -⟩ := hr; rw [List.length_append]; omega) E W hn h).mono ?_) E w hn ht).mono ?_
    · rintro e W' ⟨rfl, g1, l1, K1, ⟨rfl, l2, rfl, q1, q2, hx⟩, hn', hf', ht'⟩
      rw [List.drop_left, List.take_left, q2] at ht'
      exact ⟨rfl, g, lg, K1, ⟨rfl, rfl, hx⟩, hn', hf', ht'⟩
    · rintro e W' ⟨rfl, g1, l1, K1, ⟨rfl, rfl, a0, a1, a2, a3, a4, c0, c1, c2, c3, c4, R0, R1, R2, R3, R4, r', rfl⟩, hn', -, ht'⟩
      exact ⟨rfl, [], by simp, rfl, a0, a1, a2, a3, a4, c0, c1, c2, c3, c4, R0, R1, R2, R3, R4, by rw [List.append_nil]; exact r'.pt hn' ht'⟩
theorem PT1.far2 (h : PT1 W0 m wk n t g lg p l st E a0 a1 a2 a3 a4 c0 c1 c2 c3 c4 R0 R1 R2 R3 R4 w) (hsz : szS st ≤ 100000) (v : Int) :
    (∀ x ∈ E, w.heap[x.1]? = some x.2) ∧ (∀ x ∈ E, (w.alloc (.cells #[.int .i64 v] 3)).heap[x.1]? = some x.2) ∧ w.cell? ⟨p, 2, none⟩ = some (.slice a2 st.er.length c2) ∧ (w.alloc (.cells #[.int .i64 v] 3)).cell? ⟨p, 2, none⟩ = some (.slice a2 st.er.length c2) ∧
    ∃ (x : Option Addr) (cx : Nat) (w6 : World) (Rx : List (Nat × Obj)), Hid ((Builtin.append_ #[71, 71] 71 #[.slice a2 st.er.length c2, .slice (some ⟨w.heap.size, 0, none⟩) 1 1]).run Try.prog (w.alloc (.cells #[.int .i64 v] 3)) = .ok (.slice x (st.er.length + 1) cx) w6) ∧
      (∀ x ∈ E, w6.heap[x.1]? = some x.2) ∧ w6.cell? ⟨p, 2, none⟩ = some (.slice a2 st.er.length c2) ∧ w6.frozen? ⟨p, 2, none⟩ = false ∧ (∀ y ∈ E, (w6.setCell ⟨p, 2, none⟩ (.slice x (st.er.length + 1) cx)).heap[y.1]? = some y.2) ∧
      PT1 W0 m wk n t g lg p l { st with er := st.er ++ [v] } E a0 a1 x a3 a4 c0 c1 cx c3 c4 R0 R1 Rx R3 R4 (w6.setCell ⟨p, 2, none⟩ (.slice x (st.er.length + 1) cx)) := by
  have h8b := h.boxE #[.int .i64 v] 3
  obtain ⟨x, cx, w6, Rx, hrun6, hE6, hs6, h6⟩ := h.app2 v hsz
  exact ⟨fun y hy => h.inE hy, fun y hy => h8b.inE (List.mem_cons_of_mem _ hy), at_cell h.head 2 _ rfl, at_cell h8b.head 2 _ rfl, x, cx, w6, Rx, hrun6, hE6, at_cell hs6 2 _ rfl, at_free hs6 2, fun y hy => h6.inE hy, h6⟩
theorem PT1.far3 (h : PT1 W0 m wk n t g lg p l st E a0 a1 a2 a3 a4 c0 c1 c2 c3 c4 R0 R1 R2 R3 R4 w) (hsz : szS st ≤ 100000) (v : Int) :
    (∀ x ∈ E, w.heap[x.1]? = some x.2) ∧ (∀ x ∈ E, (w.alloc (.cells #[.int .i64 v] 3)).heap[x.1]? = some x.2) ∧ w.cell? ⟨p, 3, none⟩ = some (.slice a3 st.at_.length c3) ∧ (w.alloc (.cells #[.int .i64 v] 3)).cell? ⟨p, 3, none⟩ = some (.slice a3 st.at_.length c3) ∧
    ∃ (x : Option Addr) (cx : Nat) (w6 : World) (Rx : List (Nat × Obj)), Hid ((Builtin.append_ #[71, 71] 71 #[.slice a3 st.at_.length c3, .slice (some ⟨w.heap.size, 0, none⟩) 1 1]).run Try.prog (w.alloc (.cells #[.int .i64 v] 3)) = .ok (.slice x (st.at_.length + 1) cx) w6) ∧
      (∀ x ∈ E, w6.heap[x.1]? = some x.2) ∧ w6.cell? ⟨p, 3, none⟩ = some (.slice a3 st.at_.length c3) ∧ w6.frozen? ⟨p, 3, none⟩ = false ∧ (∀ y ∈ E, (w6.setCell ⟨p, 3, none⟩ (.slice x (st.at_.length + 1) cx)).heap[y.1]? = some y.2) ∧
      PT1 W0 m wk n t g lg p l { st with at_ := st.at_ ++ [v] } E a0 a1 a2 x a4 c0 c1 c2 cx c4 R0 R1 R2 Rx R4 (w6.setCell ⟨p, 3, none⟩ (.slice x (st.at_.length + 1) cx)) := by
  have h8b := h.boxE #[.int .i64 v] 3
  obtain ⟨x, cx, w6, Rx, hrun6, hE6, hs6, h6⟩ := h.app3 v hsz
  exact ⟨fun y hy => h.inE hy, fun y hy => h8b.inE (List.mem_cons_of_mem _ hy), at_cell h.head 3 _ rfl, at_cell h8b.head 3 _ rfl, x, cx, w6, Rx, hrun6, hE6, at_cell hs6 3 _ rfl, at_free hs6 3, fun y hy => h6.inE hy, h6⟩
theorem PT1.far4 (h : PT1 W0 m wk n t g lg p l st E a0 a1 a2 a3 a4 c0 c1 c2 c3 c4 R0 R1 R2 R3 R4 w) (hsz : szS st ≤ 100000) (v : Bool) :
    (∀ x ∈ E, w.heap[x.1]? = some x.2) ∧ (∀ x ∈ E, (w.alloc (.cells #[.bool v] 4)).heap[x.1]? = some x.2) ∧ w.cell? ⟨p, 4, none⟩ = some (.slice a4 st.en.length c4) ∧ (w.alloc (.cells #[.bool v] 4)).cell? ⟨p, 4, none⟩ = some (.slice a4 st.en.length c4) ∧
    ∃ (x : Option Addr) (cx : Nat) (w6 : World) (Rx : List (Nat × Obj)), Hid ((Builtin.append_ #[72, 72] 72 #[.slice a4 st.en.length c4, .slice (some ⟨w.heap.size, 0, none⟩) 1 1]).run Try.prog (w.alloc (.cells #[.bool v] 4)) = .ok (.slice x (st.en.length + 1) cx) w6) ∧
      (∀ x ∈ E, w6.heap[x.1]? = some x.2) ∧ w6.cell? ⟨p, 4, none⟩ = some (.slice a4 st.en.length c4) ∧ w6.frozen? ⟨p, 4, none⟩ = false ∧ (∀ y ∈ E, (w6.setCell ⟨p, 4, none⟩ (.slice x (st.en.length + 1) cx)).heap[y.1]? = some y.2) ∧
      PT1 W0 m wk n t g lg p l { st with en := st.en ++ [v] } E a0 a1 a2 a3 x c0 c1 c2 c3 cx R0 R1 R2 R3 Rx (w6.setCell ⟨p, 4, none⟩ (.slice x (st.en.length + 1) cx)) := by
  have h8b := h.boxE #[.bool v] 4
  obtain ⟨x, cx, w6, Rx, hrun6, hE6, hs6, h6⟩ := h.app4 v hsz
  exact ⟨fun y hy => h.inE hy, fun y hy => h8b.inE (List.mem_cons_of_mem _ hy), at_cell h.head 4 _ rfl, at_cell h8b.head 4 _ rfl, x, cx, w6, Rx, hrun6, hE6, at_cell hs6 4 _ rfl, at_free hs6 4, fun y hy => h6.inE hy, h6⟩
end
end Go.Proofs.Ytkcijlndblbidaa
