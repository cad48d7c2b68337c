/- TrapOthers: the work of three depths, and Guard. -/
import Derived.Test.YtkcijlndblbidaaTOthers1
namespace Go.Proofs.Ytkcijlndblbidaa
open Go.ChangeShapes Go.WideShapes Go.ChangeAt Go.RowKit
set_option linter.unusedVariables false

section
variable {W0 : World} {m wk n t b4 b7 b8 b11 b12 b13 cap deep : Nat} {g : Nat → Nat} {l : List (Nat × Nat)} {K E : List (Nat × Obj)} {a : Option Addr} {ps : List A10.Act} {T : TypeId} {v : Value} {w : World}
/-- what stands behind a run of stores that is undone -/
theorem undo_run (n : Nat) (g : Nat → Nat) (l : List (Nat × Nat)) (ps : List A10.Act) : (∀ b, undoG (runS n g l ps).1 ((runS n g l ps).2.drop l.length) b = g b) ∧ (runS n g l ps).2.take l.length = l := by
  obtain ⟨ext, h1, h2⟩ := runS_take n g l ps
  rw [h1]
  refine ⟨fun b => ?_, by simp⟩
  rw [List.drop_left]
  exact h2 b
def more (deep : Nat) (T : TypeId) (v : Value) : List PanicEntry := if deep = 0 then [] else [{ v := .iface T v, recovered := true }]
theorem TW.sameL (h : TW W0 m wk n t g l K w) {g' : Nat → Nat} {l' : List (Nat × Nat)} (hg : ∀ p, g' p = g p) (hl : l' = l) : TW W0 m wk n t g' l' K w := by
  subst hl
  exact h.same fun p _ => hg p
theorem inner_part (hta : ∀ w, (Instr.typeAssert (.iface T v) 20 188 true).run Try.prog w = .ok (.tuple #[.agg #[.int .i64 0, .int .i64 0], .bool false]) w)
    (h4 : W0.heap[b4]? = some (.cells #[.slice a ps.length cap] 66 (0, 0))) (h7 : W0.heap[b7]? = some (.cells #[.int .i64 n] 3 (0, 0))) (h11 : (b11, .cells #[.iface T v] 20 (0, 0)) ∈ K) (hK : ∀ x ∈ K, ∀ cs, x.2 ≠ .cells cs 83 (0, 0))
    (hA : A10.Acts W0 a ps) (hg : ∀ b, b < n → g b < 18446744073709551616) (hps : l.length + ps.length ≤ 100000) (h : TW W0 m wk n t g l (E ++ K) w) :
    Calls Try.prog 61 #[.pointer (some ⟨wk, 0, none⟩), .func (.func 68) #[] #[.pointer (some ⟨b4, 0, none⟩), .pointer (some ⟨b7, 0, none⟩), .pointer (some ⟨b11, 0, none⟩), .pointer (some ⟨b13, 0, none⟩)]] w fun e' W' => e' = .panicked [{ v := .iface T v, recovered := false }, { v := .iface T v, recovered := true }] ∧ TW W0 m wk n t g l (E ++ K) W' := by
  refine (part_panics (W0 := W0) (m := m) (wk := wk) (n := n) (t := t) (g := g) (l := l) (K := K) (R := fun g' l' K' => (∀ b, g b = g' b) ∧ l = l' ∧ K' = K) (fun E W hW => (part_other others11_enter hta (others11_does (b13 := b13) h4 h7 h11 hK hA hg hps) (fun g' l' K' hr => ?_) E W hW).mono fun e' W' ⟨he, g', l', K', hr, hk, hT⟩ => ⟨he, _, _, K', ⟨?_, ?_, hr.2.2⟩, hk, hT⟩) E w h).mono fun e' W' ⟨he, g', l', K', hr, hk, hT⟩ => ⟨he, by rw [← hr.2.2]; exact hT.sameL hr.1 hr.2.1⟩
  · rw [hr.2.1, runS_length]
    omega
  · intro b
    rw [hr.1, hr.2.1]
    exact ((undo_run n g l ps).1 b).symm
  · rw [hr.2.1]
    exact (undo_run n g l ps).2.symm
theorem inner_run (hta : ∀ w, (Instr.typeAssert (.iface T v) 20 188 true).run Try.prog w = .ok (.tuple #[.agg #[.int .i64 0, .int .i64 0], .bool false]) w)
    (h4 : W0.heap[b4]? = some (.cells #[.slice a ps.length cap] 66 (0, 0))) (h7 : W0.heap[b7]? = some (.cells #[.int .i64 n] 3 (0, 0))) (h11 : (b11, .cells #[.iface T v] 20 (0, 0)) ∈ K) (hK : ∀ x ∈ K, ∀ cs, x.2 ≠ .cells cs 83 (0, 0))
    (hA : A10.Acts W0 a ps) (hg : ∀ b, b < n → g b < 18446744073709551616) (hps : ps.length ≤ 150) (h : TW W0 m wk n t g l (E ++ K) w) :
    Calls Try.prog 52 #[.iface 26 (.pointer (some ⟨m, 0, none⟩)), .func (.func 68) #[] #[.pointer (some ⟨b4, 0, none⟩), .pointer (some ⟨b7, 0, none⟩), .pointer (some ⟨b11, 0, none⟩), .pointer (some ⟨b13, 0, none⟩)]] w fun e' W' => e' = .panicked [{ v := .iface T v, recovered := false }, { v := .iface T v, recovered := true }] ∧ TW W0 m wk n t g l (E ++ K) W' := by
  obtain ⟨BK, hF, hback⟩ := h.shut
  refine (run_panics (W0 := W0) (m := m) (n := n) (t := t) (g := g) (K := K) (R := fun g' K' => (∀ b, g b = g' b) ∧ K' = K) (fun wk E W hW => (part_other others11_enter hta (others11_does (b13 := b13) h4 h7 h11 hK hA hg (by simp; omega)) (fun g' l' K' hr => ?_) E W hW).mono fun e' W' ⟨he, g', l', K', hr, hk, hT⟩ => ⟨he, _, _, K', ⟨?_, hr.2.2⟩, hk, hT⟩) (BK ++ E) w (by rw [List.append_assoc]; exact hF)).mono fun e' W' ⟨he, g', K', hr, hk, hT⟩ => ⟨he, hback g W' ?_⟩
  · rw [hr.2.1, runS_length]
    simp; omega
  · intro b
    rw [hr.1, hr.2.1]
    exact ((undo_run n g [] ps).1 b).symm
  · rw [hr.2, List.append_assoc] at hT
    exact hT.same fun p _ => hr.1 p
set_option maxRecDepth 100000 in
theorem others1_does (hta : ∀ w, (Instr.typeAssert (.iface T v) 20 188 true).run Try.prog w = .ok (.tuple #[.agg #[.int .i64 0, .int .i64 0], .bool false]) w)
    (h4 : W0.heap[b4]? = some (.cells #[.slice a ps.length cap] 66 (0, 0))) (h7 : W0.heap[b7]? = some (.cells #[.int .i64 n] 3 (0, 0))) (h11 : (b11, .cells #[.iface T v] 20 (0, 0)) ∈ K) (h12 : (b12, .cells #[.int .i64 deep] 3 (0, 0)) ∈ K) (h8 : (b8, .cells #[.pointer (some ⟨m, 0, none⟩)] 26 (0, 0)) ∈ K) (hK : ∀ x ∈ K, ∀ cs, x.2 ≠ .cells cs 83 (0, 0))
    (hdeep : deep < 3) (hA : A10.Acts W0 a ps) (hg : ∀ b, b < n → g b < 18446744073709551616) (hps : ps.length ≤ 150) :
    Does W0 m wk n t 67 #[.pointer (some ⟨b4, 0, none⟩), .pointer (some ⟨b7, 0, none⟩), .pointer (some ⟨b11, 0, none⟩), .pointer (some ⟨b13, 0, none⟩), .pointer (some ⟨b12, 0, none⟩), .pointer (some ⟨b8, 0, none⟩)] g [] K (.panicked ({ v := .iface T v, recovered := false } :: more deep T v)) (fun g' l' K' => g' = (runS n g [] ps).1 ∧ l' = (runS n g [] ps).2 ∧ K' = K) := by
  intro E W h
  have e0 : (#[Value.pointer (some ⟨wk, 0, none⟩)] ++ #[Value.pointer (some ⟨b4, 0, none⟩), .pointer (some ⟨b7, 0, none⟩), .pointer (some ⟨b11, 0, none⟩), .pointer (some ⟨b13, 0, none⟩), .pointer (some ⟨b12, 0, none⟩), .pointer (some ⟨b8, 0, none⟩)]) = #[.pointer (some ⟨wk, 0, none⟩), .pointer (some ⟨b4, 0, none⟩), .pointer (some ⟨b7, 0, none⟩), .pointer (some ⟨b11, 0, none⟩), .pointer (some ⟨b13, 0, none⟩), .pointer (some ⟨b12, 0, none⟩), .pointer (some ⟨b8, 0, none⟩)] := rfl
  rw [e0]
  clear e0
  have hmf : ∀ (fn : Fn) (first cap : Array Value) (w : World), (Instr.makeFunc fn first cap).run Try.prog w = .ok (.func fn first cap) w := fun _ _ _ _ => rfl
  have c4 := at_cell (blockB h.below (Nat.le_refl _) h4) 0 _ rfl
  have c7 := at_cell (blockB h.below (Nat.le_refl _) h7) 0 _ rfl
  have HST := Lib.hid (stores_any h hA hg (by simp; omega) cap)
  have hn := h.dims
  have hA2 := hA
  have hsm := runS_small n g [] ps hg (fun p hp => by
    obtain ⟨j, hj, rfl⟩ := List.mem_iff_getElem.1 hp
    have := (hA2.each j hj).2.2.1
    rwa [List.getD_eq_getElem?_getD, List.getElem?_eq_getElem hj] at this)
  have hlen : (runS n g [] ps).2.length ≤ 150 := by rw [runS_length]; simpa using hps
  have HP1 := Lib.hid (fun (W : World) (hW : TW W0 m wk n t (runS n g [] ps).1 (runS n g [] ps).2 (E ++ K) W) => inner_part (b13 := b13) (cap := cap) hta h4 h7 h11 hK hA hsm (by omega) hW)
  have HP2 := Lib.hid (fun (W : World) (hW : TW W0 m wk n t (runS n g [] ps).1 (runS n g [] ps).2 (E ++ K) W) => inner_run (b13 := b13) (cap := cap) hta h4 h7 h11 hK hA hsm (by omega) hW)
  generalize (runS n g [] ps).1 = g1 at *
  generalize (runS n g [] ps).2 = l1 at *
  have H11 := Lib.hid h11
  have H12 := Lib.hid h12
  have H8 := Lib.hid h8
  have HK := Lib.hid hK
  clear h hA hA2 h4 h7 hg hK h11 h12 h8 hta hsm
  have hd : deep = 0 ∨ deep = 1 ∨ deep = 2 := by omega
  clear hdeep
  rcases hd with rfl | rfl | rfl
  all_goals
    go_enter Try.func67, Try.ntmps67
    go_wp2_with (first
      | (go_at_call 57; refine HST.out.mono ?_; rintro e w5 ⟨rfl, h5⟩; have c11 := at_cell (h5.block (List.mem_append_right _ H11.out)) 0 _ rfl; have c12 := at_cell (h5.block (List.mem_append_right _ H12.out)) 0 _ rfl; have c8 := at_cell (h5.block (List.mem_append_right _ H8.out)) 0 _ rfl; have H5 := Lib.hid h5; clear h5)
      | (go_at_call 64; refine (throw_tw H5.out T v).mono ?_; rintro e w6 ⟨rfl, rfl⟩; have H6 := Lib.hid H5.out)
      | (go_at_call 61; refine (HP1.out _ H5.out).mono ?_; rintro e w6 ⟨rfl, h6⟩; have H6 := Lib.hid h6)
      | (go_at_call 52; refine (HP2.out _ H5.out).mono ?_; rintro e w6 ⟨rfl, h6⟩; have H6 := Lib.hid h6))
    exact ⟨rfl, rfl, g1, l1, K, ⟨rfl, rfl, rfl⟩, HK.out, H6.out⟩
end
end Go.Proofs.Ytkcijlndblbidaa
