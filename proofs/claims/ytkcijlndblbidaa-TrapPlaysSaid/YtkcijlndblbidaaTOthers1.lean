/- The closures of TrapOthers: what they do; a part, and a run within, that panic. -/
import Derived.Test.YtkcijlndblbidaaTUndoes1
namespace Go.Proofs.Ytkcijlndblbidaa
open Go.ChangeShapes Go.WideShapes Go.ChangeAt Go.RowKit
set_option linter.unusedVariables false

section
variable {W0 : World} {m wk n t b4 b7 b8 b11 b12 b13 cap k : Nat} {g : Nat → Nat} {l : List (Nat × Nat)} {K E : List (Nat × Obj)} {a : Option Addr} {ps : List A10.Act} {T : TypeId} {v : Value} {w : World}
theorem throw_tw (h : TW W0 m wk n t g l K w) (T : TypeId) (v : Value) :
    Calls Try.prog 64 #[.pointer (some ⟨wk, 0, none⟩), .iface T v] w fun E w' => E = .panicked [{ v := .iface T v, recovered := false }] ∧ w' = w := by
  have c0 := h.space
  have he := space_eql ⟨m, 0, none⟩
  have hq := any_eql T v
  clear h
  go_enter Try.func64, Try.ntmps64
  go_wp2
  exact ⟨rfl, rfl, rfl⟩
theorem throw_nil (h : TW W0 m wk n t g l K w) :
    Calls Try.prog 64 #[.pointer (some ⟨wk, 0, none⟩), .nilIface] w fun E w' => E = .returned (.tuple #[]) ∧ w' = w := by
  have c0 := h.space
  have he := space_eql ⟨m, 0, none⟩
  clear h
  go_enter Try.func64, Try.ntmps64
  go_wp2
  first | go_end0 | refine bodyPost_ret (results_none rfl _ _ _) rfl ?_
  exact ⟨rfl, rfl⟩
set_option maxRecDepth 100000 in
/-- Part of a Work, where part panics -/
theorem part_panics {f : Value} {chain : List PanicEntry} {R : (Nat → Nat) → List (Nat × Nat) → List (Nat × Obj) → Prop}
    (hp : ∀ E W, TW W0 m wk n t g l (E ++ K) W → Calls Try.prog 122 #[.pointer (some ⟨wk, 0, none⟩), f] W fun e' W' => e' = .panicked chain ∧ ∃ g' l' K', R g' l' K' ∧ (∀ x ∈ K', ∀ cs, x.2 ≠ .cells cs 83 (0, 0)) ∧ TW W0 m wk n t g' l' (E ++ K') W')
    (E : List (Nat × Obj)) (w : World) (h : TW W0 m wk n t g l (E ++ K) w) :
    Calls Try.prog 61 #[.pointer (some ⟨wk, 0, none⟩), f] w fun e' W' => e' = .panicked chain ∧ ∃ g' l' K', R g' l' K' ∧ (∀ x ∈ K', ∀ cs, x.2 ≠ .cells cs 83 (0, 0)) ∧ TW W0 m wk n t g' l' (E ++ K') W' := by
  have hT := h.box #[.int .i64 0, .int .i64 0] 83
  have c0 := hT.space
  have he := space_eql ⟨m, 0, none⟩
  have HP := Lib.hid (hp ((_, .cells #[.int .i64 0, .int .i64 0] 83 (0, 0)) :: E) _ hT)
  clear h hp hT
  go_enter Try.func61, Try.ntmps61
  go_wp2_with (go_at_call 122; have hp := HP.out; refine hp.mono ?_; rintro e1 w1 ⟨rfl, g1, l1, K1, hr, hk1, h1⟩; simp only [List.cons_append] at h1; have H1 := Lib.hid h1.tail; have HR := Lib.hid hr; have HK1 := Lib.hid hk1; clear h1 hr hk1 hp)
  exact ⟨rfl, rfl, g1, l1, K1, HR.out, HK1.out, H1.out⟩
/-- a piece of work's own blocks as blocks that stay -/
theorem TW.shut (h : TW W0 m wk n t g l K w) : ∃ BK : List (Nat × Obj), FK W0 m n t g (BK ++ K) w ∧ ∀ g' w', FK W0 m n t g' (BK ++ K) w' → TW W0 m wk n t g' l K w' := by
  obtain ⟨al, cp, S, v, h⟩ := h
  rcases h.row.2 with ⟨e, h0⟩ | ⟨gb, c, cur, e, h1, h2, h3, h4, h5, h6⟩
  · refine ⟨[(wk, .cells #[.iface 26 (.pointer (some ⟨m, 0, none⟩)), .slice al l.length cp] 186 (0, 0))], ⟨v, ⟨S, h.vm, h.upS, h.below, fun x hx => ?_⟩, h.words⟩, fun g' w' hF => ?_⟩
    · simp only [List.cons_append, List.nil_append, List.mem_cons] at hx
      rcases hx with rfl | hx
      · exact ⟨h.outw, h.head⟩
      · exact ⟨(h.outk x hx).1, (h.outk x hx).2.2⟩
    · obtain ⟨v', ⟨S', f1, f2, f3, f4⟩, hv'⟩ := hF
      simp at e
      obtain ⟨e1, e2, e3⟩ := e
      refine ⟨al, cp, S', v', f1, hv', (f4 (wk, _) (by simp)).2, ⟨h.row.1, .inl ⟨by rw [e1, e3, h0], h0⟩⟩, f2, f3, (f4 (wk, _) (List.mem_cons_self ..)).1, h.low, fun ad ea => (by rw [e1] at ea; cases ea), fun x hx => ⟨(f4 x (List.mem_append_right _ hx)).1, (h.outk x hx).2.1, (f4 x (List.mem_append_right _ hx)).2⟩, h.small⟩
  · simp at e
    obtain ⟨ea, ec⟩ := e
    obtain ⟨hg1, hg2⟩ := h.outr _ ea
    refine ⟨[(wk, .cells #[.iface 26 (.pointer (some ⟨m, 0, none⟩)), .slice al l.length cp] 186 (0, 0)), (gb, .cells cur 190 (0, 0))], ⟨v, ⟨S, h.vm, h.upS, h.below, fun x hx => ?_⟩, h.words⟩, fun g' w' hF => ?_⟩
    · simp only [List.cons_append, List.nil_append, List.mem_cons] at hx
      rcases hx with rfl | rfl | hx
      · exact ⟨h.outw, h.head⟩
      · exact ⟨hg1, h2⟩
      · exact ⟨(h.outk x hx).1, (h.outk x hx).2.2⟩
    · obtain ⟨v', ⟨S', f1, f2, f3, f4⟩, hv'⟩ := hF
      refine ⟨al, cp, S', v', f1, hv', (f4 (wk, _) (by simp)).2, ⟨h.row.1, .inr ⟨gb, c, cur, by rw [ea, ec], h1, (f4 (gb, _) (by simp)).2, h3, h4, h5, h6⟩⟩, f2, f3, (f4 (wk, _) (List.mem_cons_self ..)).1, h.low, fun ad e2 => ?_, fun x hx => ⟨(f4 x (List.mem_append_right _ hx)).1, (h.outk x hx).2.1, (f4 x (List.mem_append_right _ hx)).2⟩, h.small⟩
      rw [ea] at e2
      cases e2
      exact ⟨(f4 (gb, .cells cur 190 (0, 0)) (by simp)).1, hg2⟩
theorem others1_enter (args : Array Value) (w : World) : (callFunc 67 args).run Try.prog w = .ok (.enter 67 args) w := by
  kernel_rfl
theorem others11_enter (args : Array Value) (w : World) : (callFunc 68 args).run Try.prog w = .ok (.enter 68 args) w := by
  kernel_rfl
theorem others2_enter (args : Array Value) (w : World) : (callFunc 69 args).run Try.prog w = .ok (.enter 69 args) w := by
  kernel_rfl
set_option maxRecDepth 100000 in
theorem others11_does (h4 : W0.heap[b4]? = some (.cells #[.slice a ps.length cap] 66 (0, 0))) (h7 : W0.heap[b7]? = some (.cells #[.int .i64 n] 3 (0, 0))) (h11 : (b11, .cells #[.iface T v] 20 (0, 0)) ∈ K) (hK : ∀ x ∈ K, ∀ cs, x.2 ≠ .cells cs 83 (0, 0))
    (hA : A10.Acts W0 a ps) (hg : ∀ b, b < n → g b < 18446744073709551616) (hps : l.length + ps.length ≤ 100000) :
    Does W0 m wk n t 68 #[.pointer (some ⟨b4, 0, none⟩), .pointer (some ⟨b7, 0, none⟩), .pointer (some ⟨b11, 0, none⟩), .pointer (some ⟨b13, 0, none⟩)] g l K (.panicked [{ v := .iface T v, recovered := false }]) (fun g' l' K' => g' = (runS n g l ps).1 ∧ l' = (runS n g l ps).2 ∧ K' = K) := by
  intro E W h
  have e0 : (#[Value.pointer (some ⟨wk, 0, none⟩)] ++ #[Value.pointer (some ⟨b4, 0, none⟩), .pointer (some ⟨b7, 0, none⟩), .pointer (some ⟨b11, 0, none⟩), .pointer (some ⟨b13, 0, none⟩)]) = #[.pointer (some ⟨wk, 0, none⟩), .pointer (some ⟨b4, 0, none⟩), .pointer (some ⟨b7, 0, none⟩), .pointer (some ⟨b11, 0, none⟩), .pointer (some ⟨b13, 0, none⟩)] := rfl
  rw [e0]
  clear e0
  have c4 := at_cell (blockB h.below (Nat.le_refl _) h4) 0 _ rfl
  have c7 := at_cell (blockB h.below (Nat.le_refl _) h7) 0 _ rfl
  have HST := Lib.hid (stores_any h hA hg hps cap)
  have H11 := Lib.hid h11
  have HK := Lib.hid hK
  clear h hA h4 h7 hg hK h11
  go_enter Try.func68, Try.ntmps68
  go_wp2_with (first | (go_at_call 57; refine HST.out.mono ?_; rintro e w5 ⟨rfl, h5⟩; have c11 := at_cell (h5.block (List.mem_append_right _ H11.out)) 0 _ rfl; have H5 := Lib.hid h5; clear h5) | (go_at_call 64; refine (throw_tw H5.out T v).mono ?_; rintro e w6 ⟨rfl, rfl⟩))
  exact ⟨rfl, rfl, _, _, K, ⟨rfl, rfl, rfl⟩, HK.out, H5.out⟩
set_option maxRecDepth 100000 in
theorem others2_does (h7 : W0.heap[b7]? = some (.cells #[.int .i64 n] 3 (0, 0))) :
    Does W0 m wk n t 69 #[.pointer (some ⟨b7, 0, none⟩)] g l [] (.panicked [{ v := thrownV 11 ((n : Int) + 3), recovered := false }]) (fun g' l' K' => g' = g ∧ l' = l ∧ K' = []) := by
  intro E W h
  have e0 : (#[Value.pointer (some ⟨wk, 0, none⟩)] ++ #[Value.pointer (some ⟨b7, 0, none⟩)]) = #[.pointer (some ⟨wk, 0, none⟩), .pointer (some ⟨b7, 0, none⟩)] := rfl
  rw [e0]
  clear e0
  have hd := h.dims
  have c7 := at_cell (blockB h.below (Nat.le_refl _) h7) 0 _ rfl
  have H := Lib.hid h
  have HL := Lib.hid (load_out h ((n : Int) + 3) (by simp [inG]; omega))
  have n1 : (n : Int) ≤ 4096 := by omega
  clear h h7
  go_enter Try.func69, Try.ntmps69
  go_wp2_with (first | (go_at_call 64; refine (throw_nil H.out).mono ?_; rintro e w5 ⟨rfl, rfl⟩) | (go_at_call 65; refine HL.out.mono ?_; rintro e w6 ⟨rfl, h6⟩; replace h6 := Lib.hid h6))
  exact ⟨rfl, rfl, _, _, [], ⟨rfl, rfl, rfl⟩, (fun x hx => by cases hx), h6.out⟩
end
end Go.Proofs.Ytkcijlndblbidaa
