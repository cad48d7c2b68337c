/- The closures of TrapUndoes. -/
import Derived.Test.YtkcijlndblbidaaTSame
namespace Go.Proofs.Ytkcijlndblbidaa
open Go.ChangeShapes Go.WideShapes Go.ChangeAt Go.RowKit
set_option linter.unusedVariables false

theorem A10.Acts.take {w : World} {a : Option Addr} {ps : List A10.Act} (h : A10.Acts w a ps) (k : Nat) : A10.Acts w a (ps.take k) := by
  obtain ⟨b, off, ha, hc⟩ := h.cell
  have hget : ∀ i, i < (ps.take k).length → i < ps.length ∧ (ps.take k).getD i default = ps.getD i default := fun i hi => by
    rw [List.length_take] at hi
    refine ⟨by omega, ?_⟩
    rw [List.getD_eq_getElem?_getD, List.getD_eq_getElem?_getD, List.getElem?_take_of_lt (by omega)]
  refine ⟨by have := h.many; rw [List.length_take]; omega, fun i hi => by rw [(hget i hi).2]; exact h.each i (hget i hi).1, b, off, ?_, fun i hi => by rw [(hget i hi).2]; exact hc i (hget i hi).1⟩
  rcases ha with rfl | ha
  · exact .inl (by simp)
  · exact .inr ha
theorem quiet_right {P : Program} {f : FuncId} {args : Array Value} {w : World} {n : Nat} {v : Value} (h : Calls P f args (w.drewN n) fun e w' => e = .returned v ∧ w' = w.drewN n) :
    Calls P f args (w.drewN n) fun e w'' => e = .returned v ∧ ∃ m, w'' = w.drewN m := h.mono fun _ _ ⟨he, hm⟩ => ⟨he, n, hm⟩
section
variable {W0 : World} {m wk n t b4 b7 b10 b11 cap k : Nat} {g : Nat → Nat} {K : List (Nat × Obj)} {a : Option Addr} {ps : List A10.Act}
theorem undoes1_enter (args : Array Value) (w : World) : (callFunc 56 args).run Try.prog w = .ok (.enter 56 args) w := by
  kernel_rfl
theorem undoes2_enter (args : Array Value) (w : World) : (callFunc 60 args).run Try.prog w = .ok (.enter 60 args) w := by
  kernel_rfl
set_option maxRecDepth 100000 in
theorem undoes1_does (h4 : W0.heap[b4]? = some (.cells #[.slice a ps.length cap] 66 (0, 0))) (h7 : W0.heap[b7]? = some (.cells #[.int .i64 n] 3 (0, 0))) (h10 : (b10, .cells #[.int .i64 k] 3 (0, 0)) ∈ K) (hK : ∀ x ∈ K, ∀ cs, x.2 ≠ .cells cs 83 (0, 0))
    (hA : A10.Acts W0 a ps) (hk : k ≤ ps.length) (hcap : ps.length ≤ cap) (hcap2 : cap ≤ maxLen) (hg : ∀ b, b < n → g b < 18446744073709551616) (hps : ps.length ≤ 150) :
    Does W0 m wk n t 56 #[.pointer (some ⟨b4, 0, none⟩), .pointer (some ⟨b10, 0, none⟩), .pointer (some ⟨b7, 0, none⟩), .pointer (some ⟨b11, 0, none⟩)] g [] K (.panicked [{ v := thrownV 8 9, recovered := false }]) (fun g' l' K' => g' = (runS n g [] (ps.take k)).1 ∧ l' = (runS n g [] (ps.take k)).2 ∧ K' = K) := by
  intro E W h
  have e0 : (#[Value.pointer (some ⟨wk, 0, none⟩)] ++ #[Value.pointer (some ⟨b4, 0, none⟩), .pointer (some ⟨b10, 0, none⟩), .pointer (some ⟨b7, 0, none⟩), .pointer (some ⟨b11, 0, none⟩)]) = #[.pointer (some ⟨wk, 0, none⟩), .pointer (some ⟨b4, 0, none⟩), .pointer (some ⟨b10, 0, none⟩), .pointer (some ⟨b7, 0, none⟩), .pointer (some ⟨b11, 0, none⟩)] := rfl
  rw [e0]
  clear e0
  have hdim := h.dims
  have hlt : (ps.take k).length = k := by rw [List.length_take]; omega
  have hsl : (runS n g [] (ps.take k)).2.length = k := by rw [runS_length, hlt]; simp
  have HS2 := Lib.hid (h.grow (below_drew _))
  have HST := Lib.hid (fun W (hW : TW W0 m wk n t g [] (E ++ K) W) => stores_any hW (hA.take k) hg (by rw [hlt]; simp; omega))
  rw [hlt] at HST
  have H4 := Lib.hid (And.intro h4 h7)
  have H10 := Lib.hid h10
  have HK := Lib.hid hK
  generalize (runS n g [] (ps.take k)).1 = g1 at *
  generalize (runS n g [] (ps.take k)).2 = l1 at *
  have k1 : (k : Int) ≤ cap := by omega
  have k2 : (0 : Int) ≤ k := by omega
  have k3 : (k : Int) ≤ 150 := by omega
  unfold maxLen at hcap2
  have k4 : (cap : Int) ≤ 9223372036854775807 := by omega
  clear h hA h4 h7 h10 hg hlt hK
  go_enter Try.func56, Try.ntmps56
  go_wp2_with (fail)
  refine wp_region_still_tail 5 (by kernel_rfl) (by kernel_rfl) ?_
  simp only [List.take_succ_cons, List.take_zero, List.drop_succ_cons, List.drop_zero]
  unfold World.drew at HS2
  generalize ({ W with drawn := W.drawn + 1 } : World) = W2 at *
  have c4 := at_cell (blockB HS2.out.below (Nat.le_refl _) H4.out.1) 0 _ rfl
  have c7 := at_cell (blockB HS2.out.below (Nat.le_refl _) H4.out.2) 0 _ rfl
  have c10 := at_cell (HS2.out.block (List.mem_append_right _ H10.out)) 0 _ rfl
  repeat still_step
  refine wpStill_nil ?_
  clear c4 c7 c10 k1 k2 k4
  go_wp2_with (go_at_call 57; refine (HST.out _ HS2.out _).mono ?_; rintro e w5 ⟨rfl, h5⟩; have c10 := at_cell (h5.block (List.mem_append_right _ H10.out)) 0 _ rfl; have H5 := Lib.hid h5; clear h5)
  have HSS := Lib.hid (fun W (hW : TW W0 m wk n t g1 l1 (E ++ K) W) => stores_tw hW)
  rw [hsl] at HSS
  go_quiet ((go_at_call 58; exact quiet_right (HSS.out _ (H5.out.grow (Fr.below_drewN' _ _)))))
  have H6 := Lib.hid (H5.out.grow (Fr.below_drewN' nq _))
  generalize w5.drewN nq = w6 at *
  go_wp2_with (go_at_call 59; refine (fail_tw H6.out 8 9).mono ?_; rintro e w7 ⟨rfl, rfl⟩)
  exact ⟨rfl, rfl, g1, l1, K, ⟨rfl, rfl, rfl⟩, HK.out, H6.out⟩
set_option maxRecDepth 100000 in
theorem undoes2_does (h4 : W0.heap[b4]? = some (.cells #[.slice a ps.length cap] 66 (0, 0))) (h7 : W0.heap[b7]? = some (.cells #[.int .i64 n] 3 (0, 0))) (hK : ∀ x ∈ K, ∀ cs, x.2 ≠ .cells cs 83 (0, 0))
    (hA : A10.Acts W0 a ps) (hg : ∀ b, b < n → g b < 18446744073709551616) (hps : ps.length ≤ 150) :
    Does W0 m wk n t 60 #[.pointer (some ⟨b4, 0, none⟩), .pointer (some ⟨b7, 0, none⟩)] g [] K (.returned (.tuple #[])) (fun g' l' K' => g' = (runS n g [] ps).1 ∧ l' = (runS n g [] ps).2 ∧ K' = K) := by
  intro E W h
  have e0 : (#[Value.pointer (some ⟨wk, 0, none⟩)] ++ #[Value.pointer (some ⟨b4, 0, none⟩), .pointer (some ⟨b7, 0, none⟩)]) = #[.pointer (some ⟨wk, 0, none⟩), .pointer (some ⟨b4, 0, none⟩), .pointer (some ⟨b7, 0, none⟩)] := rfl
  rw [e0]
  clear e0
  have hdim := h.dims
  have H := Lib.hid h
  have c4 := at_cell (blockB h.below (Nat.le_refl _) h4) 0 _ rfl
  have c7 := at_cell (blockB h.below (Nat.le_refl _) h7) 0 _ rfl
  have HST := Lib.hid (stores_any h hA hg (by simp; omega) cap)
  have HK := Lib.hid hK
  clear h hA h4 h7 hg hK
  go_enter Try.func60, Try.ntmps60
  go_wp2_with (go_at_call 57; refine HST.out.mono ?_; rintro e w5 ⟨rfl, h5⟩; have H5 := Lib.hid h5; clear h5)
  go_end0
  exact ⟨rfl, _, _, K, ⟨rfl, rfl, rfl⟩, HK.out, H5.out⟩
end
end Go.Proofs.Ytkcijlndblbidaa
