/- The example of layer 10. -/
import Derived.Test.YtkcijlndblbidaaTFresh
namespace Go.Proofs.Ytkcijlndblbidaa
open Go.ChangeShapes Go.WideShapes Go.ChangeAt Go.RowKit
set_option linter.unusedVariables false

theorem lives1_enter (args : Array Value) (w : World) : (callFunc 120 args).run Try.prog w = .ok (.enter 120 args) w := by
  kernel_rfl
set_option maxRecDepth 100000 in
theorem lives1_does {W0 : World} {m wk t : Nat} : Does W0 m wk 2 t 120 #[] (fun a => 100 + a) [] [] (.panicked [{ v := thrownV 11 2, recovered := false }]) (fun g' l' K' => g' = putG (fun a => 100 + a) 0 7 ∧ l' = [(0, 100)] ∧ K' = []) := by
  intro E W h
  have e0 : (#[Value.pointer (some ⟨wk, 0, none⟩)] ++ (#[] : Array Value)) = #[.pointer (some ⟨wk, 0, none⟩)] := rfl
  rw [e0]
  have Hs := Lib.hid (store_tw h 0 7 (by omega) rfl (by show 100 + 0 < _; omega) (by simp))
  have Ho := Lib.hid (fun W' (h' : TW W0 m wk 2 t (putG (fun a => 100 + a) (0 : Int).toNat 7) ([] ++ [((0 : Int).toNat, 100 + (0 : Int).toNat)]) (E ++ []) W') => store_out h' 2 8 rfl)
  clear h
  go_enter Try.func120, Try.ntmps120
  go_wp2_with (first | (go_at_call 63; refine Hs.out.mono ?_; rintro e w1 ⟨rfl, h1⟩; replace h1 := Lib.hid h1; clear Hs) | (go_at_call 63; refine (Ho.out _ h1.out).mono ?_; rintro e w2 ⟨rfl, h2⟩; replace h2 := Lib.hid h2))
  exact ⟨rfl, rfl, _, _, _, ⟨rfl, rfl, rfl⟩, (fun x hx => by cases hx), h2.out⟩
set_option maxRecDepth 100000 in
theorem lives_yes (w : World) : Calls Try.prog 47 #[] w fun e w' => e = .returned (.bool true) ∧ Below w.heap.size w w' := by
  have Hf := Lib.hid (fresh_any 2 (by omega) (by omega) w)
  have HR := Lib.hid (fun m t W (h : FK w m 2 t (fun a => 100 + a) [] W) => run_ret (K := []) (R := fun g' K' => K' = [] ∧ g' 0 = 100) (fun wk E W hW => (part_thrown lives1_enter (lives1_does (W0 := w) (m := m) (wk := wk) (t := t)) (fun g' l' K' hr => by rw [hr.2.1]; decide) E W hW).mono fun e' W' ⟨he, g', l', K', hr, hk, hT⟩ => ⟨he, _, _, K', ⟨hr.2.2, by rw [hr.1, hr.2.1]; rfl⟩, hk, hT⟩) [] W h)
  go_enter Try.func47, Try.ntmps47
  go_wp2_with (first | (go_at_call 48; refine Hf.out.mono ?_; rintro e w1 ⟨m, t, rfl, h1⟩; replace h1 := Lib.hid h1) | (go_at_call 52; refine (HR.out _ _ _ h1.out).mono ?_; rintro e w2 ⟨rfl, g', K', ⟨rfl, hg⟩, -, h2⟩; have h3 := FK.box (K := []) h2 #[.int .i64 11, .int .i64 2] 83; have hl := load_fk h3 0; rw [show inG 2 0 = true from rfl] at hl; simp only [if_true, Int.toNat_zero, hg] at hl; have HL := Lib.hid hl; clear h2 h3 hl) | (go_at_call 24; refine HL.out.mono ?_; rintro e w3 ⟨rfl, h4⟩; have hb := h4.block (List.mem_cons_self ..); have d0 := at_cell hb 0 _ rfl; have d1 := at_cell hb 1 _ rfl; have H4 := Lib.hid h4.below; clear h4 hb))
  go_ret
  exact ⟨rfl, H4.out⟩
end Go.Proofs.Ytkcijlndblbidaa
