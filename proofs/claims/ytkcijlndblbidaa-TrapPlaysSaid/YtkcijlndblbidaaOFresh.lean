/- Layer 15: the fresh memory, and the example. -/
import Derived.Test.YtkcijlndblbidaaOPure
import Derived.Test.YtkcijlndblbidaaTFresh
namespace Go.Proofs.Ytkcijlndblbidaa
open Go.ChangeShapes Go.WideShapes Go.ChangeAt Go.RowKit
set_option linter.unusedVariables false

theorem need_zero {n : Nat} (hn : 1 ≤ n) : ∀ p, (needV n 1 n VS.zero 0 n).wd p = 0 := by
  intro p
  unfold needV
  split
  · rfl
  · split
    · rfl
    · unfold needNV
      split
      · rw [mapL_wd]
        split
        · rfl
        · rfl
      · rfl
theorem need_fk0 {W0 : World} {m n : Nat} {w : World} (h : VK W0 m n 1 n 0 VS.zero [] w) (hn : 1 ≤ n) :
    Calls Try.prog 18 #[.pointer (some ⟨m, 0, none⟩), .int .i64 0, .int .i64 n] w fun e w' => e = .returned (.int .i64 0) ∧ ∃ t, FK W0 m n t (fun _ => 0) [] w' := by
  have := need_vk h (by omega) 0 n
  rw [(need_full hn).1] at this
  exact this.mono fun e w' ⟨he, hk⟩ => ⟨he, _, _, hk, fun p hp => ⟨(need_full hn).2 p hp, need_zero hn p⟩⟩
set_option maxRecDepth 100000 in
theorem fresh15_any (n : Nat) (hn : 1 ≤ n) (hn2 : n ≤ 4096) (w : World) :
    Calls Try.prog 71 #[.int .i64 n] w fun e w' => ∃ m t, e = .returned (.pointer (some ⟨m, 0, none⟩)) ∧ FK w m n t (fun _ => 0) [] w' := by
  have Hnew := Lib.hid (new_fk n hn hn2 w)
  have Hneed := Lib.hid (fun m W (h : VK w m n 1 n 0 VS.zero [] W) => need_fk0 h hn)
  go_enter Try.func71, Try.ntmps71
  go_wp2_with (first | (go_at_call 17; refine Hnew.out.mono ?_; rintro e w1 ⟨m, rfl, h1⟩; replace h1 := Lib.hid h1) | (go_at_call 18; refine (Hneed.out _ _ h1.out).mono ?_; rintro e w2 ⟨rfl, t, h2⟩; replace h2 := Lib.hid h2))
  go_ret
  exact ⟨m, t, rfl, h2.out⟩
theorem small_zero (n : Nat) : Small n (fun _ => 0) := fun b _ => by show 0 < _; omega
set_option maxRecDepth 100000 in
theorem lives15_yes (w : World) : Calls Try.prog 70 #[] w fun e w' => e = .returned (.bool true) ∧ Below w.heap.size w w' := by
  have Hf := Lib.hid (fresh15_any 9 (by omega) (by omega) w)
  have hok : Hd.Ok (0 : Nat) (1 : Nat) (0 : Nat) := by decide
  have hst : Stands 9 (mkG (fun _ => 0) 1 (Hd.wordOf 0 1 0) 1) (1 : Nat) 0 1 0 := stands (by omega) (by omega) hok (made_word _ _ _ _)
  have hst2 : Stands 9 (putG (mkG (fun _ => 0) 1 (Hd.wordOf 0 1 0) 1) 2 18442240474082181121) (1 : Nat) 0 1 0 := stands (by omega) (by omega) hok (by unfold putG; rw [if_neg (by omega), made_word])
  have hsm : Small 9 (mkG (fun _ => 0) 1 (Hd.wordOf 0 1 0) 1) := mkG_small (small_zero 9) (word_lt _ _ _ hok)
  have hg2 := hst.get (i := 0) hok (by omega) (by omega)
  have hs2 := hst.seG (i := 0) (x := 18442240474082181121) hok (by omega) (by omega)
  have hg3 := hst2.get (i := 0) hok (by omega) (by omega)
  have hsm2 : Small 9 (putG (mkG (fun _ => 0) 1 (Hd.wordOf 0 1 0) 1) 2 18442240474082181121) := by
    have := seG_small hsm (1 : Nat) (0 : Nat) (kd 0 1 0) (x := 18442240474082181121) (by omega)
    rwa [hs2] at this
  have hM := fun m t W (h : FK w m 9 t (fun _ => 0) [] W) => make_fk h (small_zero 9) 1 0 1 0
  have e1 : makE 9 1 0 1 0 = 0 := by decide
  have e2 : makG 9 (fun _ => 0) 1 0 1 0 = mkG (fun _ => 0) 1 (Hd.wordOf 0 1 0) 1 := by
    unfold makG
    rw [e1, if_pos rfl]
    rfl
  rw [e1, e2] at hM
  have hS := fun m t W (h : FK w m 9 t (mkG (fun _ => 0) 1 (Hd.wordOf 0 1 0) 1) [] W) => setFloat_fk h hsm (1 : Nat) (0 : Nat) 18442240474082181121 (by omega)
  have k1 : kd 0 1 0 = 2 := by decide
  rw [k1] at hg2 hs2 hg3
  rw [hg2.1, hs2] at hS
  have hF := fun m t W (h : FK w m 9 t (putG (mkG (fun _ => 0) 1 (Hd.wordOf 0 1 0) 1) 2 18442240474082181121) [] W) => float_fk h hsm2 (1 : Nat) (0 : Nat)
  rw [hg3.1, hg3.2] at hF
  have e3 : putG (mkG (fun _ => 0) 1 (Hd.wordOf 0 1 0) 1) 2 18442240474082181121 (1 + 1 + 0) = 18442240474082181121 := if_pos rfl
  rw [e3] at hF
  generalize putG (mkG (fun _ => 0) 1 (Hd.wordOf 0 1 0) 1) 2 18442240474082181121 = g3 at *
  generalize mkG (fun _ => 0) 1 (Hd.wordOf 0 1 0) 1 = g2 at *
  clear hok hst hst2 hsm hg2 hs2 hg3 hsm2 e1 e2 k1 e3
  unfold spc at hM hS hF
  unfold Hd.hv at hM
  have HM := Lib.hid hM
  have HS := Lib.hid hS
  have HF := Lib.hid hF
  clear hM hS hF
  go_enter Try.func70, Try.ntmps70
  go_wp2_with (first
    | (go_at_call 71; refine Hf.out.mono ?_; rintro e w1 ⟨m, t, rfl, h1⟩; have H1 := Lib.hid h1; clear h1)
    | (go_at_call 81; refine (HM.out _ _ _ H1.out).mono ?_; rintro e w2 ⟨rfl, h2⟩; have H2 := Lib.hid h2; clear h2)
    | (go_at_call 85; refine (ofloat_of 18442240474082181121 _).mono ?_; rintro e w5 ⟨rfl, rfl⟩)
    | (go_at_call 84; refine (HS.out _ _ _ H2.out).mono ?_; rintro e w3 ⟨rfl, h3⟩; have H3 := Lib.hid h3; clear h3)
    | (go_at_call 74; refine (HF.out _ _ _ H3.out).mono ?_; rintro e w4 ⟨rfl, h4⟩; have H4 := Lib.hid h4; clear h4)
    | (go_at_call 75; refine (ofloat_bits _ _).mono ?_; rintro e w5 ⟨rfl, rfl⟩))
  go_ret
  exact ⟨rfl, H4.out.below⟩
end Go.Proofs.Ytkcijlndblbidaa
