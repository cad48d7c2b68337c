/- Objects in a full memory: the fields. -/
import Derived.Test.YtkcijlndblbidaaOGet
import Derived.Laws.Externs
namespace Go.Proofs.Ytkcijlndblbidaa
open Go.ChangeShapes Go.WideShapes Go.ChangeAt Go.RowKit
set_option linter.unusedVariables false

/-- the error of a field that is loaded or stored -/
def geE (n : Nat) (g : Nat → Nat) (a i k : Int) : Int := if plE n g a i k = 0 then (if (n : Int) ≤ a + 1 + i then 11 else 0) else plE n g a i k
def geW (n : Nat) (g : Nat → Nat) (a i k : Int) : Nat := if geE n g a i k = 0 then g (a + 1 + i).toNat else 0
def seG (n : Nat) (g : Nat → Nat) (a i k : Int) (x : Nat) : Nat → Nat := if geE n g a i k = 0 then putG g (a + 1 + i).toNat x else g
def ptE (n : Nat) (g : Nat → Nat) (a i : Int) : Int := if geE n g a i 1 = 0 then (if 2147483647 < geW n g a i 1 then 25 else 0) else geE n g a i 1
def ptV (n : Nat) (g : Nat → Nat) (a i : Int) : Nat := if ptE n g a i = 0 then geW n g a i 1 else 0
def spE (n : Nat) (g : Nat → Nat) (a i p : Int) : Int := if plE n g a i 1 = 0 then (if p < 0 ∨ 2147483647 < p then 5 else geE n g a i 1) else plE n g a i 1
def spG (n : Nat) (g : Nat → Nat) (a i p : Int) : Nat → Nat := if spE n g a i p = 0 then putG g (a + 1 + i).toNat p.toNat else g
section
variable {W0 : World} {m n t : Nat} {g : Nat → Nat} {K : List (Nat × Obj)} {w : World}
theorem geE_cases (n : Nat) (g : Nat → Nat) (a i k : Int) (hk : k ≠ 0) : (plE n g a i k ≠ 0 ∧ geE n g a i k = plE n g a i k) ∨ (plE n g a i k = 0 ∧ plA n g a i k = a + 1 + i ∧ inG n (a + 1 + i) = false ∧ geE n g a i k = 11) ∨ (plE n g a i k = 0 ∧ plA n g a i k = a + 1 + i ∧ inG n (a + 1 + i) = true ∧ geE n g a i k = 0) := by
  by_cases h : plE n g a i k = 0
  · right
    obtain ⟨-, -, h1, h2, h3, h4⟩ := plE_zero hk h
    have hA : plA n g a i k = a + 1 + i := by unfold plA; rw [if_pos h]
    by_cases hn : (n : Int) ≤ a + 1 + i
    · exact .inl ⟨h, hA, by simp [inG]; omega, by unfold geE; rw [if_pos h, if_pos hn]⟩
    · exact .inr ⟨h, hA, by simp [inG]; omega, by unfold geE; rw [if_pos h, if_neg hn]⟩
  · exact .inl ⟨h, by unfold geE; rw [if_neg h]⟩
set_option maxRecDepth 100000 in
theorem get_fk (h : FK W0 m n t g K w) (hg : Small n g) (a i k : Int) (hk : k ≠ 0) :
    Calls Try.prog 125 #[spc m, .int .i64 a, .int .i64 i, .int .i64 k] w fun e w' => e = .returned (.tuple #[.int .u64 (geW n g a i k), .int .i64 (geE n g a i k)]) ∧ FK W0 m n t g K w' := by
  have HP := place_fk h hg a i k hk
  have hl := load_at ⟨m, 0, none⟩
  unfold geW
  unfold spc at *
  rcases geE_cases n g a i k hk with ⟨h1, h2⟩ | ⟨h1, hA, h2, h3⟩ | ⟨h1, hA, h2, h3⟩
  · rw [h2, if_neg h1]
    clear h2 h
    generalize plA n g a i k = x at *
    generalize plE n g a i k = pe at *
    replace HP := Lib.hid HP
    have b1 : (pe != 0) = true := by rw [bne_iff_ne]; exact h1
    clear h1
    go_enter Try.func125, Try.ntmps125
    go_wp2_with (go_at_call 136; refine HP.out.mono ?_; rintro e w1 ⟨rfl, h1⟩; have H1 := Lib.hid h1; clear h1)
    go_ret2
    exact ⟨rfl, H1.out⟩
  · rw [h3, if_neg (by omega)]
    rw [h1, hA] at HP
    have HL := fun W (hW : FK W0 m n t g K W) => load_fk hW (a + 1 + i)
    rw [h2] at HL
    simp only [Bool.false_eq_true, if_false] at HL
    clear h1 h2 h3 hA h
    generalize a + 1 + i = x at *
    replace HP := Lib.hid HP
    replace HL := Lib.hid HL
    go_enter Try.func125, Try.ntmps125
    go_wp2_with (first | (go_at_call 136; refine HP.out.mono ?_; rintro e w1 ⟨rfl, h1⟩; have H1 := Lib.hid h1; clear h1) | (go_at_call 24; refine (HL.out _ H1.out).mono ?_; rintro e w2 ⟨rfl, h2⟩; have H2 := Lib.hid h2; clear h2))
    go_ret2
    exact ⟨rfl, H2.out⟩
  · rw [h3, if_pos rfl]
    rw [h1, hA] at HP
    have HL := fun W (hW : FK W0 m n t g K W) => load_fk hW (a + 1 + i)
    rw [h2] at HL
    simp only [if_true] at HL
    clear h1 h2 h3 hA h
    generalize a + 1 + i = x at *
    generalize g x.toNat = y at *
    replace HP := Lib.hid HP
    replace HL := Lib.hid HL
    go_enter Try.func125, Try.ntmps125
    go_wp2_with (first | (go_at_call 136; refine HP.out.mono ?_; rintro e w1 ⟨rfl, h1⟩; have H1 := Lib.hid h1; clear h1) | (go_at_call 24; refine (HL.out _ H1.out).mono ?_; rintro e w2 ⟨rfl, h2⟩; have H2 := Lib.hid h2; clear h2))
    go_ret2
    exact ⟨rfl, H2.out⟩
set_option maxRecDepth 100000 in
theorem set_fk (h : FK W0 m n t g K w) (hg : Small n g) (a i k : Int) (hk : k ≠ 0) (x : Nat) (hx : x < 18446744073709551616) :
    Calls Try.prog 135 #[spc m, .int .i64 a, .int .i64 i, .int .i64 k, .int .u64 x] w fun e w' => e = .returned (.int .i64 (geE n g a i k)) ∧ FK W0 m n t (seG n g a i k x) K w' := by
  have HP := place_fk h hg a i k hk
  have hl := store_at ⟨m, 0, none⟩
  unfold seG
  unfold spc at *
  rcases geE_cases n g a i k hk with ⟨h1, h2⟩ | ⟨h1, hA, h2, h3⟩ | ⟨h1, hA, h2, h3⟩
  · rw [h2, if_neg h1]
    clear h2 h
    generalize plA n g a i k = y at *
    generalize plE n g a i k = pe at *
    replace HP := Lib.hid HP
    have b1 : (pe != 0) = true := by rw [bne_iff_ne]; exact h1
    clear h1
    go_enter Try.func135, Try.ntmps135
    go_wp2_with (go_at_call 136; refine HP.out.mono ?_; rintro e w1 ⟨rfl, h1⟩; have H1 := Lib.hid h1; clear h1)
    go_ret
    exact ⟨rfl, H1.out⟩
  · rw [h3, if_neg (by omega)]
    rw [h1, hA] at HP
    have HL := fun W (hW : FK W0 m n t g K W) => store_fk hW (a + 1 + i) x hx
    rw [h2] at HL
    simp only [Bool.false_eq_true, if_false] at HL
    clear h1 h2 h3 hA h
    generalize a + 1 + i = y at *
    replace HP := Lib.hid HP
    replace HL := Lib.hid HL
    go_enter Try.func135, Try.ntmps135
    go_wp2_with (first | (go_at_call 136; refine HP.out.mono ?_; rintro e w1 ⟨rfl, h1⟩; have H1 := Lib.hid h1; clear h1) | (go_at_call 19; refine (HL.out _ H1.out).mono ?_; rintro e w2 ⟨rfl, h2⟩; have H2 := Lib.hid h2; clear h2))
    go_ret
    exact ⟨rfl, H2.out⟩
  · rw [h3, if_pos rfl]
    rw [h1, hA] at HP
    have HL := fun W (hW : FK W0 m n t g K W) => store_fk hW (a + 1 + i) x hx
    rw [h2] at HL
    simp only [if_true] at HL
    clear h1 h2 h3 hA h
    generalize a + 1 + i = y at *
    replace HP := Lib.hid HP
    replace HL := Lib.hid HL
    go_enter Try.func135, Try.ntmps135
    go_wp2_with (first | (go_at_call 136; refine HP.out.mono ?_; rintro e w1 ⟨rfl, h1⟩; have H1 := Lib.hid h1; clear h1) | (go_at_call 19; refine (HL.out _ H1.out).mono ?_; rintro e w2 ⟨rfl, h2⟩; have H2 := Lib.hid h2; clear h2))
    go_ret
    exact ⟨rfl, H2.out⟩
theorem run_bits (x : Nat) (w : World) : (callFunc 127 #[.float .f64 x]).run Try.prog w = .ok (.value (.int .u64 x)) w := by
  rw [run_callFunc_extern Try.func127 (by kernel_rfl) (by kernel_rfl) (by kernel_rfl) (e := Extern.MathFloatBits.float64bits) (by kernel_rfl)]; rfl
theorem run_frombits (x : Nat) (w : World) : (callFunc 137 #[.int .u64 x]).run Try.prog w = .ok (.value (.float .f64 x)) w := by
  rw [run_callFunc_extern Try.func137 (by kernel_rfl) (by kernel_rfl) (by kernel_rfl) (e := Extern.MathFloatBits.float64frombits) (by kernel_rfl)]; rfl
theorem ofloat_of (x : Nat) (w : World) : Calls Try.prog 85 #[.int .u64 x] w fun e w' => e = .returned (.float .f64 x) ∧ w = w' := by
  have h := run_frombits x
  go_enter Try.func85, Try.ntmps85
  go_wp2
  go_ret
  exact ⟨rfl, rfl⟩
theorem ofloat_bits (x : Nat) (w : World) : Calls Try.prog 75 #[.float .f64 x] w fun e w' => e = .returned (.int .u64 x) ∧ w = w' := by
  have h := run_bits x
  go_enter Try.func75, Try.ntmps75
  go_wp2
  go_ret
  exact ⟨rfl, rfl⟩
theorem float_fk (h : FK W0 m n t g K w) (hg : Small n g) (a i : Int) :
    Calls Try.prog 74 #[spc m, .int .i64 a, .int .i64 i] w fun e w' => e = .returned (.tuple #[.float .f64 (geW n g a i 2), .int .i64 (geE n g a i 2)]) ∧ FK W0 m n t g K w' := by
  have HG := Lib.hid (get_fk h hg a i 2 (by omega))
  clear h
  unfold spc at *
  generalize geW n g a i 2 = x at *
  generalize geE n g a i 2 = er at *
  go_enter Try.func74, Try.ntmps74
  go_wp2_with (first | (go_at_call 125; refine HG.out.mono ?_; rintro e w1 ⟨rfl, h1⟩; have H1 := Lib.hid h1; clear h1) | (go_at_call 85; refine (ofloat_of _ _).mono ?_; rintro e w2 ⟨rfl, rfl⟩))
  go_ret2
  exact ⟨rfl, H1.out⟩
theorem word_fk (h : FK W0 m n t g K w) (hg : Small n g) (a i : Int) :
    Calls Try.prog 76 #[spc m, .int .i64 a, .int .i64 i] w fun e w' => e = .returned (.tuple #[.int .u64 (geW n g a i 3), .int .i64 (geE n g a i 3)]) ∧ FK W0 m n t g K w' := by
  have HG := Lib.hid (get_fk h hg a i 3 (by omega))
  clear h
  unfold spc at *
  generalize geW n g a i 3 = x at *
  generalize geE n g a i 3 = er at *
  go_enter Try.func76, Try.ntmps76
  go_wp2_with (first | (go_at_call 125; refine HG.out.mono ?_; rintro e w1 ⟨rfl, h1⟩; have H1 := Lib.hid h1; clear h1))
  go_ret2
  exact ⟨rfl, H1.out⟩
theorem setFloat_fk (h : FK W0 m n t g K w) (hg : Small n g) (a i : Int) (x : Nat) (hx : x < 18446744073709551616) :
    Calls Try.prog 84 #[spc m, .int .i64 a, .int .i64 i, .float .f64 x] w fun e w' => e = .returned (.int .i64 (geE n g a i 2)) ∧ FK W0 m n t (seG n g a i 2 x) K w' := by
  have HG := Lib.hid (set_fk h hg a i 2 (by omega) x hx)
  clear h
  unfold spc at *
  go_enter Try.func84, Try.ntmps84
  go_wp2_with (first | (go_at_call 135; refine HG.out.mono ?_; rintro e w1 ⟨rfl, h1⟩; have H1 := Lib.hid h1; clear h1) | (go_at_call 75; refine (ofloat_bits _ _).mono ?_; rintro e w2 ⟨rfl, rfl⟩))
  go_ret
  exact ⟨rfl, H1.out⟩
theorem setWord_fk (h : FK W0 m n t g K w) (hg : Small n g) (a i : Int) (x : Nat) (hx : x < 18446744073709551616) :
    Calls Try.prog 82 #[spc m, .int .i64 a, .int .i64 i, .int .u64 x] w fun e w' => e = .returned (.int .i64 (geE n g a i 3)) ∧ FK W0 m n t (seG n g a i 3 x) K w' := by
  have HG := Lib.hid (set_fk h hg a i 3 (by omega) x hx)
  clear h
  unfold spc at *
  go_enter Try.func82, Try.ntmps82
  go_wp2_with (first | (go_at_call 135; refine HG.out.mono ?_; rintro e w1 ⟨rfl, h1⟩; have H1 := Lib.hid h1; clear h1))
  go_ret
  exact ⟨rfl, H1.out⟩
set_option maxRecDepth 100000 in
theorem pointer_fk (h : FK W0 m n t g K w) (hg : Small n g) (a i : Int) :
    Calls Try.prog 72 #[spc m, .int .i64 a, .int .i64 i] w fun e w' => e = .returned (.tuple #[.int .i64 (ptV n g a i), .int .i64 (ptE n g a i)]) ∧ FK W0 m n t g K w' := by
  have HG := Lib.hid (get_fk h hg a i 1 (by omega))
  clear h
  unfold spc at *
  unfold ptV
  have hp : ptE n g a i = if geE n g a i 1 = 0 then (if 2147483647 < geW n g a i 1 then 25 else 0) else geE n g a i 1 := rfl
  generalize ptE n g a i = pe at *
  generalize geW n g a i 1 = x at *
  generalize geE n g a i 1 = er at *
  by_cases h0 : er = 0
  · subst h0
    rw [if_pos rfl] at hp
    by_cases h1 : 2147483647 < x
    · rw [if_pos h1] at hp
      subst hp
      rw [if_neg (by omega)]
      have h2 : (2147483647 : Int) < x := by omega
      clear h1
      go_enter Try.func72, Try.ntmps72
      go_wp2_with (first | (go_at_call 125; refine HG.out.mono ?_; rintro e w1 ⟨rfl, h1⟩; have H1 := Lib.hid h1; clear h1))
      go_ret2
      exact ⟨rfl, H1.out⟩
    · rw [if_neg h1] at hp
      subst hp
      rw [if_pos rfl]
      have h2 : (x : Int) ≤ 2147483647 := by omega
      have h3 : ¬ (2147483647 : Int) < x := by omega
      have h4 : IntKind.i64.wrap (x : Int) = x := IntWalk.i64_in _ (by omega)
      clear h1
      go_enter Try.func72, Try.ntmps72
      go_wp2_with (first | (go_at_call 125; refine HG.out.mono ?_; rintro e w1 ⟨rfl, h1⟩; have H1 := Lib.hid h1; clear h1))
      go_ret2
      exact ⟨rfl, H1.out⟩
  · rw [if_neg h0] at hp
    subst hp
    rw [if_neg h0]
    have b1 : (pe != 0) = true := by rw [bne_iff_ne]; exact h0
    clear h0
    go_enter Try.func72, Try.ntmps72
    go_wp2_with (first | (go_at_call 125; refine HG.out.mono ?_; rintro e w1 ⟨rfl, h1⟩; have H1 := Lib.hid h1; clear h1))
    go_ret2
    exact ⟨rfl, H1.out⟩
set_option maxRecDepth 100000 in
theorem setPointer_fk (h : FK W0 m n t g K w) (hg : Small n g) (a i p : Int) :
    Calls Try.prog 83 #[spc m, .int .i64 a, .int .i64 i, .int .i64 p] w fun e w' => e = .returned (.int .i64 (spE n g a i p)) ∧ FK W0 m n t (spG n g a i p) K w' := by
  have HP := place_fk h hg a i 1 (by omega)
  have hl := store_at ⟨m, 0, none⟩
  unfold spc at *
  unfold spG
  by_cases h0 : plE n g a i 1 = 0
  · by_cases h1 : p < 0 ∨ 2147483647 < p
    · have he : spE n g a i p = 5 := by unfold spE; rw [if_pos h0, if_pos h1]
      rw [he, if_neg (by omega)]
      rw [h0] at HP
      clear he h0 h
      generalize plA n g a i 1 = y at *
      replace HP := Lib.hid HP
      rcases Int.lt_or_le p 0 with h2 | h2
      · clear h1
        go_enter Try.func83, Try.ntmps83
        go_wp2_with (go_at_call 136; refine HP.out.mono ?_; rintro e w1 ⟨rfl, h1⟩; have H1 := Lib.hid h1; clear h1)
        go_ret
        exact ⟨rfl, H1.out⟩
      · have h3 : 2147483647 < p := by omega
        have h4 : ¬ p < 0 := by omega
        clear h1
        go_enter Try.func83, Try.ntmps83
        go_wp2_with (go_at_call 136; refine HP.out.mono ?_; rintro e w1 ⟨rfl, h1⟩; have H1 := Lib.hid h1; clear h1)
        go_ret
        exact ⟨rfl, H1.out⟩
    · have he : spE n g a i p = geE n g a i 1 := by unfold spE; rw [if_pos h0, if_neg h1]
      rw [he]
      obtain ⟨q, rfl⟩ : ∃ q : Nat, p = q := ⟨p.toNat, by omega⟩
      have p1 : (q : Int) ≤ 2147483647 := by omega
      have p2 : ¬ (2147483647 : Int) < q := by omega
      have p3 : ¬ (q : Int) < 0 := by omega
      have hx : q < 18446744073709551616 := by omega
      rw [Int.toNat_natCast]
      clear he h1
      rcases geE_cases n g a i 1 (by omega) with ⟨h1, h2⟩ | ⟨h1, hA, h2, h3⟩ | ⟨h1, hA, h2, h3⟩
      · exact absurd h0 h1
      · rw [h3, if_neg (by omega)]
        rw [h1, hA] at HP
        have HL := fun W (hW : FK W0 m n t g K W) => store_fk hW (a + 1 + i) q hx
        rw [h2] at HL
        simp only [Bool.false_eq_true, if_false] at HL
        clear h1 h2 h3 hA h h0
        generalize a + 1 + i = y at *
        replace HP := Lib.hid HP
        replace HL := Lib.hid HL
        go_enter Try.func83, Try.ntmps83
        go_wp2_with (first | (go_at_call 136; refine HP.out.mono ?_; rintro e w1 ⟨rfl, h1⟩; have H1 := Lib.hid h1; clear h1) | (go_at_call 19; refine (HL.out _ H1.out).mono ?_; rintro e w2 ⟨rfl, h2⟩; have H2 := Lib.hid h2; clear h2))
        go_ret
        exact ⟨rfl, H2.out⟩
      · rw [h3, if_pos rfl]
        rw [h1, hA] at HP
        have HL := fun W (hW : FK W0 m n t g K W) => store_fk hW (a + 1 + i) q hx
        rw [h2] at HL
        simp only [if_true] at HL
        clear h1 h2 h3 hA h h0
        generalize a + 1 + i = y at *
        replace HP := Lib.hid HP
        replace HL := Lib.hid HL
        go_enter Try.func83, Try.ntmps83
        go_wp2_with (first | (go_at_call 136; refine HP.out.mono ?_; rintro e w1 ⟨rfl, h1⟩; have H1 := Lib.hid h1; clear h1) | (go_at_call 19; refine (HL.out _ H1.out).mono ?_; rintro e w2 ⟨rfl, h2⟩; have H2 := Lib.hid h2; clear h2))
        go_ret
        exact ⟨rfl, H2.out⟩
  · have he : spE n g a i p = plE n g a i 1 := by unfold spE; rw [if_neg h0]
    rw [he, if_neg h0]
    clear he h
    generalize plA n g a i 1 = y at *
    generalize plE n g a i 1 = pe at *
    replace HP := Lib.hid HP
    have b1 : (pe != 0) = true := by rw [bne_iff_ne]; exact h0
    clear h0
    go_enter Try.func83, Try.ntmps83
    go_wp2_with (go_at_call 136; refine HP.out.mono ?_; rintro e w1 ⟨rfl, h1⟩; have H1 := Lib.hid h1; clear h1)
    go_ret
    exact ⟨rfl, H1.out⟩
end
end Go.Proofs.Ytkcijlndblbidaa
