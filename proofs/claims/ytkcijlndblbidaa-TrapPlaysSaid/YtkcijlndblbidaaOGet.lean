/- Objects in a full memory: place, get, set, and the fields. -/
import Derived.Test.YtkcijlndblbidaaOMem
namespace Go.Proofs.Ytkcijlndblbidaa
open Go.ChangeShapes Go.WideShapes Go.ChangeAt Go.RowKit
set_option linter.unusedVariables false

def kdA (n : Nat) (g : Nat → Nat) (a i : Int) : Int := Hd.kindOf (rdP n g a) (rdF n g a) (rdO n g a) i
/-- the error of a field of a kind -/
def plE (n : Nat) (g : Nat → Nat) (a i k : Int) : Int := if rdE n g a = 0 then (if kdA n g a i = k then 0 else if kdA n g a i = 0 then 19 else 20) else rdE n g a
def plA (n : Nat) (g : Nat → Nat) (a i k : Int) : Int := if plE n g a i k = 0 then a + 1 + i else 0
theorem kind_some {p f o i : Int} (h : Hd.kindOf p f o i ≠ 0) : 0 ≤ i ∧ i < 255 ∧ Hd.Ok p f o := by
  unfold Hd.kindOf at h
  split at h
  · rename_i h1
    have := h1.1
    unfold Hd.Ok at this
    exact ⟨h1.2.1, by omega, h1.1⟩
  · exact absurd rfl h
theorem plE_zero {n : Nat} {g : Nat → Nat} {a i k : Int} (hk : k ≠ 0) (h : plE n g a i k = 0) : rdE n g a = 0 ∧ kdA n g a i = k ∧ 0 < a ∧ a < n ∧ 0 ≤ i ∧ i < 255 := by
  unfold plE at h
  split at h
  · rename_i h1
    split at h
    · rename_i h2
      obtain ⟨x, y, -⟩ := rdE_zero h1
      obtain ⟨u, v, -⟩ := kind_some (p := rdP n g a) (f := rdF n g a) (o := rdO n g a) (i := i) (by intro e; apply hk; rw [← h2]; exact e)
      exact ⟨h1, h2, x, y, u, v⟩
    · split at h <;> omega
  · contradiction
section
variable {W0 : World} {m n t : Nat} {g : Nat → Nat} {K : List (Nat × Obj)} {w : World}
set_option maxRecDepth 100000 in
theorem place_fk (h : FK W0 m n t g K w) (hg : Small n g) (a i k : Int) (hk : k ≠ 0) :
    Calls Try.prog 136 #[spc m, .int .i64 a, .int .i64 i, .int .i64 k] w fun e w' => e = .returned (.tuple #[.int .i64 (plA n g a i k), .int .i64 (plE n g a i k)]) ∧ FK W0 m n t g K w' := by
  have hn := h.dims
  have HR := read_fk h hg a
  have hpl := @plE_zero n g a i k hk
  unfold plA
  have hpe : plE n g a i k = if rdE n g a = 0 then (if kdA n g a i = k then 0 else if kdA n g a i = 0 then 19 else 20) else rdE n g a := rfl
  unfold rdV at HR
  have hkd : kdA n g a i = Hd.kindOf (rdP n g a) (rdF n g a) (rdO n g a) i := rfl
  have hz := @rdE_zero n g a
  generalize plE n g a i k = pe at *
  generalize rdE n g a = er at *
  have HK := fun W => Hd.kind_any (rdP n g a) (rdF n g a) (rdO n g a) i W
  rw [← hkd] at HK
  clear hkd h
  generalize kdA n g a i = kk at *
  generalize rdP n g a = p at *
  generalize rdF n g a = f at *
  generalize rdO n g a = o at *
  unfold Hd.hv at HR HK
  replace HR := Lib.hid HR
  replace HK := Lib.hid HK
  unfold spc at *
  by_cases h0 : er = 0
  · subst h0
    rw [if_pos rfl] at hpe
    by_cases h1 : kk = k
    · subst h1
      rw [if_pos rfl] at hpe
      subst hpe
      obtain ⟨-, -, h2, h3, h4, h5⟩ := hpl rfl
      rw [if_pos rfl]
      have h6 : a < 4096 := by omega
      have s1 : IntKind.i64.wrap (a + 1) = a + 1 := IntWalk.i64_in _ (by omega)
      have s2 : IntKind.i64.wrap (a + 1 + i) = a + 1 + i := IntWalk.i64_in _ (by omega)
      clear hpl hz h6
      go_enter Try.func136, Try.ntmps136
      go_wp2_with (first | (go_at_call 78; refine HR.out.mono ?_; rintro e w1 ⟨rfl, h1⟩; have H1 := Lib.hid (h1.box #[.int .i64 p, .int .i64 f, .int .i64 o] 106); clear h1) | (go_at_call 157; refine (HK.out _).mono ?_; rintro e w2 ⟨rfl, hb⟩; have H2 := Lib.hid ((H1.out.grow hb).tail); clear hb))
      go_ret2
      exact ⟨rfl, H2.out⟩
    · rw [if_neg h1] at hpe
      have b1 : (kk == k) = false := by rw [beq_eq_false_iff_ne]; exact h1
      have b2 : decide (kk = k) = false := decide_eq_false h1
      by_cases h2 : kk = 0
      · rw [if_pos h2] at hpe
        subst hpe
        have b3 : (kk == 0) = true := by rw [beq_iff_eq]; exact h2
        rw [if_neg (by omega)]
        clear hpl h1 h2 hk
        go_enter Try.func136, Try.ntmps136
        go_wp2_with (first | (go_at_call 78; refine HR.out.mono ?_; rintro e w1 ⟨rfl, h1⟩; have H1 := Lib.hid (h1.box #[.int .i64 p, .int .i64 f, .int .i64 o] 106); clear h1) | (go_at_call 157; refine (HK.out _).mono ?_; rintro e w2 ⟨rfl, hb⟩; have H2 := Lib.hid ((H1.out.grow hb).tail); clear hb))
        go_ret2
        exact ⟨rfl, H2.out⟩
      · rw [if_neg h2] at hpe
        subst hpe
        have b3 : (kk == 0) = false := by rw [beq_eq_false_iff_ne]; exact h2
        rw [if_neg (by omega)]
        clear hpl h1 h2 hk
        go_enter Try.func136, Try.ntmps136
        go_wp2_with (first | (go_at_call 78; refine HR.out.mono ?_; rintro e w1 ⟨rfl, h1⟩; have H1 := Lib.hid (h1.box #[.int .i64 p, .int .i64 f, .int .i64 o] 106); clear h1) | (go_at_call 157; refine (HK.out _).mono ?_; rintro e w2 ⟨rfl, hb⟩; have H2 := Lib.hid ((H1.out.grow hb).tail); clear hb))
        go_ret2
        exact ⟨rfl, H2.out⟩
  · rw [if_neg h0] at hpe
    subst hpe
    rw [if_neg h0]
    have b1 : (pe != 0) = true := by rw [bne_iff_ne]; exact h0
    clear hpl hz h0
    go_enter Try.func136, Try.ntmps136
    go_wp2_with (go_at_call 78; refine HR.out.mono ?_; rintro e w1 ⟨rfl, h1⟩; have H1 := Lib.hid ((h1.box #[.int .i64 p, .int .i64 f, .int .i64 o] 106).tail); clear h1)
    go_ret2
    exact ⟨rfl, H1.out⟩
end
end Go.Proofs.Ytkcijlndblbidaa
