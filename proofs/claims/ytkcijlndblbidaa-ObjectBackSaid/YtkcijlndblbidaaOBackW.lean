/- The walk of ObjectBack. -/
import Derived.Test.YtkcijlndblbidaaOFresh
namespace Go.Proofs.Ytkcijlndblbidaa
open Go.ChangeShapes Go.WideShapes Go.ChangeAt Go.RowKit
set_option linter.unusedVariables false

set_option maxRecDepth 100000 in
theorem back_no (p f o i : Int) (x : Nat) (w : World) (hok : ¬ Hd.Ok p f o) :
    Calls Try.prog 13 #[.agg #[.int .i64 p, .int .i64 f, .int .i64 o], .int .i64 i, .int .u64 x] w fun e w' => e = .returned (.bool true) ∧ Below w.heap.size w w' := by
  have hb0 := below_new w (.cells #[.int .i64 p, .int .i64 f, .int .i64 o] 106)
  have hb3 := heap_alloc_new w (.cells #[.int .i64 p, .int .i64 f, .int .i64 o] 106)
  obtain ⟨W0, hW0⟩ : ∃ W0, w.alloc (.cells #[.int .i64 p, .int .i64 f, .int .i64 o] 106) = W0 := ⟨_, rfl⟩
  rw [hW0] at hb0 hb3
  have Hf := fresh15_any 600 (by omega) (by omega) W0
  rw [← hW0] at Hf
  have HW0 := Lib.hid hW0
  have Hb0 := Lib.hid hb0
  have Hb3 := Lib.hid hb3
  replace Hf := Lib.hid Hf
  have hM := fun m t W (h : FK W0 m 600 t (fun _ => 0) [] W) => make_fk h (small_zero 600) 1 p f o
  have e1 : makE 600 1 p f o = 15 := by unfold makE; rw [if_neg (by omega), if_neg hok]
  have e2 : makG 600 (fun _ => 0) 1 p f o = (fun _ => 0) := by unfold makG; rw [e1, if_neg (by omega)]
  rw [e1, e2] at hM
  unfold spc Hd.hv at hM
  have HM := Lib.hid hM
  clear hM e1 e2 hok hW0 hb0 hb3
  go_enter Try.func13, Try.ntmps13
  go_wp2_with (first
    | (go_at_call 71; refine Hf.out.mono ?_; rintro e w1 ⟨m, t, rfl, h1⟩; rw [HW0.out] at h1; have c0 := at_cell (blockB h1.below (Nat.le_refl _) Hb3.out) 0 _ rfl; have c1 := at_cell (blockB h1.below (Nat.le_refl _) Hb3.out) 1 _ rfl; have c2 := at_cell (blockB h1.below (Nat.le_refl _) Hb3.out) 2 _ rfl; have H1 := Lib.hid h1; clear h1)
    | (go_at_call 81; refine (HM.out _ _ _ H1.out).mono ?_; rintro e w2 ⟨rfl, h2⟩; have H2 := Lib.hid (seq Hb0.out h2.below); clear h2 c0 c1 c2)
    | (go_at_call 70; refine (lives15_yes _).mono ?_; rintro e w3 ⟨rfl, hb⟩; have H3 := Lib.hid (seq H2.out hb); clear hb))
  go_ret
  exact ⟨rfl, H3.out⟩
/-- a word that fits the kind -/
def fitW (kd : Int) (x : Nat) : Nat := if kd = 1 then x % 2147483648 else x
/-- the memory behind Make and the set of field k -/
def g2of (p f o k x : Nat) : Nat → Nat := putG (mkG (fun _ => 0) 1 (Hd.wordOf p f o) (p + f + o)) (1 + 1 + k) x
def g3of (p f o k x : Nat) : Nat → Nat := cpyG (g2of p f o k x) 1 300 (p + f + o + 1)
theorem g3_at {p f o k x a i : Nat} (hok : Hd.Ok p f o) (ha : a = 1 ∨ a = 300) (hi : i < p + f + o) : g3of p f o k x a = Hd.wordOf p f o ∧ g3of p f o k x (a + 1 + i) = if i = k then x else 0 := by
  have hs : p + f + o ≤ 255 := by unfold Hd.Ok at hok; omega
  have h1 : g2of p f o k x 1 = Hd.wordOf p f o := by unfold g2of putG; rw [if_neg (by omega)]; exact made_word _ _ _ _
  have h2 : g2of p f o k x (1 + 1 + i) = if i = k then x else 0 := by
    unfold g2of putG
    by_cases e : i = k
    · rw [if_pos (by omega), if_pos e]
    · rw [if_neg (by omega), if_neg e]
      exact made_field _ _ _ _ _ hi
  unfold g3of cpyG
  rcases ha with rfl | rfl
  · rw [if_neg (by omega), if_neg (by omega)]
    exact ⟨h1, h2⟩
  · rw [if_pos (by omega), if_pos (by omega)]
    rw [show 1 + (300 - 300) = 1 by omega, show 1 + (300 + 1 + i - 300) = 1 + 1 + i by omega]
    exact ⟨h1, h2⟩
/-- what the fields of both objects tell -/
theorem g3_get {p f o k x a i : Nat} (hok : Hd.Ok p f o) (ha : a = 1 ∨ a = 300) (hi : i < p + f + o) : geE 600 (g3of p f o k x) a i (kd p f i) = 0 ∧ geW 600 (g3of p f o k x) a i (kd p f i) = if i = k then x else 0 := by
  have hs : p + f + o ≤ 255 := by unfold Hd.Ok at hok; omega
  obtain ⟨h1, h2⟩ := g3_at (k := k) (x := x) hok ha hi
  have hst : Stands 600 (g3of p f o k x) a p f o := stands (by omega) (by omega) hok h1
  obtain ⟨h3, h4⟩ := hst.get hok hi (by omega)
  exact ⟨h3, by rw [h4, h2]⟩
theorem g1_small {p f o : Nat} (hok : Hd.Ok p f o) : Small 600 (mkG (fun _ => 0) 1 (Hd.wordOf p f o) (p + f + o)) := mkG_small (small_zero 600) (word_lt _ _ _ hok)
theorem g1_stands {p f o : Nat} (hok : Hd.Ok p f o) : Stands 600 (mkG (fun _ => 0) 1 (Hd.wordOf p f o) (p + f + o)) (1 : Nat) p f o := stands (by omega) (by omega) hok (made_word _ _ _ _)
theorem g2_small {p f o k x : Nat} (hok : Hd.Ok p f o) (hx : x < 18446744073709551616) : Small 600 (g2of p f o k x) := fun b hb => by
  unfold g2of putG
  split
  · exact hx
  · exact g1_small hok b hb
theorem g2_copy {p f o k x : Nat} (hok : Hd.Ok p f o) : cpE 600 (g2of p f o k x) (1 : Nat) 300 = 0 ∧ cpG 600 (g2of p f o k x) (1 : Nat) 300 = g3of p f o k x := by
  have hs : p + f + o ≤ 255 := by unfold Hd.Ok at hok; omega
  have hst : Stands 600 (g2of p f o k x) (1 : Nat) p f o := Stands.set hok (by omega) (by omega) (made_word _ _ _ _)
  have hS : rdS 600 (g2of p f o k x) (1 : Nat) = p + f + o := by unfold rdS; rw [hst.p, hst.f, hst.o]
  have he : cpE 600 (g2of p f o k x) (1 : Nat) 300 = 0 := by
    unfold cpE
    rw [if_pos hst.e, if_neg (by omega), hS, if_pos (by omega)]
  refine ⟨he, ?_⟩
  unfold cpG
  rw [if_pos he, hS]
  rfl
theorem kd_cases (p f i : Nat) : (kd p f i = 1 ∧ i < p) ∨ (kd p f i = 2 ∧ p ≤ i ∧ i < p + f) ∨ (kd p f i = 3 ∧ p + f ≤ i) := by
  unfold kd
  by_cases h1 : i < p
  · rw [if_pos h1]; exact .inl ⟨rfl, h1⟩
  · rw [if_neg h1]
    by_cases h2 : i < p + f
    · rw [if_pos h2]; exact .inr (.inl ⟨rfl, by omega, h2⟩)
    · rw [if_neg h2]; exact .inr (.inr ⟨rfl, by omega⟩)
theorem g1_none {p f o : Nat} (hok : Hd.Ok p f o) (h0 : p + f + o = 0) : geE 600 (mkG (fun _ => 0) 1 (Hd.wordOf p f o) (p + f + o)) (1 : Nat) (0 : Nat) 3 = 19 := by
  have hst := g1_stands hok
  unfold geE plE
  rw [if_pos hst.e]
  have hk : kdA 600 (mkG (fun _ => 0) 1 (Hd.wordOf p f o) (p + f + o)) (1 : Nat) (0 : Nat) = 0 := by
    unfold kdA Hd.kindOf
    rw [hst.p, hst.f, hst.o, if_neg (by omega)]
  rw [hk]
  decide
theorem make_back (p f o : Nat) (hok : Hd.Ok p f o) : makE 600 1 p f o = 0 ∧ makG 600 (fun _ => 0) 1 p f o = mkG (fun _ => 0) 1 (Hd.wordOf p f o) (p + f + o) := by
  have hs : p + f + o ≤ 255 := by unfold Hd.Ok at hok; omega
  have e1 : makE 600 1 p f o = 0 := by unfold makE; rw [if_neg (by omega), if_pos hok, if_pos (by omega)]
  refine ⟨e1, ?_⟩
  unfold makG
  rw [e1, if_pos rfl]
  simp only [Int.toNat_natCast]
  rw [show ((p : Int) + f + o).toNat = p + f + o by omega]
  rfl
set_option maxRecDepth 100000 in
theorem back_none (p f o : Nat) (i : Int) (x : Nat) (w : World) (hx : x < 18446744073709551616) (hok : Hd.Ok p f o) (h0 : p + f + o = 0) :
    Calls Try.prog 13 #[.agg #[.int .i64 p, .int .i64 f, .int .i64 o], .int .i64 i, .int .u64 x] w fun e w' => e = .returned (.bool true) ∧ Below w.heap.size w w' := by
  have hb0 := below_new w (.cells #[.int .i64 p, .int .i64 f, .int .i64 o] 106)
  have hb3 := heap_alloc_new w (.cells #[.int .i64 p, .int .i64 f, .int .i64 o] 106)
  obtain ⟨W0, hW0⟩ : ∃ W0, w.alloc (.cells #[.int .i64 p, .int .i64 f, .int .i64 o] 106) = W0 := ⟨_, rfl⟩
  rw [hW0] at hb0 hb3
  have Hf := fresh15_any 600 (by omega) (by omega) W0
  rw [← hW0] at Hf
  have HW0 := Lib.hid hW0
  have Hb0 := Lib.hid hb0
  have Hb3 := Lib.hid hb3
  replace Hf := Lib.hid Hf
  have hM := fun m t W (h : FK W0 m 600 t (fun _ => 0) [] W) => make_fk h (small_zero 600) 1 p f o
  obtain ⟨e1, e2⟩ := make_back p f o hok
  rw [e1, e2] at hM
  have hS := fun m t W (h : FK W0 m 600 t (mkG (fun _ => 0) 1 (Hd.wordOf p f o) (p + f + o)) [] W) => setWord_fk h (g1_small hok) (1 : Nat) (0 : Nat) x hx
  rw [g1_none hok h0] at hS
  unfold spc at hM hS
  unfold Hd.hv at hM
  obtain ⟨rfl, rfl, rfl⟩ : p = 0 ∧ f = 0 ∧ o = 0 := by omega
  have HM := Lib.hid hM
  have HS := Lib.hid hS
  clear hM hS e1 e2 hok hW0 hb0 hb3
  go_enter Try.func13, Try.ntmps13
  go_wp2_with (first
    | (go_at_call 71; refine Hf.out.mono ?_; rintro e w1 ⟨m, t, rfl, h1⟩; rw [HW0.out] at h1; have c0 := at_cell (blockB h1.below (Nat.le_refl _) Hb3.out) 0 _ rfl; have c1 := at_cell (blockB h1.below (Nat.le_refl _) Hb3.out) 1 _ rfl; have c2 := at_cell (blockB h1.below (Nat.le_refl _) Hb3.out) 2 _ rfl; have H1 := Lib.hid h1; clear h1)
    | (go_at_call 81; refine (HM.out _ _ _ H1.out).mono ?_; rintro e w2 ⟨rfl, h2⟩; clear c0 c1 c2; have c0 := at_cell (blockB h2.below (Nat.le_refl _) Hb3.out) 0 _ rfl; have c1 := at_cell (blockB h2.below (Nat.le_refl _) Hb3.out) 1 _ rfl; have c2 := at_cell (blockB h2.below (Nat.le_refl _) Hb3.out) 2 _ rfl; have H2 := Lib.hid h2; clear h2)
    | (go_at_call 82; refine (HS.out _ _ _ H2.out).mono ?_; rintro e w4 ⟨rfl, h4⟩; have H4 := Lib.hid (seq Hb0.out h4.below); clear h4)
    | (go_at_call 70; refine (lives15_yes _).mono ?_; rintro e w3 ⟨rfl, hb⟩; have H3 := Lib.hid (seq H4.out hb); clear hb))
  go_ret
  exact ⟨rfl, H3.out⟩
theorem g3_small {p f o k y : Nat} (hok : Hd.Ok p f o) (hy : y < 18446744073709551616) : Small 600 (g3of p f o k y) := by
  have hs : p + f + o ≤ 255 := by unfold Hd.Ok at hok; omega
  exact cpyG_small (g2_small hok hy) (by omega)
section
variable {W0 W : World} {m t p f o k y a i : Nat}
theorem back_pt (hok : Hd.Ok p f o) (hy : y < 18446744073709551616) (hyp : k < p → y < 2147483648) (ha : a = 1 ∨ a = 300) (hi : i < p) (h : FK W0 m 600 t (g3of p f o k y) [] W) :
    Calls Try.prog 72 #[.iface 26 (.pointer (some ⟨m, 0, none⟩)), .int .i64 a, .int .i64 i] W fun e w' => e = .returned (.tuple #[.int .i64 (if i = k then y else 0 : Nat), .int .i64 0]) ∧ FK W0 m 600 t (g3of p f o k y) [] w' := by
  have hk : kd p f i = 1 := if_pos hi
  obtain ⟨h1, h2⟩ := g3_get (k := k) (x := y) hok ha (show i < p + f + o by omega)
  rw [hk] at h1 h2
  have e1 : ptE 600 (g3of p f o k y) a i = 0 := by
    unfold ptE
    rw [if_pos h1, h2, if_neg]
    split
    · rename_i e
      have := hyp (by omega)
      omega
    · omega
  have := pointer_fk h (g3_small hok hy) a i
  unfold ptV at this
  rw [e1, if_pos rfl, h2] at this
  exact this
theorem back_fl (hok : Hd.Ok p f o) (hy : y < 18446744073709551616) (ha : a = 1 ∨ a = 300) (hi : p ≤ i) (hi2 : i < p + f) (h : FK W0 m 600 t (g3of p f o k y) [] W) :
    Calls Try.prog 74 #[.iface 26 (.pointer (some ⟨m, 0, none⟩)), .int .i64 a, .int .i64 i] W fun e w' => e = .returned (.tuple #[.float .f64 (if i = k then y else 0 : Nat), .int .i64 0]) ∧ FK W0 m 600 t (g3of p f o k y) [] w' := by
  have hk : kd p f i = 2 := by unfold kd; rw [if_neg (by omega), if_pos hi2]
  obtain ⟨h1, h2⟩ := g3_get (k := k) (x := y) hok ha (show i < p + f + o by omega)
  rw [hk] at h1 h2
  have := float_fk h (g3_small hok hy) a i
  rw [h1, h2] at this
  exact this
theorem back_wd (hok : Hd.Ok p f o) (hy : y < 18446744073709551616) (ha : a = 1 ∨ a = 300) (hi : p + f ≤ i) (hi2 : i < p + f + o) (h : FK W0 m 600 t (g3of p f o k y) [] W) :
    Calls Try.prog 76 #[.iface 26 (.pointer (some ⟨m, 0, none⟩)), .int .i64 a, .int .i64 i] W fun e w' => e = .returned (.tuple #[.int .u64 (if i = k then y else 0 : Nat), .int .i64 0]) ∧ FK W0 m 600 t (g3of p f o k y) [] w' := by
  have hk : kd p f i = 3 := by unfold kd; rw [if_neg (by omega), if_neg (by omega)]
  obtain ⟨h1, h2⟩ := g3_get (k := k) (x := y) hok ha hi2
  rw [hk] at h1 h2
  have := word_fk h (g3_small hok hy) a i
  rw [h1, h2] at this
  exact this
theorem back_setpt (hok : Hd.Ok p f o) (hy : y < 2147483648) (hk : k < p) (h : FK W0 m 600 t (mkG (fun _ => 0) 1 (Hd.wordOf p f o) (p + f + o)) [] W) :
    Calls Try.prog 83 #[.iface 26 (.pointer (some ⟨m, 0, none⟩)), .int .i64 1, .int .i64 k, .int .i64 y] W fun e w' => e = .returned (.int .i64 0) ∧ FK W0 m 600 t (g2of p f o k y) [] w' := by
  have hs : p + f + o ≤ 255 := by unfold Hd.Ok at hok; omega
  have hkd : kd p f k = 1 := if_pos hk
  obtain ⟨h1, h2⟩ := (g1_stands hok).get (i := k) hok (by omega) (by omega)
  have hpl : plE 600 (mkG (fun _ => 0) 1 (Hd.wordOf p f o) (p + f + o)) (1 : Nat) k 1 = 0 := by
    unfold plE
    rw [if_pos (g1_stands hok).e, if_pos (by rw [(g1_stands hok).kind hok (by omega), hkd])]
  rw [hkd] at h1
  have e1 : spE 600 (mkG (fun _ => 0) 1 (Hd.wordOf p f o) (p + f + o)) (1 : Nat) k y = 0 := by
    unfold spE
    rw [if_pos hpl, if_neg (by omega), h1]
  have := setPointer_fk h (g1_small hok) (1 : Nat) k y
  unfold spG at this
  rw [e1, if_pos rfl] at this
  exact this
theorem back_setfl (hok : Hd.Ok p f o) (hy : y < 18446744073709551616) (hk : p ≤ k) (hk2 : k < p + f) (h : FK W0 m 600 t (mkG (fun _ => 0) 1 (Hd.wordOf p f o) (p + f + o)) [] W) :
    Calls Try.prog 84 #[.iface 26 (.pointer (some ⟨m, 0, none⟩)), .int .i64 1, .int .i64 k, .float .f64 y] W fun e w' => e = .returned (.int .i64 0) ∧ FK W0 m 600 t (g2of p f o k y) [] w' := by
  have hs : p + f + o ≤ 255 := by unfold Hd.Ok at hok; omega
  have hkd : kd p f k = 2 := by unfold kd; rw [if_neg (by omega), if_pos hk2]
  obtain ⟨h1, h2⟩ := (g1_stands hok).get (i := k) hok (by omega) (by omega)
  have h3 := (g1_stands hok).seG (i := k) (x := y) hok (by omega) (by omega)
  rw [hkd] at h1 h3
  have := setFloat_fk h (g1_small hok) (1 : Nat) k y hy
  rw [h1, h3] at this
  exact this
theorem back_setwd (hok : Hd.Ok p f o) (hy : y < 18446744073709551616) (hk : p + f ≤ k) (hk2 : k < p + f + o) (h : FK W0 m 600 t (mkG (fun _ => 0) 1 (Hd.wordOf p f o) (p + f + o)) [] W) :
    Calls Try.prog 82 #[.iface 26 (.pointer (some ⟨m, 0, none⟩)), .int .i64 1, .int .i64 k, .int .u64 y] W fun e w' => e = .returned (.int .i64 0) ∧ FK W0 m 600 t (g2of p f o k y) [] w' := by
  have hs : p + f + o ≤ 255 := by unfold Hd.Ok at hok; omega
  have hkd : kd p f k = 3 := by unfold kd; rw [if_neg (by omega), if_neg (by omega)]
  obtain ⟨h1, h2⟩ := (g1_stands hok).get (i := k) hok (by omega) (by omega)
  have h3 := (g1_stands hok).seG (i := k) (x := y) hok (by omega) (by omega)
  rw [hkd] at h1 h3
  have := setWord_fk h (g1_small hok) (1 : Nat) k y hy
  rw [h1, h3] at this
  exact this
theorem back_copy (hok : Hd.Ok p f o) (hy : y < 18446744073709551616) (h : FK W0 m 600 t (g2of p f o k y) [] W) :
    Calls Try.prog 86 #[.iface 26 (.pointer (some ⟨m, 0, none⟩)), .int .i64 1, .int .i64 300] W fun e w' => e = .returned (.int .i64 0) ∧ FK W0 m 600 t (g3of p f o k y) [] w' := by
  have := copy_fk h (g2_small hok hy) (1 : Nat) 300 (by omega)
  obtain ⟨e1, e2⟩ := g2_copy (k := k) (x := y) hok
  rw [e1, e2] at this
  exact this
end
set_option maxRecDepth 100000 in
set_option maxHeartbeats 4000000 in
theorem back_yes (p f o : Nat) (i : Int) (x : Nat) (w : World) (hx : x < 18446744073709551616) (hok : Hd.Ok p f o) (h0 : 0 < p + f + o) :
    Calls Try.prog 13 #[.agg #[.int .i64 p, .int .i64 f, .int .i64 o], .int .i64 i, .int .u64 x] w fun e w' => e = .returned (.bool true) ∧ Below w.heap.size w w' := by
  obtain ⟨s, hs⟩ : ∃ s : Nat, p + f + o = s := ⟨_, rfl⟩
  have hs255 : s ≤ 255 := by unfold Hd.Ok at hok; omega
  obtain ⟨k, hk, hks⟩ : ∃ k : Nat, (IntKind.u64.wrap i).tmod (s : Int) = k ∧ k < s := by
    have h : 0 ≤ IntKind.u64.wrap i := by rw [IntKind.wrap_u64]; omega
    rw [Int.tmod_eq_emod_of_nonneg h]
    have h1 := Int.emod_nonneg (IntKind.u64.wrap i) (show (s : Int) ≠ 0 by omega)
    have h2 := Int.emod_lt_of_pos (IntKind.u64.wrap i) (show (0 : Int) < s by omega)
    exact ⟨(IntKind.u64.wrap i % s).toNat, by omega, by omega⟩
  have hb0 := below_new w (.cells #[.int .i64 p, .int .i64 f, .int .i64 o] 106)
  have hb3 := heap_alloc_new w (.cells #[.int .i64 p, .int .i64 f, .int .i64 o] 106)
  obtain ⟨W0, hW0⟩ : ∃ W0, w.alloc (.cells #[.int .i64 p, .int .i64 f, .int .i64 o] 106) = W0 := ⟨_, rfl⟩
  rw [hW0] at hb0 hb3
  have Hf := fresh15_any 600 (by omega) (by omega) W0
  rw [← hW0] at Hf
  have HW0 := Lib.hid hW0
  have Hb0 := Lib.hid hb0
  have Hb3 := Lib.hid hb3
  replace Hf := Lib.hid Hf
  have hM := fun m t W (h : FK W0 m 600 t (fun _ => 0) [] W) => make_fk h (small_zero 600) 1 p f o
  obtain ⟨e1, e2⟩ := make_back p f o hok
  rw [e1, e2] at hM
  unfold spc Hd.hv at hM
  have HM := Lib.hid hM
  clear hM e1 e2 hW0 hb0 hb3
  have p1 : (p : Int) ≤ 255 := by omega
  have f1 : (f : Int) ≤ 255 := by omega
  have o1 : (o : Int) ≤ 255 := by omega
  have hsI : (p : Int) + f + o = s := by omega
  have s1 : (s : Int) ≤ 255 := by omega
  have s2 : (0 : Int) < s := by omega
  have s3 : (s : Int) ≠ 0 := by omega
  have s4 : s ≠ 0 := by omega
  have k1 : (k : Int) < s := by omega
  have k2 : (k : Int) ≤ 255 := by omega
  clear hs255 h0
  have Hok := Lib.hid hok
  clear hok
  have HCp := Lib.hid (fun m t (y : Nat) (hy : y < 18446744073709551616) W (h : FK W0 m 600 t (g2of p f o k y) [] W) => back_copy Hok.out hy h)
  have HPt := Lib.hid (fun m t (y a i : Nat) (hy : y < 18446744073709551616) (hyp : k < p → y < 2147483648) (ha : a = 1 ∨ a = 300) (hi : i < p) W (h : FK W0 m 600 t (g3of p f o k y) [] W) => back_pt Hok.out hy hyp ha hi h)
  have HFl := Lib.hid (fun m t (y a i : Nat) (hy : y < 18446744073709551616) (ha : a = 1 ∨ a = 300) (hi : p ≤ i) (hi2 : i < p + f) W (h : FK W0 m 600 t (g3of p f o k y) [] W) => back_fl Hok.out hy ha hi hi2 h)
  have HWd := Lib.hid (fun m t (y a i : Nat) (hy : y < 18446744073709551616) (ha : a = 1 ∨ a = 300) (hi : p + f ≤ i) (hi2 : i < p + f + o) W (h : FK W0 m 600 t (g3of p f o k y) [] W) => back_wd Hok.out hy ha hi hi2 h)
  have hbr : ∃ y : Nat, y < 18446744073709551616 ∧ (k < p → y < 2147483648) ∧ ((k < p ∧ (x : Int) % 2147483648 = y) ∨ (p ≤ k ∧ k < p + f ∧ x = y) ∨ (p + f ≤ k ∧ x = y)) := by
    by_cases c1 : k < p
    · exact ⟨x % 2147483648, by omega, fun _ => by omega, .inl ⟨c1, by omega⟩⟩
    · by_cases c2 : k < p + f
      · exact ⟨x, hx, fun h => absurd h c1, .inr (.inl ⟨by omega, c2, rfl⟩)⟩
      · exact ⟨x, hx, fun h => absurd h c1, .inr (.inr ⟨by omega, rfl⟩)⟩
  obtain ⟨y, hy, hyp, hbr⟩ := hbr
  have Hyp := Lib.hid hyp
  have Hy := Lib.hid hy
  have Hs := Lib.hid hs
  have hset : (k < p ∧ (x : Int) % 2147483648 = y ∧ y < 2147483648 ∧ (∀ m t W, FK W0 m 600 t (mkG (fun _ => 0) 1 (Hd.wordOf p f o) (p + f + o)) [] W → Calls Try.prog 83 #[.iface 26 (.pointer (some ⟨m, 0, none⟩)), .int .i64 1, .int .i64 k, .int .i64 y] W fun e w' => e = .returned (.int .i64 0) ∧ FK W0 m 600 t (g2of p f o k y) [] w')) ∨
      (p ≤ k ∧ k < p + f ∧ x = y ∧ (∀ m t W, FK W0 m 600 t (mkG (fun _ => 0) 1 (Hd.wordOf p f o) (p + f + o)) [] W → Calls Try.prog 84 #[.iface 26 (.pointer (some ⟨m, 0, none⟩)), .int .i64 1, .int .i64 k, .float .f64 y] W fun e w' => e = .returned (.int .i64 0) ∧ FK W0 m 600 t (g2of p f o k y) [] w')) ∨
      (p + f ≤ k ∧ x = y ∧ (∀ m t W, FK W0 m 600 t (mkG (fun _ => 0) 1 (Hd.wordOf p f o) (p + f + o)) [] W → Calls Try.prog 82 #[.iface 26 (.pointer (some ⟨m, 0, none⟩)), .int .i64 1, .int .i64 k, .int .u64 y] W fun e w' => e = .returned (.int .i64 0) ∧ FK W0 m 600 t (g2of p f o k y) [] w')) := by
    rcases hbr with ⟨c1, c2⟩ | ⟨c1, c2, c3⟩ | ⟨c1, c2⟩
    · exact .inl ⟨c1, c2, hyp c1, fun m t W h => back_setpt Hok.out (hyp c1) c1 h⟩
    · exact .inr (.inl ⟨c1, c2, c3, fun m t W h => back_setfl Hok.out hy c1 c2 h⟩)
    · exact .inr (.inr ⟨c1, c2, fun m t W h => back_setwd Hok.out hy c1 (by omega) h⟩)
  clear hbr hyp hs
  rcases hset with ⟨c1, c2, c3, hset⟩ | ⟨c1, c2, rfl, hset⟩ | ⟨c1, rfl, hset⟩
  · have HSet := Lib.hid hset
    clear hset
    have q1 : (k : Int) < p := by omega
    have q3 : IntKind.i64.wrap (y : Int) = y := IntWalk.i64_in _ (by omega)
    obtain ⟨X, hX⟩ : ∃ X : Int, (x : Int) = X := ⟨_, rfl⟩
    have x1 : 0 ≤ X := by omega
    have x2 : X < 18446744073709551616 := by omega
    rw [hX] at c2 ⊢
    clear hx c1 c3 hks hy hX
    go_enter Try.func13, Try.ntmps13
    go_wp2_with (first
      | (go_at_call 71; refine Hf.out.mono ?_; rintro e w1 ⟨m, t, rfl, h1⟩; rw [HW0.out] at h1; have c0 := at_cell (blockB h1.below (Nat.le_refl _) Hb3.out) 0 _ rfl; have c1 := at_cell (blockB h1.below (Nat.le_refl _) Hb3.out) 1 _ rfl; have c2 := at_cell (blockB h1.below (Nat.le_refl _) Hb3.out) 2 _ rfl; have H1 := Lib.hid h1; clear h1)
      | (go_at_call 81; refine (HM.out _ _ _ H1.out).mono ?_; rintro e w2 ⟨rfl, h2⟩; clear c0 c1 c2; have c0 := at_cell (blockB h2.below (Nat.le_refl _) Hb3.out) 0 _ rfl; have c1 := at_cell (blockB h2.below (Nat.le_refl _) Hb3.out) 1 _ rfl; have c2 := at_cell (blockB h2.below (Nat.le_refl _) Hb3.out) 2 _ rfl; have H2 := Lib.hid h2; clear h2)
      | (go_at_call 85; refine (ofloat_of _ _).mono ?_; rintro e w3 ⟨rfl, rfl⟩)
      | (go_at_call 83; refine (HSet.out _ _ _ H2.out).mono ?_; rintro e w4 ⟨rfl, h4⟩; clear c0 c1 c2; have H4 := Lib.hid h4; clear h4)
      | (go_at_call 86; refine (HCp.out _ _ _ Hy.out _ H4.out).mono ?_; rintro e w5 ⟨rfl, h5⟩; have H5 := Lib.hid h5; clear h5))
    clear H1 H2 H4 HSet HCp HM Hf
    go_loopw [99] (fun i wr => ∃ (j : Nat), i = .int .i64 j ∧ j ≤ 2 ∧ FK W0 m 600 t (g3of p f o k y) [] wr) (fun i _ => 2 - (intOf i).toNat)
    case atStart => exact ⟨0, rfl, by omega, H5.out⟩
    case round =>
      clear H5
      obtain ⟨j, rfl, hj, hF⟩ := hrel
      by_cases hlt : j < 2
      · have hidx : ∃ a : Nat, (a = 1 ∨ a = 300) ∧ ∀ w, (Instr.index 50 (.agg #[.int .i64 1, .int .i64 300]) (.int .i64 j)).run Try.prog w = .ok (.int .i64 a) w := by
          obtain rfl | rfl : j = 0 ∨ j = 1 := by omega
          · exact ⟨1, .inl rfl, fun w => by kernel_rfl⟩
          · exact ⟨300, .inr rfl, fun w => by kernel_rfl⟩
        obtain ⟨a, ha, hidx⟩ := hidx
        have Ha := Lib.hid ha
        have HF := Lib.hid hF
        have j1 : (j : Int) < 2 := by omega
        clear hF ha
        go_wp2_with (fail)
        clear hidx
        go_loopw [103] (fun i wr => ∃ (q : Nat), i = .int .i64 q ∧ q ≤ s ∧ FK W0 m 600 t (g3of p f o k y) [] wr) (fun i _ => s - (intOf i).toNat)
        case atStart => exact ⟨0, rfl, by omega, HF.out⟩
        case round =>
          clear HF
          obtain ⟨q, rfl, hq, hF⟩ := hrel
          have hb := hF.below
          have c0 := at_cell (blockB hb (Nat.le_refl _) Hb3.out) 0 _ rfl
          have c1 := at_cell (blockB hb (Nat.le_refl _) Hb3.out) 1 _ rfl
          have c2 := at_cell (blockB hb (Nat.le_refl _) Hb3.out) 2 _ rfl
          by_cases hltq : q < s
          · have r1 : (q : Int) < s := by omega
            have r2 : (q : Int) ≤ 255 := by omega
            have hqs : q < p + f + o := by rw [Hs.out]; exact hltq
            obtain ⟨z, hz, hz2⟩ : ∃ z : Nat, (if q = k then y else 0) = z ∧ z < 18446744073709551616 := ⟨_, rfl, by have := Hy.out; split <;> omega⟩
            have hzz : (q = k ∧ z = y) ∨ (q ≠ k ∧ z = 0) := by
              rw [← hz]
              by_cases e : q = k
              · exact .inl ⟨e, if_pos e⟩
              · exact .inr ⟨e, if_neg e⟩
            have z1 : IntKind.u64.wrap (z : Int) = z := by rw [IntKind.wrap_u64]; omega
            rcases kd_cases p f q with ⟨-, x1⟩ | ⟨-, x1, x2⟩ | ⟨-, x1⟩
            · have hG := HPt.out m t y a q Hy.out Hyp.out Ha.out x1 _ hF
              rw [hz] at hG
              have HG := Lib.hid hG
              have y1 : (q : Int) < p := by omega
              clear hG hF x1 hz hqs hb
              rcases hzz with ⟨rfl, rfl⟩ | ⟨e1, rfl⟩
              · first
                | (exfalso; omega)
                | skip
                  clear hz2
                  go_wp2_with (go_at_call 72; refine HG.out.mono ?_; rintro e w7 ⟨rfl, h7⟩; have H7 := Lib.hid h7; clear h7)
                  go_roundw
                  case rel => exact ⟨q + 1, by go_num, by omega, H7.out⟩
                  case measure => simp [intOf]; omega
              · have e2 : ((q : Int) == k) = false := by rw [beq_eq_false_iff_ne]; omega
                have e3 : ((q : Int) != k) = true := by rw [bne_iff_ne]; omega
                clear hz2
                go_wp2_with (go_at_call 72; refine HG.out.mono ?_; rintro e w7 ⟨rfl, h7⟩; have H7 := Lib.hid h7; clear h7)
                go_roundw
                case rel => exact ⟨q + 1, by go_num, by omega, H7.out⟩
                case measure => simp [intOf]; omega
            · have hG := HFl.out m t y a q Hy.out Ha.out x1 x2 _ hF
              rw [hz] at hG
              have HG := Lib.hid hG
              have y1 : ¬ (q : Int) < p := by omega
              have y2 : (q : Int) < p + f := by omega
              clear hG hF x1 x2 hz hqs hb
              rcases hzz with ⟨rfl, rfl⟩ | ⟨e1, rfl⟩
              · first
                | (exfalso; omega)
                | skip
                  clear hz2
                  go_wp2_with (first | (go_at_call 74; refine HG.out.mono ?_; rintro e w7 ⟨rfl, h7⟩; have H7 := Lib.hid h7; clear h7) | (go_at_call 75; refine (ofloat_bits _ _).mono ?_; rintro e w8 ⟨rfl, rfl⟩))
                  go_roundw
                  case rel => exact ⟨q + 1, by go_num, by omega, H7.out⟩
                  case measure => simp [intOf]; omega
              · have e2 : ((q : Int) == k) = false := by rw [beq_eq_false_iff_ne]; omega
                have e3 : ((q : Int) != k) = true := by rw [bne_iff_ne]; omega
                clear hz2
                go_wp2_with (first | (go_at_call 74; refine HG.out.mono ?_; rintro e w7 ⟨rfl, h7⟩; have H7 := Lib.hid h7; clear h7) | (go_at_call 75; refine (ofloat_bits _ _).mono ?_; rintro e w8 ⟨rfl, rfl⟩))
                go_roundw
                case rel => exact ⟨q + 1, by go_num, by omega, H7.out⟩
                case measure => simp [intOf]; omega
            · have hG := HWd.out m t y a q Hy.out Ha.out x1 hqs _ hF
              rw [hz] at hG
              have HG := Lib.hid hG
              have y1 : ¬ (q : Int) < p := by omega
              have y2 : ¬ (q : Int) < p + f := by omega
              clear hG hF x1 hz hqs hb
              rcases hzz with ⟨rfl, rfl⟩ | ⟨e1, rfl⟩
              · first
                | (exfalso; omega)
                | skip
                  clear hz2
                  go_wp2_with (go_at_call 76; refine HG.out.mono ?_; rintro e w7 ⟨rfl, h7⟩; have H7 := Lib.hid h7; clear h7)
                  go_roundw
                  case rel => exact ⟨q + 1, by go_num, by omega, H7.out⟩
                  case measure => simp [intOf]; omega
              · have e2 : ((q : Int) == k) = false := by rw [beq_eq_false_iff_ne]; omega
                have e3 : ((q : Int) != k) = true := by rw [bne_iff_ne]; omega
                clear hz2
                go_wp2_with (go_at_call 76; refine HG.out.mono ?_; rintro e w7 ⟨rfl, h7⟩; have H7 := Lib.hid h7; clear h7)
                go_roundw
                case rel => exact ⟨q + 1, by go_num, by omega, H7.out⟩
                case measure => simp [intOf]; omega
          · have r1 : ¬ (q : Int) < s := by omega
            have HF := Lib.hid hF
            clear hF hb
            go_wp2
            go_roundw
            case rel => exact ⟨j + 1, by go_num, by omega, HF.out⟩
            case measure => simp [intOf]; omega
      · have j1 : ¬ (j : Int) < 2 := by omega
        have HF := Lib.hid hF
        clear hF
        go_wp2_with (go_at_call 70; refine (lives15_yes _).mono ?_; rintro e w3 ⟨rfl, hb⟩; have H3 := Lib.hid (seq (seq Hb0.out HF.out.below) hb); clear hb)
        go_ret
        exact ⟨rfl, H3.out⟩
  · have HSet := Lib.hid hset
    clear hset
    have q1 : ¬ (k : Int) < p := by omega
    have q2 : (k : Int) < p + f := by omega
    clear hx c1 c2 hks hy
    go_enter Try.func13, Try.ntmps13
    go_wp2_with (first
      | (go_at_call 71; refine Hf.out.mono ?_; rintro e w1 ⟨m, t, rfl, h1⟩; rw [HW0.out] at h1; have c0 := at_cell (blockB h1.below (Nat.le_refl _) Hb3.out) 0 _ rfl; have c1 := at_cell (blockB h1.below (Nat.le_refl _) Hb3.out) 1 _ rfl; have c2 := at_cell (blockB h1.below (Nat.le_refl _) Hb3.out) 2 _ rfl; have H1 := Lib.hid h1; clear h1)
      | (go_at_call 81; refine (HM.out _ _ _ H1.out).mono ?_; rintro e w2 ⟨rfl, h2⟩; clear c0 c1 c2; have c0 := at_cell (blockB h2.below (Nat.le_refl _) Hb3.out) 0 _ rfl; have c1 := at_cell (blockB h2.below (Nat.le_refl _) Hb3.out) 1 _ rfl; have c2 := at_cell (blockB h2.below (Nat.le_refl _) Hb3.out) 2 _ rfl; have H2 := Lib.hid h2; clear h2)
      | (go_at_call 85; refine (ofloat_of _ _).mono ?_; rintro e w3 ⟨rfl, rfl⟩)
      | (go_at_call 84; refine (HSet.out _ _ _ H2.out).mono ?_; rintro e w4 ⟨rfl, h4⟩; clear c0 c1 c2; have H4 := Lib.hid h4; clear h4)
      | (go_at_call 86; refine (HCp.out _ _ _ Hy.out _ H4.out).mono ?_; rintro e w5 ⟨rfl, h5⟩; have H5 := Lib.hid h5; clear h5))
    clear H1 H2 H4 HSet HCp HM Hf
    go_loopw [99] (fun i wr => ∃ (j : Nat), i = .int .i64 j ∧ j ≤ 2 ∧ FK W0 m 600 t (g3of p f o k x) [] wr) (fun i _ => 2 - (intOf i).toNat)
    case atStart => exact ⟨0, rfl, by omega, H5.out⟩
    case round =>
      clear H5
      obtain ⟨j, rfl, hj, hF⟩ := hrel
      by_cases hlt : j < 2
      · have hidx : ∃ a : Nat, (a = 1 ∨ a = 300) ∧ ∀ w, (Instr.index 50 (.agg #[.int .i64 1, .int .i64 300]) (.int .i64 j)).run Try.prog w = .ok (.int .i64 a) w := by
          obtain rfl | rfl : j = 0 ∨ j = 1 := by omega
          · exact ⟨1, .inl rfl, fun w => by kernel_rfl⟩
          · exact ⟨300, .inr rfl, fun w => by kernel_rfl⟩
        obtain ⟨a, ha, hidx⟩ := hidx
        have Ha := Lib.hid ha
        have HF := Lib.hid hF
        have j1 : (j : Int) < 2 := by omega
        clear hF ha
        go_wp2_with (fail)
        clear hidx
        go_loopw [103] (fun i wr => ∃ (q : Nat), i = .int .i64 q ∧ q ≤ s ∧ FK W0 m 600 t (g3of p f o k x) [] wr) (fun i _ => s - (intOf i).toNat)
        case atStart => exact ⟨0, rfl, by omega, HF.out⟩
        case round =>
          clear HF
          obtain ⟨q, rfl, hq, hF⟩ := hrel
          have hb := hF.below
          have c0 := at_cell (blockB hb (Nat.le_refl _) Hb3.out) 0 _ rfl
          have c1 := at_cell (blockB hb (Nat.le_refl _) Hb3.out) 1 _ rfl
          have c2 := at_cell (blockB hb (Nat.le_refl _) Hb3.out) 2 _ rfl
          by_cases hltq : q < s
          · have r1 : (q : Int) < s := by omega
            have r2 : (q : Int) ≤ 255 := by omega
            have hqs : q < p + f + o := by rw [Hs.out]; exact hltq
            obtain ⟨z, hz, hz2⟩ : ∃ z : Nat, (if q = k then x else 0) = z ∧ z < 18446744073709551616 := ⟨_, rfl, by have := Hy.out; split <;> omega⟩
            have hzz : (q = k ∧ z = x) ∨ (q ≠ k ∧ z = 0) := by
              rw [← hz]
              by_cases e : q = k
              · exact .inl ⟨e, if_pos e⟩
              · exact .inr ⟨e, if_neg e⟩
            have z1 : IntKind.u64.wrap (z : Int) = z := by rw [IntKind.wrap_u64]; omega
            rcases kd_cases p f q with ⟨-, x1⟩ | ⟨-, x1, x2⟩ | ⟨-, x1⟩
            · have hG := HPt.out m t x a q Hy.out Hyp.out Ha.out x1 _ hF
              rw [hz] at hG
              have HG := Lib.hid hG
              have y1 : (q : Int) < p := by omega
              clear hG hF x1 hz hqs hb
              rcases hzz with ⟨rfl, rfl⟩ | ⟨e1, rfl⟩
              · first
                | (exfalso; omega)
                | skip
                  clear hz2
                  go_wp2_with (go_at_call 72; refine HG.out.mono ?_; rintro e w7 ⟨rfl, h7⟩; have H7 := Lib.hid h7; clear h7)
                  go_roundw
                  case rel => exact ⟨q + 1, by go_num, by omega, H7.out⟩
                  case measure => simp [intOf]; omega
              · have e2 : ((q : Int) == k) = false := by rw [beq_eq_false_iff_ne]; omega
                have e3 : ((q : Int) != k) = true := by rw [bne_iff_ne]; omega
                clear hz2
                go_wp2_with (go_at_call 72; refine HG.out.mono ?_; rintro e w7 ⟨rfl, h7⟩; have H7 := Lib.hid h7; clear h7)
                go_roundw
                case rel => exact ⟨q + 1, by go_num, by omega, H7.out⟩
                case measure => simp [intOf]; omega
            · have hG := HFl.out m t x a q Hy.out Ha.out x1 x2 _ hF
              rw [hz] at hG
              have HG := Lib.hid hG
              have y1 : ¬ (q : Int) < p := by omega
              have y2 : (q : Int) < p + f := by omega
              clear hG hF x1 x2 hz hqs hb
              rcases hzz with ⟨rfl, rfl⟩ | ⟨e1, rfl⟩
              · first
                | (exfalso; omega)
                | skip
                  clear hz2
                  go_wp2_with (first | (go_at_call 74; refine HG.out.mono ?_; rintro e w7 ⟨rfl, h7⟩; have H7 := Lib.hid h7; clear h7) | (go_at_call 75; refine (ofloat_bits _ _).mono ?_; rintro e w8 ⟨rfl, rfl⟩))
                  go_roundw
                  case rel => exact ⟨q + 1, by go_num, by omega, H7.out⟩
                  case measure => simp [intOf]; omega
              · have e2 : ((q : Int) == k) = false := by rw [beq_eq_false_iff_ne]; omega
                have e3 : ((q : Int) != k) = true := by rw [bne_iff_ne]; omega
                clear hz2
                go_wp2_with (first | (go_at_call 74; refine HG.out.mono ?_; rintro e w7 ⟨rfl, h7⟩; have H7 := Lib.hid h7; clear h7) | (go_at_call 75; refine (ofloat_bits _ _).mono ?_; rintro e w8 ⟨rfl, rfl⟩))
                go_roundw
                case rel => exact ⟨q + 1, by go_num, by omega, H7.out⟩
                case measure => simp [intOf]; omega
            · have hG := HWd.out m t x a q Hy.out Ha.out x1 hqs _ hF
              rw [hz] at hG
              have HG := Lib.hid hG
              have y1 : ¬ (q : Int) < p := by omega
              have y2 : ¬ (q : Int) < p + f := by omega
              clear hG hF x1 hz hqs hb
              rcases hzz with ⟨rfl, rfl⟩ | ⟨e1, rfl⟩
              · first
                | (exfalso; omega)
                | skip
                  clear hz2
                  go_wp2_with (go_at_call 76; refine HG.out.mono ?_; rintro e w7 ⟨rfl, h7⟩; have H7 := Lib.hid h7; clear h7)
                  go_roundw
                  case rel => exact ⟨q + 1, by go_num, by omega, H7.out⟩
                  case measure => simp [intOf]; omega
              · have e2 : ((q : Int) == k) = false := by rw [beq_eq_false_iff_ne]; omega
                have e3 : ((q : Int) != k) = true := by rw [bne_iff_ne]; omega
                clear hz2
                go_wp2_with (go_at_call 76; refine HG.out.mono ?_; rintro e w7 ⟨rfl, h7⟩; have H7 := Lib.hid h7; clear h7)
                go_roundw
                case rel => exact ⟨q + 1, by go_num, by omega, H7.out⟩
                case measure => simp [intOf]; omega
          · have r1 : ¬ (q : Int) < s := by omega
            have HF := Lib.hid hF
            clear hF hb
            go_wp2
            go_roundw
            case rel => exact ⟨j + 1, by go_num, by omega, HF.out⟩
            case measure => simp [intOf]; omega
      · have j1 : ¬ (j : Int) < 2 := by omega
        have HF := Lib.hid hF
        clear hF
        go_wp2_with (go_at_call 70; refine (lives15_yes _).mono ?_; rintro e w3 ⟨rfl, hb⟩; have H3 := Lib.hid (seq (seq Hb0.out HF.out.below) hb); clear hb)
        go_ret
        exact ⟨rfl, H3.out⟩
  · have HSet := Lib.hid hset
    clear hset
    have q1 : ¬ (k : Int) < p := by omega
    have q2 : ¬ (k : Int) < p + f := by omega
    clear hx c1 hks hy
    go_enter Try.func13, Try.ntmps13
    go_wp2_with (first
      | (go_at_call 71; refine Hf.out.mono ?_; rintro e w1 ⟨m, t, rfl, h1⟩; rw [HW0.out] at h1; have c0 := at_cell (blockB h1.below (Nat.le_refl _) Hb3.out) 0 _ rfl; have c1 := at_cell (blockB h1.below (Nat.le_refl _) Hb3.out) 1 _ rfl; have c2 := at_cell (blockB h1.below (Nat.le_refl _) Hb3.out) 2 _ rfl; have H1 := Lib.hid h1; clear h1)
      | (go_at_call 81; refine (HM.out _ _ _ H1.out).mono ?_; rintro e w2 ⟨rfl, h2⟩; clear c0 c1 c2; have c0 := at_cell (blockB h2.below (Nat.le_refl _) Hb3.out) 0 _ rfl; have c1 := at_cell (blockB h2.below (Nat.le_refl _) Hb3.out) 1 _ rfl; have c2 := at_cell (blockB h2.below (Nat.le_refl _) Hb3.out) 2 _ rfl; have H2 := Lib.hid h2; clear h2)
      | (go_at_call 85; refine (ofloat_of _ _).mono ?_; rintro e w3 ⟨rfl, rfl⟩)
      | (go_at_call 82; refine (HSet.out _ _ _ H2.out).mono ?_; rintro e w4 ⟨rfl, h4⟩; clear c0 c1 c2; have H4 := Lib.hid h4; clear h4)
      | (go_at_call 86; refine (HCp.out _ _ _ Hy.out _ H4.out).mono ?_; rintro e w5 ⟨rfl, h5⟩; have H5 := Lib.hid h5; clear h5))
    clear H1 H2 H4 HSet HCp HM Hf
    go_loopw [99] (fun i wr => ∃ (j : Nat), i = .int .i64 j ∧ j ≤ 2 ∧ FK W0 m 600 t (g3of p f o k x) [] wr) (fun i _ => 2 - (intOf i).toNat)
    case atStart => exact ⟨0, rfl, by omega, H5.out⟩
    case round =>
      clear H5
      obtain ⟨j, rfl, hj, hF⟩ := hrel
      by_cases hlt : j < 2
      · have hidx : ∃ a : Nat, (a = 1 ∨ a = 300) ∧ ∀ w, (Instr.index 50 (.agg #[.int .i64 1, .int .i64 300]) (.int .i64 j)).run Try.prog w = .ok (.int .i64 a) w := by
          obtain rfl | rfl : j = 0 ∨ j = 1 := by omega
          · exact ⟨1, .inl rfl, fun w => by kernel_rfl⟩
          · exact ⟨300, .inr rfl, fun w => by kernel_rfl⟩
        obtain ⟨a, ha, hidx⟩ := hidx
        have Ha := Lib.hid ha
        have HF := Lib.hid hF
        have j1 : (j : Int) < 2 := by omega
        clear hF ha
        go_wp2_with (fail)
        clear hidx
        go_loopw [103] (fun i wr => ∃ (q : Nat), i = .int .i64 q ∧ q ≤ s ∧ FK W0 m 600 t (g3of p f o k x) [] wr) (fun i _ => s - (intOf i).toNat)
        case atStart => exact ⟨0, rfl, by omega, HF.out⟩
        case round =>
          clear HF
          obtain ⟨q, rfl, hq, hF⟩ := hrel
          have hb := hF.below
          have c0 := at_cell (blockB hb (Nat.le_refl _) Hb3.out) 0 _ rfl
          have c1 := at_cell (blockB hb (Nat.le_refl _) Hb3.out) 1 _ rfl
          have c2 := at_cell (blockB hb (Nat.le_refl _) Hb3.out) 2 _ rfl
          by_cases hltq : q < s
          · have r1 : (q : Int) < s := by omega
            have r2 : (q : Int) ≤ 255 := by omega
            have hqs : q < p + f + o := by rw [Hs.out]; exact hltq
            obtain ⟨z, hz, hz2⟩ : ∃ z : Nat, (if q = k then x else 0) = z ∧ z < 18446744073709551616 := ⟨_, rfl, by have := Hy.out; split <;> omega⟩
            have hzz : (q = k ∧ z = x) ∨ (q ≠ k ∧ z = 0) := by
              rw [← hz]
              by_cases e : q = k
              · exact .inl ⟨e, if_pos e⟩
              · exact .inr ⟨e, if_neg e⟩
            have z1 : IntKind.u64.wrap (z : Int) = z := by rw [IntKind.wrap_u64]; omega
            rcases kd_cases p f q with ⟨-, x1⟩ | ⟨-, x1, x2⟩ | ⟨-, x1⟩
            · have hG := HPt.out m t x a q Hy.out Hyp.out Ha.out x1 _ hF
              rw [hz] at hG
              have HG := Lib.hid hG
              have y1 : (q : Int) < p := by omega
              clear hG hF x1 hz hqs hb
              rcases hzz with ⟨rfl, rfl⟩ | ⟨e1, rfl⟩
              · first
                | (exfalso; omega)
                | skip
                  clear hz2
                  go_wp2_with (go_at_call 72; refine HG.out.mono ?_; rintro e w7 ⟨rfl, h7⟩; have H7 := Lib.hid h7; clear h7)
                  go_roundw
                  case rel => exact ⟨q + 1, by go_num, by omega, H7.out⟩
                  case measure => simp [intOf]; omega
              · have e2 : ((q : Int) == k) = false := by rw [beq_eq_false_iff_ne]; omega
                have e3 : ((q : Int) != k) = true := by rw [bne_iff_ne]; omega
                clear hz2
                go_wp2_with (go_at_call 72; refine HG.out.mono ?_; rintro e w7 ⟨rfl, h7⟩; have H7 := Lib.hid h7; clear h7)
                go_roundw
                case rel => exact ⟨q + 1, by go_num, by omega, H7.out⟩
                case measure => simp [intOf]; omega
            · have hG := HFl.out m t x a q Hy.out Ha.out x1 x2 _ hF
              rw [hz] at hG
              have HG := Lib.hid hG
              have y1 : ¬ (q : Int) < p := by omega
              have y2 : (q : Int) < p + f := by omega
              clear hG hF x1 x2 hz hqs hb
              rcases hzz with ⟨rfl, rfl⟩ | ⟨e1, rfl⟩
              · first
                | (exfalso; omega)
                | skip
                  clear hz2
                  go_wp2_with (first | (go_at_call 74; refine HG.out.mono ?_; rintro e w7 ⟨rfl, h7⟩; have H7 := Lib.hid h7; clear h7) | (go_at_call 75; refine (ofloat_bits _ _).mono ?_; rintro e w8 ⟨rfl, rfl⟩))
                  go_roundw
                  case rel => exact ⟨q + 1, by go_num, by omega, H7.out⟩
                  case measure => simp [intOf]; omega
              · have e2 : ((q : Int) == k) = false := by rw [beq_eq_false_iff_ne]; omega
                have e3 : ((q : Int) != k) = true := by rw [bne_iff_ne]; omega
                clear hz2
                go_wp2_with (first | (go_at_call 74; refine HG.out.mono ?_; rintro e w7 ⟨rfl, h7⟩; have H7 := Lib.hid h7; clear h7) | (go_at_call 75; refine (ofloat_bits _ _).mono ?_; rintro e w8 ⟨rfl, rfl⟩))
                go_roundw
                case rel => exact ⟨q + 1, by go_num, by omega, H7.out⟩
                case measure => simp [intOf]; omega
            · have hG := HWd.out m t x a q Hy.out Ha.out x1 hqs _ hF
              rw [hz] at hG
              have HG := Lib.hid hG
              have y1 : ¬ (q : Int) < p := by omega
              have y2 : ¬ (q : Int) < p + f := by omega
              clear hG hF x1 hz hqs hb
              rcases hzz with ⟨rfl, rfl⟩ | ⟨e1, rfl⟩
              · first
                | (exfalso; omega)
                | skip
                  clear hz2
                  go_wp2_with (go_at_call 76; refine HG.out.mono ?_; rintro e w7 ⟨rfl, h7⟩; have H7 := Lib.hid h7; clear h7)
                  go_roundw
                  case rel => exact ⟨q + 1, by go_num, by omega, H7.out⟩
                  case measure => simp [intOf]; omega
              · have e2 : ((q : Int) == k) = false := by rw [beq_eq_false_iff_ne]; omega
                have e3 : ((q : Int) != k) = true := by rw [bne_iff_ne]; omega
                clear hz2
                go_wp2_with (go_at_call 76; refine HG.out.mono ?_; rintro e w7 ⟨rfl, h7⟩; have H7 := Lib.hid h7; clear h7)
                go_roundw
                case rel => exact ⟨q + 1, by go_num, by omega, H7.out⟩
                case measure => simp [intOf]; omega
          · have r1 : ¬ (q : Int) < s := by omega
            have HF := Lib.hid hF
            clear hF hb
            go_wp2
            go_roundw
            case rel => exact ⟨j + 1, by go_num, by omega, HF.out⟩
            case measure => simp [intOf]; omega
      · have j1 : ¬ (j : Int) < 2 := by omega
        have HF := Lib.hid hF
        clear hF
        go_wp2_with (go_at_call 70; refine (lives15_yes _).mono ?_; rintro e w3 ⟨rfl, hb⟩; have H3 := Lib.hid (seq (seq Hb0.out HF.out.below) hb); clear hb)
        go_ret
        exact ⟨rfl, H3.out⟩
theorem back_any (p f o i : Int) (x : Int) (hx : 0 ≤ x) (hx2 : x < 18446744073709551616) (w : World) :
    Calls Try.prog 13 #[.agg #[.int .i64 p, .int .i64 f, .int .i64 o], .int .i64 i, .int .u64 x] w fun e w' => e = .returned (.bool true) ∧ Below w.heap.size w w' := by
  obtain ⟨xn, rfl⟩ : ∃ n : Nat, x = n := ⟨x.toNat, by omega⟩
  by_cases hok : Hd.Ok p f o
  · obtain ⟨a, b, c, rfl, rfl, rfl⟩ := Hd.ok_nat hok
    by_cases h0 : 0 < a + b + c
    · exact back_yes a b c i xn w (by omega) hok h0
    · exact back_none a b c i xn w (by omega) hok (by omega)
  · exact back_no p f o i xn w hok
end Go.Proofs.Ytkcijlndblbidaa
