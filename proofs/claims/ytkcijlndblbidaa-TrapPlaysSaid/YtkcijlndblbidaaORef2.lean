/- The reference of layer 15: Get and Set. -/
import Derived.Test.YtkcijlndblbidaaORef
namespace Go.Proofs.Ytkcijlndblbidaa
open Go.ChangeShapes Go.WideShapes Go.ChangeAt Go.RowKit
set_option linter.unusedVariables false

def rgE (n : Nat) (g : Nat → Nat) (a i k : Int) : Int := if k = 1 then ptE n g a i else geE n g a i k
def rgW (n : Nat) (g : Nat → Nat) (a i k : Int) : Nat := if k = 1 then ptV n g a i else geW n g a i k
def rsE (n : Nat) (g : Nat → Nat) (a i k : Int) (x : Nat) : Int := if plE n g a i k = 0 then (if k = 1 ∧ 2147483648 ≤ x then 5 else geE n g a i k) else plE n g a i k
def rsG (n : Nat) (g : Nat → Nat) (a i k : Int) (x : Nat) : Nat → Nat := if rsE n g a i k x = 0 then putG g (a + 1 + i).toNat x else g
section
variable {w : World} {al : Option Addr} {n : Nat} {f : Nat → Nat}
set_option maxRecDepth 100000 in
theorem rget_any (h : URow w al n f) (c : Nat) (hn : n ≤ 4096) (hg : Small n f) (a i k : Int) (hk : k = 1 ∨ k = 2 ∨ k = 3) :
    Calls Try.prog 73 #[.slice al n c, .int .i64 a, .int .i64 i, .int .i64 k] w fun e w' => e = .returned (.tuple #[.int .u64 (rgW n f a i k), .int .i64 (rgE n f a i k)]) ∧ Below w.heap.size w w' := by
  have hk0 : k ≠ 0 := by omega
  have HP := rplace_any h c hn hg a i k hk0
  have hn1 : (n : Int) ≤ 4096 := by omega
  rcases geE_cases n f a i k hk0 with ⟨h1, h2⟩ | ⟨h1, hA, h2, h3⟩ | ⟨h1, hA, h2, h3⟩
  · have e1 : rgE n f a i k = plE n f a i k ∧ rgW n f a i k = 0 := by
      unfold rgE rgW
      by_cases hk1 : k = 1
      · subst hk1
        have : ptE n f a i = plE n f a i 1 := by unfold ptE; rw [if_neg (by rw [h2]; exact h1), h2]
        rw [if_pos rfl, if_pos rfl, this]
        refine ⟨rfl, ?_⟩
        unfold ptV
        rw [this, if_neg h1]
      · rw [if_neg hk1, if_neg hk1, h2]
        refine ⟨rfl, ?_⟩
        unfold geW
        rw [h2, if_neg h1]
    rw [e1.1, e1.2]
    clear h2 h e1
    generalize plA n f a i k = x at *
    generalize plE n f a i k = pe at *
    replace HP := Lib.hid HP
    have b1 : (pe != 0) = true := by rw [bne_iff_ne]; exact h1
    clear h1
    go_enter Try.func73, Try.ntmps73
    go_wp2_with (go_at_call 126; refine HP.out.mono ?_; rintro e w1 ⟨rfl, h1⟩; have H1 := Lib.hid h1; clear h1)
    go_ret2
    exact ⟨rfl, H1.out⟩
  · have e1 : rgE n f a i k = 11 ∧ rgW n f a i k = 0 := by
      unfold rgE rgW
      by_cases hk1 : k = 1
      · subst hk1
        have : ptE n f a i = 11 := by unfold ptE; rw [if_neg (by rw [h3]; omega), h3]
        rw [if_pos rfl, if_pos rfl, this]
        refine ⟨rfl, ?_⟩
        unfold ptV
        rw [this, if_neg (by omega)]
      · rw [if_neg hk1, if_neg hk1, h3]
        refine ⟨rfl, ?_⟩
        unfold geW
        rw [h3, if_neg (by omega)]
    rw [e1.1, e1.2]
    have h4 : (n : Int) ≤ a + 1 + i := by
      obtain ⟨-, -, h5, h6, h7, h8⟩ := plE_zero hk0 h1
      have := inG_false h2
      omega
    rw [h1, hA] at HP
    clear h1 h2 h3 hA h e1
    generalize a + 1 + i = x at *
    replace HP := Lib.hid HP
    go_enter Try.func73, Try.ntmps73
    go_wp2_with (go_at_call 126; refine HP.out.mono ?_; rintro e w1 ⟨rfl, h1⟩; have H1 := Lib.hid h1; clear h1)
    go_ret2
    exact ⟨rfl, H1.out⟩
  · obtain ⟨h4, h5⟩ := inG_true h2
    have hgW : geW n f a i k = f (a + 1 + i).toNat := by unfold geW; rw [if_pos h3]
    rw [h1, hA] at HP
    have HC := Lib.hid (fun w' (hb : Below w.heap.size w w') => (h.below hb).at_ h4 h5)
    have hsm := hg (a + 1 + i).toNat (by omega)
    have hrg : rgE n f a i k = (if k = 1 ∧ 2147483647 < f (a + 1 + i).toNat then 25 else 0) ∧ rgW n f a i k = (if k = 1 ∧ 2147483647 < f (a + 1 + i).toNat then 0 else f (a + 1 + i).toNat) := by
      unfold rgE rgW
      by_cases hk1 : k = 1
      · subst hk1
        rw [if_pos rfl, if_pos rfl]
        unfold ptV ptE
        rw [if_pos h3, hgW]
        by_cases hb : 2147483647 < f (a + 1 + i).toNat
        · rw [if_pos hb, if_pos ⟨rfl, hb⟩, if_neg (by omega), if_pos ⟨rfl, hb⟩]
          exact ⟨rfl, rfl⟩
        · rw [if_neg hb, if_neg (fun e => hb e.2), if_pos rfl, if_neg (fun e => hb e.2)]
          exact ⟨rfl, rfl⟩
      · rw [if_neg hk1, if_neg hk1, h3, if_neg (fun e => hk1 e.1), if_neg (fun e => hk1 e.1), hgW]
        exact ⟨rfl, rfl⟩
    rw [hrg.1, hrg.2]
    clear h1 h2 h3 hA h hgW hrg hg hk0
    generalize a + 1 + i = x at *
    generalize f x.toNat = y at *
    obtain ⟨Y, hY⟩ : ∃ Y : Int, (y : Int) = Y := ⟨_, rfl⟩
    have Y0 : 0 ≤ Y := by omega
    have hYv : (y : Int) = Y := hY
    replace HP := Lib.hid HP
    rw [hY] at HC
    have x1 : ¬ (n : Int) ≤ x := by omega
    have x2 : x ≤ 4096 := by omega
    rcases hk with rfl | rfl | rfl
    · by_cases hb : 2147483647 < y
      · rw [if_pos ⟨rfl, hb⟩, if_pos ⟨rfl, hb⟩]
        have Y1 : 2147483648 ≤ Y := by omega
        clear hY hYv hb hsm
        go_enter Try.func73, Try.ntmps73
        go_wp2_with (go_at_call 126; refine HP.out.mono ?_; rintro e w1 ⟨rfl, h1⟩; obtain ⟨bb, off, rfl, hcell⟩ := HC.out _ h1; have H1 := Lib.hid h1; clear h1)
        go_ret2
        exact ⟨rfl, H1.out⟩
      · rw [if_neg (fun e => hb e.2), if_neg (fun e => hb e.2), hY]
        have Y1 : Y < 2147483648 := by omega
        have Y2 : ¬ 2147483648 ≤ Y := by omega
        clear hY hYv hb hsm
        go_enter Try.func73, Try.ntmps73
        go_wp2_with (go_at_call 126; refine HP.out.mono ?_; rintro e w1 ⟨rfl, h1⟩; obtain ⟨bb, off, rfl, hcell⟩ := HC.out _ h1; have H1 := Lib.hid h1; clear h1)
        go_ret2
        exact ⟨rfl, H1.out⟩
    · rw [if_neg (by omega), if_neg (by omega), hY]
      clear hY hYv hsm
      go_enter Try.func73, Try.ntmps73
      go_wp2_with (go_at_call 126; refine HP.out.mono ?_; rintro e w1 ⟨rfl, h1⟩; obtain ⟨bb, off, rfl, hcell⟩ := HC.out _ h1; have H1 := Lib.hid h1; clear h1)
      go_ret2
      exact ⟨rfl, H1.out⟩
    · rw [if_neg (by omega), if_neg (by omega), hY]
      clear hY hYv hsm
      go_enter Try.func73, Try.ntmps73
      go_wp2_with (go_at_call 126; refine HP.out.mono ?_; rintro e w1 ⟨rfl, h1⟩; obtain ⟨bb, off, rfl, hcell⟩ := HC.out _ h1; have H1 := Lib.hid h1; clear h1)
      go_ret2
      exact ⟨rfl, H1.out⟩
end
/-- a row of n words f in a block of the call's own, beside a full memory -/
def RF (W0 : World) (m n t : Nat) (g : Nat → Nat) (bl : Nat) (f : Nat → Nat) (K : List (Nat × Obj)) (w : World) : Prop :=
  ∃ cur, UCells n f cur ∧ W0.heap.size ≤ bl ∧ (∀ x ∈ K, x.1 ≠ bl) ∧ FK W0 m n t g ((bl, .cells cur 23 (0, 0)) :: K) w
section
variable {W0 w w' : World} {m n t bl : Nat} {g f : Nat → Nat} {K : List (Nat × Obj)}
theorem RF.grow (h : RF W0 m n t g bl f K w) (c : Below w.heap.size w w') : RF W0 m n t g bl f K w' := by
  obtain ⟨cur, h1, h2, h3, h4⟩ := h
  exact ⟨cur, h1, h2, h3, h4.grow c⟩
theorem RF.row (h : RF W0 m n t g bl f K w) : URow w (some ⟨bl, 0, none⟩) n f := by
  obtain ⟨cur, h1, h2, h3, h4⟩ := h
  exact h1.row (h4.block (List.mem_cons_self ..))
theorem RF.dims (h : RF W0 m n t g bl f K w) : 1 ≤ n ∧ n ≤ 4096 := by
  obtain ⟨cur, h1, h2, h3, h4⟩ := h
  exact h4.dims
theorem RF.below (h : RF W0 m n t g bl f K w) : Below W0.heap.size W0 w := by
  obtain ⟨cur, h1, h2, h3, h4⟩ := h
  exact h4.below
theorem RF.block (h : RF W0 m n t g bl f K w) {X : Nat} {o : Obj} (hx : (X, o) ∈ K) : w.heap[X]? = some o := by
  obtain ⟨cur, h1, h2, h3, h4⟩ := h
  exact h4.block (List.mem_cons_of_mem _ hx)
theorem RF.free (h : RF W0 m n t g bl f K w) (j : Nat) : w.frozen? ⟨bl, j, none⟩ = false := by
  obtain ⟨cur, h1, h2, h3, h4⟩ := h
  exact at_free (h4.block (List.mem_cons_self ..)) j
theorem RF.cell (h : RF W0 m n t g bl f K w) {j : Nat} (hj : j < n) : w.cell? ⟨bl, j, none⟩ = some (.int .u64 (f j)) := by
  obtain ⟨cur, h1, h2, h3, h4⟩ := h
  exact at_cell (h4.block (List.mem_cons_self ..)) j _ (h1 j hj)
theorem RF.put (h : RF W0 m n t g bl f K w) {j : Nat} (hj : j < n) (x : Nat) : RF W0 m n t g bl (putG f j x) K (w.setCell ⟨bl, j, none⟩ (.int .u64 x)) := by
  obtain ⟨cur, h1, h2, h3, h4⟩ := h
  exact ⟨_, h1.set j x hj, h2, h3, h4.set h2 h3 j _⟩
theorem RF.box (h : RF W0 m n t g bl f K w) (cs : Array Value) (ty : TypeId) : RF W0 m n t g bl f ((w.heap.size, .cells cs ty (0, 0)) :: K) (w.alloc (.cells cs ty)) := by
  obtain ⟨cur, h1, h2, h3, h4⟩ := h
  have hlt := block_lt (h4.block (List.mem_cons_self ..))
  refine ⟨cur, h1, h2, fun x hx => ?_, (h4.box cs ty).sub fun x hx => ?_⟩
  · simp only [List.mem_cons] at hx
    rcases hx with rfl | hx
    · simp only []; omega
    · exact h3 x hx
  · simp only [List.mem_cons] at hx ⊢
    rcases hx with h | h | h
    · exact .inr (.inl h)
    · exact .inl h
    · exact .inr (.inr h)
theorem RF.sub {K' : List (Nat × Obj)} (h : RF W0 m n t g bl f K w) (hs : ∀ x ∈ K', x ∈ K) : RF W0 m n t g bl f K' w := by
  obtain ⟨cur, h1, h2, h3, h4⟩ := h
  refine ⟨cur, h1, h2, fun x hx => h3 x (hs x hx), h4.sub fun x hx => ?_⟩
  simp only [List.mem_cons] at hx ⊢
  rcases hx with h | h
  · exact .inl h
  · exact .inr (hs x h)
theorem RF.tail {x : Nat × Obj} (h : RF W0 m n t g bl f (x :: K) w) : RF W0 m n t g bl f K w := h.sub fun y hy => List.mem_cons_of_mem _ hy
/-- what a call does to the memory alone, it does beside the row -/
theorem RF.mem {F : FuncId} {args : Array Value} {P : Ending → Prop} {g' : Nat → Nat} (h : RF W0 m n t g bl f K w)
    (hc : ∀ K, FK W0 m n t g K w → Calls Try.prog F args w fun e w' => P e ∧ FK W0 m n t g' K w') : Calls Try.prog F args w fun e w' => P e ∧ RF W0 m n t g' bl f K w' := by
  obtain ⟨cur, h1, h2, h3, h4⟩ := h
  exact (hc _ h4).mono fun e w' ⟨he, hF⟩ => ⟨he, cur, h1, h2, h3, hF⟩
set_option maxRecDepth 100000 in
theorem rset_any (h : RF W0 m n t g bl f K w) (c : Nat) (hf : Small n f) (a i k : Int) (hk : k = 1 ∨ k = 2 ∨ k = 3) (x : Nat) :
    Calls Try.prog 129 #[.slice (some ⟨bl, 0, none⟩) n c, .int .i64 a, .int .i64 i, .int .i64 k, .int .u64 x] w fun e w' => e = .returned (.int .i64 (rsE n f a i k x)) ∧ RF W0 m n t g bl (rsG n f a i k x) K w' := by
  have hk0 : k ≠ 0 := by omega
  have hn := h.dims
  have HP := rplace_any h.row c hn.2 hf a i k hk0
  have hn1 : (n : Int) ≤ 4096 := by omega
  unfold rsG
  obtain ⟨X, hX⟩ : ∃ X : Int, (x : Int) = X := ⟨_, rfl⟩
  have X0 : 0 ≤ X := by omega
  by_cases h1 : plE n f a i k = 0
  · by_cases h2 : k = 1 ∧ 2147483648 ≤ x
    · have he : rsE n f a i k x = 5 := by unfold rsE; rw [if_pos h1, if_pos h2]
      rw [he, if_neg (by omega), hX]
      obtain ⟨rfl, h3⟩ := h2
      rw [h1] at HP
      have X1 : 2147483648 ≤ X := by omega
      have H := Lib.hid h
      clear he h1 h3 hX h
      generalize plA n f a i 1 = y at *
      replace HP := Lib.hid HP
      go_enter Try.func129, Try.ntmps129
      go_wp2_with (go_at_call 126; refine HP.out.mono ?_; rintro e w1 ⟨rfl, h1⟩; have H1 := Lib.hid (H.out.grow h1); clear h1)
      go_ret
      exact ⟨rfl, H1.out⟩
    · have he : rsE n f a i k x = geE n f a i k := by unfold rsE; rw [if_pos h1, if_neg h2]
      rw [he]
      rcases geE_cases n f a i k hk0 with ⟨h3, -⟩ | ⟨-, hA, h3, h4⟩ | ⟨-, hA, h3, h4⟩
      · exact absurd h1 h3
      · rw [h4, if_neg (by omega), hX]
        have h5 : (n : Int) ≤ a + 1 + i := by
          obtain ⟨-, -, h5, h6, h7, h8⟩ := plE_zero hk0 h1
          have := inG_false h3
          omega
        rw [h1, hA] at HP
        have X1 : k = 1 → ¬ 2147483648 ≤ X := fun e e2 => h2 ⟨e, by omega⟩
        have H := Lib.hid h
        clear he h1 h3 h4 hX h h2 hA
        generalize a + 1 + i = y at *
        replace HP := Lib.hid HP
        rcases hk with rfl | rfl | rfl
        · have X2 := X1 rfl
          clear X1
          go_enter Try.func129, Try.ntmps129
          go_wp2_with (go_at_call 126; refine HP.out.mono ?_; rintro e w1 ⟨rfl, h1⟩; have H1 := Lib.hid (H.out.grow h1); clear h1)
          go_ret
          exact ⟨rfl, H1.out⟩
        all_goals
          clear X1
          go_enter Try.func129, Try.ntmps129
          go_wp2_with (go_at_call 126; refine HP.out.mono ?_; rintro e w1 ⟨rfl, h1⟩; have H1 := Lib.hid (H.out.grow h1); clear h1)
          go_ret
          exact ⟨rfl, H1.out⟩
      · rw [h4, if_pos rfl, hX]
        obtain ⟨h5, h6⟩ := inG_true h3
        rw [h1, hA] at HP
        have X1 : k = 1 → ¬ 2147483648 ≤ X := fun e e2 => h2 ⟨e, by omega⟩
        have H := Lib.hid h
        have hcs := fun W (hb : Below w.heap.size w W) => (h.grow hb).cell (show (a + 1 + i).toNat < n by omega)
        have hpt := fun W (hb : Below w.heap.size w W) => (h.grow hb).put (show (a + 1 + i).toNat < n by omega) x
        rw [hX] at hpt
        have HC := Lib.hid hcs
        have HPT := Lib.hid hpt
        clear he h1 h3 h4 hX h h2 hA hcs hpt
        generalize a + 1 + i = y at *
        replace HP := Lib.hid HP
        have y1 : ¬ (n : Int) ≤ y := by omega
        have y2 : y ≤ 4096 := by omega
        rcases hk with rfl | rfl | rfl
        · have X2 := X1 rfl
          clear X1
          go_enter Try.func129, Try.ntmps129
          go_wp2_with (go_at_call 126; refine HP.out.mono ?_; rintro e w1 ⟨rfl, h1⟩; have d0 := HC.out _ h1; have f0 := (H.out.grow h1).free y.toNat; have H1 := Lib.hid (HPT.out _ h1); clear h1)
          go_ret
          exact ⟨rfl, H1.out⟩
        all_goals
          clear X1
          go_enter Try.func129, Try.ntmps129
          go_wp2_with (go_at_call 126; refine HP.out.mono ?_; rintro e w1 ⟨rfl, h1⟩; have d0 := HC.out _ h1; have f0 := (H.out.grow h1).free y.toNat; have H1 := Lib.hid (HPT.out _ h1); clear h1)
          go_ret
          exact ⟨rfl, H1.out⟩
  · have he : rsE n f a i k x = plE n f a i k := by unfold rsE; rw [if_neg h1]
    rw [he, if_neg h1]
    have H := Lib.hid h
    clear he h
    generalize plA n f a i k = y at *
    generalize plE n f a i k = pe at *
    replace HP := Lib.hid HP
    have b1 : (pe != 0) = true := by rw [bne_iff_ne]; exact h1
    rw [hX]
    clear h1 hX
    go_enter Try.func129, Try.ntmps129
    go_wp2_with (go_at_call 126; refine HP.out.mono ?_; rintro e w1 ⟨rfl, h1⟩; have H1 := Lib.hid (H.out.grow h1); clear h1)
    go_ret
    exact ⟨rfl, H1.out⟩
end
end Go.Proofs.Ytkcijlndblbidaa
