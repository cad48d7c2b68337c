/- Layer 18: Pointers and Whole. -/
import Derived.Test.YtkcijlndblbidaaWPtr
namespace Go.Proofs.Ytkcijlndblbidaa
open Go.ChangeShapes Go.WideShapes Go.ChangeAt Go.RowKit
set_option linter.unusedVariables false

/-- the pointers of a run -/
def PR (n : Nat) (g : Nat → Nat) (base top : Int) : List Nat × Int := if (allR n g base top).2 = 0 then ptR n g (allR n g base top).1 else ([], (allR n g base top).2)
theorem allF_a (n : Nat) (g : Nat → Nat) (top a : Int) : ∀ x ∈ (allF n g top a).1, 0 < x.a ∧ x.a < n := by
  induction a using allF.induct (n := n) (g := g) (top := top) with
  | case1 a hlt h hs => rw [allF, if_pos hlt, dif_pos h, if_pos hs]; intro x hx; cases hx
  | case2 a hlt h hs ih =>
    rw [allF, if_pos hlt, dif_pos h, if_neg hs]
    unfold cat
    split
    · intro x hx
      simp only [List.mem_append, List.mem_singleton] at hx
      rcases hx with rfl | hx
      · have := rdE_zero h
        exact ⟨this.1, this.2.1⟩
      · exact ih x hx
    · intro x hx; cases hx
  | case3 a hlt h => rw [allF, if_pos hlt, dif_neg h]; intro x hx; cases hx
  | case4 a hlt => rw [allF, if_neg hlt]; intro x hx; cases hx
theorem allR_a (n : Nat) (g : Nat → Nat) (base top : Int) : ∀ x ∈ (allR n g base top).1, 0 < x.a ∧ x.a < n := by
  by_cases hb : base < 1 ∨ top < base
  · have e : allR n g base top = ([], 5) := if_pos hb
    rw [e]
    intro x hx
    cases hx
  · have e : allR n g base top = allF n g top base := if_neg hb
    rw [e]
    exact allF_a n g top base
theorem ptO_lt (n : Nat) (g : Nat → Nat) (a : Int) (r i : Nat) : ∀ v ∈ (ptO n g a r i).1, 0 < v ∧ v < 2147483648 := by
  induction r generalizing i with
  | zero => intro v hv; cases hv
  | succ r ih =>
    rw [ptO]
    split
    · unfold catN
      split
      · intro v hv
        simp only [List.mem_append] at hv
        rcases hv with hv | hv
        · split at hv
          · cases hv
          · simp at hv
            subst hv
            rename_i h0
            exact ⟨by omega, ptV_lt n g a i⟩
        · exact ih _ v hv
      · intro v hv; cases hv
    · intro v hv; cases hv
theorem ptR_lt (n : Nat) (g : Nat → Nat) (l : List Fnd) : ∀ v ∈ (ptR n g l).1, 0 < v ∧ v < 2147483648 := by
  induction l with
  | nil => intro v hv; cases hv
  | cons x l ih =>
    rw [ptR]
    unfold seqN
    split
    · unfold catN
      split
      · intro v hv
        simp only [List.mem_append] at hv
        rcases hv with hv | hv
        · exact ptO_lt n g x.a x.p 0 v hv
        · exact ih v hv
      · intro v hv; cases hv
    · intro v hv; cases hv
theorem ptO_len (n : Nat) (g : Nat → Nat) (a : Int) (r i : Nat) : (ptO n g a r i).1.length ≤ r := by
  induction r generalizing i with
  | zero => simp [ptO]
  | succ r ih =>
    have := ih (i + 1)
    rw [ptO]
    split
    · unfold catN
      split
      · simp only [List.length_append]
        split
        · simp; omega
        · simp; omega
      · simp
    · simp
theorem ptR_len (n : Nat) (g : Nat → Nat) (l : List Fnd) (hp : ∀ x ∈ l, x.p ≤ 255) : (ptR n g l).1.length ≤ 255 * l.length := by
  induction l with
  | nil => simp [ptR]
  | cons x l ih =>
    have h1 := ih (fun y hy => hp y (List.mem_cons_of_mem _ hy))
    have h2 := ptO_len n g x.a x.p 0
    have h3 := hp x (List.mem_cons_self ..)
    rw [ptR]
    unfold seqN
    split
    · unfold catN
      split
      · simp only [List.length_append, List.length_cons]
        omega
      · simp
    · simp
section
variable {W0 w w' : World} {m n t : Nat} {g : Nat → Nat} {K K' : List (Nat × Obj)} {ty : TypeId} {sz k : Nat} {xs : List Value} {al : Option Addr} {cap : Nat}
theorem GR.adopt {X : Nat} {o : Obj} (h : GR W0 m n t g K ty sz k xs al cap w) (c : Below w.heap.size w w') (hX : w.heap.size ≤ X) (ho : w'.heap[X]? = some o) : GR W0 m n t g ((X, o) :: K) ty sz k xs al cap w' := by
  rcases h with ⟨h1, h2, h3, h4, h⟩ | ⟨b, cur, h1, h2, h3, h4, h5, h6, h7, h8, h⟩
  · exact .inl ⟨h1, h2, h3, h4, h.adopt c hX ho⟩
  · have hlt := block_lt (h.block (List.mem_cons_self ..))
    refine .inr ⟨b, cur, h1, h2, fun x hx => ?_, h4, h5, h6, h7, h8, (h.adopt c hX ho).sub mem_swap2⟩
    simp only [List.mem_cons] at hx
    rcases hx with rfl | hx
    · simp only []; omega
    · exact h3 x hx
theorem GR.swapK {B : Nat} {o o' : Obj} (h : GR W0 m n t g ((B, o) :: K) ty sz k xs al cap w) (hB : W0.heap.size ≤ B) (hK : ∀ x ∈ K, x.1 ≠ B) (c : Chg (fun q => q = B) w w') (ho : w'.heap[B]? = some o') : GR W0 m n t g ((B, o') :: K) ty sz k xs al cap w' := by
  rcases h with ⟨h1, h2, h3, h4, h⟩ | ⟨b, cur, h1, h2, h3, h4, h5, h6, h7, h8, h⟩
  · exact .inl ⟨h1, h2, h3, h4, h.swap hB hK c (.inl rfl) ho⟩
  · have hne := h3 (B, o) (List.mem_cons_self ..)
    have hs := (h.sub mem_swap2).swap hB (fun x hx => by
      simp only [List.mem_cons] at hx
      rcases hx with rfl | hx
      · exact fun e => hne e.symm
      · exact hK x hx) c (.inl rfl) ho
    refine .inr ⟨b, cur, h1, h2, fun x hx => ?_, h4, h5, h6, h7, h8, hs.sub mem_swap2⟩
    simp only [List.mem_cons] at hx
    rcases hx with rfl | hx
    · exact hne
    · exact h3 x (List.mem_cons_of_mem _ hx)
/-- a run of elements appended, out of cells that lie elsewhere -/
theorem GR.pushN (h : GR W0 m n t g K ty sz k xs al cap w) {news : List Value} {j g5 cap5 : Nat} {w5 : World}
    (hown : w5.ownsRow W0.heap.size ty sz (.slice (some ⟨g5, 0, Option.none⟩) (k + j) cap5) (k + j) (xs ++ news))
    (hgrow : w.grownBy w5 (Value.slice al k cap).ownBlock) (hat : (Value.slice al k cap).ownBlock = some g5 ∨ g5 = w.heap.size) :
    GR W0 m n t g K ty sz (k + j) (xs ++ news) (some ⟨g5, 0, Option.none⟩) cap5 w5 := by
  have hsz : w.heap.size ≤ w5.heap.size := hgrow.size
  have hlen := hown.1
  rcases hown.2 with ⟨e, _⟩ | ⟨gb, c, cur5, e, b1, b2, b3, b4, b5, b6⟩
  · cases e
  simp at e
  obtain ⟨rfl, rfl⟩ := e
  have old : ∀ q, q < w.heap.size → some q ≠ (Value.slice al k cap).ownBlock → w5.heap[q]? = w.heap[q]? := fun q hq hn => hgrow.block q hq hn
  rcases h with ⟨rfl, rfl, rfl, rfl, h⟩ | ⟨b, cur, rfl, h2, h3, h4, h5, h6, h7, h8, h⟩
  · have c : Below w.heap.size w w5 := ⟨hgrow.os, hgrow.tape, hgrow.output, by omega, fun q hq => old q hq (by simp [Value.ownBlock])⟩
    have hg5 : w.heap.size ≤ g5 := by
      rcases hat with e | e
      · simp [Value.ownBlock] at e
      · omega
    refine .inr ⟨g5, cur5, rfl, b1, fun x hx => ?_, b3, b4, b5, b6, hlen, h.adopt c hg5 b2⟩
    have := h.old x hx
    omega
  · have c : Chg (fun q => q = b) w w5 := ⟨hgrow.os, hgrow.tape, hgrow.output, by omega, fun q hq hn => old q hq (fun e => hn (by simpa [Value.ownBlock] using e))⟩
    have hg5 : g5 = b ∨ w.heap.size ≤ g5 := by
      rcases hat with e | e
      · left
        simpa [Value.ownBlock] using e.symm
      · right
        omega
    refine .inr ⟨g5, cur5, rfl, b1, fun x hx => ?_, b3, b4, b5, b6, hlen, h.swap h2 h3 c hg5 b2⟩
    rcases hg5 with rfl | e
    · exact h3 x hx
    · have := h.old x (List.mem_cons_of_mem _ hx)
      omega
set_option maxRecDepth 100000 in
theorem pointers_fk (h : FK W0 m n t g K w) (hg : Small n g) (base top : Int) (h3 : top ≤ 9223372036854775807) :
    Calls Try.prog 93 #[spc m, .int .i64 base, .int .i64 top] w fun e w' => ∃ al cap, e = .returned (.tuple #[.slice al (PR n g base top).1.length cap, .int .i64 (PR n g base top).2]) ∧ GR W0 m n t g K 3 1 (PR n g base top).1.length (icl (PR n g base top).1) al cap w' := by
  have hn := h.dims
  have HA := Lib.hid (all_fk h hg base top h3)
  obtain ⟨f1, f2, f3⟩ := allR_facts n g base top
  obtain ⟨R, hR⟩ : ∃ R, PR n g base top = R := ⟨_, rfl⟩
  rw [hR]
  unfold PR at hR
  unfold spc at *
  generalize allR n g base top = A at *
  obtain ⟨l, er⟩ := A
  simp only at *
  have HPt := Lib.hid (fun K W D al cap (hF : FK W0 m n t g K W) (hk : Kept W0 m n D al (fcells l)) (hD : ∀ x ∈ D, x ∈ K) => ptrs_fk hF hg hk hD (by omega) f1 cap)
  have HR := Lib.hid hR
  clear h hR
  by_cases h0 : er = 0
  · subst h0
    clear f3
    have HR2 := Lib.hid (HR.out.symm.trans (if_pos rfl))
    unfold spc at HPt
    go_enter Try.func93, Try.ntmps93
    go_wp2_with (first
      | (go_at_call 90; refine HA.out.mono ?_; rintro e w1 ⟨al, cap, rfl, h1⟩; obtain ⟨D, hF, hk⟩ := h1.kept; have HP2 := Lib.hid (HPt.out _ _ _ _ cap hF hk (fun x hx => List.mem_append_left _ hx)); clear h1 hF hk)
      | (go_at_call 141; refine HP2.out.mono ?_; rintro e w2 ⟨al2, cap2, rfl, h2⟩; have H2 := Lib.hid (h2.sub fun x hx => List.mem_append_right _ hx); clear h2))
    go_ret2
    rw [HR2.out]
    exact ⟨_, _, rfl, H2.out⟩
  · obtain rfl : l = [] := by rcases f3 with h | h; exact absurd h h0; exact h
    have b1 : (er != 0) = true := by rw [bne_iff_ne]; exact h0
    have HR2 := Lib.hid (HR.out.symm.trans (if_neg h0))
    clear HPt f3 h0 f1 f2
    go_enter Try.func93, Try.ntmps93
    go_wp2_with (first
      | (go_at_call 90; refine HA.out.mono ?_; rintro e w1 ⟨al, cap, rfl, h1⟩; have H1 := Lib.hid h1.full; clear h1))
    go_ret2
    rw [HR2.out]
    exact ⟨none, 0, rfl, GR.none' H1.out _ _⟩
end
end Go.Proofs.Ytkcijlndblbidaa
