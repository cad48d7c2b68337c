/- Plain: what is read is a graph of few numbers that fit; what was written is read as it was; both sides' readers agree. -/
import Derived.Test.YtplkogjnmjjjgaaCPlain
namespace Go.Proofs.Ytplkogjnmjjjgaa
open Go.ChangeShapes Go.WideShapes Go.ChangeAt Go.RowKit
set_option linter.unusedVariables false
set_option linter.unusedSimpArgs false
open Wr.Wire

theorem manyP_all {α : Type} {one : Rs → α × Rs} {ok : α → Nat → Prop} (h : Eats one) (hm : ∀ a i j, i ≤ j → ok a i → ok a j) (h1 : ∀ s, ok (one s).1 s.1.length) : ∀ (n : Nat) (s : Rs), ∀ x ∈ (manyP one n s).1, ok x s.1.length
  | 0, s => by simp [manyP_zero]
  | n + 1, s => by
    by_cases h0 : s.2 = 0
    · rw [manyP_more h0]
      intro x hx
      rcases List.mem_cons.1 hx with rfl | hx
      · exact h1 s
      · exact hm _ _ _ (h s).1 (manyP_all h hm h1 n (one s).2 x hx)
    · rw [manyP_bad h0]
      intro x hx
      cases hx
theorem rowP_all {α : Type} {one : Rs → α × Rs} {ok : α → Nat → Prop} (h : Eats one) (hm : ∀ a i j, i ≤ j → ok a i → ok a j) (h1 : ∀ s, ok (one s).1 s.1.length) (s : Rs) : ∀ x ∈ (rowP one s).1, ok x s.1.length :=
  fun x hx => hm _ _ _ (numP_eats s).1 (manyP_all h hm h1 _ _ x hx)
theorem okU_of {l : List Int} (h : ∀ z ∈ l, 0 ≤ z ∧ z ≤ 18446744073709551615) : OkU l := fun i hi => WalkArith.wf_u64 (h _ (getD_mem 0 hi))
theorem intP_is (s : Rs) : IsI (intP s).1 := by
  have := numP_lt s
  unfold intP zag IsI
  dsimp only
  split <;> omega
theorem wrdP_is (s : Rs) : 0 ≤ (wrdP s).1 ∧ (wrdP s).1 ≤ 18446744073709551615 := by
  have := numP_lt s
  unfold wrdP
  dsimp only
  omega
theorem fltP_is (s : Rs) : 0 ≤ (fltP s).1 ∧ (fltP s).1 ≤ 18446744073709551615 := by
  have : (fixP s).1 < 18446744073709551616 := Wr.got_lt (readFix_lt s.1)
  unfold fltP
  dsimp only
  omega
theorem rowI_ok (s : Rs) : OkI (rowP intP s).1 := okI_of (rowP_all (ok := fun a _ => IsI a) intP_eats (fun _ _ _ _ h => h) intP_is s)
theorem rowF_ok (s : Rs) : OkU (rowP fltP s).1 := okU_of (rowP_all (ok := fun a _ => 0 ≤ a ∧ a ≤ 18446744073709551615) fltP_eats (fun _ _ _ _ h => h) fltP_is s)
theorem rowW_ok (s : Rs) : OkU (rowP wrdP s).1 := okU_of (rowP_all (ok := fun a _ => 0 ≤ a ∧ a ≤ 18446744073709551615) wrdP_eats (fun _ _ _ _ h => h) wrdP_is s)
theorem nodeP_ok (s : Rs) : OkN (nodeP s).1 := ⟨rowI_ok _, rowF_ok _, rowW_ok _⟩
theorem graphP_ok (s : Rs) : OkG (graphP s).1 := ⟨rowI_ok _, fun x hx => rowP_all (ok := fun a _ => OkN a) nodeP_eats (fun _ _ _ _ h => h) nodeP_ok _ x hx⟩
theorem graphP_few {s : Rs} (h : s.1.length ≤ 2500) : FewG (graphP s).1 := by
  have h1 := rowP_eat intP_eats s
  have h6 := rowP_eat nodeP_eats (rowP intP s).2
  refine ⟨by unfold graphP; dsimp only; omega, by unfold graphP; dsimp only; omega, fun x hx => ?_⟩
  have := rowP_all (ok := fun a i => szN a ≤ i + 1) nodeP_eats (fun _ _ _ _ h => by omega) (fun s => by have := nodeP_eat s; omega) _ x hx
  unfold szN at this
  omega
theorem graphP_len {s : Rs} (h : s.1.length ≤ 2500) (hm : mayG (graphP s).1 = true) : (graphB (trimG (graphP s).1)).length ≤ 900000 := by
  have h1 := trimB_len hm
  have h2 := graphP_tot s
  omega
/-- written and read back -/
theorem numP_num {n : Nat} (h : n < 18446744073709551616) (r : List UInt8) : numP (num n ++ r, 0) = (n, (r, 0)) := by
  rw [numP_ok rfl (by rw [Bk.readNum_num h r])]
  simp only [Bk.readNum_num h r, List.drop_left]
theorem intP_int {z : Int} (h : IsI z) (r : List UInt8) : intP (int z ++ r, 0) = (z, (r, 0)) := by
  have hz := Bk.zig_lt h.1 h.2
  unfold intP int
  rw [numP_num hz r, Bk.zag_zig h.1 h.2]
theorem wrdP_num {z : Int} (h : 0 ≤ z ∧ z ≤ 18446744073709551615) (r : List UInt8) : wrdP (num z.toNat ++ r, 0) = (z, (r, 0)) := by
  unfold wrdP
  rw [numP_num (by omega) r]
  simp only [Prod.mk.injEq, and_true]
  omega
theorem fltP_fix {z : Int} (h : 0 ≤ z ∧ z ≤ 18446744073709551615) (r : List UInt8) : fltP (fix z.toNat ++ r, 0) = (z, (r, 0)) := by
  have hr := Bk.readFix_fix (n := z.toNat) (by omega) r
  have hl : (fix z.toNat).length = 8 := fixF_length 8 _
  unfold fltP
  rw [fixP_ok rfl (by rw [hr])]
  simp only [hr, Prod.mk.injEq, and_true]
  refine ⟨by omega, ?_⟩
  rw [← hl, List.drop_left]
theorem manyP_back {α : Type} {one : Rs → α × Rs} {enc : α → List UInt8} {ok : α → Prop} (h : ∀ a, ok a → ∀ r, one (enc a ++ r, 0) = (a, (r, 0))) (r : List UInt8) : ∀ l : List α, (∀ a ∈ l, ok a) → manyP one l.length (l.flatMap enc ++ r, 0) = (l, (r, 0))
  | [], _ => rfl
  | a :: l, hl => by
    rw [List.length_cons, manyP_more rfl, List.flatMap_cons, List.append_assoc, h a (hl a (List.mem_cons_self ..)), manyP_back h r l fun x hx => hl x (List.mem_cons_of_mem _ hx)]
theorem rowP_back {α : Type} {one : Rs → α × Rs} {enc : α → List UInt8} {ok : α → Prop} (h : ∀ a, ok a → ∀ r, one (enc a ++ r, 0) = (a, (r, 0))) (r : List UInt8) (l : List α) (hl : ∀ a ∈ l, ok a) (hn : l.length < 18446744073709551616) : rowP one (num l.length ++ (l.flatMap enc ++ r), 0) = (l, (r, 0)) := by
  unfold rowP
  rw [numP_num hn]
  exact manyP_back h r l hl
theorem isI_of {l : List Int} (h : OkI l) : ∀ z ∈ l, IsI z := by
  intro z hz
  obtain ⟨j, hj, rfl⟩ := List.getElem_of_mem hz
  have h1 := h j hj
  rw [List.getD_eq_getElem?_getD, List.getElem?_eq_getElem hj] at h1
  have h2 := bounds_i64 h1
  unfold IsI
  simp only [Option.getD_some] at h2
  omega
theorem isU_of {l : List Int} (h : OkU l) : ∀ z ∈ l, 0 ≤ z ∧ z ≤ 18446744073709551615 := by
  intro z hz
  obtain ⟨j, hj, rfl⟩ := List.getElem_of_mem hz
  have h1 := h j hj
  rw [List.getD_eq_getElem?_getD, List.getElem?_eq_getElem hj] at h1
  exact bounds_u64 h1
def FewN (x : Nd) : Prop := x.ps.length ≤ 3000 ∧ x.fs.length ≤ 3000 ∧ x.ws.length ≤ 3000
theorem nodeP_back {x : Nd} (h : OkN x ∧ FewN x) (r : List UInt8) : nodeP (nodeB x ++ r, 0) = (x, (r, 0)) := by
  obtain ⟨h, f1, f2, f3⟩ := h
  have e1 := rowP_back (ok := IsI) (fun a ha r => intP_int ha r) ((fltsB x.fs ++ wrdsB x.ws) ++ r) x.ps (isI_of h.ps) (by omega)
  have e2 := rowP_back (one := fltP) (enc := fun z : Int => fix z.toNat) (ok := fun a => 0 ≤ a ∧ a ≤ 18446744073709551615) (fun a ha r => fltP_fix ha r) (wrdsB x.ws ++ r) x.fs (isU_of h.fs) (by omega)
  have e3 := rowP_back (one := wrdP) (enc := fun z : Int => num z.toNat) (ok := fun a => 0 ≤ a ∧ a ≤ 18446744073709551615) (fun a ha r => wrdP_num ha r) r x.ws (isU_of h.ws) (by omega)
  have e1' : rowP intP (nodeB x ++ r, 0) = (x.ps, ((fltsB x.fs ++ wrdsB x.ws) ++ r, 0)) := by
    rw [← e1]
    unfold nodeB intsB
    simp only [List.append_assoc]
  have e2' : rowP fltP ((fltsB x.fs ++ wrdsB x.ws) ++ r, 0) = (x.fs, (wrdsB x.ws ++ r, 0)) := by
    rw [← e2]
    unfold fltsB
    simp only [List.append_assoc]
  have e3' : rowP wrdP (wrdsB x.ws ++ r, 0) = (x.ws, (r, 0)) := by
    rw [← e3]
    unfold wrdsB
    simp only [List.append_assoc]
  unfold nodeP
  simp only [e1', e2', e3']
theorem graphP_back {g : Gr} (h : OkG g) (f : FewG g) (r : List UInt8) : graphP (graphB g ++ r, 0) = (g, (r, 0)) := by
  have f1 := f.rs
  have f2 := f.ns
  have e1 := rowP_back (ok := IsI) (fun a ha r => intP_int ha r) ((num g.ns.length ++ g.ns.flatMap nodeB) ++ r) g.rs (isI_of h.rs) (by omega)
  have e2 := rowP_back (ok := fun x => OkN x ∧ FewN x) (fun a ha r => nodeP_back ha r) r g.ns (fun x hx => ⟨h.ns x hx, f.each x hx⟩) (by omega)
  have e1' : rowP intP (graphB g ++ r, 0) = (g.rs, ((num g.ns.length ++ g.ns.flatMap nodeB) ++ r, 0)) := by
    rw [← e1]
    unfold graphB intsB
    simp only [List.append_assoc]
  have e2' : rowP nodeP ((num g.ns.length ++ g.ns.flatMap nodeB) ++ r, 0) = (g.ns, (r, 0)) := by
    rw [← e2]
    simp only [List.append_assoc]
  unfold graphP
  simp only [e1', e2']
theorem graphB_inj {g h : Gr} (hg : OkG g) (hh : OkG h) (fg : FewG g) (fh : FewG h) (e : graphB g = graphB h) : g = h := by
  have h1 := graphP_back hg fg []
  have h2 := graphP_back hh fh []
  rw [e] at h1
  rw [h1] at h2
  exact (Prod.mk.injEq .. ▸ h2).1
/-- the reference's reader -/
def graphR (s : Rs) : Gr × Rs := (⟨(rowR intP s).1, (manyP nodeR (numP (rowR intP s).2).1 (numP (rowR intP s).2).2).1⟩, (manyP nodeR (numP (rowR intP s).2).1 (numP (rowR intP s).2).2).2)
theorem nodeR_P (s : Rs) : (nodeR s).2 = (nodeP s).2 ∧ ((nodeP s).2.2 = 0 → (nodeR s).1 = (nodeP s).1) := by
  obtain ⟨a1, a2⟩ := rowR_P intP s
  obtain ⟨b1, b2⟩ := rowR_P fltP (rowP intP s).2
  unfold nodeR nodeP
  dsimp only
  rw [a1, b1]
  refine ⟨rfl, fun h => ?_⟩
  have hb : (rowP fltP (rowP intP s).2).2.2 = 0 := by
    by_cases e : (rowP fltP (rowP intP s).2).2.2 = 0
    · exact e
    · rw [rowP_bad e] at h
      exact absurd h e
  have ha : (rowP intP s).2.2 = 0 := by
    by_cases e : (rowP intP s).2.2 = 0
    · exact e
    · rw [rowP_bad e] at hb
      exact absurd hb e
  rw [a2 ha, b2 hb]
theorem manyP_nodeR : ∀ (n : Nat) (s : Rs), (manyP nodeR n s).2 = (manyP nodeP n s).2 ∧ ((manyP nodeP n s).2.2 = 0 → (manyP nodeR n s).1 = (manyP nodeP n s).1)
  | 0, s => ⟨rfl, fun _ => rfl⟩
  | n + 1, s => by
    by_cases h : s.2 = 0
    · obtain ⟨h1, h2⟩ := nodeR_P s
      rw [manyP_more h, manyP_more h, h1]
      obtain ⟨i1, i2⟩ := manyP_nodeR n (nodeP s).2
      refine ⟨i1, fun h0 => ?_⟩
      have hn : (nodeP s).2.2 = 0 := by
        by_cases e : (nodeP s).2.2 = 0
        · exact e
        · dsimp only at h0
          rw [manyP_bad e] at h0
          exact absurd h0 e
      rw [h2 hn, i2 h0]
    · rw [manyP_bad h, manyP_bad h]
      exact ⟨rfl, fun _ => rfl⟩
theorem graphR_P (s : Rs) : (graphR s).2 = (graphP s).2 ∧ ((graphP s).2.2 = 0 → (graphR s).1 = (graphP s).1) := by
  obtain ⟨a1, a2⟩ := rowR_P intP s
  obtain ⟨b1, b2⟩ := manyP_nodeR (numP (rowP intP s).2).1 (numP (rowP intP s).2).2
  refine ⟨?_, fun h => ?_⟩
  · unfold graphR graphP rowP
    dsimp only
    rw [a1]
    exact b1
  · have ha := graphP_note s h
    unfold graphR graphP
    dsimp only
    rw [a1, a2 ha]
    congr 1
    exact b2 h
end Go.Proofs.Ytplkogjnmjjjgaa
