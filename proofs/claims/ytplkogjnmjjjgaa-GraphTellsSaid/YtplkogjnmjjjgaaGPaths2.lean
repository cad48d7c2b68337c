/- A row of paths in the world: each slot a row of the call's own, or nil. -/
import Derived.Test.YtplkogjnmjjjgaaGPaths1
import Derived.Test.YtplkogjnmjjjgaaGPtd2
namespace Go.Proofs.Ytplkogjnmjjjgaa
open Go.ChangeShapes Go.WideShapes Go.ChangeAt Go.RowKit Go.Maps
set_option linter.unusedVariables false
set_option linter.unusedSimpArgs false

/-- the slots of a row of paths; blocks among G -/
def PsV (base : Nat) (P : List (List Int)) (xs : List Value) (G : List (Nat × Obj)) : Prop :=
  xs.length = P.length ∧ ∀ n, n < P.length → ∃ (a : Option Addr) (cap : Nat) (R : List (Nat × Obj)), xs[n]? = some (.slice a (P.getD n []).length cap) ∧ Rw base 3 1 (P.getD n []).length (icI (P.getD n [])) a cap R ∧ (∀ x ∈ R, x ∈ G) ∧ (P.getD n [] = [] → a = none ∧ cap = 0) ∧ (P.getD n [] ≠ [] → ∃ b, a = some ⟨b, 0, none⟩)
theorem PsV.nil (base N : Nat) : PsV base (List.replicate N []) (List.replicate N (.slice none 0 0)) [] := by
  refine ⟨by simp, fun n hn => ⟨none, 0, [], ?_, ?_, fun x hx => (by cases hx), fun _ => ⟨rfl, rfl⟩, fun h => absurd ?_ h⟩⟩
  · rw [List.length_replicate] at hn
    rw [List.getElem?_replicate, if_pos hn, List.getD_eq_getElem?_getD, List.getElem?_replicate, if_pos hn]
    rfl
  · rw [List.length_replicate] at hn
    rw [List.getD_eq_getElem?_getD, List.getElem?_replicate, if_pos hn]
    exact Rw.nil _ _ _
  · rw [List.length_replicate] at hn
    rw [List.getD_eq_getElem?_getD, List.getElem?_replicate, if_pos hn]
    rfl
theorem Rw.some {base k : Nat} {xs : List Value} {a : Option Addr} {cap : Nat} {R : List (Nat × Obj)} (r : Rw base 3 1 k xs a cap R) (h : 0 < k) : ∃ b, a = some ⟨b, 0, none⟩ := by
  rcases r with ⟨rfl, rfl, rfl, rfl, rfl⟩ | ⟨b, cur, rfl, h2, h3, h4, h5, h6, h7, rfl⟩
  · omega
  · exact ⟨b, rfl⟩
theorem PsV.set {base : Nat} {P : List (List Int)} {xs : List Value} {G G' : List (Nat × Obj)} (h : PsV base P xs G) {p : Nat} {l : List Int} (hp : p < P.length) (hl : l ≠ []) {a : Option Addr} {cap : Nat} {R : List (Nat × Obj)} (r : Rw base 3 1 l.length (icI l) a cap R) (hR : ∀ x ∈ R, x ∈ G') (hG : ∀ x ∈ G, x ∈ G') : PsV base (P.set p l) (xs.set p (.slice a l.length cap)) G' := by
  refine ⟨by simp [h.1], fun n hn => ?_⟩
  rw [List.length_set] at hn
  by_cases e : p = n
  · subst e
    rw [getD_set_eq hp]
    exact ⟨a, cap, R, List.getElem?_set_self (by rw [h.1]; exact hp), r, hR, fun e => absurd e hl, fun _ => r.some (List.length_pos_iff.2 hl)⟩
  · rw [getD_set_ne e]
    obtain ⟨a', cap', R', h1, h2, h3, h4⟩ := h.2 n hn
    exact ⟨a', cap', R', by rw [List.getElem?_set_ne e]; exact h1, h2, fun x hx => hG x (h3 x hx), h4⟩
/-- the row, and what else is there -/
def PsW (W0 : World) (pb : Nat) (K : List (Nat × Obj)) (P : List (List Int)) (w : World) : Prop :=
  ∃ (xs : List Value) (G : List (Nat × Obj)), PsV W0.heap.size P xs G ∧ FKN W0 ((pb, .cells xs.toArray 22 (0, 0)) :: (G ++ K)) w
theorem PsW.grow {W0 w w' : World} {pb : Nat} {K : List (Nat × Obj)} {P : List (List Int)} (h : PsW W0 pb K P w) (c : Below w.heap.size w w') : PsW W0 pb K P w' := by
  obtain ⟨xs, G, h1, h2⟩ := h
  exact ⟨xs, G, h1, h2.grow c⟩
theorem PsW.inK {W0 w : World} {pb : Nat} {K : List (Nat × Obj)} {P : List (List Int)} (h : PsW W0 pb K P w) : KB W0 K w := by
  obtain ⟨xs, G, h1, h2⟩ := h
  exact ⟨h2.1.1, fun x hx => h2.1.2 x (List.mem_cons_of_mem _ (List.mem_append_right _ hx))⟩
end Go.Proofs.Ytplkogjnmjjjgaa
