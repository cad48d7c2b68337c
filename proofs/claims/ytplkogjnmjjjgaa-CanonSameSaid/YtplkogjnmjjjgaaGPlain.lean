/- The walk of a graph, plain: the nodes met, in their order, each one's path's last step; where a number stands; a graph trimmed. -/
import Derived.Test.YtplkogjnmjjjgaaGCheck
namespace Go.Proofs.Ytplkogjnmjjjgaa
open Go.ChangeShapes Go.WideShapes Go.ChangeAt Go.RowKit
set_option linter.unusedVariables false

/-- nodes met: which, from which place, by which step -/
structure Mt where
  al : List Int
  fr : List Int
  st : List Int
def meetM (S : Mt) (k f s : Int) : Mt := if k < 0 ∨ k ∈ S.al then S else ⟨S.al ++ [k], S.fr ++ [f], S.st ++ [s]⟩
def meetL (f : Int) : List Int → Nat → Mt → Mt
  | [], _, S => S
  | k :: l, i, S => meetL f l (i + 1) (meetM S k f i)
theorem meetL_step (f : Int) (l : List Int) (j i : Nat) (S : Mt) (h : i < l.length) : meetL f (l.drop i) (j + i) S = meetL f (l.drop (i + 1)) (j + (i + 1)) (meetM S (l.getD i 0) f ((j + i : Nat) : Int)) := by
  rw [List.drop_eq_getElem_cons h, meetL, List.getD_eq_getElem?_getD, List.getElem?_eq_getElem h]
  rfl
theorem meetL_end (f : Int) (l : List Int) (j : Nat) (S : Mt) : meetL f (l.drop l.length) j S = S := by rw [List.drop_length]; rfl
def psAt (ns : List Nd) (k : Int) : List Int := (ns.getD k.toNat default).ps
def walkL (ns : List Nd) : Nat → Nat → Mt → Mt
  | 0, _, S => S
  | fuel + 1, i, S => if i < S.al.length then walkL ns fuel (i + 1) (meetL (i : Int) (psAt ns (S.al.getD i 0)) 0 S) else S
def walkG (g : Gr) : Mt := walkL g.ns (g.ns.length + 1) 0 (meetL (-1) g.rs 0 ⟨[], [], []⟩)
/-- what is always so of the nodes met -/
structure MOk (N : Nat) (S : Mt) : Prop where
  nd : S.al.Nodup
  lt : ∀ k ∈ S.al, 0 ≤ k ∧ k < N
  fr : S.fr.length = S.al.length
  st : S.st.length = S.al.length
theorem MOk.empty (N : Nat) : MOk N ⟨[], [], []⟩ := ⟨by simp, by simp, rfl, rfl⟩
theorem MOk.meet {N : Nat} {S : Mt} (h : MOk N S) {k f s : Int} (hk : inr N k = true) : MOk N (meetM S k f s) := by
  unfold meetM
  split
  · exact h
  · rename_i hn
    rw [not_or] at hn
    unfold inr at hk
    have hk := of_decide_eq_true hk
    refine ⟨?_, fun y hy => ?_, by simp [h.fr], by simp [h.st]⟩
    · show (S.al ++ [k]).Nodup
      rw [List.nodup_append]
      exact ⟨h.nd, by simp, fun a ha b hb => by simp at hb; subst hb; intro e; exact hn.2 (e ▸ ha)⟩
    · have hy : y ∈ S.al ++ [k] := hy
      simp only [List.mem_append, List.mem_singleton] at hy
      rcases hy with hy | rfl
      · exact h.lt y hy
      · omega
theorem MOk.meetL {N : Nat} {f : Int} (l : List Int) : ∀ {S : Mt} (i : Nat), MOk N S → (∀ k ∈ l, inr N k = true) → MOk N (meetL f l i S) := by
  induction l with
  | nil => intro S i h _; exact h
  | cons k l ih => intro S i h hl; exact ih (i + 1) (h.meet (hl k (List.mem_cons_self ..))) fun y hy => hl y (List.mem_cons_of_mem _ hy)
theorem nodup_range_len : ∀ {N : Nat} {l : List Int}, l.Nodup → (∀ k ∈ l, 0 ≤ k ∧ k < (N : Int)) → l.length ≤ N := by
  intro N
  induction N with
  | zero =>
    intro l hd hl
    cases l with
    | nil => simp
    | cons k l => have := hl k (List.mem_cons_self ..); omega
  | succ N ih =>
    intro l hd hl
    by_cases hm : (N : Int) ∈ l
    · have h1 := ih (l := l.erase (N : Int)) (hd.erase _) (fun k hk => by
        have h2 := hl k (List.mem_of_mem_erase hk)
        have h3 : k ≠ (N : Int) := fun e => by subst e; exact hd.not_mem_erase hk
        omega)
      rw [List.length_erase_of_mem hm] at h1
      omega
    · have h1 := ih hd (fun k hk => by
        have h2 := hl k hk
        have h3 : k ≠ (N : Int) := fun e => hm (e ▸ hk)
        omega)
      omega
theorem MOk.len {N : Nat} {S : Mt} (h : MOk N S) : S.al.length ≤ N := nodup_range_len h.nd h.lt
theorem mayG_roots {g : Gr} (h : mayG g = true) : ∀ k ∈ g.rs, inr g.ns.length k = true := by
  unfold mayG at h
  rw [Bool.and_eq_true, List.all_eq_true] at h
  exact h.1
theorem mayG_ps {g : Gr} (h : mayG g = true) (k : Int) : ∀ q ∈ psAt g.ns k, inr g.ns.length q = true := by
  intro q hq
  unfold psAt at hq
  unfold mayG at h
  rw [Bool.and_eq_true, List.all_eq_true, List.all_eq_true] at h
  by_cases hk : k.toNat < g.ns.length
  · have hx : g.ns.getD k.toNat default ∈ g.ns := by rw [List.getD_eq_getElem?_getD, List.getElem?_eq_getElem hk]; exact List.getElem_mem hk
    have := h.2 _ hx
    unfold mayN at this
    rw [Bool.and_eq_true, List.all_eq_true] at this
    exact this.2 q hq
  · rw [List.getD_eq_getElem?_getD, List.getElem?_eq_none (by omega)] at hq
    exact absurd hq (by show ¬ q ∈ ([] : List Int); simp)
/-- where a number stands in a row; -1: it does not -/
def posP (l : List Int) (k : Int) : Int := if k ∈ l then (l.idxOf k : Int) else -1
def trimG (g : Gr) : Gr := ⟨g.rs.map (posP (walkG g).al), (walkG g).al.map fun k => ⟨(psAt g.ns k).map (posP (walkG g).al), (g.ns.getD k.toNat default).fs, (g.ns.getD k.toNat default).ws⟩⟩
end Go.Proofs.Ytplkogjnmjjjgaa
