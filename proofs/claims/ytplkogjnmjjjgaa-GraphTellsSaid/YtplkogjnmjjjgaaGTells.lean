/- The walk of GraphTells. -/
import Derived.Test.YtplkogjnmjjjgaaGPaths5
import Derived.Test.YtplkogjnmjjjgaaGTurnW
import Derived.Test.YtplkogjnmjjjgaaGRWords
namespace Go.Proofs.Ytplkogjnmjjjgaa
open Go.ChangeShapes Go.WideShapes Go.ChangeAt Go.RowKit Go.Maps
set_option linter.unusedVariables false
set_option linter.unusedSimpArgs false

def fltN (x : Nd) (l : Nat) (z : Int) : Nd := ⟨x.ps, x.fs.set l z, x.ws⟩
/-- a float of a node of an own graph: its block, and what it is once the float is another one -/
theorem NsB.flt {base : Nat} {ns : List Nd} {xs : List Value} {R : List (Nat × Obj)} (h : NsB base ns xs R) {j l : Nat} (hj : j < ns.length) (hw : l < (ns.getD j default).fs.length) :
    ∃ (bf : Nat) (cur : Array Value) (A C : List (Nat × Obj)) (cf : Nat), R = A ++ (bf, Obj.cells cur 48 (0, 0)) :: C ∧ xs[j * 3 + 1]? = some (.slice (some ⟨bf, 0, none⟩) (ns.getD j default).fs.length cf) ∧ cur[l]? = some (.int .u64 ((ns.getD j default).fs.getD l 0)) ∧
      ∀ z, NsB base (ns.set j (fltN (ns.getD j default) l z)) xs (A ++ (bf, Obj.cells (cur.setIfInBounds l (.int .u64 z)) 48 (0, 0)) :: C) := by
  induction h with
  | nil => cases hj
  | @snoc ns xs R x ap af aw cp cf cw Rp Rf Rx h hp hf hx ih =>
    have hlen := h.len
    by_cases hlt : j < ns.length
    · have e : (ns ++ [x]).getD j default = ns.getD j default := by
        rw [List.getD_eq_getElem?_getD, List.getD_eq_getElem?_getD, List.getElem?_append_left hlt]
      rw [e] at hw ⊢
      obtain ⟨bw, cur, A, C, cw', rfl, h2, h3, h4⟩ := ih hlt hw
      refine ⟨bw, cur, Rp ++ (Rf ++ (Rx ++ A)), C, cw', by simp, by rw [List.getElem?_append_left (by omega)]; exact h2, h3, fun z => ?_⟩
      have := NsB.snoc (h4 z) hp hf hx
      rw [List.set_append_left _ _ hlt]
      simpa using this
    · obtain rfl : j = ns.length := by
        rw [List.length_append] at hj
        simp at hj
        omega
      have e : (ns ++ [x]).getD ns.length default = x := by
        rw [List.getD_eq_getElem?_getD, List.getElem?_append_right (Nat.le_refl _)]
        simp
      rw [e] at hw ⊢
      rcases hf with ⟨-, h0, -⟩ | ⟨b, cur, rfl, h2, h3, h4, h5, h6, h7, rfl⟩
      · omega
      · rw [Nat.mul_one] at h6 h5
        refine ⟨b, cur, Rp, Rx ++ R, cf, by simp, by rw [List.getElem?_append_right (by omega), hlen, Nat.add_sub_cancel_left]; rfl, ?_, fun z => ?_⟩
        · have := icU_get x.fs l hw
          rw [← h6, List.getElem?_take_of_lt hw] at this
          simpa using this
        · rw [List.set_append_right _ _ (Nat.le_refl _), Nat.sub_self, List.set_cons_zero]
          have hl : (fltN x l z).fs.length = x.fs.length := by simp [fltN]
          have hn : Rw base 48 1 (fltN x l z).fs.length (icU (fltN x l z).fs) (some ⟨b, 0, none⟩) cf [(b, .cells (cur.setIfInBounds l (.int .u64 z)) 48 (0, 0))] := by
            refine .inr ⟨b, _, rfl, h2, by simpa [fltN] using h3, h4, by simpa using h5, ?_, by simp [icU], rfl⟩
            rw [hl, Nat.mul_one, Array.toList_setIfInBounds, List.take_set, h6]
            simp [icU, fltN, List.map_set]
          have := NsB.snoc (x := fltN x l z) h hp hn hx
          rw [hl] at this
          have this2 : NsB base (ns ++ [fltN x l z]) (xs ++ [.slice ap x.ps.length cp, .slice (some ⟨b, 0, none⟩) x.fs.length cf, .slice aw x.ws.length cw]) (Rp ++ ([(b, Obj.cells (cur.setIfInBounds l (.int .u64 z)) 48 (0, 0))] ++ (Rx ++ R))) := this
          simpa using this2
theorem NsB.fcell {base : Nat} {ns : List Nd} {xs : List Value} {R : List (Nat × Obj)} (h : NsB base ns xs R) {j : Nat} (hj : j < ns.length) : ∃ af cf, xs[j * 3 + 1]? = some (.slice af (ns.getD j default).fs.length cf) := by
  induction h with
  | nil => cases hj
  | @snoc ns xs R x ap af aw cp cf cw Rp Rf Rx h hp hf hx ih =>
    have hlen := h.len
    by_cases hlt : j < ns.length
    · have e : (ns ++ [x]).getD j default = ns.getD j default := by
        rw [List.getD_eq_getElem?_getD, List.getD_eq_getElem?_getD, List.getElem?_append_left hlt]
      rw [e]
      obtain ⟨a, c, h1⟩ := ih hlt
      exact ⟨a, c, by rw [List.getElem?_append_left (by omega)]; exact h1⟩
    · obtain rfl : j = ns.length := by
        rw [List.length_append] at hj
        simp at hj
        omega
      have e : (ns ++ [x]).getD ns.length default = x := by
        rw [List.getD_eq_getElem?_getD, List.getElem?_append_right (Nat.le_refl _)]
        simp
      rw [e]
      exact ⟨af, cf, by rw [List.getElem?_append_right (by omega), hlen, Nat.add_sub_cancel_left]; rfl⟩
theorem flt_at {ns : List Nd} {j l i : Nat} {z : Int} : ((ns.set j (fltN (ns.getD j default) l z)).getD i default).fs.length = (ns.getD i default).fs.length := by
  by_cases e : j = i
  · subst e
    by_cases h : j < ns.length
    · rw [List.getD_eq_getElem?_getD, List.getElem?_set_self h]
      simp [fltN]
    · rw [List.set_eq_of_length_le (by omega)]
  · rw [List.getD_eq_getElem?_getD, List.getElem?_set_ne e, ← List.getD_eq_getElem?_getD]
theorem pathG_okI {g : Gr} (hf : FewG g) (hm : mayG g = true) (k : Int) : OkI (pathG g k) := by
  by_cases h : k ∈ (walkG g).al
  · exact ((pathG_is hm h).dig hf.rs (fun m => psAt_le hf m)).okI (by omega)
  · rw [pathG_nil h]
    intro i hi
    cases hi
theorem al_okI {g : Gr} (hf : FewG g) (hm : mayG g = true) : OkI (walkG g).al := okI_of (fun z hz => by
  have := (walkG_ok hm).lt z hz
  have := hf.ns
  unfold IsI
  omega)
theorem ptd_at {g : Gr} {i : Nat} (h : i < g.ns.length) : (ptdL g (walkG g).al.length).getD i 0 = (ptdG g (i : Int) : Int) := by
  rw [ptdL_at h, List.take_length]
  rfl
end Go.Proofs.Ytplkogjnmjjjgaa
