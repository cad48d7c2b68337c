/- A Work's own blocks as blocks that stay, while other blocks change. -/
import Derived.Test.YtkcijlndblbidaaTOthers1
import Derived.Test.YtkcijlndblbidaaTRows
namespace Go.Proofs.Ytkcijlndblbidaa
open Go.ChangeShapes Go.WideShapes Go.ChangeAt Go.RowKit
set_option linter.unusedVariables false

section
variable {W0 w w' : World} {m wk n t : Nat} {g : Nat → Nat} {l : List (Nat × Nat)} {K : List (Nat × Obj)}
theorem TW.shut2 (h : TW W0 m wk n t g l K w) (hN : (K.map (·.1)).Nodup) (hB : ∀ x ∈ K, W0.heap.size ≤ x.1) : ∃ BK : List (Nat × Obj), FKN W0 m n t g (BK ++ K) w ∧ ∀ g' K' w', FKN W0 m n t g' (BK ++ K') w' → TW W0 m wk n t g' l K' w' := by
  obtain ⟨al, cp, S, v, h⟩ := h
  have hwk : ∀ x ∈ K, x.1 ≠ wk := fun x hx => (h.outk x hx).2.1
  rcases h.row.2 with ⟨e, h0⟩ | ⟨gb, c, cur, e, h1, h2, h3, h4, h5, h6⟩
  · refine ⟨[(wk, .cells #[.iface 26 (.pointer (some ⟨m, 0, none⟩)), .slice al l.length cp] 186 (0, 0))], ⟨⟨v, ⟨S, h.vm, h.upS, h.below, fun x hx => ?_⟩, h.words⟩, ?_, fun x hx => ?_⟩, fun g' K' w' hFN => ?_⟩
    · simp only [List.cons_append, List.nil_append, List.mem_cons] at hx
      rcases hx with rfl | hx
      · exact ⟨h.outw, h.head⟩
      · exact ⟨(h.outk x hx).1, (h.outk x hx).2.2⟩
    · show (wk :: K.map (·.1)).Nodup
      rw [List.nodup_cons]
      refine ⟨fun hm => ?_, hN⟩
      rw [List.mem_map] at hm
      obtain ⟨x, hx, e2⟩ := hm
      exact hwk x hx e2
    · simp only [List.cons_append, List.nil_append, List.mem_cons] at hx
      rcases hx with rfl | hx
      · exact h.low
      · exact hB x hx
    · have hap := hFN.apart (x := (wk, .cells #[.iface 26 (.pointer (some ⟨m, 0, none⟩)), .slice al l.length cp] 186 (0, 0))) (K := K')
      obtain ⟨v', ⟨S', f1, f2, f3, f4⟩, hv'⟩ := hFN.1
      simp at e
      obtain ⟨e1, e2, e3⟩ := e
      refine ⟨al, cp, S', v', f1, hv', (f4 (wk, _) (by simp)).2, ⟨h.row.1, .inl ⟨by rw [e1, e3, h0], h0⟩⟩, f2, f3, (f4 (wk, _) (List.mem_cons_self ..)).1, h.low, fun ad ea => (by rw [e1] at ea; cases ea), fun x hx => ⟨(f4 x (List.mem_append_right _ hx)).1, hap x hx, (f4 x (List.mem_append_right _ hx)).2⟩, h.small⟩
  · simp at e
    obtain ⟨ea, ec⟩ := e
    obtain ⟨hg1, hg2⟩ := h.outr _ ea
    have hgw : gb ≠ wk := fun e => by
      have := h.head
      rw [← e, h2] at this
      simp at this
    refine ⟨[(wk, .cells #[.iface 26 (.pointer (some ⟨m, 0, none⟩)), .slice al l.length cp] 186 (0, 0)), (gb, .cells cur 190 (0, 0))], ⟨⟨v, ⟨S, h.vm, h.upS, h.below, fun x hx => ?_⟩, h.words⟩, ?_, fun x hx => ?_⟩, fun g' K' w' hFN => ?_⟩
    · simp only [List.cons_append, List.nil_append, List.mem_cons] at hx
      rcases hx with rfl | rfl | hx
      · exact ⟨h.outw, h.head⟩
      · exact ⟨hg1, h2⟩
      · exact ⟨(h.outk x hx).1, (h.outk x hx).2.2⟩
    · show (wk :: gb :: K.map (·.1)).Nodup
      rw [List.nodup_cons, List.nodup_cons]
      refine ⟨fun hm => ?_, fun hm => ?_, hN⟩
      · simp only [List.mem_cons, List.mem_map] at hm
        rcases hm with e2 | ⟨x, hx, e2⟩
        · exact hgw e2.symm
        · exact hwk x hx e2
      · rw [List.mem_map] at hm
        obtain ⟨x, hx, e2⟩ := hm
        exact hg2 x hx e2
    · simp only [List.cons_append, List.nil_append, List.mem_cons] at hx
      rcases hx with rfl | rfl | hx
      · exact h.low
      · exact h1
      · exact hB x hx
    · have hap : ∀ x ∈ K', x.1 ≠ wk := fun x hx => hFN.apart (x := (wk, _)) x (List.mem_cons_of_mem _ hx)
      have hap2 : ∀ x ∈ K', x.1 ≠ gb := fun x hx => (FKN.tail (x := (wk, _)) hFN).apart (x := (gb, _)) x hx
      obtain ⟨v', ⟨S', f1, f2, f3, f4⟩, hv'⟩ := hFN.1
      refine ⟨al, cp, S', v', f1, hv', (f4 (wk, _) (by simp)).2, ⟨h.row.1, .inr ⟨gb, c, cur, by rw [ea, ec], h1, (f4 (gb, _) (by simp)).2, h3, h4, h5, h6⟩⟩, f2, f3, (f4 (wk, _) (List.mem_cons_self ..)).1, h.low, fun ad e2 => ?_, fun x hx => ⟨(f4 x (List.mem_append_right _ hx)).1, hap x hx, (f4 x (List.mem_append_right _ hx)).2⟩, h.small⟩
      rw [ea] at e2
      cases e2
      exact ⟨(f4 (gb, .cells cur 190 (0, 0)) (by simp)).1, hap2⟩
end
end Go.Proofs.Ytkcijlndblbidaa
