/- A row of paths in the world: what is read, what an assignment makes of it; a new path beside it. -/
import Derived.Test.YtplkogjnmjjjgaaGPaths3
namespace Go.Proofs.Ytplkogjnmjjjgaa
open Go.ChangeShapes Go.WideShapes Go.ChangeAt Go.RowKit Go.Maps
set_option linter.unusedVariables false
set_option linter.unusedSimpArgs false

theorem slices_info : (Try.prog.info? 22).map (fun i => (i.zero, i.size, i.bytes)) = some (some (.slice none 0 0), 1, 24) := by kernel_rfl
theorem made_slices (n : Nat) : madeCells (Value.slice none 0 0).cells (n * 1) = (List.replicate n (Value.slice none 0 0)).toArray := by
  apply Array.toList_inj.1
  rw [Nat.mul_one]
  show (madeCells #[Value.slice none 0 0] n).toList = _
  rw [toList_madeCells_one]
theorem make_paths (n : Nat) (hn : n ≤ 100000) (W : World) : (Instr.makeSlice 88 (.int .i64 (n : Int)) (.int .i64 (n : Int))).run Try.prog W = .ok (.slice (some ⟨W.heap.size, 0, none⟩) n n) (W.alloc (.cells (List.replicate n (Value.slice none 0 0)).toArray 22)) := by
  obtain ⟨i0, hi, hz0, hz1, hz2⟩ := info_parts slices_info
  have h := run_make (P := Try.prog) W 88 22 i0 (.slice none 0 0) Try.underlying88 hi hz0 .i64 .i64 (n : Int) (n : Int) (by omega) (by omega) (by rw [hz2]; omega) (by omega)
  rw [hz1, Int.toNat_natCast, made_slices] at h
  exact h
/-- numbers of paths are such of int -/
theorem Dig.okI {B : Nat} {l : List Int} (h : Dig B l) (hB : B ≤ 100000) : OkI l := by
  intro i hi
  have := h (l.getD i 0) (getD_mem 0 hi)
  refine WalkArith.wf_i64 ⟨?_, ?_⟩ <;> omega
/-- all paths of a row have numbers below B and at most M of them -/
def Small (B M : Nat) (P : List (List Int)) : Prop := ∀ n, n < P.length → Dig B (P.getD n []) ∧ (P.getD n []).length ≤ M
theorem PInv.small {g : Gr} {P : List (List Int)} (h : PInv g P) (hf : FewG g) : Small 1500 100 P := by
  intro n hn
  refine ⟨?_, ?_⟩
  · by_cases e : P.getD n [] = []
    · rw [e]; exact fun x hx => by cases hx
    · exact (h.path n hn e).dig hf.rs (fun m => psAt_le hf m)
  · have h1 := h.cnt n hn
    have h2 := cntP_le P
    have h3 := h.len
    have h4 := hf.ns
    omega
section
variable {W0 w w' : World} {pb : Nat} {K : List (Nat × Obj)} {P : List (List Int)} {n : Nat}
theorem PsW.made (h : FKN W0 K w) (N : Nat) : PsW W0 w.heap.size K (List.replicate N []) (w.alloc (.cells (List.replicate N (Value.slice none 0 0)).toArray 22)) :=
  ⟨List.replicate N (.slice none 0 0), [], PsV.nil _ N, h.box _ _⟩
theorem PsW.nil_at (h : PsW W0 pb K P w) (hn : n < P.length) (he : P.getD n [] = []) : w.cell? ⟨pb, n, none⟩ = some (.slice none 0 0) := by
  obtain ⟨xs, G, h1, h2⟩ := h
  obtain ⟨a, cap, R, hx, hr, hR, hnil, -⟩ := h1.2 n hn
  obtain ⟨rfl, rfl⟩ := hnil he
  rw [he] at hx
  exact at_cell (h2.1.block (List.mem_cons_self ..)) n _ (by simpa using hx)
theorem PsW.some_at (h : PsW W0 pb K P w) (hn : n < P.length) (he : P.getD n [] ≠ []) (hok : OkI (P.getD n [])) : ∃ b cap, w.cell? ⟨pb, n, none⟩ = some (.slice (some ⟨b, 0, none⟩) (P.getD n []).length cap) ∧ IntRow .i64 w (some ⟨b, 0, none⟩) (P.getD n []) := by
  obtain ⟨xs, G, h1, h2⟩ := h
  obtain ⟨a, cap, R, hx, hr, hR, -, hso⟩ := h1.2 n hn
  obtain ⟨b, rfl⟩ := hso he
  exact ⟨b, cap, at_cell (h2.1.block (List.mem_cons_self ..)) n _ (by simpa using hx), hr.introw h2.1 (fun x hx => List.mem_cons_of_mem _ (List.mem_append_left _ (hR x hx))) hok⟩
theorem PsW.free (h : PsW W0 pb K P w) (n : Nat) : w.frozen? ⟨pb, n, none⟩ = false := by
  obtain ⟨xs, G, h1, h2⟩ := h
  exact at_free (h2.1.block (List.mem_cons_self ..)) n
/-- a path of one step laid and put into the row -/
theorem PsW.put1 (h : PsW W0 pb K P w) (hn : n < P.length) (z : Int) : PsW W0 pb K (P.set n [z]) ((w.alloc (.cells #[.int .i64 z] 3)).setCell ⟨pb, n, none⟩ (.slice (some ⟨w.heap.size, 0, none⟩) 1 1)) := by
  obtain ⟨xs, G, h1, h2⟩ := h
  have hb := h2.box #[.int .i64 z] 3
  have hb2 := hb.perm (K' := (pb, .cells xs.toArray 22 (0, 0)) :: ((w.heap.size, .cells #[.int .i64 z] 3 (0, 0)) :: (G ++ K))) (List.Perm.swap _ _ _)
  have hs := hb2.set n (.slice (some ⟨w.heap.size, 0, none⟩) 1 1)
  refine ⟨xs.set n (.slice (some ⟨w.heap.size, 0, none⟩) 1 1), (w.heap.size, .cells #[.int .i64 z] 3 (0, 0)) :: G, ?_, by simpa using hs⟩
  exact h1.set (l := [z]) hn (by simp) (R := [(w.heap.size, .cells #[.int .i64 z] 3 (0, 0))]) (.inr ⟨w.heap.size, #[.int .i64 z], rfl, h2.1.below.size, by simp, by unfold maxLen; simp, by simp, by simp [icI], by simp [icI], rfl⟩) (fun x hx => by simp at hx; rw [hx]; exact List.mem_cons_self ..) (fun x hx => List.mem_cons_of_mem _ hx)
/-- the row, and a path beside it -/
def PsN (W0 : World) (pb : Nat) (K : List (Nat × Obj)) (P : List (List Int)) (l : List Int) (al : Option Addr) (cap : Nat) (w : World) : Prop :=
  ∃ (xs : List Value) (G R : List (Nat × Obj)), PsV W0.heap.size P xs G ∧ Rw W0.heap.size 3 1 l.length (icI l) al cap R ∧ FKN W0 (R ++ ((pb, .cells xs.toArray 22 (0, 0)) :: (G ++ K))) w
variable {l : List Int} {al : Option Addr} {cap : Nat}
theorem PsN.grow (h : PsN W0 pb K P l al cap w) (c : Below w.heap.size w w') : PsN W0 pb K P l al cap w' := by
  obtain ⟨xs, G, R, h1, h2, h3⟩ := h
  exact ⟨xs, G, R, h1, h2, h3.grow c⟩
theorem PsN.drop (h : PsN W0 pb K P l al cap w) : PsW W0 pb K P w := by
  obtain ⟨xs, G, R, h1, h2, h3⟩ := h
  exact ⟨xs, G, h1, h3.drop⟩
theorem PsN.introw (h : PsN W0 pb K P l al cap w) (hok : OkI l) : IntRow .i64 w al l := by
  obtain ⟨xs, G, R, h1, h2, h3⟩ := h
  exact h2.introw h3.1 (fun x hx => List.mem_append_left _ hx) hok
theorem PsN.put (h : PsN W0 pb K P l al cap w) (hn : n < P.length) (hl : l ≠ []) : PsW W0 pb K (P.set n l) (w.setCell ⟨pb, n, none⟩ (.slice al l.length cap)) := by
  obtain ⟨xs, G, R, h1, h2, h3⟩ := h
  have hs := (h3.perm (K' := (pb, Obj.cells xs.toArray 22 (0, 0)) :: ((R ++ G) ++ K)) (permC fun x => by simp only [List.count_append, List.count_cons, List.append_assoc, List.cons_append]; ac_rfl)).set n (.slice al l.length cap)
  refine ⟨xs.set n (.slice al l.length cap), R ++ G, h1.set hn hl h2 (fun x hx => List.mem_append_left _ hx) (fun x hx => List.mem_append_right _ hx), by simpa using hs⟩
/-- a new path: a copy of one with a step behind -/
theorem PsW.next (h : PsW W0 pb K P w) (hn : n < P.length) (hne : P.getD n [] ≠ []) (hS : Small 1500 100 P) {b0 c0 : Nat} (hc : w.cell? ⟨pb, n, none⟩ = some (.slice (some ⟨b0, 0, none⟩) (P.getD n []).length c0)) :
    ∃ al1 cap1 w1, (Builtin.append_ #[22, 22] 22 #[.slice (some ⟨w.heap.size, 0, none⟩) 0 0, .slice (some ⟨b0, 0, none⟩) (P.getD n []).length c0]).run Try.prog (w.alloc (.cells #[] 3)) = .ok (.slice al1 (P.getD n []).length cap1) w1 ∧ PsN W0 pb K P (P.getD n []) al1 cap1 w1 := by
  obtain ⟨i1, hj, hy0, hy1, hy2⟩ := info_parts int_info
  obtain ⟨hd, hm⟩ := hS n hn
  have hok := hd.okI (by omega)
  obtain ⟨b, cap, hc2, hz⟩ := h.some_at hn hne hok
  rw [hc] at hc2
  obtain ⟨rfl, rfl⟩ : b0 = b ∧ c0 = cap := by simpa using hc2
  obtain ⟨xs, G, h1, h2⟩ := h
  have hb := h2.box #[] 3
  have hr0 : Rw W0.heap.size 3 1 0 [] (some ⟨w.heap.size, 0, none⟩) 0 [(w.heap.size, .cells #[] 3 (0, 0))] := .inr ⟨w.heap.size, #[], rfl, h2.1.below.size, by omega, by unfold maxLen; omega, by simp, by simp, by simp, rfl⟩
  obtain ⟨bz, oz, ez, hcz⟩ := (hz.below (below_new w (.cells #[] 3))).cell
  obtain ⟨al1, cap1, w1, R1, hrun, hr, hN⟩ := hr0.appN (K := (pb, .cells xs.toArray 22 (0, 0)) :: (G ++ K)) hb hj hy0 hy1 hy2 rfl (by decide) Try.underlying22 (news := icI (P.getD n [])) (m := (P.getD n []).length) (by simp [icI]) (a := some ⟨b0, 0, none⟩) c0 (fun _ => by
    rcases ez with e | e
    · exact absurd e hne
    · refine ⟨bz, oz, e, fun j u hu => ?_⟩
      have hj : j < (P.getD n []).length := by
        have := (List.getElem?_eq_some_iff.1 hu).1
        simpa [icI] using this
      rw [icI_get _ j hj] at hu
      cases hu
      exact hcz j hj) (fun u hu => by
      unfold icI at hu
      rw [List.mem_map] at hu
      obtain ⟨z, -, rfl⟩ := hu
      rfl) (by unfold maxLen; omega) (by omega)
  rw [Nat.zero_add, List.nil_append] at hr
  rw [Nat.zero_add] at hrun
  exact ⟨al1, cap1, w1, hrun, xs, G, R1, h1, hr, hN⟩
theorem PsN.step (h : PsN W0 pb K P l al cap w) (hl : l.length ≤ 1000) (z : Int) :
    ∃ al1 cap1 w1, (Builtin.append_ #[22, 22] 22 #[.slice al l.length cap, .slice (some ⟨w.heap.size, 0, none⟩) 1 1]).run Try.prog (w.alloc (.cells #[.int .i64 z] 3)) = .ok (.slice al1 (l.length + 1) cap1) w1 ∧ PsN W0 pb K P (l ++ [z]) al1 cap1 w1 := by
  obtain ⟨i1, hj, hy0, hy1, hy2⟩ := info_parts int_info
  obtain ⟨xs, G, R, h1, h2, h3⟩ := h
  obtain ⟨al1, cap1, w1, R1, hrun, hr, hN⟩ := h2.app1 h3 hj hy0 hy1 hy2 rfl (by decide) Try.underlying22 #[.int .i64 z] rfl (fun u hu => by simp at hu; rw [hu]; rfl) (by unfold maxLen; omega) (by omega)
  refine ⟨al1, cap1, w1, hrun, xs, G, R1, h1, ?_, hN⟩
  rw [icI_snoc, List.length_append]
  exact hr
/-- a path handed out of the row -/
theorem PsW.give (h : PsW W0 pb K P w) (hn : n < P.length) : ∃ a cap R, w.cell? ⟨pb, n, none⟩ = some (.slice a (P.getD n []).length cap) ∧ Rw W0.heap.size 3 1 (P.getD n []).length (icI (P.getD n [])) a cap R ∧ FKN W0 R w := by
  obtain ⟨xs, G, h1, h2⟩ := h
  obtain ⟨a, cap, R, hx, hr, hR, -, hso⟩ := h1.2 n hn
  refine ⟨a, cap, R, at_cell (h2.1.block (List.mem_cons_self ..)) n _ (by simpa using hx), hr, ?_⟩
  have hin : ∀ x ∈ R, x ∈ (pb, Obj.cells xs.toArray 22 (0, 0)) :: (G ++ K) := fun x hx => List.mem_cons_of_mem _ (List.mem_append_left _ (hR x hx))
  refine ⟨h2.1.sub hin, ?_, fun x hx => h2.2.2 x (hin x hx)⟩
  rcases hr with ⟨-, -, -, -, rfl⟩ | ⟨b, cur, -, -, -, -, -, -, -, rfl⟩ <;> simp
end
end Go.Proofs.Ytplkogjnmjjjgaa
