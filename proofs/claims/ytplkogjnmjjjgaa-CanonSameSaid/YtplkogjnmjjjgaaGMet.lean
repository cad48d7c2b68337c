/- The nodes met, as a block with three rows and a map. Printed by wip/tools/genmet.py. -/
import Derived.Test.YtplkogjnmjjjgaaGMap
import Derived.Test.YtplkogjnmjjjgaaGPlain
namespace Go.Proofs.Ytplkogjnmjjjgaa
open Go.ChangeShapes Go.WideShapes Go.ChangeAt Go.RowKit Go.Maps
set_option linter.unusedVariables false
set_option linter.unusedSimpArgs false

def icI (l : List Int) : List Value := l.map fun z => .int .i64 z
theorem icI_get (l : List Int) (i : Nat) (hi : i < l.length) : (icI l)[i]? = some (.int .i64 (l.getD i 0)) := by
  unfold icI
  rw [List.getElem?_map, List.getElem?_eq_getElem hi, List.getD_eq_getElem?_getD, List.getElem?_eq_getElem hi]
  rfl
theorem icI_snoc (l : List Int) (v : Int) : icI (l ++ [v]) = icI l ++ [.int .i64 v] := by simp [icI]
theorem perm_in {A R B : List (Nat × Obj)} : List.Perm (A ++ (R ++ B)) (R ++ (A ++ B)) := by
  rw [← List.append_assoc, ← List.append_assoc]
  exact List.Perm.append_right B List.perm_append_comm
theorem int_info : (Try.prog.info? 3).map (fun i => (i.zero, i.size, i.bytes)) = some (some (.int .i64 0), 1, 8) := by kernel_rfl
def metC (a0 a2 a3 : Option Addr) (n0 n2 n3 c0 c2 c3 mb : Nat) : Array Value := #[.slice a0 n0 c0, .map (some mb), .slice a2 n2 c2, .slice a3 n3 c3]
structure Met1 (W0 : World) (p mb : Nat) (A F T : List Int) (o : Obj) (E : List (Nat × Obj)) (a0 a2 a3 : Option Addr) (c0 c2 c3 : Nat) (R0 R2 R3 : List (Nat × Obj)) (w : World) : Prop where
  r0 : Rw W0.heap.size 3 1 A.length (icI A) a0 c0 R0
  r2 : Rw W0.heap.size 3 1 F.length (icI F) a2 c2 R2
  r3 : Rw W0.heap.size 3 1 T.length (icI T) a3 c3 R3
  all : FKN W0 ((p, .cells (metC a0 a2 a3 A.length F.length T.length c0 c2 c3 mb) 73 (0, 0)) :: (mb, o) :: (R0 ++ (R2 ++ (R3 ++ E)))) w
section
variable {W0 w w' : World} {p mb : Nat} {A F T : List Int} {o o' : Obj} {E X : List (Nat × Obj)} {a0 a2 a3 : Option Addr} {c0 c2 c3 : Nat} {R0 R2 R3 : List (Nat × Obj)}
theorem Met1.grow (h : Met1 W0 p mb A F T o E a0 a2 a3 c0 c2 c3 R0 R2 R3 w) (c : Below w.heap.size w w') : Met1 W0 p mb A F T o E a0 a2 a3 c0 c2 c3 R0 R2 R3 w' := ⟨h.r0, h.r2, h.r3, h.all.grow c⟩
theorem Met1.head (h : Met1 W0 p mb A F T o E a0 a2 a3 c0 c2 c3 R0 R2 R3 w) : w.heap[p]? = some (.cells (metC a0 a2 a3 A.length F.length T.length c0 c2 c3 mb) 73 (0, 0)) := h.all.1.block (List.mem_cons_self ..)
theorem Met1.mapb (h : Met1 W0 p mb A F T o E a0 a2 a3 c0 c2 c3 R0 R2 R3 w) : w.heap[mb]? = some o := h.all.1.block (List.mem_cons_of_mem _ (List.mem_cons_self ..))
theorem Met1.inE (h : Met1 W0 p mb A F T o E a0 a2 a3 c0 c2 c3 R0 R2 R3 w) {x : Nat × Obj} (hx : x ∈ E) : w.heap[x.1]? = some x.2 :=
  h.all.1.block (List.mem_cons_of_mem _ (List.mem_cons_of_mem _ (List.mem_append_right _ (List.mem_append_right _ (List.mem_append_right _ hx)))))
theorem Met1.inR0 (h : Met1 W0 p mb A F T o E a0 a2 a3 c0 c2 c3 R0 R2 R3 w) : ∀ x ∈ R0, w.heap[x.1]? = some x.2 := fun x hx => h.all.1.block (X := x.1) (o := x.2) (List.mem_cons_of_mem _ (List.mem_cons_of_mem _ (List.mem_append_left _ hx)))
theorem Met1.cell (h : Met1 W0 p mb A F T o E a0 a2 a3 c0 c2 c3 R0 R2 R3 w) :
    w.cell? ⟨p, 0, none⟩ = some (.slice a0 A.length c0) ∧ w.cell? ⟨p, 1, none⟩ = some (.map (some mb)) ∧ w.cell? ⟨p, 2, none⟩ = some (.slice a2 F.length c2) ∧ w.cell? ⟨p, 3, none⟩ = some (.slice a3 T.length c3) :=
  ⟨at_cell h.head 0 _ rfl, at_cell h.head 1 _ rfl, at_cell h.head 2 _ rfl, at_cell h.head 3 _ rfl⟩
theorem Met1.free (h : Met1 W0 p mb A F T o E a0 a2 a3 c0 c2 c3 R0 R2 R3 w) (j : Nat) : w.frozen? ⟨p, j, none⟩ = false := at_free h.head j
theorem Met1.addE (h : Met1 W0 p mb A F T o E a0 a2 a3 c0 c2 c3 R0 R2 R3 w) (hN : FKN W0 (X ++ ((p, .cells (metC a0 a2 a3 A.length F.length T.length c0 c2 c3 mb) 73 (0, 0)) :: (mb, o) :: (R0 ++ (R2 ++ (R3 ++ E))))) w') : Met1 W0 p mb A F T o (X ++ E) a0 a2 a3 c0 c2 c3 R0 R2 R3 w' := by
  refine ⟨h.r0, h.r2, h.r3, hN.perm ?_⟩
  have q := (perm_in (A := (p, Obj.cells (metC a0 a2 a3 A.length F.length T.length c0 c2 c3 mb) 73 (0, 0)) :: (mb, o) :: (R0 ++ (R2 ++ R3))) (R := X) (B := E)).symm
  simpa only [List.append_assoc, List.cons_append] using q
theorem Met1.boxE (h : Met1 W0 p mb A F T o E a0 a2 a3 c0 c2 c3 R0 R2 R3 w) (cs : Array Value) (ty2 : TypeId) : Met1 W0 p mb A F T o ((w.heap.size, .cells cs ty2 (0, 0)) :: E) a0 a2 a3 c0 c2 c3 R0 R2 R3 (w.alloc (.cells cs ty2)) :=
  h.addE (X := [(w.heap.size, .cells cs ty2 (0, 0))]) (h.all.box cs ty2)
theorem Met1.dropE (h : Met1 W0 p mb A F T o (X ++ E) a0 a2 a3 c0 c2 c3 R0 R2 R3 w) : Met1 W0 p mb A F T o E a0 a2 a3 c0 c2 c3 R0 R2 R3 w := by
  refine ⟨h.r0, h.r2, h.r3, FKN.drop (K' := X) (h.all.perm ?_)⟩
  have q := (perm_in (A := (p, Obj.cells (metC a0 a2 a3 A.length F.length T.length c0 c2 c3 mb) 73 (0, 0)) :: (mb, o) :: (R0 ++ (R2 ++ R3))) (R := X) (B := E))
  simpa only [List.append_assoc, List.cons_append] using q
/-- the map changed -/
theorem Met1.putM (h : Met1 W0 p mb A F T o E a0 a2 a3 c0 c2 c3 R0 R2 R3 w) (c : Chg (· = mb) w w') (ho : w'.heap[mb]? = some o') : Met1 W0 p mb A F T o' E a0 a2 a3 c0 c2 c3 R0 R2 R3 w' := by
  have h1 := h.all.perm (List.Perm.swap (mb, o) (p, Obj.cells (metC a0 a2 a3 A.length F.length T.length c0 c2 c3 mb) 73 (0, 0)) (R0 ++ (R2 ++ (R3 ++ E))))
  have h2 := h1.1.swap (h1.2.2 _ (List.mem_cons_self ..)) h1.apart c (.inl rfl) ho
  refine ⟨h.r0, h.r2, h.r3, FKN.perm ⟨h2, h1.2.1, fun x hx => ?_⟩ (List.Perm.swap (p, Obj.cells (metC a0 a2 a3 A.length F.length T.length c0 c2 c3 mb) 73 (0, 0)) (mb, o') (R0 ++ (R2 ++ (R3 ++ E))))⟩
  simp only [List.mem_cons] at hx
  rcases hx with rfl | hx
  · exact h1.2.2 (mb, o) (List.mem_cons_self ..)
  · exact h1.2.2 x (List.mem_cons_of_mem _ (by simpa only [List.mem_cons] using hx))
theorem Met1.app0 (h : Met1 W0 p mb A F T o E a0 a2 a3 c0 c2 c3 R0 R2 R3 w) (v : Int) (hl : A.length ≤ 100000) :
    ∃ (x : Option Addr) (cx : Nat) (w5 : World) (Rx : List (Nat × Obj)), (Builtin.append_ #[22, 22] 22 #[.slice a0 A.length c0, .slice (some ⟨w.heap.size, 0, none⟩) 1 1]).run Try.prog (w.alloc (.cells #[.int .i64 v] 3)) = .ok (.slice x (A.length + 1) cx) w5 ∧
      w5.heap[p]? = some (.cells (metC a0 a2 a3 A.length F.length T.length c0 c2 c3 mb) 73 (0, 0)) ∧
      Met1 W0 p mb (A ++ [v]) F T o E x a2 a3 cx c2 c3 Rx R2 R3 (w5.setCell ⟨p, 0, none⟩ (.slice x (A.length + 1) cx)) := by
  obtain ⟨i1, hj, hy0, hy1, hy2⟩ := info_parts int_info
  have q1 : List.Perm ((p, Obj.cells (metC a0 a2 a3 A.length F.length T.length c0 c2 c3 mb) 73 (0, 0)) :: (mb, o) :: (R0 ++ (R2 ++ (R3 ++ E)))) (R0 ++ ((p, Obj.cells (metC a0 a2 a3 A.length F.length T.length c0 c2 c3 mb) 73 (0, 0)) :: (mb, o) :: (R2 ++ (R3 ++ E)))) := by
    have q := (perm_in (A := [(p, Obj.cells (metC a0 a2 a3 A.length F.length T.length c0 c2 c3 mb) 73 (0, 0)), (mb, o)]) (R := R0) (B := (R2 ++ (R3 ++ E))))
    simpa only [List.append_assoc, List.cons_append, List.nil_append] using q
  have ho := h.all.perm q1
  obtain ⟨x, cx, w5, hrun, hG⟩ := GR.append1 (h.r0.gr ho) hj hy0 hy1 hy2 rfl Try.underlying22 (.int .i64 v) rfl (by unfold maxLen; omega) (by omega)
  have hf := hG.full
  have hd := ho.drop
  obtain ⟨Rx, hr, hN⟩ := hG.rw hd.2.1 hd.2.2
  have q2 : List.Perm (Rx ++ ((p, Obj.cells (metC a0 a2 a3 A.length F.length T.length c0 c2 c3 mb) 73 (0, 0)) :: (mb, o) :: (R2 ++ (R3 ++ E)))) ((p, Obj.cells (metC a0 a2 a3 A.length F.length T.length c0 c2 c3 mb) 73 (0, 0)) :: (Rx ++ ((mb, o) :: (R2 ++ (R3 ++ E))))) := (perm_in (A := [(p, Obj.cells (metC a0 a2 a3 A.length F.length T.length c0 c2 c3 mb) 73 (0, 0))]) (R := Rx) (B := (mb, o) :: (R2 ++ (R3 ++ E)))).symm
  have h3 := FKN.set (hN.perm q2) 0 (.slice x (A.length + 1) cx)
  have hs : (metC a0 a2 a3 A.length F.length T.length c0 c2 c3 mb).setIfInBounds 0 (.slice x (A.length + 1) cx) = metC x a2 a3 (A ++ [v]).length F.length T.length cx c2 c3 mb := by simp [metC]
  rw [hs] at h3
  have q3 : List.Perm ((p, Obj.cells (metC x a2 a3 (A ++ [v]).length F.length T.length cx c2 c3 mb) 73 (0, 0)) :: (Rx ++ ((mb, o) :: (R2 ++ (R3 ++ E))))) ((p, Obj.cells (metC x a2 a3 (A ++ [v]).length F.length T.length cx c2 c3 mb) 73 (0, 0)) :: (mb, o) :: (Rx ++ (R2 ++ (R3 ++ E)))) := by
    refine List.Perm.cons _ ?_
    have q := (perm_in (A := (mb, o) :: []) (R := Rx) (B := (R2 ++ (R3 ++ E)))).symm
    simpa only [List.append_assoc, List.cons_append, List.nil_append] using q
  refine ⟨x, cx, w5, Rx, hrun, hf.block (List.mem_cons_self ..), ⟨by rw [icI_snoc, List.length_append]; exact hr, h.r2, h.r3, h3.perm q3⟩⟩
theorem Met1.app2 (h : Met1 W0 p mb A F T o E a0 a2 a3 c0 c2 c3 R0 R2 R3 w) (v : Int) (hl : F.length ≤ 100000) :
    ∃ (x : Option Addr) (cx : Nat) (w5 : World) (Rx : List (Nat × Obj)), (Builtin.append_ #[22, 22] 22 #[.slice a2 F.length c2, .slice (some ⟨w.heap.size, 0, none⟩) 1 1]).run Try.prog (w.alloc (.cells #[.int .i64 v] 3)) = .ok (.slice x (F.length + 1) cx) w5 ∧
      w5.heap[p]? = some (.cells (metC a0 a2 a3 A.length F.length T.length c0 c2 c3 mb) 73 (0, 0)) ∧
      Met1 W0 p mb A (F ++ [v]) T o E a0 x a3 c0 cx c3 R0 Rx R3 (w5.setCell ⟨p, 2, none⟩ (.slice x (F.length + 1) cx)) := by
  obtain ⟨i1, hj, hy0, hy1, hy2⟩ := info_parts int_info
  have q1 : List.Perm ((p, Obj.cells (metC a0 a2 a3 A.length F.length T.length c0 c2 c3 mb) 73 (0, 0)) :: (mb, o) :: (R0 ++ (R2 ++ (R3 ++ E)))) (R2 ++ ((p, Obj.cells (metC a0 a2 a3 A.length F.length T.length c0 c2 c3 mb) 73 (0, 0)) :: (mb, o) :: (R0 ++ (R3 ++ E)))) := by
    have q := (perm_in (A := ((p, Obj.cells (metC a0 a2 a3 A.length F.length T.length c0 c2 c3 mb) 73 (0, 0)) :: (mb, o) :: (R0))) (R := R2) (B := (R3 ++ E)))
    simpa only [List.append_assoc, List.cons_append, List.nil_append] using q
  have ho := h.all.perm q1
  obtain ⟨x, cx, w5, hrun, hG⟩ := GR.append1 (h.r2.gr ho) hj hy0 hy1 hy2 rfl Try.underlying22 (.int .i64 v) rfl (by unfold maxLen; omega) (by omega)
  have hf := hG.full
  have hd := ho.drop
  obtain ⟨Rx, hr, hN⟩ := hG.rw hd.2.1 hd.2.2
  have q2 : List.Perm (Rx ++ ((p, Obj.cells (metC a0 a2 a3 A.length F.length T.length c0 c2 c3 mb) 73 (0, 0)) :: (mb, o) :: (R0 ++ (R3 ++ E)))) ((p, Obj.cells (metC a0 a2 a3 A.length F.length T.length c0 c2 c3 mb) 73 (0, 0)) :: (Rx ++ ((mb, o) :: (R0 ++ (R3 ++ E))))) := (perm_in (A := [(p, Obj.cells (metC a0 a2 a3 A.length F.length T.length c0 c2 c3 mb) 73 (0, 0))]) (R := Rx) (B := (mb, o) :: (R0 ++ (R3 ++ E)))).symm
  have h3 := FKN.set (hN.perm q2) 2 (.slice x (F.length + 1) cx)
  have hs : (metC a0 a2 a3 A.length F.length T.length c0 c2 c3 mb).setIfInBounds 2 (.slice x (F.length + 1) cx) = metC a0 x a3 A.length (F ++ [v]).length T.length c0 cx c3 mb := by simp [metC]
  rw [hs] at h3
  have q3 : List.Perm ((p, Obj.cells (metC a0 x a3 A.length (F ++ [v]).length T.length c0 cx c3 mb) 73 (0, 0)) :: (Rx ++ ((mb, o) :: (R0 ++ (R3 ++ E))))) ((p, Obj.cells (metC a0 x a3 A.length (F ++ [v]).length T.length c0 cx c3 mb) 73 (0, 0)) :: (mb, o) :: (R0 ++ (Rx ++ (R3 ++ E)))) := by
    refine List.Perm.cons _ ?_
    have q := (perm_in (A := (mb, o) :: (R0)) (R := Rx) (B := (R3 ++ E))).symm
    simpa only [List.append_assoc, List.cons_append, List.nil_append] using q
  refine ⟨x, cx, w5, Rx, hrun, hf.block (List.mem_cons_self ..), ⟨h.r0, by rw [icI_snoc, List.length_append]; exact hr, h.r3, h3.perm q3⟩⟩
theorem Met1.app3 (h : Met1 W0 p mb A F T o E a0 a2 a3 c0 c2 c3 R0 R2 R3 w) (v : Int) (hl : T.length ≤ 100000) :
    ∃ (x : Option Addr) (cx : Nat) (w5 : World) (Rx : List (Nat × Obj)), (Builtin.append_ #[22, 22] 22 #[.slice a3 T.length c3, .slice (some ⟨w.heap.size, 0, none⟩) 1 1]).run Try.prog (w.alloc (.cells #[.int .i64 v] 3)) = .ok (.slice x (T.length + 1) cx) w5 ∧
      w5.heap[p]? = some (.cells (metC a0 a2 a3 A.length F.length T.length c0 c2 c3 mb) 73 (0, 0)) ∧
      Met1 W0 p mb A F (T ++ [v]) o E a0 a2 x c0 c2 cx R0 R2 Rx (w5.setCell ⟨p, 3, none⟩ (.slice x (T.length + 1) cx)) := by
  obtain ⟨i1, hj, hy0, hy1, hy2⟩ := info_parts int_info
  have q1 : List.Perm ((p, Obj.cells (metC a0 a2 a3 A.length F.length T.length c0 c2 c3 mb) 73 (0, 0)) :: (mb, o) :: (R0 ++ (R2 ++ (R3 ++ E)))) (R3 ++ ((p, Obj.cells (metC a0 a2 a3 A.length F.length T.length c0 c2 c3 mb) 73 (0, 0)) :: (mb, o) :: (R0 ++ (R2 ++ E)))) := by
    have q := (perm_in (A := ((p, Obj.cells (metC a0 a2 a3 A.length F.length T.length c0 c2 c3 mb) 73 (0, 0)) :: (mb, o) :: (R0 ++ R2))) (R := R3) (B := E))
    simpa only [List.append_assoc, List.cons_append, List.nil_append] using q
  have ho := h.all.perm q1
  obtain ⟨x, cx, w5, hrun, hG⟩ := GR.append1 (h.r3.gr ho) hj hy0 hy1 hy2 rfl Try.underlying22 (.int .i64 v) rfl (by unfold maxLen; omega) (by omega)
  have hf := hG.full
  have hd := ho.drop
  obtain ⟨Rx, hr, hN⟩ := hG.rw hd.2.1 hd.2.2
  have q2 : List.Perm (Rx ++ ((p, Obj.cells (metC a0 a2 a3 A.length F.length T.length c0 c2 c3 mb) 73 (0, 0)) :: (mb, o) :: (R0 ++ (R2 ++ E)))) ((p, Obj.cells (metC a0 a2 a3 A.length F.length T.length c0 c2 c3 mb) 73 (0, 0)) :: (Rx ++ ((mb, o) :: (R0 ++ (R2 ++ E))))) := (perm_in (A := [(p, Obj.cells (metC a0 a2 a3 A.length F.length T.length c0 c2 c3 mb) 73 (0, 0))]) (R := Rx) (B := (mb, o) :: (R0 ++ (R2 ++ E)))).symm
  have h3 := FKN.set (hN.perm q2) 3 (.slice x (T.length + 1) cx)
  have hs : (metC a0 a2 a3 A.length F.length T.length c0 c2 c3 mb).setIfInBounds 3 (.slice x (T.length + 1) cx) = metC a0 a2 x A.length F.length (T ++ [v]).length c0 c2 cx mb := by simp [metC]
  rw [hs] at h3
  have q3 : List.Perm ((p, Obj.cells (metC a0 a2 x A.length F.length (T ++ [v]).length c0 c2 cx mb) 73 (0, 0)) :: (Rx ++ ((mb, o) :: (R0 ++ (R2 ++ E))))) ((p, Obj.cells (metC a0 a2 x A.length F.length (T ++ [v]).length c0 c2 cx mb) 73 (0, 0)) :: (mb, o) :: (R0 ++ (R2 ++ (Rx ++ E)))) := by
    refine List.Perm.cons _ ?_
    have q := (perm_in (A := (mb, o) :: (R0 ++ R2)) (R := Rx) (B := E)).symm
    simpa only [List.append_assoc, List.cons_append, List.nil_append] using q
  refine ⟨x, cx, w5, Rx, hrun, hf.block (List.mem_cons_self ..), ⟨h.r0, h.r2, by rw [icI_snoc, List.length_append]; exact hr, h3.perm q3⟩⟩
end
theorem wpList_append_run {P : Program} (w : World) {ops : Array Oper} {rest : List Oper} {o : Oper} {a : Act} {Q : Exit → Act → World → Prop} (hgd : o.guard = none) (s x : Operand) (t : TypeId)
    (ho : o.op = .call { callee := .builtin .append, args := #[s, x], argTypes := #[t, t] }) (v vx v' : Value) (w' : World) (hs : a.eval s = v) (hx : a.eval x = vx)
    (hr : (Builtin.append_ #[t, t] o.type #[v, vx]).run P w = .ok v' w') (h : wpList P ops Q rest (a.put o.dst v') w') : wpList P ops Q (o :: rest) a w :=
  wpList_plain hgd fun _ hK => by
    unfold Oper.wp execOp
    simp only [ho, resolve, invoke, builtin, Sem.run_bind, Sem.run_pure, Result.andThen_ok, List.map_toArray, List.map_cons, List.map_nil, hs, hx, hr]
    exact hK _ _ h
end Go.Proofs.Ytplkogjnmjjjgaa
