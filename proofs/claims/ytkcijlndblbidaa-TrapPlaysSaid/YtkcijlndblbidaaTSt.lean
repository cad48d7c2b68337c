/- TSt: several texts in one. -/
import Derived.Test.YtkcijlndblbidaaTShut
import Derived.Test.YtkcijlndblbidaaWWhole2
/- A block of five slices (the reference's State, the player), and its rows, beside a memory. Printed by wip/tools/genstate.py. -/
namespace Go.Proofs.Ytkcijlndblbidaa
open Go.ChangeShapes Go.WideShapes Go.ChangeAt Go.RowKit
set_option linter.unusedVariables false
set_option linter.unusedSimpArgs false

def ulcells (l : List Nat) : List Value := l.map fun (z : Nat) => Value.int .u64 (z : Int)
def blcells (l : List Bool) : List Value := l.map fun b => Value.bool b
theorem perm_in {A R B : List (Nat × Obj)} : List.Perm (A ++ (R ++ B)) (R ++ (A ++ B)) := by
  rw [← List.append_assoc, ← List.append_assoc]
  exact List.Perm.append_right B List.perm_append_comm
/-- the block's cells -/
def spC (a0 a1 a2 a3 a4 : Option Addr) (k0 c0 c1 c2 c3 c4 : Nat) (st : PS) : Array Value := #[.slice a0 k0 c0, .slice a1 st.ld.length c1, .slice a2 st.er.length c2, .slice a3 st.at_.length c3, .slice a4 st.en.length c4]
structure SP1 (W0 : World) (m n t : Nat) (g : Nat → Nat) (s : Nat) (ty ty0 : TypeId) (sz0 k0 : Nat) (xs0 : List Value) (st : PS) (E : List (Nat × Obj)) (a0 a1 a2 a3 a4 : Option Addr) (c0 c1 c2 c3 c4 : Nat) (R0 R1 R2 R3 R4 : List (Nat × Obj)) (w : World) : Prop where
  r0 : Rw W0.heap.size ty0 sz0 k0 xs0 a0 c0 R0
  r1 : Rw W0.heap.size 23 1 st.ld.length (ulcells st.ld) a1 c1 R1
  r2 : Rw W0.heap.size 3 1 st.er.length (icI st.er) a2 c2 R2
  r3 : Rw W0.heap.size 3 1 st.at_.length (icI st.at_) a3 c3 R3
  r4 : Rw W0.heap.size 4 1 st.en.length (blcells st.en) a4 c4 R4
  all : FKN W0 m n t g ((s, .cells (spC a0 a1 a2 a3 a4 k0 c0 c1 c2 c3 c4 st) ty (0, 0)) :: (R0 ++ (R1 ++ (R2 ++ (R3 ++ (R4 ++ E)))))) w
section
variable {W0 w w' : World} {m n t : Nat} {g : Nat → Nat} {s : Nat} {ty ty0 : TypeId} {sz0 k0 : Nat} {xs0 : List Value} {st : PS} {E : List (Nat × Obj)} {a0 a1 a2 a3 a4 : Option Addr} {c0 c1 c2 c3 c4 : Nat} {R0 R1 R2 R3 R4 : List (Nat × Obj)}
theorem SP1.grow (h : SP1 W0 m n t g s ty ty0 sz0 k0 xs0 st E a0 a1 a2 a3 a4 c0 c1 c2 c3 c4 R0 R1 R2 R3 R4 w) (c : Below w.heap.size w w') : SP1 W0 m n t g s ty ty0 sz0 k0 xs0 st E a0 a1 a2 a3 a4 c0 c1 c2 c3 c4 R0 R1 R2 R3 R4 w' := ⟨h.r0, h.r1, h.r2, h.r3, h.r4, h.all.grow c⟩
theorem SP1.head (h : SP1 W0 m n t g s ty ty0 sz0 k0 xs0 st E a0 a1 a2 a3 a4 c0 c1 c2 c3 c4 R0 R1 R2 R3 R4 w) : w.heap[s]? = some (.cells (spC a0 a1 a2 a3 a4 k0 c0 c1 c2 c3 c4 st) ty (0, 0)) := h.all.1.block (List.mem_cons_self ..)
theorem SP1.out0 (h : SP1 W0 m n t g s ty ty0 sz0 k0 xs0 st E a0 a1 a2 a3 a4 c0 c1 c2 c3 c4 R0 R1 R2 R3 R4 w) : FKN W0 m n t g (R0 ++ ((s, .cells (spC a0 a1 a2 a3 a4 k0 c0 c1 c2 c3 c4 st) ty (0, 0)) :: (R1 ++ (R2 ++ (R3 ++ (R4 ++ E)))))) w := by
  refine h.all.perm ?_
  exact (perm_in (A := [(s, .cells (spC a0 a1 a2 a3 a4 k0 c0 c1 c2 c3 c4 st) ty (0, 0))]) (R := R0) (B := _))
theorem SP1.gr0 (h : SP1 W0 m n t g s ty ty0 sz0 k0 xs0 st E a0 a1 a2 a3 a4 c0 c1 c2 c3 c4 R0 R1 R2 R3 R4 w) : GR W0 m n t g ((s, .cells (spC a0 a1 a2 a3 a4 k0 c0 c1 c2 c3 c4 st) ty (0, 0)) :: (R1 ++ (R2 ++ (R3 ++ (R4 ++ E))))) ty0 sz0 k0 xs0 a0 c0 w := h.r0.gr h.out0
theorem SP1.out1 (h : SP1 W0 m n t g s ty ty0 sz0 k0 xs0 st E a0 a1 a2 a3 a4 c0 c1 c2 c3 c4 R0 R1 R2 R3 R4 w) : FKN W0 m n t g (R1 ++ ((s, .cells (spC a0 a1 a2 a3 a4 k0 c0 c1 c2 c3 c4 st) ty (0, 0)) :: (R0 ++ (R2 ++ (R3 ++ (R4 ++ E)))))) w := by
  refine h.all.perm ?_
  have q : List.Perm (R0 ++ (R1 ++ (R2 ++ (R3 ++ (R4 ++ E))))) (R1 ++ (R0 ++ (R2 ++ (R3 ++ (R4 ++ E))))) := by
    have e : (R0 ++ (R1 ++ (R2 ++ (R3 ++ (R4 ++ E))))) = R0 ++ (R1 ++ (R2 ++ (R3 ++ (R4 ++ E)))) := by simp only [List.append_assoc]
    have e2 : (R0 ++ (R2 ++ (R3 ++ (R4 ++ E)))) = R0 ++ (R2 ++ (R3 ++ (R4 ++ E))) := by simp only [List.append_assoc]
    rw [e, e2]
    exact perm_in
  exact (List.Perm.cons _ q).trans (perm_in (A := [(s, .cells (spC a0 a1 a2 a3 a4 k0 c0 c1 c2 c3 c4 st) ty (0, 0))]) (R := R1) (B := (R0 ++ (R2 ++ (R3 ++ (R4 ++ E))))))
theorem SP1.gr1 (h : SP1 W0 m n t g s ty ty0 sz0 k0 xs0 st E a0 a1 a2 a3 a4 c0 c1 c2 c3 c4 R0 R1 R2 R3 R4 w) : GR W0 m n t g ((s, .cells (spC a0 a1 a2 a3 a4 k0 c0 c1 c2 c3 c4 st) ty (0, 0)) :: (R0 ++ (R2 ++ (R3 ++ (R4 ++ E))))) 23 1 st.ld.length (ulcells st.ld) a1 c1 w := h.r1.gr h.out1
theorem SP1.out2 (h : SP1 W0 m n t g s ty ty0 sz0 k0 xs0 st E a0 a1 a2 a3 a4 c0 c1 c2 c3 c4 R0 R1 R2 R3 R4 w) : FKN W0 m n t g (R2 ++ ((s, .cells (spC a0 a1 a2 a3 a4 k0 c0 c1 c2 c3 c4 st) ty (0, 0)) :: (R0 ++ (R1 ++ (R3 ++ (R4 ++ E)))))) w := by
  refine h.all.perm ?_
  have q : List.Perm (R0 ++ (R1 ++ (R2 ++ (R3 ++ (R4 ++ E))))) (R2 ++ (R0 ++ (R1 ++ (R3 ++ (R4 ++ E))))) := by
    have e : (R0 ++ (R1 ++ (R2 ++ (R3 ++ (R4 ++ E))))) = (R0 ++ R1) ++ (R2 ++ (R3 ++ (R4 ++ E))) := by simp only [List.append_assoc]
    have e2 : (R0 ++ (R1 ++ (R3 ++ (R4 ++ E)))) = (R0 ++ R1) ++ (R3 ++ (R4 ++ E)) := by simp only [List.append_assoc]
    rw [e, e2]
    exact perm_in
  exact (List.Perm.cons _ q).trans (perm_in (A := [(s, .cells (spC a0 a1 a2 a3 a4 k0 c0 c1 c2 c3 c4 st) ty (0, 0))]) (R := R2) (B := (R0 ++ (R1 ++ (R3 ++ (R4 ++ E))))))
theorem SP1.gr2 (h : SP1 W0 m n t g s ty ty0 sz0 k0 xs0 st E a0 a1 a2 a3 a4 c0 c1 c2 c3 c4 R0 R1 R2 R3 R4 w) : GR W0 m n t g ((s, .cells (spC a0 a1 a2 a3 a4 k0 c0 c1 c2 c3 c4 st) ty (0, 0)) :: (R0 ++ (R1 ++ (R3 ++ (R4 ++ E))))) 3 1 st.er.length (icI st.er) a2 c2 w := h.r2.gr h.out2
theorem SP1.out3 (h : SP1 W0 m n t g s ty ty0 sz0 k0 xs0 st E a0 a1 a2 a3 a4 c0 c1 c2 c3 c4 R0 R1 R2 R3 R4 w) : FKN W0 m n t g (R3 ++ ((s, .cells (spC a0 a1 a2 a3 a4 k0 c0 c1 c2 c3 c4 st) ty (0, 0)) :: (R0 ++ (R1 ++ (R2 ++ (R4 ++ E)))))) w := by
  refine h.all.perm ?_
  have q : List.Perm (R0 ++ (R1 ++ (R2 ++ (R3 ++ (R4 ++ E))))) (R3 ++ (R0 ++ (R1 ++ (R2 ++ (R4 ++ E))))) := by
    have e : (R0 ++ (R1 ++ (R2 ++ (R3 ++ (R4 ++ E))))) = (R0 ++ (R1 ++ R2)) ++ (R3 ++ (R4 ++ E)) := by simp only [List.append_assoc]
    have e2 : (R0 ++ (R1 ++ (R2 ++ (R4 ++ E)))) = (R0 ++ (R1 ++ R2)) ++ (R4 ++ E) := by simp only [List.append_assoc]
    rw [e, e2]
    exact perm_in
  exact (List.Perm.cons _ q).trans (perm_in (A := [(s, .cells (spC a0 a1 a2 a3 a4 k0 c0 c1 c2 c3 c4 st) ty (0, 0))]) (R := R3) (B := (R0 ++ (R1 ++ (R2 ++ (R4 ++ E))))))
theorem SP1.gr3 (h : SP1 W0 m n t g s ty ty0 sz0 k0 xs0 st E a0 a1 a2 a3 a4 c0 c1 c2 c3 c4 R0 R1 R2 R3 R4 w) : GR W0 m n t g ((s, .cells (spC a0 a1 a2 a3 a4 k0 c0 c1 c2 c3 c4 st) ty (0, 0)) :: (R0 ++ (R1 ++ (R2 ++ (R4 ++ E))))) 3 1 st.at_.length (icI st.at_) a3 c3 w := h.r3.gr h.out3
theorem SP1.out4 (h : SP1 W0 m n t g s ty ty0 sz0 k0 xs0 st E a0 a1 a2 a3 a4 c0 c1 c2 c3 c4 R0 R1 R2 R3 R4 w) : FKN W0 m n t g (R4 ++ ((s, .cells (spC a0 a1 a2 a3 a4 k0 c0 c1 c2 c3 c4 st) ty (0, 0)) :: (R0 ++ (R1 ++ (R2 ++ (R3 ++ E)))))) w := by
  refine h.all.perm ?_
  have q : List.Perm (R0 ++ (R1 ++ (R2 ++ (R3 ++ (R4 ++ E))))) (R4 ++ (R0 ++ (R1 ++ (R2 ++ (R3 ++ E))))) := by
    have e : (R0 ++ (R1 ++ (R2 ++ (R3 ++ (R4 ++ E))))) = (R0 ++ (R1 ++ (R2 ++ R3))) ++ (R4 ++ E) := by simp only [List.append_assoc]
    have e2 : (R0 ++ (R1 ++ (R2 ++ (R3 ++ E)))) = (R0 ++ (R1 ++ (R2 ++ R3))) ++ E := by simp only [List.append_assoc]
    rw [e, e2]
    exact perm_in
  exact (List.Perm.cons _ q).trans (perm_in (A := [(s, .cells (spC a0 a1 a2 a3 a4 k0 c0 c1 c2 c3 c4 st) ty (0, 0))]) (R := R4) (B := (R0 ++ (R1 ++ (R2 ++ (R3 ++ E))))))
theorem SP1.gr4 (h : SP1 W0 m n t g s ty ty0 sz0 k0 xs0 st E a0 a1 a2 a3 a4 c0 c1 c2 c3 c4 R0 R1 R2 R3 R4 w) : GR W0 m n t g ((s, .cells (spC a0 a1 a2 a3 a4 k0 c0 c1 c2 c3 c4 st) ty (0, 0)) :: (R0 ++ (R1 ++ (R2 ++ (R3 ++ E))))) 4 1 st.en.length (blcells st.en) a4 c4 w := h.r4.gr h.out4
theorem SP1.put1 (h : SP1 W0 m n t g s ty ty0 sz0 k0 xs0 st E a0 a1 a2 a3 a4 c0 c1 c2 c3 c4 R0 R1 R2 R3 R4 w) {v : Nat} {x : Option Addr} {cx : Nat} {w5 : World} (hG : GR W0 m n t g ((s, .cells (spC a0 a1 a2 a3 a4 k0 c0 c1 c2 c3 c4 st) ty (0, 0)) :: (R0 ++ (R2 ++ (R3 ++ (R4 ++ E))))) 23 1 (st.ld.length + 1) ((ulcells st.ld) ++ [(.int .u64 v)]) x cx w5) :
    ∃ Rx, SP1 W0 m n t g s ty ty0 sz0 k0 xs0 { st with ld := st.ld ++ [v] } E a0 x a2 a3 a4 c0 cx c2 c3 c4 R0 Rx R2 R3 R4 (w5.setCell ⟨s, 1, none⟩ (.slice x (st.ld.length + 1) cx)) := by
  have hd := h.out1.drop
  obtain ⟨Rx, hr, hN⟩ := hG.rw hd.2.1 hd.2.2
  have h2 := (hN.perm (perm_in (A := [(s, .cells (spC a0 a1 a2 a3 a4 k0 c0 c1 c2 c3 c4 st) ty (0, 0))]) (R := Rx) (B := (R0 ++ (R2 ++ (R3 ++ (R4 ++ E)))))).symm)
  have h3 := FKN.set h2 1 (.slice x (st.ld.length + 1) cx)
  have q : List.Perm (Rx ++ (R0 ++ (R2 ++ (R3 ++ (R4 ++ E))))) (R0 ++ (Rx ++ (R2 ++ (R3 ++ (R4 ++ E))))) := by
    have e : (R0 ++ (Rx ++ (R2 ++ (R3 ++ (R4 ++ E))))) = R0 ++ (Rx ++ (R2 ++ (R3 ++ (R4 ++ E)))) := by simp only [List.append_assoc]
    have e2 : (R0 ++ (R2 ++ (R3 ++ (R4 ++ E)))) = R0 ++ (R2 ++ (R3 ++ (R4 ++ E))) := by simp only [List.append_assoc]
    rw [e, e2]
    exact perm_in.symm
  have h4 := h3.perm (List.Perm.cons _ q)
  have hs : (spC a0 a1 a2 a3 a4 k0 c0 c1 c2 c3 c4 st).setIfInBounds 1 (.slice x (st.ld.length + 1) cx) = spC a0 x a2 a3 a4 k0 c0 cx c2 c3 c4 { st with ld := st.ld ++ [v] } := by simp [spC]
  rw [hs] at h4
  exact ⟨Rx, ⟨h.r0, by show Rw _ _ _ (st.ld ++ [v]).length (ulcells (st.ld ++ [v])) _ _ _; rw [List.length_append, show ulcells (st.ld ++ [v]) = ulcells st.ld ++ [(.int .u64 v)] by simp [ulcells]]; exact hr, h.r2, h.r3, h.r4, h4⟩⟩
theorem SP1.put2 (h : SP1 W0 m n t g s ty ty0 sz0 k0 xs0 st E a0 a1 a2 a3 a4 c0 c1 c2 c3 c4 R0 R1 R2 R3 R4 w) {v : Int} {x : Option Addr} {cx : Nat} {w5 : World} (hG : GR W0 m n t g ((s, .cells (spC a0 a1 a2 a3 a4 k0 c0 c1 c2 c3 c4 st) ty (0, 0)) :: (R0 ++ (R1 ++ (R3 ++ (R4 ++ E))))) 3 1 (st.er.length + 1) ((icI st.er) ++ [(.int .i64 v)]) x cx w5) :
    ∃ Rx, SP1 W0 m n t g s ty ty0 sz0 k0 xs0 { st with er := st.er ++ [v] } E a0 a1 x a3 a4 c0 c1 cx c3 c4 R0 R1 Rx R3 R4 (w5.setCell ⟨s, 2, none⟩ (.slice x (st.er.length + 1) cx)) := by
  have hd := h.out2.drop
  obtain ⟨Rx, hr, hN⟩ := hG.rw hd.2.1 hd.2.2
  have h2 := (hN.perm (perm_in (A := [(s, .cells (spC a0 a1 a2 a3 a4 k0 c0 c1 c2 c3 c4 st) ty (0, 0))]) (R := Rx) (B := (R0 ++ (R1 ++ (R3 ++ (R4 ++ E)))))).symm)
  have h3 := FKN.set h2 2 (.slice x (st.er.length + 1) cx)
  have q : List.Perm (Rx ++ (R0 ++ (R1 ++ (R3 ++ (R4 ++ E))))) (R0 ++ (R1 ++ (Rx ++ (R3 ++ (R4 ++ E))))) := by
    have e : (R0 ++ (R1 ++ (Rx ++ (R3 ++ (R4 ++ E))))) = (R0 ++ R1) ++ (Rx ++ (R3 ++ (R4 ++ E))) := by simp only [List.append_assoc]
    have e2 : (R0 ++ (R1 ++ (R3 ++ (R4 ++ E)))) = (R0 ++ R1) ++ (R3 ++ (R4 ++ E)) := by simp only [List.append_assoc]
    rw [e, e2]
    exact perm_in.symm
  have h4 := h3.perm (List.Perm.cons _ q)
  have hs : (spC a0 a1 a2 a3 a4 k0 c0 c1 c2 c3 c4 st).setIfInBounds 2 (.slice x (st.er.length + 1) cx) = spC a0 a1 x a3 a4 k0 c0 c1 cx c3 c4 { st with er := st.er ++ [v] } := by simp [spC]
  rw [hs] at h4
  exact ⟨Rx, ⟨h.r0, h.r1, by show Rw _ _ _ (st.er ++ [v]).length (icI (st.er ++ [v])) _ _ _; rw [List.length_append, show icI (st.er ++ [v]) = icI st.er ++ [(.int .i64 v)] by simp [icI]]; exact hr, h.r3, h.r4, h4⟩⟩
theorem SP1.put3 (h : SP1 W0 m n t g s ty ty0 sz0 k0 xs0 st E a0 a1 a2 a3 a4 c0 c1 c2 c3 c4 R0 R1 R2 R3 R4 w) {v : Int} {x : Option Addr} {cx : Nat} {w5 : World} (hG : GR W0 m n t g ((s, .cells (spC a0 a1 a2 a3 a4 k0 c0 c1 c2 c3 c4 st) ty (0, 0)) :: (R0 ++ (R1 ++ (R2 ++ (R4 ++ E))))) 3 1 (st.at_.length + 1) ((icI st.at_) ++ [(.int .i64 v)]) x cx w5) :
    ∃ Rx, SP1 W0 m n t g s ty ty0 sz0 k0 xs0 { st with at_ := st.at_ ++ [v] } E a0 a1 a2 x a4 c0 c1 c2 cx c4 R0 R1 R2 Rx R4 (w5.setCell ⟨s, 3, none⟩ (.slice x (st.at_.length + 1) cx)) := by
  have hd := h.out3.drop
  obtain ⟨Rx, hr, hN⟩ := hG.rw hd.2.1 hd.2.2
  have h2 := (hN.perm (perm_in (A := [(s, .cells (spC a0 a1 a2 a3 a4 k0 c0 c1 c2 c3 c4 st) ty (0, 0))]) (R := Rx) (B := (R0 ++ (R1 ++ (R2 ++ (R4 ++ E)))))).symm)
  have h3 := FKN.set h2 3 (.slice x (st.at_.length + 1) cx)
  have q : List.Perm (Rx ++ (R0 ++ (R1 ++ (R2 ++ (R4 ++ E))))) (R0 ++ (R1 ++ (R2 ++ (Rx ++ (R4 ++ E))))) := by
    have e : (R0 ++ (R1 ++ (R2 ++ (Rx ++ (R4 ++ E))))) = (R0 ++ (R1 ++ R2)) ++ (Rx ++ (R4 ++ E)) := by simp only [List.append_assoc]
    have e2 : (R0 ++ (R1 ++ (R2 ++ (R4 ++ E)))) = (R0 ++ (R1 ++ R2)) ++ (R4 ++ E) := by simp only [List.append_assoc]
    rw [e, e2]
    exact perm_in.symm
  have h4 := h3.perm (List.Perm.cons _ q)
  have hs : (spC a0 a1 a2 a3 a4 k0 c0 c1 c2 c3 c4 st).setIfInBounds 3 (.slice x (st.at_.length + 1) cx) = spC a0 a1 a2 x a4 k0 c0 c1 c2 cx c4 { st with at_ := st.at_ ++ [v] } := by simp [spC]
  rw [hs] at h4
  exact ⟨Rx, ⟨h.r0, h.r1, h.r2, by show Rw _ _ _ (st.at_ ++ [v]).length (icI (st.at_ ++ [v])) _ _ _; rw [List.length_append, show icI (st.at_ ++ [v]) = icI st.at_ ++ [(.int .i64 v)] by simp [icI]]; exact hr, h.r4, h4⟩⟩
theorem SP1.put4 (h : SP1 W0 m n t g s ty ty0 sz0 k0 xs0 st E a0 a1 a2 a3 a4 c0 c1 c2 c3 c4 R0 R1 R2 R3 R4 w) {v : Bool} {x : Option Addr} {cx : Nat} {w5 : World} (hG : GR W0 m n t g ((s, .cells (spC a0 a1 a2 a3 a4 k0 c0 c1 c2 c3 c4 st) ty (0, 0)) :: (R0 ++ (R1 ++ (R2 ++ (R3 ++ E))))) 4 1 (st.en.length + 1) ((blcells st.en) ++ [(.bool v)]) x cx w5) :
    ∃ Rx, SP1 W0 m n t g s ty ty0 sz0 k0 xs0 { st with en := st.en ++ [v] } E a0 a1 a2 a3 x c0 c1 c2 c3 cx R0 R1 R2 R3 Rx (w5.setCell ⟨s, 4, none⟩ (.slice x (st.en.length + 1) cx)) := by
  have hd := h.out4.drop
  obtain ⟨Rx, hr, hN⟩ := hG.rw hd.2.1 hd.2.2
  have h2 := (hN.perm (perm_in (A := [(s, .cells (spC a0 a1 a2 a3 a4 k0 c0 c1 c2 c3 c4 st) ty (0, 0))]) (R := Rx) (B := (R0 ++ (R1 ++ (R2 ++ (R3 ++ E)))))).symm)
  have h3 := FKN.set h2 4 (.slice x (st.en.length + 1) cx)
  have q : List.Perm (Rx ++ (R0 ++ (R1 ++ (R2 ++ (R3 ++ E))))) (R0 ++ (R1 ++ (R2 ++ (R3 ++ (Rx ++ E))))) := by
    have e : (R0 ++ (R1 ++ (R2 ++ (R3 ++ (Rx ++ E))))) = (R0 ++ (R1 ++ (R2 ++ R3))) ++ (Rx ++ E) := by simp only [List.append_assoc]
    have e2 : (R0 ++ (R1 ++ (R2 ++ (R3 ++ E)))) = (R0 ++ (R1 ++ (R2 ++ R3))) ++ E := by simp only [List.append_assoc]
    rw [e, e2]
    exact perm_in.symm
  have h4 := h3.perm (List.Perm.cons _ q)
  have hs : (spC a0 a1 a2 a3 a4 k0 c0 c1 c2 c3 c4 st).setIfInBounds 4 (.slice x (st.en.length + 1) cx) = spC a0 a1 a2 a3 x k0 c0 c1 c2 c3 cx { st with en := st.en ++ [v] } := by simp [spC]
  rw [hs] at h4
  exact ⟨Rx, ⟨h.r0, h.r1, h.r2, h.r3, by show Rw _ _ _ (st.en ++ [v]).length (blcells (st.en ++ [v])) _ _ _; rw [List.length_append, show blcells (st.en ++ [v]) = blcells st.en ++ [(.bool v)] by simp [blcells]]; exact hr, h4⟩⟩
end
end Go.Proofs.Ytkcijlndblbidaa

/- The reference's words: a word put, and the words of before taken back. -/
namespace Go.Proofs.Ytkcijlndblbidaa
open Go.ChangeShapes Go.WideShapes Go.ChangeAt Go.RowKit
set_option linter.unusedVariables false
set_option linter.unusedSimpArgs false

def gcells (n : Nat) (g : Nat → Nat) : List Value := (List.range n).map fun i => Value.int .u64 (g i : Nat)
theorem gcells_length (n : Nat) (g : Nat → Nat) : (gcells n g).length = n := by simp [gcells]
theorem gcells_get (n : Nat) (g : Nat → Nat) (i : Nat) (hi : i < n) : (gcells n g)[i]? = some (.int .u64 (g i : Nat)) := by simp [gcells, hi]
theorem gcells_put (n : Nat) (g : Nat → Nat) (i x : Nat) (hi : i < n) : (gcells n g).set i (.int .u64 (x : Nat)) = gcells n (putG g i x) := by
  apply List.ext_getElem?
  intro j
  rw [List.getElem?_set]
  by_cases hj : j < n
  · rw [gcells_get n (putG g i x) j hj]
    by_cases e : i = j
    · subst e
      rw [if_pos rfl, if_pos (by rw [gcells_length]; exact hi)]
      simp [putG]
    · rw [if_neg e, gcells_get n g j hj]
      have : ¬ j = i := fun h => e h.symm
      simp [putG, this]
  · rw [if_neg (by omega), List.getElem?_eq_none (by rw [gcells_length]; omega), List.getElem?_eq_none (by rw [gcells_length]; omega)]
section
variable {W0 w w' : World} {m n t : Nat} {g f : Nat → Nat} {s k : Nat} {ty ty0 : TypeId} {st : PS} {E Rx : List (Nat × Obj)} {a0 a1 a2 a3 a4 x : Option Addr} {c0 c1 c2 c3 c4 cx : Nat} {R0 R1 R2 R3 R4 : List (Nat × Obj)} {xs ys : List Value} {sz0 k0 : Nat}
/-- the first slice replaced by a row that lay beside -/
theorem SP1.back0 (h : SP1 W0 m n t g s ty ty0 sz0 k0 xs st (Rx ++ E) a0 a1 a2 a3 a4 c0 c1 c2 c3 c4 R0 R1 R2 R3 R4 w) (r : Rw W0.heap.size ty0 sz0 k ys x cx Rx) :
    SP1 W0 m n t g s ty ty0 sz0 k ys st E x a1 a2 a3 a4 cx c1 c2 c3 c4 Rx R1 R2 R3 R4 (w.setCell ⟨s, 0, none⟩ (.slice x k cx)) := by
  have h3 := FKN.set h.all 0 (.slice x k cx)
  have hs : (spC a0 a1 a2 a3 a4 k0 c0 c1 c2 c3 c4 st).setIfInBounds 0 (.slice x k cx) = spC x a1 a2 a3 a4 k cx c1 c2 c3 c4 st := by simp [spC]
  rw [hs] at h3
  have q : List.Perm ((s, Obj.cells (spC x a1 a2 a3 a4 k cx c1 c2 c3 c4 st) ty (0, 0)) :: (R0 ++ (R1 ++ (R2 ++ (R3 ++ (R4 ++ (Rx ++ E))))))) (R0 ++ ((s, Obj.cells (spC x a1 a2 a3 a4 k cx c1 c2 c3 c4 st) ty (0, 0)) :: (Rx ++ (R1 ++ (R2 ++ (R3 ++ (R4 ++ E))))))) := by
    refine List.Perm.trans ?_ (perm_in (A := [(s, Obj.cells (spC x a1 a2 a3 a4 k cx c1 c2 c3 c4 st) ty (0, 0))]) (R := R0) (B := Rx ++ (R1 ++ (R2 ++ (R3 ++ (R4 ++ E))))))
    refine List.Perm.cons _ (List.Perm.append_left R0 ?_)
    have e : R1 ++ (R2 ++ (R3 ++ (R4 ++ (Rx ++ E)))) = (R1 ++ (R2 ++ (R3 ++ R4))) ++ (Rx ++ E) := by simp only [List.append_assoc]
    have e2 : R1 ++ (R2 ++ (R3 ++ (R4 ++ E))) = (R1 ++ (R2 ++ (R3 ++ R4))) ++ E := by simp only [List.append_assoc]
    rw [e, e2]
    exact perm_in
  exact ⟨r, h.r1, h.r2, h.r3, h.r4, (h3.perm q).drop⟩
/-- a word of the first row put -/
theorem SP1.set0 (h : SP1 W0 m n t g s ty 23 1 n (gcells n f) st E a0 a1 a2 a3 a4 c0 c1 c2 c3 c4 R0 R1 R2 R3 R4 w) {j : Nat} (hj : j < n) (v : Nat) :
    ∃ b R0', a0 = some ⟨b, 0, none⟩ ∧ w.frozen? ⟨b, j, none⟩ = false ∧ SP1 W0 m n t g s ty 23 1 n (gcells n (putG f j v)) st E a0 a1 a2 a3 a4 c0 c1 c2 c3 c4 R0' R1 R2 R3 R4 (w.setCell ⟨b, j, none⟩ (.int .u64 (v : Nat))) := by
  rcases h.r0 with ⟨-, rfl, -⟩ | ⟨b, cur, rfl, h2, h3, h4, h5, h6, h7, rfl⟩
  · omega
  · have ho := h.out0
    have hb : w.heap[b]? = some (.cells cur 23 (0, 0)) := ho.1.block (by simp)
    have hp := FKN.set (X := b) (cs := cur) (ty := 23) ho j (.int .u64 (v : Nat))
    refine ⟨b, [(b, .cells (cur.setIfInBounds j (.int .u64 (v : Nat))) 23 (0, 0))], rfl, at_free hb j, ⟨.inr ⟨b, _, rfl, h2, h3, h4, by simp [h5], ?_, by simp [gcells_length], rfl⟩, h.r1, h.r2, h.r3, h.r4, ?_⟩⟩
    · rw [← gcells_put n f j v hj, ← h6]
      rw [Array.toList_setIfInBounds, List.take_set]
    · exact hp.perm (perm_in (A := [(s, .cells (spC _ a1 a2 a3 a4 n c0 c1 c2 c3 c4 st) ty (0, 0))]) (R := [(b, .cells (cur.setIfInBounds j (.int .u64 (v : Nat))) 23 (0, 0))]) (B := _)).symm
end
end Go.Proofs.Ytkcijlndblbidaa

/- Appends of one value to a row of a block of five slices. Printed by wip/tools/genapp.py. -/
namespace Go.Proofs.Ytkcijlndblbidaa
open Go.ChangeShapes Go.WideShapes Go.ChangeAt Go.RowKit
set_option linter.unusedVariables false
set_option linter.unusedSimpArgs false

theorem u64_info10 : (Try.prog.info? 23).map (fun i => (i.zero, i.size, i.bytes)) = some (some (.int .u64 0), 1, 8) := by kernel_rfl
theorem bool_info10 : (Try.prog.info? 4).map (fun i => (i.zero, i.size, i.bytes)) = some (some (.bool false), 1, 1) := by kernel_rfl
def szS (st : PS) : Nat := st.ld.length + st.er.length + st.at_.length + st.en.length
section
variable {W0 w w' : World} {m n t : Nat} {g : Nat → Nat} {s : Nat} {ty ty0 : TypeId} {sz0 k0 : Nat} {xs0 : List Value} {st : PS} {E X K : List (Nat × Obj)} {a0 a1 a2 a3 a4 : Option Addr} {c0 c1 c2 c3 c4 : Nat} {R0 R1 R2 R3 R4 : List (Nat × Obj)}
theorem GR.append1 {k cap : Nat} {xs : List Value} {al : Option Addr} (h : GR W0 m n t g K ty 1 k xs al cap w) {i : TypeInfo} {z : Value} {by_ : Nat} (hi : Try.prog.info? ty = some i) (hz : i.zero = some z) (hs : i.size = 1) (hby : i.bytes = by_) (hzs : z.cells.size = 1) {sty : TypeId} (hu : Try.prog.underlying sty = some (.slice ty)) (v : Value) (hv : v.oneCell' = true) (hk : k + 1 ≤ maxLen) (hb : (k + 1) * by_ ≤ 140737488355328) :
    ∃ al5 cap5 w5, (Builtin.append_ #[sty, sty] sty #[.slice al k cap, .slice (some ⟨w.heap.size, 0, none⟩) 1 1]).run Try.prog (w.alloc (.cells #[v] ty)) = .ok (.slice al5 (k + 1) cap5) w5 ∧ GR W0 m n t g K ty 1 (k + 1) (xs ++ [v]) al5 cap5 w5 := by
  have hG := h.box #[v] ty
  have hq := hG.block (X := w.heap.size) (o := .cells #[v] ty (0, 0)) (List.mem_cons_self ..)
  obtain ⟨g5, cap5, w5, hrun, hown, hgrow, hat, -⟩ := run_append_lies (P := Try.prog) (w.alloc (.cells #[v] ty)) sty sty W0.heap.size ty i z 1 by_ hu hi hz hs hby hzs (by decide) _ _ _ hG.row ⟨w.heap.size, 0, none⟩ 1 1 [v] rfl (fun j u hu => by
    match j with
    | 0 =>
      cases hu
      exact at_cell hq 0 v rfl
    | j + 1 => simp at hu) (fun u hu => by
      simp only [List.mem_singleton] at hu
      subst hu
      exact hv) (by omega) hk hb hG.below.size _ rfl
  exact ⟨_, _, _, hrun, (hG.pushN hown hgrow hat).tail⟩
theorem SP1.app1 (h : SP1 W0 m n t g s ty ty0 sz0 k0 xs0 st E a0 a1 a2 a3 a4 c0 c1 c2 c3 c4 R0 R1 R2 R3 R4 w) (v : Nat) (hl : szS st ≤ 100000) :
    ∃ (x : Option Addr) (cx : Nat) (w5 : World) (Rx : List (Nat × Obj)), (Builtin.append_ #[69, 69] 69 #[.slice a1 st.ld.length c1, .slice (some ⟨w.heap.size, 0, none⟩) 1 1]).run Try.prog (w.alloc (.cells #[.int .u64 v] 23)) = .ok (.slice x (st.ld.length + 1) cx) w5 ∧
      (∀ x ∈ E, w5.heap[x.1]? = some x.2) ∧ w5.heap[s]? = some (.cells (spC a0 a1 a2 a3 a4 k0 c0 c1 c2 c3 c4 st) ty (0, 0)) ∧ (∀ x ∈ R0, w5.heap[x.1]? = some x.2) ∧
      SP1 W0 m n t g s ty ty0 sz0 k0 xs0 { st with ld := st.ld ++ [v] } E a0 x a2 a3 a4 c0 cx c2 c3 c4 R0 Rx R2 R3 R4 (w5.setCell ⟨s, 1, none⟩ (.slice x (st.ld.length + 1) cx)) := by
  obtain ⟨i1, hj, hy0, hy1, hy2⟩ := info_parts u64_info10
  unfold szS at hl
  obtain ⟨x, cx, w5, hrun, hG⟩ := h.gr1.append1 hj hy0 hy1 hy2 rfl Try.underlying69 (.int .u64 v) rfl (by unfold maxLen; omega) (by omega)
  have hf := hG.full
  obtain ⟨Rx, hp⟩ := h.put1 hG
  refine ⟨x, cx, w5, Rx, hrun, fun y hy => hf.block (List.mem_cons_of_mem _ ?_), hf.block (List.mem_cons_self ..), fun y hy => hf.block (List.mem_cons_of_mem _ (List.mem_append_left _ hy)), hp⟩
  exact List.mem_append_right _ (List.mem_append_right _ (List.mem_append_right _ (List.mem_append_right _ hy)))
theorem SP1.app2 (h : SP1 W0 m n t g s ty ty0 sz0 k0 xs0 st E a0 a1 a2 a3 a4 c0 c1 c2 c3 c4 R0 R1 R2 R3 R4 w) (v : Int) (hl : szS st ≤ 100000) :
    ∃ (x : Option Addr) (cx : Nat) (w5 : World) (Rx : List (Nat × Obj)), (Builtin.append_ #[71, 71] 71 #[.slice a2 st.er.length c2, .slice (some ⟨w.heap.size, 0, none⟩) 1 1]).run Try.prog (w.alloc (.cells #[.int .i64 v] 3)) = .ok (.slice x (st.er.length + 1) cx) w5 ∧
      (∀ x ∈ E, w5.heap[x.1]? = some x.2) ∧ w5.heap[s]? = some (.cells (spC a0 a1 a2 a3 a4 k0 c0 c1 c2 c3 c4 st) ty (0, 0)) ∧ (∀ x ∈ R0, w5.heap[x.1]? = some x.2) ∧
      SP1 W0 m n t g s ty ty0 sz0 k0 xs0 { st with er := st.er ++ [v] } E a0 a1 x a3 a4 c0 c1 cx c3 c4 R0 R1 Rx R3 R4 (w5.setCell ⟨s, 2, none⟩ (.slice x (st.er.length + 1) cx)) := by
  obtain ⟨i1, hj, hy0, hy1, hy2⟩ := info_parts int_info18
  unfold szS at hl
  obtain ⟨x, cx, w5, hrun, hG⟩ := h.gr2.append1 hj hy0 hy1 hy2 rfl Try.underlying71 (.int .i64 v) rfl (by unfold maxLen; omega) (by omega)
  have hf := hG.full
  obtain ⟨Rx, hp⟩ := h.put2 hG
  refine ⟨x, cx, w5, Rx, hrun, fun y hy => hf.block (List.mem_cons_of_mem _ ?_), hf.block (List.mem_cons_self ..), fun y hy => hf.block (List.mem_cons_of_mem _ (List.mem_append_left _ hy)), hp⟩
  exact List.mem_append_right _ (List.mem_append_right _ (List.mem_append_right _ (List.mem_append_right _ hy)))
theorem SP1.app3 (h : SP1 W0 m n t g s ty ty0 sz0 k0 xs0 st E a0 a1 a2 a3 a4 c0 c1 c2 c3 c4 R0 R1 R2 R3 R4 w) (v : Int) (hl : szS st ≤ 100000) :
    ∃ (x : Option Addr) (cx : Nat) (w5 : World) (Rx : List (Nat × Obj)), (Builtin.append_ #[71, 71] 71 #[.slice a3 st.at_.length c3, .slice (some ⟨w.heap.size, 0, none⟩) 1 1]).run Try.prog (w.alloc (.cells #[.int .i64 v] 3)) = .ok (.slice x (st.at_.length + 1) cx) w5 ∧
      (∀ x ∈ E, w5.heap[x.1]? = some x.2) ∧ w5.heap[s]? = some (.cells (spC a0 a1 a2 a3 a4 k0 c0 c1 c2 c3 c4 st) ty (0, 0)) ∧ (∀ x ∈ R0, w5.heap[x.1]? = some x.2) ∧
      SP1 W0 m n t g s ty ty0 sz0 k0 xs0 { st with at_ := st.at_ ++ [v] } E a0 a1 a2 x a4 c0 c1 c2 cx c4 R0 R1 R2 Rx R4 (w5.setCell ⟨s, 3, none⟩ (.slice x (st.at_.length + 1) cx)) := by
  obtain ⟨i1, hj, hy0, hy1, hy2⟩ := info_parts int_info18
  unfold szS at hl
  obtain ⟨x, cx, w5, hrun, hG⟩ := h.gr3.append1 hj hy0 hy1 hy2 rfl Try.underlying71 (.int .i64 v) rfl (by unfold maxLen; omega) (by omega)
  have hf := hG.full
  obtain ⟨Rx, hp⟩ := h.put3 hG
  refine ⟨x, cx, w5, Rx, hrun, fun y hy => hf.block (List.mem_cons_of_mem _ ?_), hf.block (List.mem_cons_self ..), fun y hy => hf.block (List.mem_cons_of_mem _ (List.mem_append_left _ hy)), hp⟩
  exact List.mem_append_right _ (List.mem_append_right _ (List.mem_append_right _ (List.mem_append_right _ hy)))
theorem SP1.app4 (h : SP1 W0 m n t g s ty ty0 sz0 k0 xs0 st E a0 a1 a2 a3 a4 c0 c1 c2 c3 c4 R0 R1 R2 R3 R4 w) (v : Bool) (hl : szS st ≤ 100000) :
    ∃ (x : Option Addr) (cx : Nat) (w5 : World) (Rx : List (Nat × Obj)), (Builtin.append_ #[72, 72] 72 #[.slice a4 st.en.length c4, .slice (some ⟨w.heap.size, 0, none⟩) 1 1]).run Try.prog (w.alloc (.cells #[.bool v] 4)) = .ok (.slice x (st.en.length + 1) cx) w5 ∧
      (∀ x ∈ E, w5.heap[x.1]? = some x.2) ∧ w5.heap[s]? = some (.cells (spC a0 a1 a2 a3 a4 k0 c0 c1 c2 c3 c4 st) ty (0, 0)) ∧ (∀ x ∈ R0, w5.heap[x.1]? = some x.2) ∧
      SP1 W0 m n t g s ty ty0 sz0 k0 xs0 { st with en := st.en ++ [v] } E a0 a1 a2 a3 x c0 c1 c2 c3 cx R0 R1 R2 R3 Rx (w5.setCell ⟨s, 4, none⟩ (.slice x (st.en.length + 1) cx)) := by
  obtain ⟨i1, hj, hy0, hy1, hy2⟩ := info_parts bool_info10
  unfold szS at hl
  obtain ⟨x, cx, w5, hrun, hG⟩ := h.gr4.append1 hj hy0 hy1 hy2 rfl Try.underlying72 (.bool v) rfl (by unfold maxLen; omega) (by omega)
  have hf := hG.full
  obtain ⟨Rx, hp⟩ := h.put4 hG
  refine ⟨x, cx, w5, Rx, hrun, fun y hy => hf.block (List.mem_cons_of_mem _ ?_), hf.block (List.mem_cons_self ..), fun y hy => hf.block (List.mem_cons_of_mem _ (List.mem_append_left _ hy)), hp⟩
  exact List.mem_append_right _ (List.mem_append_right _ (List.mem_append_right _ (List.mem_append_right _ hy)))
end
end Go.Proofs.Ytkcijlndblbidaa
