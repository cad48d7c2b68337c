/- A slice of the call's own whose cells are told by a function of the index: store, store of a run, append, append of zeros, clear. -/
import Derived.Test.YtplkogjnmjjjgaaSep
import Derived.Laws.AppendOwn
import Derived.Laws.OwnMore
import Derived.Deep.AppendLies
import Derived.Lib.SliceRun
namespace Go.Proofs.Ytplkogjnmjjjgaa
open Go.ChangeShapes Go.WideShapes Go.ChangeAt Go.RowKit
set_option linter.unusedVariables false

theorem far {w : World} {p : Addr} {v : Value} {k : Nat} (h : k ≠ p.block) : (w.setCell p v).heap[k]? = w.heap[k]? := Below.heap_setCell w p v k h
def ftab (n : Nat) (f : Nat → Value) : List Value := (List.range n).map f
theorem ftab_length (n : Nat) (f : Nat → Value) : (ftab n f).length = n := by simp [ftab]
theorem ftab_get (n : Nat) (f : Nat → Value) (i : Nat) : (ftab n f)[i]? = if i < n then some (f i) else none := by
  unfold ftab
  rw [List.getElem?_map]
  by_cases h : i < n
  · rw [List.getElem?_range h, if_pos h]; rfl
  · rw [List.getElem?_eq_none (by simp; omega), if_neg h]; rfl
theorem ftab_congr {n : Nat} {f g : Nat → Value} (h : ∀ i, i < n → f i = g i) : ftab n f = ftab n g := by
  apply List.ext_getElem?
  intro i
  rw [ftab_get, ftab_get]
  split
  · rename_i hi; rw [h i hi]
  · rfl
theorem ftab_set (n : Nat) (f : Nat → Value) (j : Nat) (v : Value) : (ftab n f).set j v = ftab n fun i => if i = j then v else f i := by
  apply List.ext_getElem?
  intro i
  rw [List.getElem?_set, ftab_get, ftab_get, ftab_length]
  by_cases h : j = i
  · subst h; simp
  · rw [if_neg h]
    split
    · rw [if_neg (fun e => h e.symm)]
    · rfl
theorem ftab_append (n m : Nat) (f g : Nat → Value) : ftab n f ++ ftab m g = ftab (n + m) fun i => if i < n then f i else g (i - n) := by
  apply List.ext_getElem?
  intro i
  rw [List.getElem?_append, ftab_length, ftab_get, ftab_get, ftab_get]
  by_cases h : i < n
  · rw [if_pos h, if_pos (show i < n + m by omega)]; simp [h]
  · rw [if_neg h]
    by_cases h2 : i - n < m
    · rw [if_pos h2, if_pos (by omega)]; simp [h]
    · rw [if_neg h2, if_neg (by omega)]
theorem ftab_replicate (m : Nat) (z : Value) : List.replicate m z = ftab m fun _ => z := by
  apply List.ext_getElem?
  intro i
  rw [ftab_get, List.getElem?_replicate]
/-- the slice v of n elements of one cell each, at B or later, holds f 0, f 1, .. -/
def OwnF (B : Nat) (e : TypeId) (v : Value) (n : Nat) (f : Nat → Value) (w : World) : Prop := w.ownsRow B e 1 v n (ftab n f)
theorem own_from {w w' : World} {base size n : Nat} {e : TypeId} {v : Value} {xs : List Value} (h : w.ownsRow base e size v n xs) (hh : ∀ g, v.ownBlock = some g → w'.heap[g]? = w.heap[g]?) : w'.ownsRow base e size v n xs := by
  refine ⟨h.1, ?_⟩
  rcases h.2 with e | ⟨g, c, cur, e, h1, h2, h3⟩
  · exact .inl e
  · exact .inr ⟨g, c, cur, e, h1, (hh g (by rw [e]; rfl)).trans h2, h3⟩
theorem OwnF.from {B n : Nat} {e : TypeId} {v : Value} {f : Nat → Value} {w w' : World} (h : OwnF B e v n f w) (hh : ∀ g, v.ownBlock = some g → w'.heap[g]? = w.heap[g]?) : OwnF B e v n f w' := own_from h hh
theorem OwnF.nil (B : Nat) (e : TypeId) (f : Nat → Value) (w : World) : OwnF B e (.slice none 0 0) 0 f w := World.ownsRow_nil w B e 1
theorem OwnF.congr {B n : Nat} {e : TypeId} {v : Value} {f g : Nat → Value} {w : World} (h : OwnF B e v n f w) (hh : ∀ i, i < n → f i = g i) : OwnF B e v n g w := by
  unfold OwnF
  rw [← ftab_congr hh]
  exact h
theorem OwnF.lt {B n : Nat} {e : TypeId} {v : Value} {f : Nat → Value} {w : World} (h : OwnF B e v n f w) : ∀ k, v.ownBlock = some k → B ≤ k ∧ k < w.heap.size := World.ownsRow.lt h
/-- where its block lies, and that it has its type -/
theorem OwnF.block {B n : Nat} {e : TypeId} {v : Value} {f : Nat → Value} {w : World} (h : OwnF B e v n f w) : ∀ k, v.ownBlock = some k → ∃ cur, w.heap[k]? = some (.cells cur e (0, 0)) := by
  intro k hk
  rcases h.2 with ⟨rfl, _⟩ | ⟨g, cap, cur, rfl, hb, hg, _⟩
  · cases hk
  · simp [Value.ownBlock] at hk
    subst hk
    exact ⟨cur, hg⟩
/-- rows of two types lie in two blocks -/
theorem OwnF.unlike {B B' n n' : Nat} {e e' : TypeId} {v v' : Value} {f f' : Nat → Value} {w : World} (h : OwnF B e v n f w) (h' : OwnF B' e' v' n' f' w) (he : e ≠ e') {k k' : Nat} (hk : v.ownBlock = some k) (hk' : v'.ownBlock = some k') : k ≠ k' := by
  intro e1
  obtain ⟨c, hc⟩ := h.block k hk
  obtain ⟨c', hc'⟩ := h'.block k' hk'
  rw [← e1, hc] at hc'
  simp at hc'
  exact he hc'.2
theorem OwnF.form {B n len cap : Nat} {e : TypeId} {a : Option Addr} {f : Nat → Value} {w : World} (h : OwnF B e (.slice a len cap) n f w) : len = n ∧ n ≤ cap ∧ cap ≤ maxLen ∧ (0 < n → ∃ g, a = some ⟨g, 0, none⟩ ∧ B ≤ g ∧ g < w.heap.size) ∧ ∀ ad, a = some ad → ∃ g, ad = ⟨g, 0, none⟩ := by
  rcases h.2 with ⟨e, h0⟩ | ⟨g, c, cur, e, hb, hg, hc, hm, _⟩
  · simp at e
    obtain ⟨rfl, rfl, rfl⟩ := e
    exact ⟨h0.symm, by omega, by unfold maxLen; omega, fun h => by omega, fun ad had => by cases had⟩
  · simp at e
    obtain ⟨rfl, rfl, rfl⟩ := e
    exact ⟨rfl, hc, hm, fun _ => ⟨g, rfl, hb, (Array.getElem?_eq_some_iff.1 hg).1⟩, fun ad had => ⟨g, by simpa using had.symm⟩⟩
theorem OwnF.cell {B n cap g : Nat} {e : TypeId} {f : Nat → Value} {w : World} (h : OwnF B e (.slice (some ⟨g, 0, none⟩) n cap) n f w) {i : Nat} (hi : i < n) : w.cell? ⟨g, i, none⟩ = some (f i) := by
  rw [World.ownsRow.cellAt h i (by omega), ftab_get, if_pos hi]
theorem OwnF.free {B n cap g : Nat} {e : TypeId} {f : Nat → Value} {w : World} (h : OwnF B e (.slice (some ⟨g, 0, none⟩) n cap) n f w) (i : Nat) : w.frozen? ⟨g, i, none⟩ = false := World.ownsRow.frozenAt h i
theorem OwnF.set {B n cap g : Nat} {e : TypeId} {f : Nat → Value} {w : World} (h : OwnF B e (.slice (some ⟨g, 0, none⟩) n cap) n f w) (j : Nat) (v : Value) :
    OwnF B e (.slice (some ⟨g, 0, none⟩) n cap) n (fun i => if i = j then v else f i) (w.setCell ⟨g, j, none⟩ v) := by
  have := (World.ownsRow.stored h j v).1
  rw [ftab_set] at this
  exact this
theorem OwnF.setCells {B n cap g : Nat} {e : TypeId} (z : Value) : ∀ (m : Nat) {f : Nat → Value} {w : World} (h : OwnF B e (.slice (some ⟨g, 0, none⟩) n cap) n f w) (o : Nat),
    OwnF B e (.slice (some ⟨g, 0, none⟩) n cap) n (fun i => if o ≤ i ∧ i < o + m then z else f i) (w.setCells g o (List.replicate m z))
  | 0, f, w, h, o => by
    refine OwnF.congr h fun i hi => ?_
    rw [if_neg (by omega)]
  | m + 1, f, w, h, o => by
    rw [List.replicate_succ, World.setCells]
    refine (OwnF.setCells z m (h.set o z) (o + 1)).congr fun i hi => ?_
    show (if o + 1 ≤ i ∧ i < o + 1 + m then z else if i = o then z else f i) = if o ≤ i ∧ i < o + (m + 1) then z else f i
    by_cases h1 : o ≤ i ∧ i < o + (m + 1)
    · rw [if_pos h1]
      by_cases h2 : i = o
      · rw [if_neg (by omega), if_pos h2]
      · rw [if_pos (by omega)]
    · rw [if_neg h1, if_neg (by omega), if_neg (by omega)]
theorem Chg.setCells {S : Nat → Prop} {w : World} {g : Nat} (hs : S g ∨ w.heap.size ≤ g) : ∀ (vs : List Value) (o : Nat) {a : World}, Chg S w a → Chg S w (a.setCells g o vs)
  | [], _, _, h => h
  | v :: vs, o, _, h => Chg.setCells hs vs (o + 1) (h.set (p := ⟨g, o, none⟩) hs v)
theorem setCells_far {g k : Nat} (hne : k ≠ g) : ∀ (vs : List Value) (o : Nat) (a : World), (a.setCells g o vs).heap[k]? = a.heap[k]?
  | [], _, _ => rfl
  | v :: vs, o, a => (setCells_far hne vs (o + 1) _).trans (Below.heap_setCell a ⟨g, o, none⟩ v k hne)
theorem setCells_size (g : Nat) : ∀ (vs : List Value) (o : Nat) (a : World), (a.setCells g o vs).heap.size = a.heap.size
  | [], _, _ => rfl
  | v :: vs, o, a => (setCells_size g vs (o + 1) _).trans (by simp [World.setCell])

theorem OwnF.headSet {b n : Nat} {e : TypeId} {v : Value} {f : Nat → Value} {w : World} (h : OwnF (b + 1) e v n f w) (j : Nat) (x : Value) : OwnF (b + 1) e v n f (w.setCell ⟨b, j, none⟩ x) :=
  h.from fun k hk => far (by have := (h.lt k hk).1; show k ≠ b; omega)
theorem OwnF.shrink {B n m cap g : Nat} {e : TypeId} {f : Nat → Value} {w : World} (h : OwnF B e (.slice (some ⟨g, 0, none⟩) n cap) n f w) (hm : m ≤ n) : OwnF B e (.slice (some ⟨g, 0, none⟩) m cap) m f w := by
  refine ⟨by rw [ftab_length, Nat.mul_one], ?_⟩
  rcases h.2 with ⟨e1, _⟩ | ⟨g', c, cur, e1, hb, hg, hc, hcm, hs, ht⟩
  · cases e1
  · simp at e1
    obtain ⟨rfl, rfl⟩ := e1
    refine .inr ⟨g, cap, cur, rfl, hb, hg, by omega, hcm, hs, ?_⟩
    rw [Nat.mul_one] at ht ⊢
    have : (cur.toList.take n).take m = ftab m f := by
      rw [ht]
      apply List.ext_getElem?
      intro i
      rw [List.getElem?_take, ftab_get, ftab_get]
      by_cases hi : i < m
      · rw [if_pos hi, if_pos hi, if_pos (by omega)]
      · rw [if_neg hi, if_neg hi]
    rw [List.take_take, show min m n = m by omega] at this
    exact this
theorem own_of_some' {a : Option Addr} {n c g : Nat} (h : (Value.slice a n c).ownBlock = some g) : ∃ ad, a = some ad ∧ ad.block = g := by
  cases a with
  | none => cases h
  | some ad => exact ⟨ad, rfl, by simpa [Value.ownBlock] using h⟩
theorem zeroCells_list (z : Value) (m : Nat) : (Builtin.zeroCells #[z] m).toList = List.replicate m z := by
  simp [Builtin.zeroCells]
  apply List.ext_getElem
  · simp
  · intro i h1 h2
    simp [Nat.mod_one]
theorem zeroCells_eq (z : Value) (m : Nat) : Builtin.zeroCells #[z] m = (List.replicate m z).toArray := by
  apply Array.toList_inj.1
  rw [zeroCells_list]
theorem made_row (w : World) (base : Nat) (e : TypeId) (z : Value) (n m old : Nat) (f : Nat → Value) (h63 : n + m ≤ maxLen) (hbase : base ≤ w.heap.size) (row : Option Nat) :
    OwnF base e (.slice (some ⟨w.heap.size, 0, none⟩) (n + m) (grownCap w (n + m) old e)) (n + m) (fun i => if i < n then f i else z) (w.drew.alloc (.cells ((ftab n f).toArray ++ (Builtin.zeroCells #[z] m ++ Builtin.zeroCells #[z] (grownCap w (n + m) old e - (n + m)))) e)) ∧
      w.grownBy (w.drew.alloc (.cells ((ftab n f).toArray ++ (Builtin.zeroCells #[z] m ++ Builtin.zeroCells #[z] (grownCap w (n + m) old e - (n + m)))) e)) row := by
  have hge := grownCap_ge w (n + m) old e
  have hcm : grownCap w (n + m) old e ≤ maxLen := grownCap_le_maxLen w (n + m) old e h63
  refine ⟨⟨by rw [ftab_length, Nat.mul_one], .inr ⟨w.heap.size, _, _, rfl, hbase, heap_alloc_new w.drew _, hge, hcm, ?_, ?_⟩⟩, ⟨rfl, rfl, rfl, by simp, fun k hk _ => Below.heap_alloc w.drew _ k hk⟩⟩
  · simp only [zeroCells_eq, Array.size_append, List.size_toArray, ftab_length, List.length_replicate]
    omega
  · simp only [zeroCells_eq, Array.toList_append, Nat.mul_one]
    rw [← List.append_assoc, ftab_replicate m z, ftab_append, List.take_left' (by simp [ftab_length])]
section
variable {P : Program} (w : World)
/-- append(s, make([]E, m)...), m > 0, E of one cell -/
theorem run_append_made (base : Nat) (t u ty e : TypeId) (k : IntKind) (i : TypeInfo) (z : Value) (bytes : Nat) (ht : P.underlying t = some (.slice e)) (hu : P.underlying u = some (.int k)) (hi : P.info? e = some i) (hz : i.zero = some z)
    (hsize : i.size = 1) (hby : i.bytes = bytes) (hzc : z.cells = #[z]) (h1 : z.oneCell' = true)
    (v : Value) (n : Nat) (f : Nat → Value) (hown : OwnF base e v n f w) (m : Nat) (hm : 0 < m) (h63 : n + m ≤ maxLen) (hbytes : (n + m) * bytes ≤ 140737488355328) (hbase : base ≤ w.heap.size) :
    ∃ g cap w', (Builtin.append_ #[t, u] ty #[v, .int .i64 (m : Int)]).run P w = .ok (.slice (some ⟨g, 0, none⟩) (n + m) cap) w' ∧ OwnF base e (.slice (some ⟨g, 0, none⟩) (n + m) cap) (n + m) (fun i => if i < n then f i else z) w' ∧
      w.grownBy w' v.ownBlock ∧ (v.ownBlock = some g ∨ g = w.heap.size) ∧ g < w'.heap.size := by
  subst hby
  have hwrap : IntKind.i64.wrap (m : Int) = m := by rw [IntKind.wrap_i64]; unfold maxLen at h63; omega
  have hneg : ¬ (m : Int) < 0 := by omega
  have hmb : m * i.bytes ≤ 140737488355328 := Nat.le_trans (Nat.mul_le_mul_right _ (by omega)) hbytes
  have h48 : ¬ (281474976710656 < (m : Int) * (i.bytes : Int)) := by
    have : ((m * i.bytes : Nat) : Int) ≤ 140737488355328 := by omega
    rw [Int.natCast_mul] at this
    omega
  have hm0 : m ≠ 0 := by omega
  have hpos : ¬ (m : Int) ≤ 0 := by omega
  rcases hown.2 with ⟨rfl, rfl⟩ | ⟨g, cap, cur, rfl, hbg, hg, hnc, hcm, hcs, htake⟩
  · have h63' : ¬ (9223372036854775807 < (m : Int)) := by unfold maxLen at h63; omega
    have h48' : ¬ (281474976710656 < Builtin.nextslicecap m 0 * i.bytes) := by rw [nextslicecap_zero hm]; omega
    have hgr := made_row w base e z 0 m 0 f h63 hbase none
    refine ⟨_, _, _, ?_, hgr.1, hgr.2, .inr rfl, by simp⟩
    simp [Builtin.append_, run_underlying ht, run_underlying hu, sizeOf, typeInfo, zeroValue, hi, hz, hsize, hzc, asInt, asIntOf, hwrap, hneg, h48, hm0, h63', h48', Question.forced, run_firstCells_none, newRow, grownCap, ftab]
  · have hlx := ftab_length n f
    rw [Nat.mul_one] at hcs htake
    by_cases hroom : n + m ≤ cap
    · have hall : ∀ u ∈ List.replicate m z, u.oneCell' = true := fun u hu => by rw [List.eq_of_mem_replicate hu]; exact h1
      have hst := run_storeCells_at P g n e (List.replicate m z) 0 cur w hg (by simp; omega) hall
      simp only [Nat.add_zero] at hst
      refine ⟨g, cap, w.setRow g (cur.toList.take n ++ List.replicate m z ++ cur.toList.drop (n + m)).toArray, ?_, ⟨by rw [ftab_length, Nat.mul_one], .inr ⟨g, cap, _, rfl, hbg, setRow_heap w g cur _ e _ hg, hroom, hcm, ?_, ?_⟩⟩, ⟨rfl, rfl, rfl, by simp, fun k _ hk => setRow_other w g k _ (fun e => hk (by simp [Value.ownBlock, e]))⟩, .inl rfl, ?_⟩
      · simp [Builtin.append_, run_underlying ht, run_underlying hu, sizeOf, typeInfo, zeroValue, hi, hz, hsize, hzc, asInt, asIntOf, hwrap, hneg, h48, hm0, hroom, zeroCells_list, Addr.add_lit, hst]
      · simp
        omega
      · rw [Nat.mul_one, htake, ftab_replicate, ftab_append]
        exact List.take_left' (by simp [ftab_length])
      · have := (Array.getElem?_eq_some_iff.1 hg).1
        simpa using this
    · have holds : ∀ j u, (ftab n f)[j]? = some u → w.drew.cell? ((⟨g, 0, none⟩ : Addr).add j) = some u := World.ownsRow.cells (h := (show w.drew.ownsRow base e 1 (.slice (some ⟨g, 0, none⟩) n cap) n (ftab n f) from own_from hown (fun _ _ => rfl))) (g := g) rfl
      have hfo := run_firstCells_some (P := P) w.drew 1 n ⟨g, 0, none⟩ n cap (ftab n f) (by rw [ftab_length, Nat.mul_one]) holds
      have h63' : ¬ (9223372036854775807 < ((n : Int) + (m : Int))) := by unfold maxLen at h63; omega
      have h48' : ¬ (281474976710656 < Builtin.nextslicecap (n + m) cap * i.bytes) := by
        have := growslice_fits (need := n + m) (old := cap) (by omega) hbytes
        omega
      have hgr := made_row w base e z n m cap f h63 hbase (Value.ownBlock (.slice (some ⟨g, 0, none⟩) n cap))
      refine ⟨_, _, _, ?_, hgr.1, hgr.2, .inr rfl, by simp⟩
      simp [Builtin.append_, run_underlying ht, run_underlying hu, sizeOf, typeInfo, zeroValue, hi, hz, hsize, hzc, asInt, asIntOf, hwrap, hneg, h48, hm0, hroom, h63', h48', Question.forced, hfo, newRow, grownCap]
/-- at a step of a region that draws its order: an append whose run is known -/
theorem step_append_run {ops : Array Oper} {o : Oper} {a : Act} {K : Act → World → Prop} {Q : Exit → Act → World → Prop} {E : Prop} (hgd : o.guard = none) (s x : Operand) (t u ty : TypeId)
    (ho : o.op = .call { callee := .builtin .append, args := #[s, x], argTypes := #[t, u] }) (hty : o.type = ty) (v y : Value) (hs : a.eval s = v) (hx : a.eval x = y) (r : Value) (w' : World)
    (hr : (Builtin.append_ #[t, u] ty #[v, y]).run P w = .ok r w') (h : K (a.put o.dst r) w') :
    if Region.wanted o (yielded ops a.tmps) = true then Oper.wp P o a w K Q else E := by
  have hw : Region.wanted o (yielded ops a.tmps) = true := by simp [Region.wanted, hgd]
  rw [if_pos hw]
  unfold Oper.wp execOp
  simp only [ho, hty, resolve, invoke, builtin, Sem.run_bind, Sem.run_pure, Result.andThen_ok, List.map_toArray, List.map_cons, List.map_nil, hs, hx, hr]
  exact h
end
end Go.Proofs.Ytplkogjnmjjjgaa
