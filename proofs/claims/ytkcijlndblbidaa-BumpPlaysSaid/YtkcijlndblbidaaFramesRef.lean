/- The reference's pool: how it lies in memory, and the walks of New and At. -/
import Derived.Test.YtkcijlndblbidaaFrAll
namespace Go.Proofs.Ytkcijlndblbidaa.Fr
open Go.ChangeShapes Go.WideShapes Go.ChangeAt Go.RowKit
set_option linter.unusedVariables false

theorem frame_info : (Try.prog.info? 253).map (fun i => (i.zero, i.size, i.bytes)) = some (some (.agg #[.int .i64 0, .slice none 0 0]), 2, 32) := by kernel_rfl
/-- the taken frames with the blocks of their words, as cells -/
def fcells (page : Nat) : List (Nat × Nat) → List Value
  | [] => []
  | e :: es => .int .i64 e.1 :: .slice (some ⟨e.2, 0, none⟩) page page :: fcells page es
def fF (fs : List (Nat × Nat)) (i : Nat) : Nat := (fs.getD i (0, 0)).1
def fG (fs : List (Nat × Nat)) (i : Nat) : Nat := (fs.getD i (0, 0)).2
theorem fcells_length (page : Nat) (es : List (Nat × Nat)) : (fcells page es).length = es.length * 2 := by
  induction es with
  | nil => rfl
  | cons e es ih => simp [fcells, ih]; omega
theorem fcells_append (page : Nat) (a b : List (Nat × Nat)) : fcells page (a ++ b) = fcells page a ++ fcells page b := by
  induction a with
  | nil => rfl
  | cons e es ih => simp [fcells, ih]
theorem fcells_one (page : Nat) (es : List (Nat × Nat)) : ∀ u ∈ fcells page es, u.oneCell' = true := by
  induction es with
  | nil => intro u hu; cases hu
  | cons e es ih =>
    intro u hu
    simp only [fcells, List.mem_cons] at hu
    rcases hu with rfl | rfl | h
    · rfl
    · rfl
    · exact ih u h
theorem fcells_get (page : Nat) (es : List (Nat × Nat)) (i : Nat) (h : i < es.length) : (fcells page es)[i * 2]? = some (.int .i64 (fF es i)) ∧ (fcells page es)[i * 2 + 1]? = some (.slice (some ⟨fG es i, 0, none⟩) page page) := by
  induction es generalizing i with
  | nil => simp at h
  | cons e es ih =>
    cases i with
    | zero => exact ⟨rfl, rfl⟩
    | succ i =>
      have := ih i (by simpa using h)
      rw [show (i + 1) * 2 = i * 2 + 2 by omega]
      simpa [fcells, fF, fG] using this
theorem fcells_take (page : Nat) (es : List (Nat × Nat)) (k : Nat) : (fcells page es).take (k * 2) = fcells page (es.take k) := by
  induction es generalizing k with
  | nil => simp [fcells]
  | cons e es ih =>
    cases k with
    | zero => simp [fcells]
    | succ k => rw [show (k + 1) * 2 = k * 2 + 2 by omega]; simp [fcells, ih]
theorem fcells_drop (page : Nat) (es : List (Nat × Nat)) (k : Nat) : (fcells page es).drop (k * 2) = fcells page (es.drop k) := by
  induction es generalizing k with
  | nil => simp [fcells]
  | cons e es ih =>
    cases k with
    | zero => simp [fcells]
    | succ k => rw [show (k + 1) * 2 = k * 2 + 2 by omega]; simp [fcells, ih]
/-- the block of a frame's words -/
def WRow (page g : Nat) (f : Nat → Nat) (w : World) : Prop := w.heap[g]? = some (.cells (ftab page fun j => .int .u64 (f j)).toArray 23 (0, 0))
structure RPool (rb room page : Nat) (aL : Option Addr) (cL : Nat) (aB : Option Addr) (cB : Nat) (fs : List (Nat × Nat)) (s : PS) (w : World) : Prop where
  head : w.heap[rb]? = some (.cells #[.int .i64 room, .int .i64 page, .slice aL fs.length cL, .slice aB s.bk.length cB, .int .i64 s.n, .int .i64 s.high, .int .i64 s.times] 220 (0, 0))
  list : w.ownsRow (rb + 1) 253 2 (.slice aL fs.length cL) fs.length (fcells page fs)
  back : OwnF (rb + 1) 3 (.slice aB s.bk.length cB) s.bk.length (backV s) w
  words : ∀ i, i < fs.length → rb < fG fs i ∧ WRow page (fG fs i) (s.wd (fF fs i)) w
  apart : ∀ i j, i < fs.length → j < fs.length → fG fs i = fG fs j → i = j
theorem RPool.form {rb room page cL cB : Nat} {aL aB : Option Addr} {fs : List (Nat × Nat)} {s : PS} {w : World} (h : RPool rb room page aL cL aB cB fs s w) (h0 : 0 < fs.length) : ∃ g, aL = some ⟨g, 0, none⟩ ∧ rb < g ∧ g < w.heap.size := by
  obtain ⟨g, c, e, h1, h2⟩ := h.list.form h0
  simp at e
  exact ⟨g, e.1, by omega, h2⟩
theorem RPool.cell {rb room page cL cB g : Nat} {aB : Option Addr} {fs : List (Nat × Nat)} {s : PS} {w : World} (h : RPool rb room page (some ⟨g, 0, none⟩) cL aB cB fs s w) {i : Nat} (hi : i < fs.length) :
    w.cell? ⟨g, i * 2, none⟩ = some (.int .i64 (fF fs i)) ∧ w.cell? ⟨g, i * 2 + 1, none⟩ = some (.slice (some ⟨fG fs i, 0, none⟩) page page) := by
  have h1 := h.list.cellAt (i * 2) (by omega)
  have h2 := h.list.cellAt (i * 2 + 1) (by omega)
  obtain ⟨e1, e2⟩ := fcells_get page fs i hi
  exact ⟨h1.trans e1, h2.trans e2⟩
/-- where a frame stands -/
def IsAt (es : List (Nat × Nat)) (p r : Int) : Prop :=
  (r = -1 ∧ ∀ i, i < es.length → (fF es i : Int) ≠ p) ∨ ∃ i : Nat, i < es.length ∧ r = i ∧ (fF es i : Int) = p ∧ ∀ j, j < i → (fF es j : Int) ≠ p
/-- the entries are the taken frames, each once -/
structure RelP (fs : List (Nat × Nat)) (s : PS) : Prop where
  each : ∀ i, i < fs.length → has s (fF fs i) = true
  all : ∀ f : Int, has s f = true → ∃ i, i < fs.length ∧ (fF fs i : Int) = f
  once : ∀ i j, i < fs.length → j < fs.length → fF fs i = fF fs j → i = j
  many : s.used = fs.length
theorem RelP.not {fs : List (Nat × Nat)} {s : PS} (h : RelP fs s) {f : Int} (h0 : ¬ has s f = true) : IsAt fs f (-1) := .inl ⟨rfl, fun i hi e => h0 (by rw [← e]; exact h.each i hi)⟩
theorem RelP.at {fs : List (Nat × Nat)} {s : PS} (h : RelP fs s) {f : Int} (h0 : has s f = true) : ∃ i, i < fs.length ∧ IsAt fs f i ∧ (fF fs i : Int) = f := by
  obtain ⟨i, hi, e⟩ := h.all f h0
  refine ⟨i, hi, .inr ⟨i, hi, rfl, e, fun j hj k => ?_⟩, e⟩
  have := h.once i j hi (by omega) (by omega)
  omega
/-- the reference's pool in block rb, its blocks among T, that tells the same as s -/
def Rf (T : Nat → Prop) (rb room page : Nat) (s : PS) (w : World) : Prop :=
  ∃ aL cL aB cB fs, RPool rb room page aL cL aB cB fs s w ∧ RelP fs s ∧ (T rb ∧ (∀ a, aL = some a → T a.block) ∧ (∀ a, aB = some a → T a.block) ∧ ∀ i, i < fs.length → T (fG fs i)) ∧ In T w
theorem Rf.in {T : Nat → Prop} {rb room page : Nat} {s : PS} {w : World} (h : Rf T rb room page s w) : In T w := by
  obtain ⟨_, _, _, _, _, _, _, _, h⟩ := h; exact h
theorem Rf.keep {S T : Nat → Prop} {rb room page : Nat} {s : PS} {w w' : World} (h : Rf T rb room page s w) (c : Chg S w w') (ap : Apart T S) : Rf T rb room page s w' := by
  obtain ⟨aL, cL, aB, cB, fs, hR, hF, ⟨t1, t2, t3, t4⟩, hI⟩ := h
  refine ⟨aL, cL, aB, cB, fs, ⟨c.keep hR.head (fun s => ap _ t1 s), own_from hR.list fun g hg => ?_, hR.back.from fun g hg => ?_, fun i hi => ⟨(hR.words i hi).1, c.keep (hR.words i hi).2 (fun s => ap _ (t4 i hi) s)⟩, hR.apart⟩, hF, ⟨t1, t2, t3, t4⟩, hI.mono c.size⟩
  · obtain ⟨ad, rfl, rfl⟩ := own_of_some hg
    exact c.2.2.2.2 ad.block (hR.list.lt _ hg).2 (fun t => ap _ (t2 ad rfl) t)
  · obtain ⟨ad, rfl, rfl⟩ := own_of_some hg
    exact c.2.2.2.2 ad.block (hR.back.lt _ hg).2 (fun t => ap _ (t3 ad rfl) t)
theorem Rf.grow {T : Nat → Prop} {rb room page : Nat} {s : PS} {w w' : World} (h : Rf T rb room page s w) (c : Below w.heap.size w w') : Rf T rb room page s w' :=
  h.keep (S := fun _ => False) (Chg.of c) (fun _ _ h => h)
def RfDid (T : Nat → Prop) (rb room page : Nat) (s : PS) (w w' : World) : Prop := ∃ T', Rf T' rb room page s w' ∧ Chg T w w' ∧ Grew T T' w
theorem RfDid.of {T : Nat → Prop} {rb room page : Nat} {s : PS} {w w' : World} (h : Rf T rb room page s w) (c : Below w.heap.size w w') : RfDid T rb room page s w w' := ⟨T, h.grow c, Chg.of c, Grew.refl _ _⟩
end Go.Proofs.Ytkcijlndblbidaa.Fr
