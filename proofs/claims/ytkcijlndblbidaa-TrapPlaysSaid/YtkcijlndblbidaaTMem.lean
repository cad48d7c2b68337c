/- A memory all of whose words are there (pages of one word), and a piece of work on it with its log. -/
import Derived.Test.YtkcijlndblbidaaVAll
import Derived.Deep.RegionWith
namespace Go.Proofs.Ytkcijlndblbidaa
open Go.ChangeShapes Go.WideShapes Go.ChangeAt Go.RowKit
set_option linter.unusedVariables false

/-- a memory of n words, all of them there, g the words; K: blocks beside it that stay -/
def FK (W0 : World) (m n t : Nat) (g : Nat → Nat) (K : List (Nat × Obj)) (w : World) : Prop := ∃ v, VK W0 m n 1 n t v K w ∧ ∀ p, p < n → v.mp p = true ∧ v.wd p = g p
def putG (g : Nat → Nat) (a x : Nat) : Nat → Nat := fun b => if b = a then x else g b
/-- is an address there? -/
def inG (n : Nat) (a : Int) : Bool := decide (0 ≤ a ∧ a < n)
theorem inG_true {n : Nat} {a : Int} (h : inG n a = true) : 0 ≤ a ∧ a < n := by simpa [inG] using h
theorem inG_false {n : Nat} {a : Int} (h : inG n a = false) : a < 0 ∨ (n : Int) ≤ a := by
  simp [inG] at h
  omega
section
variable {W0 : World} {m n t t' : Nat} {g : Nat → Nat} {K K' : List (Nat × Obj)} {w w' : World}
theorem loadE_full {v : VS} (hv : ∀ p, p < n → v.mp p = true ∧ v.wd p = g p) (a : Int) : loadE n 1 v a = (if inG n a then 0 else 11) ∧ (loadW n 1 v a : Int) = if inG n a then (g a.toNat : Int) else 0 := by
  cases h : inG n a with
  | true =>
    obtain ⟨h1, h2⟩ := inG_true h
    have e : loadE n 1 v a = 0 := by
      unfold loadE
      rw [if_neg (by omega), Nat.div_one, if_pos (hv _ (by omega)).1]
    unfold loadW
    rw [if_pos e, e, (hv _ (by omega)).2]
    exact ⟨rfl, rfl⟩
  | false =>
    have h1 := inG_false h
    have e : loadE n 1 v a = 11 := by unfold loadE; rw [if_pos h1]
    unfold loadW
    rw [e]
    exact ⟨rfl, rfl⟩
theorem load_fk (h : FK W0 m n t g K w) (a : Int) :
    Calls Try.prog 24 #[.pointer (some ⟨m, 0, none⟩), .int .i64 a] w fun e w' => e = .returned (.tuple #[.int .u64 (if inG n a then (g a.toNat : Int) else 0), .int .i64 (if inG n a then 0 else 11)]) ∧ FK W0 m n t g K w' := by
  obtain ⟨v, hk, hv⟩ := h
  obtain ⟨e1, e2⟩ := loadE_full hv a
  have := load_vk hk a
  rw [e1, e2] at this
  exact this.mono fun e w' ⟨he, k⟩ => ⟨he, v, k, hv⟩
theorem store_fk (h : FK W0 m n t g K w) (a : Int) (x : Nat) (hx : x < 18446744073709551616) :
    Calls Try.prog 19 #[.pointer (some ⟨m, 0, none⟩), .int .i64 a, .int .u64 x] w fun e w' => e = .returned (.int .i64 (if inG n a then 0 else 11)) ∧ FK W0 m n t (if inG n a then putG g a.toNat x else g) K w' := by
  obtain ⟨v, hk, hv⟩ := h
  obtain ⟨e1, -⟩ := loadE_full hv a
  have hst := store_vk hk a x hx
  rw [e1] at hst
  refine hst.mono fun e w' ⟨he, k⟩ => ⟨he, _, k, fun p hp => ?_⟩
  unfold storeV
  rw [e1]
  cases hi : inG n a with
  | true =>
    rw [if_pos rfl, if_pos rfl, if_pos rfl]
    refine ⟨(hv p hp).1, ?_⟩
    show (if p = a.toNat then x else v.wd p) = if p = a.toNat then x else g p
    split
    · rfl
    · exact (hv p hp).2
  | false => exact hv p hp
theorem FK.grow (h : FK W0 m n t g K w) (c : Below w.heap.size w w') : FK W0 m n t g K w' := by
  obtain ⟨v, hk, hv⟩ := h
  exact ⟨v, hk.grow c, hv⟩
theorem FK.box (h : FK W0 m n t g K w) (cs : Array Value) (ty : TypeId) : FK W0 m n t g ((w.heap.size, .cells cs ty (0, 0)) :: K) (w.alloc (.cells cs ty)) := by
  obtain ⟨v, hk, hv⟩ := h
  exact ⟨v, hk.box cs ty, hv⟩
theorem FK.sub (h : FK W0 m n t g K w) (hs : ∀ x ∈ K', x ∈ K) : FK W0 m n t g K' w := by
  obtain ⟨v, hk, hv⟩ := h
  exact ⟨v, hk.sub hs, hv⟩
theorem FK.tail {x : Nat × Obj} (h : FK W0 m n t g (x :: K) w) : FK W0 m n t g K w := h.sub fun y hy => List.mem_cons_of_mem _ hy
theorem FK.below (h : FK W0 m n t g K w) : Below W0.heap.size W0 w := by
  obtain ⟨v, hk, hv⟩ := h
  exact hk.below
theorem FK.block (h : FK W0 m n t g K w) {X : Nat} {o : Obj} (hx : (X, o) ∈ K) : w.heap[X]? = some o := by
  obtain ⟨v, hk, hv⟩ := h
  exact hk.block hx
theorem FK.set {X : Nat} {cs : Array Value} {ty : TypeId} (h : FK W0 m n t g ((X, .cells cs ty (0, 0)) :: K) w) (hX : W0.heap.size ≤ X) (hK : ∀ x ∈ K, x.1 ≠ X) (j : Nat) (x : Value) : FK W0 m n t g ((X, .cells (cs.setIfInBounds j x) ty (0, 0)) :: K) (w.setCell ⟨X, j, none⟩ x) := by
  obtain ⟨v, hk, hv⟩ := h
  exact ⟨v, hk.set hX hK j x, hv⟩
theorem FK.same (h : FK W0 m n t g K w) {g' : Nat → Nat} (hg : ∀ p, p < n → g' p = g p) : FK W0 m n t g' K w := by
  obtain ⟨v, hk, hv⟩ := h
  exact ⟨v, hk, fun p hp => by rw [hg p hp]; exact hv p hp⟩
theorem FK.dims (h : FK W0 m n t g K w) : 1 ≤ n ∧ n ≤ 4096 := by
  obtain ⟨v, ⟨S, hv, _⟩, _⟩ := h
  obtain ⟨h1, -, -, h4, -, -⟩ := hv.dims
  omega
end
/-- entries of a log as cells -/
def ocells : List (Nat × Nat) → List Value
  | [] => []
  | e :: es => .int .i64 e.1 :: .int .u64 e.2 :: ocells es
theorem ocells_length (es : List (Nat × Nat)) : (ocells es).length = es.length * 2 := by
  induction es with
  | nil => rfl
  | cons e es ih => simp [ocells, ih]; omega
theorem ocells_append (a b : List (Nat × Nat)) : ocells (a ++ b) = ocells a ++ ocells b := by
  induction a with
  | nil => rfl
  | cons e es ih => simp [ocells, ih]
theorem ocells_one (es : List (Nat × Nat)) : ∀ u ∈ ocells es, u.oneCell' = true := by
  induction es with
  | nil => intro u hu; cases hu
  | cons e es ih =>
    intro u hu
    simp only [ocells, List.mem_cons] at hu
    rcases hu with rfl | rfl | h
    · rfl
    · rfl
    · exact ih u h
theorem ocells_get (es : List (Nat × Nat)) (i : Nat) (h : i < es.length) : (ocells es)[i * 2]? = some (.int .i64 (es.getD i (0, 0)).1) ∧ (ocells es)[i * 2 + 1]? = some (.int .u64 (es.getD i (0, 0)).2) := by
  induction es generalizing i with
  | nil => simp at h
  | cons e es ih =>
    cases i with
    | zero => exact ⟨rfl, rfl⟩
    | succ i =>
      have := ih i (by simpa using h)
      rw [show (i + 1) * 2 = i * 2 + 2 by omega]
      simpa [ocells] using this
theorem ocells_take (es : List (Nat × Nat)) (k : Nat) : (ocells es).take (k * 2) = ocells (es.take k) := by
  induction es generalizing k with
  | nil => simp [ocells]
  | cons e es ih =>
    cases k with
    | zero => simp [ocells]
    | succ k => rw [show (k + 1) * 2 = k * 2 + 2 by omega]; simp [ocells, ih]
/-- the words behind the undoing of a log's entries, the last one first -/
def undoG (g : Nat → Nat) (l : List (Nat × Nat)) : Nat → Nat := l.foldr (fun e h => putG h e.1 e.2) g
/-- a piece of work (block wk) on a memory, its log l; blocks K beside them stay -/
structure TW1 (W0 : World) (m wk n t : Nat) (g : Nat → Nat) (l : List (Nat × Nat)) (K : List (Nat × Obj)) (al : Option Addr) (cap : Nat) (S : Nat → Prop) (v : VS) (w : World) : Prop where
  vm : Vm S m n 1 n t v w
  words : ∀ p, p < n → v.mp p = true ∧ v.wd p = g p
  head : w.heap[wk]? = some (.cells #[.iface 26 (.pointer (some ⟨m, 0, none⟩)), .slice al l.length cap] 186 (0, 0))
  row : w.ownsRow W0.heap.size 190 2 (.slice al l.length cap) l.length (ocells l)
  upS : Fr.Up W0.heap.size S
  below : Below W0.heap.size W0 w
  outw : ¬ S wk
  low : W0.heap.size ≤ wk
  outr : ∀ ad, al = some ad → ¬ S ad.block ∧ ∀ x ∈ K, x.1 ≠ ad.block
  outk : ∀ x ∈ K, ¬ S x.1 ∧ x.1 ≠ wk ∧ w.heap[x.1]? = some x.2
  small : ∀ e ∈ l, e.1 < n ∧ e.2 < 18446744073709551616
def TW (W0 : World) (m wk n t : Nat) (g : Nat → Nat) (l : List (Nat × Nat)) (K : List (Nat × Obj)) (w : World) : Prop := ∃ al cap S v, TW1 W0 m wk n t g l K al cap S v w
section
variable {W0 : World} {m wk n t t' : Nat} {g g' : Nat → Nat} {l : List (Nat × Nat)} {K K' : List (Nat × Obj)} {al : Option Addr} {cap : Nat} {S : Nat → Prop} {v v' : VS} {w w' : World}
theorem TW1.did (h : TW1 W0 m wk n t g l K al cap S v w) (hd : VDid S m n 1 n t' v' w w') (hg : ∀ p, p < n → v'.mp p = true ∧ v'.wd p = g' p) : ∃ S', TW1 W0 m wk n t' g' l K al cap S' v' w' := by
  obtain ⟨S', k1, k2, k3⟩ := hd
  have old : ∀ k, k < w.heap.size → ¬ S k → ¬ S' k := fun k hk hn hs => by
    rcases k3 k hs with a | a
    · exact hn a
    · omega
  have rowlt : ∀ ad, al = some ad → ad.block < w.heap.size := fun ad e => (h.row.lt ad.block (by rw [e]; rfl)).2
  refine ⟨S', k1, hg, k2.keep h.head h.outw, own_from h.row fun q hq => ?_, fun k hk => ?_, h.below.trans (k2.below h.upS h.below.size), old _ (block_lt h.head) h.outw, h.low, fun ad e => ⟨old _ (rowlt ad e) (h.outr ad e).1, (h.outr ad e).2⟩, fun x hx => ⟨old _ (block_lt (h.outk x hx).2.2) (h.outk x hx).1, (h.outk x hx).2.1, k2.keep (h.outk x hx).2.2 (h.outk x hx).1⟩, h.small⟩
  · obtain ⟨ad, e1, rfl⟩ := own_of_some' hq
    exact k2.2.2.2.2 ad.block (rowlt ad e1) (h.outr ad e1).1
  · rcases k3 k hk with a | a
    · exact h.upS k a
    · have := h.below.size; omega
theorem TW.grow (h : TW W0 m wk n t g l K w) (c : Below w.heap.size w w') : TW W0 m wk n t g l K w' := by
  obtain ⟨al, cap, S, v, h⟩ := h
  obtain ⟨S', k⟩ := h.did (VDid.of h.vm c) h.words
  exact ⟨al, cap, S', v, k⟩
theorem TW.space (h : TW W0 m wk n t g l K w) : w.cell? ⟨wk, 0, none⟩ = some (.iface 26 (.pointer (some ⟨m, 0, none⟩))) := by
  obtain ⟨al, cap, S, v, h⟩ := h
  exact at_cell h.head 0 _ rfl
theorem TW.log (h : TW W0 m wk n t g l K w) : ∃ al cap, w.cell? ⟨wk, 1, none⟩ = some (.slice al l.length cap) := by
  obtain ⟨al, cap, S, v, h⟩ := h
  exact ⟨al, cap, at_cell h.head 1 _ rfl⟩
theorem TW.dims (h : TW W0 m wk n t g l K w) : 1 ≤ n ∧ n ≤ 4096 := by
  obtain ⟨al, cap, S, v, h⟩ := h
  obtain ⟨h1, -, -, h4, -, -⟩ := h.vm.dims
  omega
theorem TW.many (h : TW W0 m wk n t g l K w) : l.length ≤ maxLen := by
  obtain ⟨al, cap, S, v, h⟩ := h
  rcases h.row.2 with ⟨e, h0⟩ | ⟨g, c, cur, e, hb, hg, hc, hm, _⟩
  · unfold maxLen; omega
  · omega
theorem TW.same (h : TW W0 m wk n t g l K w) {g' : Nat → Nat} (hg : ∀ p, p < n → g' p = g p) : TW W0 m wk n t g' l K w := by
  obtain ⟨al, cap, S, v, h⟩ := h
  exact ⟨al, cap, S, v, h.vm, fun p hp => by rw [hg p hp]; exact h.words p hp, h.head, h.row, h.upS, h.below, h.outw, h.low, h.outr, h.outk, h.small⟩
theorem TW.sub (h : TW W0 m wk n t g l K w) (hs : ∀ x ∈ K', x ∈ K) : TW W0 m wk n t g l K' w := by
  obtain ⟨al, cap, S, v, h⟩ := h
  exact ⟨al, cap, S, v, h.vm, h.words, h.head, h.row, h.upS, h.below, h.outw, h.low, fun ad e => ⟨(h.outr ad e).1, fun x hx => (h.outr ad e).2 x (hs x hx)⟩, fun x hx => h.outk x (hs x hx), h.small⟩
theorem TW.block (h : TW W0 m wk n t g l K w) {X : Nat} {o : Obj} (hx : (X, o) ∈ K) : w.heap[X]? = some o := by
  obtain ⟨al, cap, S, v, h⟩ := h
  exact (h.outk _ hx).2.2
theorem TW.below (h : TW W0 m wk n t g l K w) : Below W0.heap.size W0 w := by
  obtain ⟨al, cap, S, v, h⟩ := h
  exact h.below
theorem TW.box (h : TW W0 m wk n t g l K w) (cs : Array Value) (ty : TypeId) : TW W0 m wk n t g l ((w.heap.size, .cells cs ty (0, 0)) :: K) (w.alloc (.cells cs ty)) := by
  obtain ⟨al, cap, S, v, h⟩ := h
  have hc := below_new w (.cells cs ty)
  have rowlt : ∀ ad, al = some ad → ad.block < w.heap.size := fun ad e => (h.row.lt ad.block (by rw [e]; rfl)).2
  refine ⟨al, cap, S, v, h.vm.grow hc, h.words, blockB hc (Nat.le_refl _) h.head, own_from h.row fun q hq => hc.block q (h.row.lt q hq).2, h.upS, h.below.alloc h.below.size _, h.outw, h.low, fun ad e => ⟨(h.outr ad e).1, fun x hx => ?_⟩, fun x hx => ?_, h.small⟩
  · simp only [List.mem_cons] at hx
    rcases hx with rfl | hx
    · have := rowlt ad e; simp only []; omega
    · exact (h.outr ad e).2 x hx
  · simp only [List.mem_cons] at hx
    rcases hx with rfl | hx
    · exact ⟨fun s => by have := h.vm.in _ s; simp at this, by have := block_lt h.head; simp only []; omega, heap_alloc_new w _⟩
    · exact ⟨(h.outk x hx).1, (h.outk x hx).2.1, blockB hc (Nat.le_refl _) (h.outk x hx).2.2⟩
theorem TW.set {X : Nat} {cs : Array Value} {ty : TypeId} (h : TW W0 m wk n t g l ((X, .cells cs ty (0, 0)) :: K) w) (hX : W0.heap.size ≤ X) (hK : ∀ x ∈ K, x.1 ≠ X) (j : Nat) (x : Value) : TW W0 m wk n t g l ((X, .cells (cs.setIfInBounds j x) ty (0, 0)) :: K) (w.setCell ⟨X, j, none⟩ x) := by
  obtain ⟨al, cap, S, v, h⟩ := h
  have hx := h.outk _ (List.mem_cons_self ..)
  have hc : Chg (fun k => k = X) w (w.setCell ⟨X, j, none⟩ x) := (Chg.refl (fun k => k = X) w).set (p := ⟨X, j, none⟩) (.inl rfl) _
  refine ⟨al, cap, S, v, h.vm.keep hc (fun k hs e => hx.1 (by rw [← e]; exact hs)), h.words, (far (show wk ≠ X from fun e => hx.2.1 e.symm)).trans h.head, own_from h.row fun q hq => ?_, h.upS, h.below.setCell hX x, h.outw, h.low, fun ad e => ⟨(h.outr ad e).1, fun y hy => ?_⟩, fun y hy => ?_, h.small⟩
  · obtain ⟨ad, e1, rfl⟩ := own_of_some' hq
    exact far (show ad.block ≠ X from fun e => (h.outr ad e1).2 _ (List.mem_cons_self ..) e.symm)
  · simp only [List.mem_cons] at hy
    rcases hy with rfl | hy
    · exact (h.outr ad e).2 (X, .cells cs ty (0, 0)) (List.mem_cons_self ..)
    · exact (h.outr ad e).2 y (List.mem_cons_of_mem _ hy)
  · simp only [List.mem_cons] at hy
    rcases hy with rfl | hy
    · exact ⟨hx.1, hx.2.1, heap_setCell_same w X j _ _ _ hx.2.2⟩
    · have := h.outk y (List.mem_cons_of_mem _ hy)
      exact ⟨this.1, this.2.1, (far (show y.1 ≠ X from hK y hy)).trans this.2.2⟩
/-- the memory of a piece of work, its own blocks among those that stay -/
theorem TW.loadM (h : TW W0 m wk n t g l K w) (a : Int) :
    Calls Try.prog 24 #[.pointer (some ⟨m, 0, none⟩), .int .i64 a] w fun e w' => e = .returned (.tuple #[.int .u64 (if inG n a then (g a.toNat : Int) else 0), .int .i64 (if inG n a then 0 else 11)]) ∧ TW W0 m wk n t g l K w' := by
  obtain ⟨al, cap, S, v, h⟩ := h
  obtain ⟨e1, e2⟩ := loadE_full h.words a
  have := load_vm S m n 1 n t v w h.vm a
  rw [e1, e2] at this
  exact this.mono fun e w' ⟨he, hb⟩ => ⟨he, by
    obtain ⟨S', k⟩ := h.did (VDid.of h.vm hb) h.words
    exact ⟨al, cap, S', v, k⟩⟩
theorem TW.storeM (h : TW W0 m wk n t g l K w) (a : Int) (x : Nat) (hx : x < 18446744073709551616) :
    Calls Try.prog 19 #[.pointer (some ⟨m, 0, none⟩), .int .i64 a, .int .u64 x] w fun e w' => e = .returned (.int .i64 (if inG n a then 0 else 11)) ∧ TW W0 m wk n t (if inG n a then putG g a.toNat x else g) l K w' := by
  obtain ⟨al, cap, S, v, h⟩ := h
  obtain ⟨e1, -⟩ := loadE_full h.words a
  have hst := store_vm S m n 1 n t v w h.vm a x hx
  rw [e1] at hst
  refine hst.mono fun e w' ⟨he, hd⟩ => ⟨he, ?_⟩
  obtain ⟨S', k⟩ := h.did hd (g' := if inG n a then putG g a.toNat x else g) (fun p hp => by
    unfold storeV
    rw [e1]
    cases hi : inG n a with
    | true =>
      rw [if_pos rfl, if_pos rfl, if_pos rfl]
      refine ⟨(h.words p hp).1, ?_⟩
      show (if p = a.toNat then x else v.wd p) = if p = a.toNat then x else g p
      split
      · rfl
      · exact (h.words p hp).2
    | false => exact h.words p hp)
  exact ⟨al, cap, S', _, k⟩
theorem own_block {w : World} {B size k : Nat} {e : TypeId} {v : Value} {xs : List Value} (h : w.ownsRow B e size v k xs) (q : Nat) (hq : v.ownBlock = some q) : ∃ cur, w.heap[q]? = some (.cells cur e (0, 0)) := by
  rcases h.2 with ⟨e1, _⟩ | ⟨g, c, cur, e1, h1, h2, _⟩
  · rw [e1] at hq; cases hq
  · rw [e1] at hq
    obtain ⟨ad, e2, rfl⟩ := own_of_some' hq
    cases e2
    exact ⟨cur, h2⟩
theorem old_ne_work : (186 : Nat) ≠ 190 := by decide
theorem TW1.head5 (h : TW1 W0 m wk n t g l K al cap S v w) {cs : Array Value} {w5 : World} (hgrow : (w.alloc (.cells cs 190)).grownBy w5 (Value.slice al l.length cap).ownBlock) :
    w5.heap[wk]? = some (.cells #[.iface 26 (.pointer (some ⟨m, 0, none⟩)), .slice al l.length cap] 186 (0, 0)) := by
  refine ((hgrow.block wk (by have := block_lt h.head; simp; omega) fun e => ?_).trans (Below.heap_alloc w _ wk (block_lt h.head))).trans h.head
  obtain ⟨cur, hc⟩ := own_block h.row wk e.symm
  rw [h.head] at hc
  simp at hc
theorem TW1.push (h : TW1 W0 m wk n t g l K al cap S v w) (e : Nat × Nat) (he : e.1 < n ∧ e.2 < 18446744073709551616) {g5 cap5 : Nat} {w5 : World}
    (hown : w5.ownsRow W0.heap.size 190 2 (.slice (some ⟨g5, 0, none⟩) (l.length + 1) cap5) (l.length + 1) (ocells l ++ [.int .i64 e.1, .int .u64 e.2]))
    (hgrow : (w.alloc (.cells #[.int .i64 e.1, .int .u64 e.2] 190)).grownBy w5 (Value.slice al l.length cap).ownBlock) (hat : (Value.slice al l.length cap).ownBlock = some g5 ∨ g5 = w.heap.size + 1) :
    TW W0 m wk n t g (l ++ [e]) K (w5.setCell ⟨wk, 1, none⟩ (.slice (some ⟨g5, 0, none⟩) (l.length + 1) cap5)) := by
  have hsz : w.heap.size + 1 ≤ w5.heap.size := by have := hgrow.size; simpa using this
  have old : ∀ q, q < w.heap.size → some q ≠ (Value.slice al l.length cap).ownBlock → w5.heap[q]? = w.heap[q]? := fun q hq hn =>
    (hgrow.block q (by simp; omega) hn).trans (Below.heap_alloc w _ q hq)
  have hh5 := h.head5 hgrow
  obtain ⟨cur5, hc5⟩ : ∃ cur, w5.heap[g5]? = some (.cells cur 190 (0, 0)) := by
    rcases hown.2 with ⟨e, _⟩ | ⟨g, c, cur, e, h1, h2, _⟩
    · cases e
    · simp at e
      obtain ⟨rfl, _⟩ := e
      exact ⟨cur, h2⟩
  have hg5 : g5 ≠ wk := by
    rintro rfl
    rw [hh5] at hc5
    simp at hc5
  have hlw := h.low
  have hrow : ∀ q, some q = (Value.slice al l.length cap).ownBlock → W0.heap.size ≤ q := fun q hq => (h.row.lt q hq.symm).1
  have c4 : Chg (fun q => some q = (Value.slice al l.length cap).ownBlock ∨ q = wk) w w5 := ⟨hgrow.os, hgrow.tape, hgrow.output, by omega, fun q hq hn => old q hq (fun e => hn (.inl e))⟩
  have c5 : Chg (fun q => some q = (Value.slice al l.length cap).ownBlock ∨ q = wk) w (w5.setCell ⟨wk, 1, none⟩ (.slice (some ⟨g5, 0, none⟩) (l.length + 1) cap5)) := c4.set (p := ⟨wk, 1, none⟩) (.inl (.inr rfl)) _
  refine ⟨some ⟨g5, 0, none⟩, cap5, S, v, h.vm.keep c5 (fun k hs hk => ?_), h.words, ?_, ?_, h.upS, h.below.trans (c5.below (fun k hk => ?_) h.below.size), h.outw, h.low, fun ad e1 => ?_, fun x hx => ?_, fun y hy => ?_⟩
  · rcases hk with hk | rfl
    · obtain ⟨ad, e1, rfl⟩ := own_of_some' hk.symm
      exact (h.outr ad e1).1 hs
    · exact h.outw hs
  · rw [heap_setCell_same w5 wk 1 _ _ _ hh5, List.length_append]
    rfl
  · rw [ocells_append, List.length_append]
    exact own_from hown fun q hq => far (by simp [Value.ownBlock] at hq; show q ≠ wk; omega)
  · rcases hk with hk | rfl
    · exact hrow k hk
    · exact hlw
  · simp at e1
    subst e1
    show ¬ S g5 ∧ ∀ x ∈ K, x.1 ≠ g5
    rcases hat with e2 | e2
    · obtain ⟨ad, e1, e3⟩ := own_of_some' e2
      rw [← e3]
      exact h.outr ad e1
    · refine ⟨fun hs => ?_, fun x hx hxe => ?_⟩
      · have := h.vm.in g5 hs
        omega
      · have := block_lt (h.outk x hx).2.2
        omega
  · have := h.outk x hx
    exact ⟨this.1, this.2.1, (c5.2.2.2.2 x.1 (block_lt this.2.2) (fun hk => by
      rcases hk with hk | hk
      · obtain ⟨ad, e1, e3⟩ := own_of_some' hk.symm
        exact (h.outr ad e1).2 x hx e3.symm
      · exact this.2.1 hk)).trans this.2.2⟩
  · simp only [List.mem_append, List.mem_singleton] at hy
    rcases hy with hy | rfl
    · exact h.small y hy
    · exact he
end
end Go.Proofs.Ytkcijlndblbidaa
