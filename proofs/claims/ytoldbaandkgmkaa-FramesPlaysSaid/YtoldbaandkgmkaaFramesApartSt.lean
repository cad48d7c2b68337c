/- The pool, the law's map and the act's box at one state. -/
import Derived.Test.YtoldbaandkgmkaaFramesApartMath
namespace Go.Proofs.Ytoldbaandkgmkaa
open Go.ChangeShapes Go.WideShapes Go.ChangeAt Go.RowKit
set_option linter.unusedVariables false

/-- the pool in block b, the map in block B, and a block X beside them that holds o -/
def AS (W0 : World) (b room page B X : Nat) (o : Obj) (n : Nat) (s : PS) (m : Int → Option Nat) (cnt : Nat) (w : World) : Prop :=
  ∃ S, Pl S b room page s w ∧ Up W0.heap.size S ∧ Below W0.heap.size W0 w ∧ IntMap B n m cnt w ∧ ¬ S B ∧ W0.heap.size ≤ B ∧ ¬ S X ∧ X ≠ B ∧ w.heap[X]? = some o
def AS0 (W0 : World) (b room page B : Nat) (n : Nat) (s : PS) (m : Int → Option Nat) (cnt : Nat) (w : World) : Prop :=
  ∃ S, Pl S b room page s w ∧ Up W0.heap.size S ∧ Below W0.heap.size W0 w ∧ IntMap B n m cnt w ∧ ¬ S B ∧ W0.heap.size ≤ B
section
variable {W0 w w' : World} {b room page B X n cnt : Nat} {o : Obj} {s s' : PS} {m : Int → Option Nat}
theorem AS.base (h : AS W0 b room page B X o n s m cnt w) : AS0 W0 b room page B n s m cnt w := by
  obtain ⟨S, h1, h2, h3, h4, h5, h6, _⟩ := h
  exact ⟨S, h1, h2, h3, h4, h5, h6⟩
theorem AS0.below (h : AS0 W0 b room page B n s m cnt w) : Below W0.heap.size W0 w := by
  obtain ⟨S, h1, h2, h3, _⟩ := h; exact h3
theorem AS0.box (h : AS0 W0 b room page B n s m cnt w) (cs : Array Value) (t : TypeId) : AS W0 b room page B w.heap.size (.cells cs t (0, 0)) n s m cnt (w.alloc (.cells cs t)) := by
  obtain ⟨S, h1, h2, h3, h4, h5, h6⟩ := h
  exact ⟨S, h1.grow (below_new w _), h2, h3.alloc h3.size _, h4.keep (S := fun _ => False) (Chg.of (below_new w _)) id, h5, h6, fun h => by have := h1.in _ h; omega, by have := h4.lt; omega, heap_alloc_new w _⟩
theorem AS.did {S : Nat → Prop} (h2 : Up W0.heap.size S) (h3 : Below W0.heap.size W0 w) (h4 : IntMap B n m cnt w) (h5 : ¬ S B) (h6 : W0.heap.size ≤ B) (h7 : ¬ S X) (h8 : X ≠ B) (h9 : w.heap[X]? = some o) (hd : PDid S b room page s' w w') : AS W0 b room page B X o n s' m cnt w' := by
  obtain ⟨S', k1, k2, k3⟩ := hd
  have hB := h4.lt
  have hX := block_lt h9
  refine ⟨S', k1, fun k hk => ?_, h3.trans (k2.below h2 h3.size), h4.keep k2 h5, fun h => ?_, h6, fun h => ?_, h8, k2.keep h9 h7⟩
  · rcases k3 k hk with a | a
    · exact h2 k a
    · have := h3.size; omega
  · rcases k3 B h with a | a
    · exact h5 a
    · omega
  · rcases k3 X h with a | a
    · exact h7 a
    · omega
theorem AS.grow (h : AS W0 b room page B X o n s m cnt w) (hb : Below w.heap.size w w') : AS W0 b room page B X o n s m cnt w' := by
  obtain ⟨S, h1, h2, h3, h4, h5, h6, h7, h8, h9⟩ := h
  exact ⟨S, h1.grow hb, h2, h3.trans (hb.mono h3.size), h4.keep (S := fun _ => False) (Chg.of hb) id, h5, h6, h7, h8, blockB hb (Nat.le_refl _) h9⟩
theorem AS.drewN (h : AS W0 b room page B X o n s m cnt w) (k : Nat) : AS W0 b room page B X o n s m cnt (w.drewN k) := h.grow ⟨rfl, rfl, rfl, Nat.le_refl _, fun _ _ => rfl⟩
theorem AS.cells {x y z u : Value} {t : TypeId} (h : AS W0 b room page B X (.cells #[x, y, z, u] t (0, 0)) n s m cnt w) : w.cell? ⟨X, 0, none⟩ = some x ∧ w.cell? ⟨X, 1, none⟩ = some y ∧ w.cell? ⟨X, 2, none⟩ = some z ∧ w.cell? ⟨X, 3, none⟩ = some u := by
  obtain ⟨S, h1, h2, h3, h4, h5, h6, h7, h8, h9⟩ := h
  exact ⟨at_cell h9 0 _ rfl, at_cell h9 1 _ rfl, at_cell h9 2 _ rfl, at_cell h9 3 _ rfl⟩
theorem take_as (h : AS W0 b room page B X o n s m cnt w) (hk : s.ok room page) (ht : s.times ≤ 1000000000) :
    Calls Try.prog 8 #[.pointer (some ⟨b, 0, none⟩)] w fun e w' => e = .returned (.tuple #[.int .i64 (takeE room s).1, .int .i64 (takeE room s).2]) ∧ AS W0 b room page B X o n (takeT room s) m cnt w' := by
  obtain ⟨S, h1, h2, h3, h4, h5, h6, h7, h8, h9⟩ := h
  exact (take_pl S b room page s w h1 hk ht).mono fun e w' ⟨he, hd⟩ => ⟨he, AS.did h2 h3 h4 h5 h6 h7 h8 h9 hd⟩
theorem give_as (h : AS W0 b room page B X o n s m cnt w) (hk : s.ok room page) (f : Int) :
    Calls Try.prog 11 #[.pointer (some ⟨b, 0, none⟩), .int .i64 f] w fun e w' => e = .returned (.int .i64 (giveE s f)) ∧ AS W0 b room page B X o n (giveS s f) m cnt w' := by
  obtain ⟨S, h1, h2, h3, h4, h5, h6, h7, h8, h9⟩ := h
  exact (give_pl S b room page s w h1 hk f).mono fun e w' ⟨he, hd⟩ => ⟨he, AS.did h2 h3 h4 h5 h6 h7 h8 h9 hd⟩
theorem store_as (h : AS W0 b room page B X o n s m cnt w) (hk : s.ok room page) (f i : Int) (x : Nat) :
    Calls Try.prog 10 #[.pointer (some ⟨b, 0, none⟩), .int .i64 f, .int .i64 i, .int .u64 x] w fun e w' => e = .returned (.int .i64 (wordE page s f i)) ∧ AS W0 b room page B X o n (storeS page s f i x) m cnt w' := by
  obtain ⟨S, h1, h2, h3, h4, h5, h6, h7, h8, h9⟩ := h
  exact (store_pl S b room page s w h1 hk f i x).mono fun e w' ⟨he, hd⟩ => ⟨he, AS.did h2 h3 h4 h5 h6 h7 h8 h9 hd⟩
theorem load_as (h : AS W0 b room page B X o n s m cnt w) (hk : s.ok room page) (f i : Int) :
    Calls Try.prog 9 #[.pointer (some ⟨b, 0, none⟩), .int .i64 f, .int .i64 i] w fun e w' => e = .returned (.tuple #[.int .u64 (loadR page s f i), .int .i64 (wordE page s f i)]) ∧ w = w' := by
  obtain ⟨S, h1, _⟩ := h
  exact load_pl S b room page s w h1 hk f i
theorem used_as (h : AS W0 b room page B X o n s m cnt w) : Calls Try.prog 12 #[.pointer (some ⟨b, 0, none⟩)] w fun e w' => e = .returned (.int .i64 s.used) ∧ w = w' := by
  obtain ⟨S, h1, _⟩ := h
  exact used_pl S b room page s w h1
theorem AS.map (h : AS W0 b room page B X o n s m cnt w) {n' cnt' : Nat} {m' : Int → Option Nat} (hm : IntMap B n' m' cnt' w') (c : Chg (· = B) w w') : AS W0 b room page B X o n' s m' cnt' w' := by
  obtain ⟨S, h1, h2, h3, h4, h5, h6, h7, h8, h9⟩ := h
  exact ⟨S, h1.keep c (fun k hk e => h5 (by rw [← e]; exact hk)), h2, h3.trans (c.below (fun k hk => by rw [hk]; exact h6) h3.size), hm, h5, h6, h7, h8, c.keep h9 h8⟩
theorem AS.intMap (h : AS W0 b room page B X o n s m cnt w) : IntMap B n m cnt w := by
  obtain ⟨S, h1, h2, h3, h4, _⟩ := h; exact h4
theorem AS.more (h : AS W0 b room page B X o n s m cnt w) {n' : Nat} (hn : n ≤ n') : AS W0 b room page B X o n' s m cnt w := by
  obtain ⟨S, h1, h2, h3, ⟨D, k1, k2⟩, h5⟩ := h
  exact ⟨S, h1, h2, h3, ⟨D, k1.mono hn, k2⟩, h5⟩
end
theorem start_as {W0 w : World} {b room page : Nat} (h : PSt W0 b room page start w) : AS0 W0 b room page w.heap.size 0 start (fun _ => none) 0 (w.alloc (.map #[] 0)) := by
  obtain ⟨S, h1, h2, h3⟩ := h
  exact ⟨S, h1.grow (below_new w _), h2, h3.alloc h3.size _, IntMap.made w, fun h => by have := h1.in _ h; omega, h3.size⟩
end Go.Proofs.Ytoldbaandkgmkaa
