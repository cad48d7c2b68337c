/- A pool and the reference's beside each other: the contracts of both at one state. -/
import Derived.Test.YtoldbaandkgmkaaFramesRefTake3
import Derived.Test.YtoldbaandkgmkaaFramesActs
namespace Go.Proofs.Ytoldbaandkgmkaa
open Go.ChangeShapes Go.WideShapes Go.ChangeAt Go.RowKit
set_option linter.unusedVariables false

structure FCore (W0 : World) (b rb room page : Nat) (s s' : PS) (S T : Nat → Prop) (w : World) : Prop where
  prog : Pl S b room page s w
  ref : Rf T rb room page s' w
  apart : Apart S T
  upS : Up W0.heap.size S
  upT : Up W0.heap.size T
  below : Below W0.heap.size W0 w
/-- both pools, and a block X beside them that holds o -/
def FSt (W0 : World) (b rb room page : Nat) (s s' : PS) (X : Nat) (o : Obj) (w : World) : Prop := ∃ S T, FCore W0 b rb room page s s' S T w ∧ ¬ S X ∧ ¬ T X ∧ w.heap[X]? = some o
def FSt0 (W0 : World) (b rb room page : Nat) (s : PS) (w : World) : Prop := ∃ S T, FCore W0 b rb room page s s S T w
theorem Up.grew {B : Nat} {S S' : Nat → Prop} {w : World} (u : Up B S) (g : Grew S S' w) (h : B ≤ w.heap.size) : Up B S' := fun k hk => by
  rcases g k hk with a | a
  · exact u k a
  · omega
section
variable {W0 w w' : World} {b rb room page X : Nat} {s s' s2 : PS} {S T : Nat → Prop} {o : Obj}
theorem FCore.grow (c : FCore W0 b rb room page s s' S T w) (h : Below w.heap.size w w') : FCore W0 b rb room page s s' S T w' :=
  ⟨c.prog.grow h, c.ref.grow h, c.apart, c.upS, c.upT, c.below.trans (h.mono c.below.size)⟩
theorem FSt.grow (c : FSt W0 b rb room page s s' X o w) (h : Below w.heap.size w w') : FSt W0 b rb room page s s' X o w' := by
  obtain ⟨S, T, c, hx, hy, ho⟩ := c
  exact ⟨S, T, c.grow h, hx, hy, blockB h (Nat.le_refl _) ho⟩
theorem FSt0.below (c : FSt0 W0 b rb room page s w) : Below W0.heap.size W0 w := by
  obtain ⟨S, T, c⟩ := c
  exact c.below
theorem FSt0.box (c : FSt0 W0 b rb room page s w) (cs : Array Value) (t : TypeId) : FSt W0 b rb room page s s w.heap.size (.cells cs t (0, 0)) (w.alloc (.cells cs t)) := by
  obtain ⟨S, T, c⟩ := c
  exact ⟨S, T, c.grow (below_new w _), fun h => by have := c.prog.in _ h; omega, fun h => by have := c.ref.in _ h; omega, heap_alloc_new w _⟩
theorem FSt.base (c : FSt W0 b rb room page s s X o w) : FSt0 W0 b rb room page s w := by
  obtain ⟨S, T, c, _⟩ := c
  exact ⟨S, T, c⟩
theorem FSt.did (c : FCore W0 b rb room page s s' S T w) (hx : ¬ S X) (hy : ¬ T X) (ho : w.heap[X]? = some o) (hd : PDid S b room page s2 w w') : FSt W0 b rb room page s2 s' X o w' := by
  obtain ⟨S', h1, h2, h3⟩ := hd
  have hin : In T w := c.ref.in
  refine ⟨S', T, ⟨h1, c.ref.keep h2 (Apart.symm c.apart), h3.apart c.apart hin, c.upS.grew h3 c.below.size, c.upT, c.below.trans (h2.below c.upS c.below.size)⟩, fun h => ?_, hy, h2.keep ho hx⟩
  rcases h3 X h with a | a
  · exact hx a
  · have := block_lt ho; omega
theorem FSt.rdid (c : FCore W0 b rb room page s s' S T w) (hx : ¬ S X) (hy : ¬ T X) (ho : w.heap[X]? = some o) (hd : RfDid T rb room page s2 w w') : FSt W0 b rb room page s s2 X o w' := by
  obtain ⟨T', h1, h2, h3⟩ := hd
  have hin : In S w := c.prog.in
  refine ⟨S, T', ⟨c.prog.keep h2 c.apart, h1, Apart.symm (h3.apart (Apart.symm c.apart) hin), c.upS, c.upT.grew h3 c.below.size, c.below.trans (h2.below c.upT c.below.size)⟩, hx, fun h => ?_, h2.keep ho hy⟩
  rcases h3 X h with a | a
  · exact hy a
  · have := block_lt ho; omega
theorem FSt.drewN (c : FSt W0 b rb room page s s' X o w) (n : Nat) : FSt W0 b rb room page s s' X o (w.drewN n) := c.grow (below_drewN' n w)
theorem FSt.drew (c : FSt W0 b rb room page s s' X o w) : FSt W0 b rb room page s s' X o w.drew := c.grow (below_drew w)
theorem FSt.cells {x y z u : Value} {t : TypeId} (c : FSt W0 b rb room page s s' X (.cells #[x, y, z, u] t (0, 0)) w) : w.cell? ⟨X, 0, none⟩ = some x ∧ w.cell? ⟨X, 1, none⟩ = some y ∧ w.cell? ⟨X, 2, none⟩ = some z ∧ w.cell? ⟨X, 3, none⟩ = some u := by
  obtain ⟨S, T, c, hx, hy, ho⟩ := c
  exact ⟨at_cell ho 0 _ rfl, at_cell ho 1 _ rfl, at_cell ho 2 _ rfl, at_cell ho 3 _ rfl⟩
/-- the reference's fields as the law reads them -/
theorem FSt.list (c : FSt W0 b rb room page s s' X o w) : ∃ a cap, w.cell? ⟨rb, 2, none⟩ = some (.slice a s'.used cap) ∧ w.cell? ⟨rb, 5, none⟩ = some (.int .i64 s'.high) ∧ w.cell? ⟨rb, 6, none⟩ = some (.int .i64 s'.times) := by
  obtain ⟨S, T, c, hx, hy, ho⟩ := c
  obtain ⟨aL, cL, aB, cB, fs, hR, hF, _⟩ := c.ref
  exact ⟨aL, cL, by rw [hF.many]; exact at_cell hR.head 2 _ rfl, at_cell hR.head 5 _ rfl, at_cell hR.head 6 _ rfl⟩
theorem take_fs (c : FSt W0 b rb room page s s' X o w) (hk : s.ok room page) (ht : s.times ≤ 1000000000) :
    Calls Try.prog 8 #[.pointer (some ⟨b, 0, none⟩)] w fun e w' => e = .returned (.tuple #[.int .i64 (takeE room s).1, .int .i64 (takeE room s).2]) ∧ FSt W0 b rb room page (takeT room s) s' X o w' := by
  obtain ⟨S, T, c, hx, hy, ho⟩ := c
  exact (take_pl S b room page s w c.prog hk ht).mono fun e w' ⟨he, hd⟩ => ⟨he, FSt.did c hx hy ho hd⟩
theorem give_fs (c : FSt W0 b rb room page s s' X o w) (hk : s.ok room page) (f : Int) :
    Calls Try.prog 11 #[.pointer (some ⟨b, 0, none⟩), .int .i64 f] w fun e w' => e = .returned (.int .i64 (giveE s f)) ∧ FSt W0 b rb room page (giveS s f) s' X o w' := by
  obtain ⟨S, T, c, hx, hy, ho⟩ := c
  exact (give_pl S b room page s w c.prog hk f).mono fun e w' ⟨he, hd⟩ => ⟨he, FSt.did c hx hy ho hd⟩
theorem store_fs (c : FSt W0 b rb room page s s' X o w) (hk : s.ok room page) (f i : Int) (x : Nat) :
    Calls Try.prog 10 #[.pointer (some ⟨b, 0, none⟩), .int .i64 f, .int .i64 i, .int .u64 x] w fun e w' => e = .returned (.int .i64 (wordE page s f i)) ∧ FSt W0 b rb room page (storeS page s f i x) s' X o w' := by
  obtain ⟨S, T, c, hx, hy, ho⟩ := c
  exact (store_pl S b room page s w c.prog hk f i x).mono fun e w' ⟨he, hd⟩ => ⟨he, FSt.did c hx hy ho hd⟩
theorem load_fs (c : FSt W0 b rb room page s s' X o w) (hk : s.ok room page) (f i : Int) :
    Calls Try.prog 9 #[.pointer (some ⟨b, 0, none⟩), .int .i64 f, .int .i64 i] w fun e w' => e = .returned (.tuple #[.int .u64 (loadR page s f i), .int .i64 (wordE page s f i)]) ∧ w = w' := by
  obtain ⟨S, T, c, hx, hy, ho⟩ := c
  exact load_pl S b room page s w c.prog hk f i
theorem used_fs (c : FSt W0 b rb room page s s' X o w) : Calls Try.prog 12 #[.pointer (some ⟨b, 0, none⟩)] w fun e w' => e = .returned (.int .i64 s.used) ∧ w = w' := by
  obtain ⟨S, T, c, hx, hy, ho⟩ := c
  exact used_pl S b room page s w c.prog
theorem high_fs (c : FSt W0 b rb room page s s' X o w) : Calls Try.prog 18 #[.pointer (some ⟨b, 0, none⟩)] w fun e w' => e = .returned (.int .i64 s.high) ∧ w = w' := by
  obtain ⟨S, T, c, hx, hy, ho⟩ := c
  exact high_pl S b room page s w c.prog
theorem times_fs (c : FSt W0 b rb room page s s' X o w) : Calls Try.prog 19 #[.pointer (some ⟨b, 0, none⟩)] w fun e w' => e = .returned (.int .i64 s.times) ∧ w = w' := by
  obtain ⟨S, T, c, hx, hy, ho⟩ := c
  exact times_pl S b room page s w c.prog
theorem room_fs (c : FSt W0 b rb room page s s' X o w) : Calls Try.prog 20 #[.pointer (some ⟨b, 0, none⟩)] w fun e w' => e = .returned (.int .i64 room) ∧ w = w' := by
  obtain ⟨S, T, c, hx, hy, ho⟩ := c
  exact room_pl S b room page s w c.prog
theorem page_fs (c : FSt W0 b rb room page s s' X o w) : Calls Try.prog 21 #[.pointer (some ⟨b, 0, none⟩)] w fun e w' => e = .returned (.int .i64 page) ∧ w = w' := by
  obtain ⟨S, T, c, hx, hy, ho⟩ := c
  exact page_pl S b room page s w c.prog
theorem rtake_fs (c : FSt W0 b rb room page s s' X o w) (hk : s'.ok room page) (ht : s'.times ≤ 1000000000) :
    Calls Try.prog 14 #[.pointer (some ⟨rb, 0, none⟩)] w fun e w' => e = .returned (.tuple #[.int .i64 (takeE room s').1, .int .i64 (takeE room s').2]) ∧ FSt W0 b rb room page s (takeT room s') X o w' := by
  obtain ⟨S, T, c, hx, hy, ho⟩ := c
  exact (refTake_any T rb room page s' w c.ref hk ht).mono fun e w' ⟨he, hd⟩ => ⟨he, FSt.rdid c hx hy ho hd⟩
theorem rgive_fs (c : FSt W0 b rb room page s s' X o w) (hk : s'.ok room page) (f : Int) :
    Calls Try.prog 15 #[.pointer (some ⟨rb, 0, none⟩), .int .i64 f] w fun e w' => e = .returned (.int .i64 (giveE s' f)) ∧ FSt W0 b rb room page s (giveS s' f) X o w' := by
  obtain ⟨S, T, c, hx, hy, ho⟩ := c
  exact (refGive_any T rb room page s' w c.ref hk f).mono fun e w' ⟨he, hd⟩ => ⟨he, FSt.rdid c hx hy ho hd⟩
theorem rstore_fs (c : FSt W0 b rb room page s s' X o w) (hk : s'.ok room page) (f i : Int) (x : Nat) :
    Calls Try.prog 16 #[.pointer (some ⟨rb, 0, none⟩), .int .i64 f, .int .i64 i, .int .u64 x] w fun e w' => e = .returned (.int .i64 (wordE page s' f i)) ∧ FSt W0 b rb room page s (storeS page s' f i x) X o w' := by
  obtain ⟨S, T, c, hx, hy, ho⟩ := c
  exact (refStore_any T rb room page s' w c.ref hk f i x).mono fun e w' ⟨he, hd⟩ => ⟨he, FSt.rdid c hx hy ho hd⟩
theorem rload_fs (c : FSt W0 b rb room page s s' X o w) (hk : s'.ok room page) (f i : Int) :
    Calls Try.prog 17 #[.pointer (some ⟨rb, 0, none⟩), .int .i64 f, .int .i64 i] w fun e w' => e = .returned (.tuple #[.int .u64 (loadR page s' f i), .int .i64 (wordE page s' f i)]) ∧ w = w' := by
  obtain ⟨S, T, c, hx, hy, ho⟩ := c
  exact refLoad_any T rb room page s' w c.ref hk f i
end
end Go.Proofs.Ytoldbaandkgmkaa
