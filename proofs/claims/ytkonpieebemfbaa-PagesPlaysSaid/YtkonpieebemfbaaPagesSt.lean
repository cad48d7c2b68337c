/- A map and the reference's beside each other: the contracts of both at one state. -/
import Derived.Test.YtkonpieebemfbaaPagesRefN
import Derived.Test.YtkonpieebemfbaaPagesActs
namespace Go.Proofs.Ytkonpieebemfbaa
open Go.ChangeShapes Go.WideShapes Go.ChangeAt Go.RowKit
set_option linter.unusedVariables false

structure Core (W0 : World) (b rb np : Nat) (F G : Nat → Nat) (k : Nat) (S T : Nat → Prop) (w : World) : Prop where
  prog : Mp S b np F w
  ref : Rp T rb np G k w
  apart : Apart S T
  upS : Up W0.heap.size S
  upT : Up W0.heap.size T
  below : Below W0.heap.size W0 w
/-- both maps, and a block X beside them that holds o -/
def St (W0 : World) (b rb np : Nat) (F G : Nat → Nat) (k X : Nat) (o : Obj) (w : World) : Prop := ∃ S T, Core W0 b rb np F G k S T w ∧ ¬ S X ∧ ¬ T X ∧ w.heap[X]? = some o
def St0 (W0 : World) (b rb np : Nat) (F : Nat → Nat) (k : Nat) (w : World) : Prop := ∃ S T, Core W0 b rb np F F k S T w
theorem Up.grew {B : Nat} {S S' : Nat → Prop} {w : World} (u : Up B S) (g : Grew S S' w) (h : B ≤ w.heap.size) : Up B S' := fun k hk => by
  rcases g k hk with a | a
  · exact u k a
  · omega
theorem Core.grow {W0 w w' : World} {b rb np k : Nat} {F G : Nat → Nat} {S T : Nat → Prop} (c : Core W0 b rb np F G k S T w) (h : Below w.heap.size w w') : Core W0 b rb np F G k S T w' :=
  ⟨c.prog.grow h, c.ref.grow h, c.apart, c.upS, c.upT, c.below.trans (h.mono c.below.size)⟩
theorem St.grow {W0 w w' : World} {b rb np k X : Nat} {F G : Nat → Nat} {o : Obj} (s : St W0 b rb np F G k X o w) (h : Below w.heap.size w w') : St W0 b rb np F G k X o w' := by
  obtain ⟨S, T, c, hx, hy, ho⟩ := s
  exact ⟨S, T, c.grow h, hx, hy, blockB h (Nat.le_refl _) ho⟩
theorem St0.box {W0 w : World} {b rb np k : Nat} {F : Nat → Nat} (s : St0 W0 b rb np F k w) (cs : Array Value) (t : TypeId) : St W0 b rb np F F k w.heap.size (.cells cs t (0, 0)) (w.alloc (.cells cs t)) := by
  obtain ⟨S, T, c⟩ := s
  exact ⟨S, T, c.grow (below_new w _), fun h => by have := c.prog.in _ h; omega, fun h => by have := c.ref.in _ h; omega, heap_alloc_new w _⟩
theorem St.base {W0 w : World} {b rb np k X : Nat} {F : Nat → Nat} {o : Obj} (s : St W0 b rb np F F k X o w) : St0 W0 b rb np F k w := by
  obtain ⟨S, T, c, _⟩ := s
  exact ⟨S, T, c⟩
theorem St.did {W0 w w' : World} {b rb np k X : Nat} {F F' G : Nat → Nat} {S T : Nat → Prop} {o : Obj} (c : Core W0 b rb np F G k S T w) (hx : ¬ S X) (hy : ¬ T X) (ho : w.heap[X]? = some o) (hd : Did S b np F' w w') : St W0 b rb np F' G k X o w' := by
  obtain ⟨S', h1, h2, h3⟩ := hd
  have hin : In T w := c.ref.in
  refine ⟨S', T, ⟨h1, c.ref.keep h2 (Apart.symm c.apart), h3.apart c.apart hin, c.upS.grew h3 c.below.size, c.upT, c.below.trans (h2.below c.upS c.below.size)⟩, fun h => ?_, hy, h2.keep ho hx⟩
  rcases h3 X h with a | a
  · exact hx a
  · have := block_lt ho; omega
theorem St.rdid {W0 w w' : World} {b rb np k k' X : Nat} {F G G' : Nat → Nat} {S T : Nat → Prop} {o : Obj} (c : Core W0 b rb np F G k S T w) (hx : ¬ S X) (hy : ¬ T X) (ho : w.heap[X]? = some o) (hd : RDid T rb np G' k' w w') : St W0 b rb np F G' k' X o w' := by
  obtain ⟨T', h1, h2, h3⟩ := hd
  have hin : In S w := c.prog.in
  refine ⟨S, T', ⟨c.prog.keep h2 c.apart, h1, Apart.symm (h3.apart (Apart.symm c.apart) hin), c.upS, c.upT.grew h3 c.below.size, c.below.trans (h2.below c.upT c.below.size)⟩, hx, fun h => ?_, h2.keep ho hy⟩
  rcases h3 X h with a | a
  · exact hy a
  · have := block_lt ho; omega
section
variable {W0 w : World} {b rb np k X : Nat} {F G : Nat → Nat} {o : Obj}
theorem put_st (s : St W0 b rb np F G k X o w) (p f : Int) :
    Calls Try.prog 8 #[.pointer (some ⟨b, 0, none⟩), .int .i64 p, .int .i64 f] w fun e w' => e = .returned (.int .i64 (putR np F p f).1) ∧ St W0 b rb np (putR np F p f).2 G k X o w' := by
  obtain ⟨S, T, c, hx, hy, ho⟩ := s
  exact (put_mp S b np F w c.prog p f).mono fun e w' ⟨he, hd⟩ => ⟨he, St.did c hx hy ho hd⟩
theorem drop_st (s : St W0 b rb np F G k X o w) (p : Int) :
    Calls Try.prog 9 #[.pointer (some ⟨b, 0, none⟩), .int .i64 p] w fun e w' => e = .returned (.tuple #[.int .i64 (frameR np F p).1, .int .i64 (frameR np F p).2]) ∧ St W0 b rb np (dropF np F p) G k X o w' := by
  obtain ⟨S, T, c, hx, hy, ho⟩ := s
  exact (drop_mp S b np F w c.prog p).mono fun e w' ⟨he, hd⟩ => ⟨he, St.did c hx hy ho hd⟩
theorem move_st (s : St W0 b rb np F G k X o w) (p q : Int) :
    Calls Try.prog 10 #[.pointer (some ⟨b, 0, none⟩), .int .i64 p, .int .i64 q] w fun e w' => e = .returned (.int .i64 (moveR np F p q).1) ∧ St W0 b rb np (moveR np F p q).2 G k X o w' := by
  obtain ⟨S, T, c, hx, hy, ho⟩ := s
  exact (move_mp S b np F w c.prog p q).mono fun e w' ⟨he, hd⟩ => ⟨he, St.did c hx hy ho hd⟩
theorem frame_st (s : St W0 b rb np F G k X o w) (p : Int) :
    Calls Try.prog 11 #[.pointer (some ⟨b, 0, none⟩), .int .i64 p] w fun e w' => e = .returned (.tuple #[.int .i64 (frameR np F p).1, .int .i64 (frameR np F p).2]) ∧ St W0 b rb np F G k X o w' := by
  obtain ⟨S, T, c, hx, hy, ho⟩ := s
  exact (frame_mp S b np F w c.prog p).mono fun e w' ⟨he, hb⟩ => ⟨he, St.grow ⟨S, T, c, hx, hy, ho⟩ hb⟩
theorem next_st (s : St W0 b rb np F G k X o w) (p : Int) (hp : p ≤ 9223372036854775807) :
    Calls Try.prog 17 #[.pointer (some ⟨b, 0, none⟩), .int .i64 p] w fun e w' => e = .returned (.tuple #[.int .i64 (nextV (nx np F p.toNat)).1, .bool (nextV (nx np F p.toNat)).2]) ∧ w = w' := by
  obtain ⟨S, T, c, hx, hy, ho⟩ := s
  exact next_mp S b np F w c.prog p hp
theorem count_st (s : St W0 b rb np F G k X o w) (hn : np ≤ 524288) (p to : Int) (hp : p ≤ 9223372036854775807) :
    Calls Try.prog 19 #[.pointer (some ⟨b, 0, none⟩), .int .i64 p, .int .i64 to] w fun e w' => e = .returned (.int .i64 (cn np F p to)) ∧ w = w' := by
  obtain ⟨S, T, c, hx, hy, ho⟩ := s
  exact count_mp S b np F w c.prog hn p to hp
theorem len_st (s : St W0 b rb np F G k X o w) :
    Calls Try.prog 21 #[.pointer (some ⟨b, 0, none⟩)] w fun e w' => e = .returned (.int .i64 (sumF F ((np + 255) / 256))) ∧ w = w' := by
  obtain ⟨S, T, c, hx, hy, ho⟩ := s
  exact len_mp S b np F w c.prog
theorem rput_st (s : St W0 b rb np F G k X o w) (hk : k ≤ 900) (p f : Int) :
    Calls Try.prog 13 #[.pointer (some ⟨rb, 0, none⟩), .int .i64 p, .int .i64 f] w fun e w' => e = .returned (.int .i64 (putR np G p f).1) ∧ St W0 b rb np F (putR np G p f).2 (k + 1) X o w' := by
  obtain ⟨S, T, c, hx, hy, ho⟩ := s
  exact (refPut_any T rb np k G w c.ref hk p f).mono fun e w' ⟨he, hd⟩ => ⟨he, St.rdid c hx hy ho hd⟩
theorem rdrop_st (s : St W0 b rb np F G k X o w) (hk : k ≤ 900) (p : Int) :
    Calls Try.prog 14 #[.pointer (some ⟨rb, 0, none⟩), .int .i64 p] w fun e w' => e = .returned (.tuple #[.int .i64 (frameR np G p).1, .int .i64 (frameR np G p).2]) ∧ St W0 b rb np F (dropF np G p) k X o w' := by
  obtain ⟨S, T, c, hx, hy, ho⟩ := s
  exact (refDrop_any T rb np k G w c.ref hk p).mono fun e w' ⟨he, hd⟩ => ⟨he, St.rdid c hx hy ho hd⟩
theorem rmove_st (s : St W0 b rb np F G k X o w) (hk : k ≤ 900) (p q : Int) :
    Calls Try.prog 15 #[.pointer (some ⟨rb, 0, none⟩), .int .i64 p, .int .i64 q] w fun e w' => e = .returned (.int .i64 (moveR np G p q).1) ∧ St W0 b rb np F (moveR np G p q).2 k X o w' := by
  obtain ⟨S, T, c, hx, hy, ho⟩ := s
  exact (refMove_any T rb np k G w c.ref hk p q).mono fun e w' ⟨he, hd⟩ => ⟨he, St.rdid c hx hy ho hd⟩
theorem rframe_st (s : St W0 b rb np F G k X o w) (hk : k ≤ 900) (p : Int) :
    Calls Try.prog 16 #[.pointer (some ⟨rb, 0, none⟩), .int .i64 p] w fun e w' => e = .returned (.tuple #[.int .i64 (frameR np G p).1, .int .i64 (frameR np G p).2]) ∧ w = w' := by
  obtain ⟨S, T, c, hx, hy, ho⟩ := s
  exact refFrame_any T rb np k G w c.ref hk p
theorem rnext_st (s : St W0 b rb np F G k X o w) (hk : k ≤ 900) (p : Int) :
    Calls Try.prog 18 #[.pointer (some ⟨rb, 0, none⟩), .int .i64 p] w fun e w' => e = .returned (.tuple #[.int .i64 (nextV (nx np G p.toNat)).1, .bool (nextV (nx np G p.toNat)).2]) ∧ w = w' := by
  obtain ⟨S, T, c, hx, hy, ho⟩ := s
  exact refNext_any T rb np k G w c.ref hk p
theorem rcount_st (s : St W0 b rb np F G k X o w) (hk : k ≤ 900) (p to : Int) :
    Calls Try.prog 20 #[.pointer (some ⟨rb, 0, none⟩), .int .i64 p, .int .i64 to] w fun e w' => e = .returned (.int .i64 (cn np G p to)) ∧ w = w' := by
  obtain ⟨S, T, c, hx, hy, ho⟩ := s
  exact refCount_any T rb np k G w c.ref hk p to
/-- the reference's list as the law reads it -/
theorem St.list (s : St W0 b rb np F G k X o w) : ∃ a cap, w.cell? ⟨rb, 1, none⟩ = some (.slice a (sumF G ((np + 255) / 256)) cap) := by
  obtain ⟨S, T, c, hx, hy, ho⟩ := s
  obtain ⟨a, cap, es, hR, hF, _⟩ := c.ref
  exact ⟨a, cap, by rw [hF.many]; exact at_cell hR.head 1 _ rfl⟩
theorem St.cells {x y z : Value} {t : TypeId} (s : St W0 b rb np F G k X (.cells #[x, y, z] t (0, 0)) w) : w.cell? ⟨X, 0, none⟩ = some x ∧ w.cell? ⟨X, 1, none⟩ = some y ∧ w.cell? ⟨X, 2, none⟩ = some z := by
  obtain ⟨S, T, c, hx, hy, ho⟩ := s
  exact (three ho).1
theorem St.drew (s : St W0 b rb np F G k X o w) : St W0 b rb np F G k X o w.drew := s.grow (below_drew w)
end
end Go.Proofs.Ytkonpieebemfbaa
