/- A pool of frames as it lies in memory. -/
import Derived.Test.YtkcijlndblbidaaRowF
import Derived.RegionTactic
import Derived.Laws.MakeOwn
namespace Go.Proofs.Ytkcijlndblbidaa.Fr
open Go.ChangeShapes Go.WideShapes Go.ChangeAt Go.RowKit

/-- what a pool has: how many frames ever were taken (n), how many are (used), counts, which ones (tk), those given back (bk), their words -/
structure PS where
  n : Nat
  used : Nat
  high : Nat
  times : Nat
  tk : Nat → Bool
  bk : List Nat
  wd : Nat → Nat → Nat
def wordV (page : Nat) (s : PS) (i : Nat) : Value := .int .u64 (s.wd (i / page) (i % page))
def takenV (s : PS) (i : Nat) : Value := .bool (s.tk i)
def backV (s : PS) (i : Nat) : Value := .int .i64 (s.bk.getD i 0 : Nat)
structure FMem (b room page : Nat) (s : PS) (aw : Option Addr) (cw : Nat) (at_ : Option Addr) (ct : Nat) (ab : Option Addr) (cb : Nat) (w : World) : Prop where
  head : w.heap[b]? = some (.cells #[.slice aw (s.n * page) cw, .slice at_ s.n ct, .slice ab s.bk.length cb, .int .i64 room, .int .i64 page, .int .i64 s.used, .int .i64 s.high, .int .i64 s.times] 206 (0, 0))
  words : OwnF (b + 1) 23 (.slice aw (s.n * page) cw) (s.n * page) (wordV page s) w
  taken : OwnF (b + 1) 4 (.slice at_ s.n ct) s.n (takenV s) w
  back : OwnF (b + 1) 3 (.slice ab s.bk.length cb) s.bk.length (backV s) w
/-- the bounds under which a pool is walked -/
structure PS.ok (room page : Nat) (s : PS) : Prop where
  room1 : 1 ≤ room ∧ room ≤ 4096
  page1 : 1 ≤ page ∧ page ≤ 256
  few : s.n ≤ room
  less : s.bk.length ≤ s.n
  used : s.used + s.bk.length = s.n
  high : s.high ≤ 4096
  back : ∀ f, f ∈ s.bk → f < s.n ∧ s.tk f = false
  once : s.bk.Nodup
  small : ∀ f i, s.wd f i < 18446744073709551616
/-- a pool in block b, its blocks among S -/
def Pl (S : Nat → Prop) (b room page : Nat) (s : PS) (w : World) : Prop :=
  ∃ aw cw at_ ct ab cb, FMem b room page s aw cw at_ ct ab cb w ∧ (S b ∧ (∀ a, aw = some a → S a.block) ∧ (∀ a, at_ = some a → S a.block) ∧ ∀ a, ab = some a → S a.block) ∧ In S w
theorem own_of_some {a : Option Addr} {n c g : Nat} (h : (Value.slice a n c).ownBlock = some g) : ∃ ad, a = some ad ∧ ad.block = g := by
  cases a with
  | none => cases h
  | some ad => exact ⟨ad, rfl, by simpa [Value.ownBlock] using h⟩
theorem Pl.in {S : Nat → Prop} {b room page : Nat} {s : PS} {w : World} (h : Pl S b room page s w) : In S w := by
  obtain ⟨_, _, _, _, _, _, _, _, h⟩ := h; exact h
theorem Pl.keep {S T : Nat → Prop} {b room page : Nat} {s : PS} {w w' : World} (h : Pl S b room page s w) (c : Chg T w w') (ap : Apart S T) : Pl S b room page s w' := by
  obtain ⟨aw, cw, at_, ct, ab, cb, hm, ⟨s1, s2, s3, s4⟩, hI⟩ := h
  have key : ∀ {B n k : Nat} {e : TypeId} {a : Option Addr} {c' : Nat} {f : Nat → Value}, OwnF B e (.slice a n c') k f w → (∀ ad, a = some ad → S ad.block) → OwnF B e (.slice a n c') k f w' := by
    intro B n k e a c' f ho hs
    refine ho.from fun g hg => ?_
    obtain ⟨ad, rfl, rfl⟩ := own_of_some hg
    exact c.2.2.2.2 ad.block (ho.lt _ hg).2 (fun t => ap _ (hs ad rfl) t)
  exact ⟨aw, cw, at_, ct, ab, cb, ⟨c.keep hm.head (fun t => ap _ s1 t), key hm.words s2, key hm.taken s3, key hm.back s4⟩, ⟨s1, s2, s3, s4⟩, hI.mono c.size⟩
theorem Pl.grow {S : Nat → Prop} {b room page : Nat} {s : PS} {w w' : World} (h : Pl S b room page s w) (c : Below w.heap.size w w') : Pl S b room page s w' :=
  h.keep (T := fun _ => False) (Chg.of c) (fun _ _ h => h)
/-- a pool that has become s', of what was there only S changed -/
def PDid (S : Nat → Prop) (b room page : Nat) (s' : PS) (w w' : World) : Prop := ∃ S', Pl S' b room page s' w' ∧ Chg S w w' ∧ Grew S S' w
theorem PDid.of {S : Nat → Prop} {b room page : Nat} {s : PS} {w w' : World} (hM : Pl S b room page s w) (h : Below w.heap.size w w') : PDid S b room page s w w' := ⟨S, hM.grow h, Chg.of h, Grew.refl _ _⟩
theorem PDid.then {S S' : Nat → Prop} {b room page : Nat} {s : PS} {w w1 w' : World} (h : Chg S w w1) (g : Grew S S' w) (k : PDid S' b room page s w1 w') : PDid S b room page s w w' := by
  obtain ⟨S2, h1, h2, h3⟩ := k
  exact ⟨S2, h1, h.then h2 g, g.trans h3 h.size⟩
/-- every block of S is B or later -/
def Up (B : Nat) (S : Nat → Prop) : Prop := ∀ k, S k → B ≤ k
theorem PDid.up {S : Nat → Prop} {b room page B : Nat} {s : PS} {w w' : World} (h : PDid S b room page s w w') (u : Up B S) (hB : B ≤ w.heap.size) : ∃ S', Pl S' b room page s w' ∧ Up B S' ∧ Below B w w' := by
  obtain ⟨S', h1, h2, h3⟩ := h
  refine ⟨S', h1, fun k hk => ?_, h2.below u hB⟩
  rcases h3 k hk with a | a
  · exact u k a
  · omega
end Go.Proofs.Ytkcijlndblbidaa.Fr
