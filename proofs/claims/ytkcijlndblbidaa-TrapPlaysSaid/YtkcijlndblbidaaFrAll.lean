/- FrAll: several texts in one. -/
import Derived.Test.YtkcijlndblbidaaRowF
import Derived.RegionTactic
import Derived.Laws.MakeOwn
import Derived.Deep.RegionHeld3
import Derived.Deep.RegionLaw
import Derived.Deep.QuietTactic
import Derived.BigQuiet
/- A pool of frames as it lies in memory. -/
namespace Go.Proofs.Ytkcijlndblbidaa.Fr
open Go.ChangeShapes Go.WideShapes Go.ChangeAt Go.RowKit

/-- what a pool has: how many frames ever were taken (n), how many are (used), counts, which ones (tk), those given back (bk), their words -/
structure PS where
  n : Nat
  used : Nat
  high : Nat
  times : Nat
  tk : Nat → Bool
  bk : List Nat
  wd : Nat → Nat → Nat
def wordV (page : Nat) (s : PS) (i : Nat) : Value := .int .u64 (s.wd (i / page) (i % page))
def takenV (s : PS) (i : Nat) : Value := .bool (s.tk i)
def backV (s : PS) (i : Nat) : Value := .int .i64 (s.bk.getD i 0 : Nat)
structure FMem (b room page : Nat) (s : PS) (aw : Option Addr) (cw : Nat) (at_ : Option Addr) (ct : Nat) (ab : Option Addr) (cb : Nat) (w : World) : Prop where
  head : w.heap[b]? = some (.cells #[.slice aw (s.n * page) cw, .slice at_ s.n ct, .slice ab s.bk.length cb, .int .i64 room, .int .i64 page, .int .i64 s.used, .int .i64 s.high, .int .i64 s.times] 206 (0, 0))
  words : OwnF (b + 1) 23 (.slice aw (s.n * page) cw) (s.n * page) (wordV page s) w
  taken : OwnF (b + 1) 4 (.slice at_ s.n ct) s.n (takenV s) w
  back : OwnF (b + 1) 3 (.slice ab s.bk.length cb) s.bk.length (backV s) w
/-- the bounds under which a pool is walked -/
structure PS.ok (room page : Nat) (s : PS) : Prop where
  room1 : 1 ≤ room ∧ room ≤ 4096
  page1 : 1 ≤ page ∧ page ≤ 256
  few : s.n ≤ room
  less : s.bk.length ≤ s.n
  used : s.used + s.bk.length = s.n
  high : s.high ≤ 4096
  back : ∀ f, f ∈ s.bk → f < s.n ∧ s.tk f = false
  once : s.bk.Nodup
  small : ∀ f i, s.wd f i < 18446744073709551616
/-- a pool in block b, its blocks among S -/
def Pl (S : Nat → Prop) (b room page : Nat) (s : PS) (w : World) : Prop :=
  ∃ aw cw at_ ct ab cb, FMem b room page s aw cw at_ ct ab cb w ∧ (S b ∧ (∀ a, aw = some a → S a.block) ∧ (∀ a, at_ = some a → S a.block) ∧ ∀ a, ab = some a → S a.block) ∧ In S w
theorem own_of_some {a : Option Addr} {n c g : Nat} (h : (Value.slice a n c).ownBlock = some g) : ∃ ad, a = some ad ∧ ad.block = g := by
  cases a with
  | none => cases h
  | some ad => exact ⟨ad, rfl, by simpa [Value.ownBlock] using h⟩
theorem Pl.in {S : Nat → Prop} {b room page : Nat} {s : PS} {w : World} (h : Pl S b room page s w) : In S w := by
  obtain ⟨_, _, _, _, _, _, _, _, h⟩ := h; exact h
theorem Pl.keep {S T : Nat → Prop} {b room page : Nat} {s : PS} {w w' : World} (h : Pl S b room page s w) (c : Chg T w w') (ap : Apart S T) : Pl S b room page s w' := by
  obtain ⟨aw, cw, at_, ct, ab, cb, hm, ⟨s1, s2, s3, s4⟩, hI⟩ := h
  have key : ∀ {B n k : Nat} {e : TypeId} {a : Option Addr} {c' : Nat} {f : Nat → Value}, OwnF B e (.slice a n c') k f w → (∀ ad, a = some ad → S ad.block) → OwnF B e (.slice a n c') k f w' := by
    intro B n k e a c' f ho hs
    refine ho.from fun g hg => ?_
    obtain ⟨ad, rfl, rfl⟩ := own_of_some hg
    exact c.2.2.2.2 ad.block (ho.lt _ hg).2 (fun t => ap _ (hs ad rfl) t)
  exact ⟨aw, cw, at_, ct, ab, cb, ⟨c.keep hm.head (fun t => ap _ s1 t), key hm.words s2, key hm.taken s3, key hm.back s4⟩, ⟨s1, s2, s3, s4⟩, hI.mono c.size⟩
theorem Pl.grow {S : Nat → Prop} {b room page : Nat} {s : PS} {w w' : World} (h : Pl S b room page s w) (c : Below w.heap.size w w') : Pl S b room page s w' :=
  h.keep (T := fun _ => False) (Chg.of c) (fun _ _ h => h)
/-- a pool that has become s', of what was there only S changed -/
def PDid (S : Nat → Prop) (b room page : Nat) (s' : PS) (w w' : World) : Prop := ∃ S', Pl S' b room page s' w' ∧ Chg S w w' ∧ Grew S S' w
theorem PDid.of {S : Nat → Prop} {b room page : Nat} {s : PS} {w w' : World} (hM : Pl S b room page s w) (h : Below w.heap.size w w') : PDid S b room page s w w' := ⟨S, hM.grow h, Chg.of h, Grew.refl _ _⟩
theorem PDid.then {S S' : Nat → Prop} {b room page : Nat} {s : PS} {w w1 w' : World} (h : Chg S w w1) (g : Grew S S' w) (k : PDid S' b room page s w1 w') : PDid S b room page s w w' := by
  obtain ⟨S2, h1, h2, h3⟩ := k
  exact ⟨S2, h1, h.then h2 g, g.trans h3 h.size⟩
/-- every block of S is B or later -/
def Up (B : Nat) (S : Nat → Prop) : Prop := ∀ k, S k → B ≤ k
theorem PDid.up {S : Nat → Prop} {b room page B : Nat} {s : PS} {w w' : World} (h : PDid S b room page s w w') (u : Up B S) (hB : B ≤ w.heap.size) : ∃ S', Pl S' b room page s w' ∧ Up B S' ∧ Below B w w' := by
  obtain ⟨S', h1, h2, h3⟩ := h
  refine ⟨S', h1, fun k hk => ?_, h2.below u hB⟩
  rcases h3 k hk with a | a
  · exact u k a
  · omega
end Go.Proofs.Ytkcijlndblbidaa.Fr

/- The walks of a pool's small methods: frame, check, word, Load, Store, and the counts. -/
namespace Go.Proofs.Ytkcijlndblbidaa.Fr
open Go.ChangeShapes Go.WideShapes Go.ChangeAt Go.RowKit
set_option linter.unusedVariables false

section
variable {b room page : Nat} {s : PS} {aw at_ ab : Option Addr} {cw ct cb : Nat} {w : World}
theorem frame_any (hF : FMem b room page s aw cw at_ ct ab cb w) (hr0 : 1 ≤ room ∧ room ≤ 4096) (hp0 : 1 ≤ page ∧ page ≤ 256) (hfew : s.n ≤ room) (f g : Nat) (hf : f < s.n) (ha : aw = some ⟨g, 0, none⟩) :
    Calls Try.prog 148 #[.pointer (some ⟨b, 0, none⟩), .int .i64 f] w fun e w' => e = .returned (.slice (some ⟨g, f * page, none⟩) page page) ∧ w = w' := by
  subst ha
  have c0 := at_cell hF.head 0 _ rfl
  have c4 := at_cell hF.head 4 _ rfl
  obtain ⟨-, hcap, hcm, -⟩ := hF.words.form
  obtain ⟨hr1, hr2⟩ := hr0
  obtain ⟨hp1, hp2⟩ := hp0
  obtain ⟨q, hq⟩ : ∃ q, f * page = q := ⟨_, rfl⟩
  have hq2 : (f : Int) * (page : Int) = q := by rw [← hq, Int.natCast_mul]
  have hle : q + page ≤ s.n * page := by
    have := Nat.mul_le_mul_right page (show f + 1 ≤ s.n by omega)
    rw [Nat.add_mul] at this
    omega
  have hmx : s.n * page ≤ 4096 * 256 := Nat.mul_le_mul (by omega) hp2
  generalize s.n * page = N at *
  rw [hq]
  have Hq := Lib.hid hq
  clear hF hq
  unfold maxLen at hcm
  have h1 : (0 : Int) ≤ q := by omega
  have h2 : (q : Int) ≤ q + page := by omega
  have h3 : (q : Int) + page ≤ cw := by omega
  have h4 : (q : Int) + page ≤ 1048576 := by omega
  have h5 : ¬ ((q : Int) + page).toNat = q := by omega
  have h6 : ((q : Int) + page).toNat - q = page := by omega
  have h7 : ((q : Int) + page).toNat = q + page := by omega
  have h8 : ¬ q + page = q := by omega
  have h9 : q + page - q = page := by omega
  go_enter Try.func148, Try.ntmps148
  go_wp2
  go_ret
  exact ⟨rfl, rfl⟩
/-- is a frame taken? -/
def has (s : PS) (f : Int) : Bool := decide (0 ≤ f ∧ f < s.n) && s.tk f.toNat
theorem has_iff (s : PS) (f : Int) : has s f = true ↔ (0 ≤ f ∧ f < s.n) ∧ s.tk f.toNat = true := by simp [has]
theorem check_any (hF : FMem b room page s aw cw at_ ct ab cb w) (hk : s.ok room page) (f : Int) :
    Calls Try.prog 150 #[.pointer (some ⟨b, 0, none⟩), .int .i64 f] w fun e w' => e = .returned (.int .i64 (if has s f then 0 else 6)) ∧ w = w' := by
  have c1 := at_cell hF.head 1 _ rfl
  by_cases h1 : 0 ≤ f
  · by_cases h2 : f < s.n
    · obtain ⟨f, rfl⟩ : ∃ q : Nat, f = q := ⟨f.toNat, by omega⟩
      obtain ⟨-, -, -, hform, -⟩ := hF.taken.form
      obtain ⟨g, rfl, -, -⟩ := hform (by omega)
      have cf := hF.taken.cell (show f < s.n by omega)
      unfold takenV at cf
      by_cases h3 : s.tk f = true
      · rw [if_pos ((has_iff _ _).2 ⟨⟨h1, h2⟩, h3⟩)]
        rw [h3] at cf
        clear hF hk h3
        go_enter Try.func150, Try.ntmps150
        go_wp2
        go_ret
        exact ⟨rfl, rfl⟩
      · rw [if_neg (fun h => h3 ((has_iff _ _).1 h).2)]
        rw [show s.tk f = false by simpa using h3] at cf
        clear hF hk h3
        go_enter Try.func150, Try.ntmps150
        go_wp2
        go_ret
        exact ⟨rfl, rfl⟩
    · rw [if_neg (fun h => h2 ((has_iff _ _).1 h).1.2)]
      clear hF hk
      go_enter Try.func150, Try.ntmps150
      go_wp2
      go_ret
      exact ⟨rfl, rfl⟩
  · rw [if_neg (fun h => h1 ((has_iff _ _).1 h).1.1)]
    clear hF hk
    go_enter Try.func150, Try.ntmps150
    go_wp2
    go_ret
    exact ⟨rfl, rfl⟩
/-- what word, Load and Store answer -/
def wordE (page : Nat) (s : PS) (f at_ : Int) : Int := if ¬ has s f = true then 6 else if at_ < 0 ∨ (page : Int) ≤ at_ then 11 else 0
theorem word_no (hF : FMem b room page s aw cw at_ ct ab cb w) (hk : s.ok room page) (f i : Int) (h : wordE page s f i ≠ 0) :
    Calls Try.prog 144 #[.pointer (some ⟨b, 0, none⟩), .int .i64 f, .int .i64 i] w fun e w' => e = .returned (.tuple #[.pointer none, .int .i64 (wordE page s f i)]) ∧ w = w' := by
  have c4 := at_cell hF.head 4 _ rfl
  have Hc := check_any hF hk f
  unfold wordE at h ⊢
  by_cases h1 : has s f = true
  · rw [if_neg (Classical.not_not.2 h1)] at h ⊢
    rw [if_pos h1] at Hc
    by_cases h2 : i < 0 ∨ (page : Int) ≤ i
    · rw [if_pos h2]
      replace Hc := Lib.hid Hc
      clear hF hk h h1
      rcases h2 with h2 | h2
      · go_enter Try.func144, Try.ntmps144
        go_wp2_with (go_at_call 150; refine Hc.out.mono ?_; rintro e w1 ⟨rfl, rfl⟩)
        go_ret2
        exact ⟨rfl, rfl⟩
      · have h0 : ¬ i < 0 := by omega
        go_enter Try.func144, Try.ntmps144
        go_wp2_with (go_at_call 150; refine Hc.out.mono ?_; rintro e w1 ⟨rfl, rfl⟩)
        go_ret2
        exact ⟨rfl, rfl⟩
    · rw [if_neg h2] at h
      exact absurd rfl h
  · rw [if_pos h1]
    rw [if_neg h1] at Hc
    replace Hc := Lib.hid Hc
    clear hF hk h h1
    go_enter Try.func144, Try.ntmps144
    go_wp2_with (go_at_call 150; refine Hc.out.mono ?_; rintro e w1 ⟨rfl, rfl⟩)
    go_ret2
    exact ⟨rfl, rfl⟩
theorem word_yes (hF : FMem b room page s aw cw at_ ct ab cb w) (hk : s.ok room page) (f i g : Nat) (hh : has s f = true) (hi : i < page) (ha : aw = some ⟨g, 0, none⟩) :
    Calls Try.prog 144 #[.pointer (some ⟨b, 0, none⟩), .int .i64 f, .int .i64 i] w fun e w' => e = .returned (.tuple #[.pointer (some ⟨g, f * page + i, none⟩), .int .i64 0]) ∧ w = w' := by
  have c4 := at_cell hF.head 4 _ rfl
  have Hc := check_any hF hk f
  rw [if_pos hh] at Hc
  have Hf := Lib.hid (frame_any hF hk.room1 hk.page1 hk.few f g (by have := ((has_iff _ _).1 hh).1.2; omega) ha)
  replace Hc := Lib.hid Hc
  have h0 : ¬ (i : Int) < 0 := by omega
  have h1 : ¬ (page : Int) ≤ i := by omega
  have h2 : (i : Int) < page := by omega
  obtain ⟨q, hq⟩ : ∃ q, f * page = q := ⟨_, rfl⟩
  rw [hq] at Hf ⊢
  clear hF hk hh hi ha hq
  go_enter Try.func144, Try.ntmps144
  go_wp2_with (first | (go_at_call 150; refine Hc.out.mono ?_; rintro e w1 ⟨rfl, rfl⟩) | (go_at_call 148; refine Hf.out.mono ?_; rintro e w1 ⟨rfl, rfl⟩))
  go_ret2
  exact ⟨rfl, rfl⟩
end
end Go.Proofs.Ytkcijlndblbidaa.Fr

/- The walks of Load, Store, Give and the counts at a pool whose blocks are among S. -/
namespace Go.Proofs.Ytkcijlndblbidaa.Fr
open Go.ChangeShapes Go.WideShapes Go.ChangeAt Go.RowKit
set_option linter.unusedVariables false

theorem wordE_zero {page : Nat} {s : PS} {f i : Int} (h : wordE page s f i = 0) : has s f = true ∧ 0 ≤ i ∧ i < page := by
  unfold wordE at h
  by_cases h1 : has s f = true
  · rw [if_neg (Classical.not_not.2 h1)] at h
    by_cases h2 : i < 0 ∨ (page : Int) ≤ i
    · rw [if_pos h2] at h; cases h
    · exact ⟨h1, by omega, by omega⟩
  · rw [if_pos h1] at h; cases h
theorem word_index {f i page n : Nat} (hf : f < n) (hi : i < page) : f * page + i < n * page := by
  have := Nat.mul_le_mul_right page (show f + 1 ≤ n by omega)
  rw [Nat.add_mul] at this
  omega
theorem wordV_at (page : Nat) (s : PS) (f i : Nat) (hi : i < page) : wordV page s (f * page + i) = .int .u64 (s.wd f i) := by
  unfold wordV
  have h1 : (f * page + i) / page = f := by
    rw [Nat.mul_comm, Nat.mul_add_div (by omega), Nat.div_eq_of_lt hi, Nat.add_zero]
  have h2 : (f * page + i) % page = i := by
    rw [Nat.mul_comm, Nat.mul_add_mod, Nat.mod_eq_of_lt hi]
  rw [h1, h2]
theorem index_eq {f i page j : Nat} (hi : i < page) : j = f * page + i ↔ j / page = f ∧ j % page = i := by
  constructor
  · rintro rfl
    exact ⟨by rw [Nat.mul_comm, Nat.mul_add_div (by omega), Nat.div_eq_of_lt hi, Nat.add_zero], by rw [Nat.mul_comm, Nat.mul_add_mod, Nat.mod_eq_of_lt hi]⟩
  · rintro ⟨rfl, rfl⟩
    exact (Nat.div_add_mod' j page).symm
/-- what Load answers -/
def loadR (page : Nat) (s : PS) (f i : Int) : Nat := if wordE page s f i = 0 then s.wd f.toNat i.toNat else 0
set_option maxRecDepth 100000 in
theorem load_pl (S : Nat → Prop) (b room page : Nat) (s : PS) (w : World) (hP : Pl S b room page s w) (hk : s.ok room page) (f i : Int) :
    Calls Try.prog 111 #[.pointer (some ⟨b, 0, none⟩), .int .i64 f, .int .i64 i] w fun e w' => e = .returned (.tuple #[.int .u64 (loadR page s f i), .int .i64 (wordE page s f i)]) ∧ w = w' := by
  obtain ⟨aw, cw, at_, ct, ab, cb, hF, -, -⟩ := hP
  unfold loadR
  by_cases h : wordE page s f i = 0
  · obtain ⟨h1, h2, h3⟩ := wordE_zero h
    rw [if_pos h, h]
    have hh := (has_iff _ _).1 h1
    obtain ⟨f, rfl⟩ : ∃ q : Nat, f = q := ⟨f.toNat, by omega⟩
    obtain ⟨i, rfl⟩ : ∃ q : Nat, i = q := ⟨i.toNat, by omega⟩
    rw [Int.toNat_natCast, Int.toNat_natCast]
    obtain ⟨-, -, -, hform, -⟩ := hF.words.form
    have hidx := word_index (show f < s.n by omega) (show i < page by omega)
    obtain ⟨g, rfl, -, -⟩ := hform (by omega)
    have Hw := Lib.hid (word_yes hF hk f i g h1 (by omega) rfl)
    have cw0 := hF.words.cell hidx
    rw [wordV_at page s f i (by omega)] at cw0
    generalize (s.wd f i : Int) = x at *
    generalize f * page + i = q at *
    clear h hF hk h1 h2 h3 hh hform hidx
    go_enter Try.func111, Try.ntmps111
    go_wp2_with (go_at_call 144; refine Hw.out.mono ?_; rintro e w1 ⟨rfl, rfl⟩)
    go_ret2
    exact ⟨rfl, rfl⟩
  · rw [if_neg h]
    have Hw := word_no hF hk f i h
    obtain ⟨y, hy⟩ : ∃ y, wordE page s f i = y := ⟨_, rfl⟩
    rw [hy] at Hw h ⊢
    replace Hw := Lib.hid Hw
    clear hF hk hy
    go_enter Try.func111, Try.ntmps111
    go_wp2_with (go_at_call 144; refine Hw.out.mono ?_; rintro e w1 ⟨rfl, rfl⟩)
    go_ret2
    exact ⟨rfl, rfl⟩
/-- what Store leaves -/
def putW (s : PS) (f i x : Nat) : PS := { s with wd := fun g j => if g = f ∧ j = i then x else s.wd g j }
def storeS (page : Nat) (s : PS) (f i : Int) (x : Nat) : PS := if wordE page s f i = 0 then putW s f.toNat i.toNat x else s
theorem putW_ok {room page : Nat} {s : PS} (hk : s.ok room page) (f i x : Nat) (hx : x < 18446744073709551616) : (putW s f i x).ok room page :=
  ⟨hk.room1, hk.page1, hk.few, hk.less, hk.used, hk.high, hk.back, hk.once, fun g j => by
    show (if g = f ∧ j = i then x else s.wd g j) < _
    split
    · exact hx
    · exact hk.small g j⟩
theorem storeS_ok {room page : Nat} {s : PS} (hk : s.ok room page) (f i : Int) (x : Nat) (hx : x < 18446744073709551616) : (storeS page s f i x).ok room page := by
  unfold storeS
  split
  · exact putW_ok hk _ _ x hx
  · exact hk
theorem FMem.ne {b room page : Nat} {s : PS} {aw at_ ab : Option Addr} {cw ct cb : Nat} {w : World} (h : FMem b room page s aw cw at_ ct ab cb w) :
    (∀ a, aw = some a → b < a.block) ∧ (∀ a, at_ = some a → b < a.block) ∧ ∀ a, ab = some a → b < a.block :=
  ⟨fun a e => by have := (h.words.lt a.block (by rw [e]; rfl)).1; omega, fun a e => by have := (h.taken.lt a.block (by rw [e]; rfl)).1; omega, fun a e => by have := (h.back.lt a.block (by rw [e]; rfl)).1; omega⟩
theorem word_int : (23 : Nat) ≠ 3 := by decide
theorem word_bool : (23 : Nat) ≠ 4 := by decide
theorem bool_int : (4 : Nat) ≠ 3 := by decide
/-- of a pool in memory: a word stored -/
theorem FMem.put {b room page : Nat} {s : PS} {at_ ab : Option Addr} {cw ct cb g : Nat} {w : World} (h : FMem b room page s (some ⟨g, 0, none⟩) cw at_ ct ab cb w) (f i x : Nat) (hi : i < page) :
    FMem b room page (putW s f i x) (some ⟨g, 0, none⟩) cw at_ ct ab cb (w.setCell ⟨g, f * page + i, none⟩ (.int .u64 x)) := by
  obtain ⟨n1, n2, n3⟩ := h.ne
  have hb : b ≠ g := by have := n1 _ rfl; simp at this; omega
  refine ⟨?_, ?_, ?_, ?_⟩
  · rw [far hb]; exact h.head
  · refine (h.words.set (f * page + i) (.int .u64 x)).congr fun j hj => ?_
    unfold wordV putW
    have hx := index_eq (f := f) (j := j) hi
    by_cases e : j = f * page + i
    · rw [if_pos e]
      simp only []
      rw [if_pos (hx.1 e)]
    · rw [if_neg e]
      simp only []
      rw [if_neg (fun k => e (hx.2 k))]
  · exact h.taken.from fun k hk => far (h.taken.unlike h.words word_bool.symm hk rfl)
  · exact h.back.from fun k hk => far (h.back.unlike h.words word_int.symm hk rfl)
set_option maxRecDepth 100000 in
theorem store_pl (S : Nat → Prop) (b room page : Nat) (s : PS) (w : World) (hP : Pl S b room page s w) (hk : s.ok room page) (f i : Int) (x : Nat) :
    Calls Try.prog 103 #[.pointer (some ⟨b, 0, none⟩), .int .i64 f, .int .i64 i, .int .u64 x] w fun e w' => e = .returned (.int .i64 (wordE page s f i)) ∧ PDid S b room page (storeS page s f i x) w w' := by
  have HP := Lib.hid hP
  obtain ⟨aw, cw, at_, ct, ab, cb, hF, ⟨s1, s2, s3, s4⟩, hI⟩ := hP
  unfold storeS
  by_cases h : wordE page s f i = 0
  · obtain ⟨h1, h2, h3⟩ := wordE_zero h
    rw [if_pos h, h]
    have hh := (has_iff _ _).1 h1
    obtain ⟨f, rfl⟩ : ∃ q : Nat, f = q := ⟨f.toNat, by omega⟩
    obtain ⟨i, rfl⟩ : ∃ q : Nat, i = q := ⟨i.toNat, by omega⟩
    rw [Int.toNat_natCast, Int.toNat_natCast]
    obtain ⟨-, -, -, hform, -⟩ := hF.words.form
    have hidx := word_index (show f < s.n by omega) (show i < page by omega)
    obtain ⟨g, rfl, -, -⟩ := hform (by omega)
    have Hw := Lib.hid (word_yes hF hk f i g h1 (by omega) rfl)
    have cw0 := hF.words.cell hidx
    rw [wordV_at page s f i (by omega)] at cw0
    have fw0 := hF.words.free (f * page + i)
    have Hres := Lib.hid (show PDid S b room page (putW s f i x) w (w.setCell ⟨g, f * page + i, none⟩ (.int .u64 x)) from
      ⟨S, ⟨_, _, _, _, _, _, hF.put f i x (by omega), ⟨s1, s2, s3, s4⟩, hI.mono (by simp [World.setCell])⟩, (Chg.refl S w).set (p := ⟨g, f * page + i, none⟩) (.inl (s2 ⟨g, 0, none⟩ rfl)) _, Grew.refl _ _⟩)
    generalize (s.wd f i : Int) = y at *
    generalize f * page + i = q at *
    clear h hF hk h1 h2 h3 hh hform hidx s1 s2 s3 s4 hI
    go_enter Try.func103, Try.ntmps103
    go_wp2_with (go_at_call 144; refine Hw.out.mono ?_; rintro e w1 ⟨rfl, rfl⟩)
    go_ret
    exact ⟨rfl, Hres.out⟩
  · rw [if_neg h]
    have Hw := word_no hF hk f i h
    obtain ⟨y, hy⟩ : ∃ y, wordE page s f i = y := ⟨_, rfl⟩
    rw [hy] at Hw h ⊢
    replace Hw := Lib.hid Hw
    clear hF hk hy s1 s2 s3 s4 hI
    go_enter Try.func103, Try.ntmps103
    go_wp2_with (go_at_call 144; refine Hw.out.mono ?_; rintro e w1 ⟨rfl, rfl⟩)
    go_ret
    exact ⟨rfl, PDid.of HP.out (Below.refl _ _)⟩
section
variable (S : Nat → Prop) (b room page : Nat) (s : PS) (w : World) (hP : Pl S b room page s w)
include hP
theorem page_pl : Calls Try.prog 101 #[.pointer (some ⟨b, 0, none⟩)] w fun e w' => e = .returned (.int .i64 page) ∧ w = w' := by
  obtain ⟨aw, cw, at_, ct, ab, cb, hF, -, -⟩ := hP
  have c := at_cell hF.head 4 _ rfl
  clear hF
  go_enter Try.func101, Try.ntmps101
  go_wp2
  go_ret
  exact ⟨rfl, rfl⟩
theorem room_pl : Calls Try.prog 114 #[.pointer (some ⟨b, 0, none⟩)] w fun e w' => e = .returned (.int .i64 room) ∧ w = w' := by
  obtain ⟨aw, cw, at_, ct, ab, cb, hF, -, -⟩ := hP
  have c := at_cell hF.head 3 _ rfl
  clear hF
  go_enter Try.func114, Try.ntmps114
  go_wp2
  go_ret
  exact ⟨rfl, rfl⟩
theorem used_pl : Calls Try.prog 112 #[.pointer (some ⟨b, 0, none⟩)] w fun e w' => e = .returned (.int .i64 s.used) ∧ w = w' := by
  obtain ⟨aw, cw, at_, ct, ab, cb, hF, -, -⟩ := hP
  have c := at_cell hF.head 5 _ rfl
  clear hF
  go_enter Try.func112, Try.ntmps112
  go_wp2
  go_ret
  exact ⟨rfl, rfl⟩
theorem high_pl : Calls Try.prog 113 #[.pointer (some ⟨b, 0, none⟩)] w fun e w' => e = .returned (.int .i64 s.high) ∧ w = w' := by
  obtain ⟨aw, cw, at_, ct, ab, cb, hF, -, -⟩ := hP
  have c := at_cell hF.head 6 _ rfl
  clear hF
  go_enter Try.func113, Try.ntmps113
  go_wp2
  go_ret
  exact ⟨rfl, rfl⟩
end
end Go.Proofs.Ytkcijlndblbidaa.Fr

/- The walks of New, Power and Give. -/
namespace Go.Proofs.Ytkcijlndblbidaa.Fr
open Go.ChangeShapes Go.WideShapes Go.ChangeAt Go.RowKit
set_option linter.unusedVariables false

theorem int_info : (Try.prog.info? 3).map (fun i => (i.zero, i.size, i.bytes)) = some (some (.int .i64 0), 1, 8) := by kernel_rfl
theorem bool_info : (Try.prog.info? 4).map (fun i => (i.zero, i.size, i.bytes)) = some (some (.bool false), 1, 1) := by kernel_rfl
theorem word_info : (Try.prog.info? 23).map (fun i => (i.zero, i.size, i.bytes)) = some (some (.int .u64 0), 1, 8) := by kernel_rfl
/-- what Power answers -/
def powB (n : Int) : Bool := decide (0 < n) && (bits BinOp.and IntKind.i64 n (n - 1) == 0)
theorem power_any (n : Int) (w : World) (hn : n ≤ 9223372036854775807) : Calls Try.prog 143 #[.int .i64 n] w fun e w' => e = .returned (.bool (powB n)) ∧ w = w' := by
  unfold powB
  by_cases h : 0 < n
  · have h1 : -9223372036854775808 ≤ n - 1 := by omega
    have h2 : n - 1 ≤ 9223372036854775807 := by omega
    obtain ⟨y, hy⟩ : ∃ y, y = bits BinOp.and IntKind.i64 n (n - 1) := ⟨_, rfl⟩
    rw [← hy, decide_eq_true h, Bool.true_and]
    have Hy := Lib.hid hy
    clear hy
    go_enter Try.func143, Try.ntmps143
    go_wp2
    go_ret
    rw [← Hy.out]
    exact ⟨rfl, rfl⟩
  · rw [decide_eq_false h, Bool.false_and]
    go_enter Try.func143, Try.ntmps143
    go_wp2
    go_ret
    exact ⟨rfl, rfl⟩
def isPage (n : Int) : Prop := n = 1 ∨ n = 2 ∨ n = 4 ∨ n = 8 ∨ n = 16 ∨ n = 32 ∨ n = 64 ∨ n = 128 ∨ n = 256
def pageB (n : Int) : Bool := n == 1 || n == 2 || n == 4 || n == 8 || n == 16 || n == 32 || n == 64 || n == 128 || n == 256
theorem pageB_iff (n : Int) : pageB n = true ↔ isPage n := by simp [pageB, isPage, or_assoc]
theorem powB_page (n : Int) (h : n ≤ 256) : powB n = pageB n := by
  by_cases h0 : 0 < n
  · have key : ∀ k : Fin 257, powB (k.val : Int) = pageB (k.val : Int) ∨ k.val = 0 := by decide +kernel
    obtain ⟨k, rfl⟩ : ∃ k : Nat, n = k := ⟨n.toNat, by omega⟩
    rcases key ⟨k, by omega⟩ with e | e
    · exact e
    · exact absurd e (by simp; omega)
  · have h1 : powB n = false := by unfold powB; rw [decide_eq_false h0]; rfl
    rw [h1]
    symm
    rw [Bool.eq_false_iff]
    intro h2
    have := (pageB_iff n).1 h2
    unfold isPage at this
    omega
theorem new_no (r p : Int) (w : World) (hp : p ≤ 9223372036854775807) (h : ¬ (1 ≤ r ∧ r ≤ 4096 ∧ isPage p)) :
    Calls Try.prog 97 #[.int .i64 r, .int .i64 p] w fun e w' => e = .returned (.tuple #[.pointer none, .int .i64 5]) ∧ w = w' := by
  have Hp := Lib.hid (power_any p w hp)
  by_cases h1 : r < 1
  · clear h
    go_enter Try.func97, Try.ntmps97
    go_wp2
    go_ret2
    exact ⟨rfl, rfl⟩
  · by_cases h2 : 4096 < r
    · clear h
      go_enter Try.func97, Try.ntmps97
      go_wp2
      go_ret2
      exact ⟨rfl, rfl⟩
    · have h3 : ¬ isPage p := fun h3 => h ⟨by omega, by omega, h3⟩
      by_cases h4 : powB p = true
      · have h5 : 256 < p := by
          apply Classical.byContradiction
          intro h5
          rw [powB_page p (by omega)] at h4
          exact h3 ((pageB_iff p).1 h4)
        rw [h4] at Hp
        clear h h3 h4
        go_enter Try.func97, Try.ntmps97
        go_wp2_with (go_at_call 143; refine Hp.out.mono ?_; rintro e w1 ⟨rfl, rfl⟩)
        go_ret2
        exact ⟨rfl, rfl⟩
      · rw [Bool.eq_false_iff.2 h4] at Hp
        clear h h3 h4
        go_enter Try.func97, Try.ntmps97
        go_wp2_with (go_at_call 143; refine Hp.out.mono ?_; rintro e w1 ⟨rfl, rfl⟩)
        go_ret2
        exact ⟨rfl, rfl⟩
def start : PS := ⟨0, 0, 0, 0, fun _ => false, [], fun _ _ => 0⟩
theorem start_ok {room page : Nat} (h1 : 1 ≤ room ∧ room ≤ 4096) (h2 : 1 ≤ page ∧ page ≤ 256) : start.ok room page :=
  ⟨h1, h2, by simp [start], by simp [start], by simp [start], by simp [start], by simp [start], by simp [start], by simp [start]⟩
theorem isPage_le {p : Nat} (h : isPage p) : 1 ≤ p ∧ p ≤ 256 := by unfold isPage at h; omega
set_option maxRecDepth 100000 in
theorem new_yes (r p : Nat) (w : World) (h1 : 1 ≤ r) (h2 : r ≤ 4096) (h3 : isPage p) :
    Calls Try.prog 97 #[.int .i64 r, .int .i64 p] w fun e w' => e = .returned (.tuple #[.pointer (some ⟨w.heap.size, 0, none⟩), .int .i64 0]) ∧ (∃ S, Pl S w.heap.size r p start w' ∧ Up w.heap.size S) ∧ Below w.heap.size w w' := by
  have hp := isPage_le h3
  have Hpow := power_any p w (by omega)
  rw [powB_page p (by omega), (pageB_iff p).2 h3] at Hpow
  replace Hpow := Lib.hid Hpow
  have k1 : ¬ (r : Int) < 1 := by omega
  have k2 : ¬ (4096 : Int) < r := by omega
  have k3 : ¬ (256 : Int) < p := by omega
  have Hres := Lib.hid (show ∃ S, Pl S w.heap.size r p start (w.alloc (.cells #[.slice none 0 0, .slice none 0 0, .slice none 0 0, .int .i64 r, .int .i64 p, .int .i64 0, .int .i64 0, .int .i64 0] 206)) ∧ Up w.heap.size S from
    ⟨fun k => k = w.heap.size, ⟨none, 0, none, 0, none, 0, ⟨by
      have := heap_alloc_new w (.cells #[.slice none 0 0, .slice none 0 0, .slice none 0 0, .int .i64 r, .int .i64 p, .int .i64 0, .int .i64 0, .int .i64 0] 206)
      rw [this]
      simp [start], by
      have := OwnF.nil (w.heap.size + 1) 23 (wordV p start) (w.alloc (.cells #[.slice none 0 0, .slice none 0 0, .slice none 0 0, .int .i64 r, .int .i64 p, .int .i64 0, .int .i64 0, .int .i64 0] 206))
      simpa [start] using this, OwnF.nil _ _ _ _, OwnF.nil _ _ _ _⟩, ⟨rfl, by simp, by simp, by simp⟩, fun k hk => by subst hk; simp⟩, fun k hk => by omega⟩)
  have Hb := Lib.hid (below_new w (.cells #[.slice none 0 0, .slice none 0 0, .slice none 0 0, .int .i64 r, .int .i64 p, .int .i64 0, .int .i64 0, .int .i64 0] 206))
  clear h1 h2 h3 hp
  go_enter Try.func97, Try.ntmps97
  go_wp2_with (go_at_call 143; refine Hpow.out.mono ?_; rintro e w1 ⟨rfl, rfl⟩)
  go_ret2
  exact ⟨rfl, Hres.out, Hb.out⟩
end Go.Proofs.Ytkcijlndblbidaa.Fr

/- The walk of Give. -/
namespace Go.Proofs.Ytkcijlndblbidaa.Fr
open Go.ChangeShapes Go.WideShapes Go.ChangeAt Go.RowKit
set_option linter.unusedVariables false

def giveE (s : PS) (f : Int) : Int := if has s f then 0 else 6
def giveT (s : PS) (f : Nat) : PS := { s with used := s.used - 1, tk := fun i => if i = f then false else s.tk i, bk := s.bk ++ [f] }
def giveS (s : PS) (f : Int) : PS := if has s f then giveT s f.toNat else s
theorem backs_notin {room page : Nat} {s : PS} (hk : s.ok room page) {f : Nat} (h : s.tk f = true) : f ∉ s.bk := fun hf => by
  have := (hk.back f hf).2
  rw [h] at this
  cases this
theorem nodup_bound {l : List Nat} {n : Nat} (hl : l.Nodup) (hb : ∀ x, x ∈ l → x < n) : l.length ≤ n := by
  induction n generalizing l with
  | zero =>
    cases l with
    | nil => exact Nat.le_refl _
    | cons a t => have := hb a (by simp); omega
  | succ n ih =>
    have h1 : (l.erase n).length ≤ n := ih (hl.erase n) fun x hx => by
      have hne : x ≠ n := fun e => by
        subst e
        exact (List.Nodup.mem_erase_iff hl).1 hx |>.1 rfl
      have := hb x (List.mem_of_mem_erase hx)
      omega
    have h2 := List.length_erase (a := n) (l := l)
    split at h2 <;> omega
theorem give_ok {room page : Nat} {s : PS} (hk : s.ok room page) (f : Int) (h : has s f = true) : (giveT s f.toNat).ok room page ∧ 1 ≤ s.used := by
  obtain ⟨⟨h1, h2⟩, h3⟩ := (has_iff _ _).1 h
  have hnot := backs_notin hk h3
  have hu := hk.used
  have hnd : (s.bk ++ [f.toNat]).Nodup := by
    rw [List.nodup_append]
    refine ⟨hk.once, by simp, fun a ha c hc e => ?_⟩
    simp at hc
    subst hc
    subst e
    exact hnot ha
  have hlen := nodup_bound (n := s.n) hnd (fun x hx => by
    simp at hx
    rcases hx with hx | hx
    · exact (hk.back x hx).1
    · omega)
  simp at hlen
  refine ⟨⟨hk.room1, hk.page1, hk.few, ?_, ?_, hk.high, fun x hx => ?_, hnd, hk.small⟩, by omega⟩
  · show (s.bk ++ [f.toNat]).length ≤ s.n
    simpa using hlen
  · show s.used - 1 + (s.bk ++ [f.toNat]).length = s.n
    simp
    omega
  · show x < s.n ∧ (if x = f.toNat then false else s.tk x) = false
    have hx' : x ∈ s.bk ++ [f.toNat] := hx
    simp at hx'
    rcases hx' with hx' | hx'
    · obtain ⟨a, c⟩ := hk.back x hx'
      exact ⟨a, by split <;> simp_all⟩
    · exact ⟨by omega, by rw [if_pos hx']⟩
theorem FMem.setTaken {b room page : Nat} {s : PS} {aw ab : Option Addr} {cw ct cb g : Nat} {w : World} (h : FMem b room page s aw cw (some ⟨g, 0, none⟩) ct ab cb w) (f : Nat) (v : Bool) :
    FMem b room page { s with tk := fun i => if i = f then v else s.tk i } aw cw (some ⟨g, 0, none⟩) ct ab cb (w.setCell ⟨g, f, none⟩ (.bool v)) := by
  obtain ⟨n1, n2, n3⟩ := h.ne
  have hb : b ≠ g := by have := n2 _ rfl; simp at this; omega
  refine ⟨?_, ?_, ?_, ?_⟩
  · rw [far hb]; exact h.head
  · exact h.words.from fun k hk => far (h.words.unlike h.taken word_bool hk rfl)
  · refine (h.taken.set f (.bool v)).congr fun j hj => ?_
    unfold takenV
    by_cases e : j = f
    · simp [e]
    · simp [e]
  · exact h.back.from fun k hk => far (h.back.unlike h.taken bool_int.symm hk rfl)
theorem pushed_back (s : PS) (f : Nat) : ftab s.bk.length (backV s) ++ [Value.int .i64 f] = ftab (giveT s f).bk.length (backV (giveT s f)) := by
  apply List.ext_getElem?
  intro i
  have hl : (giveT s f).bk.length = s.bk.length + 1 := by simp [giveT]
  rw [List.getElem?_append, ftab_length, ftab_get, ftab_get, hl]
  have hb : ∀ i, backV (giveT s f) i = .int .i64 ((s.bk ++ [f]).getD i 0 : Nat) := fun _ => rfl
  by_cases h : i < s.bk.length
  · rw [if_pos h, if_pos h, if_pos (by omega), hb]
    unfold backV
    rw [List.getD_eq_getElem?_getD, List.getD_eq_getElem?_getD, List.getElem?_append_left h]
  · rw [if_neg h]
    by_cases h2 : i = s.bk.length
    · subst h2
      rw [if_pos (by omega), hb]
      simp
    · rw [if_neg (by omega), List.getElem?_eq_none (by simp; omega)]
theorem give_end {S : Nat → Prop} {b room page : Nat} {s : PS} {aw ab : Option Addr} {cw ct cb g f g2 cap2 : Nat} {w w1 w2 : World}
    (hM : FMem b room page { s with tk := fun i => if i = f then false else s.tk i } aw cw (some ⟨g, 0, none⟩) ct ab cb w1)
    (hd : w2.heap[b]? = some (.cells #[.slice aw (s.n * page) cw, .slice (some ⟨g, 0, none⟩) s.n ct, .slice ab s.bk.length cb, .int .i64 room, .int .i64 page, .int .i64 s.used, .int .i64 s.high, .int .i64 s.times] 206 (0, 0)))
    (hown : w2.ownsRow (b + 1) 3 1 (.slice (some ⟨g2, 0, none⟩) (s.bk.length + 1) cap2) (s.bk.length + 1) (ftab s.bk.length (backV s) ++ [.int .i64 f]))
    (hgrow : (w1.alloc (.cells #[.int .i64 f] 3)).grownBy w2 (Value.slice ab s.bk.length cb).ownBlock) (hat : (Value.slice ab s.bk.length cb).ownBlock = some g2 ∨ g2 = w1.heap.size + 1) (hlt : g2 < w2.heap.size)
    (hS : S b ∧ (∀ a, aw = some a → S a.block) ∧ (∀ a, some (⟨g, 0, none⟩ : Addr) = some a → S a.block) ∧ ∀ a, ab = some a → S a.block) (hI : In S w) (hw1 : w.setCell ⟨g, f, none⟩ (.bool false) = w1) (hu : 1 ≤ s.used) :
    PDid S b room page (giveT s f) w ((w2.setCell ⟨b, 2, none⟩ (.slice (some ⟨g2, 0, none⟩) (s.bk.length + 1) cap2)).setCell ⟨b, 5, none⟩ (.int .i64 ((s.used : Int) - 1))) := by
  obtain ⟨s1, s2, s3, s4⟩ := hS
  have hsz1 : w1.heap.size = w.heap.size := by rw [← hw1]; simp [World.setCell]
  have hsz2 : w1.heap.size + 1 ≤ w2.heap.size := by have := hgrow.size; simpa using this
  have hfin : ((w2.setCell ⟨b, 2, none⟩ (.slice (some ⟨g2, 0, none⟩) (s.bk.length + 1) cap2)).setCell ⟨b, 5, none⟩ (.int .i64 ((s.used : Int) - 1))).heap.size = w2.heap.size := by simp [World.setCell]
  have old : ∀ k, k < w1.heap.size → some k ≠ (Value.slice ab s.bk.length cb).ownBlock → w2.heap[k]? = w1.heap[k]? := fun k hk hn => (hgrow.block k (by simp; omega) hn).trans (Below.heap_alloc w1 _ k hk)
  have hback : OwnF (b + 1) 3 (.slice (some ⟨g2, 0, none⟩) (giveT s f).bk.length cap2) (giveT s f).bk.length (backV (giveT s f)) w2 := by
    unfold OwnF
    rw [← pushed_back]
    have : (giveT s f).bk.length = s.bk.length + 1 := by simp [giveT]
    rw [this]
    exact hown
  have c1 : Chg S w w1 := by rw [← hw1]; exact (Chg.refl S w).set (p := ⟨g, f, none⟩) (.inl (s3 ⟨g, 0, none⟩ rfl)) _
  have c2 : Chg S w w2 := (c1.alloc (.cells #[.int .i64 f] 3)).trans (T := fun k => S k ∨ w.heap.size ≤ k) ⟨hgrow.os, hgrow.tape, hgrow.output, hgrow.size, fun k hk hn => hgrow.block k hk (fun e => by
    obtain ⟨ad, e1, e2⟩ := own_of_some e.symm
    exact hn (.inl (by rw [← e2]; exact s4 ad e1)))⟩ (fun q hq h => h.resolve_right (by omega))
  refine ⟨fun k => S k ∨ k = g2, ⟨aw, cw, some ⟨g, 0, none⟩, ct, some ⟨g2, 0, none⟩, cap2, ⟨?_, ?_, ?_, ?_⟩, ⟨.inl s1, fun a h => .inl (s2 a h), fun a h => .inl (s3 a h), fun a h => .inr (by simp at h; rw [← h])⟩, ?_⟩, ?_, ?_⟩
  · rw [heap_setCell_same _ b 5 _ _ _ (heap_setCell_same _ b 2 _ _ _ hd)]
    have hl : (giveT s f).bk.length = s.bk.length + 1 := by simp [giveT]
    rw [hl, show ((s.used : Int) - 1) = ((s.used - 1 : Nat) : Int) by omega]
    rfl
  · exact (((hM.words.from (w' := w2) fun k hk => old k (hM.words.lt k hk).2 (fun e => hM.words.unlike hM.back word_int hk e.symm rfl)).headSet 2 _).headSet 5 _)
  · exact (((hM.taken.from (w' := w2) fun k hk => old k (hM.taken.lt k hk).2 (fun e => hM.taken.unlike hM.back bool_int hk e.symm rfl)).headSet 2 _).headSet 5 _)
  · exact ((hback.headSet 2 _).headSet 5 _)
  · intro k hk
    rw [hfin]
    rcases hk with h | h
    · have := hI k h; omega
    · omega
  · exact (c2.set (p := ⟨b, 2, none⟩) (.inl s1) _).set (p := ⟨b, 5, none⟩) (.inl s1) _
  · intro k hk
    rcases hk with h | h
    · exact .inl h
    · subst h
      rcases hat with h2 | h2
      · obtain ⟨ad, e1, e2⟩ := own_of_some h2
        exact .inl (by rw [← e2]; exact s4 ad e1)
      · exact .inr (by omega)
set_option maxRecDepth 100000 in
set_option maxHeartbeats 2000000 in
theorem give_pl (S : Nat → Prop) (b room page : Nat) (s : PS) (w : World) (hP : Pl S b room page s w) (hk : s.ok room page) (f : Int) :
    Calls Try.prog 108 #[.pointer (some ⟨b, 0, none⟩), .int .i64 f] w fun e w' => e = .returned (.int .i64 (giveE s f)) ∧ PDid S b room page (giveS s f) w w' := by
  have HP := Lib.hid hP
  obtain ⟨aw, cw, at_, ct, ab, cb, hF, ⟨s1, s2, s3, s4⟩, hI⟩ := hP
  have Hc := check_any hF hk f
  unfold giveE giveS
  by_cases h : has s f = true
  · rw [if_pos h, if_pos h]
    rw [if_pos h] at Hc
    obtain ⟨hok, hu1⟩ := give_ok hk f h
    obtain ⟨⟨h1, h2⟩, h3⟩ := (has_iff _ _).1 h
    obtain ⟨f, rfl⟩ : ∃ q : Nat, f = q := ⟨f.toNat, by omega⟩
    rw [Int.toNat_natCast] at h3 hok ⊢
    obtain ⟨-, -, -, hform, -⟩ := hF.taken.form
    obtain ⟨g, rfl, hg1, hg2⟩ := hform (by omega)
    have cf := hF.taken.cell (show f < s.n by omega)
    have ff := hF.taken.free f
    have hm1 := hF.setTaken f false
    generalize hw1 : w.setCell ⟨g, f, none⟩ (.bool false) = w1 at *
    have c1 := at_cell hF.head 1 _ rfl
    have d2 := at_cell hm1.head 2 _ rfl
    have lb := block_lt hm1.head
    obtain ⟨i0, hi, hz0, hz1, hz2⟩ := info_parts int_info
    have hbl := hk.less
    have hnr := hk.few
    have hr := hk.room1
    have huse := hk.used
    have HM1 := Lib.hid hm1
    have HB := Lib.hid (show w1.ownsRow (b + 1) 3 1 (.slice ab s.bk.length cb) s.bk.length (ftab s.bk.length (backV s)) from hm1.back)
    have HF := Lib.hid hF
    have Hok := Lib.hid hok
    have Hh := Lib.hid h
    replace Hc := Lib.hid Hc
    have Hw1 := Lib.hid hw1
    have HS := Lib.hid (show (S b ∧ (∀ a, aw = some a → S a.block) ∧ (∀ a, some (⟨g, 0, none⟩ : Addr) = some a → S a.block) ∧ ∀ a, ab = some a → S a.block) ∧ In S w from ⟨⟨s1, s2, s3, s4⟩, hI⟩)
    clear hm1 hF hok h s1 s2 s3 s4 hI hform hk
    go_enter Try.func108, Try.ntmps108
    go_wp2_with (first
      | (go_at_call 150; refine Hc.out.mono ?_; rintro e w2 ⟨rfl, rfl⟩)
      | (at_builtin; refine wpList_append_lies _ rfl (.tmp 22) (.tmp 24) 71 rfl (b + 1) 3 i0 (.int .i64 0) 1 8 Try.underlying71 hi hz0 hz1 hz2 rfl (by decide) _ _ _ rfl (HB.out.alloc _) ⟨w1.heap.size, 0, none⟩ 1 1 [.int .i64 f] rfl rfl ?c1 ?c2 ?c3 ?c4 ?c5 ?c6 (w1.heap.size + 1) ?c7 ?_))
    case c1 => exact World.news_of_block (heap_alloc_new w1 (.cells #[.int .i64 f] 3))
    case c2 => intro u hu; simp at hu; subst hu; rfl
    case c3 => omega
    case c4 => unfold maxLen; omega
    case c5 => omega
    case c6 => simp; omega
    case c7 => simp
    intro g2 cap2 w2 hown hgrow hat hlt
    have hne : some b ≠ (Value.slice ab s.bk.length cb).ownBlock := fun e => by
      have := (HB.out.lt b e.symm).1
      omega
    have hd : w2.heap[b]? = _ := (hgrow.block b (by simp; omega) hne).trans (blockB (below_new w1 _) (Nat.le_refl _) HM1.out.head)
    have e2 := at_cell hd 2 _ rfl
    have e5 := at_cell hd 5 _ rfl
    have g2f := at_free hd 2
    have g5f := at_free hd 5
    have Hd := Lib.hid hd
    have Hown := Lib.hid hown
    have Hgrow := Lib.hid hgrow
    have Hat := Lib.hid hat
    have hu2 : (0 : Int) ≤ (s.used : Int) - 1 := by omega
    clear hd hown hgrow hat c1 d2 hw1 cf ff
    go_wp2
    go_ret
    exact ⟨rfl, give_end HM1.out Hd.out Hown.out Hgrow.out Hat.out hlt HS.out.1 HS.out.2 Hw1.out hu1⟩
  · rw [if_neg h, if_neg h]
    rw [if_neg h] at Hc
    replace Hc := Lib.hid Hc
    clear hF hk h s1 s2 s3 s4 hI
    go_enter Try.func108, Try.ntmps108
    go_wp2_with (go_at_call 150; refine Hc.out.mono ?_; rintro e w1 ⟨rfl, rfl⟩)
    go_ret
    exact ⟨rfl, PDid.of HP.out (Below.refl _ _)⟩
end Go.Proofs.Ytkcijlndblbidaa.Fr

/- The walks of fresh. -/
namespace Go.Proofs.Ytkcijlndblbidaa.Fr
open Go.ChangeShapes Go.WideShapes Go.ChangeAt Go.RowKit
set_option linter.unusedVariables false

def dropBack (s : PS) (l : List Nat) : PS := { s with bk := l }
set_option maxRecDepth 100000 in
set_option maxHeartbeats 1000000 in
theorem fresh_back (S : Nat → Prop) (b room page : Nat) (s : PS) (w : World) (hP : Pl S b room page s w) (hk : s.ok room page) (l : List Nat) (f : Nat) (hl : s.bk = l ++ [f]) :
    Calls Try.prog 147 #[.pointer (some ⟨b, 0, none⟩)] w fun e w' => e = .returned (.int .i64 f) ∧ PDid S b room page (dropBack s l) w w' := by
  obtain ⟨aw, cw, at_, ct, ab, cb, hF, ⟨s1, s2, s3, s4⟩, hI⟩ := hP
  have hlen : s.bk.length = l.length + 1 := by rw [hl]; simp
  obtain ⟨-, hcb, hcm, hform, -⟩ := hF.back.form
  obtain ⟨g, rfl, hg1, hg2⟩ := hform (by omega)
  have c2 := at_cell hF.head 2 _ rfl
  have f2 := at_free hF.head 2
  have cf := hF.back.cell (show l.length < s.bk.length by omega)
  have hv : backV s l.length = .int .i64 f := by unfold backV; rw [hl]; simp
  rw [hv] at cf
  have hmax : l.length ≤ 4096 := by
    have := hk.less
    have := hk.few
    have := hk.room1
    omega
  rw [hlen] at hcb
  have Hres := Lib.hid (show PDid S b room page (dropBack s l) w (w.setCell ⟨b, 2, none⟩ (.slice (some ⟨g, 0, none⟩) l.length cb)) from
    ⟨S, ⟨_, _, _, _, _, _, ⟨(heap_setCell_same _ b 2 _ _ _ hF.head).trans rfl, hF.words.headSet 2 _, hF.taken.headSet 2 _, (((hF.back.shrink (show l.length ≤ s.bk.length by omega)).congr fun i hi => by
      unfold backV
      show Value.int .i64 ((s.bk.getD i 0 : Nat) : Int) = .int .i64 ((l.getD i 0 : Nat) : Int)
      rw [hl, List.getD_eq_getElem?_getD, List.getD_eq_getElem?_getD, List.getElem?_append_left hi]).headSet 2 _)⟩, ⟨s1, s2, s3, s4⟩, hI.mono (by simp [World.setCell])⟩, (Chg.refl S w).set (p := ⟨b, 2, none⟩) (.inl s1) _, Grew.refl _ _⟩)
  have c2' : w.cell? ⟨b, 2, none⟩ = some (.slice (some ⟨g, 0, none⟩) (l.length + 1) cb) := by rw [c2, ← hlen]; rfl
  have hcap0 : ¬ cb = 0 := by omega
  have hcap1 : (l.length : Int) ≤ cb := by omega
  clear hF hk hl hv hlen c2 hform s1 s2 s3 s4 hI
  go_enter Try.func147, Try.ntmps147
  go_wp2
  go_ret
  exact ⟨rfl, Hres.out⟩
def moreS (s : PS) : PS := { s with n := s.n + 1, tk := fun i => if i = s.n then false else s.tk i, wd := fun f i => if f = s.n then 0 else s.wd f i }
theorem pushed_taken (s : PS) : ftab s.n (takenV s) ++ [Value.bool false] = ftab (s.n + 1) (takenV (moreS s)) := by
  apply List.ext_getElem?
  intro i
  have hb : takenV (moreS s) i = .bool (if i = s.n then false else s.tk i) := rfl
  rw [List.getElem?_append, ftab_length, ftab_get, ftab_get, hb]
  by_cases h : i < s.n
  · rw [if_pos h, if_pos h, if_pos (by omega), if_neg (by omega)]; rfl
  · rw [if_neg h]
    by_cases h2 : i = s.n
    · subst h2
      rw [if_pos (by omega), if_pos rfl]
      simp
    · rw [if_neg (by omega), List.getElem?_eq_none (by simp; omega)]
theorem more_words (page : Nat) (s : PS) (hp : 1 ≤ page) : ∀ i, i < s.n * page + page → (if i < s.n * page then wordV page s i else Value.int .u64 0) = wordV page (moreS s) i := by
  intro i hi
  have hb : wordV page (moreS s) i = .int .u64 ((if i / page = s.n then 0 else s.wd (i / page) (i % page) : Nat) : Int) := rfl
  rw [hb]
  by_cases h : i < s.n * page
  · rw [if_pos h, if_neg (by
      have := (Nat.div_lt_iff_lt_mul (show 0 < page by omega)).2 h
      omega)]
    rfl
  · rw [if_neg h, if_pos (by
      have h1 := (Nat.le_div_iff_mul_le (show 0 < page by omega)).2 (Nat.not_lt.1 h)
      have h2 := (Nat.div_lt_iff_lt_mul (show 0 < page by omega)).2 (show i < (s.n + 1) * page by rw [Nat.add_mul]; omega)
      omega)]
    rfl
theorem fresh_end {S : Nat → Prop} {b room page : Nat} {s : PS} {aw at_ ab : Option Addr} {cw ct cb g2 cap2 g3 cap3 : Nat} {w w2 w3 w4 : World}
    (hM : FMem b room page s aw cw at_ ct ab cb w) (old2 : ∀ k, k < w.heap.size → some k ≠ (Value.slice at_ s.n ct).ownBlock → w2.heap[k]? = w.heap[k]?)
    (hown : w2.ownsRow (b + 1) 4 1 (.slice (some ⟨g2, 0, none⟩) (s.n + 1) cap2) (s.n + 1) (ftab s.n (takenV s) ++ [.bool false]))
    (hgrow : (w.alloc (.cells #[.bool false] 4)).grownBy w2 (Value.slice at_ s.n ct).ownBlock) (hat : (Value.slice at_ s.n ct).ownBlock = some g2 ∨ g2 = w.heap.size + 1)
    (hw3 : w2.setCell ⟨b, 1, none⟩ (.slice (some ⟨g2, 0, none⟩) (s.n + 1) cap2) = w3)
    (hown4 : OwnF (b + 1) 23 (.slice (some ⟨g3, 0, none⟩) (s.n * page + page) cap3) (s.n * page + page) (fun i => if i < s.n * page then wordV page s i else .int .u64 0) w4)
    (hgrow4 : w3.drew.grownBy w4 (Value.slice aw (s.n * page) cw).ownBlock) (hat4 : (Value.slice aw (s.n * page) cw).ownBlock = some g3 ∨ g3 = w3.drew.heap.size) (hlt4 : g3 < w4.heap.size)
    (hd4 : w4.heap[b]? = some (.cells (#[.slice aw (s.n * page) cw, .slice at_ s.n ct, .slice ab s.bk.length cb, .int .i64 room, .int .i64 page, .int .i64 s.used, .int .i64 s.high, .int .i64 s.times].setIfInBounds 1 (.slice (some ⟨g2, 0, none⟩) (s.n + 1) cap2)) 206 (0, 0)))
    (hp : 1 ≤ page) (hS : S b ∧ (∀ a, aw = some a → S a.block) ∧ (∀ a, at_ = some a → S a.block) ∧ ∀ a, ab = some a → S a.block) (hI : In S w) :
    PDid S b room page (moreS s) w (w4.setCell ⟨b, 0, none⟩ (.slice (some ⟨g3, 0, none⟩) (s.n * page + page) cap3)) := by
  obtain ⟨s1, s2, s3, s4⟩ := hS
  have hsz2 : w.heap.size + 1 ≤ w2.heap.size := by have := hgrow.size; simpa using this
  have hsz3 : w3.heap.size = w2.heap.size := by rw [← hw3]; simp [World.setCell]
  have hsz4 : w3.heap.size ≤ w4.heap.size := hgrow4.size
  have hfin : (w4.setCell ⟨b, 0, none⟩ (.slice (some ⟨g3, 0, none⟩) (s.n * page + page) cap3)).heap.size = w4.heap.size := by simp [World.setCell]
  have hmul : (moreS s).n * page = s.n * page + page := by show (s.n + 1) * page = _; rw [Nat.add_mul, Nat.one_mul]
  have ht2 : OwnF (b + 1) 4 (.slice (some ⟨g2, 0, none⟩) (s.n + 1) cap2) (s.n + 1) (takenV (moreS s)) w2 := by
    unfold OwnF
    rw [← pushed_taken]
    exact hown
  have hk2 : OwnF (b + 1) 3 (.slice ab s.bk.length cb) s.bk.length (backV s) w2 := hM.back.from fun k hk => old2 k (hM.back.lt k hk).2 (fun e => hM.back.unlike hM.taken bool_int.symm hk e.symm rfl)
  have hw2 : OwnF (b + 1) 23 (.slice aw (s.n * page) cw) (s.n * page) (wordV page s) w2 := hM.words.from fun k hk => old2 k (hM.words.lt k hk).2 (fun e => hM.words.unlike hM.taken word_bool hk e.symm rfl)
  have up3 : ∀ {e n : Nat} {v : Value} {f : Nat → Value}, OwnF (b + 1) e v n f w2 → OwnF (b + 1) e v n f w3 := fun h => by rw [← hw3]; exact h.headSet 1 _
  have hw3w := up3 hw2
  have up4 : ∀ {e n : Nat} {v : Value} {f : Nat → Value}, 23 ≠ e → OwnF (b + 1) e v n f w2 → OwnF (b + 1) e v n f w4 := fun he h => by
    have h3 := up3 h
    exact h3.from fun k hk => hgrow4.block k (h3.lt k hk).2 (fun e => hw3w.unlike h3 he e.symm hk rfl)
  have c2 : Chg S w w2 := ((Chg.refl S w).alloc (.cells #[.bool false] 4)).trans (T := fun k => S k ∨ w.heap.size ≤ k) ⟨hgrow.os, hgrow.tape, hgrow.output, hgrow.size, fun k hk hn => hgrow.block k hk (fun e => by
    obtain ⟨ad, e1, e2⟩ := own_of_some e.symm
    exact hn (.inl (by rw [← e2]; exact s3 ad e1)))⟩ (fun q hq h => h.resolve_right (by omega))
  have c3 : Chg S w w3 := by rw [← hw3]; exact c2.set (p := ⟨b, 1, none⟩) (.inl s1) _
  have c4 : Chg S w w4 := c3.drew.trans (T := S) ⟨hgrow4.os, hgrow4.tape, hgrow4.output, hgrow4.size, fun k hk hn => hgrow4.block k hk (fun e => by
    obtain ⟨ad, e1, e2⟩ := own_of_some e.symm
    exact hn (by rw [← e2]; exact s2 ad e1))⟩ (fun q hq h => h)
  refine ⟨fun k => S k ∨ k = g2 ∨ k = g3, ⟨some ⟨g3, 0, none⟩, cap3, some ⟨g2, 0, none⟩, cap2, ab, cb, ⟨?_, ?_, ?_, ?_⟩, ⟨.inl s1, fun a h => .inr (.inr (by simp at h; rw [← h])), fun a h => .inr (.inl (by simp at h; rw [← h])), fun a h => .inl (s4 a h)⟩, ?_⟩, ?_, ?_⟩
  · rw [heap_setCell_same _ b 0 _ _ _ hd4, hmul]
    rfl
  · rw [hmul]
    exact (hown4.congr (more_words page s hp)).headSet 0 _
  · exact (up4 word_bool ht2).headSet 0 _
  · exact (up4 word_int hk2).headSet 0 _
  · intro k hk
    rw [hfin]
    rcases hk with h | h | h
    · have := hI k h; omega
    · have := (ht2.lt g2 rfl).2; omega
    · omega
  · exact c4.set (p := ⟨b, 0, none⟩) (.inl s1) _
  · intro k hk
    rcases hk with h | h | h
    · exact .inl h
    · subst h
      rcases hat with h2 | h2
      · obtain ⟨ad, e1, e2⟩ := own_of_some h2
        exact .inl (by rw [← e2]; exact s3 ad e1)
      · exact .inr (by omega)
    · subst h
      rcases hat4 with h2 | h2
      · obtain ⟨ad, e1, e2⟩ := own_of_some h2
        exact .inl (by rw [← e2]; exact s2 ad e1)
      · have : w3.drew.heap.size = w3.heap.size := rfl
        exact .inr (by omega)
set_option maxRecDepth 100000 in
set_option maxHeartbeats 2000000 in
theorem fresh_new (S : Nat → Prop) (b room page : Nat) (s : PS) (w : World) (hP : Pl S b room page s w) (hk : s.ok room page) (hl : s.bk = []) (hn : s.n < room) :
    Calls Try.prog 147 #[.pointer (some ⟨b, 0, none⟩)] w fun e w' => e = .returned (.int .i64 s.n) ∧ PDid S b room page (moreS s) w w' := by
  obtain ⟨aw, cw, at_, ct, ab, cb, hF, ⟨s1, s2, s3, s4⟩, hI⟩ := hP
  have hlen : s.bk.length = 0 := by rw [hl]; rfl
  have c1 := at_cell hF.head 1 _ rfl
  have c2 := at_cell hF.head 2 _ rfl
  have lb := block_lt hF.head
  have hr := hk.room1
  obtain ⟨hp1, hp2⟩ := hk.page1
  obtain ⟨i0, hi, hz0, hz1, hz2⟩ := info_parts bool_info
  have HF := Lib.hid hF
  have HS := Lib.hid (show (S b ∧ (∀ a, aw = some a → S a.block) ∧ (∀ a, at_ = some a → S a.block) ∧ ∀ a, ab = some a → S a.block) ∧ In S w from ⟨⟨s1, s2, s3, s4⟩, hI⟩)
  have HB := Lib.hid (show w.ownsRow (b + 1) 4 1 (.slice at_ s.n ct) s.n (ftab s.n (takenV s)) from hF.taken)
  rw [hlen] at c2
  clear hF hk hl s1 s2 s3 s4 hI
  go_enter Try.func147, Try.ntmps147
  go_wp2_with (at_builtin; refine wpList_append_lies _ rfl (.tmp 41) (.tmp 42) 72 rfl (b + 1) 4 i0 (.bool false) 1 1 Try.underlying72 hi hz0 hz1 hz2 rfl (by decide) _ _ _ rfl (HB.out.alloc _) ⟨w.heap.size, 0, none⟩ 1 1 [.bool false] rfl rfl ?c1 ?c2 ?c3 ?c4 ?c5 ?c6 (w.heap.size + 1) ?c7 ?_)
  case c1 => exact World.news_of_block (heap_alloc_new w (.cells #[.bool false] 4))
  case c2 => intro u hu; simp at hu; subst hu; rfl
  case c3 => omega
  case c4 => unfold maxLen; omega
  case c5 => omega
  case c6 => simp; omega
  case c7 => simp
  intro g2 cap2 w2 hown hgrow hat hlt
  have hne1 : some b ≠ (Value.slice at_ s.n ct).ownBlock := fun e => by
    have := (HB.out.lt b e.symm).1
    omega
  have hd : w2.heap[b]? = _ := (hgrow.block b (by simp; omega) hne1).trans (blockB (below_new w _) (Nat.le_refl _) HF.out.head)
  have old2 : ∀ k, k < w.heap.size → some k ≠ (Value.slice at_ s.n ct).ownBlock → w2.heap[k]? = w.heap[k]? := fun k hk hn => (hgrow.block k (by simp; omega) hn).trans (Below.heap_alloc w _ k hk)
  have hw2 : OwnF (b + 1) 23 (.slice aw (s.n * page) cw) (s.n * page) (wordV page s) w2 := HF.out.words.from fun k hk => old2 k (HF.out.words.lt k hk).2 (fun e => HF.out.words.unlike HF.out.taken word_bool hk e.symm rfl)
  have d1 := at_cell hd 1 _ rfl
  have f1 := at_free hd 1
  have hsz2 : w.heap.size + 1 ≤ w2.heap.size := by have := hgrow.size; simpa using this
  obtain ⟨w3, hw3⟩ : ∃ w3, w2.setCell ⟨b, 1, none⟩ (.slice (some ⟨g2, 0, none⟩) (s.n + 1) cap2) = w3 := ⟨_, rfl⟩
  have hd3 := heap_setCell_same w2 b 1 _ _ (.slice (some ⟨g2, 0, none⟩) (s.n + 1) cap2) hd
  rw [hw3] at hd3
  have hsz3 : w3.heap.size = w2.heap.size := by rw [← hw3]; simp [World.setCell]
  have hw3w : OwnF (b + 1) 23 (.slice aw (s.n * page) cw) (s.n * page) (wordV page s) w3.drew := by
    rw [← hw3]
    exact (hw2.headSet 1 _).from fun _ _ => rfl
  obtain ⟨i1, hj, hy0, hy1, hy2⟩ := info_parts word_info
  have hmx : s.n * page ≤ 4096 * 256 := Nat.mul_le_mul (by omega) hp2
  obtain ⟨g3, cap3, w4, hrun, hown4, hgrow4, hat4, hlt4⟩ := run_append_made (P := Try.prog) w3.drew (b + 1) 69 3 69 23 .i64 i1 (.int .u64 0) 8 Try.underlying69 Try.underlying3 hj hy0 hy1 hy2 rfl rfl _ _ _ hw3w page (by omega) (by unfold maxLen; omega) (by omega) (by show b + 1 ≤ w3.heap.size; omega)
  have a0 := at_cell hd3 0 _ rfl
  have a4 := at_cell hd3 4 _ rfl
  have hne3 : some b ≠ (Value.slice aw (s.n * page) cw).ownBlock := fun e => by
    have := (hw2.lt b e.symm).1
    omega
  have hd4 : w4.heap[b]? = _ := (hgrow4.block b (by show b < w3.heap.size; omega) hne3).trans hd3
  have e0 := at_cell hd4 0 _ rfl
  have g0f := at_free hd4 0
  have Hown := Lib.hid hown
  have Hgrow := Lib.hid hgrow
  have Hat := Lib.hid hat
  have Hown4 := Lib.hid hown4
  have Hgrow4 := Lib.hid hgrow4
  have Hat4 := Lib.hid hat4
  have Hd4 := Lib.hid hd4
  have Hw3 := Lib.hid hw3
  have Hold2 := Lib.hid old2
  clear hown hgrow hat hown4 hgrow4 hat4 hd hd3 hd4 hw2 hw3w old2 c1 c2
  go_wp2
  go_region_law ((refine step_append_run _ (by rfl) (.tmp 50) (.tmp 54) 69 3 _ (by rfl) (by rfl) _ _ (by rfl) (by rfl) _ w4 hrun ?_))
  all_goals
    go_wp2
    go_ret
    exact ⟨rfl, fresh_end HF.out Hold2.out Hown.out Hgrow.out Hat.out Hw3.out Hown4.out Hgrow4.out Hat4.out hlt4 Hd4.out hp1 HS.out.1 HS.out.2⟩
end Go.Proofs.Ytkcijlndblbidaa.Fr

/- The walk of Take. -/
namespace Go.Proofs.Ytkcijlndblbidaa.Fr
open Go.ChangeShapes Go.WideShapes Go.ChangeAt Go.RowKit
set_option linter.unusedVariables false

/-- the frame that is taken next, and what is left -/
def nextF (s : PS) : Nat := s.bk.getLast?.getD s.n
def freshS (s : PS) : PS := if s.bk = [] then moreS s else dropBack s s.bk.dropLast
def takeS (s : PS) : PS := { freshS s with used := s.used + 1, high := max s.high (s.used + 1), times := s.times + 1, tk := fun i => if i = nextF s then true else (freshS s).tk i, wd := fun g i => if g = nextF s then 0 else (freshS s).wd g i }
theorem fresh_pl (S : Nat → Prop) (b room page : Nat) (s : PS) (w : World) (hP : Pl S b room page s w) (hk : s.ok room page) (hu : s.used < room) :
    Calls Try.prog 147 #[.pointer (some ⟨b, 0, none⟩)] w fun e w' => e = .returned (.int .i64 (nextF s)) ∧ PDid S b room page (freshS s) w w' := by
  unfold nextF freshS
  rcases List.eq_nil_or_concat s.bk with h | ⟨l, f, h⟩
  · rw [if_pos h]
    have hn : s.n < room := by have := hk.used; rw [h] at this; simp at this; omega
    have := fresh_new S b room page s w hP hk h hn
    rw [h]
    exact this
  · rw [List.concat_eq_append] at h
    rw [if_neg (by rw [h]; simp)]
    have := fresh_back S b room page s w hP hk l f h
    rw [h]
    simpa using this
theorem nextF_lt {room page : Nat} {s : PS} (hk : s.ok room page) (hu : s.used < room) : nextF s < (freshS s).n ∧ (freshS s).n ≤ room := by
  unfold nextF freshS
  have hfew := hk.few
  rcases List.eq_nil_or_concat s.bk with h | ⟨l, f, h⟩
  · have hn : s.n < room := by have := hk.used; rw [h] at this; simp at this; omega
    rw [if_pos h, h]
    exact ⟨by show s.n < s.n + 1; omega, by show s.n + 1 ≤ room; omega⟩
  · rw [List.concat_eq_append] at h
    rw [if_neg (by rw [h]; simp), h]
    have := (hk.back f (by rw [h]; simp)).1
    exact ⟨by show _ < s.n; simpa using this, hfew⟩
theorem take_ok {room page : Nat} {s : PS} (hk : s.ok room page) (hu : s.used < room) : (takeS s).ok room page := by
  have hr := hk.room1
  have hfew := hk.few
  have huse := hk.used
  have hh := hk.high
  rcases List.eq_nil_or_concat s.bk with h | ⟨l, f, h⟩
  · have hn : s.n < room := by have := hk.used; rw [h] at this; simp at this; omega
    have hfs : freshS s = moreS s := by unfold freshS; rw [if_pos h]
    have hbk : (takeS s).bk = [] := by show (freshS s).bk = []; rw [hfs]; exact h
    have hnn : (takeS s).n = s.n + 1 := by show (freshS s).n = _; rw [hfs]; rfl
    rw [h] at huse
    simp at huse
    refine ⟨hr, hk.page1, by rw [hnn]; omega, by rw [hbk]; simp, by rw [hbk, hnn]; show s.used + 1 + 0 = _; omega, ?_, by rw [hbk]; simp, by rw [hbk]; simp, ?_⟩
    · show max s.high (s.used + 1) ≤ 4096
      omega
    · intro g i
      show (if g = nextF s then 0 else (freshS s).wd g i) < _
      rw [hfs]
      show (if g = nextF s then 0 else if g = s.n then 0 else s.wd g i) < _
      have := hk.small g i
      split
      · omega
      · split <;> omega
  · rw [List.concat_eq_append] at h
    have hfs : freshS s = dropBack s l := by unfold freshS; rw [if_neg (by rw [h]; simp), h]; simp
    have hbk : (takeS s).bk = l := by show (freshS s).bk = l; rw [hfs]; rfl
    have hnn : (takeS s).n = s.n := by show (freshS s).n = _; rw [hfs]; rfl
    have hnx : nextF s = f := by unfold nextF; rw [h]; simp
    have hlen : s.bk.length = l.length + 1 := by rw [h]; simp
    have hnd := hk.once
    rw [h, List.nodup_append] at hnd
    have hless := hk.less
    refine ⟨hr, hk.page1, by rw [hnn]; exact hfew, by rw [hbk, hnn]; omega, by rw [hbk, hnn]; show s.used + 1 + l.length = _; omega, ?_, ?_, by rw [hbk]; exact hnd.1, ?_⟩
    · show max s.high (s.used + 1) ≤ 4096
      omega
    · intro x hx
      rw [hbk] at hx
      rw [hnn]
      obtain ⟨a, c⟩ := hk.back x (by rw [h]; simp [hx])
      refine ⟨a, ?_⟩
      show (if x = nextF s then true else (freshS s).tk x) = false
      rw [hnx, hfs, if_neg (hnd.2.2 x hx f (by simp))]
      exact c
    · intro g i
      show (if g = nextF s then 0 else (freshS s).wd g i) < _
      rw [hfs]
      have := hk.small g i
      split
      · omega
      · exact this
theorem zero_word (w : World) : (zeroValue 23).run Try.prog w = .ok (.int .u64 0) w := by kernel_rfl
theorem FMem.clear {b room page : Nat} {s : PS} {at_ ab : Option Addr} {cw ct cb g : Nat} {w : World} (h : FMem b room page s (some ⟨g, 0, none⟩) cw at_ ct ab cb w) (f : Nat) (hp : 1 ≤ page) :
    FMem b room page { s with wd := fun g i => if g = f then 0 else s.wd g i } (some ⟨g, 0, none⟩) cw at_ ct ab cb (w.setCells g (f * page) (List.replicate page (.int .u64 0))) := by
  obtain ⟨n1, n2, n3⟩ := h.ne
  have hb : b ≠ g := by have := n1 _ rfl; simp at this; omega
  refine ⟨?_, ?_, ?_, ?_⟩
  · rw [setCells_far hb]; exact h.head
  · refine (h.words.setCells (.int .u64 0) page (f * page)).congr fun j hj => ?_
    show (if f * page ≤ j ∧ j < f * page + page then Value.int .u64 0 else wordV page s j) = .int .u64 ((if j / page = f then 0 else s.wd (j / page) (j % page) : Nat) : Int)
    have key : (f * page ≤ j ∧ j < f * page + page) ↔ j / page = f := by
      constructor
      · rintro ⟨h1, h2⟩
        have a := (Nat.le_div_iff_mul_le (show 0 < page by omega)).2 h1
        have c := (Nat.div_lt_iff_lt_mul (show 0 < page by omega)).2 (show j < (f + 1) * page by rw [Nat.add_mul]; omega)
        omega
      · rintro rfl
        have a := Nat.div_add_mod' j page
        have c := Nat.mod_lt j (show 0 < page by omega)
        omega
    by_cases e : j / page = f
    · rw [if_pos (key.2 e), if_pos e]; rfl
    · rw [if_neg (fun k => e (key.1 k)), if_neg e]; rfl
  · exact h.taken.from fun k hk => setCells_far (h.taken.unlike h.words word_bool.symm hk rfl) _ _ _
  · exact h.back.from fun k hk => setCells_far (h.back.unlike h.words word_int.symm hk rfl) _ _ _
/-- the run of clear at a frame -/
theorem clear_run {b room page : Nat} {s : PS} {at_ ab : Option Addr} {cw ct cb g : Nat} {w : World} (h : FMem b room page s (some ⟨g, 0, none⟩) cw at_ ct ab cb w) (f : Nat) (hf : f < s.n) (hp : 1 ≤ page) (ty : TypeId) :
    (Builtin.clear_ #[69] ty #[.slice (some ⟨g, f * page, none⟩) page page]).run Try.prog w = .ok (.tuple #[]) (w.setCells g (f * page) (List.replicate page (.int .u64 0))) :=
  Lib.run_clear_slice w 69 23 ty (.int .u64 0) Try.underlying69 zero_word rfl rfl g (f * page) page page (by omega)
    (fun j hj => by
      have := h.words.cell (word_index hf hj)
      rw [this]; rfl)
    (fun j hj => h.words.free _)
end Go.Proofs.Ytkcijlndblbidaa.Fr

/- The walk of Take: all together. -/
namespace Go.Proofs.Ytkcijlndblbidaa.Fr
open Go.ChangeShapes Go.WideShapes Go.ChangeAt Go.RowKit
set_option linter.unusedVariables false

theorem frame_drew {b room page : Nat} {s : PS} {S : Nat → Prop} {w : World} (h : Pl S b room page s w) (n : Nat) : Pl S b room page s (w.drewN n) := h.grow ⟨rfl, rfl, rfl, Nat.le_refl _, fun _ _ => rfl⟩
theorem below_drewN' (n : Nat) (w : World) : Below w.heap.size w (w.drewN n) := ⟨rfl, rfl, rfl, Nat.le_refl _, fun _ _ => rfl⟩
theorem freshS_used (s : PS) : (freshS s).used = s.used := by unfold freshS; split <;> rfl
theorem freshS_high (s : PS) : (freshS s).high = s.high := by unfold freshS; split <;> rfl
theorem freshS_times (s : PS) : (freshS s).times = s.times := by unfold freshS; split <;> rfl
set_option maxRecDepth 100000 in
set_option maxHeartbeats 1000000 in
theorem take_full (S : Nat → Prop) (b room page : Nat) (s : PS) (w : World) (hP : Pl S b room page s w) (hk : s.ok room page) (hu : s.used = room) :
    Calls Try.prog 105 #[.pointer (some ⟨b, 0, none⟩)] w fun e w' => e = .returned (.tuple #[.int .i64 0, .int .i64 14]) ∧ Below w.heap.size w w' := by
  obtain ⟨aw, cw, at_, ct, ab, cb, hF, -, -⟩ := hP
  have c3 := at_cell hF.head 3 _ rfl
  have c5 := at_cell hF.head 5 _ rfl
  rw [hu] at c5
  have hr : ¬ (room : Int) = 0 := by have := hk.room1; omega
  clear hF hk hu
  go_enter Try.func105, Try.ntmps105
  go_wp2
  go_quiet (fail)
  go_wp2
  go_ret2
  exact ⟨rfl, below_drewN' _ _⟩
theorem take_end {S S2 : Nat → Prop} {b room page : Nat} {s : PS} {ab2 : Option Addr} {cw2 ct2 cb2 g gt f q : Nat} {w w2 w3 w4 w5 w6 : World}
    (hM : FMem b room page { n := (freshS s).n, used := (freshS s).used, high := (freshS s).high, times := (freshS s).times, tk := fun i => if i = f then true else (freshS s).tk i, bk := (freshS s).bk, wd := fun g i => if g = f then 0 else (freshS s).wd g i } (some ⟨g, 0, none⟩) cw2 (some ⟨gt, 0, none⟩) ct2 ab2 cb2 w4)
    (hd6 : w6.heap[b]? = some (.cells ((#[.slice (some ⟨g, 0, none⟩) ((freshS s).n * page) cw2, .slice (some ⟨gt, 0, none⟩) (freshS s).n ct2, .slice ab2 (freshS s).bk.length cb2, .int .i64 room, .int .i64 page, .int .i64 s.used, .int .i64 s.high, .int .i64 s.times].setIfInBounds 5 (.int .i64 ((s.used : Int) + 1))).setIfInBounds 7 (.int .i64 ((s.times : Int) + 1))) 206 (0, 0)))
    (hS : S2 b ∧ (∀ a, some (⟨g, 0, none⟩ : Addr) = some a → S2 a.block) ∧ (∀ a, some (⟨gt, 0, none⟩ : Addr) = some a → S2 a.block) ∧ ∀ a, ab2 = some a → S2 a.block) (hI : In S2 w2)
    (hc : Chg S w w2) (hg : Grew S S2 w)
    (h3 : w2.setCells g q (List.replicate page (.int .u64 0)) = w3) (h4 : w3.setCell ⟨gt, f, none⟩ (.bool true) = w4) (h5 : w4.setCell ⟨b, 5, none⟩ (.int .i64 ((s.used : Int) + 1)) = w5) (h6 : w5.setCell ⟨b, 7, none⟩ (.int .i64 ((s.times : Int) + 1)) = w6)
    (hf : nextF s = f) (X : Int) (hX : X = max (s.high : Int) ((s.used : Int) + 1)) :
    PDid S b room page (takeS s) w (w6.setCell ⟨b, 6, none⟩ (.int .i64 X)).drew := by
  obtain ⟨s1, s2, s3, s4⟩ := hS
  have z3 : w3.heap.size = w2.heap.size := by rw [← h3]; exact setCells_size _ _ _ _
  have z4 : w4.heap.size = w3.heap.size := by rw [← h4]; simp [World.setCell]
  have z5 : w5.heap.size = w4.heap.size := by rw [← h5]; simp [World.setCell]
  have z6 : w6.heap.size = w5.heap.size := by rw [← h6]; simp [World.setCell]
  have z7 : (w6.setCell ⟨b, 6, none⟩ (.int .i64 X)).drew.heap.size = w6.heap.size := by show (w6.setCell ⟨b, 6, none⟩ (.int .i64 X)).heap.size = _; simp [World.setCell]
  have k3 : Chg S2 w2 w3 := by rw [← h3]; exact Chg.setCells (.inl (s2 ⟨g, 0, none⟩ rfl)) _ _ (Chg.refl _ _)
  have k4 : Chg S2 w2 w4 := by rw [← h4]; exact k3.set (p := ⟨gt, f, none⟩) (.inl (s3 ⟨gt, 0, none⟩ rfl)) _
  have k5 : Chg S2 w2 w5 := by rw [← h5]; exact k4.set (p := ⟨b, 5, none⟩) (.inl s1) _
  have k6 : Chg S2 w2 w6 := by rw [← h6]; exact k5.set (p := ⟨b, 7, none⟩) (.inl s1) _
  have up : ∀ {e n : Nat} {v : Value} {f : Nat → Value}, OwnF (b + 1) e v n f w4 → OwnF (b + 1) e v n f (w6.setCell ⟨b, 6, none⟩ (.int .i64 X)).drew := fun h => by
    refine OwnF.from (w := w6.setCell ⟨b, 6, none⟩ (.int .i64 X)) ?_ (fun _ _ => rfl)
    rw [← h6, ← h5]
    exact ((h.headSet 5 _).headSet 7 _).headSet 6 _
  have hXn : X = ((max s.high (s.used + 1) : Nat) : Int) := by omega
  refine ⟨S2, ⟨some ⟨g, 0, none⟩, cw2, some ⟨gt, 0, none⟩, ct2, ab2, cb2, ⟨?_, ?_, ?_, ?_⟩, ⟨s1, s2, s3, s4⟩, fun k hk => by have := hI k hk; omega⟩, hc.then ((k6.set (p := ⟨b, 6, none⟩) (.inl s1) _).drew) hg, hg⟩
  · show (w6.setCell ⟨b, 6, none⟩ (.int .i64 X)).heap[b]? = _
    rw [heap_setCell_same _ b 6 _ _ _ hd6, hXn]
    rfl
  · exact (up hM.words).congr fun i hi => by
      show _ = Value.int .u64 ((if i / page = nextF s then 0 else (freshS s).wd (i / page) (i % page) : Nat) : Int)
      rw [hf]; rfl
  · exact (up hM.taken).congr fun i hi => by
      show _ = Value.bool (if i = nextF s then true else (freshS s).tk i)
      rw [hf]; rfl
  · exact up hM.back
set_option maxRecDepth 100000 in
set_option maxHeartbeats 4000000 in
theorem take_yes (S : Nat → Prop) (b room page : Nat) (s : PS) (w : World) (hP : Pl S b room page s w) (hk : s.ok room page) (hu : s.used < room) (ht : s.times ≤ 1000000000) :
    Calls Try.prog 105 #[.pointer (some ⟨b, 0, none⟩)] w fun e w' => e = .returned (.tuple #[.int .i64 (nextF s), .int .i64 0]) ∧ PDid S b room page (takeS s) w w' := by
  have Hfresh := fun W hW => fresh_pl S b room page s W hW hk hu
  have HP := Lib.hid hP
  obtain ⟨hf, hfn⟩ := nextF_lt hk hu
  obtain ⟨f, hfeq⟩ : ∃ f, nextF s = f := ⟨_, rfl⟩
  simp only [hfeq] at Hfresh hf ⊢
  replace Hfresh := Lib.hid Hfresh
  obtain ⟨aw, cw, at_, ct, ab, cb, hF, -, -⟩ := hP
  have c3 := at_cell hF.head 3 _ rfl
  have c5 := at_cell hF.head 5 _ rfl
  have hr0 := hk.room1
  have hp0 := hk.page1
  have hhigh := hk.high
  have hr : ¬ (room : Int) = 0 := by omega
  have hur : ¬ (s.used : Int) = room := by omega
  have Hfeq := Lib.hid hfeq
  have Hf := Lib.hid (show f < (freshS s).n ∧ (freshS s).n ≤ room from ⟨hf, hfn⟩)
  have hus : s.used ≤ 4096 := by omega
  clear hF hk hfeq hf hfn
  go_enter Try.func105, Try.ntmps105
  go_wp2
  go_quiet (fail)
  clear c3 c5
  have HPn := Lib.hid (frame_drew HP.out nq)
  go_wp2_with (go_at_call 147; refine (Hfresh.out _ HPn.out).mono ?_; rintro e w2 ⟨rfl, hd⟩)
  obtain ⟨S2, ⟨aw2, cw2, at2, ct2, ab2, cb2, hF2, hS2, hI2⟩, hc2, hg2⟩ := hd
  obtain ⟨hfl, hfr⟩ := Hf.out
  have hN : f * page + page ≤ (freshS s).n * page := by
    have := Nat.mul_le_mul_right page (show f + 1 ≤ (freshS s).n by omega)
    rw [Nat.add_mul] at this
    omega
  obtain ⟨-, -, -, hform, -⟩ := hF2.words.form
  obtain ⟨g, rfl, -, -⟩ := hform (by omega)
  obtain ⟨-, -, -, hform2, -⟩ := hF2.taken.form
  obtain ⟨gt, rfl, -, -⟩ := hform2 (by omega)
  have Hframe := Lib.hid (frame_any hF2 hr0 hp0 hfr f g hfl rfl)
  have hclr := clear_run hF2 f hfl hp0.1
  have hF3 := hF2.clear f hp0.1
  obtain ⟨w3, hw3⟩ : ∃ w3, w2.setCells g (f * page) (List.replicate page (.int .u64 0)) = w3 := ⟨_, rfl⟩
  rw [hw3] at hF3
  simp only [hw3] at hclr
  have hF4 := hF3.setTaken f true
  have c1 := at_cell hF3.head 1 _ rfl
  have ctk := hF3.taken.cell (show f < (freshS s).n from hfl)
  have ftk := hF3.taken.free f
  obtain ⟨w4, hw4⟩ : ∃ w4, w3.setCell ⟨gt, f, none⟩ (.bool true) = w4 := ⟨_, rfl⟩
  rw [hw4] at hF4
  have hd4 : w4.heap[b]? = some (.cells #[.slice (some ⟨g, 0, none⟩) ((freshS s).n * page) cw2, .slice (some ⟨gt, 0, none⟩) (freshS s).n ct2, .slice ab2 (freshS s).bk.length cb2, .int .i64 room, .int .i64 page, .int .i64 s.used, .int .i64 s.high, .int .i64 s.times] 206 (0, 0)) := by
    have := hF4.head
    rw [← freshS_used s, ← freshS_high s, ← freshS_times s]
    exact this
  have hd5 := heap_setCell_same w4 b 5 _ _ (.int .i64 ((s.used : Int) + 1)) hd4
  have hd6 := heap_setCell_same (w4.setCell ⟨b, 5, none⟩ (.int .i64 ((s.used : Int) + 1))) b 7 _ _ (.int .i64 ((s.times : Int) + 1)) hd5
  have c5 := at_cell hd4 5 _ rfl
  have f5 := at_free hd4 5
  have c7 := at_cell hd5 7 _ rfl
  have f7 := at_free hd5 7
  have c65 := at_cell hd6 5 _ rfl
  have c66 := at_cell hd6 6 _ rfl
  have f66 := at_free hd6 6
  obtain ⟨w5, hw5⟩ : ∃ w5, w4.setCell ⟨b, 5, none⟩ (.int .i64 ((s.used : Int) + 1)) = w5 := ⟨_, rfl⟩
  obtain ⟨w6, hw6⟩ : ∃ w6, w5.setCell ⟨b, 7, none⟩ (.int .i64 ((s.times : Int) + 1)) = w6 := ⟨_, rfl⟩
  rw [hw5] at c7 f7 c65 c66 f66 hd6
  rw [hw6] at c65 c66 f66 hd6
  have hfi : (f : Int) < (freshS s).n := by omega
  have Hpack := Lib.hid (show FMem b room page _ _ _ _ _ _ _ w4 from hF4)
  have HS2 := Lib.hid hS2
  have HI2 := Lib.hid hI2
  have Hc2 := Lib.hid hc2
  have Hg2 := Lib.hid hg2
  have Hw3 := Lib.hid hw3
  have Hw4 := Lib.hid hw4
  have Hw5 := Lib.hid hw5
  have Hw6 := Lib.hid hw6
  have Hd6 := Lib.hid hd6
  have hq0 : (0 : Int) ≤ (f : Int) := by omega
  clear hF2 hF3 hF4 hS2 hI2 hc2 hg2 hw3 hd4 hd5 hd6 hform hform2 hN hfl hfr
  obtain ⟨N, hNn⟩ : ∃ N, (freshS s).n = N := ⟨_, rfl⟩
  rw [hNn] at c1 hfi
  have HN := Lib.hid hNn
  clear hNn
  obtain ⟨q, hq⟩ : ∃ q, f * page = q := ⟨_, rfl⟩
  rw [hq] at Hframe hclr
  clear hq
  refine Hframe.out.mono ?_
  rintro e w7 ⟨rfl, rfl⟩
  go_wp2
  go_region_law (fail)
  all_goals
    go_wp2
    all_goals
      go_ret2
      exact ⟨rfl, take_end Hpack.out Hd6.out HS2.out HI2.out (Chg.trans (Chg.of (below_drewN' _ w)) Hc2.out (fun _ _ h => h)) (Grew.trans (Grew.refl S w) Hg2.out (Nat.le_refl _)) Hw3.out Hw4.out Hw5.out Hw6.out Hfeq.out _ (by first | omega | (rename_i hmx; omega))⟩
end Go.Proofs.Ytkcijlndblbidaa.Fr

/- The walks of the example and of the law FramesNobody. -/
namespace Go.Proofs.Ytkcijlndblbidaa.Fr
open Go.ChangeShapes Go.WideShapes Go.ChangeAt Go.RowKit
set_option linter.unusedVariables false

def takeE (room : Nat) (s : PS) : Int × Int := if s.used = room then (0, 14) else (nextF s, 0)
def takeT (room : Nat) (s : PS) : PS := if s.used = room then s else takeS s
theorem used_le {room page : Nat} {s : PS} (hk : s.ok room page) : s.used ≤ room := by
  have := hk.used
  have := hk.few
  omega
theorem take_pl (S : Nat → Prop) (b room page : Nat) (s : PS) (w : World) (hP : Pl S b room page s w) (hk : s.ok room page) (ht : s.times ≤ 1000000000) :
    Calls Try.prog 105 #[.pointer (some ⟨b, 0, none⟩)] w fun e w' => e = .returned (.tuple #[.int .i64 (takeE room s).1, .int .i64 (takeE room s).2]) ∧ PDid S b room page (takeT room s) w w' := by
  unfold takeE takeT
  by_cases h : s.used = room
  · rw [if_pos h, if_pos h]
    exact (take_full S b room page s w hP hk h).mono fun e w' ⟨he, hb⟩ => ⟨he, PDid.of hP hb⟩
  · rw [if_neg h, if_neg h]
    exact take_yes S b room page s w hP hk (by have := used_le hk; omega) ht
theorem takeT_ok {room page : Nat} {s : PS} (hk : s.ok room page) : (takeT room s).ok room page := by
  unfold takeT
  split
  · exact hk
  · exact take_ok hk (by have := used_le hk; omega)
theorem giveS_ok {room page : Nat} {s : PS} (hk : s.ok room page) (f : Int) : (giveS s f).ok room page := by
  unfold giveS
  split
  · rename_i h
    exact (give_ok hk f h).1
  · exact hk
theorem takeT_times (room : Nat) (s : PS) : (takeT room s).times ≤ s.times + 1 := by
  unfold takeT
  split
  · omega
  · show s.times + 1 ≤ s.times + 1
    omega
theorem giveS_times (s : PS) (f : Int) : (giveS s f).times = s.times := by unfold giveS; split <;> rfl
/-- a pool above a base world -/
def PSt (W0 : World) (b room page : Nat) (s : PS) (w : World) : Prop := ∃ S, Pl S b room page s w ∧ Up W0.heap.size S ∧ Below W0.heap.size W0 w
theorem PSt.did {W0 w w' : World} {b room page : Nat} {s' : PS} {S : Nat → Prop} (u : Up W0.heap.size S) (hb : Below W0.heap.size W0 w) (h : PDid S b room page s' w w') : PSt W0 b room page s' w' := by
  obtain ⟨S', h1, h2, h3⟩ := h.up u hb.size
  exact ⟨S', h1, h2, hb.trans h3⟩
theorem PSt.below {W0 w : World} {b room page : Nat} {s : PS} (h : PSt W0 b room page s w) : Below W0.heap.size W0 w := by
  obtain ⟨_, _, _, h⟩ := h; exact h
section
variable {W0 w : World} {b room page : Nat} {s : PS}
theorem PSt.grow (h : PSt W0 b room page s w) {w' : World} (hb : Below w.heap.size w w') : PSt W0 b room page s w' := by
  obtain ⟨S, m, u, k⟩ := h
  exact ⟨S, m.grow hb, u, k.trans (hb.mono k.size)⟩
theorem take_ps (h : PSt W0 b room page s w) (hk : s.ok room page) (ht : s.times ≤ 1000000000) :
    Calls Try.prog 105 #[.pointer (some ⟨b, 0, none⟩)] w fun e w' => e = .returned (.tuple #[.int .i64 (takeE room s).1, .int .i64 (takeE room s).2]) ∧ PSt W0 b room page (takeT room s) w' := by
  obtain ⟨S, m, u, k⟩ := h
  exact (take_pl S b room page s w m hk ht).mono fun e w' ⟨he, hd⟩ => ⟨he, PSt.did u k hd⟩
theorem give_ps (h : PSt W0 b room page s w) (hk : s.ok room page) (f : Int) :
    Calls Try.prog 108 #[.pointer (some ⟨b, 0, none⟩), .int .i64 f] w fun e w' => e = .returned (.int .i64 (giveE s f)) ∧ PSt W0 b room page (giveS s f) w' := by
  obtain ⟨S, m, u, k⟩ := h
  exact (give_pl S b room page s w m hk f).mono fun e w' ⟨he, hd⟩ => ⟨he, PSt.did u k hd⟩
theorem store_ps (h : PSt W0 b room page s w) (hk : s.ok room page) (f i : Int) (x : Nat) :
    Calls Try.prog 103 #[.pointer (some ⟨b, 0, none⟩), .int .i64 f, .int .i64 i, .int .u64 x] w fun e w' => e = .returned (.int .i64 (wordE page s f i)) ∧ PSt W0 b room page (storeS page s f i x) w' := by
  obtain ⟨S, m, u, k⟩ := h
  exact (store_pl S b room page s w m hk f i x).mono fun e w' ⟨he, hd⟩ => ⟨he, PSt.did u k hd⟩
theorem load_ps (h : PSt W0 b room page s w) (hk : s.ok room page) (f i : Int) :
    Calls Try.prog 111 #[.pointer (some ⟨b, 0, none⟩), .int .i64 f, .int .i64 i] w fun e w' => e = .returned (.tuple #[.int .u64 (loadR page s f i), .int .i64 (wordE page s f i)]) ∧ w = w' := by
  obtain ⟨S, m, u, k⟩ := h
  exact load_pl S b room page s w m hk f i
theorem used_ps (h : PSt W0 b room page s w) : Calls Try.prog 112 #[.pointer (some ⟨b, 0, none⟩)] w fun e w' => e = .returned (.int .i64 s.used) ∧ w = w' := by
  obtain ⟨S, m, u, k⟩ := h
  exact used_pl S b room page s w m
theorem high_ps (h : PSt W0 b room page s w) : Calls Try.prog 113 #[.pointer (some ⟨b, 0, none⟩)] w fun e w' => e = .returned (.int .i64 s.high) ∧ w = w' := by
  obtain ⟨S, m, u, k⟩ := h
  exact high_pl S b room page s w m
end
theorem new_ps (r p : Nat) (w : World) (h1 : 1 ≤ r) (h2 : r ≤ 4096) (h3 : isPage p) :
    Calls Try.prog 97 #[.int .i64 r, .int .i64 p] w fun e w' => e = .returned (.tuple #[.pointer (some ⟨w.heap.size, 0, none⟩), .int .i64 0]) ∧ PSt w w.heap.size r p start w' :=
  (new_yes r p w h1 h2 h3).mono fun e w' ⟨he, ⟨S, m, u⟩, hb⟩ => ⟨he, S, m, u, hb⟩
end Go.Proofs.Ytkcijlndblbidaa.Fr

/- Which frames are taken behind Take and Give, and their words. -/
namespace Go.Proofs.Ytkcijlndblbidaa.Fr
open Go.ChangeShapes Go.WideShapes Go.ChangeAt Go.RowKit
set_option linter.unusedVariables false

theorem has_take {room page : Nat} {s : PS} (hk : s.ok room page) (hu : s.used < room) (g : Int) : has (takeS s) g = (decide (g = nextF s) || has s g) ∧ has s (nextF s) = false := by
  rcases List.eq_nil_or_concat s.bk with h | ⟨l, f, h⟩
  · have hfs : freshS s = moreS s := by unfold freshS; rw [if_pos h]
    have hnx : nextF s = s.n := by unfold nextF; rw [h]; rfl
    have hn : (takeS s).n = s.n + 1 := by show (freshS s).n = _; rw [hfs]; rfl
    have ht : ∀ i, (takeS s).tk i = if i = s.n then true else s.tk i := fun i => by
      show (if i = nextF s then true else (freshS s).tk i) = _
      rw [hnx, hfs]
      show (if i = s.n then true else if i = s.n then false else s.tk i) = _
      split <;> rfl
    refine ⟨?_, ?_⟩
    · unfold has
      rw [hn, ht, hnx]
      by_cases h0 : 0 ≤ g
      · by_cases h1 : g = s.n
        · subst h1
          simp
          omega
        · have h2 : ¬ g.toNat = s.n := by omega
          have h3 : (0 ≤ g ∧ g < ((s.n + 1 : Nat) : Int)) ↔ (0 ≤ g ∧ g < (s.n : Int)) := by omega
          rw [if_neg h2, decide_eq_false h1, Bool.false_or]
          simp only [h3]
      · rw [decide_eq_false (by omega), decide_eq_false (by omega), decide_eq_false (by omega)]
        rfl
    · unfold has
      rw [hnx, decide_eq_false (by omega)]
      rfl
  · rw [List.concat_eq_append] at h
    have hfs : freshS s = dropBack s l := by unfold freshS; rw [if_neg (by rw [h]; simp), h]; simp
    have hnx : nextF s = f := by unfold nextF; rw [h]; simp
    have hn : (takeS s).n = s.n := by show (freshS s).n = _; rw [hfs]; rfl
    obtain ⟨hfn, hft⟩ := hk.back f (by rw [h]; simp)
    have ht : ∀ i, (takeS s).tk i = if i = f then true else s.tk i := fun i => by
      show (if i = nextF s then true else (freshS s).tk i) = _
      rw [hnx, hfs]
      rfl
    refine ⟨?_, ?_⟩
    · unfold has
      rw [hn, ht, hnx]
      by_cases h1 : g = f
      · subst h1
        simp
        omega
      · by_cases h0 : 0 ≤ g
        · have h2 : ¬ g.toNat = f := by omega
          rw [if_neg h2, decide_eq_false h1, Bool.false_or]
        · rw [decide_eq_false (by omega), decide_eq_false (by omega)]
          rfl
    · unfold has
      rw [hnx, Int.toNat_natCast, hft]
      simp
theorem wd_take {room page : Nat} {s : PS} (hk : s.ok room page) (hu : s.used < room) (g i : Nat) (hg : g ≠ nextF s) (hn : g < s.n) : (takeS s).wd g i = s.wd g i := by
  show (if g = nextF s then 0 else (freshS s).wd g i) = _
  rw [if_neg hg]
  unfold freshS
  split
  · show (if g = s.n then 0 else s.wd g i) = _
    rw [if_neg (by omega)]
  · rfl
theorem take_zero (s : PS) (i : Nat) : (takeS s).wd (nextF s) i = 0 := by
  show (if nextF s = nextF s then 0 else _) = 0
  rw [if_pos rfl]
theorem has_give (s : PS) (f g : Int) (h0 : 0 ≤ f) : has (giveT s f.toNat) g = (!decide (g = f) && has s g) := by
  unfold has
  show (decide (0 ≤ g ∧ g < (s.n : Int)) && if g.toNat = f.toNat then false else s.tk g.toNat) = _
  by_cases e : g = f
  · subst e
    rw [if_pos rfl]
    simp
  · by_cases h1 : 0 ≤ g
    · rw [if_neg (by omega), decide_eq_false e]
      simp
    · rw [decide_eq_false (by omega)]
      simp
end Go.Proofs.Ytkcijlndblbidaa.Fr
