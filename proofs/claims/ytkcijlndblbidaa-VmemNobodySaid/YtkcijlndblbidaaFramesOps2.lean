/- The walks of Load, Store, Give and the counts at a pool whose blocks are among S. -/
import Derived.Test.YtkcijlndblbidaaFramesOps
namespace Go.Proofs.Ytkcijlndblbidaa.Fr
open Go.ChangeShapes Go.WideShapes Go.ChangeAt Go.RowKit
set_option linter.unusedVariables false

theorem wordE_zero {page : Nat} {s : PS} {f i : Int} (h : wordE page s f i = 0) : has s f = true ∧ 0 ≤ i ∧ i < page := by
  unfold wordE at h
  by_cases h1 : has s f = true
  · rw [if_neg (Classical.not_not.2 h1)] at h
    by_cases h2 : i < 0 ∨ (page : Int) ≤ i
    · rw [if_pos h2] at h; cases h
    · exact ⟨h1, by omega, by omega⟩
  · rw [if_pos h1] at h; cases h
theorem word_index {f i page n : Nat} (hf : f < n) (hi : i < page) : f * page + i < n * page := by
  have := Nat.mul_le_mul_right page (show f + 1 ≤ n by omega)
  rw [Nat.add_mul] at this
  omega
theorem wordV_at (page : Nat) (s : PS) (f i : Nat) (hi : i < page) : wordV page s (f * page + i) = .int .u64 (s.wd f i) := by
  unfold wordV
  have h1 : (f * page + i) / page = f := by
    rw [Nat.mul_comm, Nat.mul_add_div (by omega), Nat.div_eq_of_lt hi, Nat.add_zero]
  have h2 : (f * page + i) % page = i := by
    rw [Nat.mul_comm, Nat.mul_add_mod, Nat.mod_eq_of_lt hi]
  rw [h1, h2]
theorem index_eq {f i page j : Nat} (hi : i < page) : j = f * page + i ↔ j / page = f ∧ j % page = i := by
  constructor
  · rintro rfl
    exact ⟨by rw [Nat.mul_comm, Nat.mul_add_div (by omega), Nat.div_eq_of_lt hi, Nat.add_zero], by rw [Nat.mul_comm, Nat.mul_add_mod, Nat.mod_eq_of_lt hi]⟩
  · rintro ⟨rfl, rfl⟩
    exact (Nat.div_add_mod' j page).symm
/-- what Load answers -/
def loadR (page : Nat) (s : PS) (f i : Int) : Nat := if wordE page s f i = 0 then s.wd f.toNat i.toNat else 0
set_option maxRecDepth 100000 in
theorem load_pl (S : Nat → Prop) (b room page : Nat) (s : PS) (w : World) (hP : Pl S b room page s w) (hk : s.ok room page) (f i : Int) :
    Calls Try.prog 111 #[.pointer (some ⟨b, 0, none⟩), .int .i64 f, .int .i64 i] w fun e w' => e = .returned (.tuple #[.int .u64 (loadR page s f i), .int .i64 (wordE page s f i)]) ∧ w = w' := by
  obtain ⟨aw, cw, at_, ct, ab, cb, hF, -, -⟩ := hP
  unfold loadR
  by_cases h : wordE page s f i = 0
  · obtain ⟨h1, h2, h3⟩ := wordE_zero h
    rw [if_pos h, h]
    have hh := (has_iff _ _).1 h1
    obtain ⟨f, rfl⟩ : ∃ q : Nat, f = q := ⟨f.toNat, by omega⟩
    obtain ⟨i, rfl⟩ : ∃ q : Nat, i = q := ⟨i.toNat, by omega⟩
    rw [Int.toNat_natCast, Int.toNat_natCast]
    obtain ⟨-, -, -, hform, -⟩ := hF.words.form
    have hidx := word_index (show f < s.n by omega) (show i < page by omega)
    obtain ⟨g, rfl, -, -⟩ := hform (by omega)
    have Hw := Lib.hid (word_yes hF hk f i g h1 (by omega) rfl)
    have cw0 := hF.words.cell hidx
    rw [wordV_at page s f i (by omega)] at cw0
    generalize (s.wd f i : Int) = x at *
    generalize f * page + i = q at *
    clear h hF hk h1 h2 h3 hh hform hidx
    go_enter Try.func111, Try.ntmps111
    go_wp2_with (go_at_call 144; refine Hw.out.mono ?_; rintro e w1 ⟨rfl, rfl⟩)
    go_ret2
    exact ⟨rfl, rfl⟩
  · rw [if_neg h]
    have Hw := word_no hF hk f i h
    obtain ⟨y, hy⟩ : ∃ y, wordE page s f i = y := ⟨_, rfl⟩
    rw [hy] at Hw h ⊢
    replace Hw := Lib.hid Hw
    clear hF hk hy
    go_enter Try.func111, Try.ntmps111
    go_wp2_with (go_at_call 144; refine Hw.out.mono ?_; rintro e w1 ⟨rfl, rfl⟩)
    go_ret2
    exact ⟨rfl, rfl⟩
/-- what Store leaves -/
def putW (s : PS) (f i x : Nat) : PS := { s with wd := fun g j => if g = f ∧ j = i then x else s.wd g j }
def storeS (page : Nat) (s : PS) (f i : Int) (x : Nat) : PS := if wordE page s f i = 0 then putW s f.toNat i.toNat x else s
theorem putW_ok {room page : Nat} {s : PS} (hk : s.ok room page) (f i x : Nat) (hx : x < 18446744073709551616) : (putW s f i x).ok room page :=
  ⟨hk.room1, hk.page1, hk.few, hk.less, hk.used, hk.high, hk.back, hk.once, fun g j => by
    show (if g = f ∧ j = i then x else s.wd g j) < _
    split
    · exact hx
    · exact hk.small g j⟩
theorem storeS_ok {room page : Nat} {s : PS} (hk : s.ok room page) (f i : Int) (x : Nat) (hx : x < 18446744073709551616) : (storeS page s f i x).ok room page := by
  unfold storeS
  split
  · exact putW_ok hk _ _ x hx
  · exact hk
theorem FMem.ne {b room page : Nat} {s : PS} {aw at_ ab : Option Addr} {cw ct cb : Nat} {w : World} (h : FMem b room page s aw cw at_ ct ab cb w) :
    (∀ a, aw = some a → b < a.block) ∧ (∀ a, at_ = some a → b < a.block) ∧ ∀ a, ab = some a → b < a.block :=
  ⟨fun a e => by have := (h.words.lt a.block (by rw [e]; rfl)).1; omega, fun a e => by have := (h.taken.lt a.block (by rw [e]; rfl)).1; omega, fun a e => by have := (h.back.lt a.block (by rw [e]; rfl)).1; omega⟩
theorem word_int : (23 : Nat) ≠ 3 := by decide
theorem word_bool : (23 : Nat) ≠ 4 := by decide
theorem bool_int : (4 : Nat) ≠ 3 := by decide
/-- of a pool in memory: a word stored -/
theorem FMem.put {b room page : Nat} {s : PS} {at_ ab : Option Addr} {cw ct cb g : Nat} {w : World} (h : FMem b room page s (some ⟨g, 0, none⟩) cw at_ ct ab cb w) (f i x : Nat) (hi : i < page) :
    FMem b room page (putW s f i x) (some ⟨g, 0, none⟩) cw at_ ct ab cb (w.setCell ⟨g, f * page + i, none⟩ (.int .u64 x)) := by
  obtain ⟨n1, n2, n3⟩ := h.ne
  have hb : b ≠ g := by have := n1 _ rfl; simp at this; omega
  refine ⟨?_, ?_, ?_, ?_⟩
  · rw [far hb]; exact h.head
  · refine (h.words.set (f * page + i) (.int .u64 x)).congr fun j hj => ?_
    unfold wordV putW
    have hx := index_eq (f := f) (j := j) hi
    by_cases e : j = f * page + i
    · rw [if_pos e]
      simp only []
      rw [if_pos (hx.1 e)]
    · rw [if_neg e]
      simp only []
      rw [if_neg (fun k => e (hx.2 k))]
  · exact h.taken.from fun k hk => far (h.taken.unlike h.words word_bool.symm hk rfl)
  · exact h.back.from fun k hk => far (h.back.unlike h.words word_int.symm hk rfl)
set_option maxRecDepth 100000 in
theorem store_pl (S : Nat → Prop) (b room page : Nat) (s : PS) (w : World) (hP : Pl S b room page s w) (hk : s.ok room page) (f i : Int) (x : Nat) :
    Calls Try.prog 103 #[.pointer (some ⟨b, 0, none⟩), .int .i64 f, .int .i64 i, .int .u64 x] w fun e w' => e = .returned (.int .i64 (wordE page s f i)) ∧ PDid S b room page (storeS page s f i x) w w' := by
  have HP := Lib.hid hP
  obtain ⟨aw, cw, at_, ct, ab, cb, hF, ⟨s1, s2, s3, s4⟩, hI⟩ := hP
  unfold storeS
  by_cases h : wordE page s f i = 0
  · obtain ⟨h1, h2, h3⟩ := wordE_zero h
    rw [if_pos h, h]
    have hh := (has_iff _ _).1 h1
    obtain ⟨f, rfl⟩ : ∃ q : Nat, f = q := ⟨f.toNat, by omega⟩
    obtain ⟨i, rfl⟩ : ∃ q : Nat, i = q := ⟨i.toNat, by omega⟩
    rw [Int.toNat_natCast, Int.toNat_natCast]
    obtain ⟨-, -, -, hform, -⟩ := hF.words.form
    have hidx := word_index (show f < s.n by omega) (show i < page by omega)
    obtain ⟨g, rfl, -, -⟩ := hform (by omega)
    have Hw := Lib.hid (word_yes hF hk f i g h1 (by omega) rfl)
    have cw0 := hF.words.cell hidx
    rw [wordV_at page s f i (by omega)] at cw0
    have fw0 := hF.words.free (f * page + i)
    have Hres := Lib.hid (show PDid S b room page (putW s f i x) w (w.setCell ⟨g, f * page + i, none⟩ (.int .u64 x)) from
      ⟨S, ⟨_, _, _, _, _, _, hF.put f i x (by omega), ⟨s1, s2, s3, s4⟩, hI.mono (by simp [World.setCell])⟩, (Chg.refl S w).set (p := ⟨g, f * page + i, none⟩) (.inl (s2 ⟨g, 0, none⟩ rfl)) _, Grew.refl _ _⟩)
    generalize (s.wd f i : Int) = y at *
    generalize f * page + i = q at *
    clear h hF hk h1 h2 h3 hh hform hidx s1 s2 s3 s4 hI
    go_enter Try.func103, Try.ntmps103
    go_wp2_with (go_at_call 144; refine Hw.out.mono ?_; rintro e w1 ⟨rfl, rfl⟩)
    go_ret
    exact ⟨rfl, Hres.out⟩
  · rw [if_neg h]
    have Hw := word_no hF hk f i h
    obtain ⟨y, hy⟩ : ∃ y, wordE page s f i = y := ⟨_, rfl⟩
    rw [hy] at Hw h ⊢
    replace Hw := Lib.hid Hw
    clear hF hk hy s1 s2 s3 s4 hI
    go_enter Try.func103, Try.ntmps103
    go_wp2_with (go_at_call 144; refine Hw.out.mono ?_; rintro e w1 ⟨rfl, rfl⟩)
    go_ret
    exact ⟨rfl, PDid.of HP.out (Below.refl _ _)⟩
section
variable (S : Nat → Prop) (b room page : Nat) (s : PS) (w : World) (hP : Pl S b room page s w)
include hP
theorem page_pl : Calls Try.prog 101 #[.pointer (some ⟨b, 0, none⟩)] w fun e w' => e = .returned (.int .i64 page) ∧ w = w' := by
  obtain ⟨aw, cw, at_, ct, ab, cb, hF, -, -⟩ := hP
  have c := at_cell hF.head 4 _ rfl
  clear hF
  go_enter Try.func101, Try.ntmps101
  go_wp2
  go_ret
  exact ⟨rfl, rfl⟩
theorem room_pl : Calls Try.prog 114 #[.pointer (some ⟨b, 0, none⟩)] w fun e w' => e = .returned (.int .i64 room) ∧ w = w' := by
  obtain ⟨aw, cw, at_, ct, ab, cb, hF, -, -⟩ := hP
  have c := at_cell hF.head 3 _ rfl
  clear hF
  go_enter Try.func114, Try.ntmps114
  go_wp2
  go_ret
  exact ⟨rfl, rfl⟩
theorem used_pl : Calls Try.prog 112 #[.pointer (some ⟨b, 0, none⟩)] w fun e w' => e = .returned (.int .i64 s.used) ∧ w = w' := by
  obtain ⟨aw, cw, at_, ct, ab, cb, hF, -, -⟩ := hP
  have c := at_cell hF.head 5 _ rfl
  clear hF
  go_enter Try.func112, Try.ntmps112
  go_wp2
  go_ret
  exact ⟨rfl, rfl⟩
theorem high_pl : Calls Try.prog 113 #[.pointer (some ⟨b, 0, none⟩)] w fun e w' => e = .returned (.int .i64 s.high) ∧ w = w' := by
  obtain ⟨aw, cw, at_, ct, ab, cb, hF, -, -⟩ := hP
  have c := at_cell hF.head 6 _ rfl
  clear hF
  go_enter Try.func113, Try.ntmps113
  go_wp2
  go_ret
  exact ⟨rfl, rfl⟩
end
end Go.Proofs.Ytkcijlndblbidaa.Fr
