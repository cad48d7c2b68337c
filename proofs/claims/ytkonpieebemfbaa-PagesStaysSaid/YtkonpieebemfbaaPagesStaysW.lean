/- The walk of the law PagesStays, for any page and frame and any acts. -/
import Derived.Test.YtkonpieebemfbaaPagesActs
import Derived.Deep.RegionHeld3
import Derived.Deep.CutRange
import Derived.Deep.QuietTactic
import Derived.BigQuiet
namespace Go.Proofs.Ytkonpieebemfbaa
open Go.ChangeShapes Go.WideShapes Go.ChangeAt Go.RowKit
set_option linter.unusedVariables false

theorem umod_bounds (x : Int) : 0 ≤ (IntKind.u64.wrap x).tmod 131072 ∧ (IntKind.u64.wrap x).tmod 131072 < 131072 := by
  have h : 0 ≤ IntKind.u64.wrap x := by rw [IntKind.wrap_u64]; omega
  rw [Int.tmod_eq_emod_of_nonneg h]
  omega
theorem below_drewN {B : Nat} {a w : World} (n : Nat) (h : Below B a w) : Below B a (w.drewN n) := ⟨h.os, h.tape, h.output, h.size, h.block⟩
theorem putR_keep {np : Nat} {F : Nat → Nat} {x y p : Int} (hp : 0 ≤ p) (h : x ≠ p) : (putR np F x y).2 p.toNat = F p.toNat := by
  unfold putR
  split
  · rfl
  · split
    · rfl
    · split
      · rfl
      · show turn F x.toNat _ p.toNat = _
        unfold turn
        rw [if_neg (by omega)]
theorem dropF_keep {np : Nat} {F : Nat → Nat} {x p : Int} (hp : 0 ≤ p) (h : x ≠ p) : (dropF np F x) p.toNat = F p.toNat := by
  unfold dropF
  split
  · rename_i h1
    unfold frameR at h1
    split at h1
    · cases h1
    · unfold turn
      rw [if_neg (by omega)]
  · rfl
theorem moveR_keep {np : Nat} {F : Nat → Nat} {x y p : Int} (hp : 0 ≤ p) (h : x ≠ p) (hF : F p.toNat ≠ 0) : (moveR np F x y).2 p.toNat = F p.toNat := by
  unfold moveR
  split
  · rfl
  · split
    · rfl
    · split
      · rfl
      · rename_i h1 h2 h3
        show turn (turn F x.toNat 0) y.toNat _ p.toNat = _
        unfold turn
        rw [if_neg (by intro e; rw [e] at hF; exact h3 hF), if_neg (by omega)]
theorem frameR_keep {np : Nat} {F : Nat → Nat} {p f : Int} (hp : 0 ≤ p) (hn : p < np) (hf : 0 ≤ f) (hF : F p.toNat = f.toNat + 1) : frameR np F p = (f, 0) := by
  unfold frameR
  rw [if_neg (Classical.not_not.2 (by omega)), if_neg (by omega), hF]
  congr 1
  omega
/-- what is done to other pages -/
def Kept (b : Nat) (p f : Int) (S : Nat → Prop) (w w' : World) : Prop := ∃ F', F' p.toNat = f.toNat + 1 ∧ Did S b 131072 F' w w'
theorem put_keep (S : Nat → Prop) (b : Nat) (F : Nat → Nat) (p f : Int) (w : World) (hM : Mp S b 131072 F w) (hp : 0 ≤ p) (hF : F p.toNat = f.toNat + 1) (x y : Int) (h : x ≠ p) :
    Calls Try.prog 8 #[.pointer (some ⟨b, 0, none⟩), .int .i64 x, .int .i64 y] w fun e w' => (∃ c, e = .returned (.int .i64 c)) ∧ Kept b p f S w w' := by
  refine (put_mp S b 131072 F w hM x y).mono ?_
  rintro e w' ⟨he, hd⟩
  exact ⟨⟨_, he⟩, _, by rw [putR_keep hp h]; exact hF, hd⟩
theorem drop_keep (S : Nat → Prop) (b : Nat) (F : Nat → Nat) (p f : Int) (w : World) (hM : Mp S b 131072 F w) (hp : 0 ≤ p) (hF : F p.toNat = f.toNat + 1) (x : Int) (h : x ≠ p) :
    Calls Try.prog 9 #[.pointer (some ⟨b, 0, none⟩), .int .i64 x] w fun e w' => (∃ c d, e = .returned (.tuple #[.int .i64 c, .int .i64 d])) ∧ Kept b p f S w w' := by
  refine (drop_mp S b 131072 F w hM x).mono ?_
  rintro e w' ⟨he, hd⟩
  exact ⟨⟨_, _, he⟩, _, by rw [dropF_keep hp h]; exact hF, hd⟩
theorem move_keep (S : Nat → Prop) (b : Nat) (F : Nat → Nat) (p f : Int) (w : World) (hM : Mp S b 131072 F w) (hp : 0 ≤ p) (hF : F p.toNat = f.toNat + 1) (x y : Int) (h : x ≠ p) :
    Calls Try.prog 10 #[.pointer (some ⟨b, 0, none⟩), .int .i64 x, .int .i64 y] w fun e w' => (∃ c, e = .returned (.int .i64 c)) ∧ Kept b p f S w w' := by
  refine (move_mp S b 131072 F w hM x y).mono ?_
  rintro e w' ⟨he, hd⟩
  exact ⟨⟨_, he⟩, _, by rw [moveR_keep hp h (by omega)]; exact hF, hd⟩
theorem frame_keep (S : Nat → Prop) (b : Nat) (F : Nat → Nat) (p f : Int) (w : World) (hM : Mp S b 131072 F w) (hp : 0 ≤ p) (hp1 : p < 65536) (hf : 0 ≤ f) (hF : F p.toNat = f.toNat + 1) :
    Calls Try.prog 11 #[.pointer (some ⟨b, 0, none⟩), .int .i64 p] w fun e w' => e = .returned (.tuple #[.int .i64 f, .int .i64 0]) ∧ Below w.heap.size w w' := by
  have h := frame_mp S b 131072 F w hM p
  rw [frameR_keep hp (by omega) hf hF] at h
  exact h
set_option maxRecDepth 100000 in
theorem stays_many (p f : Int) (a : Option Addr) (len cap : Nat) (w : World) (hl : 200 < len) (hm : len ≤ maxLen) :
    Calls Try.prog 3 #[.int .u16 p, .int .u16 f, .slice a len cap] w fun e w' => e = .returned (.bool true) ∧ Below w.heap.size w w' := by
  unfold maxLen at hm
  go_enter Try.func3, Try.ntmps3
  go_wp2_with (go_at_call 6; refine (lives_any _).mono ?_; rintro e w2 ⟨rfl, hb⟩)
  go_ret
  exact ⟨rfl, hb⟩
set_option maxRecDepth 100000 in
set_option maxHeartbeats 4000000 in
theorem stays_walk (p f : Int) (hp0 : 0 ≤ p) (hp1 : p < 65536) (hf0 : 0 ≤ f) (hf1 : f < 65536) (a : Option Addr) (cap : Nat) (ps : List Act3) (w : World) (hl : ps.length ≤ 200) (hP : Acts w a ps) :
    Calls Try.prog 3 #[.int .u16 p, .int .u16 f, .slice a ps.length cap] w fun e w' => e = .returned (.bool true) ∧ Below w.heap.size w w' := by
  have HP := Lib.hid hP
  clear hP
  have Hnew := new_yes 131072 w (by omega) (by omega)
  obtain ⟨b, hb⟩ : ∃ b, w.heap.size + 1 = b := ⟨_, rfl⟩
  rw [hb] at Hnew
  replace Hnew := Lib.hid Hnew
  have Hput := fun S W (hW : Mp S b 131072 (fun _ => 0) W) => put_mp S b 131072 (fun _ => 0) W hW p f
  have e1 : putR 131072 (fun _ => 0) p f = (0, turn (fun _ => 0) p.toNat (f.toNat + 1)) := by
    unfold putR
    rw [if_neg (Classical.not_not.2 (by omega)), if_neg (by omega), if_neg (Classical.not_not.2 rfl)]
  simp only [e1] at Hput
  replace Hput := Lib.hid Hput
  clear e1
  have HPut := Lib.hid fun S F W hM hF x y h => put_keep S b F p f W hM hp0 hF x y h
  have HDrop := Lib.hid fun S F W hM hF x h => drop_keep S b F p f W hM hp0 hF x h
  have HMove := Lib.hid fun S F W hM hF x y h => move_keep S b F p f W hM hp0 hF x y h
  have HFr := Lib.hid fun S F W hM hF => frame_keep S b F p f W hM hp0 hp1 hf0 hF
  clear hb
  go_enter Try.func3, Try.ntmps3
  go_wp2_with (first
    | (go_at_call 7; refine Hnew.out.mono ?_; rintro e w1 ⟨rfl, ⟨S1, m1, u1⟩, b1⟩; have M := Lib.hid m1; have U := Lib.hid u1; have hB := b1.size; have HB := Lib.hid b1; clear m1 u1 b1 Hnew)
    | (go_at_call 8; refine (Hput.out _ _ M.out).mono ?_; rintro e w2 ⟨rfl, hd⟩; obtain ⟨S2, m2, u2, b2⟩ := hd.up U.out hB; clear M U; have M := Lib.hid m2; have U := Lib.hid u2; replace hB := Nat.le_trans hB b2.size; have HB1 := Lib.hid (HB.out.trans b2); clear m2 u2 b2 hd HB; have HB := HB1; clear HB1))
  go_loopw [36] (fun i wr => ∃ (m : Nat) (S : Nat → Prop) (F : Nat → Nat), i = .int .i64 m ∧ m ≤ ps.length ∧ Mp S b 131072 F wr ∧ Up w.heap.size S ∧ F p.toNat = f.toNat + 1 ∧ Below w.heap.size w wr) (fun i _ => ps.length - (intOf i).toNat)
  case atStart => exact ⟨0, _, _, rfl, by omega, M.out, U.out, if_pos rfl, HB.out⟩
  case round =>
    clear M U HB hB Hput
    obtain ⟨m, S, F, rfl, hm, hM, hU, hF, hb⟩ := hrel
    by_cases hlt : m < ps.length
    · have hP2 := HP.out.below hb
      obtain ⟨b1, off, ha, hcell⟩ := hP2.cell
      obtain rfl : a = some ⟨b1, off, none⟩ := by
        rcases ha with rfl | ha
        · simp at hlt
        · exact ha
      obtain ⟨c0, c1, c2⟩ := hcell m hlt
      have hok := hP2.each m hlt
      clear hcell ha hP2
      generalize ps.getD m default = q at *
      obtain ⟨k, pa, pb⟩ := q
      obtain ⟨hk, hpa, hpb⟩ := hok
      simp only at *
      have hbox := below_new wr (.cells #[.int .u8 k, .int .i64 pa, .int .i64 pb] 31)
      have hcell3 := heap_alloc_new wr (.cells #[.int .u8 k, .int .i64 pa, .int .i64 pb] 31)
      obtain ⟨⟨d0, d1, d2⟩, -⟩ := three hcell3
      have HM := Lib.hid (hM.grow hbox)
      have HU := Lib.hid hU
      have HF := Lib.hid hF
      have hB := hb.size
      have Hb := Lib.hid (hb.trans (hbox.mono hB))
      clear hM hU hF hb hbox hcell3
      obtain ⟨X, hX⟩ : ∃ X, (IntKind.u64.wrap pa).tmod 131072 = X := ⟨_, rfl⟩
      obtain ⟨Y, hY⟩ : ∃ Y, (IntKind.u64.wrap pb).tmod 131072 = Y := ⟨_, rfl⟩
      have hXb := umod_bounds pa
      have hYb := umod_bounds pb
      rw [hX] at hXb
      rw [hY] at hYb
      obtain ⟨x0, x1⟩ := hXb
      obtain ⟨y0, y1⟩ := hYb
      have Hd0 := Lib.hid d0
      go_wp2
      go_quiet (fail)
      clear hX hY
      have HM1 := Lib.hid (HM.out.grow (below_drewN nq (Below.refl _ _)))
      have HB1 := Lib.hid (below_drewN nq Hb.out)
      have hB1 := HB1.out.size
      have e0 : ((wr.alloc (.cells #[.int .u8 k, .int .i64 pa, .int .i64 pb] 31)).drewN nq).cell? ⟨wr.heap.size, 0, none⟩ = _ := (World.cell?_of_block rfl).trans Hd0.out
      clear HM Hb d0 d1 d2 Hd0 hB
      generalize (wr.alloc (.cells #[.int .u8 k, .int .i64 pa, .int .i64 pb] 31)).drewN nq = W at *
      by_cases hxp : X = p
      case pos =>
        have hne : X + 1 ≠ p := by omega
        obtain rfl : p = X := hxp.symm
        clear hxp
        have hk4 : k % 4 = 0 ∨ k % 4 = 1 ∨ k % 4 = 2 ∨ k % 4 = 3 := by omega
        rcases hk4 with hk4 | hk4 | hk4 | hk4
        · have kk : (k : Int) % 4 = 0 := by omega
          clear hk4
          go_wp2_with (first
            | (go_at_call 8; refine (HPut.out _ _ _ HM1.out HF.out _ _ hne).mono ?_; rintro e w2 ⟨⟨c, rfl⟩, F2, hF2, hd⟩; obtain ⟨S2, m2, u2, b2⟩ := hd.up HU.out hB1; have HM2 := Lib.hid m2; have HU2 := Lib.hid u2; have HF2 := Lib.hid hF2; have HB2 := Lib.hid (HB1.out.trans b2); have hB2 := Nat.le_trans hB1 b2.size; clear m2 u2 hF2 hd b2)
            | (go_at_call 9; refine (HDrop.out _ _ _ HM1.out HF.out _ hne).mono ?_; rintro e w2 ⟨⟨c, d, rfl⟩, F2, hF2, hd⟩; obtain ⟨S2, m2, u2, b2⟩ := hd.up HU.out hB1; have HM2 := Lib.hid m2; have HU2 := Lib.hid u2; have HF2 := Lib.hid hF2; have HB2 := Lib.hid (HB1.out.trans b2); have hB2 := Nat.le_trans hB1 b2.size; clear m2 u2 hF2 hd b2)
            | (go_at_call 10; refine (HMove.out _ _ _ HM1.out HF.out _ _ hne).mono ?_; rintro e w2 ⟨⟨c, rfl⟩, F2, hF2, hd⟩; obtain ⟨S2, m2, u2, b2⟩ := hd.up HU.out hB1; have HM2 := Lib.hid m2; have HU2 := Lib.hid u2; have HF2 := Lib.hid hF2; have HB2 := Lib.hid (HB1.out.trans b2); have hB2 := Nat.le_trans hB1 b2.size; clear m2 u2 hF2 hd b2)
            | (go_at_call 11; refine (HFr.out _ _ _ HM2.out HF2.out).mono ?_; rintro e w3 ⟨rfl, b3⟩; have HM3 := Lib.hid (HM2.out.grow b3); have HB3 := Lib.hid (HB2.out.trans (b3.mono hB2)); clear b3))
          go_roundw
          case rel => exact ⟨m + 1, _, _, by go_num, by omega, HM3.out, HU2.out, HF2.out, HB3.out⟩
          case measure => simp [intOf]; omega
        · have kk : (k : Int) % 4 = 1 := by omega
          clear hk4
          go_wp2_with (first
            | (go_at_call 8; refine (HPut.out _ _ _ HM1.out HF.out _ _ hne).mono ?_; rintro e w2 ⟨⟨c, rfl⟩, F2, hF2, hd⟩; obtain ⟨S2, m2, u2, b2⟩ := hd.up HU.out hB1; have HM2 := Lib.hid m2; have HU2 := Lib.hid u2; have HF2 := Lib.hid hF2; have HB2 := Lib.hid (HB1.out.trans b2); have hB2 := Nat.le_trans hB1 b2.size; clear m2 u2 hF2 hd b2)
            | (go_at_call 9; refine (HDrop.out _ _ _ HM1.out HF.out _ hne).mono ?_; rintro e w2 ⟨⟨c, d, rfl⟩, F2, hF2, hd⟩; obtain ⟨S2, m2, u2, b2⟩ := hd.up HU.out hB1; have HM2 := Lib.hid m2; have HU2 := Lib.hid u2; have HF2 := Lib.hid hF2; have HB2 := Lib.hid (HB1.out.trans b2); have hB2 := Nat.le_trans hB1 b2.size; clear m2 u2 hF2 hd b2)
            | (go_at_call 10; refine (HMove.out _ _ _ HM1.out HF.out _ _ hne).mono ?_; rintro e w2 ⟨⟨c, rfl⟩, F2, hF2, hd⟩; obtain ⟨S2, m2, u2, b2⟩ := hd.up HU.out hB1; have HM2 := Lib.hid m2; have HU2 := Lib.hid u2; have HF2 := Lib.hid hF2; have HB2 := Lib.hid (HB1.out.trans b2); have hB2 := Nat.le_trans hB1 b2.size; clear m2 u2 hF2 hd b2)
            | (go_at_call 11; refine (HFr.out _ _ _ HM2.out HF2.out).mono ?_; rintro e w3 ⟨rfl, b3⟩; have HM3 := Lib.hid (HM2.out.grow b3); have HB3 := Lib.hid (HB2.out.trans (b3.mono hB2)); clear b3))
          go_roundw
          case rel => exact ⟨m + 1, _, _, by go_num, by omega, HM3.out, HU2.out, HF2.out, HB3.out⟩
          case measure => simp [intOf]; omega
        · have kk : (k : Int) % 4 = 2 := by omega
          clear hk4
          go_wp2_with (first
            | (go_at_call 8; refine (HPut.out _ _ _ HM1.out HF.out _ _ hne).mono ?_; rintro e w2 ⟨⟨c, rfl⟩, F2, hF2, hd⟩; obtain ⟨S2, m2, u2, b2⟩ := hd.up HU.out hB1; have HM2 := Lib.hid m2; have HU2 := Lib.hid u2; have HF2 := Lib.hid hF2; have HB2 := Lib.hid (HB1.out.trans b2); have hB2 := Nat.le_trans hB1 b2.size; clear m2 u2 hF2 hd b2)
            | (go_at_call 9; refine (HDrop.out _ _ _ HM1.out HF.out _ hne).mono ?_; rintro e w2 ⟨⟨c, d, rfl⟩, F2, hF2, hd⟩; obtain ⟨S2, m2, u2, b2⟩ := hd.up HU.out hB1; have HM2 := Lib.hid m2; have HU2 := Lib.hid u2; have HF2 := Lib.hid hF2; have HB2 := Lib.hid (HB1.out.trans b2); have hB2 := Nat.le_trans hB1 b2.size; clear m2 u2 hF2 hd b2)
            | (go_at_call 10; refine (HMove.out _ _ _ HM1.out HF.out _ _ hne).mono ?_; rintro e w2 ⟨⟨c, rfl⟩, F2, hF2, hd⟩; obtain ⟨S2, m2, u2, b2⟩ := hd.up HU.out hB1; have HM2 := Lib.hid m2; have HU2 := Lib.hid u2; have HF2 := Lib.hid hF2; have HB2 := Lib.hid (HB1.out.trans b2); have hB2 := Nat.le_trans hB1 b2.size; clear m2 u2 hF2 hd b2)
            | (go_at_call 11; refine (HFr.out _ _ _ HM2.out HF2.out).mono ?_; rintro e w3 ⟨rfl, b3⟩; have HM3 := Lib.hid (HM2.out.grow b3); have HB3 := Lib.hid (HB2.out.trans (b3.mono hB2)); clear b3))
          go_roundw
          case rel => exact ⟨m + 1, _, _, by go_num, by omega, HM3.out, HU2.out, HF2.out, HB3.out⟩
          case measure => simp [intOf]; omega
        · have kk : (k : Int) % 4 = 3 := by omega
          clear hk4
          go_wp2_with (first
            | (go_at_call 8; refine (HPut.out _ _ _ HM1.out HF.out _ _ hne).mono ?_; rintro e w2 ⟨⟨c, rfl⟩, F2, hF2, hd⟩; obtain ⟨S2, m2, u2, b2⟩ := hd.up HU.out hB1; have HM2 := Lib.hid m2; have HU2 := Lib.hid u2; have HF2 := Lib.hid hF2; have HB2 := Lib.hid (HB1.out.trans b2); have hB2 := Nat.le_trans hB1 b2.size; clear m2 u2 hF2 hd b2)
            | (go_at_call 9; refine (HDrop.out _ _ _ HM1.out HF.out _ hne).mono ?_; rintro e w2 ⟨⟨c, d, rfl⟩, F2, hF2, hd⟩; obtain ⟨S2, m2, u2, b2⟩ := hd.up HU.out hB1; have HM2 := Lib.hid m2; have HU2 := Lib.hid u2; have HF2 := Lib.hid hF2; have HB2 := Lib.hid (HB1.out.trans b2); have hB2 := Nat.le_trans hB1 b2.size; clear m2 u2 hF2 hd b2)
            | (go_at_call 10; refine (HMove.out _ _ _ HM1.out HF.out _ _ hne).mono ?_; rintro e w2 ⟨⟨c, rfl⟩, F2, hF2, hd⟩; obtain ⟨S2, m2, u2, b2⟩ := hd.up HU.out hB1; have HM2 := Lib.hid m2; have HU2 := Lib.hid u2; have HF2 := Lib.hid hF2; have HB2 := Lib.hid (HB1.out.trans b2); have hB2 := Nat.le_trans hB1 b2.size; clear m2 u2 hF2 hd b2)
            | (go_at_call 11; refine (HFr.out _ _ _ HM2.out HF2.out).mono ?_; rintro e w3 ⟨rfl, b3⟩; have HM3 := Lib.hid (HM2.out.grow b3); have HB3 := Lib.hid (HB2.out.trans (b3.mono hB2)); clear b3))
          go_roundw
          case rel => exact ⟨m + 1, _, _, by go_num, by omega, HM3.out, HU2.out, HF2.out, HB3.out⟩
          case measure => simp [intOf]; omega
      case neg =>
        have hne : X ≠ p := hxp
        have hk4 : k % 4 = 0 ∨ k % 4 = 1 ∨ k % 4 = 2 ∨ k % 4 = 3 := by omega
        rcases hk4 with hk4 | hk4 | hk4 | hk4
        · have kk : (k : Int) % 4 = 0 := by omega
          clear hk4
          go_wp2_with (first
            | (go_at_call 8; refine (HPut.out _ _ _ HM1.out HF.out _ _ hne).mono ?_; rintro e w2 ⟨⟨c, rfl⟩, F2, hF2, hd⟩; obtain ⟨S2, m2, u2, b2⟩ := hd.up HU.out hB1; have HM2 := Lib.hid m2; have HU2 := Lib.hid u2; have HF2 := Lib.hid hF2; have HB2 := Lib.hid (HB1.out.trans b2); have hB2 := Nat.le_trans hB1 b2.size; clear m2 u2 hF2 hd b2)
            | (go_at_call 9; refine (HDrop.out _ _ _ HM1.out HF.out _ hne).mono ?_; rintro e w2 ⟨⟨c, d, rfl⟩, F2, hF2, hd⟩; obtain ⟨S2, m2, u2, b2⟩ := hd.up HU.out hB1; have HM2 := Lib.hid m2; have HU2 := Lib.hid u2; have HF2 := Lib.hid hF2; have HB2 := Lib.hid (HB1.out.trans b2); have hB2 := Nat.le_trans hB1 b2.size; clear m2 u2 hF2 hd b2)
            | (go_at_call 10; refine (HMove.out _ _ _ HM1.out HF.out _ _ hne).mono ?_; rintro e w2 ⟨⟨c, rfl⟩, F2, hF2, hd⟩; obtain ⟨S2, m2, u2, b2⟩ := hd.up HU.out hB1; have HM2 := Lib.hid m2; have HU2 := Lib.hid u2; have HF2 := Lib.hid hF2; have HB2 := Lib.hid (HB1.out.trans b2); have hB2 := Nat.le_trans hB1 b2.size; clear m2 u2 hF2 hd b2)
            | (go_at_call 11; refine (HFr.out _ _ _ HM2.out HF2.out).mono ?_; rintro e w3 ⟨rfl, b3⟩; have HM3 := Lib.hid (HM2.out.grow b3); have HB3 := Lib.hid (HB2.out.trans (b3.mono hB2)); clear b3))
          go_roundw
          case rel => exact ⟨m + 1, _, _, by go_num, by omega, HM3.out, HU2.out, HF2.out, HB3.out⟩
          case measure => simp [intOf]; omega
        · have kk : (k : Int) % 4 = 1 := by omega
          clear hk4
          go_wp2_with (first
            | (go_at_call 8; refine (HPut.out _ _ _ HM1.out HF.out _ _ hne).mono ?_; rintro e w2 ⟨⟨c, rfl⟩, F2, hF2, hd⟩; obtain ⟨S2, m2, u2, b2⟩ := hd.up HU.out hB1; have HM2 := Lib.hid m2; have HU2 := Lib.hid u2; have HF2 := Lib.hid hF2; have HB2 := Lib.hid (HB1.out.trans b2); have hB2 := Nat.le_trans hB1 b2.size; clear m2 u2 hF2 hd b2)
            | (go_at_call 9; refine (HDrop.out _ _ _ HM1.out HF.out _ hne).mono ?_; rintro e w2 ⟨⟨c, d, rfl⟩, F2, hF2, hd⟩; obtain ⟨S2, m2, u2, b2⟩ := hd.up HU.out hB1; have HM2 := Lib.hid m2; have HU2 := Lib.hid u2; have HF2 := Lib.hid hF2; have HB2 := Lib.hid (HB1.out.trans b2); have hB2 := Nat.le_trans hB1 b2.size; clear m2 u2 hF2 hd b2)
            | (go_at_call 10; refine (HMove.out _ _ _ HM1.out HF.out _ _ hne).mono ?_; rintro e w2 ⟨⟨c, rfl⟩, F2, hF2, hd⟩; obtain ⟨S2, m2, u2, b2⟩ := hd.up HU.out hB1; have HM2 := Lib.hid m2; have HU2 := Lib.hid u2; have HF2 := Lib.hid hF2; have HB2 := Lib.hid (HB1.out.trans b2); have hB2 := Nat.le_trans hB1 b2.size; clear m2 u2 hF2 hd b2)
            | (go_at_call 11; refine (HFr.out _ _ _ HM2.out HF2.out).mono ?_; rintro e w3 ⟨rfl, b3⟩; have HM3 := Lib.hid (HM2.out.grow b3); have HB3 := Lib.hid (HB2.out.trans (b3.mono hB2)); clear b3))
          go_roundw
          case rel => exact ⟨m + 1, _, _, by go_num, by omega, HM3.out, HU2.out, HF2.out, HB3.out⟩
          case measure => simp [intOf]; omega
        · have kk : (k : Int) % 4 = 2 := by omega
          clear hk4
          go_wp2_with (first
            | (go_at_call 8; refine (HPut.out _ _ _ HM1.out HF.out _ _ hne).mono ?_; rintro e w2 ⟨⟨c, rfl⟩, F2, hF2, hd⟩; obtain ⟨S2, m2, u2, b2⟩ := hd.up HU.out hB1; have HM2 := Lib.hid m2; have HU2 := Lib.hid u2; have HF2 := Lib.hid hF2; have HB2 := Lib.hid (HB1.out.trans b2); have hB2 := Nat.le_trans hB1 b2.size; clear m2 u2 hF2 hd b2)
            | (go_at_call 9; refine (HDrop.out _ _ _ HM1.out HF.out _ hne).mono ?_; rintro e w2 ⟨⟨c, d, rfl⟩, F2, hF2, hd⟩; obtain ⟨S2, m2, u2, b2⟩ := hd.up HU.out hB1; have HM2 := Lib.hid m2; have HU2 := Lib.hid u2; have HF2 := Lib.hid hF2; have HB2 := Lib.hid (HB1.out.trans b2); have hB2 := Nat.le_trans hB1 b2.size; clear m2 u2 hF2 hd b2)
            | (go_at_call 10; refine (HMove.out _ _ _ HM1.out HF.out _ _ hne).mono ?_; rintro e w2 ⟨⟨c, rfl⟩, F2, hF2, hd⟩; obtain ⟨S2, m2, u2, b2⟩ := hd.up HU.out hB1; have HM2 := Lib.hid m2; have HU2 := Lib.hid u2; have HF2 := Lib.hid hF2; have HB2 := Lib.hid (HB1.out.trans b2); have hB2 := Nat.le_trans hB1 b2.size; clear m2 u2 hF2 hd b2)
            | (go_at_call 11; refine (HFr.out _ _ _ HM2.out HF2.out).mono ?_; rintro e w3 ⟨rfl, b3⟩; have HM3 := Lib.hid (HM2.out.grow b3); have HB3 := Lib.hid (HB2.out.trans (b3.mono hB2)); clear b3))
          go_roundw
          case rel => exact ⟨m + 1, _, _, by go_num, by omega, HM3.out, HU2.out, HF2.out, HB3.out⟩
          case measure => simp [intOf]; omega
        · have kk : (k : Int) % 4 = 3 := by omega
          clear hk4
          go_wp2_with (first
            | (go_at_call 8; refine (HPut.out _ _ _ HM1.out HF.out _ _ hne).mono ?_; rintro e w2 ⟨⟨c, rfl⟩, F2, hF2, hd⟩; obtain ⟨S2, m2, u2, b2⟩ := hd.up HU.out hB1; have HM2 := Lib.hid m2; have HU2 := Lib.hid u2; have HF2 := Lib.hid hF2; have HB2 := Lib.hid (HB1.out.trans b2); have hB2 := Nat.le_trans hB1 b2.size; clear m2 u2 hF2 hd b2)
            | (go_at_call 9; refine (HDrop.out _ _ _ HM1.out HF.out _ hne).mono ?_; rintro e w2 ⟨⟨c, d, rfl⟩, F2, hF2, hd⟩; obtain ⟨S2, m2, u2, b2⟩ := hd.up HU.out hB1; have HM2 := Lib.hid m2; have HU2 := Lib.hid u2; have HF2 := Lib.hid hF2; have HB2 := Lib.hid (HB1.out.trans b2); have hB2 := Nat.le_trans hB1 b2.size; clear m2 u2 hF2 hd b2)
            | (go_at_call 10; refine (HMove.out _ _ _ HM1.out HF.out _ _ hne).mono ?_; rintro e w2 ⟨⟨c, rfl⟩, F2, hF2, hd⟩; obtain ⟨S2, m2, u2, b2⟩ := hd.up HU.out hB1; have HM2 := Lib.hid m2; have HU2 := Lib.hid u2; have HF2 := Lib.hid hF2; have HB2 := Lib.hid (HB1.out.trans b2); have hB2 := Nat.le_trans hB1 b2.size; clear m2 u2 hF2 hd b2)
            | (go_at_call 11; refine (HFr.out _ _ _ HM2.out HF2.out).mono ?_; rintro e w3 ⟨rfl, b3⟩; have HM3 := Lib.hid (HM2.out.grow b3); have HB3 := Lib.hid (HB2.out.trans (b3.mono hB2)); clear b3))
          go_roundw
          case rel => exact ⟨m + 1, _, _, by go_num, by omega, HM3.out, HU2.out, HF2.out, HB3.out⟩
          case measure => simp [intOf]; omega
    · obtain rfl : ps.length = m := by omega
      go_wp2_with (go_at_call 6; refine (lives_any _).mono ?_; rintro e w2 ⟨rfl, hb9⟩)
      go_ret
      exact ⟨rfl, seq hb hb9⟩
theorem stays_any (p f : Int) (hp0 : 0 ≤ p) (hp1 : p < 65536) (hf0 : 0 ≤ f) (hf1 : f < 65536) (a : Option Addr) (cap : Nat) (ps : List Act3) (w : World) (hP : Acts w a ps) :
    Calls Try.prog 3 #[.int .u16 p, .int .u16 f, .slice a ps.length cap] w fun e w' => e = .returned (.bool true) ∧ Below w.heap.size w w' := by
  by_cases hl : 200 < ps.length
  · exact stays_many p f a ps.length cap w hl hP.many
  · exact stays_walk p f hp0 hp1 hf0 hf1 a cap ps w (by omega) hP
end Go.Proofs.Ytkonpieebemfbaa
