/- The walks of masks.Up and of a memory's Free. -/
import Derived.Test.YtkcijlndblbidaaVNeed
namespace Go.Proofs.Ytkcijlndblbidaa
open Go.ChangeShapes Go.WideShapes Go.ChangeAt Go.RowKit
set_option linter.unusedVariables false

theorem low_cleared (k x : Nat) (hk : k ≤ 64) (hx : x < 2 ^ 64) : x &&& (2 ^ 64 - 1 - (2 ^ k - 1)) = x / 2 ^ k * 2 ^ k := by
  have h1 : 1 ≤ 2 ^ k := Nat.one_le_two_pow
  have h2 : 2 ^ k ≤ 2 ^ 64 := Nat.pow_le_pow_right (by omega) hk
  have e1 : 2 ^ 64 - 1 - (2 ^ k - 1) = 2 ^ 64 - ((2 ^ k - 1) + 1) := by omega
  rw [e1, ← Nat.shiftRight_eq_div_pow, ← Nat.shiftLeft_eq]
  apply Nat.eq_of_testBit_eq
  intro i
  rw [Nat.testBit_and, Nat.testBit_two_pow_sub_succ (by omega), Nat.testBit_two_pow_sub_one, Nat.testBit_shiftLeft, Nat.testBit_shiftRight]
  by_cases hi : i < 64
  · by_cases hk2 : k ≤ i
    · have : k + (i - k) = i := by omega
      simp [hi, hk2, this, Nat.not_lt.2 hk2]
    · have : i < k := by omega
      simp [hi, hk2, this]
  · have h3 : x.testBit i = false := Nat.testBit_lt_two_pow (Nat.lt_of_lt_of_le hx (Nat.pow_le_pow_right (by omega) (by omega)))
    by_cases hk2 : k ≤ i
    · have : k + (i - k) = i := by omega
      simp [hi, h3, this]
    · simp [hi, h3, hk2]
theorem page_pow {page : Nat} (h : Fr.isPage page) : ∃ k, k ≤ 8 ∧ page = 2 ^ k := by
  unfold Fr.isPage at h
  rcases h with h | h | h | h | h | h | h | h | h
  · exact ⟨0, by omega, by omega⟩
  · exact ⟨1, by omega, by omega⟩
  · exact ⟨2, by omega, by omega⟩
  · exact ⟨3, by omega, by omega⟩
  · exact ⟨4, by omega, by omega⟩
  · exact ⟨5, by omega, by omega⟩
  · exact ⟨6, by omega, by omega⟩
  · exact ⟨7, by omega, by omega⟩
  · exact ⟨8, by omega, by omega⟩
theorem up_bits {page n : Nat} (h : Fr.isPage page) (hn : n ≤ 1000000) : bits .andNot .i64 ((n : Int) + page - 1) ((page : Int) - 1) = (((n + page - 1) / page * page : Nat) : Int) := by
  have hp := Fr.isPage_le h
  obtain ⟨k, hk, hpk⟩ := page_pow h
  have e1 : (n : Int) + page - 1 = ((n + page - 1 : Nat) : Int) := by omega
  have e2 : (page : Int) - 1 = ((page - 1 : Nat) : Int) := by omega
  rw [e1, e2]
  have key := low_cleared k (n + page - 1) (by omega) (by omega)
  rw [← hpk] at key
  show IntKind.i64.wrap ((BitVec.ofInt 64 ((n + page - 1 : Nat) : Int) &&& ~~~BitVec.ofInt 64 ((page - 1 : Nat) : Int)).toNat : Int) = _
  rw [BitVec.toNat_and, BitVec.toNat_not, ofInt_u64 _ (by omega), ofInt_u64 _ (by omega), key]
  have hle := Nat.div_mul_le_self (n + page - 1) page
  exact IntWalk.i64_in _ (by omega)
set_option maxRecDepth 100000 in
theorem fits_any (n : Nat) (page : Nat) (h : Fr.isPage page) (hn : n ≤ 1000000) (w : World) :
    Calls Try.prog 151 #[.int .i64 n, .int .i64 page] w fun e w' => e = .returned (.bool true) ∧ w = w' := by
  have hp := Fr.isPage_le h
  have Hpw := Fr.power_any page w (by omega)
  rw [Fr.powB_page _ (by omega), (Fr.pageB_iff _).2 h] at Hpw
  replace Hpw := Lib.hid Hpw
  have h1 : (page : Int) ≤ 256 := by omega
  have h3 : (0 : Int) ≤ n := by omega
  have h4 : (n : Int) ≤ 1000000 := by omega
  have q1 : decide ((page : Int) ≤ 1073741824) = true := decide_eq_true (by omega)
  have q2 : decide ((n : Int) ≤ 1152921504606846976) = true := decide_eq_true (by omega)
  have q3 : decide ((0 : Int) ≤ n) = true := decide_eq_true (by omega)
  clear h hp
  go_enter Try.func151, Try.ntmps151
  go_wp2_with (go_at_call 143; refine Hpw.out.mono ?_; rintro e w1 ⟨rfl, rfl⟩)
  go_ret
  exact ⟨rfl, rfl⟩
set_option maxRecDepth 100000 in
theorem up_any (n : Nat) (page : Nat) (h : Fr.isPage page) (hn : n ≤ 1000000) (w : World) :
    Calls Try.prog 110 #[.int .i64 n, .int .i64 page] w fun e w' => e = .returned (.int .i64 ((n + page - 1) / page * page : Nat)) ∧ w = w' := by
  have hp := Fr.isPage_le h
  have Hf := Lib.hid (fits_any n page h hn w)
  have hub := up_bits h hn
  have h1 : (page : Int) ≤ 256 := by omega
  have h2 : (1 : Int) ≤ page := by omega
  have h3 : (0 : Int) ≤ n := by omega
  have h4 : (n : Int) ≤ 1000000 := by omega
  generalize (((n + page - 1) / page * page : Nat) : Int) = r at *
  clear h hp
  go_enter Try.func110, Try.ntmps110
  go_wp2_with (go_at_call 151; refine Hf.out.mono ?_; rintro e w1 ⟨rfl, rfl⟩)
  go_ret
  exact ⟨rfl, rfl⟩
/-- unmapping k pages from p on: how many were mapped, and what is left -/
def freeGo (v : VS) (p : Nat) : Nat → Nat × VS
  | 0 => (0, v)
  | k + 1 => if v.mp (p + k) = true then ((freeGo v p k).1 + 1, unmapV (freeGo v p k).2 (p + k)) else freeGo v p k
theorem freeGo_mp (v : VS) (p k q : Nat) : (freeGo v p k).2.mp q = if p ≤ q ∧ q < p + k then false else v.mp q := by
  induction k with
  | zero => rw [if_neg (by omega)]; rfl
  | succ k ih =>
    unfold freeGo
    by_cases h : v.mp (p + k) = true
    · rw [if_pos h]
      show (if q = p + k then false else (freeGo v p k).2.mp q) = _
      rw [ih]
      by_cases e : q = p + k
      · rw [if_pos e, if_pos (by omega)]
      · rw [if_neg e]
        by_cases e2 : p ≤ q ∧ q < p + k
        · rw [if_pos e2, if_pos (by omega)]
        · rw [if_neg e2, if_neg (by omega)]
    · rw [if_neg h, ih]
      by_cases e : q = p + k
      · rw [if_neg (by omega), if_pos (by omega), e]
        simpa using h
      · by_cases e2 : p ≤ q ∧ q < p + k
        · rw [if_pos e2, if_pos (by omega)]
        · rw [if_neg e2, if_neg (by omega)]
theorem freeGo_le (v : VS) (p k : Nat) : (freeGo v p k).1 ≤ k := by
  induction k with
  | zero => exact Nat.le_refl _
  | succ k ih =>
    unfold freeGo
    split
    · show (freeGo v p k).1 + 1 ≤ k + 1
      omega
    · omega
def clampN (words : Nat) (a : Int) : Nat := (min (max a 0) (words : Int)).toNat
/-- the first page that lies wholly behind an address, and the page behind the last that lies wholly ahead of one -/
def pagesOf (words page : Nat) (a b : Int) : Nat × Nat := ((clampN words a + page - 1) / page, clampN words b / page)
def freeR (words page : Nat) (v : VS) (a b : Int) : Nat × VS := freeGo v (pagesOf words page a b).1 ((pagesOf words page a b).2 - (pagesOf words page a b).1)
theorem clamp_eq (words : Nat) (a : Int) : (if (words : Int) < (if a < 0 then 0 else a) then (words : Int) else (if a < 0 then 0 else a)) = clampN words a ∧ clampN words a ≤ words := by
  unfold clampN
  constructor
  · split <;> split <;> omega
  · omega
set_option maxRecDepth 100000 in
set_option maxHeartbeats 1000000 in
theorem free_vm (S0 : Nat → Prop) (m words page room t : Nat) (v : VS) (w : World) (h : Vm S0 m words page room t v w) (a b : Int) :
    Calls Try.prog 23 #[.pointer (some ⟨m, 0, none⟩), .int .i64 a, .int .i64 b] w fun e w' => e = .returned (.int .i64 (freeR words page v a b).1) ∧ VDid S0 m words page room t (freeR words page v a b).2 w w' := by
  have hpow := h.isPage
  obtain ⟨hwd, hmod, hpg, hrm, husd, hhi⟩ := h.dims
  have HV := Lib.hid h
  obtain ⟨mb, pb, s, F, hR, -⟩ := h
  obtain ⟨c0, c1, c2⟩ := hR.cells
  have Hnone := Lib.hid (none_cells m mb _ c0)
  have Hpage := Lib.hid (page_raw hR)
  obtain ⟨ea, la⟩ := clamp_eq words a
  obtain ⟨eb, lb⟩ := clamp_eq words b
  have Hup := Lib.hid (up_any (clampN words a) page hpow (by omega) w)
  have hdv : (((clampN words a + page - 1) / page * page : Nat) : Int) / (page : Int) = (((clampN words a + page - 1) / page : Nat) : Int) := by
    rw [← Int.natCast_ediv, Nat.mul_div_cancel _ (by omega)]
  have hdw : ((clampN words b : Nat) : Int) / (page : Int) = ((clampN words b / page : Nat) : Int) := rfl
  have hf1 : (clampN words a + page - 1) / page ≤ 1000000 := by have := Nat.div_le_self (clampN words a + page - 1) page; omega
  have hf2 : clampN words b / page ≤ words / page := Nat.div_le_div_right lb
  have hf3 : (clampN words a + page - 1) / page * page ≤ 1000000 := by have := Nat.div_mul_le_self (clampN words a + page - 1) page; omega
  have hnp : words / page ≤ 1000000 := by have := Nat.div_le_self words page; omega
  unfold freeR pagesOf
  generalize clampN words a = xa at *
  generalize clampN words b = xb at *
  obtain ⟨r, hr⟩ : ∃ r, (xa + page - 1) / page * page = r := ⟨_, rfl⟩
  rw [hr] at Hup hdv hf3
  generalize (xa + page - 1) / page = p0 at *
  generalize xb / page = p1 at *
  obtain ⟨pi, hpi⟩ : ∃ pi : Int, (page : Int) = pi := ⟨_, rfl⟩
  rw [hpi] at Hpage hdv hdw Hup
  have k1 : (0 : Int) ≤ r := by omega
  have k2 : (r : Int) ≤ 1000000 := by omega
  have k3 : 1 ≤ pi := by omega
  have k4 : pi ≤ 256 := by omega
  have k5 : (0 : Int) ≤ xb := by omega
  have k6 : (xb : Int) ≤ 1000000 := by omega
  clear hR hpi hr hpow
  go_enter Try.func23, Try.ntmps23
  go_wp2_with (first | (go_at_call 99; refine Hnone.out.mono ?_; rintro e w1 ⟨rfl, rfl⟩) | (go_at_call 101; refine Hpage.out.mono ?_; rintro e w1 ⟨rfl, rfl⟩) | (go_at_call 110; refine Hup.out.mono ?_; rintro e w1 ⟨rfl, rfl⟩))
  all_goals
    clear ea eb hdv hdw c0 c1 c2
    go_loopw [10, 11] (fun n i wr => ∃ (k : Nat) (S : Nat → Prop), n = .int .i64 ((freeGo v p0 k).1 : Nat) ∧ i = .int .i64 ((p0 + k : Nat) : Int) ∧ k ≤ p1 - p0 ∧ Vm S m words page room t (freeGo v p0 k).2 wr ∧ Chg S0 w wr ∧ Grew S0 S w) (fun _ i _ => p1 - (intOf i).toNat)
    case atStart => exact ⟨0, S0, rfl, rfl, by omega, HV.out, Chg.refl _ _, Grew.refl _ _⟩
    case round =>
      obtain ⟨k, S, rfl, rfl, hk, hV, hc, hg⟩ := hrel
      have hle := freeGo_le v p0 k
      by_cases hlt : p0 + k < p1
      · have hun := unmap_vm S m words page room t (freeGo v p0 k).2 wr hV ((p0 + k : Nat) : Int)
        have hmp : (freeGo v p0 k).2.mp (p0 + k) = v.mp (p0 + k) := by rw [freeGo_mp, if_neg (by omega)]
        unfold unmapS unmapE at hun
        rw [if_neg (Classical.not_not.2 ⟨Int.natCast_nonneg _, by omega⟩), Int.toNat_natCast, hmp] at hun
        have hs := show freeGo v p0 (k + 1) = if v.mp (p0 + k) = true then ((freeGo v p0 k).1 + 1, unmapV (freeGo v p0 k).2 (p0 + k)) else freeGo v p0 k from rfl
        have hl1 : ((p0 + k : Nat) : Int) < p1 := by omega
        have hl2 : (p0 : Int) + k < p1 := by omega
        have Hc := Lib.hid hc
        have Hg := Lib.hid hg
        have hk7 : p0 + k ≤ 1000000 := by omega
        by_cases hm : v.mp (p0 + k) = true
        · rw [if_pos hm, if_pos rfl] at hun
          rw [if_pos hm] at hs
          have Hs := Lib.hid hs
          have Hun := Lib.hid hun
          generalize hgo : (freeGo v p0 k).1 = cnt at *
          have Hgo := Lib.hid hgo
          clear hun hs hm hmp hV hc hg hgo
          go_wp2_with (go_at_call 21; refine Hun.out.mono ?_; rintro e w1 ⟨rfl, hd⟩; have Hd := Lib.hid hd; clear hd)
          go_roundw
          case rel =>
            obtain ⟨S', k1, k2, k3⟩ := Hd.out
            exact ⟨k + 1, S', by rw [Hs.out]; go_num, by go_num, by omega, by rw [Hs.out]; exact k1, Hc.out.then k2 Hg.out, Hg.out.trans k3 Hc.out.size⟩
          case measure => simp [intOf]; omega
        · rw [if_neg hm, if_neg (by decide)] at hun
          rw [if_neg hm] at hs
          have Hs := Lib.hid hs
          have Hun := Lib.hid hun
          generalize hgo : (freeGo v p0 k).1 = cnt at *
          have Hgo := Lib.hid hgo
          clear hun hs hm hmp hV hc hg hgo
          go_wp2_with (go_at_call 21; refine Hun.out.mono ?_; rintro e w1 ⟨rfl, hd⟩; have Hd := Lib.hid hd; clear hd)
          go_roundw
          case rel =>
            obtain ⟨S', k1, k2, k3⟩ := Hd.out
            exact ⟨k + 1, S', by rw [Hs.out, Hgo.out], by go_num, by omega, by rw [Hs.out]; exact k1, Hc.out.then k2 Hg.out, Hg.out.trans k3 Hc.out.size⟩
          case measure => simp [intOf]; omega
      · obtain rfl : k = p1 - p0 := by omega
        have hl1 : ¬ ((p0 + (p1 - p0) : Nat) : Int) < p1 := by omega
        have HN := Lib.hid (show VDid S0 m words page room t (freeGo v p0 (p1 - p0)).2 w wr from ⟨S, hV, hc, hg⟩)
        generalize hx : p0 + (p1 - p0) = x at *
        clear hV hc hg hx
        go_wp2
        go_ret
        exact ⟨rfl, HN.out⟩
end Go.Proofs.Ytkcijlndblbidaa
