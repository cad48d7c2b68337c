/- The law BumpPieces: its invariant, and its walk. -/
import Derived.Test.YtkcijlndblbidaaBumpLives
import Derived.Test.YtkcijlndblbidaaIntRow
namespace Go.Proofs.Ytkcijlndblbidaa
open Go.ChangeShapes Go.WideShapes Go.ChangeAt Go.RowKit
set_option linter.unusedVariables false

/-- no more frames are in use than pages of np are mapped -/
def Cov (np : Nat) (v : VS) : Prop := ∃ L : List Nat, L.Nodup ∧ (∀ p, p ∈ L → p < np ∧ v.mp p = true) ∧ L.length = v.used
theorem Cov.zero (np : Nat) : Cov np VS.zero := ⟨[], List.nodup_nil, by simp, rfl⟩
theorem Cov.both {np : Nat} {v : VS} {p k : Nat} {L : List Nat} (h1 : L.Nodup) (h2 : ∀ p, p ∈ L → p < np ∧ v.mp p = true) (hk : p + k ≤ np) : (L ++ newP v p k).Nodup ∧ ∀ q, q ∈ L ++ newP v p k → q < np := by
  refine ⟨?_, fun q hq => ?_⟩
  · rw [List.nodup_append]
    refine ⟨h1, newP_nodup v p k, fun a ha b hb e => ?_⟩
    have x := (h2 a ha).2
    have y := (newP_mem.1 hb).2
    rw [e, y] at x
    cases x
  · rw [List.mem_append] at hq
    rcases hq with hq | hq
    · exact (h2 q hq).1
    · have := (newP_mem.1 hq).1
      omega
theorem Cov.need {np : Nat} {v : VS} (h : Cov np v) {p k : Nat} (hk : p + k ≤ np) : v.used + (newP v p k).length ≤ np := by
  obtain ⟨L, h1, h2, h3⟩ := h
  obtain ⟨a, c⟩ := Cov.both (v := v) h1 h2 hk
  have := Fr.nodup_bound a c
  rw [List.length_append] at this
  omega
theorem Cov.map {np : Nat} {v : VS} (h : Cov np v) {p k : Nat} (hk : p + k ≤ np) (page : Nat) : Cov np (mapL page v (newP v p k)) := by
  obtain ⟨L, h1, h2, h3⟩ := h
  obtain ⟨a, c⟩ := Cov.both (v := v) h1 h2 hk
  refine ⟨L ++ newP v p k, a, fun q hq => ⟨c q hq, ?_⟩, by rw [mapL_used, List.length_append, h3]⟩
  rw [mapL_mp]
  rw [List.mem_append] at hq
  rcases hq with hq | hq
  · rw [(h2 q hq).2]; rfl
  · simp [hq]
/-- what was stored in the pieces is there -/
def PI (base at_ : Nat) (v : VS) : Prop := ∀ i, base ≤ i → i < at_ → v.mp (i / 16) = true ∧ v.wd i = i
theorem piece_alloc {base at_ n : Nat} {v : VS} (hc : Cov 256 v) (hp : PI base at_ v) (h1 : 1 ≤ n) (h2 : at_ + n ≤ 4096) :
    allocE 4096 16 256 v at_ 4096 n = 0 ∧ Cov 256 (allocV 4096 16 256 v at_ 4096 n) ∧ PI base at_ (allocV 4096 16 256 v at_ 4096 n) ∧ ∀ j, at_ ≤ j → j < at_ + n → (allocV 4096 16 256 v at_ 4096 n).mp (j / 16) = true := by
  have a1 : ¬ (n : Int) < 1 := by omega
  have a2 : ¬ ((4096 : Nat) : Int) - at_ < n := by omega
  have a3 : ¬ ((at_ : Int) < 0 ∨ ((4096 : Nat) : Int) < (at_ : Int) + n) := by omega
  have a4 : ¬ (at_ : Int) + n ≤ at_ := by omega
  have a5 : ((at_ : Int) + n).toNat - 1 = at_ + n - 1 := by omega
  unfold allocE allocV needE needV
  rw [if_neg a1, if_neg a1, if_neg a2, if_neg a2, if_neg a3, if_neg a3, if_neg a4, if_neg a4, Int.toNat_natCast, a5]
  have hk : at_ / 16 + ((at_ + n - 1) / 16 - at_ / 16 + 1) ≤ 256 := by omega
  have hfit := hc.need hk
  unfold needN needNV
  rw [if_pos hfit, if_pos hfit]
  refine ⟨rfl, hc.map hk 16, fun i hi hj => ?_, fun j hj hj2 => ?_⟩
  · obtain ⟨x, y⟩ := hp i hi hj
    rw [mapL_mp, mapL_wd, x]
    refine ⟨rfl, ?_⟩
    rw [if_neg (fun hm => by
      have := (newP_mem.1 hm).2
      rw [x] at this
      cases this)]
    exact y
  · rw [mapL_mp]
    cases hm : v.mp (j / 16) with
    | true => rfl
    | false =>
      have : j / 16 ∈ newP v (at_ / 16) ((at_ + n - 1) / 16 - at_ / 16 + 1) := newP_mem.2 ⟨by omega, hm⟩
      simp [this]
theorem piece_store {base x : Nat} {v : VS} (hp : PI base x v) (hm : v.mp (x / 16) = true) (hx : x < 4096) :
    loadE 4096 16 v x = 0 ∧ PI base (x + 1) (storeV 4096 16 v x x) ∧ (storeV 4096 16 v x x).mp = v.mp ∧ (storeV 4096 16 v x x).used = v.used := by
  have e : loadE 4096 16 v x = 0 := by
    unfold loadE
    rw [if_neg (by omega), Int.toNat_natCast, if_pos hm]
  refine ⟨e, ?_⟩
  unfold storeV
  rw [if_pos e, Int.toNat_natCast]
  refine ⟨fun i hi hj => ?_, rfl, rfl⟩
  show v.mp (i / 16) = true ∧ (if i = x then x else v.wd i) = i
  by_cases ex : i = x
  · rw [if_pos ex, ex]; exact ⟨hm, rfl⟩
  · rw [if_neg ex]; exact hp i hi (by omega)
theorem Cov.same {np : Nat} {v v' : VS} (h : Cov np v) (h1 : v'.mp = v.mp) (h2 : v'.used = v.used) : Cov np v' := by
  obtain ⟨L, a, c, d⟩ := h
  exact ⟨L, a, by rw [h1]; exact c, by rw [h2]; exact d⟩
theorem piece_load {base at_ i : Nat} {v : VS} (hp : PI base at_ v) (h1 : base ≤ i) (h2 : i < at_) (h3 : at_ ≤ 4096) : loadE 4096 16 v i = 0 ∧ loadW 4096 16 v i = i := by
  obtain ⟨x, y⟩ := hp i h1 h2
  have e : loadE 4096 16 v i = 0 := by
    unfold loadE
    rw [if_neg (by omega), Int.toNat_natCast, if_pos x]
  refine ⟨e, ?_⟩
  unfold loadW
  rw [if_pos e, Int.toNat_natCast, y]
set_option maxRecDepth 100000 in
theorem pieces_many (x : Int) (a : Option Addr) (len cap : Nat) (w : World) (hl : 100 < len) (hm : len ≤ maxLen) :
    Calls Try.prog 5 #[.int .u8 x, .slice a len cap] w fun e w' => e = .returned (.bool true) ∧ Below w.heap.size w w' := by
  unfold maxLen at hm
  have Hv := Lib.hid blives_any
  go_enter Try.func5, Try.ntmps5
  go_wp2_with (go_at_call 31; refine (Hv.out _).mono ?_; rintro e w2 ⟨rfl, hb⟩)
  go_ret
  exact ⟨rfl, hb⟩
set_option maxRecDepth 100000 in
set_option maxHeartbeats 8000000 in
theorem pieces_walk (base : Nat) (hb0 : base < 256) (a : Option Addr) (cap : Nat) (zs : List Int) (w : World) (hl : zs.length ≤ 100) (hP : IntRow .u8 w a zs) :
    Calls Try.prog 5 #[.int .u8 base, .slice a zs.length cap] w fun e w' => e = .returned (.bool true) ∧ Below w.heap.size w w' := by
  have HP := Lib.hid hP
  have q1 : decide (100 < (zs.length : Int)) = false := decide_eq_false (by omega)
  have Hnew := Lib.hid (new_vk 4096 16 256 w (by omega) (by omega) (by omega) (by unfold Fr.isPage; omega) (by omega) (by omega))
  have hbn := fun m W (h : VK w m 4096 16 256 0 VS.zero [] W) => new_bk h base 4096 (by unfold okR; omega)
  have Hbn := Lib.hid hbn
  have Hv := Lib.hid blives_any
  have hb1 : (base : Int) < 256 := by omega
  have hb2 : (0 : Int) ≤ base := by omega
  clear hP hbn
  go_enter Try.func5, Try.ntmps5
  go_wp2_with (first
    | (go_at_call 17; refine Hnew.out.mono ?_; rintro e w1 ⟨m, rfl, h⟩; have M := Lib.hid h; clear h Hnew)
    | (go_at_call 32; refine (Hbn.out _ _ M.out).mono ?_; rintro e w2 ⟨rfl, h⟩; clear M Hbn; have M := Lib.hid h; clear h))
  generalize w1.heap.size = r at *
  go_loopw [43, 9] (fun i p wr => ∃ (k at_ : Nat) (v : VS), i = .int .i64 k ∧ p = .int .i64 at_ ∧ k ≤ zs.length ∧ base ≤ at_ ∧ at_ ≤ 4096 ∧ BK w m r 4096 16 256 (256 * k) v base at_ 4096 [] wr ∧ Cov 256 v ∧ PI base at_ v) (fun i _ _ => zs.length - (intOf i).toNat)
  case atStart => exact ⟨0, base, VS.zero, rfl, rfl, by omega, by omega, by omega, M.out, Cov.zero _, fun i h1 h2 => by omega⟩
  case round =>
    clear M
    obtain ⟨k, at_, v, rfl, rfl, hm, hba, hat, hs, hcov, hpi⟩ := hrel
    have hb := hs.below
    have HS := Lib.hid hs
    have Hcov := Lib.hid hcov
    have Hpi := Lib.hid hpi
    clear hs hcov hpi
    by_cases hlt : k < zs.length
    · have hP2 := HP.out.below hb
      obtain ⟨b1, off, ha, hcell⟩ := hP2.cell
      obtain rfl : a = some ⟨b1, off, none⟩ := by
        rcases ha with rfl | ha
        · simp at hlt
        · exact ha
      have c0 := hcell k hlt
      have hz := bounds_u8 (hP2.each k hlt)
      clear hcell ha hP2 hb
      generalize zs.getD k 0 = z at *
      obtain ⟨n, rfl⟩ : ∃ n : Nat, z = n := ⟨z.toNat, by omega⟩
      have hn : n ≤ 255 := by omega
      have hn1 : (n : Int) ≤ 255 := by omega
      have hn0 : (0 : Int) ≤ n := by omega
      have hat1 : (at_ : Int) ≤ 4096 := by omega
      clear hz
      have hal := alloc_bk HS.out (by omega) (n : Int)
      by_cases h0 : n = 0
      · have e1 : allocE 4096 16 256 v at_ 4096 (n : Int) = 15 := by unfold allocE; rw [if_pos (by omega)]
        have e2 : allocV 4096 16 256 v at_ 4096 (n : Int) = v := by unfold allocV; rw [if_pos (by omega)]
        have e3 : allocT 4096 16 256 v at_ 4096 (n : Int) = at_ := by unfold allocT; rw [if_neg (by rw [e1]; decide)]
        have e4 : allocA 4096 16 256 v at_ 4096 (n : Int) = 0 := by unfold allocA; rw [if_neg (by rw [e1]; decide)]
        rw [e1, e2, e3, e4] at hal
        have Hal := Lib.hid hal
        clear hal e1 e2 e3 e4
        subst h0
        go_wp2_with (go_at_call 33; refine Hal.out.mono ?_; rintro e w3 ⟨rfl, h3⟩; have HS3 := Lib.hid h3; clear h3)
        go_roundw
        case rel => exact ⟨k + 1, at_, v, by go_num, rfl, by omega, hba, hat, HS3.out.more (by omega), Hcov.out, Hpi.out⟩
        case measure => simp [intOf]; omega
      · have hnz : ¬ (n : Int) = 0 := by omega
        have hnzb : ((n : Int) == 0) = false := by simp; omega
        by_cases hbig : 4096 - at_ < n
        · have e1 : allocE 4096 16 256 v at_ 4096 (n : Int) = 21 := by unfold allocE; rw [if_neg (by omega), if_pos (by omega)]
          have e2 : allocV 4096 16 256 v at_ 4096 (n : Int) = v := by unfold allocV; rw [if_neg (by omega), if_pos (by omega)]
          have e3 : allocT 4096 16 256 v at_ 4096 (n : Int) = at_ := by unfold allocT; rw [if_neg (by rw [e1]; decide)]
          have e4 : allocA 4096 16 256 v at_ 4096 (n : Int) = 0 := by unfold allocA; rw [if_neg (by rw [e1]; decide)]
          rw [e1, e2, e3, e4] at hal
          have Hal := Lib.hid hal
          have Htop := Lib.hid fun t W (h : BK w m r 4096 16 256 t v base at_ 4096 [] W) => top_bk h
          have hbig1 : 4096 - (at_ : Int) < n := by omega
          clear hal e1 e2 e3 e4 h0
          go_wp2_with (first | (go_at_call 33; refine Hal.out.mono ?_; rintro e w3 ⟨rfl, h3⟩; have HS3 := Lib.hid h3; clear h3) | (go_at_call 34; refine (Htop.out _ _ HS3.out).mono ?_; rintro e w4 ⟨rfl, rfl⟩))
          go_roundw
          case rel => exact ⟨k + 1, at_, v, by go_num, rfl, by omega, hba, hat, HS3.out.more (by omega), Hcov.out, Hpi.out⟩
          case measure => simp [intOf]; omega
        · obtain ⟨p1, p2, p3, p4⟩ := piece_alloc Hcov.out Hpi.out (show 1 ≤ n by omega) (show at_ + n ≤ 4096 by omega)
          have e3 : allocT 4096 16 256 v at_ 4096 (n : Int) = at_ + n := by unfold allocT; rw [if_pos p1, Int.toNat_natCast]
          have e4 : allocA 4096 16 256 v at_ 4096 (n : Int) = at_ := by unfold allocA; rw [if_pos p1]
          rw [p1, e3, e4] at hal
          generalize allocV 4096 16 256 v at_ 4096 (n : Int) = v1 at *
          have Hal := Lib.hid hal
          have P2 := Lib.hid p2
          have P3 := Lib.hid p3
          have P4 := Lib.hid p4
          have hbig1 : ¬ 4096 - (at_ : Int) < n := by omega
          clear hal p1 p2 p3 p4 e3 e4 h0
          obtain ⟨wo, rfl⟩ : ∃ wo : World, wo = wr := ⟨_, rfl⟩
          go_wp2_with (go_at_call 33; refine Hal.out.mono ?_; rintro e w3 ⟨rfl, h3⟩; have HS3 := Lib.hid h3; clear h3)
          go_loopw [80] (fun i wr => ∃ (j : Nat) (v2 : VS), i = .int .i64 j ∧ j ≤ n ∧ BK w m r 4096 16 256 (256 * k + 4096 / 16) v2 base (at_ + n) 4096 [] wr ∧ Cov 256 v2 ∧ PI base (at_ + j) v2 ∧ ∀ q, at_ ≤ q → q < at_ + n → v2.mp (q / 16) = true) (fun i _ => n - (intOf i).toNat)
          case atStart => exact ⟨0, v1, rfl, by omega, HS3.out, P2.out, P3.out, P4.out⟩
          case round =>
            clear HS3 P2 P3 P4
            obtain ⟨j, v2, rfl, hj, hs2, hcov2, hpi2, hmp2⟩ := hrel
            by_cases hjn : j < n
            · obtain ⟨s1, s2, s3, s4⟩ := piece_store hpi2 (hmp2 (at_ + j) (by omega) (by omega)) (by omega)
              have hst := store_vk hs2.vk ((at_ + j : Nat) : Int) (at_ + j) (by omega)
              rw [s1] at hst
              have hc3 := hcov2.same s3 s4
              rw [← s3] at hmp2
              have Hmp2 := Lib.hid hmp2
              have HS2 := Lib.hid hs2
              generalize storeV 4096 16 v2 ((at_ + j : Nat) : Int) (at_ + j) = v3 at *
              have Hst := Lib.hid hst
              have Hc3 := Lib.hid hc3
              have S2 := Lib.hid s2
              have hj1 : (j : Int) ≤ 255 := by omega
              clear hst hc3 s1 s2 s3 s4 hs2 hcov2 hpi2 hmp2
              go_wp2_with (go_at_call 19; refine Hst.out.mono ?_; rintro e w4 ⟨rfl, h4⟩; have HS4 := Lib.hid (HS2.out.with h4); clear h4)
              go_roundw
              case rel => exact ⟨j + 1, v3, by go_num, by omega, HS4.out, Hc3.out, S2.out, Hmp2.out⟩
              case measure => simp [intOf]; omega
            · obtain rfl : j = n := by omega
              have HS4 := Lib.hid hs2
              have Hc4 := Lib.hid hcov2
              have Hp4 := Lib.hid hpi2
              clear hs2 hcov2 hpi2 hmp2
              go_wp2
              go_roundw
              case rel => exact ⟨k + 1, at_ + j, v2, by go_num, by go_num, by omega, by omega, by omega, HS4.out.more (by omega), Hc4.out, Hp4.out⟩
              case measure => simp [intOf]; omega
    · obtain rfl : zs.length = k := by omega
      have hat1 : (at_ : Int) ≤ 4096 := by omega
      clear hb
      obtain ⟨wo, rfl⟩ : ∃ wo : World, wo = wr := ⟨_, rfl⟩
      go_wp2
      go_loopw [15] (fun i wr => ∃ (j : Nat), i = .int .i64 j ∧ base ≤ j ∧ j ≤ at_ ∧ BK w m r 4096 16 256 (256 * zs.length) v base at_ 4096 [] wr) (fun i _ => at_ - (intOf i).toNat)
      case atStart => exact ⟨base, rfl, by omega, hba, HS.out⟩
      case round =>
        clear HS
        obtain ⟨j, rfl, hj1, hj2, hs2⟩ := hrel
        have hb9 := hs2.below
        have HS2 := Lib.hid hs2
        clear hs2
        by_cases hja : j < at_
        · have hld := load_vk HS2.out.vk (j : Int)
          obtain ⟨l1, l2⟩ := piece_load Hpi.out hj1 hja hat
          rw [l1, l2] at hld
          have Hld := Lib.hid hld
          have hj3 : (j : Int) ≤ 4096 := by omega
          clear hld l1 l2 hb9
          go_wp2_with (go_at_call 24; refine Hld.out.mono ?_; rintro e w4 ⟨rfl, h4⟩; have HS4 := Lib.hid (HS2.out.with h4); clear h4)
          go_roundw
          case rel => exact ⟨j + 1, by go_num, by omega, by omega, HS4.out⟩
          case measure => simp [intOf]; omega
        · obtain rfl : j = at_ := by omega
          have Htop := Lib.hid (top_bk HS2.out)
          go_wp2_with (first | (go_at_call 34; refine Htop.out.mono ?_; rintro e w4 ⟨rfl, rfl⟩) | (go_at_call 31; refine (Hv.out _).mono ?_; rintro e w5 ⟨rfl, hb5⟩))
          go_ret
          exact ⟨rfl, seq hb9 hb5⟩
theorem pieces_any (x : Int) (hx0 : 0 ≤ x) (hx : x ≤ 255) (a : Option Addr) (cap : Nat) (zs : List Int) (w : World) (hP : IntRow .u8 w a zs) :
    Calls Try.prog 5 #[.int .u8 x, .slice a zs.length cap] w fun e w' => e = .returned (.bool true) ∧ Below w.heap.size w w' := by
  by_cases hl : 100 < zs.length
  · exact pieces_many x a zs.length cap w hl hP.many
  · obtain ⟨x, rfl⟩ : ∃ n : Nat, x = n := ⟨x.toNat, by omega⟩
    exact pieces_walk x (by omega) a cap zs w (by omega) hP
end Go.Proofs.Ytkcijlndblbidaa
