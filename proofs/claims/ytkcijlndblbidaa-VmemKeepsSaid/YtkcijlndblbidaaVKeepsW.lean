/- The walk of the law VmemKeeps. -/
import Derived.Test.YtkcijlndblbidaaVActs
import Derived.Deep.QuietTactic
import Derived.BigQuiet
import Derived.IntWalk
namespace Go.Proofs.Ytkcijlndblbidaa.A9
open Go.ChangeShapes Go.WideShapes Go.ChangeAt Go.RowKit
set_option linter.unusedVariables false

def Kept (x y : Nat) (v : VS) : Prop := v.mp (x / 16) = true ∧ v.wd x = y
theorem Kept.map {x y : Nat} {v : VS} (h : Kept x y v) {p : Nat} (hp : p ≠ x / 16) (np room : Nat) : Kept x y (mapS np 16 room v p) := by
  unfold mapS
  split
  · rw [Int.toNat_natCast]
    refine ⟨?_, ?_⟩
    · show (if x / 16 = p then true else v.mp (x / 16)) = true
      rw [h.1]; simp
    · show (if x / 16 = p then 0 else v.wd x) = y
      rw [if_neg (fun e => hp e.symm)]; exact h.2
  · exact h
theorem Kept.unmap {x y : Nat} {v : VS} (h : Kept x y v) {p : Nat} (hp : p ≠ x / 16) (np : Nat) : Kept x y (unmapS np v p) := by
  unfold unmapS
  split
  · rw [Int.toNat_natCast]
    refine ⟨?_, h.2⟩
    show (if x / 16 = p then false else v.mp (x / 16)) = true
    rw [if_neg (fun e => hp e.symm)]; exact h.1
  · exact h
theorem Kept.move {x y : Nat} {v : VS} (h : Kept x y v) {p : Nat} (hp : p ≠ x / 16) (q np : Nat) : Kept x y (moveS np 16 v p q) := by
  unfold moveS
  split
  · rename_i h0
    rw [Int.toNat_natCast, Int.toNat_natCast]
    have hq : q ≠ x / 16 := fun e => by
      unfold moveE at h0
      rw [Int.toNat_natCast, Int.toNat_natCast] at h0
      split at h0
      · cases h0
      · split at h0
        · cases h0
        · rw [if_pos (by rw [e]; exact h.1)] at h0; cases h0
    refine ⟨?_, ?_⟩
    · show (if x / 16 = q then true else if x / 16 = p then false else v.mp (x / 16)) = true
      rw [if_neg (fun e => hq e.symm), if_neg (fun e => hp e.symm)]; exact h.1
    · show (if x / 16 = q then _ else v.wd x) = y
      rw [if_neg (fun e => hq e.symm)]; exact h.2
  · exact h
theorem Kept.store {x y : Nat} {v : VS} (h : Kept x y v) {p : Nat} (hp : p ≠ x / 16) {b : Nat} (hb : b / 16 = p) (words z : Nat) : Kept x y (storeV words 16 v b z) := by
  unfold storeV
  split
  · rw [Int.toNat_natCast]
    refine ⟨h.1, ?_⟩
    show (if x = b then z else v.wd x) = y
    rw [if_neg (by rintro rfl; exact hp hb.symm)]; exact h.2
  · exact h
theorem freeGo_wd (v : VS) (p k : Nat) : (freeGo v p k).2.wd = v.wd := by
  induction k with
  | zero => rfl
  | succ k ih =>
    unfold freeGo
    split
    · exact ih
    · exact ih
theorem Kept.free {x y : Nat} {v : VS} (h : Kept x y v) {p : Nat} (hp : p ≠ x / 16) (hp2 : p < 4096) : Kept x y (freeR 65536 16 v (16 * p : Nat) (16 * p + 16 : Nat)).2 := by
  have e : pagesOf 65536 16 ((16 * p : Nat) : Int) ((16 * p + 16 : Nat) : Int) = (p, p + 1) := by
    unfold pagesOf clampN
    ext <;> simp <;> omega
  unfold freeR
  rw [e]
  refine ⟨?_, ?_⟩
  · rw [freeGo_mp, if_neg (by simp only []; omega)]; exact h.1
  · rw [freeGo_wd]; exact h.2
theorem keeps_need (x : Nat) (hx : x < 65536) : needE 65536 16 100 VS.zero x ((x : Int) + 1) = 0 ∧ (needV 65536 16 100 VS.zero x ((x : Int) + 1)).mp (x / 16) = true := by
  have h1 : ¬ ((x : Int) < 0 ∨ ((65536 : Nat) : Int) < (x : Int) + 1) := by omega
  have h2 : ¬ (x : Int) + 1 ≤ x := by omega
  have e1 : ((x : Int) + 1).toNat = x + 1 := by omega
  unfold needE needV
  rw [if_neg h1, if_neg h1, if_neg h2, if_neg h2, Int.toNat_natCast, e1, Nat.add_sub_cancel, Nat.sub_self]
  have h3 : newP VS.zero (x / 16) (0 + 1) = [x / 16] := by
    simp [newP, VS.zero]
  unfold needN needNV
  rw [h3, if_pos (by simp [VS.zero]), if_pos (by simp [VS.zero])]
  refine ⟨rfl, ?_⟩
  rw [mapL_mp]
  simp
theorem keeps_store (x y : Nat) (hx : x < 65536) {v : VS} (h : v.mp (x / 16) = true) : loadE 65536 16 v x = 0 ∧ Kept x y (storeV 65536 16 v x y) := by
  have e : loadE 65536 16 v x = 0 := by
    unfold loadE
    rw [if_neg (by omega), Int.toNat_natCast, if_pos h]
  refine ⟨e, ?_⟩
  unfold storeV
  rw [if_pos e, Int.toNat_natCast]
  exact ⟨h, by show (if x = x then y else v.wd x) = y; rw [if_pos rfl]⟩
theorem Kept.load {x y : Nat} {v : VS} (h : Kept x y v) (hx : x < 65536) : loadE 65536 16 v x = 0 ∧ loadW 65536 16 v x = y := by
  have e : loadE 65536 16 v x = 0 := by
    unfold loadE
    rw [if_neg (by omega), Int.toNat_natCast, if_pos h.1]
  refine ⟨e, ?_⟩
  unfold loadW
  rw [if_pos e, Int.toNat_natCast]
  exact h.2
theorem mod12 (z : Int) : ∃ p : Nat, IntKind.i64.wrap ((IntKind.u64.wrap z).tmod 4096) = p ∧ p < 4096 := by
  have h : 0 ≤ IntKind.u64.wrap z ∧ IntKind.u64.wrap z < 18446744073709551616 := by rw [IntKind.wrap_u64]; omega
  obtain ⟨h1, h2⟩ := h
  generalize IntKind.u64.wrap z = y at *
  rw [Int.tmod_eq_emod_of_nonneg h1]
  refine ⟨(y % 4096).toNat, ?_, by omega⟩
  rw [show IntKind.i64.wrap (y % 4096) = y % 4096 from IntWalk.i64_in _ (by omega)]
  omega
set_option maxRecDepth 100000 in
theorem keeps_many (x y : Int) (a : Option Addr) (len cap : Nat) (w : World) (hl : 150 < len) (hm : len ≤ maxLen) :
    Calls Try.prog 3 #[.int .u16 x, .int .u64 y, .slice a len cap] w fun e w' => e = .returned (.bool true) ∧ Below w.heap.size w w' := by
  unfold maxLen at hm
  have Hv := Lib.hid vlives_any
  go_enter Try.func3, Try.ntmps3
  go_wp2_with (go_at_call 16; refine (Hv.out _).mono ?_; rintro e w2 ⟨rfl, hb⟩)
  go_ret
  exact ⟨rfl, hb⟩
set_option maxRecDepth 100000 in
set_option maxHeartbeats 8000000 in
theorem keeps_walk (x y : Nat) (hx : x < 65536) (hy : y < 18446744073709551616) (a : Option Addr) (cap : Nat) (ps : List Act) (w : World) (hl : ps.length ≤ 150) (hP : Acts w a ps) :
    Calls Try.prog 3 #[.int .u16 x, .int .u64 y, .slice a ps.length cap] w fun e w' => e = .returned (.bool true) ∧ Below w.heap.size w w' := by
  have HP := Lib.hid hP
  have q1 : decide (150 < (ps.length : Int)) = false := decide_eq_false (by omega)
  obtain ⟨xq, hxq⟩ : ∃ xq, x / 16 = xq := ⟨_, rfl⟩
  have hxi : (x : Int) / 16 = xq := by omega
  have hxq9 : xq ≤ 4096 := by omega
  have Hxq := Lib.hid hxq
  have Hxi := Lib.hid hxi
  clear hxq hxi
  have Hnew := Lib.hid (new_vk 65536 16 100 w (by omega) (by omega) (by omega) (by unfold Fr.isPage; omega) (by omega) (by omega))
  obtain ⟨hn1, hn2⟩ := keeps_need x hx
  have hneed := fun m W (h : VK w m 65536 16 100 0 VS.zero [] W) => need_vk h (by omega) x ((x : Int) + 1)
  rw [hn1] at hneed
  generalize needV 65536 16 100 VS.zero (x : Int) ((x : Int) + 1) = v1 at *
  obtain ⟨hs1, hs2⟩ := keeps_store x y hx hn2
  have hstore := fun m W t (h : VK w m 65536 16 100 t v1 [] W) => store_vk h x y hy
  rw [hs1] at hstore
  generalize storeV 65536 16 v1 (x : Int) y = v2 at *
  have Hneed := Lib.hid hneed
  have Hstore := Lib.hid hstore
  have Hkept := Lib.hid hs2
  have Hv := Lib.hid vlives_any
  clear hP hn1 hn2 hneed hs1 hs2 hstore
  go_enter Try.func3, Try.ntmps3
  go_wp2_with (first
    | (go_at_call 17; refine Hnew.out.mono ?_; rintro e w1 ⟨m, rfl, h⟩; have M := Lib.hid h; clear h Hnew)
    | (go_at_call 18; refine (Hneed.out _ _ M.out).mono ?_; rintro e w2 ⟨rfl, h⟩; clear M Hneed; have M := Lib.hid h; clear h)
    | (go_at_call 19; refine (Hstore.out _ _ _ M.out).mono ?_; rintro e w2 ⟨rfl, h⟩; clear M Hstore; have M := Lib.hid h; clear h))
  go_loopw [45] (fun i wr => ∃ (k : Nat) (v : VS), i = .int .i64 k ∧ k ≤ ps.length ∧ VK w m 65536 16 100 (4096 + k) v [] wr ∧ Kept x y v) (fun i _ => ps.length - (intOf i).toNat)
  case atStart => exact ⟨0, v2, rfl, by omega, M.out, Hkept.out⟩
  case round =>
    clear M Hkept
    obtain ⟨k, v, rfl, hm, hs, hkept⟩ := hrel
    have hb := hs.below
    by_cases hlt : k < ps.length
    · have hP2 := HP.out.below hb
      obtain ⟨b1, off, ha, hcell⟩ := hP2.cell
      obtain rfl : a = some ⟨b1, off, none⟩ := by
        rcases ha with rfl | ha
        · simp at hlt
        · exact ha
      obtain ⟨c0, c1, c2, c3⟩ := hcell k hlt
      have hact := hP2.each k hlt
      clear hcell ha hP2 hb
      generalize ps.getD k default = q at *
      obtain ⟨kd, pa, pb, px⟩ := q
      obtain ⟨hkd, hpa, hpb, hpx⟩ := hact
      simp only at *
      have hbx := hs.box #[.int .u8 kd, .int .i64 pa, .int .i64 pb, .int .u64 px] 33
      have hblk := hbx.block (List.mem_cons_self ..)
      have d0 := at_cell hblk 0 _ rfl
      have d1 := at_cell hblk 1 _ rfl
      have d2 := at_cell hblk 2 _ rfl
      have d3 := at_cell hblk 3 _ rfl
      have HS := Lib.hid hbx
      have Hkept := Lib.hid hkept
      clear hs hbx hkept hblk
      obtain ⟨p, hp, hp4⟩ := mod12 pa
      obtain ⟨q, hq, hq4⟩ := mod12 pb
      have Hp := Lib.hid hp
      have Hq := Lib.hid hq
      clear hp hq
      go_wp2
      have hp := Hp.out
      have hq := Hq.out
      go_quiet (fail)
      clear hp hq
      have HS2 := Lib.hid (HS.out.drewN nq)
      generalize (wr.alloc (.cells #[.int .u8 kd, .int .i64 pa, .int .i64 pb, .int .u64 px] 33)).drewN nq = W at *
      have hblk := HS2.out.block (List.mem_cons_self ..)
      clear HS d0 d1 d2 d3 c0 c1 c2 c3
      have d0 := at_cell hblk 0 _ rfl
      have d3 := at_cell hblk 3 _ rfl
      clear hblk
      have hxi := Hxi.out
      have e4 : (p : Int) ≤ 4096 := by omega
      have e5 : (q : Int) ≤ 4096 := by omega
      have hload := fun W t v (h : VK w m 65536 16 100 t v [(wr.heap.size, .cells #[.int .u8 kd, .int .i64 pa, .int .i64 pb, .int .u64 px] 33 (0, 0))] W) => load_vk h x
      have Hload := Lib.hid hload
      clear hload
      by_cases hpx2 : p = xq
      · have hbq : ((p : Int) == xq) = true := by rw [hpx2]; simp
        clear hpx2
        go_wp2
        go_roundw
        case rel => exact ⟨k + 1, v, by go_num, by omega, (HS2.out.tail).more (by omega), Hkept.out⟩
        case measure => simp [intOf]; omega
      · have hbq : ((p : Int) == xq) = false := by simp; omega
        have Hne := Lib.hid (show p ≠ x / 16 by rw [Hxq.out]; exact hpx2)
        clear hpx2
        have hk8 : ((kd : Int) % 8 = 0 ∨ (kd : Int) % 8 = 5) ∨ (kd : Int) % 8 = 1 ∨ (kd : Int) % 8 = 2 ∨ (kd : Int) % 8 = 6 ∨ ((kd : Int) % 8 = 3 ∨ (kd : Int) % 8 = 4 ∨ (kd : Int) % 8 = 7) := by omega
        rcases hk8 with hk8 | hk8 | hk8 | hk8 | hk8
        · obtain ⟨v', hv'⟩ : ∃ v', mapS (65536 / 16) 16 100 v (p : Int) = v' := ⟨_, rfl⟩
          have hop := map_vk HS2.out (by omega) (p : Int)
          rw [hv'] at hop
          have hk2 := Hkept.out.map Hne.out (65536 / 16) 100
          rw [hv'] at hk2
          obtain ⟨E, hE⟩ : ∃ E, mapE (65536 / 16) 100 v (p : Int) = E := ⟨_, rfl⟩
          rw [hE] at hop
          obtain ⟨l1, l2⟩ := hk2.load hx
          have hld := fun W t (h : VK w m 65536 16 100 t v' [(wr.heap.size, .cells #[.int .u8 kd, .int .i64 pa, .int .i64 pb, .int .u64 px] 33 (0, 0))] W) => load_vk h x
          rw [l1, l2] at hld
          have Hop := Lib.hid hop
          have Hk2 := Lib.hid hk2
          have Hld := Lib.hid hld
          clear hop hk2 hld hE hv' l1 l2 HS2 Hload
          rcases hk8 with hk8 | hk8
          all_goals
            go_wp2_with (first | (go_at_call 20; refine Hop.out.mono ?_; rintro e w5 ⟨rfl, h5⟩; have HS5 := Lib.hid h5; clear h5) | (go_at_call 24; refine (Hld.out _ _ HS5.out).mono ?_; rintro e w6 ⟨rfl, h6⟩; have HS6 := Lib.hid h6; clear h6))
            go_roundw
            case rel => exact ⟨k + 1, v', by go_num, by omega, HS6.out.tail.more (by omega), Hk2.out⟩
            case measure => simp [intOf]; omega
        · obtain ⟨v', hv'⟩ : ∃ v', unmapS (65536 / 16) v (p : Int) = v' := ⟨_, rfl⟩
          have hop := unmap_vk HS2.out (p : Int)
          rw [hv'] at hop
          have hk2 := Hkept.out.unmap Hne.out (65536 / 16)
          rw [hv'] at hk2
          obtain ⟨E, hE⟩ : ∃ E, unmapE (65536 / 16) v (p : Int) = E := ⟨_, rfl⟩
          rw [hE] at hop
          obtain ⟨l1, l2⟩ := hk2.load hx
          have hld := fun W t (h : VK w m 65536 16 100 t v' [(wr.heap.size, .cells #[.int .u8 kd, .int .i64 pa, .int .i64 pb, .int .u64 px] 33 (0, 0))] W) => load_vk h x
          rw [l1, l2] at hld
          have Hop := Lib.hid hop
          have Hk2 := Lib.hid hk2
          have Hld := Lib.hid hld
          clear hop hk2 hld hE hv' l1 l2 HS2 Hload
          go_wp2_with (first | (go_at_call 21; refine Hop.out.mono ?_; rintro e w5 ⟨rfl, h5⟩; have HS5 := Lib.hid h5; clear h5) | (go_at_call 24; refine (Hld.out _ _ HS5.out).mono ?_; rintro e w6 ⟨rfl, h6⟩; have HS6 := Lib.hid h6; clear h6))
          go_roundw
          case rel => exact ⟨k + 1, v', by go_num, by omega, HS6.out.tail.more (by omega), Hk2.out⟩
          case measure => simp [intOf]; omega
        · obtain ⟨v', hv'⟩ : ∃ v', moveS (65536 / 16) 16 v (p : Int) (q : Int) = v' := ⟨_, rfl⟩
          have hop := move_vk HS2.out (p : Int) (q : Int)
          rw [hv'] at hop
          have hk2 := Hkept.out.move Hne.out q (65536 / 16)
          rw [hv'] at hk2
          obtain ⟨E, hE⟩ : ∃ E, moveE (65536 / 16) v (p : Int) (q : Int) = E := ⟨_, rfl⟩
          rw [hE] at hop
          obtain ⟨l1, l2⟩ := hk2.load hx
          have hld := fun W t (h : VK w m 65536 16 100 t v' [(wr.heap.size, .cells #[.int .u8 kd, .int .i64 pa, .int .i64 pb, .int .u64 px] 33 (0, 0))] W) => load_vk h x
          rw [l1, l2] at hld
          have Hop := Lib.hid hop
          have Hk2 := Lib.hid hk2
          have Hld := Lib.hid hld
          clear hop hk2 hld hE hv' l1 l2 HS2 Hload
          go_wp2_with (first | (go_at_call 22; refine Hop.out.mono ?_; rintro e w5 ⟨rfl, h5⟩; have HS5 := Lib.hid h5; clear h5) | (go_at_call 24; refine (Hld.out _ _ HS5.out).mono ?_; rintro e w6 ⟨rfl, h6⟩; have HS6 := Lib.hid h6; clear h6))
          go_roundw
          case rel => exact ⟨k + 1, v', by go_num, by omega, HS6.out.tail.more (by omega), Hk2.out⟩
          case measure => simp [intOf]; omega
        · obtain ⟨v', hv'⟩ : ∃ v', (freeR 65536 16 v ((16 * p : Nat) : Int) ((16 * p + 16 : Nat) : Int)).2 = v' := ⟨_, rfl⟩
          have hop := free_vk HS2.out ((16 * p : Nat) : Int) ((16 * p + 16 : Nat) : Int)
          rw [hv'] at hop
          have hk2 := Hkept.out.free Hne.out hp4
          rw [hv'] at hk2
          obtain ⟨E, hE⟩ : ∃ E, (freeR 65536 16 v ((16 * p : Nat) : Int) ((16 * p + 16 : Nat) : Int)).1 = E := ⟨_, rfl⟩
          rw [hE] at hop
          obtain ⟨l1, l2⟩ := hk2.load hx
          have hld := fun W t (h : VK w m 65536 16 100 t v' [(wr.heap.size, .cells #[.int .u8 kd, .int .i64 pa, .int .i64 pb, .int .u64 px] 33 (0, 0))] W) => load_vk h x
          rw [l1, l2] at hld
          have Hop := Lib.hid hop
          have Hk2 := Lib.hid hk2
          have Hld := Lib.hid hld
          clear hop hk2 hld hE hv' l1 l2 HS2 Hload
          go_wp2_with (first | (go_at_call 23; refine Hop.out.mono ?_; rintro e w5 ⟨rfl, h5⟩; have HS5 := Lib.hid h5; clear h5) | (go_at_call 24; refine (Hld.out _ _ HS5.out).mono ?_; rintro e w6 ⟨rfl, h6⟩; have HS6 := Lib.hid h6; clear h6))
          go_roundw
          case rel => exact ⟨k + 1, v', by go_num, by omega, HS6.out.tail.more (by omega), Hk2.out⟩
          case measure => simp [intOf]; omega
        · obtain ⟨v', hv'⟩ : ∃ v', storeV 65536 16 v ((16 * p + q % 16 : Nat) : Int) px = v' := ⟨_, rfl⟩
          have hop := store_vk HS2.out ((16 * p + q % 16 : Nat) : Int) px hpx
          rw [hv'] at hop
          have hk2 := Hkept.out.store Hne.out (show (16 * p + q % 16) / 16 = p by omega) 65536 px
          rw [hv'] at hk2
          obtain ⟨E, hE⟩ : ∃ E, loadE 65536 16 v ((16 * p + q % 16 : Nat) : Int) = E := ⟨_, rfl⟩
          rw [hE] at hop
          obtain ⟨l1, l2⟩ := hk2.load hx
          have hld := fun W t (h : VK w m 65536 16 100 t v' [(wr.heap.size, .cells #[.int .u8 kd, .int .i64 pa, .int .i64 pb, .int .u64 px] 33 (0, 0))] W) => load_vk h x
          rw [l1, l2] at hld
          have Hop := Lib.hid hop
          have Hk2 := Lib.hid hk2
          have Hld := Lib.hid hld
          clear hop hk2 hld hE hv' l1 l2 HS2 Hload
          rcases hk8 with hk8 | hk8 | hk8
          all_goals
            go_wp2_with (first | (go_at_call 19; refine Hop.out.mono ?_; rintro e w5 ⟨rfl, h5⟩; have HS5 := Lib.hid h5; clear h5) | (go_at_call 24; refine (Hld.out _ _ HS5.out).mono ?_; rintro e w6 ⟨rfl, h6⟩; have HS6 := Lib.hid h6; clear h6))
            go_roundw
            case rel => exact ⟨k + 1, v', by go_num, by omega, HS6.out.tail.more (by omega), Hk2.out⟩
            case measure => simp [intOf]; omega
    · obtain rfl : ps.length = k := by omega
      go_wp2_with (go_at_call 16; refine (Hv.out _).mono ?_; rintro e w2 ⟨rfl, hb9⟩)
      go_ret
      exact ⟨rfl, seq hb hb9⟩
theorem keeps_any (x y : Int) (hx0 : 0 ≤ x) (hx : x < 65536) (hy0 : 0 ≤ y) (hy : y < 18446744073709551616) (a : Option Addr) (cap : Nat) (ps : List Act) (w : World) (hP : Acts w a ps) :
    Calls Try.prog 3 #[.int .u16 x, .int .u64 y, .slice a ps.length cap] w fun e w' => e = .returned (.bool true) ∧ Below w.heap.size w w' := by
  by_cases hl : 150 < ps.length
  · exact keeps_many x y a ps.length cap w hl hP.many
  · obtain ⟨x, rfl⟩ : ∃ n : Nat, x = n := ⟨x.toNat, by omega⟩
    obtain ⟨y, rfl⟩ : ∃ n : Nat, y = n := ⟨y.toNat, by omega⟩
    exact keeps_walk x y (by omega) (by omega) a cap ps w (by omega) hP
end Go.Proofs.Ytkcijlndblbidaa.A9
