/- The walk of the law FramesPlays, for a pool of any size and any acts. Printed by wip/tools/genframesplays.py. -/
import Derived.Test.YtoldbaandkgmkaaFramesSt
import Derived.Deep.RegionHeld3
import Derived.Deep.QuietTactic
import Derived.BigQuiet
namespace Go.Proofs.Ytoldbaandkgmkaa
open Go.ChangeShapes Go.WideShapes Go.ChangeAt Go.RowKit
set_option linter.unusedVariables false
theorem quiet_left {P : Program} {f : FuncId} {args : Array Value} {w : World} {n : Nat} {v : Value} (h : Calls P f args (w.drewN n) fun e w' => e = .returned v ∧ w.drewN n = w') :
    Calls P f args (w.drewN n) fun e w'' => e = .returned v ∧ ∃ m, w'' = w.drewN m := h.mono fun _ _ ⟨he, hm⟩ => ⟨he, n, hm.symm⟩
theorem storeS_times (page : Nat) (s : PS) (f i : Int) (x : Nat) : (storeS page s f i x).times = s.times := by unfold storeS; split <;> rfl
theorem start_fs {W0 w : World} {b room page : Nat} (h : PSt W0 b room page start w) (c : Nat) (hc : w.heap.size = c) :
    FSt0 W0 b c room page start (w.alloc (.cells #[.int .i64 room, .int .i64 page, .slice none 0 0, .slice none 0 0, .int .i64 0, .int .i64 0, .int .i64 0] 53)) := by
  subst hc
  obtain ⟨S, m, u, hb⟩ := h
  have hin := m.in
  refine ⟨S, fun k => k = w.heap.size, ⟨m.grow (below_new w _), ⟨none, 0, none, 0, [], ⟨heap_alloc_new w _, World.ownsRow_nil _ _ _ _, OwnF.nil _ _ _ _, fun i hi => by simp at hi, fun i j hi => by simp at hi⟩, ⟨fun i hi => by simp at hi, fun f hf => ?_, fun i j hi => by simp at hi, rfl⟩, ⟨rfl, by simp, by simp, by simp⟩, fun k hk => by subst hk; simp⟩, fun k h1 h2 => ?_, u, fun k hk => ?_, hb.alloc hb.size _⟩⟩
  · have : has start f = false := by
      unfold has start
      simp
    rw [this] at hf
    cases hf
  · have := hin k h1
    omega
  · have := hb.size
    omega
set_option maxRecDepth 100000 in
theorem plays_far (r p : Int) (a : Option Addr) (len cap : Nat) (w : World) (h1 : 64 < r) (h2 : r ≤ 4096) :
    Calls Try.prog 4 #[.int .i64 r, .int .i64 p, .slice a len cap] w fun e w' => e = .returned (.bool true) ∧ Below w.heap.size w w' := by
  go_enter Try.func4, Try.ntmps4
  go_wp2_with (go_at_call 6; refine (lives_any _).mono ?_; rintro e w2 ⟨rfl, hb⟩)
  go_ret
  exact ⟨rfl, hb⟩
set_option maxRecDepth 100000 in
theorem plays_many (r p : Int) (a : Option Addr) (len cap : Nat) (w : World) (h1 : ¬ (64 < r ∧ r ≤ 4096)) (hl : 200 < len) (hm : len ≤ maxLen) :
    Calls Try.prog 4 #[.int .i64 r, .int .i64 p, .slice a len cap] w fun e w' => e = .returned (.bool true) ∧ Below w.heap.size w w' := by
  unfold maxLen at hm
  by_cases h : 64 < r
  · have h2 : ¬ r ≤ 4096 := by omega
    clear h1
    go_enter Try.func4, Try.ntmps4
    go_wp2_with (go_at_call 6; refine (lives_any _).mono ?_; rintro e w2 ⟨rfl, hb⟩)
    go_ret
    exact ⟨rfl, hb⟩
  · clear h1
    go_enter Try.func4, Try.ntmps4
    go_wp2_with (go_at_call 6; refine (lives_any _).mono ?_; rintro e w2 ⟨rfl, hb⟩)
    go_ret
    exact ⟨rfl, hb⟩
set_option maxRecDepth 100000 in
theorem plays_no (r p : Int) (hp : p ≤ 9223372036854775807) (a : Option Addr) (len cap : Nat) (w : World) (h1 : ¬ (64 < r ∧ r ≤ 4096)) (hl : ¬ 200 < len) (h3 : ¬ (1 ≤ r ∧ r ≤ 4096 ∧ isPage p)) :
    Calls Try.prog 4 #[.int .i64 r, .int .i64 p, .slice a len cap] w fun e w' => e = .returned (.bool true) ∧ Below w.heap.size w w' := by
  have Hnew := Lib.hid (new_no r p w hp h3)
  have Hrnew := Lib.hid ((refNew_any r p w).mono fun e w' h => h.1 (fun k => h3 ⟨k.1, k.2.1, (pageB_iff p).1 k.2.2⟩))
  clear h3
  by_cases h : 64 < r
  · have h2 : ¬ r ≤ 4096 := by omega
    clear h1
    go_enter Try.func4, Try.ntmps4
    go_wp2_with (first | (go_at_call 7; refine Hnew.out.mono ?_; rintro e w1 ⟨rfl, rfl⟩) | (go_at_call 13; refine Hrnew.out.mono ?_; rintro e w1 ⟨rfl, rfl⟩) | (go_at_call 6; refine (lives_any _).mono ?_; rintro e w2 ⟨rfl, hb⟩))
    go_ret
    exact ⟨rfl, hb⟩
  · clear h1
    go_enter Try.func4, Try.ntmps4
    go_wp2_with (first | (go_at_call 7; refine Hnew.out.mono ?_; rintro e w1 ⟨rfl, rfl⟩) | (go_at_call 13; refine Hrnew.out.mono ?_; rintro e w1 ⟨rfl, rfl⟩) | (go_at_call 6; refine (lives_any _).mono ?_; rintro e w2 ⟨rfl, hb⟩))
    go_ret
    exact ⟨rfl, hb⟩
set_option maxRecDepth 100000 in
set_option maxHeartbeats 8000000 in
theorem plays_walk (room page : Nat) (h1 : 1 ≤ room) (h2 : room ≤ 64) (h3 : isPage page) (a : Option Addr) (cap : Nat) (ps : List Act4) (w : World) (hl : ps.length ≤ 200) (hP : Acts w a ps) :
    Calls Try.prog 4 #[.int .i64 room, .int .i64 page, .slice a ps.length cap] w fun e w' => e = .returned (.bool true) ∧ Below w.heap.size w w' := by
  have HP := Lib.hid hP
  have hpl := isPage_le h3
  have Hnew := new_ps room page w h1 (by omega) h3
  have Hrnew := Lib.hid fun W => (refNew_any room page W).mono fun e w' h => h.2 ⟨by omega, by omega, (pageB_iff page).2 h3⟩
  obtain ⟨b, hb⟩ : ∃ b, w.heap.size = b := ⟨_, rfl⟩
  have Hst := Lib.hid (start_ok (room := room) (page := page) ⟨h1, by omega⟩ hpl)
  rw [hb] at Hnew
  replace Hnew := Lib.hid Hnew
  have hr64 : ¬ 64 < (room : Int) := by omega
  clear hP hb h3
  go_enter Try.func4, Try.ntmps4
  go_wp2_with (first | (go_at_call 7; refine Hnew.out.mono ?_; rintro e w1 ⟨rfl, m⟩; have M := Lib.hid m; clear m Hnew) | (go_at_call 13; refine (Hrnew.out _).mono ?_; rintro e w2 ⟨rfl, rfl⟩; have HS := Lib.hid (start_fs M.out _ rfl); clear M Hrnew))
  generalize w1.alloc (.cells #[.int .i64 room, .int .i64 page, .slice none 0 0, .slice none 0 0, .int .i64 0, .int .i64 0, .int .i64 0] 53) = W at *
  generalize w1.heap.size = rb at *
  go_loopw [60] (fun i wr => ∃ (k : Nat) (s : PS), i = .int .i64 k ∧ k ≤ ps.length ∧ FSt0 w b rb room page s wr ∧ s.ok room page ∧ s.times ≤ k) (fun i _ => ps.length - (intOf i).toNat)
  case atStart => exact ⟨0, start, rfl, by omega, HS.out, Hst.out, Nat.le_refl _⟩
  case round =>
    clear HS Hst
    obtain ⟨k, s, rfl, hm, hs, hok, htm⟩ := hrel
    have hb := hs.below
    by_cases hlt : k < ps.length
    · have hP2 := HP.out.below hb
      obtain ⟨b1, off, ha, hcell⟩ := hP2.cell
      obtain rfl : a = some ⟨b1, off, none⟩ := by
        rcases ha with rfl | ha
        · simp at hlt
        · exact ha
      obtain ⟨c0, c1, c2, c3⟩ := hcell k hlt
      have hact := hP2.each k hlt
      clear hcell ha hP2 hb
      generalize ps.getD k default = q at *
      obtain ⟨kd, pf, pa, px⟩ := q
      obtain ⟨hkd, hpf, hpa, hpx⟩ := hact
      simp only at *
      have hbx := hs.box #[.int .u8 kd, .int .i64 pf, .int .i64 pa, .int .u64 px] 31
      obtain ⟨d0, d1, d2, d3⟩ := hbx.cells
      have HS := Lib.hid hbx
      have Hok := Lib.hid hok
      clear hs hbx hok

      have hk8 : ((kd : Int) % 8 = 0 ∨ (kd : Int) % 8 = 1 ∨ (kd : Int) % 8 = 2) ∨ (kd : Int) % 8 = 3 ∨ ((kd : Int) % 8 = 4 ∨ (kd : Int) % 8 = 5) ∨ ((kd : Int) % 8 = 6 ∨ (kd : Int) % 8 = 7) := by omega
      rcases hk8 with hk8 | hk8 | hk8 | hk8
      · obtain ⟨c, d, s', hc1, hc2, hc3⟩ : ∃ c d s', (takeE room s).1 = c ∧ (takeE room s).2 = d ∧ takeT room s = s' := ⟨_, _, _, rfl, rfl, rfl⟩
        have hop := fun S W (c : FSt w b rb room page s S wr.heap.size (.cells #[.int .u8 kd, .int .i64 pf, .int .i64 pa, .int .u64 px] 31 (0, 0)) W) => take_fs c Hok.out (by omega)
        have hrop := fun S W (c : FSt w b rb room page S s wr.heap.size (.cells #[.int .u8 kd, .int .i64 pf, .int .i64 pa, .int .u64 px] 31 (0, 0)) W) => rtake_fs c Hok.out (by omega)
        have Hok' := Lib.hid (takeT_ok (room := room) Hok.out)
        have Htm := Lib.hid (Nat.le_trans (takeT_times room s) (Nat.succ_le_succ htm))
        simp only [hc1, hc2, hc3] at hop hrop
        rw [hc3] at Hok' Htm
        have Hop := Lib.hid hop
        have Hrop := Lib.hid hrop
        clear hop hrop hc1 hc2 hc3 Hok htm
        obtain ⟨us, hus⟩ : ∃ x, s'.used = x := ⟨_, rfl⟩
        obtain ⟨hi, hhi⟩ : ∃ x, s'.high = x := ⟨_, rfl⟩
        obtain ⟨ti, hti⟩ : ∃ x, s'.times = x := ⟨_, rfl⟩
        have h1 := fun W (c : FSt w b rb room page s' s' wr.heap.size (.cells #[.int .u8 kd, .int .i64 pf, .int .i64 pa, .int .u64 px] 31 (0, 0)) W) => used_fs c
        have h2 := fun W (c : FSt w b rb room page s' s' wr.heap.size (.cells #[.int .u8 kd, .int .i64 pf, .int .i64 pa, .int .u64 px] 31 (0, 0)) W) => high_fs c
        have h3 := fun W (c : FSt w b rb room page s' s' wr.heap.size (.cells #[.int .u8 kd, .int .i64 pf, .int .i64 pa, .int .u64 px] 31 (0, 0)) W) => times_fs c
        have h4 := fun W (c : FSt w b rb room page s' s' wr.heap.size (.cells #[.int .u8 kd, .int .i64 pf, .int .i64 pa, .int .u64 px] 31 (0, 0)) W) => room_fs c
        have h5 := fun W (c : FSt w b rb room page s' s' wr.heap.size (.cells #[.int .u8 kd, .int .i64 pf, .int .i64 pa, .int .u64 px] 31 (0, 0)) W) => page_fs c
        have h6 := fun W (c : FSt w b rb room page s' s' wr.heap.size (.cells #[.int .u8 kd, .int .i64 pf, .int .i64 pa, .int .u64 px] 31 (0, 0)) W) => c.list
        simp only [hus, hhi, hti] at h1 h2 h3 h6
        have Htm' : Hid (ti ≤ k + 1) := Lib.hid (by rw [← hti]; exact Htm.out)
        have H1 := Lib.hid h1
        have H2 := Lib.hid h2
        have H3 := Lib.hid h3
        have H4 := Lib.hid h4
        have H5 := Lib.hid h5
        have H6 := Lib.hid h6
        have Hti := Lib.hid hti
        clear h1 h2 h3 h4 h5 h6 hus hhi hti
        rcases hk8 with hk8 | hk8 | hk8
        all_goals
          go_wp2_with (first | (go_at_call 8; refine (Hop.out _ _ HS.out).mono ?_; rintro e w9 ⟨rfl, hs1⟩; clear HS d0 d1 d2 d3; have HS := Lib.hid hs1; obtain ⟨d0, d1, d2, d3⟩ := hs1.cells; clear hs1) | (go_at_call 14; refine (Hrop.out _ _ HS.out).mono ?_; rintro e w9 ⟨rfl, hs1⟩; clear HS d0 d1 d2 d3; have HS := Lib.hid hs1; obtain ⟨d0, d1, d2, d3⟩ := hs1.cells; clear hs1))
          obtain ⟨la, lc, l1, l2, l3⟩ := H6.out _ HS.out
          go_quiet ((first | (go_at_call 12; exact quiet_left (H1.out _ (HS.out.drewN _))) | (go_at_call 18; exact quiet_left (H2.out _ (HS.out.drewN _))) | (go_at_call 19; exact quiet_left (H3.out _ (HS.out.drewN _))) | (go_at_call 20; exact quiet_left (H4.out _ (HS.out.drewN _))) | (go_at_call 21; exact quiet_left (H5.out _ (HS.out.drewN _)))))
          go_wp2
          go_roundw
          case rel => exact ⟨k + 1, s', by go_num, by omega, (HS.out.drewN _).base, Hok'.out, by rw [Hti.out]; exact Htm'.out⟩
          case measure => simp [intOf]; omega
      · obtain ⟨c, s', hc1, hc3⟩ : ∃ c s', giveE s pf = c ∧ giveS s pf = s' := ⟨_, _, rfl, rfl⟩
        have hop := fun S W (c : FSt w b rb room page s S wr.heap.size (.cells #[.int .u8 kd, .int .i64 pf, .int .i64 pa, .int .u64 px] 31 (0, 0)) W) => give_fs c Hok.out pf
        have hrop := fun S W (c : FSt w b rb room page S s wr.heap.size (.cells #[.int .u8 kd, .int .i64 pf, .int .i64 pa, .int .u64 px] 31 (0, 0)) W) => rgive_fs c Hok.out pf
        have Hok' := Lib.hid (giveS_ok Hok.out pf)
        have Htm := Lib.hid (Nat.le_trans (Nat.le_of_eq (giveS_times s pf)) (Nat.le_succ_of_le htm))
        simp only [hc1, hc3] at hop hrop
        rw [hc3] at Hok' Htm
        have Hop := Lib.hid hop
        have Hrop := Lib.hid hrop
        clear hop hrop hc1 hc3 Hok htm
        obtain ⟨us, hus⟩ : ∃ x, s'.used = x := ⟨_, rfl⟩
        obtain ⟨hi, hhi⟩ : ∃ x, s'.high = x := ⟨_, rfl⟩
        obtain ⟨ti, hti⟩ : ∃ x, s'.times = x := ⟨_, rfl⟩
        have h1 := fun W (c : FSt w b rb room page s' s' wr.heap.size (.cells #[.int .u8 kd, .int .i64 pf, .int .i64 pa, .int .u64 px] 31 (0, 0)) W) => used_fs c
        have h2 := fun W (c : FSt w b rb room page s' s' wr.heap.size (.cells #[.int .u8 kd, .int .i64 pf, .int .i64 pa, .int .u64 px] 31 (0, 0)) W) => high_fs c
        have h3 := fun W (c : FSt w b rb room page s' s' wr.heap.size (.cells #[.int .u8 kd, .int .i64 pf, .int .i64 pa, .int .u64 px] 31 (0, 0)) W) => times_fs c
        have h4 := fun W (c : FSt w b rb room page s' s' wr.heap.size (.cells #[.int .u8 kd, .int .i64 pf, .int .i64 pa, .int .u64 px] 31 (0, 0)) W) => room_fs c
        have h5 := fun W (c : FSt w b rb room page s' s' wr.heap.size (.cells #[.int .u8 kd, .int .i64 pf, .int .i64 pa, .int .u64 px] 31 (0, 0)) W) => page_fs c
        have h6 := fun W (c : FSt w b rb room page s' s' wr.heap.size (.cells #[.int .u8 kd, .int .i64 pf, .int .i64 pa, .int .u64 px] 31 (0, 0)) W) => c.list
        simp only [hus, hhi, hti] at h1 h2 h3 h6
        have Htm' : Hid (ti ≤ k + 1) := Lib.hid (by rw [← hti]; exact Htm.out)
        have H1 := Lib.hid h1
        have H2 := Lib.hid h2
        have H3 := Lib.hid h3
        have H4 := Lib.hid h4
        have H5 := Lib.hid h5
        have H6 := Lib.hid h6
        have Hti := Lib.hid hti
        clear h1 h2 h3 h4 h5 h6 hus hhi hti
        go_wp2
        have HSd := Lib.hid HS.out.drew
        clear HS
        have HS := HSd
        clear HSd
        go_region_held3 (fun w' => w'.cell? ⟨wr.heap.size, 1, none⟩ = some (.int .i64 pf)) (first | exact d1 | go_keep) (first | (go_at_call 11; refine (Hop.out _ _ HS.out).mono ?_; rintro e w9 ⟨rfl, hs1⟩; clear HS d0 d1 d2 d3; have HS := Lib.hid hs1; obtain ⟨d0, d1, d2, d3⟩ := hs1.cells; clear hs1) | (go_at_call 15; refine (Hrop.out _ _ HS.out).mono ?_; rintro e w9 ⟨rfl, hs1⟩; clear HS d0 d1 d2 d3; have HS := Lib.hid hs1; obtain ⟨d0, d1, d2, d3⟩ := hs1.cells; clear hs1))
        all_goals
          go_wp2
          obtain ⟨la, lc, l1, l2, l3⟩ := H6.out _ HS.out
          go_quiet ((first | (go_at_call 12; exact quiet_left (H1.out _ (HS.out.drewN _))) | (go_at_call 18; exact quiet_left (H2.out _ (HS.out.drewN _))) | (go_at_call 19; exact quiet_left (H3.out _ (HS.out.drewN _))) | (go_at_call 20; exact quiet_left (H4.out _ (HS.out.drewN _))) | (go_at_call 21; exact quiet_left (H5.out _ (HS.out.drewN _)))))
          go_wp2
          go_roundw
          case rel => exact ⟨k + 1, s', by go_num, by omega, (HS.out.drewN _).base, Hok'.out, by rw [Hti.out]; exact Htm'.out⟩
          case measure => simp [intOf]; omega
      · obtain ⟨c, s', hc1, hc3⟩ : ∃ c s', wordE page s pf pa = c ∧ storeS page s pf pa px = s' := ⟨_, _, rfl, rfl⟩
        have hop := fun S W (c : FSt w b rb room page s S wr.heap.size (.cells #[.int .u8 kd, .int .i64 pf, .int .i64 pa, .int .u64 px] 31 (0, 0)) W) => store_fs c Hok.out pf pa px
        have hrop := fun S W (c : FSt w b rb room page S s wr.heap.size (.cells #[.int .u8 kd, .int .i64 pf, .int .i64 pa, .int .u64 px] 31 (0, 0)) W) => rstore_fs c Hok.out pf pa px
        have Hok' := Lib.hid (storeS_ok Hok.out pf pa px hpx)
        have Htm := Lib.hid (Nat.le_trans (Nat.le_of_eq (storeS_times page s pf pa px)) (Nat.le_succ_of_le htm))
        simp only [hc1, hc3] at hop hrop
        rw [hc3] at Hok' Htm
        have Hop := Lib.hid hop
        have Hrop := Lib.hid hrop
        clear hop hrop hc1 hc3 Hok htm
        obtain ⟨us, hus⟩ : ∃ x, s'.used = x := ⟨_, rfl⟩
        obtain ⟨hi, hhi⟩ : ∃ x, s'.high = x := ⟨_, rfl⟩
        obtain ⟨ti, hti⟩ : ∃ x, s'.times = x := ⟨_, rfl⟩
        have h1 := fun W (c : FSt w b rb room page s' s' wr.heap.size (.cells #[.int .u8 kd, .int .i64 pf, .int .i64 pa, .int .u64 px] 31 (0, 0)) W) => used_fs c
        have h2 := fun W (c : FSt w b rb room page s' s' wr.heap.size (.cells #[.int .u8 kd, .int .i64 pf, .int .i64 pa, .int .u64 px] 31 (0, 0)) W) => high_fs c
        have h3 := fun W (c : FSt w b rb room page s' s' wr.heap.size (.cells #[.int .u8 kd, .int .i64 pf, .int .i64 pa, .int .u64 px] 31 (0, 0)) W) => times_fs c
        have h4 := fun W (c : FSt w b rb room page s' s' wr.heap.size (.cells #[.int .u8 kd, .int .i64 pf, .int .i64 pa, .int .u64 px] 31 (0, 0)) W) => room_fs c
        have h5 := fun W (c : FSt w b rb room page s' s' wr.heap.size (.cells #[.int .u8 kd, .int .i64 pf, .int .i64 pa, .int .u64 px] 31 (0, 0)) W) => page_fs c
        have h6 := fun W (c : FSt w b rb room page s' s' wr.heap.size (.cells #[.int .u8 kd, .int .i64 pf, .int .i64 pa, .int .u64 px] 31 (0, 0)) W) => c.list
        simp only [hus, hhi, hti] at h1 h2 h3 h6
        have Htm' : Hid (ti ≤ k + 1) := Lib.hid (by rw [← hti]; exact Htm.out)
        have H1 := Lib.hid h1
        have H2 := Lib.hid h2
        have H3 := Lib.hid h3
        have H4 := Lib.hid h4
        have H5 := Lib.hid h5
        have H6 := Lib.hid h6
        have Hti := Lib.hid hti
        clear h1 h2 h3 h4 h5 h6 hus hhi hti
        rcases hk8 with hk8 | hk8
        all_goals
          go_wp2
          have HSd := Lib.hid HS.out.drew
          clear HS
          have HS := HSd
          clear HSd
          go_region_held3 (fun w' => w'.cell? ⟨wr.heap.size, 1, none⟩ = some (.int .i64 pf) ∧ w'.cell? ⟨wr.heap.size, 2, none⟩ = some (.int .i64 pa) ∧ w'.cell? ⟨wr.heap.size, 3, none⟩ = some (.int .u64 px)) (first | exact ⟨d1, d2, d3⟩ | go_keep) (first | (go_at_call 10; refine (Hop.out _ _ HS.out).mono ?_; rintro e w9 ⟨rfl, hs1⟩; clear HS d0 d1 d2 d3; have HS := Lib.hid hs1; obtain ⟨d0, d1, d2, d3⟩ := hs1.cells; clear hs1) | (go_at_call 16; refine (Hrop.out _ _ HS.out).mono ?_; rintro e w9 ⟨rfl, hs1⟩; clear HS d0 d1 d2 d3; have HS := Lib.hid hs1; obtain ⟨d0, d1, d2, d3⟩ := hs1.cells; clear hs1))
          all_goals
            go_wp2
            obtain ⟨la, lc, l1, l2, l3⟩ := H6.out _ HS.out
            go_quiet ((first | (go_at_call 12; exact quiet_left (H1.out _ (HS.out.drewN _))) | (go_at_call 18; exact quiet_left (H2.out _ (HS.out.drewN _))) | (go_at_call 19; exact quiet_left (H3.out _ (HS.out.drewN _))) | (go_at_call 20; exact quiet_left (H4.out _ (HS.out.drewN _))) | (go_at_call 21; exact quiet_left (H5.out _ (HS.out.drewN _)))))
            go_wp2
            go_roundw
            case rel => exact ⟨k + 1, s', by go_num, by omega, (HS.out.drewN _).base, Hok'.out, by rw [Hti.out]; exact Htm'.out⟩
            case measure => simp [intOf]; omega
      · obtain ⟨c, d, hc1, hc2⟩ : ∃ c d, loadR page s pf pa = c ∧ wordE page s pf pa = d := ⟨_, _, rfl, rfl⟩
        have hop := fun W (c : FSt w b rb room page s s wr.heap.size (.cells #[.int .u8 kd, .int .i64 pf, .int .i64 pa, .int .u64 px] 31 (0, 0)) W) => load_fs c Hok.out pf pa
        have hrop := fun W (c : FSt w b rb room page s s wr.heap.size (.cells #[.int .u8 kd, .int .i64 pf, .int .i64 pa, .int .u64 px] 31 (0, 0)) W) => rload_fs c Hok.out pf pa
        have Hok' := Lib.hid Hok.out
        have Htm := Lib.hid (Nat.le_succ_of_le htm)
        simp only [hc1, hc2] at hop hrop
        obtain ⟨s', hs'⟩ : ∃ s', s = s' := ⟨_, rfl⟩
        have Hop := Lib.hid hop
        have Hrop := Lib.hid hrop
        subst hs'
        clear hop hrop hc1 hc2 Hok htm
        obtain ⟨us, hus⟩ : ∃ x, s.used = x := ⟨_, rfl⟩
        obtain ⟨hi, hhi⟩ : ∃ x, s.high = x := ⟨_, rfl⟩
        obtain ⟨ti, hti⟩ : ∃ x, s.times = x := ⟨_, rfl⟩
        have h1 := fun W (c : FSt w b rb room page s s wr.heap.size (.cells #[.int .u8 kd, .int .i64 pf, .int .i64 pa, .int .u64 px] 31 (0, 0)) W) => used_fs c
        have h2 := fun W (c : FSt w b rb room page s s wr.heap.size (.cells #[.int .u8 kd, .int .i64 pf, .int .i64 pa, .int .u64 px] 31 (0, 0)) W) => high_fs c
        have h3 := fun W (c : FSt w b rb room page s s wr.heap.size (.cells #[.int .u8 kd, .int .i64 pf, .int .i64 pa, .int .u64 px] 31 (0, 0)) W) => times_fs c
        have h4 := fun W (c : FSt w b rb room page s s wr.heap.size (.cells #[.int .u8 kd, .int .i64 pf, .int .i64 pa, .int .u64 px] 31 (0, 0)) W) => room_fs c
        have h5 := fun W (c : FSt w b rb room page s s wr.heap.size (.cells #[.int .u8 kd, .int .i64 pf, .int .i64 pa, .int .u64 px] 31 (0, 0)) W) => page_fs c
        have h6 := fun W (c : FSt w b rb room page s s wr.heap.size (.cells #[.int .u8 kd, .int .i64 pf, .int .i64 pa, .int .u64 px] 31 (0, 0)) W) => c.list
        simp only [hus, hhi, hti] at h1 h2 h3 h6
        have Htm' : Hid (ti ≤ k + 1) := Lib.hid (by rw [← hti]; exact Htm.out)
        have H1 := Lib.hid h1
        have H2 := Lib.hid h2
        have H3 := Lib.hid h3
        have H4 := Lib.hid h4
        have H5 := Lib.hid h5
        have H6 := Lib.hid h6
        have Hti := Lib.hid hti
        clear h1 h2 h3 h4 h5 h6 hus hhi hti
        rcases hk8 with hk8 | hk8
        all_goals
          go_wp2_with (first | (go_at_call 9; refine (Hop.out _ HS.out).mono ?_; rintro e w9 ⟨rfl, rfl⟩) | (go_at_call 17; refine (Hrop.out _ HS.out).mono ?_; rintro e w9 ⟨rfl, rfl⟩))
          obtain ⟨la, lc, l1, l2, l3⟩ := H6.out _ HS.out
          go_quiet ((first | (go_at_call 12; exact quiet_left (H1.out _ (HS.out.drewN _))) | (go_at_call 18; exact quiet_left (H2.out _ (HS.out.drewN _))) | (go_at_call 19; exact quiet_left (H3.out _ (HS.out.drewN _))) | (go_at_call 20; exact quiet_left (H4.out _ (HS.out.drewN _))) | (go_at_call 21; exact quiet_left (H5.out _ (HS.out.drewN _)))))
          go_wp2
          go_roundw
          case rel => exact ⟨k + 1, s, by go_num, by omega, (HS.out.drewN _).base, Hok'.out, by rw [Hti.out]; exact Htm'.out⟩
          case measure => simp [intOf]; omega
    · obtain rfl : ps.length = k := by omega
      go_wp2_with (go_at_call 6; refine (lives_any _).mono ?_; rintro e w2 ⟨rfl, hb9⟩)
      go_ret
      exact ⟨rfl, seq hb hb9⟩
theorem plays_any (r p : Int) (hp : p ≤ 9223372036854775807) (a : Option Addr) (cap : Nat) (ps : List Act4) (w : World) (hP : Acts w a ps) :
    Calls Try.prog 4 #[.int .i64 r, .int .i64 p, .slice a ps.length cap] w fun e w' => e = .returned (.bool true) ∧ Below w.heap.size w w' := by
  by_cases h1 : 64 < r ∧ r ≤ 4096
  · exact plays_far r p a ps.length cap w h1.1 h1.2
  · by_cases hl : 200 < ps.length
    · exact plays_many r p a ps.length cap w h1 hl hP.many
    · by_cases h3 : 1 ≤ r ∧ r ≤ 4096 ∧ isPage p
      · obtain ⟨room, rfl⟩ : ∃ n : Nat, r = n := ⟨r.toNat, by omega⟩
        obtain ⟨page, rfl⟩ : ∃ n : Nat, p = n := ⟨p.toNat, by have := h3.2.2; unfold isPage at this; omega⟩
        exact plays_walk room page (by omega) (by omega) h3.2.2 a cap ps w (by omega) hP
      · exact plays_no r p hp a ps.length cap w h1 hl h3
end Go.Proofs.Ytoldbaandkgmkaa
