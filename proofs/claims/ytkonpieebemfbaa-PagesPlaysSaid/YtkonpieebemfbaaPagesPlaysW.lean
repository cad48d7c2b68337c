/- The walk of the law PagesPlays, for any number of pages and any acts. -/
import Derived.Test.YtkonpieebemfbaaPagesSt
import Derived.Deep.RegionHeld3
import Derived.Deep.CutRange
import Derived.Deep.QuietTactic
import Derived.BigQuiet
namespace Go.Proofs.Ytkonpieebemfbaa
open Go.ChangeShapes Go.WideShapes Go.ChangeAt Go.RowKit
set_option linter.unusedVariables false

set_option maxRecDepth 100000 in
theorem plays_no (n : Int) (a : Option Addr) (len cap : Nat) (w : World) (h : n < 1 ∨ 524288 < n) :
    Calls Try.prog 4 #[.int .i64 n, .slice a len cap] w fun e w' => e = .returned (.bool true) ∧ Below w.heap.size w w' := by
  have Hnew := Lib.hid (new_no n w h)
  have hmay := may_any n w
  rw [decide_eq_false (by omega)] at hmay
  have Hmay := Lib.hid hmay
  clear hmay h
  go_enter Try.func4, Try.ntmps4
  go_wp2_with (first | (go_at_call 7; refine Hnew.out.mono ?_; rintro e w1 ⟨rfl, rfl⟩) | (go_at_call 12; refine Hmay.out.mono ?_; rintro e w1 ⟨rfl, rfl⟩) | (go_at_call 6; refine (lives_any _).mono ?_; rintro e w2 ⟨rfl, hb⟩))
  go_ret
  exact ⟨rfl, hb⟩
set_option maxRecDepth 100000 in
theorem plays_many (n : Nat) (a : Option Addr) (len cap : Nat) (w : World) (h1 : 1 ≤ n) (h2 : n ≤ 524288) (hl : 200 < len) (hm : len ≤ maxLen) :
    Calls Try.prog 4 #[.int .i64 n, .slice a len cap] w fun e w' => e = .returned (.bool true) ∧ Below w.heap.size w w' := by
  have Hnew := Lib.hid (new_yes n w h1 h2)
  have hmay := fun w => may_any n w
  simp only [decide_eq_true (show 1 ≤ (n : Int) ∧ (n : Int) ≤ 524288 by omega)] at hmay
  have Hmay := Lib.hid hmay
  unfold maxLen at hm
  clear hmay h1 h2
  go_enter Try.func4, Try.ntmps4
  go_wp2_with (first | (go_at_call 7; refine Hnew.out.mono ?_; rintro e w1 ⟨rfl, -, hb1⟩) | (go_at_call 12; refine (Hmay.out _).mono ?_; rintro e w1 ⟨rfl, rfl⟩) | (go_at_call 6; refine (lives_any _).mono ?_; rintro e w2 ⟨rfl, hb⟩))
  go_ret
  exact ⟨rfl, seq hb1 hb⟩
theorem start_st {W0 w : World} {b np : Nat} {S : Nat → Prop} (hM : Mp S b np (fun _ => 0) w) (hU : Up W0.heap.size S) (hB : Below W0.heap.size W0 w) :
    St0 W0 b w.heap.size np (fun _ => 0) 0 (w.alloc (.cells #[.int .i64 np, .slice none 0 0] 40)) := by
  have hin := hM.in
  refine ⟨S, fun k => k = w.heap.size, ⟨hM.grow (below_new w _), ⟨none, 0, [], ⟨heap_alloc_new w _, World.ownsRow_nil _ _ _ _⟩, Rel.nil np, by simp, ⟨rfl, by simp⟩, fun k hk => by subst hk; simp⟩, fun k h1 h2 => ?_, hU, fun k hk => ?_, hB.alloc hB.size _⟩⟩
  · have := hin k h1
    omega
  · have := hB.size
    omega
theorem quiet_left {P : Program} {f : FuncId} {args : Array Value} {w : World} {n : Nat} {v : Value} (h : Calls P f args (w.drewN n) fun e w' => e = .returned v ∧ w.drewN n = w') :
    Calls P f args (w.drewN n) fun e w'' => e = .returned v ∧ ∃ m, w'' = w.drewN m := h.mono fun _ _ ⟨he, hm⟩ => ⟨he, n, hm.symm⟩
theorem below_drewN' (n : Nat) (w : World) : Below w.heap.size w (w.drewN n) := ⟨rfl, rfl, rfl, Nat.le_refl _, fun _ _ => rfl⟩
theorem St.drewN {W0 w : World} {b rb np k X : Nat} {F G : Nat → Nat} {o : Obj} (s : St W0 b rb np F G k X o w) (n : Nat) : St W0 b rb np F G k X o (w.drewN n) := s.grow (below_drewN' n w)
theorem St.more {W0 w : World} {b rb np k k' X : Nat} {F G : Nat → Nat} {o : Obj} (s : St W0 b rb np F G k X o w) (h : k ≤ k') : St W0 b rb np F G k' X o w := by
  obtain ⟨S, T, c, hx⟩ := s
  exact ⟨S, T, ⟨c.prog, c.ref.more h, c.apart, c.upS, c.upT, c.below⟩, hx⟩
theorem rmove_st' {W0 w : World} {b rb np k X : Nat} {F G : Nat → Nat} {o : Obj} (s : St W0 b rb np F G k X o w) (hk : k ≤ 900) (p q : Int) :
    Calls Try.prog 15 #[.pointer (some ⟨rb, 0, none⟩), .int .i64 p, .int .i64 q] w fun e w' => e = .returned (.int .i64 (moveR np G p q).1) ∧ St W0 b rb np F (moveR np G p q).2 (k + 1) X o w' :=
  (rmove_st s hk p q).mono fun e w' ⟨he, hs⟩ => ⟨he, hs.more (Nat.le_succ k)⟩
set_option maxRecDepth 100000 in
set_option maxHeartbeats 4000000 in
theorem plays_walk (n : Nat) (a : Option Addr) (cap : Nat) (ps : List Act3) (w : World) (h1 : 1 ≤ n) (h2 : n ≤ 524288) (hl : ps.length ≤ 200) (hP : Acts w a ps) :
    Calls Try.prog 4 #[.int .i64 n, .slice a ps.length cap] w fun e w' => e = .returned (.bool true) ∧ Below w.heap.size w w' := by
  have Hnew := new_yes n w h1 h2
  have hmay := fun w => may_any n w
  simp only [decide_eq_true (show 1 ≤ (n : Int) ∧ (n : Int) ≤ 524288 by omega)] at hmay
  have Hmay := Lib.hid hmay
  have HP := Lib.hid hP
  have Hn2 := Lib.hid h2
  obtain ⟨b, hb⟩ : ∃ b, w.heap.size + 1 = b := ⟨_, rfl⟩
  rw [hb] at Hnew
  replace Hnew := Lib.hid Hnew
  clear hmay h1 h2 hP hb
  go_enter Try.func4, Try.ntmps4
  go_wp2_with (first | (go_at_call 7; refine Hnew.out.mono ?_; rintro e w1 ⟨rfl, ⟨S1, m1, u1⟩, b1⟩; have HS := Lib.hid (start_st m1 u1 b1); clear m1 u1 b1 Hnew) | (go_at_call 12; refine (Hmay.out _).mono ?_; rintro e w1 ⟨rfl, rfl⟩))
  generalize w1.alloc (.cells #[.int .i64 n, .slice none 0 0] 40) = W at *
  generalize w1.heap.size = rb at *
  clear Hmay
  go_loopw [61] (fun i wr => ∃ (m : Nat) (F : Nat → Nat), i = .int .i64 m ∧ m ≤ ps.length ∧ St0 w b rb n F m wr) (fun i _ => ps.length - (intOf i).toNat)
  case atStart => exact ⟨0, _, rfl, by omega, HS.out⟩
  case round =>
    clear HS
    obtain ⟨m, F, rfl, hm, hs⟩ := hrel
    have hb : Below w.heap.size w wr := by
      obtain ⟨S, T, c⟩ := hs
      exact c.below
    by_cases hlt : m < ps.length
    · have hP2 := HP.out.below hb
      obtain ⟨b1, off, ha, hcell⟩ := hP2.cell
      obtain rfl : a = some ⟨b1, off, none⟩ := by
        rcases ha with rfl | ha
        · simp at hlt
        · exact ha
      obtain ⟨c0, c1, c2⟩ := hcell m hlt
      have hok := hP2.each m hlt
      clear hcell ha hP2
      generalize ps.getD m default = q at *
      obtain ⟨k, pa, pb⟩ := q
      obtain ⟨hk, hpa, hpb⟩ := hok
      simp only at *
      have hbx := hs.box #[.int .u8 k, .int .i64 pa, .int .i64 pb] 31
      obtain ⟨d0, d1, d2⟩ := hbx.cells
      have HS := Lib.hid hbx
      clear hs hbx hb
      have hk4 : (k % 4 = 0 ∨ k % 4 = 1) ∨ k % 4 = 2 ∨ k % 4 = 3 := by omega
      rcases hk4 with hk4 | hk4 | hk4
      · obtain ⟨c, F', hc1, hc2⟩ : ∃ c F', (putR n F pa pb).1 = c ∧ (putR n F pa pb).2 = F' := ⟨_, _, rfl, rfl⟩
        have hput := fun G k1 W (s : St w b rb n F G k1 wr.heap.size (.cells #[.int .u8 k, .int .i64 pa, .int .i64 pb] 31 (0, 0)) W) => put_st s pa pb
        have hrput := fun G W (s : St w b rb n G F m wr.heap.size (.cells #[.int .u8 k, .int .i64 pa, .int .i64 pb] 31 (0, 0)) W) => rput_st s (by omega) pa pb
        simp only [hc1, hc2] at hput hrput
        have Hput := Lib.hid hput
        have Hrput := Lib.hid hrput
        clear hput hrput hc1 hc2
        have hk5 : (k : Int) % 4 = 0 ∨ (k : Int) % 4 = 1 := by omega
        clear hk4
        rcases hk5 with kk | kk
        · go_wp2
          have HSd := Lib.hid HS.out.drew
          clear HS
          have HS := HSd
          clear HSd
          go_region_held3 (fun w' => w'.cell? ⟨wr.heap.size, 1, none⟩ = some (.int .i64 pa) ∧ w'.cell? ⟨wr.heap.size, 2, none⟩ = some (.int .i64 pb)) (first | exact ⟨d1, d2⟩ | go_keep) (first | (go_at_call 8; refine (Hput.out _ _ _ HS.out).mono ?_; rintro e w1 ⟨rfl, hs1⟩; clear HS d0 d1 d2; have HS := Lib.hid hs1; obtain ⟨d0, d1, d2⟩ := hs1.cells; clear hs1) | (go_at_call 13; refine (Hrput.out _ _ HS.out).mono ?_; rintro e w1 ⟨rfl, hs1⟩; clear HS d0 d1 d2; have HS := Lib.hid hs1; obtain ⟨d0, d1, d2⟩ := hs1.cells; clear hs1))
          all_goals
            obtain ⟨fx, hfx⟩ : ∃ x, (frameR n F' pb).1 = x := ⟨_, rfl⟩
            obtain ⟨fe, hfe⟩ : ∃ x, (frameR n F' pb).2 = x := ⟨_, rfl⟩
            obtain ⟨nxt, hnx⟩ : ∃ x, (nextV (nx n F' pa.toNat)).1 = x := ⟨_, rfl⟩
            obtain ⟨ok, hok⟩ : ∃ x, (nextV (nx n F' pa.toNat)).2 = x := ⟨_, rfl⟩
            obtain ⟨ct, hct⟩ : ∃ x : Int, (cn n F' pa pb : Int) = x := ⟨_, rfl⟩
            obtain ⟨ln, hln⟩ : ∃ x, sumF F' ((n + 255) / 256) = x := ⟨_, rfl⟩
            have h1 := fun W (s : St w b rb n F' F' (m + 1) wr.heap.size (.cells #[.int .u8 k, .int .i64 pa, .int .i64 pb] 31 (0, 0)) W) => frame_st s pb
            have h2 := fun W (s : St w b rb n F' F' (m + 1) wr.heap.size (.cells #[.int .u8 k, .int .i64 pa, .int .i64 pb] 31 (0, 0)) W) => rframe_st s (by omega) pb
            have h3 := fun W (s : St w b rb n F' F' (m + 1) wr.heap.size (.cells #[.int .u8 k, .int .i64 pa, .int .i64 pb] 31 (0, 0)) W) => next_st s pa hpa.2
            have h4 := fun W (s : St w b rb n F' F' (m + 1) wr.heap.size (.cells #[.int .u8 k, .int .i64 pa, .int .i64 pb] 31 (0, 0)) W) => rnext_st s (by omega) pa
            have h5 := fun W (s : St w b rb n F' F' (m + 1) wr.heap.size (.cells #[.int .u8 k, .int .i64 pa, .int .i64 pb] 31 (0, 0)) W) => count_st s Hn2.out pa pb hpa.2
            have h6 := fun W (s : St w b rb n F' F' (m + 1) wr.heap.size (.cells #[.int .u8 k, .int .i64 pa, .int .i64 pb] 31 (0, 0)) W) => rcount_st s (by omega) pa pb
            have h7 := fun W (s : St w b rb n F' F' (m + 1) wr.heap.size (.cells #[.int .u8 k, .int .i64 pa, .int .i64 pb] 31 (0, 0)) W) => len_st s
            have h8 := fun W (s : St w b rb n F' F' (m + 1) wr.heap.size (.cells #[.int .u8 k, .int .i64 pa, .int .i64 pb] 31 (0, 0)) W) => s.list
            simp only [hfx, hfe, hnx, hok, hct, hln] at h1 h2 h3 h4 h5 h6 h7 h8
            have H1 := Lib.hid h1
            have H2 := Lib.hid h2
            have H3 := Lib.hid h3
            have H4 := Lib.hid h4
            have H5 := Lib.hid h5
            have H6 := Lib.hid h6
            have H7 := Lib.hid h7
            have H8 := Lib.hid h8
            clear h1 h2 h3 h4 h5 h6 h7 h8 hfx hfe hnx hok hct hln
            go_wp2_with (first
              | (go_at_call 11; refine (H1.out _ HS.out).mono ?_; rintro e w2 ⟨rfl, hs2⟩; clear HS d0 d1 d2; have HS := Lib.hid hs2; obtain ⟨d0, d1, d2⟩ := hs2.cells; obtain ⟨ra, rc, dl⟩ := H8.out _ hs2; clear hs2)
              | (go_at_call 16; refine (H2.out _ HS.out).mono ?_; rintro e w3 ⟨rfl, rfl⟩)
              | (go_at_call 17; refine (H3.out _ HS.out).mono ?_; rintro e w3 ⟨rfl, rfl⟩)
              | (go_at_call 18; refine (H4.out _ HS.out).mono ?_; rintro e w3 ⟨rfl, rfl⟩))
            go_quiet ((first | (go_at_call 19; exact quiet_left (H5.out _ (HS.out.drewN _))) | (go_at_call 20; exact quiet_left (H6.out _ (HS.out.drewN _))) | (go_at_call 21; exact quiet_left (H7.out _ (HS.out.drewN _)))))
            go_wp2
            go_roundw
            case rel => exact ⟨m + 1, F', by go_num, by omega, (HS.out.drewN _).base⟩
            case measure => simp [intOf]; omega
        · go_wp2
          have HSd := Lib.hid HS.out.drew
          clear HS
          have HS := HSd
          clear HSd
          go_region_held3 (fun w' => w'.cell? ⟨wr.heap.size, 1, none⟩ = some (.int .i64 pa) ∧ w'.cell? ⟨wr.heap.size, 2, none⟩ = some (.int .i64 pb)) (first | exact ⟨d1, d2⟩ | go_keep) (first | (go_at_call 8; refine (Hput.out _ _ _ HS.out).mono ?_; rintro e w1 ⟨rfl, hs1⟩; clear HS d0 d1 d2; have HS := Lib.hid hs1; obtain ⟨d0, d1, d2⟩ := hs1.cells; clear hs1) | (go_at_call 13; refine (Hrput.out _ _ HS.out).mono ?_; rintro e w1 ⟨rfl, hs1⟩; clear HS d0 d1 d2; have HS := Lib.hid hs1; obtain ⟨d0, d1, d2⟩ := hs1.cells; clear hs1))
          all_goals
            obtain ⟨fx, hfx⟩ : ∃ x, (frameR n F' pb).1 = x := ⟨_, rfl⟩
            obtain ⟨fe, hfe⟩ : ∃ x, (frameR n F' pb).2 = x := ⟨_, rfl⟩
            obtain ⟨nxt, hnx⟩ : ∃ x, (nextV (nx n F' pa.toNat)).1 = x := ⟨_, rfl⟩
            obtain ⟨ok, hok⟩ : ∃ x, (nextV (nx n F' pa.toNat)).2 = x := ⟨_, rfl⟩
            obtain ⟨ct, hct⟩ : ∃ x : Int, (cn n F' pa pb : Int) = x := ⟨_, rfl⟩
            obtain ⟨ln, hln⟩ : ∃ x, sumF F' ((n + 255) / 256) = x := ⟨_, rfl⟩
            have h1 := fun W (s : St w b rb n F' F' (m + 1) wr.heap.size (.cells #[.int .u8 k, .int .i64 pa, .int .i64 pb] 31 (0, 0)) W) => frame_st s pb
            have h2 := fun W (s : St w b rb n F' F' (m + 1) wr.heap.size (.cells #[.int .u8 k, .int .i64 pa, .int .i64 pb] 31 (0, 0)) W) => rframe_st s (by omega) pb
            have h3 := fun W (s : St w b rb n F' F' (m + 1) wr.heap.size (.cells #[.int .u8 k, .int .i64 pa, .int .i64 pb] 31 (0, 0)) W) => next_st s pa hpa.2
            have h4 := fun W (s : St w b rb n F' F' (m + 1) wr.heap.size (.cells #[.int .u8 k, .int .i64 pa, .int .i64 pb] 31 (0, 0)) W) => rnext_st s (by omega) pa
            have h5 := fun W (s : St w b rb n F' F' (m + 1) wr.heap.size (.cells #[.int .u8 k, .int .i64 pa, .int .i64 pb] 31 (0, 0)) W) => count_st s Hn2.out pa pb hpa.2
            have h6 := fun W (s : St w b rb n F' F' (m + 1) wr.heap.size (.cells #[.int .u8 k, .int .i64 pa, .int .i64 pb] 31 (0, 0)) W) => rcount_st s (by omega) pa pb
            have h7 := fun W (s : St w b rb n F' F' (m + 1) wr.heap.size (.cells #[.int .u8 k, .int .i64 pa, .int .i64 pb] 31 (0, 0)) W) => len_st s
            have h8 := fun W (s : St w b rb n F' F' (m + 1) wr.heap.size (.cells #[.int .u8 k, .int .i64 pa, .int .i64 pb] 31 (0, 0)) W) => s.list
            simp only [hfx, hfe, hnx, hok, hct, hln] at h1 h2 h3 h4 h5 h6 h7 h8
            have H1 := Lib.hid h1
            have H2 := Lib.hid h2
            have H3 := Lib.hid h3
            have H4 := Lib.hid h4
            have H5 := Lib.hid h5
            have H6 := Lib.hid h6
            have H7 := Lib.hid h7
            have H8 := Lib.hid h8
            clear h1 h2 h3 h4 h5 h6 h7 h8 hfx hfe hnx hok hct hln
            go_wp2_with (first
              | (go_at_call 11; refine (H1.out _ HS.out).mono ?_; rintro e w2 ⟨rfl, hs2⟩; clear HS d0 d1 d2; have HS := Lib.hid hs2; obtain ⟨d0, d1, d2⟩ := hs2.cells; obtain ⟨ra, rc, dl⟩ := H8.out _ hs2; clear hs2)
              | (go_at_call 16; refine (H2.out _ HS.out).mono ?_; rintro e w3 ⟨rfl, rfl⟩)
              | (go_at_call 17; refine (H3.out _ HS.out).mono ?_; rintro e w3 ⟨rfl, rfl⟩)
              | (go_at_call 18; refine (H4.out _ HS.out).mono ?_; rintro e w3 ⟨rfl, rfl⟩))
            go_quiet ((first | (go_at_call 19; exact quiet_left (H5.out _ (HS.out.drewN _))) | (go_at_call 20; exact quiet_left (H6.out _ (HS.out.drewN _))) | (go_at_call 21; exact quiet_left (H7.out _ (HS.out.drewN _)))))
            go_wp2
            go_roundw
            case rel => exact ⟨m + 1, F', by go_num, by omega, (HS.out.drewN _).base⟩
            case measure => simp [intOf]; omega
      · obtain ⟨c, d, F', hc1, hc2, hc3⟩ : ∃ c d F', (frameR n F pa).1 = c ∧ (frameR n F pa).2 = d ∧ dropF n F pa = F' := ⟨_, _, _, rfl, rfl, rfl⟩
        have hdrop := fun G k1 W (s : St w b rb n F G k1 wr.heap.size (.cells #[.int .u8 k, .int .i64 pa, .int .i64 pb] 31 (0, 0)) W) => drop_st s pa
        have hrdrop := fun G W (s : St w b rb n G F m wr.heap.size (.cells #[.int .u8 k, .int .i64 pa, .int .i64 pb] 31 (0, 0)) W) => rdrop_st s (by omega) pa
        simp only [hc1, hc2, hc3] at hdrop hrdrop
        have Hdrop := Lib.hid hdrop
        have Hrdrop := Lib.hid hrdrop
        have kk : (k : Int) % 4 = 2 := by omega
        clear hdrop hrdrop hc1 hc2 hc3 hk4
        obtain ⟨fx, hfx⟩ : ∃ x, (frameR n F' pb).1 = x := ⟨_, rfl⟩
        obtain ⟨fe, hfe⟩ : ∃ x, (frameR n F' pb).2 = x := ⟨_, rfl⟩
        obtain ⟨nxt, hnx⟩ : ∃ x, (nextV (nx n F' pa.toNat)).1 = x := ⟨_, rfl⟩
        obtain ⟨ok, hok⟩ : ∃ x, (nextV (nx n F' pa.toNat)).2 = x := ⟨_, rfl⟩
        obtain ⟨ct, hct⟩ : ∃ x : Int, (cn n F' pa pb : Int) = x := ⟨_, rfl⟩
        obtain ⟨ln, hln⟩ : ∃ x, sumF F' ((n + 255) / 256) = x := ⟨_, rfl⟩
        have h1 := fun W (s : St w b rb n F' F' (m + 1) wr.heap.size (.cells #[.int .u8 k, .int .i64 pa, .int .i64 pb] 31 (0, 0)) W) => frame_st s pb
        have h2 := fun W (s : St w b rb n F' F' (m + 1) wr.heap.size (.cells #[.int .u8 k, .int .i64 pa, .int .i64 pb] 31 (0, 0)) W) => rframe_st s (by omega) pb
        have h3 := fun W (s : St w b rb n F' F' (m + 1) wr.heap.size (.cells #[.int .u8 k, .int .i64 pa, .int .i64 pb] 31 (0, 0)) W) => next_st s pa hpa.2
        have h4 := fun W (s : St w b rb n F' F' (m + 1) wr.heap.size (.cells #[.int .u8 k, .int .i64 pa, .int .i64 pb] 31 (0, 0)) W) => rnext_st s (by omega) pa
        have h5 := fun W (s : St w b rb n F' F' (m + 1) wr.heap.size (.cells #[.int .u8 k, .int .i64 pa, .int .i64 pb] 31 (0, 0)) W) => count_st s Hn2.out pa pb hpa.2
        have h6 := fun W (s : St w b rb n F' F' (m + 1) wr.heap.size (.cells #[.int .u8 k, .int .i64 pa, .int .i64 pb] 31 (0, 0)) W) => rcount_st s (by omega) pa pb
        have h7 := fun W (s : St w b rb n F' F' (m + 1) wr.heap.size (.cells #[.int .u8 k, .int .i64 pa, .int .i64 pb] 31 (0, 0)) W) => len_st s
        have h8 := fun W (s : St w b rb n F' F' (m + 1) wr.heap.size (.cells #[.int .u8 k, .int .i64 pa, .int .i64 pb] 31 (0, 0)) W) => s.list
        simp only [hfx, hfe, hnx, hok, hct, hln] at h1 h2 h3 h4 h5 h6 h7 h8
        have H1 := Lib.hid h1
        have H2 := Lib.hid h2
        have H3 := Lib.hid h3
        have H4 := Lib.hid h4
        have H5 := Lib.hid h5
        have H6 := Lib.hid h6
        have H7 := Lib.hid h7
        have H8 := Lib.hid h8
        clear h1 h2 h3 h4 h5 h6 h7 h8 hfx hfe hnx hok hct hln
        go_wp2_with (first
          | (go_at_call 9; refine (Hdrop.out _ _ _ HS.out).mono ?_; rintro e w1 ⟨rfl, hs1⟩; clear HS d0 d1 d2; have HS := Lib.hid hs1; obtain ⟨d0, d1, d2⟩ := hs1.cells; clear hs1)
          | (go_at_call 14; refine (Hrdrop.out _ _ HS.out).mono ?_; rintro e w1 ⟨rfl, hs1⟩; clear HS d0 d1 d2; have HS := Lib.hid (hs1.more (Nat.le_succ m)); obtain ⟨d0, d1, d2⟩ := hs1.cells; clear hs1)
          | (go_at_call 11; refine (H1.out _ HS.out).mono ?_; rintro e w2 ⟨rfl, hs2⟩; clear HS d0 d1 d2; have HS := Lib.hid hs2; obtain ⟨d0, d1, d2⟩ := hs2.cells; obtain ⟨ra, rc, dl⟩ := H8.out _ hs2; clear hs2)
          | (go_at_call 16; refine (H2.out _ HS.out).mono ?_; rintro e w3 ⟨rfl, rfl⟩)
          | (go_at_call 17; refine (H3.out _ HS.out).mono ?_; rintro e w3 ⟨rfl, rfl⟩)
          | (go_at_call 18; refine (H4.out _ HS.out).mono ?_; rintro e w3 ⟨rfl, rfl⟩))
        go_quiet ((first | (go_at_call 19; exact quiet_left (H5.out _ (HS.out.drewN _))) | (go_at_call 20; exact quiet_left (H6.out _ (HS.out.drewN _))) | (go_at_call 21; exact quiet_left (H7.out _ (HS.out.drewN _)))))
        go_wp2
        go_roundw
        case rel => exact ⟨m + 1, F', by go_num, by omega, (HS.out.drewN _).base⟩
        case measure => simp [intOf]; omega
      · obtain ⟨c, F', hc1, hc2⟩ : ∃ c F', (moveR n F pa pb).1 = c ∧ (moveR n F pa pb).2 = F' := ⟨_, _, rfl, rfl⟩
        have hmove := fun G k1 W (s : St w b rb n F G k1 wr.heap.size (.cells #[.int .u8 k, .int .i64 pa, .int .i64 pb] 31 (0, 0)) W) => move_st s pa pb
        have hrmove := fun G W (s : St w b rb n G F m wr.heap.size (.cells #[.int .u8 k, .int .i64 pa, .int .i64 pb] 31 (0, 0)) W) => rmove_st' s (by omega) pa pb
        simp only [hc1, hc2] at hmove hrmove
        have Hmove := Lib.hid hmove
        have Hrmove := Lib.hid hrmove
        have kk : (k : Int) % 4 = 3 := by omega
        clear hmove hrmove hc1 hc2 hk4
        go_wp2
        have HSd := Lib.hid HS.out.drew
        clear HS
        have HS := HSd
        clear HSd
        go_region_held3 (fun w' => w'.cell? ⟨wr.heap.size, 1, none⟩ = some (.int .i64 pa) ∧ w'.cell? ⟨wr.heap.size, 2, none⟩ = some (.int .i64 pb)) (first | exact ⟨d1, d2⟩ | go_keep) (first | (go_at_call 10; refine (Hmove.out _ _ _ HS.out).mono ?_; rintro e w1 ⟨rfl, hs1⟩; clear HS d0 d1 d2; have HS := Lib.hid hs1; obtain ⟨d0, d1, d2⟩ := hs1.cells; clear hs1) | (go_at_call 15; refine (Hrmove.out _ _ HS.out).mono ?_; rintro e w1 ⟨rfl, hs1⟩; clear HS d0 d1 d2; have HS := Lib.hid hs1; obtain ⟨d0, d1, d2⟩ := hs1.cells; clear hs1))
        all_goals
          obtain ⟨fx, hfx⟩ : ∃ x, (frameR n F' pb).1 = x := ⟨_, rfl⟩
          obtain ⟨fe, hfe⟩ : ∃ x, (frameR n F' pb).2 = x := ⟨_, rfl⟩
          obtain ⟨nxt, hnx⟩ : ∃ x, (nextV (nx n F' pa.toNat)).1 = x := ⟨_, rfl⟩
          obtain ⟨ok, hok⟩ : ∃ x, (nextV (nx n F' pa.toNat)).2 = x := ⟨_, rfl⟩
          obtain ⟨ct, hct⟩ : ∃ x : Int, (cn n F' pa pb : Int) = x := ⟨_, rfl⟩
          obtain ⟨ln, hln⟩ : ∃ x, sumF F' ((n + 255) / 256) = x := ⟨_, rfl⟩
          have h1 := fun W (s : St w b rb n F' F' (m + 1) wr.heap.size (.cells #[.int .u8 k, .int .i64 pa, .int .i64 pb] 31 (0, 0)) W) => frame_st s pb
          have h2 := fun W (s : St w b rb n F' F' (m + 1) wr.heap.size (.cells #[.int .u8 k, .int .i64 pa, .int .i64 pb] 31 (0, 0)) W) => rframe_st s (by omega) pb
          have h3 := fun W (s : St w b rb n F' F' (m + 1) wr.heap.size (.cells #[.int .u8 k, .int .i64 pa, .int .i64 pb] 31 (0, 0)) W) => next_st s pa hpa.2
          have h4 := fun W (s : St w b rb n F' F' (m + 1) wr.heap.size (.cells #[.int .u8 k, .int .i64 pa, .int .i64 pb] 31 (0, 0)) W) => rnext_st s (by omega) pa
          have h5 := fun W (s : St w b rb n F' F' (m + 1) wr.heap.size (.cells #[.int .u8 k, .int .i64 pa, .int .i64 pb] 31 (0, 0)) W) => count_st s Hn2.out pa pb hpa.2
          have h6 := fun W (s : St w b rb n F' F' (m + 1) wr.heap.size (.cells #[.int .u8 k, .int .i64 pa, .int .i64 pb] 31 (0, 0)) W) => rcount_st s (by omega) pa pb
          have h7 := fun W (s : St w b rb n F' F' (m + 1) wr.heap.size (.cells #[.int .u8 k, .int .i64 pa, .int .i64 pb] 31 (0, 0)) W) => len_st s
          have h8 := fun W (s : St w b rb n F' F' (m + 1) wr.heap.size (.cells #[.int .u8 k, .int .i64 pa, .int .i64 pb] 31 (0, 0)) W) => s.list
          simp only [hfx, hfe, hnx, hok, hct, hln] at h1 h2 h3 h4 h5 h6 h7 h8
          have H1 := Lib.hid h1
          have H2 := Lib.hid h2
          have H3 := Lib.hid h3
          have H4 := Lib.hid h4
          have H5 := Lib.hid h5
          have H6 := Lib.hid h6
          have H7 := Lib.hid h7
          have H8 := Lib.hid h8
          clear h1 h2 h3 h4 h5 h6 h7 h8 hfx hfe hnx hok hct hln
          go_wp2_with (first
            | (go_at_call 11; refine (H1.out _ HS.out).mono ?_; rintro e w2 ⟨rfl, hs2⟩; clear HS d0 d1 d2; have HS := Lib.hid hs2; obtain ⟨d0, d1, d2⟩ := hs2.cells; obtain ⟨ra, rc, dl⟩ := H8.out _ hs2; clear hs2)
            | (go_at_call 16; refine (H2.out _ HS.out).mono ?_; rintro e w3 ⟨rfl, rfl⟩)
            | (go_at_call 17; refine (H3.out _ HS.out).mono ?_; rintro e w3 ⟨rfl, rfl⟩)
            | (go_at_call 18; refine (H4.out _ HS.out).mono ?_; rintro e w3 ⟨rfl, rfl⟩))
          go_quiet ((first | (go_at_call 19; exact quiet_left (H5.out _ (HS.out.drewN _))) | (go_at_call 20; exact quiet_left (H6.out _ (HS.out.drewN _))) | (go_at_call 21; exact quiet_left (H7.out _ (HS.out.drewN _)))))
          go_wp2
          go_roundw
          case rel => exact ⟨m + 1, F', by go_num, by omega, (HS.out.drewN _).base⟩
          case measure => simp [intOf]; omega
    · obtain rfl : ps.length = m := by omega
      go_wp2_with (go_at_call 6; refine (lives_any _).mono ?_; rintro e w2 ⟨rfl, hb9⟩)
      go_ret
      exact ⟨rfl, seq hb hb9⟩
theorem plays_any (x : Int) (a : Option Addr) (cap : Nat) (ps : List Act3) (w : World) (hP : Acts w a ps) :
    Calls Try.prog 4 #[.int .i64 x, .slice a ps.length cap] w fun e w' => e = .returned (.bool true) ∧ Below w.heap.size w w' := by
  by_cases hx : x < 1 ∨ 524288 < x
  · exact plays_no x a ps.length cap w hx
  · obtain ⟨n, rfl⟩ : ∃ n : Nat, x = n := ⟨x.toNat, by omega⟩
    by_cases hl : 200 < ps.length
    · exact plays_many n a ps.length cap w (by omega) (by omega) hl hP.many
    · exact plays_walk n a cap ps w (by omega) (by omega) (by omega) hP
end Go.Proofs.Ytkonpieebemfbaa
