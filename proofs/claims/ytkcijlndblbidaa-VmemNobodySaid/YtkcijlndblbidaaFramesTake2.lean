/- The walk of Take: all together. -/
import Derived.Test.YtkcijlndblbidaaFramesTake
namespace Go.Proofs.Ytkcijlndblbidaa.Fr
open Go.ChangeShapes Go.WideShapes Go.ChangeAt Go.RowKit
set_option linter.unusedVariables false

theorem frame_drew {b room page : Nat} {s : PS} {S : Nat → Prop} {w : World} (h : Pl S b room page s w) (n : Nat) : Pl S b room page s (w.drewN n) := h.grow ⟨rfl, rfl, rfl, Nat.le_refl _, fun _ _ => rfl⟩
theorem below_drewN' (n : Nat) (w : World) : Below w.heap.size w (w.drewN n) := ⟨rfl, rfl, rfl, Nat.le_refl _, fun _ _ => rfl⟩
theorem freshS_used (s : PS) : (freshS s).used = s.used := by unfold freshS; split <;> rfl
theorem freshS_high (s : PS) : (freshS s).high = s.high := by unfold freshS; split <;> rfl
theorem freshS_times (s : PS) : (freshS s).times = s.times := by unfold freshS; split <;> rfl
set_option maxRecDepth 100000 in
set_option maxHeartbeats 1000000 in
theorem take_full (S : Nat → Prop) (b room page : Nat) (s : PS) (w : World) (hP : Pl S b room page s w) (hk : s.ok room page) (hu : s.used = room) :
    Calls Try.prog 105 #[.pointer (some ⟨b, 0, none⟩)] w fun e w' => e = .returned (.tuple #[.int .i64 0, .int .i64 14]) ∧ Below w.heap.size w w' := by
  obtain ⟨aw, cw, at_, ct, ab, cb, hF, -, -⟩ := hP
  have c3 := at_cell hF.head 3 _ rfl
  have c5 := at_cell hF.head 5 _ rfl
  rw [hu] at c5
  have hr : ¬ (room : Int) = 0 := by have := hk.room1; omega
  clear hF hk hu
  go_enter Try.func105, Try.ntmps105
  go_wp2
  go_quiet (fail)
  go_wp2
  go_ret2
  exact ⟨rfl, below_drewN' _ _⟩
theorem take_end {S S2 : Nat → Prop} {b room page : Nat} {s : PS} {ab2 : Option Addr} {cw2 ct2 cb2 g gt f q : Nat} {w w2 w3 w4 w5 w6 : World}
    (hM : FMem b room page { n := (freshS s).n, used := (freshS s).used, high := (freshS s).high, times := (freshS s).times, tk := fun i => if i = f then true else (freshS s).tk i, bk := (freshS s).bk, wd := fun g i => if g = f then 0 else (freshS s).wd g i } (some ⟨g, 0, none⟩) cw2 (some ⟨gt, 0, none⟩) ct2 ab2 cb2 w4)
    (hd6 : w6.heap[b]? = some (.cells ((#[.slice (some ⟨g, 0, none⟩) ((freshS s).n * page) cw2, .slice (some ⟨gt, 0, none⟩) (freshS s).n ct2, .slice ab2 (freshS s).bk.length cb2, .int .i64 room, .int .i64 page, .int .i64 s.used, .int .i64 s.high, .int .i64 s.times].setIfInBounds 5 (.int .i64 ((s.used : Int) + 1))).setIfInBounds 7 (.int .i64 ((s.times : Int) + 1))) 206 (0, 0)))
    (hS : S2 b ∧ (∀ a, some (⟨g, 0, none⟩ : Addr) = some a → S2 a.block) ∧ (∀ a, some (⟨gt, 0, none⟩ : Addr) = some a → S2 a.block) ∧ ∀ a, ab2 = some a → S2 a.block) (hI : In S2 w2)
    (hc : Chg S w w2) (hg : Grew S S2 w)
    (h3 : w2.setCells g q (List.replicate page (.int .u64 0)) = w3) (h4 : w3.setCell ⟨gt, f, none⟩ (.bool true) = w4) (h5 : w4.setCell ⟨b, 5, none⟩ (.int .i64 ((s.used : Int) + 1)) = w5) (h6 : w5.setCell ⟨b, 7, none⟩ (.int .i64 ((s.times : Int) + 1)) = w6)
    (hf : nextF s = f) (X : Int) (hX : X = max (s.high : Int) ((s.used : Int) + 1)) :
    PDid S b room page (takeS s) w (w6.setCell ⟨b, 6, none⟩ (.int .i64 X)).drew := by
  obtain ⟨s1, s2, s3, s4⟩ := hS
  have z3 : w3.heap.size = w2.heap.size := by rw [← h3]; exact setCells_size _ _ _ _
  have z4 : w4.heap.size = w3.heap.size := by rw [← h4]; simp [World.setCell]
  have z5 : w5.heap.size = w4.heap.size := by rw [← h5]; simp [World.setCell]
  have z6 : w6.heap.size = w5.heap.size := by rw [← h6]; simp [World.setCell]
  have z7 : (w6.setCell ⟨b, 6, none⟩ (.int .i64 X)).drew.heap.size = w6.heap.size := by show (w6.setCell ⟨b, 6, none⟩ (.int .i64 X)).heap.size = _; simp [World.setCell]
  have k3 : Chg S2 w2 w3 := by rw [← h3]; exact Chg.setCells (.inl (s2 ⟨g, 0, none⟩ rfl)) _ _ (Chg.refl _ _)
  have k4 : Chg S2 w2 w4 := by rw [← h4]; exact k3.set (p := ⟨gt, f, none⟩) (.inl (s3 ⟨gt, 0, none⟩ rfl)) _
  have k5 : Chg S2 w2 w5 := by rw [← h5]; exact k4.set (p := ⟨b, 5, none⟩) (.inl s1) _
  have k6 : Chg S2 w2 w6 := by rw [← h6]; exact k5.set (p := ⟨b, 7, none⟩) (.inl s1) _
  have up : ∀ {e n : Nat} {v : Value} {f : Nat → Value}, OwnF (b + 1) e v n f w4 → OwnF (b + 1) e v n f (w6.setCell ⟨b, 6, none⟩ (.int .i64 X)).drew := fun h => by
    refine OwnF.from (w := w6.setCell ⟨b, 6, none⟩ (.int .i64 X)) ?_ (fun _ _ => rfl)
    rw [← h6, ← h5]
    exact ((h.headSet 5 _).headSet 7 _).headSet 6 _
  have hXn : X = ((max s.high (s.used + 1) : Nat) : Int) := by omega
  refine ⟨S2, ⟨some ⟨g, 0, none⟩, cw2, some ⟨gt, 0, none⟩, ct2, ab2, cb2, ⟨?_, ?_, ?_, ?_⟩, ⟨s1, s2, s3, s4⟩, fun k hk => by have := hI k hk; omega⟩, hc.then ((k6.set (p := ⟨b, 6, none⟩) (.inl s1) _).drew) hg, hg⟩
  · show (w6.setCell ⟨b, 6, none⟩ (.int .i64 X)).heap[b]? = _
    rw [heap_setCell_same _ b 6 _ _ _ hd6, hXn]
    rfl
  · exact (up hM.words).congr fun i hi => by
      show _ = Value.int .u64 ((if i / page = nextF s then 0 else (freshS s).wd (i / page) (i % page) : Nat) : Int)
      rw [hf]; rfl
  · exact (up hM.taken).congr fun i hi => by
      show _ = Value.bool (if i = nextF s then true else (freshS s).tk i)
      rw [hf]; rfl
  · exact up hM.back
set_option maxRecDepth 100000 in
set_option maxHeartbeats 4000000 in
theorem take_yes (S : Nat → Prop) (b room page : Nat) (s : PS) (w : World) (hP : Pl S b room page s w) (hk : s.ok room page) (hu : s.used < room) (ht : s.times ≤ 1000000000) :
    Calls Try.prog 105 #[.pointer (some ⟨b, 0, none⟩)] w fun e w' => e = .returned (.tuple #[.int .i64 (nextF s), .int .i64 0]) ∧ PDid S b room page (takeS s) w w' := by
  have Hfresh := fun W hW => fresh_pl S b room page s W hW hk hu
  have HP := Lib.hid hP
  obtain ⟨hf, hfn⟩ := nextF_lt hk hu
  obtain ⟨f, hfeq⟩ : ∃ f, nextF s = f := ⟨_, rfl⟩
  simp only [hfeq] at Hfresh hf ⊢
  replace Hfresh := Lib.hid Hfresh
  obtain ⟨aw, cw, at_, ct, ab, cb, hF, -, -⟩ := hP
  have c3 := at_cell hF.head 3 _ rfl
  have c5 := at_cell hF.head 5 _ rfl
  have hr0 := hk.room1
  have hp0 := hk.page1
  have hhigh := hk.high
  have hr : ¬ (room : Int) = 0 := by omega
  have hur : ¬ (s.used : Int) = room := by omega
  have Hfeq := Lib.hid hfeq
  have Hf := Lib.hid (show f < (freshS s).n ∧ (freshS s).n ≤ room from ⟨hf, hfn⟩)
  have hus : s.used ≤ 4096 := by omega
  clear hF hk hfeq hf hfn
  go_enter Try.func105, Try.ntmps105
  go_wp2
  go_quiet (fail)
  clear c3 c5
  have HPn := Lib.hid (frame_drew HP.out nq)
  go_wp2_with (go_at_call 147; refine (Hfresh.out _ HPn.out).mono ?_; rintro e w2 ⟨rfl, hd⟩)
  obtain ⟨S2, ⟨aw2, cw2, at2, ct2, ab2, cb2, hF2, hS2, hI2⟩, hc2, hg2⟩ := hd
  obtain ⟨hfl, hfr⟩ := Hf.out
  have hN : f * page + page ≤ (freshS s).n * page := by
    have := Nat.mul_le_mul_right page (show f + 1 ≤ (freshS s).n by omega)
    rw [Nat.add_mul] at this
    omega
  obtain ⟨-, -, -, hform, -⟩ := hF2.words.form
  obtain ⟨g, rfl, -, -⟩ := hform (by omega)
  obtain ⟨-, -, -, hform2, -⟩ := hF2.taken.form
  obtain ⟨gt, rfl, -, -⟩ := hform2 (by omega)
  have Hframe := Lib.hid (frame_any hF2 hr0 hp0 hfr f g hfl rfl)
  have hclr := clear_run hF2 f hfl hp0.1
  have hF3 := hF2.clear f hp0.1
  obtain ⟨w3, hw3⟩ : ∃ w3, w2.setCells g (f * page) (List.replicate page (.int .u64 0)) = w3 := ⟨_, rfl⟩
  rw [hw3] at hF3
  simp only [hw3] at hclr
  have hF4 := hF3.setTaken f true
  have c1 := at_cell hF3.head 1 _ rfl
  have ctk := hF3.taken.cell (show f < (freshS s).n from hfl)
  have ftk := hF3.taken.free f
  obtain ⟨w4, hw4⟩ : ∃ w4, w3.setCell ⟨gt, f, none⟩ (.bool true) = w4 := ⟨_, rfl⟩
  rw [hw4] at hF4
  have hd4 : w4.heap[b]? = some (.cells #[.slice (some ⟨g, 0, none⟩) ((freshS s).n * page) cw2, .slice (some ⟨gt, 0, none⟩) (freshS s).n ct2, .slice ab2 (freshS s).bk.length cb2, .int .i64 room, .int .i64 page, .int .i64 s.used, .int .i64 s.high, .int .i64 s.times] 206 (0, 0)) := by
    have := hF4.head
    rw [← freshS_used s, ← freshS_high s, ← freshS_times s]
    exact this
  have hd5 := heap_setCell_same w4 b 5 _ _ (.int .i64 ((s.used : Int) + 1)) hd4
  have hd6 := heap_setCell_same (w4.setCell ⟨b, 5, none⟩ (.int .i64 ((s.used : Int) + 1))) b 7 _ _ (.int .i64 ((s.times : Int) + 1)) hd5
  have c5 := at_cell hd4 5 _ rfl
  have f5 := at_free hd4 5
  have c7 := at_cell hd5 7 _ rfl
  have f7 := at_free hd5 7
  have c65 := at_cell hd6 5 _ rfl
  have c66 := at_cell hd6 6 _ rfl
  have f66 := at_free hd6 6
  obtain ⟨w5, hw5⟩ : ∃ w5, w4.setCell ⟨b, 5, none⟩ (.int .i64 ((s.used : Int) + 1)) = w5 := ⟨_, rfl⟩
  obtain ⟨w6, hw6⟩ : ∃ w6, w5.setCell ⟨b, 7, none⟩ (.int .i64 ((s.times : Int) + 1)) = w6 := ⟨_, rfl⟩
  rw [hw5] at c7 f7 c65 c66 f66 hd6
  rw [hw6] at c65 c66 f66 hd6
  have hfi : (f : Int) < (freshS s).n := by omega
  have Hpack := Lib.hid (show FMem b room page _ _ _ _ _ _ _ w4 from hF4)
  have HS2 := Lib.hid hS2
  have HI2 := Lib.hid hI2
  have Hc2 := Lib.hid hc2
  have Hg2 := Lib.hid hg2
  have Hw3 := Lib.hid hw3
  have Hw4 := Lib.hid hw4
  have Hw5 := Lib.hid hw5
  have Hw6 := Lib.hid hw6
  have Hd6 := Lib.hid hd6
  have hq0 : (0 : Int) ≤ (f : Int) := by omega
  clear hF2 hF3 hF4 hS2 hI2 hc2 hg2 hw3 hd4 hd5 hd6 hform hform2 hN hfl hfr
  obtain ⟨N, hNn⟩ : ∃ N, (freshS s).n = N := ⟨_, rfl⟩
  rw [hNn] at c1 hfi
  have HN := Lib.hid hNn
  clear hNn
  obtain ⟨q, hq⟩ : ∃ q, f * page = q := ⟨_, rfl⟩
  rw [hq] at Hframe hclr
  clear hq
  refine Hframe.out.mono ?_
  rintro e w7 ⟨rfl, rfl⟩
  go_wp2
  go_region_law (fail)
  all_goals
    go_wp2
    all_goals
      go_ret2
      exact ⟨rfl, take_end Hpack.out Hd6.out HS2.out HI2.out (Chg.trans (Chg.of (below_drewN' _ w)) Hc2.out (fun _ _ h => h)) (Grew.trans (Grew.refl S w) Hg2.out (Nat.le_refl _)) Hw3.out Hw4.out Hw5.out Hw6.out Hfeq.out _ (by first | omega | (rename_i hmx; omega))⟩
end Go.Proofs.Ytkcijlndblbidaa.Fr
