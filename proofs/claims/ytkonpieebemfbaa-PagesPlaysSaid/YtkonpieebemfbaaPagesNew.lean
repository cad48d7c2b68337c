/- The walks of New and Len. -/
import Derived.Test.YtkonpieebemfbaaPagesOps2
namespace Go.Proofs.Ytkonpieebemfbaa
open Go.ChangeShapes Go.WideShapes Go.ChangeAt Go.RowKit
set_option linter.unusedVariables false

theorem ptr_info : (Try.prog.info? 59).map (fun i => (i.zero, i.size, i.bytes)) = some (some (.pointer none), 1, 8) := by kernel_rfl
def nils (n : Nat) : Array Value := ((List.replicate n (none : Option Nat)).map ptr).toArray
theorem made_ptrs (n : Nat) : madeCells (Value.pointer none).cells (n * 1) = nils n := by
  apply Array.toList_inj.1
  rw [Nat.mul_one]
  show (madeCells #[Value.pointer none] n).toList = _
  rw [toList_madeCells_one]
  simp [nils, ptr]
theorem sum_zeros (m : Nat) : sumF (fun _ => 0) m = 0 := by
  induction m with
  | zero => rfl
  | succ m ih => simp [sumF, ih, cnt_zeros]
theorem new_no (n : Int) (w : World) (h : n < 1 ∨ 524288 < n) :
    Calls Try.prog 7 #[.int .i64 n] w fun e w' => e = .returned (.tuple #[.pointer none, .int .i64 5]) ∧ w = w' := by
  rcases h with h | h
  · go_enter Try.func7, Try.ntmps7
    go_wp2
    go_ret2
    exact ⟨rfl, rfl⟩
  · have h1 : ¬ n < 1 := by omega
    go_enter Try.func7, Try.ntmps7
    go_wp2
    go_ret2
    exact ⟨rfl, rfl⟩
set_option maxRecDepth 100000 in
theorem new_yes (np : Nat) (w : World) (h1 : 1 ≤ np) (h2 : np ≤ 524288) :
    Calls Try.prog 7 #[.int .i64 np] w fun e w' => e = .returned (.tuple #[.pointer (some ⟨w.heap.size + 1, 0, none⟩), .int .i64 0]) ∧ (∃ S, Mp S (w.heap.size + 1) np (fun _ => 0) w' ∧ Up w.heap.size S) ∧ Below w.heap.size w w' := by
  obtain ⟨i0, hi, hz0, hz1, hz2⟩ := info_parts ptr_info
  obtain ⟨nt, hnt⟩ : ∃ nt, nt = (np + 255) / 256 := ⟨_, rfl⟩
  have hmk : ∀ W : World, (Instr.makeSlice 49 (.int .i64 (nt : Int)) (.int .i64 (nt : Int))).run Try.prog W = .ok (.slice (some ⟨W.heap.size, 0, none⟩) nt nt) (W.alloc (.cells (nils nt) 59)) := fun W => by
    have h := run_make (P := Try.prog) W 49 59 i0 (.pointer none) Try.underlying49 hi hz0 .i64 .i64 (nt : Int) (nt : Int) (by omega) (by omega) (by rw [hz2]; omega) (by omega)
    rw [hz1, Int.toNat_natCast, made_ptrs] at h
    exact h
  have hb1 := below_new w (.cells (nils nt) 59)
  have hg1 := heap_alloc_new w (.cells (nils nt) 59)
  have hsz : (w.alloc (.cells (nils nt) 59)).heap.size = w.heap.size + 1 := by simp
  have hq : ((np : Int) + 256 - 1) / 256 = nt := by omega
  have hx1 : (1 : Int) ≤ np := by omega
  have hx2 : (np : Int) ≤ 524288 := by omega
  obtain ⟨z, hz⟩ : ∃ z : Int, (np : Int) = z := ⟨_, rfl⟩
  rw [hz] at hq hx1 hx2 ⊢
  have Hz := Lib.hid hz
  have Hnt := Lib.hid hnt
  have Hb1 := Lib.hid hb1
  have Hg1 := Lib.hid hg1
  have Hsz := Lib.hid hsz
  have H2 := Lib.hid h2
  clear hb1 hg1 hsz hz hnt h1 h2
  go_enter Try.func7, Try.ntmps7
  go_wp2
  go_ret2
  have hb2 := below_new (w.alloc (.cells (nils nt) 59)) (.cells #[.slice (some ⟨w.heap.size, 0, none⟩) nt nt, .int .i64 z, .int .i64 0] 51)
  have hg2 := heap_alloc_new (w.alloc (.cells (nils nt) 59)) (.cells #[.slice (some ⟨w.heap.size, 0, none⟩) nt nt, .int .i64 z, .int .i64 0] 51)
  rw [Hsz.out] at hg2
  have hn := Hnt.out
  have h2 := H2.out
  refine ⟨by first | rfl | (rw [← Hsz.out]; rfl), ⟨fun k => k = w.heap.size ∨ k = w.heap.size + 1, ⟨w.heap.size, List.replicate nt none, ⟨?_, ?_, ?_, ?_, ?_, ?_, ?_⟩, ⟨.inr rfl, .inl rfl, ?_⟩, ?_, ?_⟩, ?_⟩, seq Hb1.out hb2⟩
  · rw [hg2, ← Hz.out, List.length_replicate, sum_zeros]; rfl
  · exact blockB hb2 (Nat.le_refl _) Hg1.out
  · rw [List.length_replicate]; omega
  · intro i hi _ j hj; rfl
  · intro i k hi hk
    simp at hi
    simp [hi] at hk
  · intro i j k hi hj hk
    simp at hi
    simp [hi] at hk
  · intro p; omega
  · intro i k hi hk
    simp at hi
    simp [hi] at hk
  · intro k hk
    simp
    omega
  · rw [List.length_replicate]; exact hn
  · intro k hk
    omega
theorem len_mp (S : Nat → Prop) (b np : Nat) (F : Nat → Nat) (w : World) (hM : Mp S b np F w) :
    Calls Try.prog 21 #[.pointer (some ⟨b, 0, none⟩)] w fun e w' => e = .returned (.int .i64 (sumF F ((np + 255) / 256))) ∧ w = w' := by
  obtain ⟨tb, ts, hM, _, _, hl⟩ := hM
  have c2 := at_cell hM.head 2 _ rfl
  rw [hl] at c2
  generalize (sumF F ((np + 255) / 256) : Int) = x at *
  clear hM hl
  go_enter Try.func21, Try.ntmps21
  go_wp2
  go_ret
  exact ⟨rfl, rfl⟩
theorem lives_any (w : World) : Calls Try.prog 6 #[] w fun e w' => e = .returned (.bool true) ∧ Below w.heap.size w w' := by
  have Hnew := Lib.hid (new_yes 9 w (by omega) (by omega))
  obtain ⟨b, hb⟩ : ∃ b, w.heap.size + 1 = b := ⟨_, rfl⟩
  rw [hb] at Hnew
  have Hput := Lib.hid fun S W (hW : Mp S b 9 (fun _ => 0) W) => put_mp S b 9 (fun _ => 0) W hW 3 7
  have Hmove := Lib.hid fun S W (hW : Mp S b 9 (putR 9 (fun _ => 0) 3 7).2 W) => move_mp S b 9 (putR 9 (fun _ => 0) 3 7).2 W hW 3 5
  have Hf5 := Lib.hid fun S W (hW : Mp S b 9 (moveR 9 (putR 9 (fun _ => 0) 3 7).2 3 5).2 W) => frame_mp S b 9 _ W hW 5
  have Hf3 := Lib.hid fun S W (hW : Mp S b 9 (moveR 9 (putR 9 (fun _ => 0) 3 7).2 3 5).2 W) => frame_mp S b 9 _ W hW 3
  have Hlen := Lib.hid fun S W (hW : Mp S b 9 (moveR 9 (putR 9 (fun _ => 0) 3 7).2 3 5).2 W) => len_mp S b 9 _ W hW
  rw [show (putR 9 (fun _ => 0) 3 7).1 = 0 from rfl] at Hput
  rw [show (moveR 9 (putR 9 (fun _ => 0) 3 7).2 3 5).1 = 0 from rfl] at Hmove
  rw [show (frameR 9 (moveR 9 (putR 9 (fun _ => 0) 3 7).2 3 5).2 5).1 = 7 from rfl, show (frameR 9 (moveR 9 (putR 9 (fun _ => 0) 3 7).2 3 5).2 5).2 = 0 from rfl] at Hf5
  rw [show (frameR 9 (moveR 9 (putR 9 (fun _ => 0) 3 7).2 3 5).2 3).1 = 0 from rfl, show (frameR 9 (moveR 9 (putR 9 (fun _ => 0) 3 7).2 3 5).2 3).2 = 12 from rfl] at Hf3
  rw [show sumF (moveR 9 (putR 9 (fun _ => 0) 3 7).2 3 5).2 ((9 + 255) / 256) = 1 from by decide +kernel] at Hlen
  clear hb
  go_enter Try.func6, Try.ntmps6
  go_wp2_with (first
    | (go_at_call 7; refine Hnew.out.mono ?_; rintro e w1 ⟨rfl, ⟨S1, m1, u1⟩, b1⟩; have M := Lib.hid m1; have U := Lib.hid u1; have hB := b1.size; have HB := Lib.hid b1; clear m1 u1 b1 Hnew)
    | (go_at_call 8; refine (Hput.out _ _ M.out).mono ?_; rintro e w2 ⟨rfl, hd⟩; obtain ⟨S2, m2, u2, b2⟩ := hd.up U.out hB; clear M U; have M := Lib.hid m2; have U := Lib.hid u2; replace hB := Nat.le_trans hB b2.size; have HB1 := Lib.hid (HB.out.trans b2); clear m2 u2 b2 hd HB; have HB := HB1; clear HB1)
    | (go_at_call 10; refine (Hmove.out _ _ M.out).mono ?_; rintro e w3 ⟨rfl, hd⟩; obtain ⟨S3, m2, u2, b2⟩ := hd.up U.out hB; clear M U; have M := Lib.hid m2; have U := Lib.hid u2; replace hB := Nat.le_trans hB b2.size; have HB1 := Lib.hid (HB.out.trans b2); clear m2 u2 b2 hd HB; have HB := HB1; clear HB1)
    | (go_at_call 11; refine (Hf5.out _ _ M.out).mono ?_; rintro e w4 ⟨rfl, b4⟩; have M4 := Lib.hid (M.out.grow b4); have HB4 := Lib.hid (HB.out.trans (b4.mono hB)); clear b4 Hf5)
    | (go_at_call 11; refine (Hf3.out _ _ M4.out).mono ?_; rintro e w5 ⟨rfl, b5⟩; have M5 := Lib.hid (M4.out.grow b5); have HB5 := Lib.hid (HB4.out.trans (b5.mono HB4.out.size)); clear b5 Hf3)
    | (go_at_call 21; refine (Hlen.out _ _ M5.out).mono ?_; rintro e w6 ⟨rfl, rfl⟩))
  go_ret
  exact ⟨rfl, HB5.out⟩
end Go.Proofs.Ytkonpieebemfbaa
