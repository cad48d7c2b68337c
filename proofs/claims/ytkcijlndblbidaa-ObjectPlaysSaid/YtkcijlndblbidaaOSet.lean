/- Layer 15: 'same' and 'set' of the law, over a memory and a row that hold the same words. -/
import Derived.Test.YtkcijlndblbidaaORef4
namespace Go.Proofs.Ytkcijlndblbidaa
open Go.ChangeShapes Go.WideShapes Go.ChangeAt Go.RowKit
set_option linter.unusedVariables false

section
variable {W0 w w' : World} {m n t bl : Nat} {g f : Nat → Nat} {K : List (Nat × Obj)}
theorem RF.load (h : RF W0 m n t g bl f K w) (a : Int) (ha : inG n a = true) :
    Calls Try.prog 24 #[.pointer (some ⟨m, 0, none⟩), .int .i64 a] w fun e w' => e = .returned (.tuple #[.int .u64 (g a.toNat), .int .i64 0]) ∧ RF W0 m n t g bl f K w' := by
  refine h.mem fun K hF => ?_
  have := load_fk hF a
  rw [ha] at this
  simpa only [if_true] using this
theorem RF.store (h : RF W0 m n t g bl f K w) (a : Int) (ha : inG n a = true) (x : Nat) (hx : x < 18446744073709551616) :
    Calls Try.prog 19 #[.pointer (some ⟨m, 0, none⟩), .int .i64 a, .int .u64 x] w fun e w' => e = .returned (.int .i64 0) ∧ RF W0 m n t (putG g a.toNat x) bl f K w' := by
  refine h.mem fun K hF => ?_
  have := store_fk hF a x hx
  rw [ha] at this
  simpa only [if_true] using this
set_option maxRecDepth 100000 in
theorem same15_yes (h : RF W0 m n t g bl g K w) (c : Nat) :
    Calls Try.prog 80 #[.pointer (some ⟨m, 0, none⟩), .slice (some ⟨bl, 0, none⟩) n c] w fun e w' => e = .returned (.bool true) ∧ RF W0 m n t g bl g K w' := by
  have hn := h.dims
  have hn1 : (n : Int) ≤ 4096 := by omega
  have H := Lib.hid h
  clear h
  go_enter Try.func80, Try.ntmps80
  go_wp2_with (fail)
  go_loopw [10] (fun i wr => ∃ (k : Nat), i = .int .i64 k ∧ k ≤ n ∧ RF W0 m n t g bl g K wr) (fun i _ => n - (intOf i).toNat)
  case atStart => exact ⟨0, rfl, by omega, H.out⟩
  case round =>
    clear H
    obtain ⟨k, rfl, hk, hF⟩ := hrel
    by_cases hlt : k < n
    · have hl := hF.load k (by simp [inG]; omega)
      simp only [Int.toNat_natCast] at hl
      have HL := Lib.hid hl
      have k1 : (k : Int) < n := by omega
      have k2 : (0 : Int) ≤ k := by omega
      have k3 : ((k : Int)).toNat = k := by omega
      have k4 : (k : Int) ≤ 4096 := by omega
      clear hl hF
      go_wp2_with (go_at_call 24; refine HL.out.mono ?_; rintro e w7 ⟨rfl, h7⟩; have d0 := h7.cell hlt; have H7 := Lib.hid h7; clear h7)
      go_roundw
      case rel => exact ⟨k + 1, by go_num, by omega, H7.out⟩
      case measure => simp [intOf]; omega
    · have k1 : ¬ (k : Int) < n := by omega
      have H7 := Lib.hid hF
      clear hF
      go_wp2
      go_ret
      exact ⟨rfl, H7.out⟩
/-- an act's cells -/
def actC (k : Nat) (a i b : Int) (x : Nat) (p q o : Int) : Array Value := #[.int .u8 k, .int .i64 a, .int .i64 i, .int .i64 b, .int .u64 x, .int .i64 p, .int .i64 q, .int .i64 o]
theorem sp_eq (n : Nat) (f : Nat → Nat) (a i b : Int) (h1 : -9223372036854775808 ≤ b) (h2 : b ≤ 9223372036854775807) :
    rsE n f a i 1 (IntKind.u64.wrap b).toNat = spE n f a i b ∧ rsG n f a i 1 (IntKind.u64.wrap b).toNat = spG n f a i b := by
  have hw : IntKind.u64.wrap b = b % 18446744073709551616 := IntKind.wrap_u64 b
  have he : rsE n f a i 1 (IntKind.u64.wrap b).toNat = spE n f a i b := by
    unfold rsE spE
    by_cases hp : plE n f a i 1 = 0
    · rw [if_pos hp, if_pos hp]
      by_cases hb : b < 0 ∨ 2147483647 < b
      · rw [if_pos hb, if_pos ⟨rfl, by rw [hw]; omega⟩]
      · rw [if_neg hb, if_neg (fun e => hb (by have := e.2; rw [hw] at this; omega))]
    · rw [if_neg hp, if_neg hp]
  refine ⟨he, ?_⟩
  unfold rsG spG
  rw [he]
  by_cases h0 : spE n f a i b = 0
  · rw [if_pos h0, if_pos h0]
    have hb : ¬ (b < 0 ∨ 2147483647 < b) := by
      intro hb
      unfold spE at h0
      split at h0
      · first | omega | (rw [if_pos hb] at h0; omega)
      · contradiction
    rw [show (IntKind.u64.wrap b).toNat = b.toNat by rw [hw]; omega]
  · rw [if_neg h0, if_neg h0]
set_option maxRecDepth 100000 in
theorem set_make (h : RF W0 m n t g bl g K w) (hg : Small n g) (c : Nat) (k : Nat) (hk : k < 256) (hk16 : (k : Int) % 16 = 0 ∨ (k : Int) % 16 = 1) (a i b : Int) (x : Nat) (p q o : Int) (ha : a ≤ 9223372036854775807) :
    Calls Try.prog 77 #[.pointer (some ⟨m, 0, none⟩), .slice (some ⟨bl, 0, none⟩) n c, .agg (actC k a i b x p q o)] w fun e w' => e = .returned (.bool true) ∧ RF W0 m n t (makG n g a p q o) bl (makG n g a p q o) K w' := by
  have hB := h.box (actC k a i b x p q o) 108
  unfold actC at *
  have HO := Lib.hid (fun f W (hW : RF W0 m n t g bl f ((w.heap.size, .cells #[.int .u8 k, .int .i64 a, .int .i64 i, .int .i64 b, .int .u64 x, .int .i64 p, .int .i64 q, .int .i64 o] 108 (0, 0)) :: K) W) => hW.mem fun K hF => make_fk hF hg a p q o)
  have HR := Lib.hid (fun g' W (hW : RF W0 m n t g' bl g ((w.heap.size, .cells #[.int .u8 k, .int .i64 a, .int .i64 i, .int .i64 b, .int .u64 x, .int .i64 p, .int .i64 q, .int .i64 o] 108 (0, 0)) :: K) W) => rmake_any hW c a p q o ha)
  generalize makG n g a p q o = g1 at *
  generalize makE n a p q o = er at *
  unfold Hd.hv spc at *
  have hblk := hB.block (List.mem_cons_self ..)
  have d0 := at_cell hblk 0 _ rfl
  have d1 := at_cell hblk 1 _ rfl
  have d5 := at_cell hblk 5 _ rfl
  have d6 := at_cell hblk 6 _ rfl
  have d7 := at_cell hblk 7 _ rfl
  have HS := Lib.hid (hB.grow (below_drew _))
  have hk1 : (k : Int) < 256 := by omega
  clear h hB hblk hk
  rcases hk16 with hk16 | hk16
  all_goals
    go_enter Try.func77, Try.ntmps77
    go_wp2_with (fail)
    clear d0
    go_region_held3 (fun w' => w'.cell? ⟨w.heap.size, 1, none⟩ = some (.int .i64 a) ∧ w'.cell? ⟨w.heap.size, 5, none⟩ = some (.int .i64 p) ∧ w'.cell? ⟨w.heap.size, 6, none⟩ = some (.int .i64 q) ∧ w'.cell? ⟨w.heap.size, 7, none⟩ = some (.int .i64 o)) (first | exact ⟨d1, d5, d6, d7⟩ | go_keep) (first | (go_at_call 81; refine (HO.out _ _ HS.out).mono ?_; rintro e w9 ⟨rfl, h9⟩; clear HS d1 d5 d6 d7; have HS := Lib.hid h9; have hblk := h9.block (List.mem_cons_self ..); have d1 := at_cell hblk 1 _ rfl; have d5 := at_cell hblk 5 _ rfl; have d6 := at_cell hblk 6 _ rfl; have d7 := at_cell hblk 7 _ rfl; clear h9 hblk) | (go_at_call 128; refine (HR.out _ _ HS.out).mono ?_; rintro e w9 ⟨rfl, h9⟩; clear HS d1 d5 d6 d7; have HS := Lib.hid h9; have hblk := h9.block (List.mem_cons_self ..); have d1 := at_cell hblk 1 _ rfl; have d5 := at_cell hblk 5 _ rfl; have d6 := at_cell hblk 6 _ rfl; have d7 := at_cell hblk 7 _ rfl; clear h9 hblk))
    all_goals
      replace HS := Lib.hid HS.out.tail
      clear d1 d5 d6 d7
      go_wp2
      go_ret
      exact ⟨rfl, HS.out⟩
theorem rs_ge (n : Nat) (f : Nat → Nat) (a i k : Int) (hk : k ≠ 1) (x : Nat) : rsE n f a i k x = geE n f a i k ∧ rsG n f a i k x = seG n f a i k x := by
  have he : rsE n f a i k x = geE n f a i k := by
    unfold rsE
    by_cases hp : plE n f a i k = 0
    · rw [if_pos hp, if_neg (fun e => hk e.1)]
    · rw [if_neg hp]
      unfold geE
      rw [if_neg hp]
  refine ⟨he, ?_⟩
  unfold rsG seG
  rw [he]
set_option maxRecDepth 100000 in
theorem set_ptr (h : RF W0 m n t g bl g K w) (hg : Small n g) (c : Nat) (k : Nat) (hk : k < 256) (hk16 : (k : Int) % 16 = 2 ∨ (k : Int) % 16 = 3) (a i b : Int) (x : Nat) (p q o : Int) (hb1 : -9223372036854775808 ≤ b) (hb2 : b ≤ 9223372036854775807) :
    Calls Try.prog 77 #[.pointer (some ⟨m, 0, none⟩), .slice (some ⟨bl, 0, none⟩) n c, .agg (actC k a i b x p q o)] w fun e w' => e = .returned (.bool true) ∧ RF W0 m n t (spG n g a i b) bl (spG n g a i b) K w' := by
  have hB := h.box (actC k a i b x p q o) 108
  unfold actC at *
  have hO := (fun f W (hW : RF W0 m n t g bl f ((w.heap.size, .cells #[.int .u8 k, .int .i64 a, .int .i64 i, .int .i64 b, .int .u64 x, .int .i64 p, .int .i64 q, .int .i64 o] 108 (0, 0)) :: K) W) => hW.mem fun K hF => setPointer_fk hF hg a i b)
  have hR := (fun g' W (hW : RF W0 m n t g' bl g ((w.heap.size, .cells #[.int .u8 k, .int .i64 a, .int .i64 i, .int .i64 b, .int .u64 x, .int .i64 p, .int .i64 q, .int .i64 o] 108 (0, 0)) :: K) W) => rset_any hW c hg a i 1 (.inl rfl) (IntKind.u64.wrap b).toNat)
  rw [(sp_eq n g a i b hb1 hb2).1, (sp_eq n g a i b hb1 hb2).2] at hR
  obtain ⟨X, hX⟩ : ∃ X : Nat, IntKind.u64.wrap b = X := ⟨(IntKind.u64.wrap b).toNat, by rw [IntKind.wrap_u64]; omega⟩
  rw [hX, Int.toNat_natCast] at hR
  generalize spG n g a i b = g1 at *
  generalize spE n g a i b = er at *
  unfold spc at *
  have HO := Lib.hid hO
  have HR := Lib.hid hR
  clear hO hR
  have hblk := hB.block (List.mem_cons_self ..)
  have d0 := at_cell hblk 0 _ rfl
  have d1 := at_cell hblk 1 _ rfl
  have d2 := at_cell hblk 2 _ rfl
  have d3 := at_cell hblk 3 _ rfl
  have HS := Lib.hid (hB.grow (below_drew _))
  have hk1 : (k : Int) < 256 := by omega
  clear h hB hblk hk
  rcases hk16 with hk16 | hk16
  all_goals
    go_enter Try.func77, Try.ntmps77
    go_wp2_with (fail)
    clear d0
    go_region_held3 (fun w' => w'.cell? ⟨w.heap.size, 1, none⟩ = some (.int .i64 a) ∧ w'.cell? ⟨w.heap.size, 2, none⟩ = some (.int .i64 i) ∧ w'.cell? ⟨w.heap.size, 3, none⟩ = some (.int .i64 b)) (first | exact ⟨d1, d2, d3⟩ | go_keep) (first | (go_at_call 83; refine (HO.out _ _ HS.out).mono ?_; rintro e w9 ⟨rfl, h9⟩; clear HS d1 d2 d3; have HS := Lib.hid h9; have hblk := h9.block (List.mem_cons_self ..); have d1 := at_cell hblk 1 _ rfl; have d2 := at_cell hblk 2 _ rfl; have d3 := at_cell hblk 3 _ rfl; clear h9 hblk) | (go_at_call 129; refine (HR.out _ _ HS.out).mono ?_; rintro e w9 ⟨rfl, h9⟩; clear HS d1 d2 d3; have HS := Lib.hid h9; have hblk := h9.block (List.mem_cons_self ..); have d1 := at_cell hblk 1 _ rfl; have d2 := at_cell hblk 2 _ rfl; have d3 := at_cell hblk 3 _ rfl; clear h9 hblk))
    all_goals
      replace HS := Lib.hid HS.out.tail
      clear d1 d2 d3
      go_wp2
      go_ret
      exact ⟨rfl, HS.out⟩
set_option maxRecDepth 100000 in
theorem set_float (h : RF W0 m n t g bl g K w) (hg : Small n g) (c : Nat) (k : Nat) (hk : k < 256) (hk16 : (k : Int) % 16 = 4 ∨ (k : Int) % 16 = 5) (a i b : Int) (x : Nat) (p q o : Int) (hx : x < 18446744073709551616) :
    Calls Try.prog 77 #[.pointer (some ⟨m, 0, none⟩), .slice (some ⟨bl, 0, none⟩) n c, .agg (actC k a i b x p q o)] w fun e w' => e = .returned (.bool true) ∧ RF W0 m n t (seG n g a i 2 x) bl (seG n g a i 2 x) K w' := by
  have hB := h.box (actC k a i b x p q o) 108
  unfold actC at *
  have hO := (fun f W (hW : RF W0 m n t g bl f ((w.heap.size, .cells #[.int .u8 k, .int .i64 a, .int .i64 i, .int .i64 b, .int .u64 x, .int .i64 p, .int .i64 q, .int .i64 o] 108 (0, 0)) :: K) W) => hW.mem fun K hF => setFloat_fk hF hg a i x hx)
  have hR := (fun g' W (hW : RF W0 m n t g' bl g ((w.heap.size, .cells #[.int .u8 k, .int .i64 a, .int .i64 i, .int .i64 b, .int .u64 x, .int .i64 p, .int .i64 q, .int .i64 o] 108 (0, 0)) :: K) W) => rset_any hW c hg a i 2 (.inr (.inl rfl)) x)
  rw [(rs_ge n g a i 2 (by omega) x).1, (rs_ge n g a i 2 (by omega) x).2] at hR
  generalize seG n g a i 2 x = g1 at *
  generalize geE n g a i 2 = er at *
  unfold spc at *
  have HO := Lib.hid hO
  have HR := Lib.hid hR
  clear hO hR
  have hblk := hB.block (List.mem_cons_self ..)
  have d0 := at_cell hblk 0 _ rfl
  have d1 := at_cell hblk 1 _ rfl
  have d2 := at_cell hblk 2 _ rfl
  have d4 := at_cell hblk 4 _ rfl
  have HS := Lib.hid (hB.grow (below_drew _))
  have hk1 : (k : Int) < 256 := by omega
  clear h hB hblk hk
  rcases hk16 with hk16 | hk16
  all_goals
    go_enter Try.func77, Try.ntmps77
    go_wp2_with (fail)
    clear d0
    go_region_held3 (fun w' => w'.cell? ⟨w.heap.size, 1, none⟩ = some (.int .i64 a) ∧ w'.cell? ⟨w.heap.size, 2, none⟩ = some (.int .i64 i) ∧ w'.cell? ⟨w.heap.size, 4, none⟩ = some (.int .u64 x)) (first | exact ⟨d1, d2, d4⟩ | go_keep) (first | (go_at_call 84; refine (HO.out _ _ HS.out).mono ?_; rintro e w9 ⟨rfl, h9⟩; clear HS d1 d2 d4; have HS := Lib.hid h9; have hblk := h9.block (List.mem_cons_self ..); have d1 := at_cell hblk 1 _ rfl; have d2 := at_cell hblk 2 _ rfl; have d4 := at_cell hblk 4 _ rfl; clear h9 hblk) | (go_at_call 129; refine (HR.out _ _ HS.out).mono ?_; rintro e w9 ⟨rfl, h9⟩; clear HS d1 d2 d4; have HS := Lib.hid h9; have hblk := h9.block (List.mem_cons_self ..); have d1 := at_cell hblk 1 _ rfl; have d2 := at_cell hblk 2 _ rfl; have d4 := at_cell hblk 4 _ rfl; clear h9 hblk) | (go_at_call 85; refine (ofloat_of _ _).mono ?_; rintro e w8 ⟨rfl, rfl⟩))
    all_goals
      replace HS := Lib.hid HS.out.tail
      clear d1 d2 d4
      go_wp2
      go_ret
      exact ⟨rfl, HS.out⟩
set_option maxRecDepth 100000 in
theorem set_word (h : RF W0 m n t g bl g K w) (hg : Small n g) (c : Nat) (k : Nat) (hk : k < 256) (hk16 : (k : Int) % 16 = 6 ∨ (k : Int) % 16 = 7) (a i b : Int) (x : Nat) (p q o : Int) (hx : x < 18446744073709551616) :
    Calls Try.prog 77 #[.pointer (some ⟨m, 0, none⟩), .slice (some ⟨bl, 0, none⟩) n c, .agg (actC k a i b x p q o)] w fun e w' => e = .returned (.bool true) ∧ RF W0 m n t (seG n g a i 3 x) bl (seG n g a i 3 x) K w' := by
  have hB := h.box (actC k a i b x p q o) 108
  unfold actC at *
  have hO := (fun f W (hW : RF W0 m n t g bl f ((w.heap.size, .cells #[.int .u8 k, .int .i64 a, .int .i64 i, .int .i64 b, .int .u64 x, .int .i64 p, .int .i64 q, .int .i64 o] 108 (0, 0)) :: K) W) => hW.mem fun K hF => setWord_fk hF hg a i x hx)
  have hR := (fun g' W (hW : RF W0 m n t g' bl g ((w.heap.size, .cells #[.int .u8 k, .int .i64 a, .int .i64 i, .int .i64 b, .int .u64 x, .int .i64 p, .int .i64 q, .int .i64 o] 108 (0, 0)) :: K) W) => rset_any hW c hg a i 3 (.inr (.inr rfl)) x)
  rw [(rs_ge n g a i 3 (by omega) x).1, (rs_ge n g a i 3 (by omega) x).2] at hR
  generalize seG n g a i 3 x = g1 at *
  generalize geE n g a i 3 = er at *
  unfold spc at *
  have HO := Lib.hid hO
  have HR := Lib.hid hR
  clear hO hR
  have hblk := hB.block (List.mem_cons_self ..)
  have d0 := at_cell hblk 0 _ rfl
  have d1 := at_cell hblk 1 _ rfl
  have d2 := at_cell hblk 2 _ rfl
  have d4 := at_cell hblk 4 _ rfl
  have HS := Lib.hid (hB.grow (below_drew _))
  have hk1 : (k : Int) < 256 := by omega
  clear h hB hblk hk
  rcases hk16 with hk16 | hk16
  all_goals
    go_enter Try.func77, Try.ntmps77
    go_wp2_with (fail)
    clear d0
    go_region_held3 (fun w' => w'.cell? ⟨w.heap.size, 1, none⟩ = some (.int .i64 a) ∧ w'.cell? ⟨w.heap.size, 2, none⟩ = some (.int .i64 i) ∧ w'.cell? ⟨w.heap.size, 4, none⟩ = some (.int .u64 x)) (first | exact ⟨d1, d2, d4⟩ | go_keep) (first | (go_at_call 82; refine (HO.out _ _ HS.out).mono ?_; rintro e w9 ⟨rfl, h9⟩; clear HS d1 d2 d4; have HS := Lib.hid h9; have hblk := h9.block (List.mem_cons_self ..); have d1 := at_cell hblk 1 _ rfl; have d2 := at_cell hblk 2 _ rfl; have d4 := at_cell hblk 4 _ rfl; clear h9 hblk) | (go_at_call 129; refine (HR.out _ _ HS.out).mono ?_; rintro e w9 ⟨rfl, h9⟩; clear HS d1 d2 d4; have HS := Lib.hid h9; have hblk := h9.block (List.mem_cons_self ..); have d1 := at_cell hblk 1 _ rfl; have d2 := at_cell hblk 2 _ rfl; have d4 := at_cell hblk 4 _ rfl; clear h9 hblk))
    all_goals
      replace HS := Lib.hid HS.out.tail
      clear d1 d2 d4
      go_wp2
      go_ret
      exact ⟨rfl, HS.out⟩
set_option maxRecDepth 100000 in
theorem set_copy (h : RF W0 m n t g bl g K w) (hg : Small n g) (c : Nat) (k : Nat) (hk : k < 256) (hk16 : (k : Int) % 16 = 8) (a i b : Int) (x : Nat) (p q o : Int) (hb2 : b ≤ 9223372036854775807) (hc : n ≤ c) (hc2 : c ≤ maxLen) :
    Calls Try.prog 77 #[.pointer (some ⟨m, 0, none⟩), .slice (some ⟨bl, 0, none⟩) n c, .agg (actC k a i b x p q o)] w fun e w' => e = .returned (.bool true) ∧ RF W0 m n t (cpG n g a b) bl (cpG n g a b) K w' := by
  have hB := h.box (actC k a i b x p q o) 108
  unfold actC at *
  have hO := (fun f W (hW : RF W0 m n t g bl f ((w.heap.size, .cells #[.int .u8 k, .int .i64 a, .int .i64 i, .int .i64 b, .int .u64 x, .int .i64 p, .int .i64 q, .int .i64 o] 108 (0, 0)) :: K) W) => hW.mem fun K hF => copy_fk hF hg a b hb2)
  have hR := (fun g' W (hW : RF W0 m n t g' bl g ((w.heap.size, .cells #[.int .u8 k, .int .i64 a, .int .i64 i, .int .i64 b, .int .u64 x, .int .i64 p, .int .i64 q, .int .i64 o] 108 (0, 0)) :: K) W) => rcopy_any hW hg c hc hc2 a b hb2)
  generalize cpG n g a b = g1 at *
  generalize cpE n g a b = er at *
  unfold spc at *
  have HO := Lib.hid hO
  have HR := Lib.hid hR
  clear hO hR
  have hblk := hB.block (List.mem_cons_self ..)
  have d0 := at_cell hblk 0 _ rfl
  have d1 := at_cell hblk 1 _ rfl
  have d3 := at_cell hblk 3 _ rfl
  have HS := Lib.hid (hB.grow (below_drew _))
  have hk1 : (k : Int) < 256 := by omega
  clear h hB hblk hk
  all_goals
    go_enter Try.func77, Try.ntmps77
    go_wp2_with (fail)
    clear d0
    go_region_held3 (fun w' => w'.cell? ⟨w.heap.size, 1, none⟩ = some (.int .i64 a) ∧ w'.cell? ⟨w.heap.size, 3, none⟩ = some (.int .i64 b)) (first | exact ⟨d1, d3⟩ | go_keep) (first | (go_at_call 86; refine (HO.out _ _ HS.out).mono ?_; rintro e w9 ⟨rfl, h9⟩; clear HS d1 d3; have HS := Lib.hid h9; have hblk := h9.block (List.mem_cons_self ..); have d1 := at_cell hblk 1 _ rfl; have d3 := at_cell hblk 3 _ rfl; clear h9 hblk) | (go_at_call 130; refine (HR.out _ _ HS.out).mono ?_; rintro e w9 ⟨rfl, h9⟩; clear HS d1 d3; have HS := Lib.hid h9; have hblk := h9.block (List.mem_cons_self ..); have d1 := at_cell hblk 1 _ rfl; have d3 := at_cell hblk 3 _ rfl; clear h9 hblk))
    all_goals
      replace HS := Lib.hid HS.out.tail
      clear d1 d3
      go_wp2
      go_ret
      exact ⟨rfl, HS.out⟩
/-- what a plain store does -/
def rawG (n : Nat) (g : Nat → Nat) (a : Int) (x : Nat) : Nat → Nat := if inG n a then putG g a.toNat x else g
set_option maxRecDepth 100000 in
theorem set_raw (h : RF W0 m n t g bl g K w) (c : Nat) (k : Nat) (hk : k < 256) (hk16 : (k : Int) % 16 = 9) (a i b : Int) (x : Nat) (p q o : Int) (hx : x < 18446744073709551616) :
    Calls Try.prog 77 #[.pointer (some ⟨m, 0, none⟩), .slice (some ⟨bl, 0, none⟩) n c, .agg (actC k a i b x p q o)] w fun e w' => e = .returned (.bool true) ∧ RF W0 m n t (rawG n g a x) bl (rawG n g a x) K w' := by
  have hn := h.dims
  have hn1 : (n : Int) ≤ 4096 := by omega
  have hB := h.box (actC k a i b x p q o) 108
  unfold actC at *
  unfold rawG
  have hk1 : (k : Int) < 256 := by omega
  have H := Lib.hid hB
  cases hin : inG n a with
  | false =>
    have hout := inG_false hin
    simp only [Bool.false_eq_true, if_false]
    clear h hB hk hin
    rcases hout with h1 | h1
    · have h2 : ¬ 0 ≤ a := by omega
      go_enter Try.func77, Try.ntmps77
      go_wp2
      go_ret
      exact ⟨rfl, H.out.tail⟩
    · have h2 : 0 ≤ a := by omega
      have h3 : ¬ a < n := by omega
      go_enter Try.func77, Try.ntmps77
      go_wp2
      go_ret
      exact ⟨rfl, H.out.tail⟩
  | true =>
    obtain ⟨h1, h2⟩ := inG_true hin
    simp only [if_true]
    have hs := hB.store a hin x hx
    obtain ⟨A, rfl⟩ : ∃ A : Nat, a = A := ⟨a.toNat, by omega⟩
    simp only [Int.toNat_natCast] at hs ⊢
    have HS := Lib.hid hs
    have hA : A < n := by omega
    have h3 : (A : Int) ≤ 4096 := by omega
    have h4 : ((A : Int)).toNat = A := by omega
    clear h hB hk hin hs
    go_enter Try.func77, Try.ntmps77
    go_wp2_with (go_at_call 19; refine HS.out.mono ?_; rintro e w7 ⟨rfl, h7⟩; have hblk := h7.block (List.mem_cons_self ..); have d1 := at_cell hblk 1 _ rfl; have d4 := at_cell hblk 4 _ rfl; have dA := h7.cell hA; have fA := h7.free A; have H7 := Lib.hid (h7.put hA x).tail; clear h7 hblk)
    go_ret
    exact ⟨rfl, H7.out⟩
end
end Go.Proofs.Ytkcijlndblbidaa
