/- The law BumpPlays: the start, and the contracts of both sides at one state. -/
import Derived.Test.YtkcijlndblbidaaBActs
import Derived.Test.YtkcijlndblbidaaBumpLives
import Derived.Test.YtkcijlndblbidaaArr2
namespace Go.Proofs.Ytkcijlndblbidaa
open Go.ChangeShapes Go.WideShapes Go.ChangeAt Go.RowKit
set_option linter.unusedVariables false

set_option maxRecDepth 100000 in
theorem new_bk_eq {W0 w : World} {m words page room t : Nat} {v : VS} {K : List (Nat × Obj)} (h : VK W0 m words page room t v K w) (a b : Nat) (hn : okR words a b) :
    Calls Try.prog 32 #[.pointer (some ⟨m, 0, none⟩), .int .i64 a, .int .i64 b] w fun e w' => e = .returned (.tuple #[.pointer (some ⟨w.heap.size, 0, none⟩), .int .i64 0]) ∧ w.alloc (.cells #[.pointer (some ⟨m, 0, none⟩), .int .i64 a, .int .i64 a, .int .i64 b] 169) = w' := by
  have Hw := Lib.hid (words_vk h)
  obtain ⟨S, hv, _⟩ := h
  have hd := hv.dims.1
  have hz : ¬ (words : Int) = 0 := by omega
  have hzb : ((words : Int) == 0) = false := by simp; omega
  unfold okR at hn
  have h1 : ¬ (a : Int) < 0 := by omega
  have h2 : ¬ (b : Int) < a := by omega
  have h3 : ¬ (words : Int) < b := by omega
  have h4 : ¬ b < a := by omega
  have h5 : ¬ words < b := by omega
  have q2 : decide ((b : Int) < a) = false := decide_eq_false h2
  have q3 : decide ((words : Int) < b) = false := decide_eq_false h3
  have q4 : decide (b < a) = false := decide_eq_false h4
  have q5 : decide (words < b) = false := decide_eq_false h5
  clear hv hn
  go_enter Try.func32, Try.ntmps32
  go_wp2_with (go_at_call 27; refine Hw.out.mono ?_; rintro e w1 ⟨rfl, rfl⟩)
  go_ret2
  exact ⟨rfl, rfl⟩
theorem left_q {r limit top m : Nat} {w : World} (c0 : w.cell? ⟨r, 0, none⟩ = some (.pointer (some ⟨m, 0, none⟩))) (c2 : w.cell? ⟨r, 2, none⟩ = some (.int .i64 top)) (c3 : w.cell? ⟨r, 3, none⟩ = some (.int .i64 limit)) (hlim : limit ≤ 524288) (hle : top ≤ limit) :
    Calls Try.prog 38 #[.pointer (some ⟨r, 0, none⟩)] w fun e w' => e = .returned (.int .i64 ((limit : Int) - top)) ∧ ∃ n, w' = w.drewN n := by
  have Hnone := Lib.hid (rnone_cells r m w c0)
  have s1 : IntKind.i64.wrap ((limit : Int) - top) = (limit : Int) - top := IntWalk.i64_in _ (by omega)
  clear hle
  go_enter Try.func38, Try.ntmps38
  go_wp2_with (go_at_call 115; refine Hnone.out.mono ?_; rintro e w1 ⟨rfl, rfl⟩)
  go_quiet (fail)
  go_wp2
  go_ret
  exact ⟨rfl, _, rfl⟩
theorem start_J {W0 w2 w3 w5 : World} {m room a b : Nat} (h : VK W0 m 64 4 room 0 VS.zero [] w2) (hb3 : Below w2.heap.size w2 w3) (hl : a ≤ b ∧ b ≤ 64)
    (hb5 : Below (w3.alloc (.cells #[.pointer (some ⟨m, 0, none⟩), .int .i64 a, .int .i64 a, .int .i64 b] 169)).heap.size (w3.alloc (.cells #[.pointer (some ⟨m, 0, none⟩), .int .i64 a, .int .i64 a, .int .i64 b] 169)) w5)
    (hR : Rr (fun k => k = w2.heap.size + 1 ∨ k = w3.heap.size + 1) (w2.heap.size + 1) (w3.heap.size + 1) room VS.zero a a b w5) (hs3 : w2.heap.size + 2 ≤ w3.heap.size) :
    J W0 m w3.heap.size (w2.heap.size + 1) (w3.heap.size + 1) room 0 VS.zero a a b VS.zero a [] w5 := by
  obtain ⟨S, hv, hu, hbl, -⟩ := h
  have hI := hv.in
  have h1 := hbl.size
  have hb4 := below_new w3 (.cells #[.pointer (some ⟨m, 0, none⟩), .int .i64 a, .int .i64 a, .int .i64 b] 169)
  have hreg := blockB hb5 (Nat.le_refl _) (heap_alloc_new w3 (.cells #[.pointer (some ⟨m, 0, none⟩), .int .i64 a, .int .i64 a, .int .i64 b] 169))
  refine ⟨S, _, ((hv.grow hb3).grow hb4).grow hb5, hR, fun k s tk => ?_, hu, fun k tk => ?_, (hbl.trans (hb3.mono h1)).trans ((hb4.mono (by omega)).trans (hb5.mono (by simp; omega))), hreg, by omega, fun s => ?_, fun tk => ?_, ⟨by omega, hl.1, hl.2⟩, by simp⟩
  · have := hI k s
    rcases tk with rfl | rfl <;> omega
  · rcases tk with rfl | rfl <;> omega
  · have := hI _ s; omega
  · rcases tk with e | e <;> omega
section
variable {W0 : World} {m r rb rr room t t' : Nat} {v v' : VS} {base top top' limit : Nat} {v2 v2' : VS} {top2 top2' : Nat} {K : List (Nat × Obj)} {w w' : World}
theorem alloc_j (h : J W0 m r rb rr room t v base top limit v2 top2 K w) (ht : t ≤ 999000000) (n : Int) :
    Calls Try.prog 33 #[.pointer (some ⟨r, 0, none⟩), .int .i64 n] w fun e w' => e = .returned (.tuple #[.int .i64 (allocA 64 4 room v top limit n), .int .i64 (allocE 64 4 room v top limit n)]) ∧ J W0 m r rb rr room (t + 64 / 4) (allocV 64 4 room v top limit n) base (allocT 64 4 room v top limit n) limit v2 top2 K w' :=
  h.prog fun K' k => alloc_bk k ht n
theorem set_j (h : J W0 m r rb rr room t v base top limit v2 top2 K w) (x : Int) :
    Calls Try.prog 35 #[.pointer (some ⟨r, 0, none⟩), .int .i64 x] w fun e w' => e = .returned (.int .i64 (setE base limit x)) ∧ J W0 m r rb rr room t v base (setT base limit top x) limit v2 top2 K w' :=
  h.prog fun K' k => set_bk k x
theorem release_j (h : J W0 m r rb rr room t v base top limit v2 top2 K w) :
    Calls Try.prog 39 #[.pointer (some ⟨r, 0, none⟩)] w fun e w' => e = .returned (.int .i64 (freeR 64 4 v base limit).1) ∧ J W0 m r rb rr room t (freeR 64 4 v base limit).2 base base limit v2 top2 K w' :=
  h.prog fun K' k => release_bk k
theorem map_j (h : J W0 m r rb rr room t v base top limit v2 top2 K w) (ht : t < 1000000000) (p : Int) :
    Calls Try.prog 20 #[.pointer (some ⟨m, 0, none⟩), .int .i64 p] w fun e w' => e = .returned (.int .i64 (mapE (64 / 4) room v p)) ∧ J W0 m r rb rr room (t + 1) (mapS (64 / 4) 4 room v p) base top limit v2 top2 K w' :=
  h.prog fun K' k => (map_vk k.vk ht p).mono fun e w' ⟨he, hk⟩ => ⟨he, k.with hk⟩
theorem mapped_j (h : J W0 m r rb rr room t v base top limit v2 top2 K w) (p : Int) :
    Calls Try.prog 25 #[.pointer (some ⟨m, 0, none⟩), .int .i64 p] w fun e w' => e = .returned (.bool (isM (64 / 4) v p)) ∧ J W0 m r rb rr room t v base top limit v2 top2 K w' :=
  h.prog fun K' k => (mapped_vk k.vk p).mono fun e w' ⟨he, hk⟩ => ⟨he, k.with hk⟩
theorem ralloc_j (h : J W0 m r rb rr room t v base top limit v2 top2 K w) (hh : v2.high ≤ 4096) (hu : v2.used ≤ room) (n : Int) :
    Calls Try.prog 45 #[.pointer (some ⟨rr, 0, none⟩), .int .i64 n] w fun e w' => e = .returned (.tuple #[.int .i64 (allocA 64 4 room v2 top2 limit n), .int .i64 (allocE 64 4 room v2 top2 limit n)]) ∧ J W0 m r rb rr room t v base top limit (allocV 64 4 room v2 top2 limit n) (allocT 64 4 room v2 top2 limit n) K w' :=
  h.refer fun T k => alloc_rr k h.dims.1 hh hu n
theorem rset_j (h : J W0 m r rb rr room t v base top limit v2 top2 K w) (x : Int) :
    Calls Try.prog 42 #[.pointer (some ⟨rr, 0, none⟩), .int .i64 x] w fun e w' => e = .returned (.int .i64 (setE base limit x)) ∧ J W0 m r rb rr room t v base top limit v2 (setT base limit top2 x) K w' :=
  h.refer fun T k => set_rr k x
theorem rrelease_j (h : J W0 m r rb rr room t v base top limit v2 top2 K w) :
    Calls Try.prog 43 #[.pointer (some ⟨rr, 0, none⟩)] w fun e w' => e = .returned (.int .i64 (freeR 64 4 v2 base limit).1) ∧ J W0 m r rb rr room t v base top limit (freeR 64 4 v2 base limit).2 base K w' :=
  h.refer fun T k => release_rr k
theorem rmap_j (h : J W0 m r rb rr room t v base top limit v2 top2 K w) (hh : v2.high ≤ 4096) (hu : v2.used ≤ room) (p : Int) :
    Calls Try.prog 44 #[.pointer (some ⟨rb, 0, none⟩), .int .i64 p] w fun e w' => e = .returned (.int .i64 (mapE (64 / 4) room v2 p)) ∧ J W0 m r rb rr room t v base top limit (mapS (64 / 4) 4 room v2 p) top2 K w' :=
  h.refer fun T k => map_rr k h.dims.1 hh hu p
theorem at_j_no (h : J W0 m r rb rr room t v base top limit v2 top2 K w) {p : Int} (hp : isM (64 / 4) v2 p = false) :
    Calls Try.prog 46 #[.pointer (some ⟨rb, 0, none⟩), .int .i64 p] w fun e w' => e = .returned (.int .i64 (-1)) ∧ w = w' := by
  obtain ⟨S, T, j⟩ := h
  exact at_rr_no j.ref hp
theorem at_j_yes (h : J W0 m r rb rr room t v base top limit v2 top2 K w) {p : Int} (hp : isM (64 / 4) v2 p = true) :
    ∃ x : Nat, x < 16 ∧ Calls Try.prog 46 #[.pointer (some ⟨rb, 0, none⟩), .int .i64 p] w fun e w' => e = .returned (.int .i64 x) ∧ w = w' := by
  obtain ⟨S, T, j⟩ := h
  exact at_rr_yes j.ref hp
theorem J.bk' (h : J W0 m r rb rr room t v base top limit v2 top2 K w) : BK W0 m r 64 4 room t v base top limit [] w := by
  obtain ⟨T, L, hL, hT, hB, _⟩ := h.bk
  exact ⟨hB.vk.sub fun x hx => (by simp only [List.mem_singleton] at hx; subst hx; exact List.mem_cons_self ..), hB.low, by simp, hB.le⟩
theorem base_j (h : J W0 m r rb rr room t v base top limit v2 top2 K w) : Calls Try.prog 36 #[.pointer (some ⟨r, 0, none⟩)] w fun e w' => e = .returned (.int .i64 base) ∧ w = w' := base_bk h.bk'
theorem top_j (h : J W0 m r rb rr room t v base top limit v2 top2 K w) : Calls Try.prog 34 #[.pointer (some ⟨r, 0, none⟩)] w fun e w' => e = .returned (.int .i64 top) ∧ w = w' := top_bk h.bk'
theorem limit_j (h : J W0 m r rb rr room t v base top limit v2 top2 K w) : Calls Try.prog 37 #[.pointer (some ⟨r, 0, none⟩)] w fun e w' => e = .returned (.int .i64 limit) ∧ w = w' := limit_bk h.bk'
theorem left_j (h : J W0 m r rb rr room t v base top limit v2 top2 K w) : Calls Try.prog 38 #[.pointer (some ⟨r, 0, none⟩)] w fun e w' => e = .returned (.int .i64 ((limit : Int) - top)) ∧ ∃ n, w' = w.drewN n :=
  left_q h.bk'.cells.1 h.bk'.cells.2.2.1 h.bk'.cells.2.2.2 h.bk'.limits h.bk'.le.2.1
end
theorem quiet_left {P : Program} {f : FuncId} {args : Array Value} {w : World} {n : Nat} {v : Value} (h : Calls P f args (w.drewN n) fun e w' => e = .returned v ∧ w.drewN n = w') :
    Calls P f args (w.drewN n) fun e w'' => e = .returned v ∧ ∃ m, w'' = w.drewN m := h.mono fun _ _ ⟨he, hm⟩ => ⟨he, n, hm.symm⟩
theorem quiet_more {P : Program} {f : FuncId} {args : Array Value} {w : World} {n : Nat} {v : Value} (h : Calls P f args (w.drewN n) fun e w' => e = .returned v ∧ ∃ k, w' = (w.drewN n).drewN k) :
    Calls P f args (w.drewN n) fun e w'' => e = .returned v ∧ ∃ m, w'' = w.drewN m := h.mono fun _ _ ⟨he, k, hm⟩ => ⟨he, n + k, by rw [hm, World.drewN_drewN]⟩
end Go.Proofs.Ytkcijlndblbidaa
