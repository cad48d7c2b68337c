/- A memory above a base world, with blocks beside it that stay: the contracts of all methods at that state; New; the example. -/
import Derived.Test.YtkcijlndblbidaaVFree
namespace Go.Proofs.Ytkcijlndblbidaa
open Go.ChangeShapes Go.WideShapes Go.ChangeAt Go.RowKit
set_option linter.unusedVariables false

def VK (W0 : World) (m words page room t : Nat) (v : VS) (K : List (Nat × Obj)) (w : World) : Prop :=
  ∃ S, Vm S m words page room t v w ∧ Fr.Up W0.heap.size S ∧ Below W0.heap.size W0 w ∧ ∀ x ∈ K, ¬ S x.1 ∧ w.heap[x.1]? = some x.2
section
variable {W0 w w' : World} {m words page room t t' : Nat} {v v' : VS} {K K' : List (Nat × Obj)}
theorem VK.below (h : VK W0 m words page room t v K w) : Below W0.heap.size W0 w := by
  obtain ⟨S, _, _, h, _⟩ := h; exact h
theorem VK.did {S : Nat → Prop} (hu : Fr.Up W0.heap.size S) (hb : Below W0.heap.size W0 w) (hK : ∀ x ∈ K, ¬ S x.1 ∧ w.heap[x.1]? = some x.2) (hd : VDid S m words page room t v w w') : VK W0 m words page room t v K w' := by
  obtain ⟨S', k1, k2, k3⟩ := hd
  refine ⟨S', k1, fun k hk => ?_, hb.trans (k2.below hu hb.size), fun x hx => ⟨fun hs => ?_, k2.keep (hK x hx).2 (hK x hx).1⟩⟩
  · rcases k3 k hk with a | a
    · exact hu k a
    · have := hb.size; omega
  · rcases k3 _ hs with a | a
    · exact (hK x hx).1 a
    · have := block_lt (hK x hx).2; omega
theorem VK.grow (h : VK W0 m words page room t v K w) (c : Below w.heap.size w w') : VK W0 m words page room t v K w' := by
  obtain ⟨S, h1, h2, h3, h4⟩ := h
  exact VK.did h2 h3 h4 (VDid.of h1 c)
theorem VK.drew (h : VK W0 m words page room t v K w) : VK W0 m words page room t v K w.drew := h.grow (below_drew w)
theorem VK.drewN (h : VK W0 m words page room t v K w) (n : Nat) : VK W0 m words page room t v K (w.drewN n) := h.grow (Fr.below_drewN' n w)
theorem VK.box (h : VK W0 m words page room t v K w) (cs : Array Value) (ty : TypeId) : VK W0 m words page room t v ((w.heap.size, .cells cs ty (0, 0)) :: K) (w.alloc (.cells cs ty)) := by
  obtain ⟨S, h1, h2, h3, h4⟩ := h
  refine ⟨S, h1.grow (below_new w _), h2, h3.alloc h3.size _, fun x hx => ?_⟩
  simp only [List.mem_cons] at hx
  rcases hx with rfl | hx
  · exact ⟨fun hs => by have := h1.in _ hs; simp at this, heap_alloc_new w _⟩
  · exact ⟨(h4 x hx).1, blockB (below_new w _) (Nat.le_refl _) (h4 x hx).2⟩
theorem VK.sub (h : VK W0 m words page room t v K w) (hs : ∀ x ∈ K', x ∈ K) : VK W0 m words page room t v K' w := by
  obtain ⟨S, h1, h2, h3, h4⟩ := h
  exact ⟨S, h1, h2, h3, fun x hx => h4 x (hs x hx)⟩
theorem VK.tail {x : Nat × Obj} (h : VK W0 m words page room t v (x :: K) w) : VK W0 m words page room t v K w := h.sub fun y hy => List.mem_cons_of_mem _ hy
theorem VK.more (h : VK W0 m words page room t v K w) (ht : t ≤ t') : VK W0 m words page room t' v K w := by
  obtain ⟨S, h1, h2⟩ := h
  exact ⟨S, h1.more ht, h2⟩
theorem VK.like (h : VK W0 m words page room t v K w) (hl : v.like page (words / page) v') : VK W0 m words page room t v' K w := by
  obtain ⟨S, h1, h2⟩ := h
  exact ⟨S, h1.like hl, h2⟩
theorem VK.block (h : VK W0 m words page room t v K w) {X : Nat} {o : Obj} (hx : (X, o) ∈ K) : w.heap[X]? = some o := by
  obtain ⟨S, h1, h2, h3, h4⟩ := h
  exact (h4 _ hx).2
/-- a block that stays is written -/
theorem VK.set {X : Nat} {cs : Array Value} {ty : TypeId} (h : VK W0 m words page room t v ((X, .cells cs ty (0, 0)) :: K) w) (hX : W0.heap.size ≤ X) (hK : ∀ x ∈ K, x.1 ≠ X) (j : Nat) (x : Value) : VK W0 m words page room t v ((X, .cells (cs.setIfInBounds j x) ty (0, 0)) :: K) (w.setCell ⟨X, j, none⟩ x) := by
  obtain ⟨S, h1, h2, h3, h4⟩ := h
  have hx := h4 _ (List.mem_cons_self ..)
  have hc : Chg (fun k => k = X) w (w.setCell ⟨X, j, none⟩ x) := (Chg.refl (fun k => k = X) w).set (p := ⟨X, j, none⟩) (.inl rfl) _
  refine ⟨S, h1.keep hc (fun k hs e => hx.1 (by rw [← e]; exact hs)), h2, h3.setCell hX x, fun y hy => ?_⟩
  simp only [List.mem_cons] at hy
  rcases hy with rfl | hy
  · exact ⟨hx.1, heap_setCell_same w X j _ _ _ hx.2⟩
  · exact ⟨(h4 y (List.mem_cons_of_mem _ hy)).1, (far (show y.1 ≠ X from hK y hy)).trans (h4 y (List.mem_cons_of_mem _ hy)).2⟩
theorem map_vk (h : VK W0 m words page room t v K w) (ht : t < 1000000000) (p : Int) :
    Calls Try.prog 20 #[.pointer (some ⟨m, 0, none⟩), .int .i64 p] w fun e w' => e = .returned (.int .i64 (mapE (words / page) room v p)) ∧ VK W0 m words page room (t + 1) (mapS (words / page) page room v p) K w' := by
  obtain ⟨S, h1, h2, h3, h4⟩ := h
  exact (map_vm S m words page room t v w h1 ht p).mono fun e w' ⟨he, hd⟩ => ⟨he, VK.did h2 h3 h4 hd⟩
theorem unmap_vk (h : VK W0 m words page room t v K w) (p : Int) :
    Calls Try.prog 21 #[.pointer (some ⟨m, 0, none⟩), .int .i64 p] w fun e w' => e = .returned (.int .i64 (unmapE (words / page) v p)) ∧ VK W0 m words page room t (unmapS (words / page) v p) K w' := by
  obtain ⟨S, h1, h2, h3, h4⟩ := h
  exact (unmap_vm S m words page room t v w h1 p).mono fun e w' ⟨he, hd⟩ => ⟨he, VK.did h2 h3 h4 hd⟩
theorem move_vk (h : VK W0 m words page room t v K w) (p q : Int) :
    Calls Try.prog 22 #[.pointer (some ⟨m, 0, none⟩), .int .i64 p, .int .i64 q] w fun e w' => e = .returned (.int .i64 (moveE (words / page) v p q)) ∧ VK W0 m words page room t (moveS (words / page) page v p q) K w' := by
  obtain ⟨S, h1, h2, h3, h4⟩ := h
  exact (move_vm S m words page room t v w h1 p q).mono fun e w' ⟨he, hd⟩ => ⟨he, VK.did h2 h3 h4 hd⟩
theorem need_vk (h : VK W0 m words page room t v K w) (ht : t ≤ 999000000) (a b : Int) :
    Calls Try.prog 18 #[.pointer (some ⟨m, 0, none⟩), .int .i64 a, .int .i64 b] w fun e w' => e = .returned (.int .i64 (needE words page room v a b)) ∧ VK W0 m words page room (t + words / page) (needV words page room v a b) K w' := by
  obtain ⟨S, h1, h2, h3, h4⟩ := h
  exact (need_vm S m words page room t v w h1 ht a b).mono fun e w' ⟨he, hd⟩ => ⟨he, VK.did h2 h3 h4 hd⟩
theorem free_vk (h : VK W0 m words page room t v K w) (a b : Int) :
    Calls Try.prog 23 #[.pointer (some ⟨m, 0, none⟩), .int .i64 a, .int .i64 b] w fun e w' => e = .returned (.int .i64 (freeR words page v a b).1) ∧ VK W0 m words page room t (freeR words page v a b).2 K w' := by
  obtain ⟨S, h1, h2, h3, h4⟩ := h
  exact (free_vm S m words page room t v w h1 a b).mono fun e w' ⟨he, hd⟩ => ⟨he, VK.did h2 h3 h4 hd⟩
theorem load_vk (h : VK W0 m words page room t v K w) (a : Int) :
    Calls Try.prog 24 #[.pointer (some ⟨m, 0, none⟩), .int .i64 a] w fun e w' => e = .returned (.tuple #[.int .u64 (loadW words page v a), .int .i64 (loadE words page v a)]) ∧ VK W0 m words page room t v K w' := by
  obtain ⟨S, h1, h2, h3, h4⟩ := h
  exact (load_vm S m words page room t v w h1 a).mono fun e w' ⟨he, hb⟩ => ⟨he, VK.did h2 h3 h4 (VDid.of h1 hb)⟩
theorem store_vk (h : VK W0 m words page room t v K w) (a : Int) (x : Nat) (hx : x < 18446744073709551616) :
    Calls Try.prog 19 #[.pointer (some ⟨m, 0, none⟩), .int .i64 a, .int .u64 x] w fun e w' => e = .returned (.int .i64 (loadE words page v a)) ∧ VK W0 m words page room t (storeV words page v a x) K w' := by
  obtain ⟨S, h1, h2, h3, h4⟩ := h
  exact (store_vm S m words page room t v w h1 a x hx).mono fun e w' ⟨he, hd⟩ => ⟨he, VK.did h2 h3 h4 hd⟩
theorem mapped_vk (h : VK W0 m words page room t v K w) (p : Int) :
    Calls Try.prog 25 #[.pointer (some ⟨m, 0, none⟩), .int .i64 p] w fun e w' => e = .returned (.bool (isM (words / page) v p)) ∧ VK W0 m words page room t v K w' := by
  obtain ⟨S, h1, h2, h3, h4⟩ := h
  exact (mapped_vm S m words page room t v w h1 p).mono fun e w' ⟨he, hb⟩ => ⟨he, VK.did h2 h3 h4 (VDid.of h1 hb)⟩
theorem used_vk (h : VK W0 m words page room t v K w) : Calls Try.prog 28 #[.pointer (some ⟨m, 0, none⟩)] w fun e w' => e = .returned (.int .i64 v.used) ∧ w = w' := by
  obtain ⟨S, h1, h2, h3, h4⟩ := h
  exact used_vm S m words page room t v w h1
theorem words_vk (h : VK W0 m words page room t v K w) : Calls Try.prog 27 #[.pointer (some ⟨m, 0, none⟩)] w fun e w' => e = .returned (.int .i64 words) ∧ w = w' := by
  obtain ⟨S, h1, h2, h3, h4⟩ := h
  exact words_vm S m words page room t v w h1
end
theorem new_end {w w1 w2 : World} {b words page room : Nat} {S2 : Nat → Prop} (hP : Fr.PSt w b room page Fr.start w1) (hdim : VDim words page) (hk : Fr.start.ok room page)
    (hM : Pg.Mp S2 (w1.heap.size + 1 + 1) (words / page) (fun _ => 0) w2) (hU : Pg.Up (w1.heap.size + 1) S2)
    (hB : Below (w1.heap.size + 1) (w1.alloc (.cells #[.pointer (some ⟨b, 0, none⟩), .pointer none, .int .i64 words] 160)) w2) :
    VK w w1.heap.size words page room 0 VS.zero [] (w2.setCell ⟨w1.heap.size, 1, none⟩ (.pointer (some ⟨w1.heap.size + 1 + 1, 0, none⟩))) := by
  obtain ⟨S1, p1, u1, b1⟩ := hP
  have hin := p1.in
  have hB' : Below (w1.alloc (.cells #[.pointer (some ⟨b, 0, none⟩), .pointer none, .int .i64 words] 160)).heap.size (w1.alloc (.cells #[.pointer (some ⟨b, 0, none⟩), .pointer none, .int .i64 words] 160)) w2 := by simpa using hB
  have hd := blockB hB' (Nat.le_refl _) (heap_alloc_new w1 (.cells #[.pointer (some ⟨b, 0, none⟩), .pointer none, .int .i64 words] 160))
  have hc : Chg (fun k => k = w1.heap.size) w2 (w2.setCell ⟨w1.heap.size, 1, none⟩ (.pointer (some ⟨w1.heap.size + 1 + 1, 0, none⟩))) := (Chg.refl (fun k => k = w1.heap.size) w2).set (p := ⟨w1.heap.size, 1, none⟩) (.inl rfl) _
  have h1 := b1.size
  have h2 := hB'.size
  simp at h2
  have hs : (w2.setCell ⟨w1.heap.size, 1, none⟩ (.pointer (some ⟨w1.heap.size + 1 + 1, 0, none⟩))).heap.size = w2.heap.size := by simp [World.setCell]
  refine ⟨fun k => S1 k ∨ k = w1.heap.size ∨ S2 k, ⟨b, w1.heap.size + 1 + 1, Fr.start, fun _ => 0, ⟨heap_setCell_same w2 _ 1 _ _ _ hd, ⟨S1, S2, ((p1.grow (below_new w1 _)).grow hB').keep hc (fun k a e => ?_), hM.keep hc (fun k a e => ?_), fun k a c => ?_, fun a => ?_, fun a => ?_, fun k a => .inl a, fun k a => .inr (.inr a)⟩, .inr (.inl rfl), fun k hk => ?_⟩, hk, Nat.le_refl _, Vr.start _ _, hdim⟩, fun k hk => ?_, ?_, by simp⟩
  · have := hin k a; omega
  · have := hU k a; omega
  · have := hin k a
    have := hU k c
    omega
  · have := hin _ a; omega
  · have := hU _ a; omega
  · rw [hs]
    rcases hk with a | rfl | a
    · have := hin k a; omega
    · omega
    · exact hM.in k a
  · rcases hk with a | rfl | a
    · exact u1 k a
    · exact h1
    · have := hU k a; omega
  · exact (b1.trans ((below_new w1 _).mono h1 |>.trans (hB'.mono (by simp; omega)))).setCell h1 _
set_option maxRecDepth 100000 in
set_option maxHeartbeats 1000000 in
theorem new_vk (words page room : Nat) (w : World) (hw1 : 1 ≤ words) (hw2 : words ≤ 524288) (hmod : words % page = 0) (hpow : Fr.isPage page) (hr1 : 1 ≤ room) (hr2 : room ≤ 4096) :
    Calls Try.prog 17 #[.int .i64 words, .int .i64 page, .int .i64 room] w fun e w' => ∃ m, e = .returned (.tuple #[.pointer (some ⟨m, 0, none⟩), .int .i64 0]) ∧ VK w m words page room 0 VS.zero [] w' := by
  have hpg := Fr.isPage_le hpow
  have Hfn := Lib.hid (Fr.new_ps room page w hr1 hr2 hpow)
  have hnp1 : 1 ≤ words / page := by
    rcases Nat.eq_zero_or_pos (words / page) with e | e
    · have := Nat.div_add_mod words page
      rw [e, hmod] at this
      omega
    · exact e
  have hnp2 : words / page ≤ 524288 := by have := Nat.div_le_self words page; omega
  have hpn := fun W => Pg.new_yes (words / page) W hnp1 hnp2
  have hq : (words : Int) / (page : Int) = ((words / page : Nat) : Int) := rfl
  have hm : (words : Int) % (page : Int) = 0 := by rw [← Int.natCast_emod, hmod]; rfl
  have Hok := Lib.hid (show Fr.start.ok room page ∧ VDim words page from ⟨Fr.start_ok ⟨hr1, hr2⟩ hpg, ⟨hw1, hw2⟩, hmod, hpow⟩)
  obtain ⟨np, hnp⟩ : ∃ np, words / page = np := ⟨_, rfl⟩
  rw [hnp] at hq hnp1 hnp2
  simp only [hnp] at hpn
  have Hpn := Lib.hid hpn
  have Hnp := Lib.hid hnp
  have g1 : ¬ (words : Int) < 1 := by omega
  have g2 : ¬ 524288 < (words : Int) := by omega
  have g3 : (1 : Int) ≤ page := by omega
  have g4 : (page : Int) ≤ 256 := by omega
  have g5 : (0 : Int) ≤ words := by omega
  have g6 : (np : Int) ≤ 524288 := by omega
  have g7 : (0 : Int) ≤ np := by omega
  have q1 : decide ((words : Int) < 1) = false := decide_eq_false g1
  have q2 : decide (524288 < (words : Int)) = false := decide_eq_false g2
  clear hpn hnp hmod hpow hw1 hw2 hr1 hr2 hnp1 hnp2
  go_enter Try.func17, Try.ntmps17
  go_wp2_with (first | (go_at_call 97; refine Hfn.out.mono ?_; rintro e w1 ⟨rfl, hps⟩; have HP := Lib.hid hps; clear hps) | (go_at_call 98; refine (Hpn.out _).mono ?_; rintro e w2 ⟨rfl, ⟨S2, m2, u2⟩, b2⟩; have HM := Lib.hid m2; have HU := Lib.hid u2; have HB := Lib.hid b2; have hd2 := blockB b2 (Nat.le_refl _) (heap_alloc_new w1 _); have f1 := at_cell hd2 1 _ rfl; have f2 := at_free hd2 1; clear m2 u2 b2 hd2))
  go_ret2
  exact ⟨_, rfl, new_end HP.out Hok.out.2 Hok.out.1 (by rw [Hnp.out]; simpa using HM.out) (by simpa using HU.out) (by simpa using HB.out)⟩
end Go.Proofs.Ytkcijlndblbidaa
