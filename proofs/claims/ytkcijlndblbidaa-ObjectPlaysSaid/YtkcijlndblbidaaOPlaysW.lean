/- The walk of ObjectPlays. Printed by wip/tools/genoplays.py. -/
import Derived.Test.YtkcijlndblbidaaOActs
namespace Go.Proofs.Ytkcijlndblbidaa
open Go.ChangeShapes Go.WideShapes Go.ChangeAt Go.RowKit
set_option linter.unusedVariables false

/-- what an act does to the words -/
def stepG (n : Nat) (g : Nat → Nat) (r : A15.Act) : Nat → Nat := if r.k % 16 < 2 then makG n g r.a r.p r.q r.o else if r.k % 16 < 4 then spG n g r.a r.i r.b else if r.k % 16 < 6 then seG n g r.a r.i 2 r.x else if r.k % 16 < 8 then seG n g r.a r.i 3 r.x else if r.k % 16 < 9 then cpG n g r.a r.b else rawG n g r.a r.x
theorem stepG_small {n : Nat} {g : Nat → Nat} (h : Small n g) (r : A15.Act) (hr : r.ok) : Small n (stepG n g r) := by
  unfold stepG
  split
  · exact makG_small h _ _ _ _
  · split
    · exact spG_small h _ _ _
    · split
      · exact seG_small h _ _ _ hr.2.2.2.2
      · split
        · exact seG_small h _ _ _ hr.2.2.2.2
        · split
          · exact cpG_small h _ _
          · unfold rawG
            split
            · intro b hb
              unfold putG
              split
              · exact hr.2.2.2.2
              · exact h b hb
            · exact h
section
variable {W0 w w' : World} {m n t bl : Nat} {g : Nat → Nat} {K : List (Nat × Obj)}
theorem set_any (h : RF W0 m n t g bl g K w) (hg : Small n g) (c : Nat) (hc : n ≤ c) (hc2 : c ≤ maxLen) (r : A15.Act) (hr : r.ok) (hk : r.k % 16 < 10) :
    Calls Try.prog 77 #[.pointer (some ⟨m, 0, none⟩), .slice (some ⟨bl, 0, none⟩) n c, .agg (actC r.k r.a r.i r.b r.x r.p r.q r.o)] w fun e w' => e = .returned (.bool true) ∧ RF W0 m n t (stepG n g r) bl (stepG n g r) K w' := by
  obtain ⟨h1, ⟨h2, h3⟩, ⟨h4, h5⟩, ⟨h6, h7⟩, h8⟩ := hr
  unfold stepG
  split
  · exact set_make h hg c r.k h1 (by omega) r.a r.i r.b r.x r.p r.q r.o h3
  · split
    · exact set_ptr h hg c r.k h1 (by omega) r.a r.i r.b r.x r.p r.q r.o h6 h7
    · split
      · exact set_float h hg c r.k h1 (by omega) r.a r.i r.b r.x r.p r.q r.o h8
      · split
        · exact set_word h hg c r.k h1 (by omega) r.a r.i r.b r.x r.p r.q r.o h8
        · split
          · exact set_copy h hg c r.k h1 (by omega) r.a r.i r.b r.x r.p r.q r.o h7 hc hc2
          · exact set_raw h c r.k h1 (by omega) r.a r.i r.b r.x r.p r.q r.o h8
theorem both_read (hg : Small n g) (c : Nat) (a : Int) : ∃ P Q O E : Int, (∀ K w, RF W0 m n t g bl g K w → Calls Try.prog 78 #[.iface 26 (.pointer (some ⟨m, 0, none⟩)), .int .i64 a] w fun e w' => e = .returned (.tuple #[.agg #[.int .i64 P, .int .i64 Q, .int .i64 O], .int .i64 E]) ∧ RF W0 m n t g bl g K w') ∧
    (∀ K w, RF W0 m n t g bl g K w → Calls Try.prog 79 #[.slice (some ⟨bl, 0, none⟩) n c, .int .i64 a] w fun e w' => e = .returned (.tuple #[.agg #[.int .i64 P, .int .i64 Q, .int .i64 O], .int .i64 E]) ∧ RF W0 m n t g bl g K w') :=
  ⟨rdP n g a, rdF n g a, rdO n g a, rdE n g a, fun K w h => h.mem fun K hF => read_fk hF hg a, fun K w h => (rread_any h.row c h.dims.2 hg a).mono fun e w' ⟨he, hb⟩ => ⟨he, h.grow hb⟩⟩
theorem both_ptr (hg : Small n g) (c : Nat) (a i : Int) : ∃ (x : Nat) (E : Int), x < 2147483648 ∧ (∀ K w, RF W0 m n t g bl g K w → Calls Try.prog 72 #[.iface 26 (.pointer (some ⟨m, 0, none⟩)), .int .i64 a, .int .i64 i] w fun e w' => e = .returned (.tuple #[.int .i64 x, .int .i64 E]) ∧ RF W0 m n t g bl g K w') ∧
    (∀ K w, RF W0 m n t g bl g K w → Calls Try.prog 73 #[.slice (some ⟨bl, 0, none⟩) n c, .int .i64 a, .int .i64 i, .int .i64 1] w fun e w' => e = .returned (.tuple #[.int .u64 x, .int .i64 E]) ∧ RF W0 m n t g bl g K w') := by
  refine ⟨ptV n g a i, ptE n g a i, ?_, fun K w h => h.mem fun K hF => pointer_fk hF hg a i, fun K w h => (rget_any h.row c h.dims.2 hg a i 1 (.inl rfl)).mono fun e w' ⟨he, hb⟩ => ⟨he, h.grow hb⟩⟩
  unfold ptV
  split
  · rename_i h
    unfold ptE at h
    split at h
    · split at h
      · omega
      · omega
    · contradiction
  · omega
theorem both_float (hg : Small n g) (c : Nat) (a i : Int) : ∃ (x : Nat) (E : Int), (∀ K w, RF W0 m n t g bl g K w → Calls Try.prog 74 #[.iface 26 (.pointer (some ⟨m, 0, none⟩)), .int .i64 a, .int .i64 i] w fun e w' => e = .returned (.tuple #[.float .f64 x, .int .i64 E]) ∧ RF W0 m n t g bl g K w') ∧
    (∀ K w, RF W0 m n t g bl g K w → Calls Try.prog 73 #[.slice (some ⟨bl, 0, none⟩) n c, .int .i64 a, .int .i64 i, .int .i64 2] w fun e w' => e = .returned (.tuple #[.int .u64 x, .int .i64 E]) ∧ RF W0 m n t g bl g K w') :=
  ⟨geW n g a i 2, geE n g a i 2, fun K w h => h.mem fun K hF => float_fk hF hg a i, fun K w h => (rget_any h.row c h.dims.2 hg a i 2 (.inr (.inl rfl))).mono fun e w' ⟨he, hb⟩ => ⟨he, h.grow hb⟩⟩
theorem both_word (hg : Small n g) (c : Nat) (a i : Int) : ∃ (x : Nat) (E : Int), (∀ K w, RF W0 m n t g bl g K w → Calls Try.prog 76 #[.iface 26 (.pointer (some ⟨m, 0, none⟩)), .int .i64 a, .int .i64 i] w fun e w' => e = .returned (.tuple #[.int .u64 x, .int .i64 E]) ∧ RF W0 m n t g bl g K w') ∧
    (∀ K w, RF W0 m n t g bl g K w → Calls Try.prog 73 #[.slice (some ⟨bl, 0, none⟩) n c, .int .i64 a, .int .i64 i, .int .i64 3] w fun e w' => e = .returned (.tuple #[.int .u64 x, .int .i64 E]) ∧ RF W0 m n t g bl g K w') :=
  ⟨geW n g a i 3, geE n g a i 3, fun K w h => h.mem fun K hF => word_fk hF hg a i, fun K w h => (rget_any h.row c h.dims.2 hg a i 3 (.inr (.inr rfl))).mono fun e w' ⟨he, hb⟩ => ⟨he, h.grow hb⟩⟩
end
set_option maxRecDepth 100000 in
theorem oplays_many (x : Int) (a : Option Addr) (len cap : Nat) (w : World) (hl : 100 < len) (hm : len ≤ maxLen) :
    Calls Try.prog 12 #[.int .u8 x, .slice a len cap] w fun e w' => e = .returned (.bool true) ∧ Below w.heap.size w w' := by
  unfold maxLen at hm
  have Hv := Lib.hid lives15_yes
  go_enter Try.func12, Try.ntmps12
  go_wp2_with (go_at_call 70; refine (Hv.out _).mono ?_; rintro e w2 ⟨rfl, hb⟩)
  go_ret
  exact ⟨rfl, hb⟩
set_option maxRecDepth 100000 in
set_option maxHeartbeats 8000000 in
theorem oplays_walk (x : Nat) (hx : x < 256) (a : Option Addr) (cap : Nat) (ps : List A15.Act) (w : World) (hl : ps.length ≤ 100) (hP : A15.Acts w a ps) :
    Calls Try.prog 12 #[.int .u8 x, .slice a ps.length cap] w fun e w' => e = .returned (.bool true) ∧ Below w.heap.size w w' := by
  have HP := Lib.hid hP
  have q1 : decide (100 < (ps.length : Int)) = false := decide_eq_false (by omega)
  obtain ⟨n, hn⟩ : ∃ n, x + 1 = n := ⟨_, rfl⟩
  have hn1 : 1 ≤ n ∧ n ≤ 256 := by omega
  have n1 : (x : Int) + 1 = n := by omega
  have n2 : (n : Int) ≤ 256 := by omega
  have n3 : (0 : Int) ≤ n := by omega
  have hx1 : (x : Int) < 256 := by omega
  have Hf := Lib.hid (fresh15_any n hn1.1 (by omega) w)
  obtain ⟨i0, hi, hz0, hz1, hz2⟩ := info_parts u64_info
  have hmk : ∀ W : World, (Instr.makeSlice 69 (.int .i64 (n : Int)) (.int .i64 (n : Int))).run Try.prog W = .ok (.slice (some ⟨W.heap.size, 0, none⟩) n n) (W.alloc (.cells (zerosU n) 23)) := fun W => by
    have h := run_make (P := Try.prog) W 69 23 i0 (.int .u64 0) Try.underlying69 hi hz0 .i64 .i64 (n : Int) (n : Int) (by omega) (by omega) (by rw [hz2]; omega) (by omega)
    rw [hz1, Int.toNat_natCast, made_words] at h
    exact h
  clear hP hn
  go_enter Try.func12, Try.ntmps12
  go_wp2_with (go_at_call 71; refine Hf.out.mono ?_; rintro e w1 ⟨m, t, rfl, h1⟩; have H1 := Lib.hid (show RF w m n t (fun _ => 0) w1.heap.size (fun _ => 0) [] (w1.alloc (.cells (zerosU n) 23)) from ⟨zerosU n, zerosU_cells n, h1.below.size, (fun x hx => by cases hx), h1.box (zerosU n) 23⟩); clear h1 Hf)
  clear hmk
  generalize w1.heap.size = bl at *
  go_loopw [36] (fun i wr => ∃ (k : Nat) (g : Nat → Nat), i = .int .i64 k ∧ k ≤ ps.length ∧ Small n g ∧ RF w m n t g bl g [] wr) (fun i _ => ps.length - (intOf i).toNat)
  case atStart => exact ⟨0, _, rfl, by omega, small_zero n, H1.out⟩
  case round =>
    clear H1
    obtain ⟨k, g, rfl, hk, hg, hs⟩ := hrel
    have hb := hs.below
    by_cases hlt : k < ps.length
    · have hP2 := HP.out.below hb
      obtain ⟨b1, off, ha, hcell⟩ := hP2.cell
      obtain rfl : a = some ⟨b1, off, none⟩ := by
        rcases ha with rfl | ha
        · simp at hlt
        · exact ha
      obtain ⟨c0, c1, c2, c3, c4, c5, c6, c7⟩ := hcell k hlt
      have hact := hP2.each k hlt
      clear hcell ha hP2 hb
      generalize ps.getD k default = r at *
      have hset := fun W (h : RF w m n t g bl g [(wr.heap.size, .cells (actC r.k r.a r.i r.b r.x r.p r.q r.o) 108 (0, 0))] W) (hk : r.k % 16 < 10) => set_any h hg n (Nat.le_refl _) (by unfold maxLen; omega) r hact hk
      have hsm := stepG_small hg r hact
      generalize stepG n g r = g1 at *
      obtain ⟨kd, ra, ri, rb, rx, rp, rq, ro⟩ := r
      unfold actC at hset
      simp only at *
      have hbx := hs.box #[.int .u8 kd, .int .i64 ra, .int .i64 ri, .int .i64 rb, .int .u64 rx, .int .i64 rp, .int .i64 rq, .int .i64 ro] 108
      have hblk := hbx.block (List.mem_cons_self ..)
      have d0 := at_cell hblk 0 _ rfl
      have d1 := at_cell hblk 1 _ rfl
      have d2 := at_cell hblk 2 _ rfl
      have d3 := at_cell hblk 3 _ rfl
      have d4 := at_cell hblk 4 _ rfl
      have d5 := at_cell hblk 5 _ rfl
      have d6 := at_cell hblk 6 _ rfl
      have d7 := at_cell hblk 7 _ rfl
      have HS := Lib.hid hbx
      have Hset := Lib.hid hset
      have hkd : kd < 256 := hact.1
      have hkd1 : (kd : Int) < 256 := by omega
      have k1 : (k : Int) < ps.length := by omega
      have k2 : (0 : Int) ≤ k := by omega
      have k3 : ((k : Int)).toNat = k := by omega
      have Hsm := Lib.hid hsm
      have Hg := Lib.hid hg
      have Hact := Lib.hid hact
      clear hs hbx hblk hset hsm hg hact
      have hv : kd % 16 < 10 ∨ ((kd : Int) % 16 = 10 ∨ (kd : Int) % 16 = 11) ∨ ((kd : Int) % 16 = 12 ∨ (kd : Int) % 16 = 13) ∨ ((kd : Int) % 16 = 14 ∨ (kd : Int) % 16 = 15) := by omega
      rcases hv with hv | hv | hv | hv
      · obtain ⟨P, Q, O, E, hRd, hRr⟩ := both_read (W0 := w) (m := m) (t := t) (bl := bl) Hsm.out n ra
        have HRd := Lib.hid hRd
        have HRr := Lib.hid hRr
        have HSt := Lib.hid (fun W h => Hset.out W h hv)
        obtain ⟨v, hkv⟩ : ∃ v, kd % 16 = v := ⟨_, rfl⟩
        have hkw : (kd : Int) % 16 = v := by omega
        have v0 : ((v : Int) == 10) = false := by rw [beq_eq_false_iff_ne]; omega
        have v1 : ((v : Int) == 11) = false := by rw [beq_eq_false_iff_ne]; omega
        have v2 : ((v : Int) == 12) = false := by rw [beq_eq_false_iff_ne]; omega
        have v3 : ((v : Int) == 13) = false := by rw [beq_eq_false_iff_ne]; omega
        have v4 : ((v : Int) == 14) = false := by rw [beq_eq_false_iff_ne]; omega
        have v5 : ((v : Int) == 15) = false := by rw [beq_eq_false_iff_ne]; omega
        have v6 : (v : Int) < 10 := by omega
        clear hRd hRr Hset hv hkv Hact
        go_wp2_with (first
          | (go_at_call 77; refine (HSt.out _ HS.out).mono ?_; rintro e w5 ⟨rfl, h5⟩; clear d0 d1 d2 d3 d4 d5 d6 d7; have hq := h5.block (X := wr.heap.size) (o := .cells #[.int .u8 kd, .int .i64 ra, .int .i64 ri, .int .i64 rb, .int .u64 rx, .int .i64 rp, .int .i64 rq, .int .i64 ro] 108 (0, 0)) (by simp); have d1 := at_cell hq 1 _ rfl; have d2 := at_cell hq 2 _ rfl; clear hq; clear HS; have HS := Lib.hid h5; clear h5)
          | (go_at_call 78; refine (HRd.out _ _ HS.out).mono ?_; rintro e w6 ⟨rfl, h6⟩; clear d1 d2; have h7 := h6.box #[.int .i64 P, .int .i64 Q, .int .i64 O] 106; have hq := h7.block (X := wr.heap.size) (o := .cells #[.int .u8 kd, .int .i64 ra, .int .i64 ri, .int .i64 rb, .int .u64 rx, .int .i64 rp, .int .i64 rq, .int .i64 ro] 108 (0, 0)) (by simp); have d1 := at_cell hq 1 _ rfl; have d2 := at_cell hq 2 _ rfl; clear hq; have HS6 := Lib.hid h7; clear h6 h7 HS)
          | (go_at_call 79; refine (HRr.out _ _ HS6.out).mono ?_; rintro e w7 ⟨rfl, h8⟩; have h9 := h8.box #[.int .i64 P, .int .i64 Q, .int .i64 O] 106; have u1 := h9.block (List.mem_cons_self ..); have u2 := h9.block (List.mem_cons_of_mem _ (List.mem_cons_self ..)); have e0 := at_cell u1 0 _ rfl; have e1 := at_cell u1 1 _ rfl; have e2 := at_cell u1 2 _ rfl; have e3 := at_cell u2 0 _ rfl; have e4 := at_cell u2 1 _ rfl; have e5 := at_cell u2 2 _ rfl; have HS7 := Lib.hid h9; clear h8 h9 u1 u2 HS6)
          | (go_at_call 80; refine (same15_yes HS7.out _).mono ?_; rintro e w8 ⟨rfl, h10⟩; have HS8 := Lib.hid (h10.sub (K' := []) (by simp)); clear h10 e0 e1 e2 e3 e4 e5 d1 d2 HS7))
        go_roundw
        case rel => exact ⟨k + 1, g1, by go_num, by omega, Hsm.out, HS8.out⟩
        case measure => simp [intOf]; omega
      · obtain ⟨P, Q, O, E, hRd, hRr⟩ := both_read (W0 := w) (m := m) (t := t) (bl := bl) Hg.out n ra
        have HRd := Lib.hid hRd
        have HRr := Lib.hid hRr
        obtain ⟨X, F, hX, hG, hH⟩ := both_ptr (W0 := w) (m := m) (t := t) (bl := bl) Hg.out n ra ri
        have HG := Lib.hid hG
        have HH := Lib.hid hH
        have hX1 : IntKind.u64.wrap (X : Int) = X := by rw [IntKind.wrap_u64]; omega
        clear hX
        clear hRd hRr Hset Hact hG hH
        rcases hv with hv | hv
        all_goals
          clear d3 d4 d5 d6 d7
          go_wp2_with (first
            | (go_at_call 72; refine (HG.out _ _ HS.out).mono ?_; rintro e w4 ⟨rfl, h4⟩; clear d0 d1 d2; have hq := h4.block (X := wr.heap.size) (o := .cells #[.int .u8 kd, .int .i64 ra, .int .i64 ri, .int .i64 rb, .int .u64 rx, .int .i64 rp, .int .i64 rq, .int .i64 ro] 108 (0, 0)) (by simp); have d1 := at_cell hq 1 _ rfl; have d2 := at_cell hq 2 _ rfl; clear hq; clear HS; have HS := Lib.hid h4; clear h4)
            | (go_at_call 73; refine (HH.out _ _ HS.out).mono ?_; rintro e w5 ⟨rfl, h5⟩; clear d1 d2; have hq := h5.block (X := wr.heap.size) (o := .cells #[.int .u8 kd, .int .i64 ra, .int .i64 ri, .int .i64 rb, .int .u64 rx, .int .i64 rp, .int .i64 rq, .int .i64 ro] 108 (0, 0)) (by simp); have d1 := at_cell hq 1 _ rfl; have d2 := at_cell hq 2 _ rfl; clear hq; clear HS; have HS := Lib.hid h5; clear h5)
            | (go_at_call 75; refine (ofloat_bits _ _).mono ?_; rintro e w5 ⟨rfl, rfl⟩)
            | (go_at_call 78; refine (HRd.out _ _ HS.out).mono ?_; rintro e w6 ⟨rfl, h6⟩; clear d1 d2; have h7 := h6.box #[.int .i64 P, .int .i64 Q, .int .i64 O] 106; have hq := h7.block (X := wr.heap.size) (o := .cells #[.int .u8 kd, .int .i64 ra, .int .i64 ri, .int .i64 rb, .int .u64 rx, .int .i64 rp, .int .i64 rq, .int .i64 ro] 108 (0, 0)) (by simp); have d1 := at_cell hq 1 _ rfl; have d2 := at_cell hq 2 _ rfl; clear hq; have HS6 := Lib.hid h7; clear h6 h7 HS)
            | (go_at_call 79; refine (HRr.out _ _ HS6.out).mono ?_; rintro e w7 ⟨rfl, h8⟩; have h9 := h8.box #[.int .i64 P, .int .i64 Q, .int .i64 O] 106; have u1 := h9.block (List.mem_cons_self ..); have u2 := h9.block (List.mem_cons_of_mem _ (List.mem_cons_self ..)); have e0 := at_cell u1 0 _ rfl; have e1 := at_cell u1 1 _ rfl; have e2 := at_cell u1 2 _ rfl; have e3 := at_cell u2 0 _ rfl; have e4 := at_cell u2 1 _ rfl; have e5 := at_cell u2 2 _ rfl; have HS7 := Lib.hid h9; clear h8 h9 u1 u2 HS6)
            | (go_at_call 80; refine (same15_yes HS7.out _).mono ?_; rintro e w8 ⟨rfl, h10⟩; have HS8 := Lib.hid (h10.sub (K' := []) (by simp)); clear h10 e0 e1 e2 e3 e4 e5 d1 d2 HS7))
          go_roundw
          case rel => exact ⟨k + 1, g, by go_num, by omega, Hg.out, HS8.out⟩
          case measure => simp [intOf]; omega
      · obtain ⟨P, Q, O, E, hRd, hRr⟩ := both_read (W0 := w) (m := m) (t := t) (bl := bl) Hg.out n ra
        have HRd := Lib.hid hRd
        have HRr := Lib.hid hRr
        obtain ⟨X, F, hG, hH⟩ := both_float (W0 := w) (m := m) (t := t) (bl := bl) Hg.out n ra ri
        have HG := Lib.hid hG
        have HH := Lib.hid hH
        clear hRd hRr Hset Hact hG hH
        rcases hv with hv | hv
        all_goals
          clear d3 d4 d5 d6 d7
          go_wp2_with (first
            | (go_at_call 74; refine (HG.out _ _ HS.out).mono ?_; rintro e w4 ⟨rfl, h4⟩; clear d0 d1 d2; have hq := h4.block (X := wr.heap.size) (o := .cells #[.int .u8 kd, .int .i64 ra, .int .i64 ri, .int .i64 rb, .int .u64 rx, .int .i64 rp, .int .i64 rq, .int .i64 ro] 108 (0, 0)) (by simp); have d1 := at_cell hq 1 _ rfl; have d2 := at_cell hq 2 _ rfl; clear hq; clear HS; have HS := Lib.hid h4; clear h4)
            | (go_at_call 73; refine (HH.out _ _ HS.out).mono ?_; rintro e w5 ⟨rfl, h5⟩; clear d1 d2; have hq := h5.block (X := wr.heap.size) (o := .cells #[.int .u8 kd, .int .i64 ra, .int .i64 ri, .int .i64 rb, .int .u64 rx, .int .i64 rp, .int .i64 rq, .int .i64 ro] 108 (0, 0)) (by simp); have d1 := at_cell hq 1 _ rfl; have d2 := at_cell hq 2 _ rfl; clear hq; clear HS; have HS := Lib.hid h5; clear h5)
            | (go_at_call 75; refine (ofloat_bits _ _).mono ?_; rintro e w5 ⟨rfl, rfl⟩)
            | (go_at_call 78; refine (HRd.out _ _ HS.out).mono ?_; rintro e w6 ⟨rfl, h6⟩; clear d1 d2; have h7 := h6.box #[.int .i64 P, .int .i64 Q, .int .i64 O] 106; have hq := h7.block (X := wr.heap.size) (o := .cells #[.int .u8 kd, .int .i64 ra, .int .i64 ri, .int .i64 rb, .int .u64 rx, .int .i64 rp, .int .i64 rq, .int .i64 ro] 108 (0, 0)) (by simp); have d1 := at_cell hq 1 _ rfl; have d2 := at_cell hq 2 _ rfl; clear hq; have HS6 := Lib.hid h7; clear h6 h7 HS)
            | (go_at_call 79; refine (HRr.out _ _ HS6.out).mono ?_; rintro e w7 ⟨rfl, h8⟩; have h9 := h8.box #[.int .i64 P, .int .i64 Q, .int .i64 O] 106; have u1 := h9.block (List.mem_cons_self ..); have u2 := h9.block (List.mem_cons_of_mem _ (List.mem_cons_self ..)); have e0 := at_cell u1 0 _ rfl; have e1 := at_cell u1 1 _ rfl; have e2 := at_cell u1 2 _ rfl; have e3 := at_cell u2 0 _ rfl; have e4 := at_cell u2 1 _ rfl; have e5 := at_cell u2 2 _ rfl; have HS7 := Lib.hid h9; clear h8 h9 u1 u2 HS6)
            | (go_at_call 80; refine (same15_yes HS7.out _).mono ?_; rintro e w8 ⟨rfl, h10⟩; have HS8 := Lib.hid (h10.sub (K' := []) (by simp)); clear h10 e0 e1 e2 e3 e4 e5 d1 d2 HS7))
          go_roundw
          case rel => exact ⟨k + 1, g, by go_num, by omega, Hg.out, HS8.out⟩
          case measure => simp [intOf]; omega
      · obtain ⟨P, Q, O, E, hRd, hRr⟩ := both_read (W0 := w) (m := m) (t := t) (bl := bl) Hg.out n ra
        have HRd := Lib.hid hRd
        have HRr := Lib.hid hRr
        obtain ⟨X, F, hG, hH⟩ := both_word (W0 := w) (m := m) (t := t) (bl := bl) Hg.out n ra ri
        have HG := Lib.hid hG
        have HH := Lib.hid hH
        clear hRd hRr Hset Hact hG hH
        rcases hv with hv | hv
        all_goals
          clear d3 d4 d5 d6 d7
          go_wp2_with (first
            | (go_at_call 76; refine (HG.out _ _ HS.out).mono ?_; rintro e w4 ⟨rfl, h4⟩; clear d0 d1 d2; have hq := h4.block (X := wr.heap.size) (o := .cells #[.int .u8 kd, .int .i64 ra, .int .i64 ri, .int .i64 rb, .int .u64 rx, .int .i64 rp, .int .i64 rq, .int .i64 ro] 108 (0, 0)) (by simp); have d1 := at_cell hq 1 _ rfl; have d2 := at_cell hq 2 _ rfl; clear hq; clear HS; have HS := Lib.hid h4; clear h4)
            | (go_at_call 73; refine (HH.out _ _ HS.out).mono ?_; rintro e w5 ⟨rfl, h5⟩; clear d1 d2; have hq := h5.block (X := wr.heap.size) (o := .cells #[.int .u8 kd, .int .i64 ra, .int .i64 ri, .int .i64 rb, .int .u64 rx, .int .i64 rp, .int .i64 rq, .int .i64 ro] 108 (0, 0)) (by simp); have d1 := at_cell hq 1 _ rfl; have d2 := at_cell hq 2 _ rfl; clear hq; clear HS; have HS := Lib.hid h5; clear h5)
            | (go_at_call 75; refine (ofloat_bits _ _).mono ?_; rintro e w5 ⟨rfl, rfl⟩)
            | (go_at_call 78; refine (HRd.out _ _ HS.out).mono ?_; rintro e w6 ⟨rfl, h6⟩; clear d1 d2; have h7 := h6.box #[.int .i64 P, .int .i64 Q, .int .i64 O] 106; have hq := h7.block (X := wr.heap.size) (o := .cells #[.int .u8 kd, .int .i64 ra, .int .i64 ri, .int .i64 rb, .int .u64 rx, .int .i64 rp, .int .i64 rq, .int .i64 ro] 108 (0, 0)) (by simp); have d1 := at_cell hq 1 _ rfl; have d2 := at_cell hq 2 _ rfl; clear hq; have HS6 := Lib.hid h7; clear h6 h7 HS)
            | (go_at_call 79; refine (HRr.out _ _ HS6.out).mono ?_; rintro e w7 ⟨rfl, h8⟩; have h9 := h8.box #[.int .i64 P, .int .i64 Q, .int .i64 O] 106; have u1 := h9.block (List.mem_cons_self ..); have u2 := h9.block (List.mem_cons_of_mem _ (List.mem_cons_self ..)); have e0 := at_cell u1 0 _ rfl; have e1 := at_cell u1 1 _ rfl; have e2 := at_cell u1 2 _ rfl; have e3 := at_cell u2 0 _ rfl; have e4 := at_cell u2 1 _ rfl; have e5 := at_cell u2 2 _ rfl; have HS7 := Lib.hid h9; clear h8 h9 u1 u2 HS6)
            | (go_at_call 80; refine (same15_yes HS7.out _).mono ?_; rintro e w8 ⟨rfl, h10⟩; have HS8 := Lib.hid (h10.sub (K' := []) (by simp)); clear h10 e0 e1 e2 e3 e4 e5 d1 d2 HS7))
          go_roundw
          case rel => exact ⟨k + 1, g, by go_num, by omega, Hg.out, HS8.out⟩
          case measure => simp [intOf]; omega
    · have k1 : ¬ (k : Int) < ps.length := by omega
      have HB := Lib.hid hb
      clear hs hb
      go_wp2_with (go_at_call 70; refine (lives15_yes _).mono ?_; rintro e w3 ⟨rfl, hb⟩; have H3 := Lib.hid (seq HB.out hb); clear hb)
      go_ret
      exact ⟨rfl, H3.out⟩
theorem oplays_any (x : Int) (hx : 0 ≤ x) (hx2 : x < 256) (a : Option Addr) (cap : Nat) (ps : List A15.Act) (w : World) (hP : A15.Acts w a ps) :
    Calls Try.prog 12 #[.int .u8 x, .slice a ps.length cap] w fun e w' => e = .returned (.bool true) ∧ Below w.heap.size w w' := by
  obtain ⟨xn, rfl⟩ : ∃ n : Nat, x = n := ⟨x.toNat, by omega⟩
  by_cases hl : 100 < ps.length
  · exact oplays_many _ _ _ _ _ hl hP.many
  · exact oplays_walk xn (by omega) a cap ps w (by omega) hP
end Go.Proofs.Ytkcijlndblbidaa
