/- The walk of TrapOthers. -/
import Derived.Test.YtkcijlndblbidaaTVals
import Derived.Test.YtkcijlndblbidaaTUndoesW
namespace Go.Proofs.Ytkcijlndblbidaa
open Go.ChangeShapes Go.WideShapes Go.ChangeAt Go.RowKit
set_option linter.unusedVariables false

section
variable {W0 : World} {m n t b4 b7 b8 b11 b12 b13 cap deep : Nat} {g : Nat → Nat} {K E : List (Nat × Obj)} {a : Option Addr} {ps : List A10.Act} {T : TypeId} {v : Value}
theorem others1_guard (hta : ∀ w, (Instr.typeAssert (.iface T v) 20 188 true).run Try.prog w = .ok (.tuple #[.agg #[.int .i64 0, .int .i64 0], .bool false]) w)
    (h4 : W0.heap[b4]? = some (.cells #[.slice a ps.length cap] 66 (0, 0))) (h7 : W0.heap[b7]? = some (.cells #[.int .i64 n] 3 (0, 0))) (h11 : (b11, .cells #[.iface T v] 20 (0, 0)) ∈ K) (h12 : (b12, .cells #[.int .i64 deep] 3 (0, 0)) ∈ K) (h8 : (b8, .cells #[.pointer (some ⟨m, 0, none⟩)] 26 (0, 0)) ∈ K) (hK : ∀ x ∈ K, ∀ cs, x.2 ≠ .cells cs 83 (0, 0))
    (hdeep : deep < 3) (hA : A10.Acts W0 a ps) (hg : ∀ b, b < n → g b < 18446744073709551616) (hps : ps.length ≤ 150) (w : World) (h : FK W0 m n t g K w) :
    Calls Try.prog 66 #[.iface 26 (.pointer (some ⟨m, 0, none⟩)), .func (.func 67) #[] #[.pointer (some ⟨b4, 0, none⟩), .pointer (some ⟨b7, 0, none⟩), .pointer (some ⟨b11, 0, none⟩), .pointer (some ⟨b13, 0, none⟩), .pointer (some ⟨b12, 0, none⟩), .pointer (some ⟨b8, 0, none⟩)]] w fun e' W' => e' = .returned (.tuple #[.agg #[.int .i64 0, .int .i64 0], .iface T v]) ∧ FK W0 m n t g K W' := by
  refine guard_panics (older := { v := .iface T v, recovered := true } :: more deep T v) (by unfold more; split <;> rfl) (fun B W hW => ?_) h
  refine (run_panics (W0 := W0) (m := m) (n := n) (t := t) (g := g) (K := K) (R := fun g' K' => (∀ b, g b = g' b) ∧ K' = K) (fun wk E W hW => (part_other others1_enter hta (others1_does (b13 := b13) hta h4 h7 h11 h12 h8 hK hdeep hA hg hps) (fun g' l' K' hr => ?_) E W hW).mono fun e' W' ⟨he, g', l', K', hr, hk, hT⟩ => ⟨he, _, _, K', ⟨?_, hr.2.2⟩, hk, hT⟩) B W hW).mono fun e' W' ⟨he, g', K', hr, hk, hT⟩ => ⟨he, ?_⟩
  · rw [hr.2.1, runS_length]
    simp; omega
  · intro b
    rw [hr.1, hr.2.1]
    exact ((undo_run n g [] ps).1 b).symm
  · rw [hr.2] at hT
    exact hT.same fun p _ => hr.1 p
theorem others2_guard (h7 : W0.heap[b7]? = some (.cells #[.int .i64 n] 3 (0, 0))) (w : World) (h : FK W0 m n t g K w) :
    Calls Try.prog 66 #[.iface 26 (.pointer (some ⟨m, 0, none⟩)), .func (.func 69) #[] #[.pointer (some ⟨b7, 0, none⟩)]] w fun e' W' => e' = .returned (.tuple #[.agg #[.int .i64 11, .int .i64 ((n : Int) + 3)], .nilIface]) ∧ FK W0 m n t g K W' := by
  refine guard_ret (fun B W hW => ?_) h
  refine (run_ret (W0 := W0) (m := m) (n := n) (t := t) (g := g) (K := []) (R := fun g' K' => g' = g ∧ K' = []) (fun wk E W hW => (part_thrown others2_enter (others2_does h7) (fun g' l' K' hr => by rw [hr.2.1]; simp) E W hW).mono fun e' W' ⟨he, g', l', K', hr, hk, hT⟩ => ⟨he, _, _, K', ⟨?_, hr.2.2⟩, hk, hT⟩) (B ++ K) W (by simpa using hW)).mono fun e' W' ⟨he, g', K', hr, hk, hT⟩ => ⟨he, ?_⟩
  · rw [hr.1, hr.2.1]
    rfl
  · rw [hr.1, hr.2, List.append_nil] at hT
    exact hT
end
set_option maxRecDepth 100000 in
theorem others_many (x y : Int) (a : Option Addr) (len cap : Nat) (w : World) (hl : 150 < len) (hm : len ≤ maxLen) :
    Calls Try.prog 11 #[.int .u8 x, .slice a len cap, .int .i64 y] w fun e w' => e = .returned (.bool true) ∧ Below w.heap.size w w' := by
  unfold maxLen at hm
  have Hv := Lib.hid lives_yes
  go_enter Try.func11, Try.ntmps11
  go_wp2_with (go_at_call 47; refine (Hv.out _).mono ?_; rintro e w2 ⟨rfl, hb⟩)
  go_ret
  exact ⟨rfl, seq (below_new w _) hb⟩
set_option maxRecDepth 100000 in
set_option maxHeartbeats 4000000 in
theorem others_walk (x : Nat) (y : Int) (hx : x < 256) (a : Option Addr) (cap : Nat) (ps : List A10.Act) (w : World) (hl : ps.length ≤ 150) (hP : A10.Acts w a ps) :
    Calls Try.prog 11 #[.int .u8 x, .slice a ps.length cap, .int .i64 y] w fun e w' => e = .returned (.bool true) ∧ Below w.heap.size w w' := by
  obtain ⟨n, hn⟩ : ∃ n, x % 16 + 1 = n := ⟨_, rfl⟩
  have hn1 : 1 ≤ n ∧ n ≤ 16 := by omega
  have q1 : decide (150 < (ps.length : Int)) = false := decide_eq_false (by omega)
  have hx1 : (x : Int) < 256 := by omega
  have hl1 : (ps.length : Int) ≤ 150 := by omega
  have hmf : ∀ (fn : Fn) (first cap : Array Value) (w : World), (Instr.makeFunc fn first cap).run Try.prog w = .ok (.func fn first cap) w := fun _ _ _ _ => rfl
  have Hx := Lib.hid hn
  have HP := Lib.hid hP
  clear hP hn
  go_enter Try.func11, Try.ntmps11
  go_wp2_with (fail)
  have hxi : (x : Int) % 16 + 1 = n := by have := Hx.out; omega
  have hW1 := heap_alloc_new w (.cells #[.slice a ps.length cap] 66)
  have hW2 := blockB (below_new (w.alloc (.cells #[.slice a ps.length cap] 66)) (.cells #[.int .i64 n] 3)) (Nat.le_refl _) hW1
  have hW3 := heap_alloc_new (w.alloc (.cells #[.slice a ps.length cap] 66)) (.cells #[.int .i64 n] 3)
  have hbW : Below w.heap.size w ((w.alloc (.cells #[.slice a ps.length cap] 66)).alloc (.cells #[.int .i64 n] 3)) := seq (below_new w _) (below_new _ _)
  rw [heap_size_alloc] at hW3
  rw [hxi]
  clear hW1
  generalize (w.alloc (.cells #[.slice a ps.length cap] 66)).alloc (.cells #[.int .i64 n] 3) = W0 at *
  have HW := Lib.hid (And.intro hW2 hW3)
  have HbW := Lib.hid hbW
  have HPW := Lib.hid (HP.out.below hbW)
  have Hfr := Lib.hid (fresh_any n hn1.1 (by omega) W0)
  clear hW2 hW3 hbW HP
  refine Hfr.out.mono ?_
  rintro e w1 ⟨m, t, rfl, h1⟩
  have h1b := h1.box #[.pointer (some ⟨m, 0, none⟩)] 26
  have c8 := at_cell (h1b.block (List.mem_cons_self ..)) 0 _ rfl
  have HWD := Lib.hid (words_any h1b)
  clear h1 h1b Hfr
  go_wp2_with (go_at_call 49; refine HWD.out.mono ?_; rintro e w2 ⟨al, cp, rfl, h2⟩; obtain ⟨b9, cur, rfl, hb9, -, hcur, h3⟩ := h2.kept hn1.1; have Hcur := Lib.hid hcur; have H3 := Lib.hid h3; clear h2 h3 hcur hb9 HWD c8)
  have hH := H3.out.box #[XV y 0, XV y 1, XV y 2] 20
  have HA0 := Lib.hid (show FK W0 m n t (fun a => 100 + a) [(w2.heap.size, .cells #[XV y 0, XV y 1, XV y 2] 20 (0, 0)), (b9, .cells cur 23 (0, 0)), (w1.heap.size, .cells #[.pointer (some ⟨m, 0, none⟩)] 26 (0, 0))] (w2.alloc (.cells #[.iface 3 (.int .i64 y), .iface 83 (.agg #[.int .i64 11, .int .i64 y]), .iface 9 (.string { data := #[97, 32, 116, 101, 120, 116] })] 20)) from hH)
  clear hH H3
  generalize w2.heap.size = b38 at *
  generalize w1.heap.size = b8 at *
  go_loopw [40] (fun i wr => ∃ (k : Nat), i = .int .i64 k ∧ k ≤ 3 ∧ FK W0 m n t (fun a => 100 + a) [(b38, .cells #[XV y 0, XV y 1, XV y 2] 20 (0, 0)), (b9, .cells cur 23 (0, 0)), (b8, .cells #[.pointer (some ⟨m, 0, none⟩)] 26 (0, 0))] wr) (fun i _ => 3 - (intOf i).toNat)
  case atStart => exact ⟨0, rfl, by omega, HA0.out⟩
  case round =>
    clear HA0
    obtain ⟨k, rfl, hk, hF⟩ := hrel
    by_cases hlt : k < 3
    · obtain ⟨T, v, hX, hta, hneq⟩ := XV_facts y k
      have hc38 : wr.cell? ⟨b38, k, none⟩ = some (.iface T v) := at_cell (hF.block (List.mem_cons_self ..)) k _ (by
        rw [← hX]
        obtain rfl | rfl | rfl : k = 0 ∨ k = 1 ∨ k = 2 := by omega
        all_goals rfl)
      have k1 : (k : Int) < 3 := by omega
      have k2 : (0 : Int) ≤ k := by omega
      have k3 : ((k : Int)).toNat = k := by omega
      have HB := Lib.hid (hF.box #[.iface T v] 20)
      have Hta := Lib.hid hta
      have Hneq := Lib.hid hneq
      clear hF hX hta hneq
      go_wp2_with (fail)
      clear hc38
      generalize wr.heap.size = b11 at *
      go_loopw [44] (fun i wr => ∃ (d : Nat), i = .int .i64 d ∧ d ≤ 3 ∧ FK W0 m n t (fun a => 100 + a) [(b11, .cells #[.iface T v] 20 (0, 0)), (b38, .cells #[XV y 0, XV y 1, XV y 2] 20 (0, 0)), (b9, .cells cur 23 (0, 0)), (b8, .cells #[.pointer (some ⟨m, 0, none⟩)] 26 (0, 0))] wr) (fun i _ => 3 - (intOf i).toNat)
      case atStart => exact ⟨0, rfl, by omega, HB.out⟩
      case round =>
        clear HB
        obtain ⟨d, rfl, hd, hF⟩ := hrel
        by_cases hltd : d < 3
        · have e1 : (d : Int) < 3 := by omega
          have e2 : (0 : Int) ≤ d := by omega
          have e3 : ((d : Int)).toNat = d := by omega
          have hB := (hF.box #[.int .i64 d] 3).box #[.bool false] 4
          rw [heap_size_alloc] at hB
          have c8 := at_cell (hB.block (X := b8) (o := .cells #[.pointer (some ⟨m, 0, none⟩)] 26 (0, 0)) (by simp)) 0 _ rfl
          have HG := Lib.hid (others1_guard (b11 := b11) (b12 := wr.heap.size) (b8 := b8) (b13 := wr.heap.size + 1) (deep := d) Hta.out HW.out.1 HW.out.2 (by simp) (by simp) (by simp) (by simp) hltd HPW.out (fun b _ => by omega) hl _ hB)
          clear hF hB
          have hneq := Hneq.out
          go_wp2_with (first
            | (go_at_call 66; refine HG.out.mono ?_; rintro e w5 ⟨rfl, h5⟩; have h6 := h5.box #[.int .i64 0, .int .i64 0] 83; have q := h6.block (List.mem_cons_self ..); have d0 := at_cell q 0 _ rfl; have d1 := at_cell q 1 _ rfl; have c13 := at_cell (h6.block (X := wr.heap.size + 1) (o := .cells #[.bool false] 4 (0, 0)) (by simp)) 0 _ rfl; have c11 := at_cell (h6.block (X := b11) (o := .cells #[.iface T v] 20 (0, 0)) (by simp)) 0 _ rfl; have c8b := at_cell (h6.block (X := b8) (o := .cells #[.pointer (some ⟨m, 0, none⟩)] 26 (0, 0)) (by simp)) 0 _ rfl; have HWD := Lib.hid (words_any h6); clear h5 h6 q HG c8)
            | (go_at_call 49; refine HWD.out.mono ?_; rintro e w4 ⟨al, cp4, rfl, h6⟩; obtain ⟨b22, cur2, rfl, -, hd22, hcur2, h7⟩ := h6.kept hn1.1; have HS := Lib.hid (same_yes (hcur2.row (h7.block (List.mem_cons_self ..))) (Hcur.out.row (h7.block (X := b9) (o := .cells cur 23 (0, 0)) (by simp))) (by unfold maxLen; omega)); have H7 := Lib.hid h7; clear HWD h6 h7 hcur2 hd22 d0 d1 c11 c13 c8b)
            | (go_at_call 55; refine (HS.out _ _).mono ?_; rintro e w6 ⟨rfl, hb⟩; have H8 := Lib.hid (H7.out.grow hb); clear HS H7 hb))
          clear hneq
          go_roundw
          case rel => exact ⟨d + 1, by go_num, by omega, H8.out.sub (by simp)⟩
          case measure => simp [intOf]; omega
        · have HF := Lib.hid hF.tail
          clear hF
          have e1 : ¬ (d : Int) < 3 := by omega
          go_wp2
          go_roundw
          case rel => exact ⟨k + 1, by go_num, by omega, HF.out⟩
          case measure => simp [intOf]; omega
    · have k1 : ¬ (k : Int) < 3 := by omega
      have c8 := at_cell (hF.block (X := b8) (o := .cells #[.pointer (some ⟨m, 0, none⟩)] 26 (0, 0)) (by simp)) 0 _ rfl
      have HG := Lib.hid (others2_guard HW.out.2 _ hF)
      have n2 : (n : Int) ≤ 16 := by omega
      clear hF
      go_wp2_with (first
        | (go_at_call 66; refine HG.out.mono ?_; rintro e w5 ⟨rfl, h5⟩; have h6 := h5.box #[.int .i64 11, .int .i64 ((n : Int) + 3)] 83; have q := h6.block (List.mem_cons_self ..); have d0 := at_cell q 0 _ rfl; have d1 := at_cell q 1 _ rfl; have c7 := at_cell (blockB h6.below (Nat.le_refl _) HW.out.2) 0 _ rfl; have c8b := at_cell (h6.block (X := b8) (o := .cells #[.pointer (some ⟨m, 0, none⟩)] 26 (0, 0)) (by simp)) 0 _ rfl; have HWD := Lib.hid (words_any h6); clear h5 h6 q HG c8)
        | (go_at_call 49; refine HWD.out.mono ?_; rintro e w4 ⟨al, cp4, rfl, h6⟩; obtain ⟨b22, cur2, rfl, -, hd22, hcur2, h7⟩ := h6.kept hn1.1; have HS := Lib.hid (same_yes (hcur2.row (h7.block (List.mem_cons_self ..))) (Hcur.out.row (h7.block (X := b9) (o := .cells cur 23 (0, 0)) (by simp))) (by unfold maxLen; omega)); have H7 := Lib.hid h7; clear HWD h6 h7 hcur2 hd22 d0 d1 c7 c8b)
        | (go_at_call 55; refine (HS.out _ _).mono ?_; rintro e w6 ⟨rfl, hb⟩; have H8 := Lib.hid (H7.out.grow hb); clear HS H7 hb)
        | (go_at_call 47; refine (lives_yes _).mono ?_; rintro e w10 ⟨rfl, hb⟩; have HB := Lib.hid (seq (HbW.out.trans (H8.out.below.mono HbW.out.size)) hb); clear hb))
      go_ret
      exact ⟨rfl, HB.out⟩
theorem others_any (x y : Int) (hx : 0 ≤ x) (hx2 : x < 256) (a : Option Addr) (cap : Nat) (ps : List A10.Act) (w : World) (hP : A10.Acts w a ps) :
    Calls Try.prog 11 #[.int .u8 x, .slice a ps.length cap, .int .i64 y] w fun e w' => e = .returned (.bool true) ∧ Below w.heap.size w w' := by
  obtain ⟨xn, rfl⟩ : ∃ n : Nat, x = n := ⟨x.toNat, by omega⟩
  by_cases hl : 150 < ps.length
  · exact others_many _ _ _ _ _ _ hl hP.many
  · exact others_walk xn y (by omega) a cap ps w (by omega) hP
end Go.Proofs.Ytkcijlndblbidaa
