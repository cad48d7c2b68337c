/- Whether a graph may be: the document's May and the program's Check; Far. -/
import Derived.Test.YtplkogjnmjjjgaaGRead
import Derived.Test.YtplkogjnmjjjgaaHdAll
import Derived.BigQuiet
namespace Go.Proofs.Ytplkogjnmjjjgaa
open Go.ChangeShapes Go.WideShapes Go.ChangeAt Go.RowKit
set_option linter.unusedVariables false
set_option linter.unusedSimpArgs false

/-- a pointer that may be -/
def inr (N : Nat) (k : Int) : Bool := decide (-1 ≤ k ∧ k < N)
def mayN (N : Nat) (x : Nd) : Bool := decide (Hd.Ok (x.ps.length : Int) (x.fs.length : Int) (x.ws.length : Int)) && x.ps.all (inr N)
def mayG (g : Gr) : Bool := g.rs.all (inr g.ns.length) && g.ns.all (mayN g.ns.length)
def ndv (ap : Option Addr) (np cp : Nat) (af : Option Addr) (nf cf : Nat) (aw : Option Addr) (nw cw : Nat) : Value := .agg #[.slice ap np cp, .slice af nf cf, .slice aw nw cw]
set_option maxRecDepth 100000 in
theorem shape_any (ap : Option Addr) (np cp : Nat) (af : Option Addr) (nf cf : Nat) (aw : Option Addr) (nw cw : Nat) (w : World) :
    Calls Try.prog 41 #[.agg #[.slice ap np cp, .slice af nf cf, .slice aw nw cw]] w fun e w' => e = .returned (Hd.hv np nf nw) ∧ Below w.heap.size w w' := by
  unfold Hd.hv
  go_enter Try.func41, Try.ntmps41
  go_wp2_with (fail)
  obtain ⟨w2, hw2⟩ : ∃ w2, (w.alloc (.cells #[.slice ap np cp, .slice af nf cf, .slice aw nw cw] 47)).alloc (.cells #[.int .i64 np, .int .i64 nf, .int .i64 nw] 80) = w2 := ⟨_, rfl⟩
  have hb : Below w.heap.size w w2 := by rw [← hw2]; exact seq (below_new _ _) (below_new _ _)
  have hq : w2.heap[w.heap.size + 1]? = some (.cells #[.int .i64 np, .int .i64 nf, .int .i64 nw] 80 (0, 0)) := by
    rw [← hw2]
    have := heap_alloc_new (w.alloc (.cells #[.slice ap np cp, .slice af nf cf, .slice aw nw cw] 47)) (.cells #[.int .i64 np, .int .i64 nf, .int .i64 nw] 80)
    simpa using this
  rw [hw2]
  have q0 := at_cell hq 0 (.int .i64 np) rfl
  have q1 := at_cell hq 1 (.int .i64 nf) rfl
  have q2 := at_cell hq 2 (.int .i64 nw) rfl
  exact bodyPost_ret (v := .agg #[.int .i64 np, .int .i64 nf, .int .i64 nw]) (by simp [results, Try.results41, go_sem, q0, q1, q2]) rfl ⟨rfl, hb⟩
set_option maxRecDepth 100000 in
theorem refShape_any (ap : Option Addr) (np cp : Nat) (af : Option Addr) (nf cf : Nat) (aw : Option Addr) (nw cw : Nat) (w : World) :
    Calls Try.prog 45 #[.agg #[.slice ap np cp, .slice af nf cf, .slice aw nw cw]] w fun e w' => e = .returned (Hd.hv np nf nw) ∧ Below w.heap.size w w' := by
  unfold Hd.hv
  go_enter Try.func45, Try.ntmps45
  go_wp2_with (fail)
  obtain ⟨w2, hw2⟩ : ∃ w2, (w.alloc (.cells #[.slice ap np cp, .slice af nf cf, .slice aw nw cw] 47)).alloc (.cells #[.int .i64 np, .int .i64 nf, .int .i64 nw] 80) = w2 := ⟨_, rfl⟩
  have hb : Below w.heap.size w w2 := by rw [← hw2]; exact seq (below_new _ _) (below_new _ _)
  have hq : w2.heap[w.heap.size + 1]? = some (.cells #[.int .i64 np, .int .i64 nf, .int .i64 nw] 80 (0, 0)) := by
    rw [← hw2]
    have := heap_alloc_new (w.alloc (.cells #[.slice ap np cp, .slice af nf cf, .slice aw nw cw] 47)) (.cells #[.int .i64 np, .int .i64 nf, .int .i64 nw] 80)
    simpa using this
  rw [hw2]
  have q0 := at_cell hq 0 (.int .i64 np) rfl
  have q1 := at_cell hq 1 (.int .i64 nf) rfl
  have q2 := at_cell hq 2 (.int .i64 nw) rfl
  exact bodyPost_ret (v := .agg #[.int .i64 np, .int .i64 nf, .int .i64 nw]) (by simp [results, Try.results45, go_sem, q0, q1, q2]) rfl ⟨rfl, hb⟩
set_option maxRecDepth 100000 in
theorem bad_any {N cn : Nat} {gb : Nat} {an : Option Addr} (hN : N ≤ maxLen) (k : Int) (w : World) (hg : w.cell? ⟨gb, 1, none⟩ = some (.slice an N cn)) :
    Calls Try.prog 46 #[.int .i64 k, .pointer (some ⟨gb, 0, none⟩)] w fun e w' => e = .returned (.bool (!inr N k)) ∧ w' = w := by
  unfold maxLen at hN
  have hN2 : (N : Int) ≤ 9223372036854775807 := by omega
  obtain ⟨v, hv⟩ : ∃ v, (!inr N k) = v := ⟨_, rfl⟩
  rw [hv]
  unfold inr at hv
  have HV := Lib.hid hv
  clear hv
  by_cases h1 : k < -1
  · have h2 : decide (k < -1) = true := decide_eq_true h1
    go_enter Try.func46, Try.ntmps46
    go_wp2_with (fail)
    go_ret
    refine ⟨?_, rfl⟩
    have := HV.out
    rw [← this]
    simp
    omega
  · have h2 : decide (k < -1) = false := decide_eq_false h1
    go_enter Try.func46, Try.ntmps46
    go_wp2_with (fail)
    go_ret
    refine ⟨?_, rfl⟩
    have := HV.out
    rw [← this]
    by_cases h3 : (N : Int) ≤ k
    · simp [h3]
      try omega
    · simp [h3]
      try omega
set_option maxRecDepth 100000 in
theorem index_any {N cn : Nat} {gb : Nat} {an a : Option Addr} {zs : List Int} (cap : Nat) (hN : N ≤ maxLen) (w : World) (hg : w.cell? ⟨gb, 1, none⟩ = some (.slice an N cn)) (hz : IntRow .i64 w a zs) :
    Calls Try.prog 80 #[.slice a zs.length cap, .func (.func 46) #[] #[.pointer (some ⟨gb, 0, none⟩)]] w fun e w' => ∃ i : Int, e = .returned (.int .i64 i) ∧ decide (0 ≤ i) = !zs.all (inr N) ∧ w' = w := by
  have hm := hz.many
  unfold maxLen at hm
  have HB := Lib.hid (fun k => bad_any hN k w hg)
  have HZ := Lib.hid hz
  clear hz hg
  have hm2 : (zs.length : Int) ≤ 9223372036854775807 := by omega
  obtain ⟨v, hv⟩ : ∃ v, (!zs.all (inr N)) = v := ⟨_, rfl⟩
  rw [hv]
  have HV := Lib.hid hv
  clear hv
  go_enter Try.func80, Try.ntmps80
  go_wp2_with (fail)
  go_loopw [8] (fun i wr => ∃ (k : Nat), i = .int .i64 k ∧ k ≤ zs.length ∧ wr = w ∧ ∀ j, j < k → inr N (zs.getD j 0) = true) (fun i _ => zs.length - (intOf i).toNat)
  case atStart => exact ⟨0, rfl, by omega, rfl, fun j hj => by omega⟩
  case round =>
    obtain ⟨k, rfl, hk, rfl, hpre⟩ := hrel
    have Hpre := Lib.hid hpre
    clear hpre
    by_cases hlt : k < zs.length
    · obtain ⟨b, off, ha, hc⟩ := HZ.out.cell
      obtain rfl : a = some ⟨b, off, none⟩ := by
        rcases ha with rfl | e
        · simp at hlt
        · exact e
      have c0 := hc k hlt
      have hbad : inr N (zs.getD k 0) = false → zs.all (inr N) = false := fun h => by
        rw [← Bool.not_eq_true, List.all_eq_true]
        intro hall
        have := hall (zs.getD k 0) (by rw [List.getD_eq_getElem?_getD, List.getElem?_eq_getElem hlt]; exact List.getElem_mem hlt)
        rw [h] at this
        cases this
      have Hbad := Lib.hid hbad
      have HB2 := Lib.hid (HB.out (zs.getD k 0))
      have hgd : inr N (zs.getD k 0) = true → ∀ j, j < k + 1 → inr N (zs.getD j 0) = true := fun h j hj => by
        rcases Nat.lt_or_ge j k with h2 | h2
        · exact Hpre.out j h2
        · rwa [show j = k by omega]
      have Hgd := Lib.hid hgd
      clear hbad hgd hc ha
      generalize zs.getD k 0 = z at *
      obtain ⟨ok, hok⟩ : ∃ ok, inr N z = ok := ⟨_, rfl⟩
      rw [hok] at HB2 Hbad Hgd
      have k1 : (k : Int) < zs.length := by omega
      have k2 : (0 : Int) ≤ k := by omega
      have k3 : ((k : Int)).toNat = k := by omega
      clear hok
      cases ok with
      | true =>
        go_wp2_with (go_at_call 46; refine HB2.out.mono ?_; rintro e w1 ⟨rfl, rfl⟩)
        go_roundw
        case rel => exact ⟨k + 1, by go_num, by omega, by trivial, Hgd.out (by trivial)⟩
        case measure => simp [intOf]; omega
      | false =>
        go_wp2_with (go_at_call 46; refine HB2.out.mono ?_; rintro e w1 ⟨rfl, rfl⟩)
        go_ret
        refine ⟨k, rfl, ?_, rfl⟩
        rw [← HV.out, Hbad.out (by trivial)]
        simp
    · obtain rfl : k = zs.length := by omega
      have k1 : ¬ (zs.length : Int) < zs.length := by omega
      go_wp2_with (fail)
      go_ret
      refine ⟨-1, rfl, ?_, rfl⟩
      rw [← HV.out]
      have : zs.all (inr N) = true := by
        rw [List.all_eq_true]
        intro y hy
        obtain ⟨j, hj, rfl⟩ := List.mem_iff_getElem.1 hy
        have := Hpre.out j hj
        rwa [List.getD_eq_getElem?_getD, List.getElem?_eq_getElem hj] at this
      rw [this]
      simp
set_option maxRecDepth 100000 in
theorem contains_any {N cn : Nat} {gb : Nat} {an a : Option Addr} {zs : List Int} (cap : Nat) (hN : N ≤ maxLen) (w : World) (hg : w.cell? ⟨gb, 1, none⟩ = some (.slice an N cn)) (hz : IntRow .i64 w a zs) :
    Calls Try.prog 47 #[.slice a zs.length cap, .func (.func 46) #[] #[.pointer (some ⟨gb, 0, none⟩)]] w fun e w' => e = .returned (.bool (!zs.all (inr N))) ∧ w' = w := by
  have HI := Lib.hid (index_any cap hN w hg hz)
  clear hg hz
  go_enter Try.func47, Try.ntmps47
  go_wp2_with (go_at_call 80; refine HI.out.mono ?_; rintro e w1 ⟨i, rfl, h1, rfl⟩)
  go_ret
  refine ⟨?_, rfl⟩
  rw [← h1]
  rfl
set_option maxRecDepth 100000 in
set_option maxHeartbeats 1000000 in
theorem check_graph (g : Gr) (ar an : Option Addr) (cr cn : Nat) (w : World) (hG : GRd w ar an g) :
    Calls Try.prog 18 #[.agg #[.slice ar g.rs.length cr, .slice an g.ns.length cn]] w fun e w' => e = .returned (.int .i64 (if mayG g then 0 else 5)) ∧ Below w.heap.size w w' := by
  have hn := hG.nodes.many
  obtain ⟨V, hV⟩ : ∃ V : Int, (if mayG g then 0 else 5) = V := ⟨_, rfl⟩
  rw [hV]
  have HV := Lib.hid hV
  have hb1 := below_new w (.cells #[.slice ar g.rs.length cr, .slice an g.ns.length cn] 25)
  have hq := heap_alloc_new w (.cells #[.slice ar g.rs.length cr, .slice an g.ns.length cn] 25)
  have HG := Lib.hid (hG.below hb1)
  have HB1 := Lib.hid hb1
  have d0 := at_cell hq 0 (.slice ar g.rs.length cr) rfl
  have d1 := at_cell hq 1 (.slice an g.ns.length cn) rfl
  have HC := Lib.hid (contains_any (zs := g.rs) cr hn _ d1 HG.out.roots)
  have HQ := Lib.hid hq
  unfold maxLen at hn
  have hn2 : (g.ns.length : Int) ≤ 9223372036854775807 := by omega
  obtain ⟨v, hv⟩ : ∃ v, g.rs.all (inr g.ns.length) = v := ⟨_, rfl⟩
  rw [hv] at HC
  have Hv := Lib.hid hv
  clear hV hb1 hq hG hv
  obtain ⟨gb, hgb⟩ : ∃ gb, w.heap.size = gb := ⟨_, rfl⟩
  simp only [hgb] at d0 d1 HC HQ
  cases v with
  | false =>
    go_enter Try.func18, Try.ntmps18
    go_wp2_with (go_at_call 47; refine HC.out.mono ?_; rintro e w1 ⟨rfl, rfl⟩)
    go_ret
    refine ⟨?_, HB1.out⟩
    rw [← HV.out]
    unfold mayG
    rw [Hv.out]
    rfl
  | true =>
    go_enter Try.func18, Try.ntmps18
    go_wp2_with (go_at_call 47; refine HC.out.mono ?_; rintro e w1 ⟨rfl, rfl⟩)
    generalize hw1 : w.alloc (.cells #[.slice ar g.rs.length cr, .slice an g.ns.length cn] 25) = w1 at *
    clear hw1 d0 d1 hgb HC
    go_loopw [14] (fun i wr => ∃ k : Nat, i = .int .i64 k ∧ k ≤ g.ns.length ∧ Below w1.heap.size w1 wr ∧ ∀ j, j < k → mayN g.ns.length (g.ns.getD j default) = true) (fun i _ => g.ns.length - (intOf i).toNat)
    case atStart => exact ⟨0, rfl, by omega, ⟨rfl, rfl, rfl, Nat.le_refl _, fun _ _ => rfl⟩, fun j hj => by omega⟩
    case round =>
      obtain ⟨k, rfl, hk, hb, hpre⟩ := hrel
      have Hpre := Lib.hid hpre
      have HB := Lib.hid hb
      clear hpre
      by_cases hlt : k < g.ns.length
      · have hGr := HG.out.below hb
        obtain ⟨b, off, ha, hc⟩ := hGr.nodes.cell
        obtain rfl : an = some ⟨b, off, none⟩ := by
          rcases ha with e | e
          · rw [e] at hlt; simp at hlt
          · exact e
        obtain ⟨⟨ap, cp, e0, hp⟩, ⟨af, cf, e1, hf⟩, ⟨aw, cw, e2, hw⟩⟩ := hc k hlt
        have hbad : mayN g.ns.length (g.ns.getD k default) = false → mayG g = false := fun h => by
          unfold mayG
          rw [Bool.and_eq_false_iff]
          right
          rw [← Bool.not_eq_true, List.all_eq_true]
          intro hall
          have := hall (g.ns.getD k default) (by rw [List.getD_eq_getElem?_getD, List.getElem?_eq_getElem hlt]; exact List.getElem_mem hlt)
          rw [h] at this
          cases this
        have hgd : mayN g.ns.length (g.ns.getD k default) = true → ∀ j, j < k + 1 → mayN g.ns.length (g.ns.getD j default) = true := fun h j hj => by
          rcases Nat.lt_or_ge j k with h2 | h2
          · exact Hpre.out j h2
          · rwa [show j = k by omega]
        have Hbad := Lib.hid hbad
        have Hgd := Lib.hid hgd
        clear hbad hgd hc ha hb
        generalize g.ns.getD k default = x at *
        obtain ⟨ps, fs, ws⟩ := x
        simp only [mayN] at *
        have hbx := below_new wr (.cells #[.slice ap ps.length cp, .slice af fs.length cf, .slice aw ws.length cw] 47)
        have hqx := heap_alloc_new wr (.cells #[.slice ap ps.length cp, .slice af fs.length cf, .slice aw ws.length cw] 47)
        have q0 := at_cell hqx 0 (.slice ap ps.length cp) rfl
        have q1 := at_cell hqx 1 (.slice af fs.length cf) rfl
        have q2 := at_cell hqx 2 (.slice aw ws.length cw) rfl
        have HBX := Lib.hid (HB.out.trans (hbx.mono HB.out.size))
        have HQX := Lib.hid hqx
        have HPX := Lib.hid (hp.below hbx)
        have HSH := Lib.hid (fun w => shape_any ap ps.length cp af fs.length cf aw ws.length cw w)
        have k1 : (k : Int) < g.ns.length := by omega
        have k2 : (0 : Int) ≤ k := by omega
        have k3 : ((k : Int)).toNat = k := by omega
        obtain ⟨bx, hbx2⟩ : ∃ bx, wr.heap.size = bx := ⟨_, rfl⟩
        clear hGr hp hf hw hbx hqx
        simp only [hbx2] at HQX q0 q1 q2
        by_cases hok : Hd.Ok (ps.length : Int) (fs.length : Int) (ws.length : Int)
        · have hcode := Hd.code_ok hok
          have hall : ∃ ok, ps.all (inr g.ns.length) = ok := ⟨_, rfl⟩
          obtain ⟨ok, hall⟩ := hall
          have Hall := Lib.hid hall
          rw [decide_eq_true hok, Bool.true_and, hall] at Hbad Hgd
          clear hall hok
          cases ok
          all_goals
            go_wp2_with (first
              | (go_at_call 41; refine (HSH.out _).mono ?_; rintro e w2 ⟨rfl, hb2⟩)
              | (go_at_call 48; refine (Hd.check_any _ _ _ _).mono ?_; rintro e w3 ⟨rfl, hb3⟩; have hb4 := seq hb2 hb3; have q0 := at_cell (blockB hb4 (Nat.le_refl _) HQX.out) 0 (.slice ap ps.length cp) rfl; have HBY := Lib.hid (HBX.out.trans (hb4.mono HBX.out.size)); have HCN := Lib.hid (contains_any cp HG.out.nodes.many w3 (at_cell (blockB HBY.out (Nat.le_refl _) HQ.out) 1 _ rfl) (HPX.out.below hb4)); clear hb2 hb3 hb4)
              | (go_at_call 47; refine HCN.out.mono ?_; rw [Hall.out]; rintro e w4 ⟨rfl, rfl⟩; clear HCN))
          · go_ret
            refine ⟨?_, HB1.out.trans (HBY.out.mono HB1.out.size)⟩
            rw [← HV.out, Hbad.out (by trivial)]
            rfl
          · go_roundw
            case rel => exact ⟨k + 1, by go_num, by omega, HBY.out, Hgd.out (by trivial)⟩
            case measure => simp [intOf]; omega
        · have hcode := Hd.code_bad hok
          rw [decide_eq_false hok, Bool.false_and] at Hbad
          clear hok
          go_wp2_with (first
            | (go_at_call 41; refine (HSH.out _).mono ?_; rintro e w2 ⟨rfl, hb2⟩)
            | (go_at_call 48; refine (Hd.check_any _ _ _ _).mono ?_; rintro e w3 ⟨rfl, hb3⟩; have hb4 := seq hb2 hb3; have HBY := Lib.hid (HBX.out.trans (hb4.mono HBX.out.size)); clear hb2 hb3 hb4))
          go_ret
          refine ⟨?_, HB1.out.trans (HBY.out.mono HB1.out.size)⟩
          rw [← HV.out, Hbad.out (by trivial)]
          rfl
      · obtain rfl : k = g.ns.length := by omega
        have k1 : ¬ (g.ns.length : Int) < g.ns.length := by omega
        clear hb
        go_wp2_with (fail)
        go_ret
        refine ⟨?_, HB1.out.trans (HB.out.mono HB1.out.size)⟩
        rw [← HV.out]
        unfold mayG
        rw [Hv.out, Bool.true_and]
        have : g.ns.all (mayN g.ns.length) = true := by
          rw [List.all_eq_true]
          intro y hy
          obtain ⟨j, hj, rfl⟩ := List.mem_iff_getElem.1 hy
          have := Hpre.out j hj
          rwa [List.getD_eq_getElem?_getD, List.getElem?_eq_getElem hj] at this
        rw [this]
        rfl
end Go.Proofs.Ytplkogjnmjjjgaa
