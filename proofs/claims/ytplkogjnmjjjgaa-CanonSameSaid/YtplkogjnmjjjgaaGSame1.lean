/- The walks of graph.equal and of slices.EqualFunc at nodes. -/
import Derived.Test.YtplkogjnmjjjgaaGEq
namespace Go.Proofs.Ytplkogjnmjjjgaa
open Go.ChangeShapes Go.WideShapes Go.ChangeAt Go.RowKit Go.Maps
set_option linter.unusedVariables false
set_option linter.unusedSimpArgs false

def sameN (x y : Nd) : Bool := decide (x.ps = y.ps) && (decide (x.fs = y.fs) && decide (x.ws = y.ws))
def sameL (xs ys : List Nd) : Bool := decide (xs.length = ys.length) && (List.range xs.length).all fun i => sameN (xs.getD i default) (ys.getD i default)
def sameG (x y : Gr) : Bool := decide (x.rs = y.rs) && sameL x.ns y.ns
theorem sameN_iff {x y : Nd} : sameN x y = true ↔ x = y := by
  obtain ⟨a, b, c⟩ := x
  obtain ⟨d, e, f⟩ := y
  simp [sameN]
theorem sameL_iff {xs ys : List Nd} : sameL xs ys = true ↔ xs = ys := by
  unfold sameL
  rw [Bool.and_eq_true, decide_eq_true_iff, List.all_eq_true]
  refine ⟨fun ⟨hl, h⟩ => List.ext_getElem hl fun j h1 h2 => ?_, fun h => by subst h; exact ⟨rfl, fun i _ => sameN_iff.2 rfl⟩⟩
  have := sameN_iff.1 (h j (by simp [h1]))
  rwa [List.getD_eq_getElem?_getD, List.getD_eq_getElem?_getD, List.getElem?_eq_getElem h1, List.getElem?_eq_getElem h2] at this
theorem sameG_iff {x y : Gr} : sameG x y = true ↔ x = y := by
  obtain ⟨a, b⟩ := x
  obtain ⟨c, d⟩ := y
  simp [sameG, sameL_iff]
structure NdR (w : World) (ap af aw : Option Addr) (x : Nd) : Prop where
  ps : IntRow .i64 w ap x.ps
  fs : IntRow .u64 w af x.fs
  ws : IntRow .u64 w aw x.ws
theorem NdR.below {w w' : World} {ap af aw : Option Addr} {x : Nd} (h : NdR w ap af aw x) (hb : Below w.heap.size w w') : NdR w' ap af aw x := ⟨h.ps.below hb, h.fs.below hb, h.ws.below hb⟩
theorem NRow.at_ {w : World} {a : Option Addr} {ns : List Nd} (h : NRow w a ns) {i : Nat} (hi : i < ns.length) : ∃ b off ap af aw cp cf cw, a = some ⟨b, off, none⟩ ∧ NdR w ap af aw (ns.getD i default) ∧ w.cell? ⟨b, off + i * 3, none⟩ = some (.slice ap (ns.getD i default).ps.length cp) ∧ w.cell? ⟨b, off + i * 3 + 1, none⟩ = some (.slice af (ns.getD i default).fs.length cf) ∧ w.cell? ⟨b, off + i * 3 + 2, none⟩ = some (.slice aw (ns.getD i default).ws.length cw) := by
  obtain ⟨b, off, ha, hc⟩ := h.cell
  obtain ⟨⟨ap, cp, n0, hp⟩, ⟨af, cf, n1, hf⟩, ⟨aw, cw, n2, hw⟩⟩ := hc i hi
  refine ⟨b, off, ap, af, aw, cp, cf, cw, ?_, ⟨hp, hf, hw⟩, n0, n1, n2⟩
  rcases ha with e | e
  · rw [e] at hi; cases hi
  · exact e
set_option maxRecDepth 100000 in
theorem equal_any {w : World} {ap af aw bp bf bw : Option Addr} {x y : Nd} (cp cf cw dp df dw : Nat) (hx : NdR w ap af aw x) (hy : NdR w bp bf bw y) :
    Calls Try.prog 56 #[.agg #[.slice ap x.ps.length cp, .slice af x.fs.length cf, .slice aw x.ws.length cw], .agg #[.slice bp y.ps.length dp, .slice bf y.fs.length df, .slice bw y.ws.length dw]] w fun e w' => e = .returned (.bool (sameN x y)) ∧ Below w.heap.size w w' := by
  have h1 := (FKN.refl w).box #[.slice ap x.ps.length cp, .slice af x.fs.length cf, .slice aw x.ws.length cw] 47
  have h2 := h1.box #[.slice bp y.ps.length dp, .slice bf y.fs.length df, .slice bw y.ws.length dw] 47
  simp only [heap_size_alloc] at h2
  obtain ⟨gb, hgb⟩ : ∃ gb, w.heap.size = gb := ⟨_, rfl⟩
  have HX := Lib.hid hx
  have HY := Lib.hid hy
  obtain ⟨E0, hE0⟩ : ∃ E0, [(w.heap.size + 1, Obj.cells #[.slice bp y.ps.length dp, .slice bf y.fs.length df, .slice bw y.ws.length dw] 47 (0, 0)), (w.heap.size, Obj.cells #[.slice ap x.ps.length cp, .slice af x.fs.length cf, .slice aw x.ws.length cw] 47 (0, 0))] = E0 := ⟨_, rfl⟩
  rw [hE0] at h2
  have hcs : ∀ W, FKN w E0 W → (W.cell? ⟨gb, 0, none⟩ = some (.slice ap x.ps.length cp) ∧ W.cell? ⟨gb, 1, none⟩ = some (.slice af x.fs.length cf) ∧ W.cell? ⟨gb, 2, none⟩ = some (.slice aw x.ws.length cw)) ∧ (W.cell? ⟨gb + 1, 0, none⟩ = some (.slice bp y.ps.length dp) ∧ W.cell? ⟨gb + 1, 1, none⟩ = some (.slice bf y.fs.length df) ∧ W.cell? ⟨gb + 1, 2, none⟩ = some (.slice bw y.ws.length dw)) := fun W hW => by
    subst hE0 hgb
    exact ⟨⟨at_cell (hW.1.block (List.mem_cons_of_mem _ (List.mem_cons_self ..))) 0 _ rfl, at_cell (hW.1.block (List.mem_cons_of_mem _ (List.mem_cons_self ..))) 1 _ rfl, at_cell (hW.1.block (List.mem_cons_of_mem _ (List.mem_cons_self ..))) 2 _ rfl⟩, ⟨at_cell (hW.1.block (List.mem_cons_self ..)) 0 _ rfl, at_cell (hW.1.block (List.mem_cons_self ..)) 1 _ rfl, at_cell (hW.1.block (List.mem_cons_self ..)) 2 _ rfl⟩⟩
  have Hcs := Lib.hid hcs
  have H2 := Lib.hid h2
  have hq := hcs _ h2
  obtain ⟨⟨p0, p1, p2⟩, q0, q1, q2⟩ := hq
  have HE1 := Lib.hid (fun (W : World) (h : FKN w E0 W) => eqi_any cp dp (hx.ps.below h.below) (hy.ps.below h.below))
  have HE2 := Lib.hid (fun (W : World) (h : FKN w E0 W) => equ_any cf df (hx.fs.below h.below) (hy.fs.below h.below))
  have HE3 := Lib.hid (fun (W : World) (h : FKN w E0 W) => equ_any cw dw (hx.ws.below h.below) (hy.ws.below h.below))
  obtain ⟨v, hv⟩ : ∃ v, sameN x y = v := ⟨_, rfl⟩
  rw [hv]
  unfold sameN at hv
  obtain ⟨o1, ho1⟩ : ∃ o1, decide (x.ps = y.ps) = o1 := ⟨_, rfl⟩
  obtain ⟨o2, ho2⟩ : ∃ o2, decide (x.fs = y.fs) = o2 := ⟨_, rfl⟩
  obtain ⟨o3, ho3⟩ : ∃ o3, decide (x.ws = y.ws) = o3 := ⟨_, rfl⟩
  rw [ho1] at hv HE1
  rw [ho2] at hv HE2
  rw [ho3] at hv HE3
  have HV := Lib.hid hv
  clear hE0 hcs h1 h2 hx hy hv ho1 ho2 ho3
  cases o1
  · go_enter Try.func56, Try.ntmps56
    go_wp2_with (first
      | (go_at_call 54; refine (HE1.out _ H2.out).mono ?_; rintro e w2 ⟨rfl, hb⟩; have H3 := Lib.hid (H2.out.grow hb); clear hb))
    go_ret
    exact ⟨by rw [← HV.out]; rfl, H3.out.below⟩
  · cases o2
    · go_enter Try.func56, Try.ntmps56
      go_wp2_with (first
        | (go_at_call 54; refine (HE1.out _ H2.out).mono ?_; rintro e w2 ⟨rfl, hb⟩; have H3 := Lib.hid (H2.out.grow hb); obtain ⟨⟨p0, p1, p2⟩, q0, q1, q2⟩ := Hcs.out _ H3.out; clear hb)
        | (go_at_call 81; refine (HE2.out _ H3.out).mono ?_; rintro e w3 ⟨rfl, hb⟩; have H4 := Lib.hid (H3.out.grow hb); clear hb))
      go_ret
      exact ⟨by rw [← HV.out]; rfl, H4.out.below⟩
    · go_enter Try.func56, Try.ntmps56
      go_wp2_with (first
        | (go_at_call 54; refine (HE1.out _ H2.out).mono ?_; rintro e w2 ⟨rfl, hb⟩; have H3 := Lib.hid (H2.out.grow hb); obtain ⟨⟨p0, p1, p2⟩, q0, q1, q2⟩ := Hcs.out _ H3.out; clear hb)
        | (go_at_call 81; refine (HE2.out _ H3.out).mono ?_; rintro e w3 ⟨rfl, hb⟩; have H4 := Lib.hid (H3.out.grow hb); obtain ⟨⟨r0, r1, r2⟩, s0, s1, s2⟩ := Hcs.out _ H4.out; clear hb HE2)
        | (go_at_call 81; refine (HE3.out _ H4.out).mono ?_; rintro e w4 ⟨rfl, hb⟩; have H5 := Lib.hid (H4.out.grow hb); clear hb))
      go_ret
      exact ⟨by rw [← HV.out]; rfl, H5.out.below⟩
set_option maxRecDepth 100000 in
theorem equalFunc_any {w : World} {a b : Option Addr} {xs ys : List Nd} (ca cb : Nat) (ha : NRow w a xs) (hb : NRow w b ys) :
    Calls Try.prog 55 #[.slice a xs.length ca, .slice b ys.length cb, .func (.func 56) #[] #[]] w fun e w' => e = .returned (.bool (sameL xs ys)) ∧ Below w.heap.size w w' := by
  have hm := ha.many
  have hm2 := hb.many
  unfold maxLen at hm hm2
  have l1 : (xs.length : Int) ≤ 9223372036854775807 := by omega
  have HA := Lib.hid ha
  have HB := Lib.hid hb
  clear ha hb hm hm2
  obtain ⟨v, hv⟩ : ∃ v, sameL xs ys = v := ⟨_, rfl⟩
  rw [hv]
  unfold sameL at hv
  have HV := Lib.hid hv
  clear hv
  have hbl := Lib.hid (Below.refl w.heap.size w)
  by_cases hl : xs.length = ys.length
  · have hl2 : ((xs.length : Int) != ys.length) = false := by simp [hl]
    have Hl := Lib.hid hl
    clear hl
    go_enter Try.func55, Try.ntmps55
    go_wp2_with (fail)
    go_loopw [17] (fun iv wr => ∃ i : Nat, iv = .int .i64 i ∧ i ≤ xs.length ∧ Below w.heap.size w wr ∧ ∀ j, j < i → sameN (xs.getD j default) (ys.getD j default) = true) (fun iv _ => xs.length - (intOf iv).toNat)
    case atStart => exact ⟨0, rfl, by omega, hbl.out, fun j hj => by omega⟩
    case round =>
      clear hbl
      obtain ⟨i, rfl, hi, hb, hpre⟩ := hrel
      have Hpre := Lib.hid hpre
      clear hpre
      by_cases hlt : i < xs.length
      · have hlt2 : i < ys.length := by rw [← Hl.out]; exact hlt
        obtain ⟨b1, o1, ap, af, aw, cp, cf, cw, rfl, hx, m0, m1, m2⟩ := (HA.out.below hb).at_ hlt
        obtain ⟨b2, o2, bp, bf, bw, dp, df, dw, rfl, hy, n0, n1, n2⟩ := (HB.out.below hb).at_ hlt2
        have k1 : (i : Int) < xs.length := by omega
        have k2 : (0 : Int) ≤ i := by omega
        have k3 : ((i : Int)).toNat = i := by omega
        have k4 : (i : Int) < ys.length := by omega
        obtain ⟨ok, hok⟩ : ∃ ok, sameN (xs.getD i default) (ys.getD i default) = ok := ⟨_, rfl⟩
        have Hn := Lib.hid (fun (e : ok = true) j (hj : j < i + 1) => (show sameN (xs.getD j default) (ys.getD j default) = true by
          rcases Nat.lt_or_ge j i with h2 | h2
          · exact Hpre.out j h2
          · rw [show j = i by omega, hok, e]))
        have Hbad := Lib.hid (fun (e : ok = false) => (show (decide (xs.length = ys.length) && (List.range xs.length).all fun i => sameN (xs.getD i default) (ys.getD i default)) = false by
          rw [Bool.and_eq_false_iff]
          right
          rw [← Bool.not_eq_true, List.all_eq_true]
          intro hall
          have := hall i (by simp [hlt])
          rw [hok, e] at this
          cases this))
        generalize xs.getD i default = x at *
        generalize ys.getD i default = y at *
        have hb1 := below_new wr (.cells #[.slice ap x.ps.length cp, .slice af x.fs.length cf, .slice aw x.ws.length cw] 47)
        have hb2 := seq hb1 (below_new _ (.cells #[.slice bp y.ps.length dp, .slice bf y.fs.length df, .slice bw y.ws.length dw] 47))
        have n0 := cellB hb1 (Nat.le_refl _) n0
        have n1 := cellB hb1 (Nat.le_refl _) n1
        have n2 := cellB hb1 (Nat.le_refl _) n2
        have HEQ := Lib.hid (equal_any cp cf cw dp df dw (hx.below hb2) (hy.below hb2))
        rw [hok] at HEQ
        have HB2 := Lib.hid (hb.trans (hb2.mono hb.size))
        have p0 := cellB (below_new _ (.cells #[.slice bp y.ps.length dp, .slice bf y.fs.length df, .slice bw y.ws.length dw] 47)) (Nat.le_refl _) (at_cell (heap_alloc_new wr (.cells #[.slice ap x.ps.length cp, .slice af x.fs.length cf, .slice aw x.ws.length cw] 47)) 0 _ rfl)
        have p1 := cellB (below_new _ (.cells #[.slice bp y.ps.length dp, .slice bf y.fs.length df, .slice bw y.ws.length dw] 47)) (Nat.le_refl _) (at_cell (heap_alloc_new wr (.cells #[.slice ap x.ps.length cp, .slice af x.fs.length cf, .slice aw x.ws.length cw] 47)) 1 _ rfl)
        have p2 := cellB (below_new _ (.cells #[.slice bp y.ps.length dp, .slice bf y.fs.length df, .slice bw y.ws.length dw] 47)) (Nat.le_refl _) (at_cell (heap_alloc_new wr (.cells #[.slice ap x.ps.length cp, .slice af x.fs.length cf, .slice aw x.ws.length cw] 47)) 2 _ rfl)
        clear hb1 hb2 hx hy hb hok
        cases ok
        all_goals
          go_wp2_with (go_at_call 56; refine HEQ.out.mono ?_; rintro e w2 ⟨rfl, hb⟩; have H2 := Lib.hid (HB2.out.trans (hb.mono HB2.out.size)); clear hb)
        · go_ret
          refine ⟨?_, H2.out⟩
          rw [← HV.out, Hbad.out (by trivial)]
          rfl
        · go_roundw
          case rel => exact ⟨i + 1, by go_num, by omega, H2.out, Hn.out (by trivial)⟩
          case measure => simp [intOf]; omega
      · obtain rfl : i = xs.length := by omega
        have k1 : ¬ (xs.length : Int) < xs.length := by omega
        go_wp2_with (fail)
        go_ret
        refine ⟨?_, hb⟩
        rw [← HV.out, decide_eq_true Hl.out, Bool.true_and, List.all_eq_true.2 (fun j hj => Hpre.out j (by simpa using hj))]
        rfl
  · have hl2 : ((xs.length : Int) == ys.length) = false := by
      rw [beq_eq_false_iff_ne]
      omega
    have Hne := Lib.hid hl
    clear hl
    go_enter Try.func55, Try.ntmps55
    go_wp2_with (fail)
    go_ret
    refine ⟨?_, hbl.out⟩
    rw [← HV.out, decide_eq_false Hne.out]
    rfl
end Go.Proofs.Ytplkogjnmjjjgaa
