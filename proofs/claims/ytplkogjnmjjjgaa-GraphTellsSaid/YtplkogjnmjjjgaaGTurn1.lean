/- Nodes of an own row whose rows may lie elsewhere; the walk of the closure that swaps two numbers. -/
import Derived.Test.YtplkogjnmjjjgaaGLives
import Derived.Test.YtplkogjnmjjjgaaGHom
namespace Go.Proofs.Ytplkogjnmjjjgaa
open Go.ChangeShapes Go.WideShapes Go.ChangeAt Go.RowKit Go.Maps
set_option linter.unusedVariables false
set_option linter.unusedSimpArgs false

/-- a row of the call's own, or one that lay there -/
def Row2 (w : World) (ap : Option Addr) (zs : List Int) (cp : Nat) (R : List (Nat × Obj)) : Prop := Rw w.heap.size 3 1 zs.length (icI zs) ap cp R ∨ (R = [] ∧ IntRow .i64 w ap zs)
inductive NsT (w : World) : List Nd → List Value → List (Nat × Obj) → Prop
  | nil : NsT w [] [] []
  | snoc {ns : List Nd} {xs : List Value} {R : List (Nat × Obj)} {x : Nd} {ap af aw : Option Addr} {cp cf cw : Nat} {Rp : List (Nat × Obj)} (h : NsT w ns xs R)
      (hp : Row2 w ap x.ps cp Rp) (hf : IntRow .u64 w af x.fs) (hw : IntRow .u64 w aw x.ws) :
      NsT w (ns ++ [x]) (xs ++ [.slice ap x.ps.length cp, .slice af x.fs.length cf, .slice aw x.ws.length cw]) (Rp ++ R)
section
variable {W0 w : World} {K R : List (Nat × Obj)} {xs : List Value}
theorem NsT.len {ns : List Nd} (h : NsT w ns xs R) : xs.length = ns.length * 3 := by
  induction h with
  | nil => rfl
  | snoc h hp hf hw ih => simp [ih]; omega
theorem Row2.rd {ap : Option Addr} {zs : List Int} {cp : Nat} (h : Row2 W0 ap zs cp R) (hK : KB W0 K w) (hR : ∀ x ∈ R, x ∈ K) (hok : OkI zs) : IntRow .i64 w ap zs := by
  rcases h with h | ⟨-, h⟩
  · exact h.introw hK hR hok
  · exact h.below hK.below
theorem NsT.rd {ns : List Nd} (h : NsT W0 ns xs R) (hK : KB W0 K w) (hR : ∀ x ∈ R, x ∈ K) (hok : ∀ x ∈ ns, OkN x) :
    ∀ i, i < ns.length → ∃ ap af aw cp cf cw, (xs[i * 3]? = some (.slice ap (ns.getD i default).ps.length cp) ∧ xs[i * 3 + 1]? = some (.slice af (ns.getD i default).fs.length cf) ∧ xs[i * 3 + 2]? = some (.slice aw (ns.getD i default).ws.length cw)) ∧ IntRow .i64 w ap (ns.getD i default).ps ∧ IntRow .u64 w af (ns.getD i default).fs ∧ IntRow .u64 w aw (ns.getD i default).ws := by
  induction h with
  | nil => intro i hi; simp at hi
  | @snoc ns xs R x ap af aw cp cf cw Rp h hp hf hw ih =>
    intro i hi
    have hlen := h.len
    by_cases hlt : i < ns.length
    · obtain ⟨ap, af, aw, cp, cf, cw, ⟨h1, h2, h3⟩, h4⟩ := ih (fun y hy => hR y (by simp [hy])) (fun y hy => hok y (by simp [hy])) i hlt
      have e : (ns ++ [x]).getD i default = ns.getD i default := by
        rw [List.getD_eq_getElem?_getD, List.getD_eq_getElem?_getD, List.getElem?_append_left hlt]
      rw [e]
      exact ⟨ap, af, aw, cp, cf, cw, ⟨by rw [List.getElem?_append_left (by omega)]; exact h1, by rw [List.getElem?_append_left (by omega)]; exact h2, by rw [List.getElem?_append_left (by omega)]; exact h3⟩, h4⟩
    · obtain rfl : i = ns.length := by
        rw [List.length_append] at hi
        simp at hi
        omega
      have e : (ns ++ [x]).getD ns.length default = x := by
        rw [List.getD_eq_getElem?_getD, List.getElem?_append_right (Nat.le_refl _)]
        simp
      rw [e]
      have hx := hok x (by simp)
      refine ⟨ap, af, aw, cp, cf, cw, ⟨?_, ?_, ?_⟩, hp.rd hK (fun y hy => hR y (by simp [hy])) hx.ps, hf.below hK.below, hw.below hK.below⟩
      · rw [List.getElem?_append_right (by omega), hlen, Nat.sub_self]; rfl
      · rw [List.getElem?_append_right (by omega), hlen, Nat.add_sub_cancel_left]; rfl
      · rw [List.getElem?_append_right (by omega), hlen, Nat.add_sub_cancel_left]; rfl
/-- a graph of an own row of nodes -/
def TGr (w : World) (g : Gr) (ar an : Option Addr) (cr cn : Nat) (B : List (Nat × Obj)) : Prop :=
  ∃ (Rr Rn : List (Nat × Obj)) (xs : List Value) (Rx : List (Nat × Obj)), Rw w.heap.size 3 1 g.rs.length (icI g.rs) ar cr Rr ∧ Rw w.heap.size 47 3 g.ns.length xs an cn Rn ∧ NsT w g.ns xs Rx ∧ B = Rr ++ (Rn ++ Rx)
theorem TGr.rd {g : Gr} {ar an : Option Addr} {cr cn : Nat} {B : List (Nat × Obj)} (h : TGr W0 g ar an cr cn B) (hK : KB W0 K w) (hB : ∀ x ∈ B, x ∈ K) (hok : OkG g) : GRd w ar an g := by
  obtain ⟨Rr, Rn, xs, Rx, h1, h2, h3, rfl⟩ := h
  refine ⟨h1.introw hK (fun y hy => hB y (by simp [hy])) hok.rs, ⟨by have := h2.le; omega, ?_⟩⟩
  have hrd := h3.rd hK (fun y hy => hB y (by simp [hy])) hok.ns
  rcases h2 with ⟨rfl, h0, -, -, rfl⟩ | ⟨b, cur, rfl, h2, h30, h4, h5, h6, h7, rfl⟩
  · exact ⟨0, 0, .inl (List.eq_nil_of_length_eq_zero h0), fun i hi => by omega⟩
  · refine ⟨b, 0, .inr rfl, fun i hi => ?_⟩
    obtain ⟨ap, af, aw, cp, cf, cw, ⟨g1, g2, g3⟩, g4, g5, g6⟩ := hrd i hi
    have hb := hK.block (hB (b, .cells cur 47 (0, 0)) (by simp))
    have cc : ∀ j v, j < g.ns.length * 3 → xs[j]? = some v → w.cell? ⟨b, 0 + j, none⟩ = some v := fun j v hj hv => by
      rw [Nat.zero_add]
      refine at_cell hb j v ?_
      rw [← h6, List.getElem?_take_of_lt hj] at hv
      simpa using hv
    exact ⟨⟨ap, cp, cc _ _ (by omega) g1, g4⟩, ⟨af, cf, by rw [Nat.add_assoc]; exact cc _ _ (by omega) g2, g5⟩, ⟨aw, cw, by rw [Nat.add_assoc]; exact cc _ _ (by omega) g3, g6⟩⟩
end
/-- two numbers swapped -/
def swI (i k n : Int) : Int := if n = i then k else if n = k then i else n
set_option maxRecDepth 100000 in
set_option maxHeartbeats 1000000 in
theorem swap_any {w : World} {bi bk : Nat} {i k : Int} (ci : w.cell? ⟨bi, 0, none⟩ = some (.int .i64 i)) (ck : w.cell? ⟨bk, 0, none⟩ = some (.int .i64 k)) {a : Option Addr} {zs : List Int} (cap : Nat) (hz : IntRow .i64 w a zs) (hm : zs.length ≤ 2000) :
    Calls Try.prog 57 #[.slice a zs.length cap, .pointer (some ⟨bi, 0, none⟩), .pointer (some ⟨bk, 0, none⟩)] w fun e w' => ∃ al cap', e = .returned (.slice al zs.length cap') ∧ ∃ R, Rw w.heap.size 3 1 zs.length (icI (zs.map (swI i k))) al cap' R ∧ FKN w R w' := by
  obtain ⟨i1, hj, hy0, hy1, hy2⟩ := info_parts int_info
  have l1 : (zs.length : Int) ≤ 2000 := by omega
  have HZ := Lib.hid hz
  have HG := Lib.hid (show GR w [] 3 1 0 [] none 0 w from GR.none' (FKN.refl w).1 _ _)
  have Hc := Lib.hid (fun W (h : Below w.heap.size w W) => (show W.cell? ⟨bi, 0, none⟩ = some (.int .i64 i) ∧ W.cell? ⟨bk, 0, none⟩ = some (.int .i64 k) from ⟨cellB h (Nat.le_refl _) ci, cellB h (Nat.le_refl _) ck⟩))
  clear hz ci ck
  go_enter Try.func57, Try.ntmps57
  go_wp2_with (fail)
  go_loopw [5, 10] (fun r iv wr => ∃ (t : Nat) (al : Option Addr) (cap2 : Nat), r = .slice al t cap2 ∧ iv = .int .i64 t ∧ t ≤ zs.length ∧ GR w [] 3 1 t (icI ((zs.take t).map (swI i k))) al cap2 wr) (fun _ iv _ => zs.length - (intOf iv).toNat)
  case atStart => exact ⟨0, none, 0, rfl, rfl, by omega, HG.out⟩
  case round =>
    clear HG
    obtain ⟨t, al, cap2, rfl, rfl, ht, hG⟩ := hrel
    obtain ⟨c1, c2⟩ := Hc.out _ hG.below
    by_cases hlt : t < zs.length
    · obtain ⟨b, off, ha, hc⟩ := (HZ.out.below hG.below).cell
      obtain rfl : a = some ⟨b, off, none⟩ := by
        rcases ha with e | e
        · rw [e] at hlt; simp at hlt
        · exact e
      have q0 := hc t hlt
      have htm : (zs.take (t + 1)).map (swI i k) = (zs.take t).map (swI i k) ++ [swI i k (zs.getD t 0)] := by rw [take_succ_getD 0 hlt, List.map_append]; rfl
      obtain ⟨x, cx, w5, hrun, hG5⟩ := hG.append1 hj hy0 hy1 hy2 rfl Try.underlying22 (.int .i64 (swI i k (zs.getD t 0))) rfl (by unfold maxLen; omega) (by omega)
      rw [← icI_snoc, ← htm] at hG5
      have H5 := Lib.hid hG5
      have k1 : (t : Int) < zs.length := by omega
      have k2 : (0 : Int) ≤ t := by omega
      have k3 : ((t : Int)).toNat = t := by omega
      have hsw : swI i k (zs.getD t 0) = swI i k (zs.getD t 0) := rfl
      unfold swI at hrun
      clear hG hG5 hc ha htm hsw
      generalize zs.getD t 0 = z at *
      by_cases e1 : z = i
      · rw [if_pos e1] at hrun
        have d1 : (z == i) = true := by simp [e1]
        have HR := Lib.hid hrun
        clear hrun e1
        go_wp2_with (at_builtin; refine wpList_append_run _ rfl (.tmp 23) (.tmp 25) 22 rfl _ _ _ _ rfl rfl HR.out ?_)
        go_roundw
        case rel => exact ⟨t + 1, _, _, rfl, by go_num, by omega, H5.out⟩
        case measure => simp [intOf]; omega
      · rw [if_neg e1] at hrun
        have d1 : (z == i) = false := by rw [beq_eq_false_iff_ne]; exact e1
        by_cases e2 : z = k
        · rw [if_pos e2] at hrun
          have d2 : (z == k) = true := by simp [e2]
          have HR := Lib.hid hrun
          clear hrun e1 e2
          go_wp2_with (at_builtin; refine wpList_append_run _ rfl (.tmp 23) (.tmp 25) 22 rfl _ _ _ _ rfl rfl HR.out ?_)
          go_roundw
          case rel => exact ⟨t + 1, _, _, rfl, by go_num, by omega, H5.out⟩
          case measure => simp [intOf]; omega
        · rw [if_neg e2] at hrun
          have d2 : (z == k) = false := by rw [beq_eq_false_iff_ne]; exact e2
          have HR := Lib.hid hrun
          clear hrun e1 e2
          go_wp2_with (at_builtin; refine wpList_append_run _ rfl (.tmp 23) (.tmp 25) 22 rfl _ _ _ _ rfl rfl HR.out ?_)
          go_roundw
          case rel => exact ⟨t + 1, _, _, rfl, by go_num, by omega, H5.out⟩
          case measure => simp [intOf]; omega
    · obtain rfl : t = zs.length := by omega
      have k1 : ¬ (zs.length : Int) < zs.length := by omega
      rw [List.take_length] at hG
      obtain ⟨R, hr, hN⟩ := hG.rw (by simp) (fun x hx => by cases hx)
      rw [List.append_nil] at hN
      have HRR := Lib.hid hr
      have HN := Lib.hid hN
      clear hG hr hN
      go_wp2_with (fail)
      go_ret
      exact ⟨al, cap2, rfl, R, HRR.out, HN.out⟩
end Go.Proofs.Ytplkogjnmjjjgaa
