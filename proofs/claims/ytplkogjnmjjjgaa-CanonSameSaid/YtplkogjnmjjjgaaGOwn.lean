/- Graphs of the call's own: rows of nodes whose rows are the call's own; appends of a node, of a run of numbers. -/
import Derived.Test.YtplkogjnmjjjgaaGNum2
import Derived.Test.YtplkogjnmjjjgaaHeldL
namespace Go.Proofs.Ytplkogjnmjjjgaa
open Go.ChangeShapes Go.WideShapes Go.ChangeAt Go.RowKit Go.Maps
set_option linter.unusedVariables false
set_option linter.unusedSimpArgs false

def icU (l : List Int) : List Value := l.map fun z => .int .u64 z
theorem icU_get (l : List Int) (i : Nat) (hi : i < l.length) : (icU l)[i]? = some (.int .u64 (l.getD i 0)) := by
  unfold icU
  rw [List.getElem?_map, List.getElem?_eq_getElem hi, List.getD_eq_getElem?_getD, List.getElem?_eq_getElem hi]
  rfl
theorem icU_snoc (l : List Int) (v : Int) : icU (l ++ [v]) = icU l ++ [.int .u64 v] := by simp [icU]
theorem uint_info : (Try.prog.info? 48).map (fun i => (i.zero, i.size, i.bytes)) = some (some (.int .u64 0), 1, 8) := by kernel_rfl
theorem node_info : (Try.prog.info? 47).map (fun i => (i.zero, i.size, i.bytes)) = some (some (.agg #[.slice none 0 0, .slice none 0 0, .slice none 0 0]), 3, 72) := by kernel_rfl
open Classical in
theorem permC {A B : List (Nat × Obj)} (h : ∀ x, A.count x = B.count x) : A.Perm B := List.perm_iff_count.2 h
theorem FKN.refl (w : World) : FKN w [] w := ⟨⟨Below.refl _ _, fun x hx => by cases hx⟩, by simp, fun x hx => by cases hx⟩
theorem FKN.below {W0 w : World} {K : List (Nat × Obj)} (h : FKN W0 K w) : Below W0.heap.size W0 w := h.1.1
theorem run_append_nil {P : Program} (w : World) (t ty e : TypeId) (i : TypeInfo) (al ar : Option Addr) (n cap cr : Nat) (ht : P.underlying t = some (.slice e)) (hi : P.info? e = some i) (hle : n ≤ cap) :
    (Builtin.append_ #[t, t] ty #[.slice al n cap, .slice ar 0 cr]).run P w = .ok (.slice al n cap) w := by
  cases al <;> cases ar <;> simp [Builtin.append_, run_underlying ht, sizeOf, typeInfo, hi, Builtin.lenOf, hle, Builtin.firstCells, loadCells, loadCellsFrom, storeCells]
section
variable {W0 w w' : World} {K K' R : List (Nat × Obj)} {ty : TypeId} {sz k : Nat} {xs : List Value} {al : Option Addr} {cap : Nat}
theorem Rw.le {base : Nat} (r : Rw base ty sz k xs al cap R) : k ≤ cap ∧ cap ≤ maxLen := by
  rcases r with ⟨rfl, rfl, rfl, rfl, rfl⟩ | ⟨b, cur, rfl, h2, h3, h4, h5, h6, h7, rfl⟩
  · exact ⟨Nat.le_refl _, by unfold maxLen; omega⟩
  · exact ⟨h3, h4⟩
theorem Rw.len {base : Nat} (r : Rw base ty sz k xs al cap R) : xs.length = k * sz := by
  rcases r with ⟨rfl, rfl, rfl, rfl, rfl⟩ | ⟨b, cur, rfl, h2, h3, h4, h5, h6, h7, rfl⟩
  · simp
  · exact h7
/-- an append of a run of cells that lie in a slice -/
theorem Rw.appN (r : Rw W0.heap.size ty sz k xs al cap R) (h : FKN W0 (R ++ K) w) {i : TypeInfo} {z : Value} {by_ : Nat} (hi : Try.prog.info? ty = some i) (hz : i.zero = some z) (hs : i.size = sz) (hby : i.bytes = by_) (hzs : z.cells.size = sz) (hsz : 0 < sz) {sty : TypeId} (hu : Try.prog.underlying sty = some (.slice ty))
    {news : List Value} {m : Nat} (hl : news.length = m * sz) {a : Option Addr} (c : Nat) (hsrc : 0 < m → ∃ b off, a = some ⟨b, off, none⟩ ∧ ∀ j u, news[j]? = some u → w.cell? ⟨b, off + j, none⟩ = some u) (h1 : ∀ u ∈ news, u.oneCell' = true) (hk : k + m ≤ maxLen) (hb : (k + m) * by_ ≤ 140737488355328) :
    ∃ al' cap' w' R', (Builtin.append_ #[sty, sty] sty #[.slice al k cap, .slice a m c]).run Try.prog w = .ok (.slice al' (k + m) cap') w' ∧ Rw W0.heap.size ty sz (k + m) (xs ++ news) al' cap' R' ∧ FKN W0 (R' ++ K) w' := by
  rcases Nat.eq_zero_or_pos m with rfl | hm
  · obtain rfl : news = [] := by
      rw [Nat.zero_mul] at hl
      exact List.eq_nil_of_length_eq_zero hl
    refine ⟨al, cap, w, R, run_append_nil w sty sty ty i al a k cap c hu hi r.le.1, ?_, h⟩
    rw [List.append_nil]
    exact r
  · obtain ⟨b, off, rfl, hc⟩ := hsrc hm
    have hG := r.gr h
    obtain ⟨g5, cap5, w5, hrun, hown, hgrow, hat, -⟩ := run_append_lies (P := Try.prog) w sty sty W0.heap.size ty i z sz by_ hu hi hz hs hby hzs hsz _ _ _ hG.row ⟨b, off, none⟩ m c news hl (fun j u hu => by
      rw [add_off]
      exact hc j u hu) h1 hm hk hb hG.below.size _ rfl
    have hd := h.drop
    obtain ⟨R', hr, hN⟩ := (hG.pushN hown hgrow hat).rw hd.2.1 hd.2.2
    exact ⟨_, _, _, R', hrun, hr, hN⟩
/-- an append of one element, laid into a block of its own -/
theorem Rw.app1 (r : Rw W0.heap.size ty sz k xs al cap R) (h : FKN W0 (R ++ K) w) {i : TypeInfo} {z : Value} {by_ : Nat} (hi : Try.prog.info? ty = some i) (hz : i.zero = some z) (hs : i.size = sz) (hby : i.bytes = by_) (hzs : z.cells.size = sz) (hsz : 0 < sz) {sty : TypeId} (hu : Try.prog.underlying sty = some (.slice ty))
    (vs : Array Value) (hl : vs.size = sz) (h1 : ∀ u ∈ vs.toList, u.oneCell' = true) (hk : k + 1 ≤ maxLen) (hb : (k + 1) * by_ ≤ 140737488355328) :
    ∃ al' cap' w' R', (Builtin.append_ #[sty, sty] sty #[.slice al k cap, .slice (some ⟨w.heap.size, 0, none⟩) 1 1]).run Try.prog (w.alloc (.cells vs ty)) = .ok (.slice al' (k + 1) cap') w' ∧ Rw W0.heap.size ty sz (k + 1) (xs ++ vs.toList) al' cap' R' ∧ FKN W0 (R' ++ K) w' := by
  have hB := (h.box vs ty).perm (K' := R ++ ((w.heap.size, .cells vs ty (0, 0)) :: K)) (permC fun x => by simp only [List.count_append, List.count_cons]; ac_rfl)
  have hq := hB.1.block (X := w.heap.size) (o := .cells vs ty (0, 0)) (List.mem_append_right _ (List.mem_cons_self ..))
  obtain ⟨al', cap', w', R', hrun, hr, hN⟩ := r.appN hB hi hz hs hby hzs hsz hu (news := vs.toList) (m := 1) (by simp [hl]) (a := some ⟨w.heap.size, 0, none⟩) 1 (fun _ => ⟨_, _, rfl, fun j u hu => by
    rw [Nat.zero_add]
    exact at_cell hq j u (by simpa using hu)⟩) h1 hk hb
  exact ⟨al', cap', w', R', hrun, hr, (hN.perm (K' := (w.heap.size, .cells vs ty (0, 0)) :: (R' ++ K)) (permC fun x => by simp only [List.count_append, List.count_cons]; ac_rfl)).tail⟩
/-- nodes in a row of the call's own: their cells, and the blocks of their rows -/
inductive NsB (base : Nat) : List Nd → List Value → List (Nat × Obj) → Prop
  | nil : NsB base [] [] []
  | snoc {ns : List Nd} {xs : List Value} {R : List (Nat × Obj)} {x : Nd} {ap af aw : Option Addr} {cp cf cw : Nat} {Rp Rf Rx : List (Nat × Obj)} (h : NsB base ns xs R)
      (hp : Rw base 3 1 x.ps.length (icI x.ps) ap cp Rp) (hf : Rw base 48 1 x.fs.length (icU x.fs) af cf Rf) (hw : Rw base 48 1 x.ws.length (icU x.ws) aw cw Rx) :
      NsB base (ns ++ [x]) (xs ++ [.slice ap x.ps.length cp, .slice af x.fs.length cf, .slice aw x.ws.length cw]) (Rp ++ (Rf ++ (Rx ++ R)))
theorem NsB.len {base : Nat} {ns : List Nd} (h : NsB base ns xs R) : xs.length = ns.length * 3 := by
  induction h with
  | nil => rfl
  | snoc h hp hf hw ih => simp [ih]; omega
/-- the numbers of a node, of a graph, are such of their types -/
def OkI (l : List Int) : Prop := ∀ i, i < l.length → (Lit.int .i64 (l.getD i 0)).wf = true
def OkU (l : List Int) : Prop := ∀ i, i < l.length → (Lit.int .u64 (l.getD i 0)).wf = true
structure OkN (x : Nd) : Prop where
  ps : OkI x.ps
  fs : OkU x.fs
  ws : OkU x.ws
structure OkG (g : Gr) : Prop where
  rs : OkI g.rs
  ns : ∀ x ∈ g.ns, OkN x
theorem Rw.introw {base : Nat} {kd : IntKind} {zs : List Int} (r : Rw base ty 1 zs.length (zs.map fun z => .int kd z) al cap R) (h : KB W0 K w) (hR : ∀ x ∈ R, x ∈ K) (hok : ∀ i, i < zs.length → (Lit.int kd (zs.getD i 0)).wf = true) : IntRow kd w al zs := by
  have hle := r.le
  refine ⟨by omega, hok, ?_⟩
  rcases r with ⟨rfl, h0, -, -, rfl⟩ | ⟨b, cur, rfl, h2, h3, h4, h5, h6, h7, rfl⟩
  · exact ⟨0, 0, .inl (List.eq_nil_of_length_eq_zero h0), fun i hi => by omega⟩
  · refine ⟨b, 0, .inr rfl, fun i hi => ?_⟩
    rw [Nat.zero_add]
    refine at_cell (h.block (hR _ (List.mem_cons_self ..))) i _ ?_
    have : (List.map (fun z => Value.int kd z) zs)[i]? = some (.int kd (zs.getD i 0)) := by
      rw [List.getElem?_map, List.getElem?_eq_getElem hi, List.getD_eq_getElem?_getD, List.getElem?_eq_getElem hi]
      rfl
    rw [← h6, List.getElem?_take_of_lt (by omega)] at this
    simpa using this
theorem NsB.rd {base : Nat} {ns : List Nd} (h : NsB base ns xs R) (hK : KB W0 K w) (hR : ∀ x ∈ R, x ∈ K) (hok : ∀ x ∈ ns, OkN x) :
    ∀ i, i < ns.length → ∃ ap af aw cp cf cw, (xs[i * 3]? = some (.slice ap (ns.getD i default).ps.length cp) ∧ xs[i * 3 + 1]? = some (.slice af (ns.getD i default).fs.length cf) ∧ xs[i * 3 + 2]? = some (.slice aw (ns.getD i default).ws.length cw)) ∧ IntRow .i64 w ap (ns.getD i default).ps ∧ IntRow .u64 w af (ns.getD i default).fs ∧ IntRow .u64 w aw (ns.getD i default).ws := by
  induction h with
  | nil => intro i hi; simp at hi
  | @snoc ns xs R x ap af aw cp cf cw Rp Rf Rx h hp hf hw ih =>
    intro i hi
    have hlen := h.len
    by_cases hlt : i < ns.length
    · obtain ⟨ap, af, aw, cp, cf, cw, ⟨h1, h2, h3⟩, h4⟩ := ih (fun y hy => hR y (by simp [hy])) (fun y hy => hok y (by simp [hy])) i hlt
      have e : (ns ++ [x]).getD i default = ns.getD i default := by
        rw [List.getD_eq_getElem?_getD, List.getD_eq_getElem?_getD, List.getElem?_append_left hlt]
      rw [e]
      exact ⟨ap, af, aw, cp, cf, cw, ⟨by rw [List.getElem?_append_left (by omega)]; exact h1, by rw [List.getElem?_append_left (by omega)]; exact h2, by rw [List.getElem?_append_left (by omega)]; exact h3⟩, h4⟩
    · obtain rfl : i = ns.length := by
        rw [List.length_append] at hi
        simp at hi
        omega
      have e : (ns ++ [x]).getD ns.length default = x := by
        rw [List.getD_eq_getElem?_getD, List.getElem?_append_right (Nat.le_refl _)]
        simp
      rw [e]
      have hx := hok x (by simp)
      refine ⟨ap, af, aw, cp, cf, cw, ⟨?_, ?_, ?_⟩, hp.introw hK (fun y hy => hR y (by simp [hy])) hx.ps, hf.introw hK (fun y hy => hR y (by simp [hy])) hx.fs, hw.introw hK (fun y hy => hR y (by simp [hy])) hx.ws⟩
      · rw [List.getElem?_append_right (by omega), hlen, Nat.sub_self]; rfl
      · rw [List.getElem?_append_right (by omega), hlen, Nat.add_sub_cancel_left]; rfl
      · rw [List.getElem?_append_right (by omega), hlen, Nat.add_sub_cancel_left]; rfl
/-- a graph whose rows are the call's own -/
def OGr (base : Nat) (g : Gr) (ar an : Option Addr) (cr cn : Nat) (B : List (Nat × Obj)) : Prop :=
  ∃ (Rr Rn : List (Nat × Obj)) (xs : List Value) (Rx : List (Nat × Obj)), Rw base 3 1 g.rs.length (icI g.rs) ar cr Rr ∧ Rw base 47 3 g.ns.length xs an cn Rn ∧ NsB base g.ns xs Rx ∧ B = Rr ++ (Rn ++ Rx)
theorem OGr.rd {base : Nat} {g : Gr} {ar an : Option Addr} {cr cn : Nat} {B : List (Nat × Obj)} (h : OGr base g ar an cr cn B) (hK : KB W0 K w) (hB : ∀ x ∈ B, x ∈ K) (hok : OkG g) : GRd w ar an g := by
  obtain ⟨Rr, Rn, xs, Rx, h1, h2, h3, rfl⟩ := h
  refine ⟨h1.introw hK (fun y hy => hB y (by simp [hy])) hok.rs, ⟨by have := h2.le; omega, ?_⟩⟩
  have hrd := h3.rd hK (fun y hy => hB y (by simp [hy])) hok.ns
  rcases h2 with ⟨rfl, h0, -, -, rfl⟩ | ⟨b, cur, rfl, h2, h30, h4, h5, h6, h7, rfl⟩
  · exact ⟨0, 0, .inl (List.eq_nil_of_length_eq_zero h0), fun i hi => by omega⟩
  · refine ⟨b, 0, .inr rfl, fun i hi => ?_⟩
    obtain ⟨ap, af, aw, cp, cf, cw, ⟨g1, g2, g3⟩, g4, g5, g6⟩ := hrd i hi
    have hb := hK.block (hB (b, .cells cur 47 (0, 0)) (by simp))
    have cc : ∀ j v, j < g.ns.length * 3 → xs[j]? = some v → w.cell? ⟨b, 0 + j, none⟩ = some v := fun j v hj hv => by
      rw [Nat.zero_add]
      refine at_cell hb j v ?_
      rw [← h6, List.getElem?_take_of_lt hj] at hv
      simpa using hv
    exact ⟨⟨ap, cp, cc _ _ (by omega) g1, g4⟩, ⟨af, cf, by rw [Nat.add_assoc]; exact cc _ _ (by omega) g2, g5⟩, ⟨aw, cw, by rw [Nat.add_assoc]; exact cc _ _ (by omega) g3, g6⟩⟩
end
/-- the nodes met as blocks -/
def MetB (W0 : World) (p mb : Nat) (S : Mt) (MB : List (Nat × Obj)) : Prop :=
  ∃ (o : Obj) (a0 a2 a3 : Option Addr) (c0 c2 c3 : Nat) (R0 R2 R3 : List (Nat × Obj)), IM S.al.length (atM S.al) o ∧ Rw W0.heap.size 3 1 S.al.length (icI S.al) a0 c0 R0 ∧ Rw W0.heap.size 3 1 S.fr.length (icI S.fr) a2 c2 R2 ∧ Rw W0.heap.size 3 1 S.st.length (icI S.st) a3 c3 R3 ∧
    MB = (p, .cells (metC a0 a2 a3 S.al.length S.fr.length S.st.length c0 c2 c3 mb) 73 (0, 0)) :: (mb, o) :: (R0 ++ (R2 ++ R3))
theorem MetS.out {W0 w : World} {p mb : Nat} {S : Mt} {E : List (Nat × Obj)} (h : MetS W0 p mb S E w) : ∃ MB, MetB W0 p mb S MB ∧ FKN W0 (MB ++ E) w := by
  obtain ⟨o, a0, a2, a3, c0, c2, c3, R0, R2, R3, h1, h2⟩ := h
  refine ⟨_, ⟨o, a0, a2, a3, c0, c2, c3, R0, R2, R3, h1, h2.r0, h2.r2, h2.r3, rfl⟩, ?_⟩
  simpa only [List.cons_append, List.append_assoc] using h2.all
theorem MetB.in_ {W0 w : World} {p mb : Nat} {S : Mt} {E MB : List (Nat × Obj)} (h : MetB W0 p mb S MB) (hK : FKN W0 (MB ++ E) w) : MetS W0 p mb S E w := by
  obtain ⟨o, a0, a2, a3, c0, c2, c3, R0, R2, R3, h1, h2, h3, h4, rfl⟩ := h
  exact ⟨o, a0, a2, a3, c0, c2, c3, R0, R2, R3, h1, ⟨h2, h3, h4, by simpa only [List.cons_append, List.append_assoc] using hK⟩⟩
end Go.Proofs.Ytplkogjnmjjjgaa
