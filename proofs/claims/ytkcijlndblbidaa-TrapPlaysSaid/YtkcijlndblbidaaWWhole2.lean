/- Layer 18: Whole. -/
import Derived.Test.YtkcijlndblbidaaWWhole
namespace Go.Proofs.Ytkcijlndblbidaa
open Go.ChangeShapes Go.WideShapes Go.ChangeAt Go.RowKit Go.Maps
set_option linter.unusedVariables false

/-- addresses at which objects begin, and 0 -/
def stS (l : List Fnd) : Int → Bool := fun p => decide (p = 0) || l.any (fun x => decide (x.a = p))
def qsOf (ps : List Nat) (rs : List Int) : List Int := ps.map (fun (v : Nat) => (v : Int)) ++ rs
def whE (n : Nat) (g : Nat → Nat) (base top : Int) (rs : List Int) : Int :=
  if (allR n g base top).2 = 0 then (if (ptR n g (allR n g base top).1).2 = 0 then (if (qsOf (ptR n g (allR n g base top).1).1 rs).all (stS (allR n g base top).1) = true then 0 else 25) else (ptR n g (allR n g base top).1).2) else (allR n g base top).2
def icI (l : List Int) : List Value := l.map fun z => .int .i64 z
theorem icI_qs (ps : List Nat) (rs : List Int) : icI (qsOf ps rs) = icl ps ++ icI rs := by simp [icI, icl, qsOf]
theorem icI_get (l : List Int) (i : Nat) (hi : i < l.length) : (icI l)[i]? = some (.int .i64 (l.getD i 0)) := by
  unfold icI
  rw [List.getElem?_map, List.getD_eq_getElem?_getD, List.getElem?_eq_getElem hi]
  rfl
def stK (l : List Fnd) (k : Nat) : Int → Bool := stS (l.take k)
/-- an append at its run equation -/
theorem wpList_append_run {P : Program} (w : World) {ops : Array Oper} {rest : List Oper} {o : Oper} {a : Act} {Q : Exit → Act → World → Prop} (hgd : o.guard = none) (s x : Operand) (t : TypeId)
    (ho : o.op = .call { callee := .builtin .append, args := #[s, x], argTypes := #[t, t] }) (v vx v' : Value) (w' : World) (hs : a.eval s = v) (hx : a.eval x = vx)
    (hr : (Builtin.append_ #[t, t] o.type #[v, vx]).run P w = .ok v' w') (h : wpList P ops Q rest (a.put o.dst v') w') : wpList P ops Q (o :: rest) a w :=
  wpList_plain hgd fun _ hK => by
    unfold Oper.wp execOp
    simp only [ho, resolve, invoke, builtin, Sem.run_bind, Sem.run_pure, Result.andThen_ok, List.map_toArray, List.map_cons, List.map_nil, hs, hx, hr]
    exact hK _ _ h
theorem run_append_nil {P : Program} (w : World) (t ty e : TypeId) (i : TypeInfo) (al ar : Option Addr) (n cap cr : Nat) (ht : P.underlying t = some (.slice e)) (hi : P.info? e = some i) (hle : n ≤ cap) :
    (Builtin.append_ #[t, t] ty #[.slice al n cap, .slice ar 0 cr]).run P w = .ok (.slice al n cap) w := by
  cases al <;> cases ar <;> simp [Builtin.append_, run_underlying ht, sizeOf, typeInfo, hi, Builtin.lenOf, hle, Builtin.firstCells, loadCells, loadCellsFrom, storeCells]
theorem isI_of_row {w : World} {a : Option Addr} {rs : List Int} (h : IntRow .i64 w a rs) : ∀ z ∈ rs, IsI z := by
  intro z hz
  obtain ⟨j, hj, rfl⟩ := List.getElem_of_mem hz
  have h1 := h.each j hj
  rw [List.getD_eq_getElem?_getD, List.getElem?_eq_getElem hj] at h1
  have h2 := bounds_i64 h1
  unfold IsI
  simp only [Option.getD_some] at h2
  omega
theorem qs_len (ps : List Nat) (rs : List Int) : (qsOf ps rs).length = ps.length + rs.length := by simp [qsOf]
theorem qs_isI {ps : List Nat} {rs : List Int} (h1 : ∀ v ∈ ps, 0 < v ∧ v < 2147483648) (h2 : ∀ z ∈ rs, IsI z) (k : Nat) (hk : k < (qsOf ps rs).length) : IsI ((qsOf ps rs).getD k 0) := by
  have hm : (qsOf ps rs).getD k 0 ∈ qsOf ps rs := by rw [List.getD_eq_getElem?_getD, List.getElem?_eq_getElem hk]; exact List.getElem_mem hk
  generalize (qsOf ps rs).getD k 0 = z at *
  unfold qsOf at hm
  rw [List.mem_append, List.mem_map] at hm
  rcases hm with ⟨v, hv, rfl⟩ | hm
  · have := h1 v hv
    unfold IsI
    omega
  · exact h2 z hm
theorem all_of {qs : List Int} {f : Int → Bool} (h : ∀ j, j < qs.length → f (qs.getD j 0) = true) : qs.all f = true := by
  rw [List.all_eq_true]
  intro x hx
  obtain ⟨j, hj, rfl⟩ := List.getElem_of_mem hx
  have := h j hj
  rwa [List.getD_eq_getElem?_getD, List.getElem?_eq_getElem hj] at this
theorem not_all_of {qs : List Int} {f : Int → Bool} {j : Nat} (hj : j < qs.length) (h : f (qs.getD j 0) = false) : ¬ qs.all f = true := by
  intro he
  rw [List.all_eq_true] at he
  have := he _ (List.getElem_mem hj)
  rw [List.getD_eq_getElem?_getD, List.getElem?_eq_getElem hj] at h
  simp only [Option.getD_some] at h
  rw [h] at this
  cases this
theorem stK_succ (l : List Fnd) (k : Nat) (hk : k < l.length) (p : Int) : stK l (k + 1) p = (decide (p = (l.getD k ⟨0, 0, 0, 0⟩).a) || stK l k p) := by
  unfold stK stS
  rw [List.take_add_one, List.getElem?_eq_getElem hk, List.getD_eq_getElem?_getD, List.getElem?_eq_getElem hk]
  simp only [Option.toList_some, List.any_append, List.any_cons, List.any_nil, Bool.or_false, Option.getD_some]
  have hd : decide ((l[k]).a = p) = decide (p = (l[k]).a) := decide_eq_decide.2 eq_comm
  rw [hd]
  generalize decide (p = (l[k]).a) = b1
  generalize decide (p = 0) = b2
  generalize (l.take k).any (fun x => decide (x.a = p)) = b3
  cases b1 <;> cases b2 <;> cases b3 <;> rfl
section
variable {W0 w w' : World} {m n t : Nat} {g : Nat → Nat} {K : List (Nat × Obj)}
theorem GR.appendI {k : Nat} {xs : List Value} {al ar : Option Addr} {cap : Nat} {rs : List Int} {i : TypeInfo} (h : GR W0 m n t g K 3 1 k xs al cap w) (hi : Try.prog.info? 3 = some i) (hz : i.zero = some (.int .i64 0)) (hs : i.size = 1) (hby : i.bytes = 8)
    (hr : IntRow .i64 w ar rs) (cr : Nat) (hlen : k + rs.length ≤ maxLen) (hb : (k + rs.length) * 8 ≤ 140737488355328) :
    ∃ al5 cap5 w5, (Builtin.append_ #[71, 71] 71 #[.slice al k cap, .slice ar rs.length cr]).run Try.prog w = .ok (.slice al5 (k + rs.length) cap5) w5 ∧ GR W0 m n t g K 3 1 (k + rs.length) (xs ++ icI rs) al5 cap5 w5 := by
  by_cases h0 : rs.length = 0
  · have : rs = [] := List.length_eq_zero_iff.1 h0
    subst this
    have hle : k ≤ cap := by
      rcases h with ⟨-, rfl, rfl, -⟩ | ⟨b, cur, -, -, -, h4, -⟩
      · omega
      · exact h4
    refine ⟨al, cap, w, run_append_nil w _ _ _ i al ar k cap cr Try.underlying71 hi hle, ?_⟩
    simpa [icI] using h
  · obtain ⟨bz, offz, haz, hcz⟩ := hr.cell
    obtain rfl : ar = some ⟨bz, offz, none⟩ := by
      rcases haz with rfl | e
      · simp at h0
      · exact e
    obtain ⟨g5, cap5, w5, hrun, hown, hgrow, hat, -⟩ := run_append_lies (P := Try.prog) w 71 71 W0.heap.size 3 i (.int .i64 0) 1 8 Try.underlying71 hi hz hs hby rfl (by decide) _ _ _ h.row ⟨bz, offz, none⟩ rs.length cr (icI rs) (by simp [icI]) (fun j u hu => by
      by_cases hjr : j < rs.length
      · rw [icI_get rs j hjr] at hu
        cases hu
        have hadd : (⟨bz, offz, none⟩ : Addr).add j = ⟨bz, offz + j, none⟩ := by unfold Addr.add; split <;> simp_all
        rw [hadd]
        exact hcz j hjr
      · rw [List.getElem?_eq_none (by simp [icI]; omega)] at hu
        cases hu) (fun u hu => by
      unfold icI at hu
      rw [List.mem_map] at hu
      obtain ⟨z, -, rfl⟩ := hu
      rfl) (by omega) hlen hb h.below.size w.heap.size rfl
    exact ⟨_, _, _, hrun, h.pushN hown hgrow hat⟩
set_option maxRecDepth 100000 in
set_option maxHeartbeats 4000000 in
theorem whole_fk (h : FK W0 m n t g K w) (hg : Small n g) (base top : Int) (h3 : top ≤ 9223372036854775807) (ar : Option Addr) (rs : List Int) (cr : Nat) (hrs : IntRow .i64 W0 ar rs) (hrl : rs.length ≤ 100) :
    Calls Try.prog 95 #[spc m, .int .i64 base, .int .i64 top, .slice ar rs.length cr] w fun e w' => e = .returned (.int .i64 (whE n g base top rs)) ∧ FK W0 m n t g K w' := by
  have hn := h.dims
  have HA := Lib.hid (all_fk h hg base top h3)
  obtain ⟨f1, f2, f3⟩ := allR_facts n g base top
  have f4 := allR_a n g base top
  obtain ⟨E, hE⟩ : ∃ E, whE n g base top rs = E := ⟨_, rfl⟩
  rw [hE]
  unfold whE at hE
  unfold spc at *
  generalize allR n g base top = A at *
  obtain ⟨l, er⟩ := A
  simp only at *
  have HRs := Lib.hid hrs
  by_cases h0 : er = 0
  · subst h0
    rw [if_pos rfl] at hE
    have HPt := Lib.hid (fun K W D al cap (hF : FK W0 m n t g K W) (hk : Kept W0 m n D al (fcells l)) (hD : ∀ x ∈ D, x ∈ K) => ptrs_fk hF hg hk hD (by omega) f1 cap)
    have hpl := ptR_lt n g l
    have hpn := ptR_len n g l f1
    generalize ptR n g l = P at *
    obtain ⟨ps, pe⟩ := P
    simp only at *
    unfold spc at HPt
    clear f3 h hrs f1
    by_cases h1 : pe = 0
    · subst h1
      rw [if_pos rfl] at hE
      have hps : ps.length ≤ 1100000 := by omega
      have HE := Lib.hid hE
      have F4 := Lib.hid f4
      have Hpl := Lib.hid hpl
      have l1 : (l.length : Int) ≤ 4096 := by omega
      obtain ⟨i1, hj, hy0, hy1, hy2⟩ := info_parts int_info18
      have hmm : ∀ w : World, (Instr.makeMap 203 none).run Try.prog w = .ok (.map (some w.heap.size)) (w.alloc (.map #[] 0)) := fun w => by kernel_rfl
      clear hE f4 hpl
      go_enter Try.func95, Try.ntmps95
      go_wp2_with (first
        | (go_at_call 90; refine HA.out.mono ?_; rintro e w1 ⟨al, cap, rfl, h1⟩; obtain ⟨D, hF, hk⟩ := h1.kept; have HP2 := Lib.hid (HPt.out _ _ _ _ cap hF hk (fun x hx => List.mem_append_left _ hx)); have Hk := Lib.hid hk; clear h1 hF hk)
        | (go_at_call 141; refine HP2.out.mono ?_; rintro e w2 ⟨al2, cap2, rfl, h2⟩; obtain ⟨w3, o3, hrun3, hb3, hBM3, hc3⟩ := BM.made.put (by unfold maxLen; omega) (heap_alloc_new w2 (.map #[] 0)) (show IsI 0 by unfold IsI; omega); have h4 := (h2.adopt (below_new w2 (.map #[] 0)) (Nat.le_refl _) (heap_alloc_new w2 (.map #[] 0))).swapK h2.below.size (fun x hx => by have := h2.full.old x hx; omega) hc3 hb3; have H4 := Lib.hid h4; have HBM := Lib.hid hBM3; have Hlow := Lib.hid h2.below.size; have Hold := Lib.hid h2.full.old; clear h2 h4 hBM3 hb3 hc3))
      clear HA HPt HP2 hrun3 hmm
      generalize w2.heap.size = B at *
      go_loopw [40] (fun i wr => ∃ (k : Nat) (o : Obj), i = .int .i64 k ∧ k ≤ l.length ∧ BM (k + 1) (stK l k) o ∧ GR W0 m n t g ((B, o) :: (D ++ K)) 3 1 ps.length (icl ps) al2 cap2 wr) (fun i _ => l.length - (intOf i).toNat)
      case atStart => exact ⟨0, o3, rfl, by omega, by
        have : stK l 0 = (fun g => decide (g = 0) || false) := by funext p; simp [stK, stS]
        rw [this]; exact HBM.out, H4.out⟩
      case round =>
        clear H4 HBM
        obtain ⟨k, o, rfl, hk, hBM, hF⟩ := hrel
        by_cases hlt : k < l.length
        · obtain ⟨bb, rfl, c0, c1, c2, c3⟩ := kept_fnd Hk.out (fun x hx => List.mem_cons_of_mem _ (List.mem_append_left _ hx)) hF.full hlt
          have hxa := F4.out (l.getD k ⟨0, 0, 0, 0⟩) (by rw [List.getD_eq_getElem?_getD, List.getElem?_eq_getElem hlt]; exact List.getElem_mem hlt)
          have hst := stK_succ l k hlt
          generalize l.getD k ⟨0, 0, 0, 0⟩ = x at *
          obtain ⟨xa, p, f, q⟩ := x
          simp only at *
          have hB := hF.box #[.int .i64 xa, .int .i64 p, .int .i64 f, .int .i64 q] 141
          have hbB := hB.block (List.mem_cons_of_mem _ (List.mem_cons_self ..))
          obtain ⟨w5, o5, hrun5, hb5, hBM5, hc5⟩ := hBM.put (by unfold maxLen; omega) hbB (f := xa) (by unfold IsI; omega)
          have h6 := (hB.tail).swapK Hlow.out (fun x hx => by have := Hold.out x hx; omega) hc5 hb5
          have hst2 : stK l (k + 1) = (fun g => decide (g = xa) || stK l k g) := funext hst
          rw [← hst2] at hBM5
          have H6 := Lib.hid h6
          have HBM5 := Lib.hid hBM5
          have k1 : (k : Int) < l.length := by omega
          have k2 : (0 : Int) ≤ k := by omega
          have k3 : ((k : Int)).toNat = k := by omega
          clear hF hB hbB hb5 hBM hBM5 hc5 h6 hst hst2
          go_wp2
          go_roundw
          case rel => exact ⟨k + 1, o5, by go_num, by omega, HBM5.out, H6.out⟩
          case measure => simp [intOf]; omega
        · obtain rfl : k = l.length := by omega
          have hsl : stK l l.length = stS l := by unfold stK; rw [List.take_length]
          rw [hsl] at hBM
          have HBM := Lib.hid hBM
          have HF := Lib.hid hF
          have k1 : ¬ (l.length : Int) < l.length := by omega
          have hrow := HRs.out.below hF.below
          have Hrow := Lib.hid hrow
          have hlow := hF.below.size
          clear hBM hF hrow hsl
          obtain ⟨al5, cap5, w5, hrun5, hg5⟩ := HF.out.appendI hj hy0 hy1 hy2 Hrow.out cr (by unfold maxLen; omega) (by omega)
          have H5 := Lib.hid hg5
          have HR5 := Lib.hid hrun5
          have l2 : (rs.length : Int) ≤ 100 := by omega
          clear hg5 hrun5 i1 hj hy0 hy1 hy2
          go_wp2_with (at_builtin; refine wpList_append_run _ rfl (.tmp 48) (.tmp 49) 71 rfl _ _ _ _ rfl rfl HR5.out ?_)
          obtain ⟨qs, hqs⟩ : ∃ qs, qsOf ps rs = qs := ⟨_, rfl⟩
          have hql : qs.length = ps.length + rs.length := by rw [← hqs, qs_len]
          have Hqi := Lib.hid (by rw [← hqs]; exact qs_isI Hpl.out (isI_of_row Hrow.out) : ∀ k, k < qs.length → IsI (qs.getD k 0))
          rw [← icI_qs, hqs, ← hql] at H5
          rw [hqs] at HE
          rw [← Int.natCast_add, ← hql]
          have l3 : (qs.length : Int) ≤ 1100100 := by omega
          clear HR5 Hrow HRs hqs Hpl F4 HF
          go_loopw [52] (fun i wr => ∃ (k : Nat), i = .int .i64 k ∧ k ≤ qs.length ∧ wr = w5 ∧ ∀ j, j < k → stS l (qs.getD j 0) = true) (fun i _ => qs.length - (intOf i).toNat)
          case atStart => exact ⟨0, rfl, by omega, rfl, by intro j hj; omega⟩
          case round =>
            obtain ⟨k, rfl, hk, rfl, hpre⟩ := hrel
            have Hpre := Lib.hid hpre
            clear hpre
            by_cases hlt : k < qs.length
            · obtain ⟨bb, rfl, c0⟩ := H5.out.at_ (icI_get qs k hlt)
              have hlk := HBM.out.look (H5.out.block (List.mem_cons_self ..)) (Hqi.out k hlt)
              have Hb := Lib.hid (fun (h : stS l (qs.getD k 0) = false) => not_all_of hlt h)
              have Hs := Lib.hid (fun (h : stS l (qs.getD k 0) = true) => (fun j hj => by rcases Nat.lt_or_ge j k with h2 | h2; exact Hpre.out j h2; rwa [show j = k by omega] : ∀ j, j < k + 1 → stS l (qs.getD j 0) = true))
              generalize qs.getD k 0 = z at *
              obtain ⟨ok, hok⟩ : ∃ ok, stS l z = ok := ⟨_, rfl⟩
              rw [hok] at hlk Hb Hs
              have k1 : (k : Int) < qs.length := by omega
              have k2 : (0 : Int) ≤ k := by omega
              have k3 : ((k : Int)).toNat = k := by omega
              clear hok
              cases ok with
              | true =>
                go_wp2
                go_roundw
                case rel => exact ⟨k + 1, by go_num, by omega, by trivial, Hs.out (by trivial)⟩
                case measure => simp [intOf]; omega
              | false =>
                go_wp2
                go_ret
                refine ⟨?_, ?_⟩
                · have := HE.out
                  rw [if_neg (Hb.out (by trivial))] at this
                  rw [← this]
                  rfl
                · exact H5.out.full.sub (fun x hx => List.mem_cons_of_mem _ (List.mem_append_right _ hx))
            · obtain rfl : k = qs.length := by omega
              have k1 : ¬ (qs.length : Int) < qs.length := by omega
              go_wp2
              go_ret
              refine ⟨?_, ?_⟩
              · have := HE.out
                rw [if_pos (all_of Hpre.out)] at this
                rw [← this]
                rfl
              · exact H5.out.full.sub (fun x hx => List.mem_cons_of_mem _ (List.mem_append_right _ hx))
    · rw [if_neg h1] at hE
      subst hE
      have b1 : (pe != 0) = true := by rw [bne_iff_ne]; exact h1
      clear f4 hpl hpn h1 f2
      go_enter Try.func95, Try.ntmps95
      go_wp2_with (first
        | (go_at_call 90; refine HA.out.mono ?_; rintro e w1 ⟨al, cap, rfl, h1⟩; obtain ⟨D, hF, hk⟩ := h1.kept; have HP2 := Lib.hid (HPt.out _ _ _ _ cap hF hk (fun x hx => List.mem_append_left _ hx)); clear h1 hF hk)
        | (go_at_call 141; refine HP2.out.mono ?_; rintro e w2 ⟨al2, cap2, rfl, h2⟩; have H2 := Lib.hid (h2.full.sub fun x hx => List.mem_append_right _ hx); clear h2))
      go_ret
      exact ⟨rfl, H2.out⟩
  · rw [if_neg h0] at hE
    subst hE
    have b1 : (er != 0) = true := by rw [bne_iff_ne]; exact h0
    clear f1 f2 f3 f4 h0 h hrs
    go_enter Try.func95, Try.ntmps95
    go_wp2_with (first
      | (go_at_call 90; refine HA.out.mono ?_; rintro e w1 ⟨al, cap, rfl, h1⟩; have H1 := Lib.hid h1.full; clear h1))
    go_ret
    exact ⟨rfl, H1.out⟩
end
end Go.Proofs.Ytkcijlndblbidaa
