/- Layer 18: the pointers of objects that were found. -/
import Derived.Test.YtkcijlndblbidaaWMap
namespace Go.Proofs.Ytkcijlndblbidaa
open Go.ChangeShapes Go.WideShapes Go.ChangeAt Go.RowKit
set_option linter.unusedVariables false

/-- a row that is done: its cells, wherever its block stays -/
def Kept (W0 : World) (m n : Nat) (D : List (Nat × Obj)) (al : Option Addr) (xs : List Value) : Prop :=
  ∀ (w' : World) (g' : Nat → Nat) (t' : Nat) (K' : List (Nat × Obj)), (∀ x ∈ D, x ∈ K') → FK W0 m n t' g' K' w' → ∀ (j : Nat) (v : Value), xs[j]? = some v → ∃ b, al = some ⟨b, 0, none⟩ ∧ w'.cell? ⟨b, j, none⟩ = some v
theorem GR.kept {W0 w : World} {m n t : Nat} {g : Nat → Nat} {K : List (Nat × Obj)} {ty : TypeId} {sz k : Nat} {xs : List Value} {al : Option Addr} {cap : Nat} (h : GR W0 m n t g K ty sz k xs al cap w) : ∃ D, FK W0 m n t g (D ++ K) w ∧ Kept W0 m n D al xs := by
  obtain ⟨D, h1, h2⟩ := h.done
  exact ⟨D, h1, fun w' g' t' K' hK hF => h2 w' g' t' K' hK hF⟩
def catN (l : List Nat) (r : List Nat × Int) : List Nat × Int := if r.2 = 0 then (l ++ r.1, 0) else ([], r.2)
def seqN (r s : List Nat × Int) : List Nat × Int := if r.2 = 0 then catN r.1 s else ([], r.2)
theorem catN_catN (l l2 : List Nat) (r : List Nat × Int) : catN l (catN l2 r) = catN (l ++ l2) r := by
  unfold catN
  by_cases e : r.2 = 0
  · rw [if_pos e, if_pos rfl, if_pos e, List.append_assoc]
  · rw [if_neg e, if_neg e, if_neg e]
theorem catN_fail (l : List Nat) (e : Int) (h : e ≠ 0) : catN l ([], e) = ([], e) := if_neg h
theorem catN_done (l : List Nat) : catN l ([], 0) = (l, 0) := by unfold catN; rw [if_pos rfl, List.append_nil]
theorem seqN_cat (v : List Nat) (s t : List Nat × Int) : seqN (catN v s) t = catN v (seqN s t) := by
  unfold seqN
  by_cases e : s.2 = 0
  · have h1 : (catN v s).2 = 0 := by unfold catN; rw [if_pos e]
    have h2 : (catN v s).1 = v ++ s.1 := by unfold catN; rw [if_pos e]
    rw [if_pos h1, if_pos e, h2, catN_catN]
  · have h1 : catN v s = ([], s.2) := by unfold catN; rw [if_neg e]
    rw [h1, if_neg e, if_neg e, catN_fail _ _ e]
theorem seqN_done (o : List Nat) (t : List Nat × Int) : catN o (seqN ([], 0) t) = catN o t := by
  show catN o (catN [] t) = _
  rw [catN_catN, List.append_nil]
theorem seqN_fail (e : Int) (h : e ≠ 0) (t : List Nat × Int) : seqN ([], e) t = ([], e) := if_neg h
def ptO (n : Nat) (g : Nat → Nat) (a : Int) : Nat → Nat → List Nat × Int
  | 0, i => ([], 0)
  | r + 1, i => if ptE n g a i = 0 then catN (if ptV n g a i = 0 then [] else [ptV n g a i]) (ptO n g a r (i + 1)) else ([], ptE n g a i)
def ptR (n : Nat) (g : Nat → Nat) : List Fnd → List Nat × Int
  | [] => ([], 0)
  | x :: l => seqN (ptO n g x.a x.p 0) (ptR n g l)
theorem ptV_lt (n : Nat) (g : Nat → Nat) (a i : Int) : ptV n g a i < 2147483648 := by
  unfold ptV
  split
  · rename_i h
    unfold ptE at h
    split at h
    · split at h
      · omega
      · omega
    · contradiction
  · omega
theorem allF_p (n : Nat) (g : Nat → Nat) (top a : Int) : ∀ x ∈ (allF n g top a).1, x.p ≤ 255 := by
  induction a using allF.induct (n := n) (g := g) (top := top) with
  | case1 a hlt h hs => rw [allF, if_pos hlt, dif_pos h, if_pos hs]; intro x hx; cases hx
  | case2 a hlt h hs ih =>
    rw [allF, if_pos hlt, dif_pos h, if_neg hs]
    unfold cat
    split
    · intro x hx
      simp only [List.mem_append, List.mem_singleton] at hx
      rcases hx with rfl | hx
      · have := rd_ok h
        unfold Hd.Ok at this
        show rdP n g a ≤ 255
        omega
      · exact ih x hx
    · intro x hx; cases hx
  | case3 a hlt h => rw [allF, if_pos hlt, dif_neg h]; intro x hx; cases hx
  | case4 a hlt => rw [allF, if_neg hlt]; intro x hx; cases hx
theorem allF_n (n : Nat) (g : Nat → Nat) (top a : Int) : (allF n g top a).1.length ≤ ((n : Int) - a).toNat := by
  induction a using allF.induct (n := n) (g := g) (top := top) with
  | case1 a hlt h hs => rw [allF, if_pos hlt, dif_pos h, if_pos hs]; simp
  | case2 a hlt h hs ih =>
    rw [allF, if_pos hlt, dif_pos h, if_neg hs]
    have := rdE_zero h
    unfold cat
    split
    · rw [List.length_append]
      simp only [List.length_cons, List.length_nil]
      omega
    · simp
  | case3 a hlt h => rw [allF, if_pos hlt, dif_neg h]; simp
  | case4 a hlt => rw [allF, if_neg hlt]; simp
theorem allR_facts (n : Nat) (g : Nat → Nat) (base top : Int) : (∀ x ∈ (allR n g base top).1, x.p ≤ 255) ∧ (allR n g base top).1.length ≤ n ∧ ((allR n g base top).2 = 0 ∨ (allR n g base top).1 = []) := by
  by_cases hb : base < 1 ∨ top < base
  · have e : allR n g base top = ([], 5) := if_pos hb
    rw [e]
    exact ⟨(fun x hx => by cases hx), by simp, .inr rfl⟩
  · have e : allR n g base top = allF n g top base := if_neg hb
    rw [e]
    refine ⟨allF_p n g top base, ?_, allF_ok n g top base⟩
    have := allF_n n g top base
    omega
section
variable {W0 w w' : World} {m n t : Nat} {g : Nat → Nat} {K D : List (Nat × Obj)} {al : Option Addr} {l : List Fnd}
theorem kept_fnd (hk : Kept W0 m n D al (fcells l)) (hD : ∀ x ∈ D, x ∈ K) (h : FK W0 m n t g K w) {k : Nat} (hlt : k < l.length) : ∃ b, al = some ⟨b, 0, none⟩ ∧ w.cell? ⟨b, k * 4, none⟩ = some (.int .i64 (l.getD k ⟨0, 0, 0, 0⟩).a) ∧ w.cell? ⟨b, k * 4 + 1, none⟩ = some (.int .i64 (l.getD k ⟨0, 0, 0, 0⟩).p) ∧ w.cell? ⟨b, k * 4 + 2, none⟩ = some (.int .i64 (l.getD k ⟨0, 0, 0, 0⟩).f) ∧ w.cell? ⟨b, k * 4 + 3, none⟩ = some (.int .i64 (l.getD k ⟨0, 0, 0, 0⟩).o) := by
  have g0 := fcells_get l k 0 hlt (by omega)
  have g1 := fcells_get l k 1 hlt (by omega)
  have g2 := fcells_get l k 2 hlt (by omega)
  have g3 := fcells_get l k 3 hlt (by omega)
  obtain ⟨b, hb, c0⟩ := hk w g t K hD h _ _ (g0.trans rfl)
  obtain ⟨b1, hb1, c1⟩ := hk w g t K hD h _ _ (g1.trans rfl)
  obtain ⟨b2, hb2, c2⟩ := hk w g t K hD h _ _ (g2.trans rfl)
  obtain ⟨b3, hb3, c3⟩ := hk w g t K hD h _ _ (g3.trans rfl)
  rw [hb] at hb1 hb2 hb3
  cases hb1
  cases hb2
  cases hb3
  exact ⟨b, hb, c0, c1, c2, c3⟩
set_option maxRecDepth 100000 in
set_option maxHeartbeats 2000000 in
theorem ptrs_fk (h : FK W0 m n t g K w) (hg : Small n g) (hk : Kept W0 m n D al (fcells l)) (hD : ∀ x ∈ D, x ∈ K) (hl : l.length ≤ 5000) (hp : ∀ x ∈ l, x.p ≤ 255) (cap : Nat) :
    Calls Try.prog 141 #[spc m, .slice al l.length cap] w fun e w' => ∃ al' cap', e = .returned (.tuple #[.slice al' (ptR n g l).1.length cap', .int .i64 (ptR n g l).2]) ∧ GR W0 m n t g K 3 1 (ptR n g l).1.length (icl (ptR n g l).1) al' cap' w' := by
  obtain ⟨i1, hj, hy0, hy1, hy2⟩ := info_parts int_info18
  obtain ⟨R, hR⟩ : ∃ R, ptR n g l = R := ⟨_, rfl⟩
  rw [hR]
  have HR := Lib.hid hR
  have Hg := Lib.hid hg
  have Hk := Lib.hid hk
  have HD := Lib.hid hD
  have Hp := Lib.hid hp
  have H := Lib.hid h
  have l1 : (l.length : Int) ≤ 5000 := by omega
  clear h hg hR hk hD hp
  unfold spc
  go_enter Try.func141, Try.ntmps141
  go_wp2_with (fail)
  go_loopw [6, 14] (fun r i wr => ∃ (k : Nat) (o : List Nat) (al2 : Option Addr) (cap2 : Nat), r = .slice al2 o.length cap2 ∧ i = .int .i64 k ∧ k ≤ l.length ∧ o.length ≤ 255 * k ∧ R = catN o (ptR n g (l.drop k)) ∧ GR W0 m n t g K 3 1 o.length (icl o) al2 cap2 wr) (fun _ i _ => l.length - (intOf i).toNat)
  case atStart => exact ⟨0, [], none, 0, rfl, rfl, by omega, by simp, by
    rw [List.drop_zero, HR.out]
    unfold catN
    split
    · rename_i e
      obtain ⟨a, b⟩ := R
      simp only at e
      rw [e]
      rfl
    · rename_i e
      have : ∀ (l : List Fnd), (ptR n g l).2 ≠ 0 → (ptR n g l).1 = [] := by
        intro l
        induction l with
        | nil => intro h; exact absurd rfl h
        | cons x l ih =>
          unfold ptR seqN
          split
          · unfold catN
            split
            · intro h; exact absurd rfl h
            · intro h; rfl
          · intro h; rfl
      have h2 := this l (by rw [HR.out]; exact e)
      rw [HR.out] at h2
      obtain ⟨a, b⟩ := R
      simp only at h2 ⊢
      rw [h2], GR.none' H.out _ _⟩
  case round =>
    clear H
    obtain ⟨k, o, al2, cap2, rfl, rfl, hk, hol, hcat, hF⟩ := hrel
    have HF := Lib.hid hF
    by_cases hlt : k < l.length
    · obtain ⟨bb, rfl, c0, c1, c2, c3⟩ := kept_fnd Hk.out HD.out hF.full hlt
      have hpx := Hp.out (l.getD k ⟨0, 0, 0, 0⟩) (by rw [List.getD_eq_getElem?_getD, List.getElem?_eq_getElem hlt]; exact List.getElem_mem hlt)
      have hdrop : l.drop k = l.getD k ⟨0, 0, 0, 0⟩ :: l.drop (k + 1) := by
        rw [List.drop_eq_getElem_cons hlt, List.getD_eq_getElem?_getD, List.getElem?_eq_getElem hlt]
        rfl
      rw [hdrop, ptR] at hcat
      generalize l.getD k ⟨0, 0, 0, 0⟩ = x at *
      obtain ⟨xa, p, f, q⟩ := x
      simp only at *
      have HB := Lib.hid (hF.box #[.int .i64 xa, .int .i64 p, .int .i64 f, .int .i64 q] 141)
      have Hcat := Lib.hid hcat
      have k1 : (k : Int) < l.length := by omega
      have k2 : (0 : Int) ≤ k := by omega
      have k3 : ((k : Int)).toNat = k := by omega
      have p1 : (p : Int) ≤ 255 := by omega
      clear hF hcat hdrop
      go_wp2_with (fail)
      clear c0 c1 c2 c3
      obtain ⟨wo, hwo⟩ : ∃ wo : Nat, wr.heap.size = wo := ⟨_, rfl⟩
      rw [hwo] at HB ⊢
      go_loopw [6, 21] (fun r i wr => ∃ (j : Nat) (o2 : List Nat) (al3 : Option Addr) (cap3 : Nat), r = .slice al3 o2.length cap3 ∧ i = .int .i64 j ∧ j ≤ p ∧ o2.length ≤ 255 * k + j ∧ R = catN o2 (seqN (ptO n g xa (p - j) j) (ptR n g (l.drop (k + 1)))) ∧ GR W0 m n t g ((wo, .cells #[.int .i64 xa, .int .i64 p, .int .i64 f, .int .i64 q] 141 (0, 0)) :: K) 3 1 o2.length (icl o2) al3 cap3 wr) (fun _ i _ => p - (intOf i).toNat)
      case atStart => exact ⟨0, o, al2, cap2, rfl, rfl, by omega, by omega, Hcat.out, HB.out⟩
      case round =>
        clear HB Hcat
        obtain ⟨j, o2, al3, cap3, rfl, rfl, hjp, hol2, hcat2, hF⟩ := hrel
        have hbl := hF.block (List.mem_cons_self ..)
        have d0 := at_cell hbl 0 _ rfl
        have HF2 := Lib.hid hF
        by_cases hltj : j < p
        · have hc := hF.mem (fun K hK => pointer_fk hK Hg.out xa j)
          unfold spc at hc
          rw [show p - j = (p - (j + 1)) + 1 by omega, ptO] at hcat2
          have hv := ptV_lt n g xa j
          have j1 : (j : Int) < p := by omega
          have j2 : (0 : Int) ≤ j := by omega
          generalize ptV n g xa j = v at *
          generalize ptE n g xa j = er at *
          have HC := Lib.hid hc
          clear hc hF hbl
          by_cases h0 : er = 0
          · subst h0
            rw [if_pos rfl, seqN_cat, catN_catN] at hcat2
            by_cases hv0 : v = 0
            · subst hv0
              rw [if_pos rfl, List.append_nil] at hcat2
              have Hcat2 := Lib.hid hcat2
              clear hcat2
              go_wp2_with (go_at_call 72; refine HC.out.mono ?_; rintro e w4 ⟨rfl, h4⟩; have H4 := Lib.hid h4; clear h4)
              go_roundw
              case rel => exact ⟨j + 1, o2, al3, cap3, rfl, by go_num, by omega, by omega, Hcat2.out, H4.out⟩
              case measure => simp [intOf]; omega
            · rw [if_neg hv0] at hcat2
              have Hcat2 := Lib.hid hcat2
              have b1 : ((v : Int) != 0) = true := by rw [bne_iff_ne]; omega
              have hll : o2.length ≤ 1300000 := by omega
              have Hol2 := Lib.hid hol2
              clear hcat2 hv0 hol2 hv
              go_wp2_with (first
                | (go_at_call 72; refine HC.out.mono ?_; rintro e w4 ⟨rfl, h4⟩; have hlow := h4.below.size; have H4 := Lib.hid h4; clear h4)
                | (at_builtin; refine wpList_append_lies _ rfl (.tmp 37) (.tmp 39) 71 rfl W0.heap.size 3 i1 (.int .i64 0) 1 8 Try.underlying71 hj hy0 hy1 hy2 rfl (by decide) _ _ _ rfl (World.ownsRow.alloc H4.out.row _) ⟨w4.heap.size, 0, none⟩ 1 1 [.int .i64 v] rfl rfl ?k1 ?k2 ?k3 ?k4 ?k5 ?k6 (w4.heap.size + 1) ?k7 ?_))
              case k1 => exact World.news_of_block (heap_alloc_new w4 (.cells #[.int .i64 v] 3))
              case k2 => intro u hu; simp at hu; subst hu; rfl
              case k3 => omega
              case k4 => unfold maxLen; omega
              case k5 => omega
              case k6 => simp; omega
              case k7 => simp
              intro g5 cap5 w5 hown5 hgrow5 hat5 hlt5
              have HN5 := Lib.hid (H4.out.push hown5 hgrow5 hat5)
              clear hown5 hgrow5 hat5
              go_wp2
              go_roundw
              case rel => exact ⟨j + 1, o2 ++ [v], _, _, by rw [List.length_append]; rfl, by go_num, by omega, by have := Hol2.out; rw [List.length_append]; simp; omega, Hcat2.out, by rw [List.length_append, icl_snoc]; exact HN5.out⟩
              case measure => simp [intOf]; omega
          · rw [if_neg h0, seqN_fail _ h0, catN_fail _ _ h0] at hcat2
            have Hcat2 := Lib.hid hcat2
            have b1 : (er != 0) = true := by rw [bne_iff_ne]; exact h0
            clear hcat2 h0
            go_wp2_with (go_at_call 72; refine HC.out.mono ?_; rintro e w4 ⟨rfl, h4⟩; have H4 := Lib.hid h4.tail; clear h4)
            go_ret2
            rw [Hcat2.out]
            exact ⟨none, 0, rfl, GR.none' H4.out.full _ _⟩
        · obtain rfl : j = p := by omega
          rw [Nat.sub_self, ptO, seqN_done] at hcat2
          have Hcat2 := Lib.hid hcat2
          have j1 : ¬ (j : Int) < j := by omega
          have HF3 := Lib.hid hF.tail
          clear hcat2 hF hbl
          go_wp2
          go_roundw
          case rel => exact ⟨k + 1, o2, al3, cap3, rfl, by go_num, by omega, by omega, Hcat2.out, HF3.out⟩
          case measure => simp [intOf]; omega
    · rw [List.drop_of_length_le (by omega), ptR, catN_done] at hcat
      have Hcat := Lib.hid hcat
      have k1 : ¬ (k : Int) < l.length := by omega
      clear hF hcat
      go_wp2
      go_ret2
      rw [Hcat.out]
      exact ⟨al2, cap2, rfl, HF.out⟩
end
end Go.Proofs.Ytkcijlndblbidaa
