/- The walk of Need. -/
import Derived.Test.YtkcijlndblbidaaVUndo
namespace Go.Proofs.Ytkcijlndblbidaa
open Go.ChangeShapes Go.WideShapes Go.ChangeAt Go.RowKit
set_option linter.unusedVariables false

theorem box_ne_int : (26 : Nat) ≠ 3 := by decide
theorem row_ne_int : (71 : Nat) ≠ 3 := by decide
section
variable {W0 : World} {S0 S : Nat → Prop} {m X1 X2 words page room t : Nat} {v : VS} {l : List Nat} {a : Option Addr} {cap : Nat} {w : World}
theorem pushed_row (l : List Nat) (p : Nat) : ftab l.length (fun i => Value.int .i64 (l.getD i 0 : Nat)) ++ [Value.int .i64 p] = ftab (l ++ [p]).length (fun i => Value.int .i64 ((l ++ [p]).getD i 0 : Nat)) := by
  have e : [Value.int .i64 p] = ftab 1 fun _ => Value.int .i64 p := rfl
  rw [e, ftab_append, List.length_append]
  refine ftab_congr fun i hi => ?_
  have hi' : i < l.length + 1 := hi
  by_cases h : i < l.length
  · rw [if_pos h, List.getD_eq_getElem?_getD, List.getD_eq_getElem?_getD, List.getElem?_append_left h]
  · rw [if_neg h]
    obtain rfl : i = l.length := by omega
    simp
theorem NS.var5 (h : NS W0 S0 m X1 X2 words page room t v l a cap S w) {x : Value} {w5 : World} (hgrow : (w.alloc (.cells #[x] 3)).grownBy w5 (Value.slice a l.length cap).ownBlock) :
    w5.heap[X2]? = some (.cells #[.slice a l.length cap] 71 (0, 0)) := by
  refine ((hgrow.block X2 (by have := block_lt h.var; simp; omega) fun e => ?_).trans (Below.heap_alloc w _ X2 (block_lt h.var))).trans h.var
  obtain ⟨cur, hc⟩ := h.row.block X2 e.symm
  rw [h.var] at hc
  simp at hc
theorem NS.push (h : NS W0 S0 m X1 X2 words page room t v l a cap S w) (p : Nat) {x : Int} (hx : (p : Int) = x) {g5 cap5 : Nat} {w5 : World}
    (hown : w5.ownsRow W0.heap.size 3 1 (.slice (some ⟨g5, 0, none⟩) (l.length + 1) cap5) (l.length + 1) (ftab l.length (fun i => .int .i64 (l.getD i 0 : Nat)) ++ [.int .i64 x]))
    (hgrow : (w.alloc (.cells #[.int .i64 x] 3)).grownBy w5 (Value.slice a l.length cap).ownBlock) (hat : (Value.slice a l.length cap).ownBlock = some g5 ∨ g5 = w.heap.size + 1) :
    NS W0 S0 m X1 X2 words page room t v (l ++ [p]) (some ⟨g5, 0, none⟩) cap5 S (w5.setCell ⟨X2, 0, none⟩ (.slice (some ⟨g5, 0, none⟩) (l.length + 1) cap5)) := by
  subst hx
  have hsz : w.heap.size + 1 ≤ w5.heap.size := by have := hgrow.size; simpa using this
  have old : ∀ q, q < w.heap.size → some q ≠ (Value.slice a l.length cap).ownBlock → w5.heap[q]? = w.heap[q]? := fun q hq hn =>
    (hgrow.block q (by simp; omega) hn).trans (Below.heap_alloc w _ q hq)
  have rowb : ∀ {q : Nat} {c : Array Value} {t : TypeId}, w.heap[q]? = some (.cells c t (0, 0)) → t ≠ 3 → some q ≠ (Value.slice a l.length cap).ownBlock := fun {q c t} hq hne e => by
    obtain ⟨cur, hc⟩ := h.row.block q e.symm
    rw [hq] at hc
    simp at hc
    exact hne hc.2
  have hb5 : w5.heap[X1]? = some (.cells #[.pointer (some ⟨m, 0, none⟩)] 26 (0, 0)) := (old X1 (block_lt h.box) (rowb h.box box_ne_int)).trans h.box
  have hv5 : w5.heap[X2]? = some (.cells #[.slice a l.length cap] 71 (0, 0)) := (old X2 (block_lt h.var) (rowb h.var row_ne_int)).trans h.var
  have hne : X1 ≠ X2 := by
    intro e
    have h1 := h.box
    rw [e, h.var] at h1
    simp at h1
  obtain ⟨cur5, hc5⟩ : ∃ cur, w5.heap[g5]? = some (.cells cur 3 (0, 0)) := by
    rcases hown.2 with ⟨e, _⟩ | ⟨g, c, cur, e, h1, h2, _⟩
    · cases e
    · simp at e
      obtain ⟨rfl, _⟩ := e
      exact ⟨cur, h2⟩
  have hg5 : g5 ≠ X2 := by
    rintro rfl
    rw [hv5] at hc5
    simp at hc5
  have c4 : Chg (fun q => some q = (Value.slice a l.length cap).ownBlock ∨ q = X2) w w5 := ⟨hgrow.os, hgrow.tape, hgrow.output, by omega, fun q hq hn => old q hq (fun e => hn (.inl e))⟩
  have c5 : Chg (fun q => some q = (Value.slice a l.length cap).ownBlock ∨ q = X2) w (w5.setCell ⟨X2, 0, none⟩ (.slice (some ⟨g5, 0, none⟩) (l.length + 1) cap5)) := c4.set (p := ⟨X2, 0, none⟩) (.inl (.inr rfl)) _
  refine ⟨h.vm.keep c5 (fun k hs hk => ?_), ?_, ?_, ?_, h.x1, h.x2, h.out1, h.out2, fun ad e => ?_, ?_, h.grew⟩
  · rcases hk with hk | rfl
    · obtain ⟨ad, e1, rfl⟩ := own_of_some' hk.symm
      exact h.outr ad e1 hs
    · exact h.out2 hs
  · rw [far (show X1 ≠ X2 from hne)]
    exact hb5
  · rw [heap_setCell_same w5 X2 0 _ _ _ hv5, List.length_append]
    try rfl
  · unfold OwnF
    rw [← pushed_row, List.length_append]
    exact own_from hown fun q hq => far (by simp [Value.ownBlock] at hq; show q ≠ X2; omega)
  · simp at e
    subst e
    show ¬ S g5
    rcases hat with e2 | e2
    · obtain ⟨ad, e1, e3⟩ := own_of_some' e2
      rw [← e3]
      exact h.outr ad e1
    · intro hs
      have := h.vm.in g5 hs
      omega
  · refine h.chg.trans (T := fun q => some q = (Value.slice a l.length cap).ownBlock ∨ q = X2) c5 (fun q hq hk => ?_)
    have hx2 := h.x2
    rcases hk with hk | rfl
    · have := (h.row.lt q hk.symm).1
      omega
    · omega
end
theorem int_info' : (Try.prog.info? 3).map (fun i => (i.zero, i.size, i.bytes)) = some (some (.int .i64 0), 1, 8) := by kernel_rfl
theorem needNV_full {page room : Nat} {v : VS} {p n k : Nat} (hk : k < n) (hm : ¬ v.mp (p + k) = true) (hr : (mapL page v (newP v p k)).used = room) :
    needN page room v p n = 14 ∧ needNV page room v p n = withH v (mapL page v (newP v p k)).high := by
  rw [mapL_used] at hr
  obtain ⟨r, h1⟩ := newP_mono v p (show k + 1 ≤ n by omega)
  have h2 : newP v p (k + 1) = newP v p k ++ [p + k] := by rw [newP, if_neg hm]
  have h3 : ¬ v.used + (newP v p n).length ≤ room := by
    rw [h1, h2]
    simp only [List.length_append, List.length_singleton]
    omega
  unfold needN needNV
  rw [if_neg h3, if_neg h3]
  refine ⟨rfl, ?_⟩
  congr 2
  rw [h1, h2, List.append_assoc]
  congr 1
  exact List.take_left' (by omega)
set_option maxRecDepth 100000 in
theorem need_simple (S : Nat → Prop) (m words page room t : Nat) (v : VS) (w : World) (h : Vm S m words page room t v w) (a b : Int) (hab : (a < 0 ∨ (words : Int) < b) ∨ b ≤ a) :
    Calls Try.prog 18 #[.pointer (some ⟨m, 0, none⟩), .int .i64 a, .int .i64 b] w fun e w' => e = .returned (.int .i64 (needE words page room v a b)) ∧ needV words page room v a b = v ∧ Below w.heap.size w w' := by
  obtain ⟨mb, pb, s, F, hR, -⟩ := h
  obtain ⟨c0, c1, c2⟩ := (hR.grow (below_new w (.cells #[.pointer (some ⟨m, 0, none⟩)] 26))).cells
  have Hnone := Lib.hid (none_cells m mb _ c0)
  have Hb := Lib.hid (below_new w (.cells #[.pointer (some ⟨m, 0, none⟩)] 26))
  clear hR
  unfold needE needV
  by_cases h1 : a < 0
  · rw [if_pos (.inl h1), if_pos (.inl h1)]
    clear hab
    go_enter Try.func18, Try.ntmps18
    go_wp2_with (go_at_call 99; refine Hnone.out.mono ?_; rintro e w1 ⟨rfl, rfl⟩)
    go_ret
    exact ⟨rfl, trivial, Hb.out⟩
  · by_cases h2 : (words : Int) < b
    · rw [if_pos (.inr h2), if_pos (.inr h2)]
      clear hab
      go_enter Try.func18, Try.ntmps18
      go_wp2_with (go_at_call 99; refine Hnone.out.mono ?_; rintro e w1 ⟨rfl, rfl⟩)
      go_ret
      exact ⟨rfl, trivial, Hb.out⟩
    · have h3 : b ≤ a := by omega
      have h4 : ¬ (a < 0 ∨ (words : Int) < b) := by omega
      rw [if_neg h4, if_neg h4, if_pos h3, if_pos h3]
      clear h4
      clear hab
      go_enter Try.func18, Try.ntmps18
      go_wp2_with (go_at_call 99; refine Hnone.out.mono ?_; rintro e w1 ⟨rfl, rfl⟩)
      go_ret
      exact ⟨rfl, trivial, Hb.out⟩
set_option maxRecDepth 100000 in
set_option maxHeartbeats 2000000 in
theorem need_run (S0 : Nat → Prop) (m words page room t : Nat) (v : VS) (w : World) (h : Vm S0 m words page room t v w) (ht : t ≤ 999000000) (a b : Int) (h1 : 0 ≤ a) (h2 : b ≤ words) (h3 : a < b) (p0 p1 : Nat) (hp0 : a / (page : Int) = p0) (hp1 : (b - 1) / (page : Int) = p1) (h01 : p0 ≤ p1) (hnp : p1 < words / page) :
    Calls Try.prog 18 #[.pointer (some ⟨m, 0, none⟩), .int .i64 a, .int .i64 b] w fun e w' => e = .returned (.int .i64 (needN page room v p0 (p1 - p0 + 1))) ∧ VDid S0 m words page room (t + (p1 - p0 + 1)) (needNV page room v p0 (p1 - p0 + 1)) w w' := by
  obtain ⟨hwd, hmod, hpg, hrm, husd, hhi⟩ := h.dims
  have HV := Lib.hid h
  obtain ⟨mb, pb, s, F, hR, -⟩ := h
  have hb1 := below_new w (.cells #[.pointer (some ⟨m, 0, none⟩)] 26)
  have hb2 := seq hb1 (below_new _ (.cells #[.slice none 0 0] 71))
  obtain ⟨c0, c1, c2⟩ := (hR.grow hb1).cells
  obtain ⟨d0, d1, d2⟩ := (hR.grow hb2).cells
  have Hnone := Lib.hid (none_cells m mb _ c0)
  have Hpage := Lib.hid (page_raw (hR.grow hb2))
  have HN0 := Lib.hid (show NS w S0 m w.heap.size (w.heap.size + 1) words page room t v [] none 0 S0 ((w.alloc (.cells #[.pointer (some ⟨m, 0, none⟩)] 26)).alloc (.cells #[.slice none 0 0] 71)) from
    ⟨HV.out.grow hb2, blockB (below_new _ _) (Nat.le_refl _) (heap_alloc_new w _), by
      have := heap_alloc_new (w.alloc (.cells #[.pointer (some ⟨m, 0, none⟩)] 26)) (.cells #[.slice none 0 0] 71)
      simpa using this, OwnF.nil _ _ _ _, by omega, by omega, fun hs => by have := HV.out.in _ hs; omega, fun hs => by have := HV.out.in _ hs; omega, (fun ad e => by cases e), Chg.of hb2, Grew.refl _ _⟩)
  obtain ⟨pi, hpi⟩ : ∃ pi : Int, (page : Int) = pi := ⟨_, rfl⟩
  rw [hpi] at Hpage hp0 hp1
  have hpi1 : 1 ≤ pi := by omega
  have hpi2 : pi ≤ 256 := by omega
  have h4 : ¬ a < 0 := by omega
  have h5 : ¬ (words : Int) < b := by omega
  have h6 : ¬ b ≤ a := by omega
  have q1 : decide (a < 0) = false := decide_eq_false h4
  have q2 : decide ((words : Int) < b) = false := decide_eq_false h5
  have q3 : decide (b ≤ a) = false := decide_eq_false h6
  have h7 : b ≤ 524288 := by omega
  have h8 : 0 ≤ b - 1 := by omega
  have h9 : p1 < 524288 := by have := Nat.div_le_self words page; omega
  obtain ⟨i1, hj, hy0, hy1, hy2⟩ := info_parts int_info'
  have HR0 := Lib.hid hR
  clear hR hpi hb1 hb2
  go_enter Try.func18, Try.ntmps18
  go_wp2_with (first | (go_at_call 99; refine Hnone.out.mono ?_; rintro e w1 ⟨rfl, rfl⟩) | (go_at_call 101; refine Hpage.out.mono ?_; rintro e w1 ⟨rfl, rfl⟩))
  clear c0 c1 c2 d0 d1 d2
  generalize w.heap.size = X1 at *
  have Hp0 := Lib.hid hp0
  clear hp0
  go_loopw [10] (fun i wr => ∃ (k : Nat) (l : List Nat) (a : Option Addr) (cap : Nat) (S : Nat → Prop), i = .int .i64 ((p0 + k : Nat) : Int) ∧ k ≤ p1 - p0 + 1 ∧ l = newP v p0 k ∧ NS w S0 m X1 (X1 + 1) words page room (t + k) (mapL page v l) l a cap S wr ∧ v.used + l.length ≤ room) (fun i _ => p1 + 1 - (intOf i).toNat)
  case atStart => exact ⟨0, [], none, 0, S0, by rw [Hp0.out]; rfl, by omega, rfl, HN0.out, by simpa using husd⟩
  case round =>
    clear HN0
    obtain ⟨k, l, ar, cap, S, rfl, hk, hl, hN, hfit⟩ := hrel
    have hlk : l.length ≤ k := by rw [hl]; exact newP_le v p0 k
    have Hl := Lib.hid hl
    clear hl
    by_cases hlt : k < p1 - p0 + 1
    · have hle : ((p0 + k : Nat) : Int) ≤ p1 := by omega
      have hmap := map_vm S m words page room (t + k) (mapL page v l) wr hN.vm (by omega) ((p0 + k : Nat) : Int)
      have hno : p0 + k ∉ l := fun hx => by
        rw [Hl.out] at hx
        have := (newP_mem.1 hx).1
        omega
      have hmp : (mapL page v l).mp (p0 + k) = v.mp (p0 + k) := by rw [mapL_mp, decide_eq_false hno, Bool.or_false]
      unfold mapS mapE at hmap
      rw [if_neg (Classical.not_not.2 ⟨Int.natCast_nonneg _, by omega⟩), Int.toNat_natCast, hmp] at hmap
      obtain ⟨c1, c2⟩ := hN.cells
      have HN := Lib.hid hN
      have Hno := Lib.hid hno
      have Hmp := Lib.hid hmp
      clear hN hno hmp
      by_cases hm : v.mp (p0 + k) = true
      · rw [if_pos hm, if_neg (by decide)] at hmap
        have Hmap := Lib.hid hmap
        have hsame : newP v p0 (k + 1) = newP v p0 k := by rw [newP, if_pos hm, List.append_nil]
        have Hsame := Lib.hid hsame
        clear hmap hm hsame
        go_wp2_with (go_at_call 20; refine Hmap.out.mono ?_; rintro e w1 ⟨rfl, hd⟩; obtain ⟨S2, hN2⟩ := HN.out.did hd; have HN2 := Lib.hid hN2; obtain ⟨e1, e2⟩ := hN2.cells; clear hd hN2)
        go_roundw
        case rel => exact ⟨k + 1, l, ar, cap, S2, by go_num, by omega, by rw [Hsame.out]; exact Hl.out, HN2.out, hfit⟩
        case measure => simp [intOf]; omega
      · rw [if_neg hm] at hmap
        by_cases hr : (mapL page v l).used = room
        · rw [if_pos hr, if_neg (by decide)] at hmap
          have hfull := needNV_full (page := page) (room := room) (v := v) (p := p0) hlt hm (by rw [← Hl.out]; exact hr)
          rw [← Hl.out] at hfull
          have Hfull := Lib.hid hfull
          have Hmap := Lib.hid hmap
          have hmem : ∀ q, q ∈ l → q < words / page ∧ v.mp q = false := fun q hq => by
            rw [Hl.out] at hq
            have := newP_mem.1 hq
            exact ⟨by omega, this.2⟩
          have hnd : l.Nodup := by rw [Hl.out]; exact newP_nodup v p0 k
          have Hmem := Lib.hid hmem
          have Hnd := Lib.hid hnd
          have Hlen := Lib.hid (show l.length ≤ 1000000 by omega)
          clear hmap hr hm hfull hmem hnd
          go_wp2_with (first | (go_at_call 20; refine Hmap.out.mono ?_; rintro e w1 ⟨rfl, hd⟩; obtain ⟨S2, hN2⟩ := HN.out.did hd; have HN2 := Lib.hid hN2; obtain ⟨e1, e2⟩ := hN2.cells; clear hd hN2) | (go_at_call 100; refine (undo_any (H := (mapL page v l).high) HN2.out Hmem.out Hnd.out Hlen.out).mono ?_; rintro e w2 ⟨rfl, S3, hN3⟩; have HN3 := Lib.hid hN3; clear hN3))
          go_ret
          rw [Hfull.out.1, Hfull.out.2]
          exact ⟨rfl, S3, HN3.out.vm.more (by omega), HN3.out.chg, HN3.out.grew⟩
        · rw [if_neg hr, if_pos rfl] at hmap
          have hfit2 : v.used + (l.length + 1) ≤ room := by rw [mapL_used] at hr; omega
          have hnext : newP v p0 (k + 1) = newP v p0 k ++ [p0 + k] := by rw [newP, if_neg hm]
          have Hnext := Lib.hid hnext
          have Hmap := Lib.hid hmap
          have Hsnoc := Lib.hid (mapL_snoc page v l (p0 + k))
          clear hmap hr hm hnext
          go_wp2_with (first | (go_at_call 20; refine Hmap.out.mono ?_; rintro e w1 ⟨rfl, hd⟩; obtain ⟨S2, hN2⟩ := HN.out.did hd; have HN2 := Lib.hid hN2; obtain ⟨e1, e2⟩ := hN2.cells; have hws := hN2.chg.size; clear hd hN2) | (at_builtin; refine wpList_append_lies _ rfl (.tmp 51) (.tmp 53) 71 rfl w.heap.size 3 i1 (.int .i64 0) 1 8 Try.underlying71 hj hy0 hy1 hy2 rfl (by decide) _ _ _ rfl (World.ownsRow.alloc HN2.out.row _) ⟨w1.heap.size, 0, none⟩ 1 1 [.int .i64 ((p0 : Int) + k)] rfl rfl ?k1 ?k2 ?k3 ?k4 ?k5 ?k6 (w1.heap.size + 1) ?k7 ?_))
          case k1 => exact World.news_of_block (heap_alloc_new w1 (.cells #[.int .i64 ((p0 : Int) + k)] 3))
          case k2 => intro u hu; simp at hu; subst hu; rfl
          case k3 => omega
          case k4 => unfold maxLen; omega
          case k5 => omega
          case k6 => simp; omega
          case k7 => simp
          intro g5 cap5 w5 hown5 hgrow5 hat5 hlt5
          have hv5 := HN2.out.var5 hgrow5
          have f1 := at_cell hv5 0 _ rfl
          have f2 := at_free hv5 0
          have HN5 := Lib.hid (HN2.out.push (p0 + k) (by omega) hown5 hgrow5 hat5)
          clear hown5 hgrow5 hat5 hv5 e1 e2
          go_wp2
          go_roundw
          case rel => exact ⟨k + 1, l ++ [p0 + k], some ⟨g5, 0, none⟩, cap5, S2, by go_num, by omega, by rw [Hnext.out, ← Hl.out], by rw [Hsnoc.out]; exact HN5.out, by simpa using hfit2⟩
          case measure => simp [intOf]; omega
    · obtain rfl : k = p1 - p0 + 1 := by omega
      have hgt : ¬ ((p0 + (p1 - p0 + 1) : Nat) : Int) ≤ p1 := by omega
      have hN' : VDid S0 m words page room (t + (p1 - p0 + 1)) (mapL page v l) w wr := ⟨S, hN.vm, hN.chg, hN.grew⟩
      have hres : needN page room v p0 (p1 - p0 + 1) = 0 ∧ needNV page room v p0 (p1 - p0 + 1) = mapL page v l := by
        unfold needN needNV
        rw [← Hl.out, if_pos hfit, if_pos hfit]
        exact ⟨rfl, rfl⟩
      have Hres := Lib.hid hres
      have HN2 := Lib.hid hN'
      clear hN hN' hres
      go_wp2
      go_ret
      rw [Hres.out.1, Hres.out.2]
      exact ⟨rfl, HN2.out⟩
/-- Need of any run -/
theorem need_vm (S0 : Nat → Prop) (m words page room t : Nat) (v : VS) (w : World) (h : Vm S0 m words page room t v w) (ht : t ≤ 999000000) (a b : Int) :
    Calls Try.prog 18 #[.pointer (some ⟨m, 0, none⟩), .int .i64 a, .int .i64 b] w fun e w' => e = .returned (.int .i64 (needE words page room v a b)) ∧ VDid S0 m words page room (t + words / page) (needV words page room v a b) w w' := by
  by_cases h0 : (a < 0 ∨ (words : Int) < b) ∨ b ≤ a
  · exact (need_simple S0 m words page room t v w h a b h0).mono fun e w' ⟨he, hv, hb⟩ => ⟨he, by rw [hv]; exact (VDid.of h hb).more (Nat.le_add_right _ _)⟩
  · have h1 : ¬ (a < 0 ∨ (words : Int) < b) := fun k => h0 (.inl k)
    have h2 : ¬ b ≤ a := fun k => h0 (.inr k)
    obtain ⟨hwd, hmod, hpg, -⟩ := h.dims
    obtain ⟨x, rfl⟩ : ∃ x : Nat, a = x := ⟨a.toNat, by omega⟩
    obtain ⟨y, rfl⟩ : ∃ y : Nat, b = y := ⟨b.toNat, by omega⟩
    have e1 : (x : Int) / (page : Int) = ((x / page : Nat) : Int) := rfl
    have e2 : ((y : Int) - 1) / (page : Int) = (((y - 1) / page : Nat) : Int) := by
      rw [show (y : Int) - 1 = ((y - 1 : Nat) : Int) by omega]
      rfl
    have hle : x / page ≤ (y - 1) / page := Nat.div_le_div_right (by omega)
    have hlt : (y - 1) / page < words / page := Nat.div_lt_of_lt_mul (by rw [Nat.mul_div_cancel' (Nat.dvd_of_mod_eq_zero hmod)]; omega)
    unfold needE needV
    rw [if_neg h1, if_neg h1, if_neg h2, if_neg h2, Int.toNat_natCast, Int.toNat_natCast]
    exact (need_run S0 m words page room t v w h ht x y (by omega) (by omega) (by omega) _ _ e1 e2 hle hlt).mono fun e w' ⟨he, hd⟩ => ⟨he, hd.more (by generalize (y - 1) / page = u at *; generalize x / page = z at *; generalize words / page = nn at *; omega)⟩
end Go.Proofs.Ytkcijlndblbidaa
