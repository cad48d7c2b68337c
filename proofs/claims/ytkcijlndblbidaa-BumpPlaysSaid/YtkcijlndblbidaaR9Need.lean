/- The walk of the reference's Need. -/
import Derived.Test.YtkcijlndblbidaaR9Unmap
namespace Go.Proofs.Ytkcijlndblbidaa
open Go.ChangeShapes Go.WideShapes Go.ChangeAt Go.RowKit
set_option linter.unusedVariables false

/-- the reference's memory beside a row of pages l; since W0 of what was there only T0 changed -/
structure NR (W0 : World) (T0 : Nat → Prop) (rb room : Nat) (v : VS) (l : List Nat) (a : Option Addr) (cap : Nat) (T : Nat → Prop) (w : World) : Prop where
  rm : Rm T rb room v w
  row : OwnF W0.heap.size 3 (.slice a l.length cap) l.length (fun i => .int .i64 (l.getD i 0 : Nat)) w
  outr : ∀ ad, a = some ad → ¬ T ad.block
  chg : Chg T0 W0 w
  grew : Grew T0 T W0
section
variable {W0 : World} {T0 T : Nat → Prop} {rb room : Nat} {v v' : VS} {l : List Nat} {a : Option Addr} {cap : Nat} {w w' : World}
theorem NR.did (h : NR W0 T0 rb room v l a cap T w) (hd : RmDid T rb room v' w w') : ∃ T', NR W0 T0 rb room v' l a cap T' w' := by
  obtain ⟨T', k1, k2, k3⟩ := hd
  have rowlt : ∀ ad, a = some ad → ad.block < w.heap.size := fun ad e => (h.row.lt ad.block (by rw [e]; rfl)).2
  refine ⟨T', k1, h.row.from fun g hg => ?_, fun ad e hs => ?_, h.chg.then k2 h.grew, h.grew.trans k3 h.chg.size⟩
  · obtain ⟨ad, e1, rfl⟩ := own_of_some' hg
    exact k2.2.2.2.2 ad.block (rowlt ad e1) (h.outr ad e1)
  · rcases k3 _ hs with x | x
    · exact h.outr ad e x
    · have := rowlt ad e; omega
theorem NR.same (h : NR W0 T0 rb room v l a cap T w) (h1 : ∀ p, p < 16 → v'.mp p = v.mp p) (h2 : v'.used = v.used) (h3 : v'.high = v.high) : NR W0 T0 rb room v' l a cap T w :=
  ⟨h.rm.same h1 h2 h3, h.row, h.outr, h.chg, h.grew⟩
theorem NR.grow (h : NR W0 T0 rb room v l a cap T w) (c : Below w.heap.size w w') : NR W0 T0 rb room v l a cap T w' :=
  ⟨h.rm.grow c, h.row.from fun g hg => c.block g (h.row.lt g hg).2, h.outr, h.chg.newBelow c, h.grew⟩
theorem NR.item (h : NR W0 T0 rb room v l a cap T w) {j : Nat} (hj : j < l.length) : ∃ g, a = some ⟨g, 0, none⟩ ∧ w.cell? ⟨g, j, none⟩ = some (.int .i64 (l.getD j 0 : Nat)) := by
  obtain ⟨-, -, -, hf, -⟩ := h.row.form
  obtain ⟨g, rfl, -, -⟩ := hf (by omega)
  exact ⟨g, rfl, h.row.cell hj⟩
theorem pushed_row9 (l : List Nat) (p : Nat) : ftab l.length (fun i => Value.int .i64 (l.getD i 0 : Nat)) ++ [Value.int .i64 p] = ftab (l ++ [p]).length (fun i => Value.int .i64 ((l ++ [p]).getD i 0 : Nat)) := pushed_row l p
theorem NR.push (h : NR W0 T0 rb room v l a cap T w) (p : Nat) {g5 cap5 : Nat} {w5 : World}
    (hown : w5.ownsRow W0.heap.size 3 1 (.slice (some ⟨g5, 0, none⟩) (l.length + 1) cap5) (l.length + 1) (ftab l.length (fun i => .int .i64 (l.getD i 0 : Nat)) ++ [.int .i64 p]))
    (hgrow : (w.alloc (.cells #[.int .i64 p] 3)).grownBy w5 (Value.slice a l.length cap).ownBlock) (hat : (Value.slice a l.length cap).ownBlock = some g5 ∨ g5 = w.heap.size + 1) :
    NR W0 T0 rb room v (l ++ [p]) (some ⟨g5, 0, none⟩) cap5 T w5 := by
  have hsz : w.heap.size + 1 ≤ w5.heap.size := by have := hgrow.size; simpa using this
  have old : ∀ q, q < w.heap.size → some q ≠ (Value.slice a l.length cap).ownBlock → w5.heap[q]? = w.heap[q]? := fun q hq hn =>
    (hgrow.block q (by simp; omega) hn).trans (Below.heap_alloc w _ q hq)
  have c4 : Chg (fun q => some q = (Value.slice a l.length cap).ownBlock) w w5 := ⟨hgrow.os, hgrow.tape, hgrow.output, by omega, fun q hq hn => old q hq hn⟩
  refine ⟨h.rm.keep c4 (fun k hs hk => ?_), ?_, fun ad e => ?_, ?_, h.grew⟩
  · obtain ⟨ad, e1, rfl⟩ := own_of_some' hk.symm
    exact h.outr ad e1 hs
  · unfold OwnF
    rw [← pushed_row, List.length_append]
    exact hown
  · simp at e
    subst e
    show ¬ T g5
    rcases hat with e2 | e2
    · obtain ⟨ad, e1, e3⟩ := own_of_some' e2
      rw [← e3]
      exact h.outr ad e1
    · intro hs
      have := h.rm.in g5 hs
      omega
  · refine h.chg.trans (T := fun q => some q = (Value.slice a l.length cap).ownBlock) c4 (fun q hq hk => ?_)
    have := (h.row.lt q hk.symm).1
    omega
end
theorem undo9_step {v : VS} {l : List Nat} {j H : Nat} (hj : j < l.length) (hn : l.Nodup) (hm : v.mp (l.getD j 0) = false) (room : Nat) :
    (∀ p, p < 16 → (withH (mapL 4 v (l.drop (j + 1))) H).mp p = (unmapV (withH (mapL 4 v (l.drop j)) H) (l.getD j 0)).mp p) ∧ (withH (mapL 4 v (l.drop (j + 1))) H).used = (unmapV (withH (mapL 4 v (l.drop j)) H) (l.getD j 0)).used ∧
    (withH (mapL 4 v (l.drop j)) H).mp (l.getD j 0) = true := by
  have hd : l.drop j = l.getD j 0 :: l.drop (j + 1) := by
    rw [List.drop_eq_getElem_cons hj, List.getD_eq_getElem?_getD, List.getElem?_eq_getElem hj]
    rfl
  have hnd : (l.drop j).Nodup := hn.sublist (List.drop_sublist _ _)
  rw [hd, List.nodup_cons] at hnd
  generalize l.getD j 0 = x at *
  refine ⟨fun p hp => ?_, ?_, ?_⟩
  · show (mapL 4 v (l.drop (j + 1))).mp p = if p = x then false else (mapL 4 v (l.drop j)).mp p
    rw [mapL_mp, mapL_mp, hd]
    by_cases e : p = x
    · rw [if_pos e, e, hm, decide_eq_false hnd.1]
      rfl
    · rw [if_neg e]
      congr 1
      simp [e]
  · show (mapL 4 v (l.drop (j + 1))).used = (mapL 4 v (l.drop j)).used - 1
    rw [mapL_used, mapL_used, hd]
    simp
  · show (mapL 4 v (l.drop j)).mp x = true
    rw [mapL_mp, hd]
    simp
set_option maxRecDepth 100000 in
set_option maxHeartbeats 4000000 in
theorem need9_run {T0 : Nat → Prop} {rb room : Nat} {v : VS} {w : World} (h : Rm T0 rb room v w) (hr : room ≤ 4096) (hh : v.high ≤ 4096) (hu : v.used ≤ room) (a b : Nat) (hab : a < b) (hb : b ≤ 64) :
    Calls Try.prog 119 #[.pointer (some ⟨rb, 0, none⟩), .int .i64 a, .int .i64 b] w fun e w' => e = .returned (.int .i64 (needN 4 room v (a / 4) ((b - 1) / 4 - a / 4 + 1))) ∧ RmDid T0 rb room (needNV 4 room v (a / 4) ((b - 1) / 4 - a / 4 + 1)) w w' := by
  have HM := Lib.hid h
  obtain ⟨aL, cL, es, hR, hF, -⟩ := h
  have c0 := at_cell hR.head 0 _ rfl
  have g1 : ¬ (a : Int) < 0 := by omega
  have g2 : ¬ 64 < (b : Int) := by omega
  have q1 : decide ((a : Int) < 0) = false := decide_eq_false g1
  have q2 : decide (64 < (b : Int)) = false := decide_eq_false g2
  have g3 : (0 : Int) ≤ a := by omega
  have g4 : (b : Int) ≤ 64 := by omega
  obtain ⟨i1, hj, hy0, hy1, hy2⟩ := info_parts int_info'
  have HN0 := Lib.hid (show NR w T0 rb room v [] none 0 T0 w from ⟨HM.out, OwnF.nil _ _ _ _, fun ad e => (by cases e), Chg.refl _ _, Grew.refl _ _⟩)
  clear hR hF
  go_enter Try.func119, Try.ntmps119
  go_wp2
  clear c0
  go_loopw [8, 7] (fun i s wr => ∃ (x k : Nat) (l : List Nat) (al : Option Addr) (cap : Nat) (T : Nat → Prop), i = .int .i64 x ∧ s = .slice al l.length cap ∧ a ≤ x ∧ x ≤ b ∧ (x = a ∧ k = 0 ∨ a < x ∧ 1 ≤ k ∧ (x - 1) / 4 + 1 = a / 4 + k) ∧ l = newP v (a / 4) k ∧ NR w T0 rb room (mapL 4 v l) l al cap T wr ∧ v.used + l.length ≤ room) (fun i _ _ => b - (intOf i).toNat)
  case atStart => exact ⟨a, 0, [], none, 0, T0, rfl, rfl, by omega, by omega, .inl ⟨rfl, rfl⟩, rfl, HN0.out, by simpa using hu⟩
  case round =>
    clear HN0
    obtain ⟨x, k, l, al, cap, T, rfl, rfl, hx1, hx2, hk, hl, hN, hfit⟩ := hrel
    have hk16 : k ≤ 16 := by omega
    have hlk : l.length ≤ k := by rw [hl]; exact newP_le v (a / 4) k
    have Hl := Lib.hid hl
    have HN := Lib.hid hN
    by_cases hlt : x < b
    · obtain ⟨p, hp⟩ : ∃ p, x / 4 = p := ⟨_, rfl⟩
      have hq : (x : Int) / 4 = p := by omega
      have hp16 : p < 16 := by omega
      have hp16i : (p : Int) < 16 := by omega
      have hx64 : (x : Int) ≤ 64 := by omega
      obtain ⟨aL2, cL2, es2, hR2, -⟩ := hN.rm
      have c1 := at_cell hR2.head 1 _ rfl
      have hpk : p < a / 4 + k ∧ a / 4 ≤ p ∨ p = a / 4 + k := by omega
      -- is the page there?
      by_cases hm : (mapL 4 v l).mp p = true
      · obtain ⟨r, hr16, hat⟩ := at9_yes hN.rm ((isM_iff _ _).2 ⟨show 0 ≤ (p : Int) ∧ (p : Int) < 16 by omega, by rw [Int.toNat_natCast]; exact hm⟩)
        have Hat := Lib.hid hat
        have hr0 : (0 : Int) ≤ r := by omega
        have hnew : ∃ k', (a < x + 1 ∧ 1 ≤ k' ∧ (x + 1 - 1) / 4 + 1 = a / 4 + k') ∧ l = newP v (a / 4) k' := by
          rcases hpk with e | e
          · exact ⟨k, by omega, hl⟩
          · refine ⟨k + 1, by omega, ?_⟩
            rw [mapL_mp] at hm
            have hno : p ∉ l := fun hxx => by
              rw [hl] at hxx
              have := (newP_mem.1 hxx).1
              omega
            rw [decide_eq_false hno, Bool.or_false] at hm
            rw [newP, if_pos (by rw [← e]; exact hm), List.append_nil]
            exact hl
        have Hnew := Lib.hid hnew
        have Hpk := Lib.hid hpk
        have Hp := Lib.hid hp
        clear hat hnew hpk hp hm hN hl hR2 hk
        go_wp2_with (go_at_call 46; refine Hat.out.mono ?_; rintro e w1 ⟨rfl, rfl⟩)
        go_roundw
        case rel =>
          obtain ⟨k', h1, h2⟩ := Hnew.out
          exact ⟨x + 1, k', l, al, cap, T, by go_num, rfl, by omega, by omega, .inr h1, h2, HN.out, hfit⟩
        case measure => simp [intOf]; omega
      · have hmf : (mapL 4 v l).mp p = false := by simpa using hm
        have hat := at9_no hN.rm (show isM 16 (mapL 4 v l) (p : Int) = false by unfold isM; rw [Int.toNat_natCast, hmf, Bool.and_false])
        have Hat := Lib.hid hat
        have hvm : ¬ v.mp p = true := fun e => by
          rw [mapL_mp, e] at hmf
          cases hmf
        have hpe : p = a / 4 + k := by
          rcases hpk with e | e
          · have : p ∈ l := by rw [hl]; exact newP_mem.2 ⟨by omega, by simpa using hvm⟩
            rw [mapL_mp, decide_eq_true this, Bool.or_true] at hmf
            cases hmf
          · exact e
        have hhigh : (mapL 4 v l).high ≤ 4096 := by rw [mapL_high]; split <;> omega
        have hmap := map9_any hN.rm hr hhigh (by rw [mapL_used]; omega) (p : Int)
        unfold mapS mapE at hmap
        rw [if_neg (Classical.not_not.2 ⟨Int.natCast_nonneg _, by omega⟩), Int.toNat_natCast, if_neg hm] at hmap
        by_cases hfull : (mapL 4 v l).used = room
        · rw [if_pos hfull, if_neg (by decide)] at hmap
          have hres := needNV_full (page := 4) (room := room) (v := v) (p := a / 4) (n := (b - 1) / 4 - a / 4 + 1) (k := k) (by omega) (by rw [← hpe]; exact hvm) (by rw [← hl]; exact hfull)
          rw [← hl] at hres
          have Hres := Lib.hid hres
          have Hmap := Lib.hid hmap
          have hmem : ∀ q, q ∈ l → q < 16 ∧ v.mp q = false := fun q hqq => by
            rw [hl] at hqq
            have := newP_mem.1 hqq
            exact ⟨by omega, this.2⟩
          have hnd : l.Nodup := by rw [hl]; exact newP_nodup v _ k
          have Hmem := Lib.hid hmem
          have Hnd := Lib.hid hnd
          clear hat hpk hp hm hN hl hR2 hk hmap hres hmem hnd hfull hvm hmf hpe
          obtain ⟨wo, rfl⟩ : ∃ wo : World, wo = wr := ⟨_, rfl⟩
          go_wp2_with (first | (go_at_call 46; refine Hat.out.mono ?_; rintro e w1 ⟨rfl, rfl⟩) | (go_at_call 44; refine Hmap.out.mono ?_; rintro e w2 ⟨rfl, hd⟩; obtain ⟨T2, hN2⟩ := HN.out.did hd; have HN2 := Lib.hid hN2; clear hd hN2))
          go_loopw [10] (fun i wr => ∃ (j : Nat) (T3 : Nat → Prop), i = .int .i64 j ∧ j ≤ l.length ∧ NR w T0 rb room (withH (mapL 4 v (l.drop j)) (mapL 4 v l).high) l al cap T3 wr) (fun i _ => l.length - (intOf i).toNat)
          case atStart => exact ⟨0, T2, rfl, by omega, by rw [List.drop_zero]; exact HN2.out⟩
          case round =>
            clear HN2
            obtain ⟨j, T3, rfl, hjl, hN3⟩ := hrel
            have HN3 := Lib.hid hN3
            by_cases hjlt : j < l.length
            · obtain ⟨g, rfl, cj⟩ := hN3.item hjlt
              have hmemj : l.getD j 0 ∈ l := by
                rw [List.getD_eq_getElem?_getD, List.getElem?_eq_getElem hjlt]
                exact List.getElem_mem hjlt
              obtain ⟨hq16, hqm⟩ := Hmem.out _ hmemj
              obtain ⟨s1, s2, s3⟩ := undo9_step (H := (mapL 4 v l).high) hjlt Hnd.out hqm room
              have hun := unmap9_any hN3.rm ((l.getD j 0 : Nat) : Int)
              unfold unmapS unmapE at hun
              rw [if_neg (Classical.not_not.2 ⟨Int.natCast_nonneg _, by omega⟩), Int.toNat_natCast, if_pos s3, if_pos rfl] at hun
              have Hun := Lib.hid hun
              have S1 := Lib.hid s1
              have S2 := Lib.hid s2
              have hji : (j : Int) < l.length := by omega
              have hj0 : (0 : Int) ≤ j := by omega
              have hj64 : (j : Int) ≤ 64 := by omega
              generalize hgq : l.getD j 0 = qq at *
              have Hgq := Lib.hid hgq
              clear hun s1 s2 s3 hN3 hqm hmemj hgq
              go_wp2_with (go_at_call 152; refine Hun.out.mono ?_; rintro e w4 ⟨rfl, hd⟩; obtain ⟨T4, hN4⟩ := HN3.out.did hd; have HN4 := Lib.hid (hN4.same S1.out S2.out rfl); clear hd hN4)
              go_roundw
              case rel => exact ⟨j + 1, T4, by go_num, by omega, HN4.out⟩
              case measure => simp [intOf]; omega
            · obtain rfl : j = l.length := by omega
              have HN5 := Lib.hid (show NR w T0 rb room (withH v (mapL 4 v l).high) l al cap T3 wr from by
                have := hN3
                rw [List.drop_length] at this
                exact this)
              have hjn : ¬ (l.length : Int) < l.length := by omega
              clear hN3
              go_wp2
              go_ret
              rw [Hres.out.1, Hres.out.2]
              exact ⟨rfl, T3, HN5.out.rm, HN5.out.chg, HN5.out.grew⟩
        · rw [if_neg hfull, if_pos rfl] at hmap
          have hfit2 : v.used + (l.length + 1) ≤ room := by rw [mapL_used] at hfull; omega
          have hnext : newP v (a / 4) (k + 1) = newP v (a / 4) k ++ [p] := by rw [newP, ← hpe, if_neg hvm]
          have Hnext := Lib.hid hnext
          have Hmap := Lib.hid hmap
          have Hsnoc := Lib.hid (mapL_snoc 4 v l p)
          have hk2 : a < x + 1 ∧ 1 ≤ k + 1 ∧ (x + 1 - 1) / 4 + 1 = a / 4 + (k + 1) := by omega
          have Hk2 := Lib.hid hk2
          clear hat hpk hp hm hN hl hR2 hk hmap hfull hvm hmf hpe hnext hk2
          go_wp2_with (first | (go_at_call 46; refine Hat.out.mono ?_; rintro e w1 ⟨rfl, rfl⟩) | (go_at_call 44; refine Hmap.out.mono ?_; rintro e w2 ⟨rfl, hd⟩; obtain ⟨T2, hN2⟩ := HN.out.did hd; have HN2 := Lib.hid hN2; have hws := hN2.chg.size; clear hd hN2) | (at_builtin; refine wpList_append_lies _ rfl (.tmp 53) (.tmp 55) 71 rfl w.heap.size 3 i1 (.int .i64 0) 1 8 Try.underlying71 hj hy0 hy1 hy2 rfl (by decide) _ _ _ rfl (World.ownsRow.alloc HN2.out.row _) ⟨w2.heap.size, 0, none⟩ 1 1 [.int .i64 (p : Int)] rfl rfl ?k1 ?k2 ?k3 ?k4 ?k5 ?k6 (w2.heap.size + 1) ?k7 ?_))
          case k1 => exact World.news_of_block (heap_alloc_new w2 (.cells #[.int .i64 (p : Int)] 3))
          case k2 => intro u hu; simp at hu; subst hu; rfl
          case k3 => omega
          case k4 => unfold maxLen; omega
          case k5 => omega
          case k6 => simp; omega
          case k7 => simp
          intro g5 cap5 w5 hown5 hgrow5 hat5 hlt5
          have HN5 := Lib.hid (HN2.out.push p hown5 hgrow5 hat5)
          clear hown5 hgrow5 hat5
          go_wp2
          go_roundw
          case rel => exact ⟨x + 1, k + 1, l ++ [p], some ⟨g5, 0, none⟩, cap5, T2, by go_num, by simp, by omega, by omega, .inr Hk2.out, by rw [Hnext.out, ← Hl.out], by rw [Hsnoc.out]; exact HN5.out, by simpa using hfit2⟩
          case measure => simp [intOf]; omega
    · obtain rfl : x = b := by omega
      have hke : k = (x - 1) / 4 - a / 4 + 1 := by omega
      have hres : needN 4 room v (a / 4) ((x - 1) / 4 - a / 4 + 1) = 0 ∧ needNV 4 room v (a / 4) ((x - 1) / 4 - a / 4 + 1) = mapL 4 v l := by
        rw [← hke]
        unfold needN needNV
        rw [← hl, if_pos hfit, if_pos hfit]
        exact ⟨rfl, rfl⟩
      have Hres := Lib.hid hres
      have hxn : ¬ (x : Int) < x := by omega
      clear hres hke hN hl hk
      go_wp2
      go_ret
      rw [Hres.out.1, Hres.out.2]
      exact ⟨rfl, T, HN.out.rm, HN.out.chg, HN.out.grew⟩
end Go.Proofs.Ytkcijlndblbidaa
