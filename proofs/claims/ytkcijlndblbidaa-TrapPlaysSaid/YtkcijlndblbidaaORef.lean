/- The reference of layer 15: Read, place, Get over a row of words. -/
import Derived.Test.YtkcijlndblbidaaOFresh
namespace Go.Proofs.Ytkcijlndblbidaa
open Go.ChangeShapes Go.WideShapes Go.ChangeAt Go.RowKit
set_option linter.unusedVariables false

section
variable {w : World} {al : Option Addr} {n : Nat} {f : Nat → Nat}
theorem URow.at_ (h : URow w al n f) {a : Int} (h1 : 0 ≤ a) (h2 : a < n) : ∃ b off, al = some ⟨b, off, none⟩ ∧ w.cell? ⟨b, off + a.toNat, none⟩ = some (.int .u64 (f a.toNat)) := by
  obtain ⟨b, off, ha, hc⟩ := h
  refine ⟨b, off, ?_, hc _ (by omega)⟩
  rcases ha with e | e
  · omega
  · exact e
set_option maxRecDepth 100000 in
theorem rread_early (al : Option Addr) (n c : Nat) (hn : n ≤ 4096) (w : World) (a er : Int) (h : (a = 0 ∧ er = 18) ∨ (a < 0 ∧ er = 5) ∨ (0 < a ∧ (n : Int) ≤ a ∧ er = 11)) :
    Calls Try.prog 79 #[.slice al n c, .int .i64 a] w fun e w' => e = .returned (.tuple #[.agg #[.int .i64 0, .int .i64 0, .int .i64 0], .int .i64 er]) ∧ Below w.heap.size w w' := by
  have hb := below_new w (.cells #[.int .i64 0, .int .i64 0, .int .i64 0] 106)
  have hn1 : (n : Int) ≤ 4096 := by omega
  rcases h with ⟨rfl, rfl⟩ | ⟨h1, rfl⟩ | ⟨h1, h2, rfl⟩
  · go_enter Try.func79, Try.ntmps79
    go_wp2
    exact bodyPost_ret (v := .tuple #[.agg #[.int .i64 0, .int .i64 0, .int .i64 0], .int .i64 18]) (by simp [results, Try.results79, go_sem]) rfl ⟨rfl, hb⟩
  · have e1 : ¬ a = 0 := by omega
    go_enter Try.func79, Try.ntmps79
    go_wp2
    exact bodyPost_ret (v := .tuple #[.agg #[.int .i64 0, .int .i64 0, .int .i64 0], .int .i64 5]) (by simp [results, Try.results79, go_sem]) rfl ⟨rfl, hb⟩
  · have e1 : ¬ a = 0 := by omega
    have e2 : ¬ a < 0 := by omega
    go_enter Try.func79, Try.ntmps79
    go_wp2
    exact bodyPost_ret (v := .tuple #[.agg #[.int .i64 0, .int .i64 0, .int .i64 0], .int .i64 11]) (by simp [results, Try.results79, go_sem]) rfl ⟨rfl, hb⟩
set_option maxRecDepth 100000 in
theorem rread_in (h : URow w al n f) (c : Nat) (hn : n ≤ 4096) (a : Int) (ha : 0 < a) (han : a < n) (hg : f a.toNat < 18446744073709551616) {p q o er : Int} (hp : (if Hd.Is (f a.toNat) then Hd.hv (Hd.tp (f a.toNat)) (Hd.tf (f a.toNat)) (Hd.to (f a.toNat)) else Hd.hv 0 0 0) = .agg #[.int .i64 p, .int .i64 q, .int .i64 o]) (her : (if Hd.Is (f a.toNat) then (0 : Int) else 16) = er) :
    Calls Try.prog 79 #[.slice al n c, .int .i64 a] w fun e w' => e = .returned (.tuple #[.agg #[.int .i64 p, .int .i64 q, .int .i64 o], .int .i64 er]) ∧ Below w.heap.size w w' := by
  have hb := below_new w (.cells #[.int .i64 0, .int .i64 0, .int .i64 0] 106)
  have hblk := heap_alloc_new w (.cells #[.int .i64 0, .int .i64 0, .int .i64 0] 106)
  obtain ⟨b, off, rfl, hc⟩ := (h.below hb).at_ (by omega) han
  have HT := Lib.hid (fun W => by have := Hd.refTake_any (f a.toNat) W hg; rw [hp, her] at this; exact this)
  have e1 : ¬ a = 0 := by omega
  have e2 : ¬ a < 0 := by omega
  have e3 : ¬ (n : Int) ≤ a := by omega
  have e4 : 0 ≤ a := by omega
  have e5 : a ≤ 4096 := by omega
  have Hb := Lib.hid hb
  have Hblk := Lib.hid hblk
  clear hp her hb hblk h
  generalize f a.toNat = x at *
  go_enter Try.func79, Try.ntmps79
  go_wp2_with (go_at_call 132; refine (HT.out _).mono ?_; rintro e w2 ⟨rfl, hb2⟩; have q := blockB hb2 (by simp) Hblk.out; have f0 := at_free q 0; have f1 := at_free q 1; have f2 := at_free q 2; have d0 := at_cell q 0 _ rfl; have d1 := at_cell q 1 _ rfl; have d2 := at_cell q 2 _ rfl; have H1 := Lib.hid q; have H2 := Lib.hid (seq Hb.out hb2); clear q hb2)
  obtain ⟨w3, hw3⟩ : ∃ w3, ((w2.setCell ⟨w.heap.size, 0, none⟩ (.int .i64 p)).setCell ⟨w.heap.size, 1, none⟩ (.int .i64 q)).setCell ⟨w.heap.size, 2, none⟩ (.int .i64 o) = w3 := ⟨_, rfl⟩
  have hb3 : Below w.heap.size w w3 := by rw [← hw3]; exact ((H2.out.setCell (Nat.le_refl _) _).setCell (Nat.le_refl _) _).setCell (Nat.le_refl _) _
  have hq0 : w3.heap[w.heap.size]? = some (.cells #[.int .i64 p, .int .i64 q, .int .i64 o] 106 (0, 0)) := by
    rw [← hw3]
    have s0 := heap_setCell_same w2 w.heap.size 0 _ _ (.int .i64 p) H1.out
    have s1 := heap_setCell_same _ w.heap.size 1 _ _ (.int .i64 q) s0
    exact heap_setCell_same _ w.heap.size 2 _ _ (.int .i64 o) s1
  rw [hw3]
  have q0 : w3.cell? ⟨w.heap.size, 0, none⟩ = some (.int .i64 p) := at_cell hq0 0 _ rfl
  have q1 : w3.cell? ⟨w.heap.size, 1, none⟩ = some (.int .i64 q) := at_cell hq0 1 _ rfl
  have q2 : w3.cell? ⟨w.heap.size, 2, none⟩ = some (.int .i64 o) := at_cell hq0 2 _ rfl
  exact bodyPost_ret (v := .tuple #[.agg #[.int .i64 p, .int .i64 q, .int .i64 o], .int .i64 er]) (by simp [results, Try.results79, go_sem, q0, q1, q2]) rfl ⟨rfl, hb3⟩
theorem rread_any (h : URow w al n f) (c : Nat) (hn : n ≤ 4096) (hg : Small n f) (a : Int) :
    Calls Try.prog 79 #[.slice al n c, .int .i64 a] w fun e w' => e = .returned (.tuple #[rdV n f a, .int .i64 (rdE n f a)]) ∧ Below w.heap.size w w' := by
  by_cases h0 : a ≤ 0
  · have e : rdE n f a = if a = 0 then 18 else 5 := by
      unfold rdE
      split
      · rfl
      · rw [if_pos (by omega)]
    rw [rdV_bad (by rw [e]; split <;> omega), e]
    refine rread_early al n c hn w a _ ?_
    split
    · exact .inl ⟨by assumption, rfl⟩
    · exact .inr (.inl ⟨by omega, rfl⟩)
  · by_cases h1 : (n : Int) ≤ a
    · have e : rdE n f a = 11 := by
        unfold rdE
        rw [if_neg (by omega), if_neg (by omega), if_pos h1]
      rw [rdV_bad (by rw [e]; omega), e]
      exact rread_early al n c hn w a _ (.inr (.inr ⟨by omega, h1, rfl⟩))
    · have e : rdE n f a = if Hd.Is (f a.toNat) then 0 else 16 := by
        unfold rdE
        rw [if_neg (by omega), if_neg (by omega), if_neg h1]
      refine rread_in h c hn a (by omega) (by omega) (hg _ (by omega)) ?_ e.symm
      by_cases hi : Hd.Is (f a.toNat)
      · rw [if_pos hi] at e ⊢
        unfold rdP rdF rdO
        rw [e]
        rfl
      · rw [if_neg hi] at e ⊢
        unfold rdP rdF rdO
        rw [e]
        rfl
theorem refKind_eq (p f o i : Int) (w : World) : Calls Try.prog 155 #[Hd.hv p f o, .int .i64 i] w fun e w' => e = .returned (.int .i64 (Hd.kindOf p f o i)) ∧ Below w.heap.size w w' := by
  have := Hd.refKind_any p f o i w
  rw [Hd.kindOf_eq] at this
  exact this
set_option maxRecDepth 100000 in
theorem rplace_any (h : URow w al n f) (c : Nat) (hn : n ≤ 4096) (hg : Small n f) (a i k : Int) (hk : k ≠ 0) :
    Calls Try.prog 126 #[.slice al n c, .int .i64 a, .int .i64 i, .int .i64 k] w fun e w' => e = .returned (.tuple #[.int .i64 (plA n f a i k), .int .i64 (plE n f a i k)]) ∧ Below w.heap.size w w' := by
  have HR := rread_any h c hn hg a
  have hpl := @plE_zero n f a i k hk
  unfold plA
  have hpe : plE n f a i k = if rdE n f a = 0 then (if kdA n f a i = k then 0 else if kdA n f a i = 0 then 19 else 20) else rdE n f a := rfl
  unfold rdV at HR
  have hkd : kdA n f a i = Hd.kindOf (rdP n f a) (rdF n f a) (rdO n f a) i := rfl
  generalize plE n f a i k = pe at *
  generalize rdE n f a = er at *
  have HK := fun W => refKind_eq (rdP n f a) (rdF n f a) (rdO n f a) i W
  rw [← hkd] at HK
  clear hkd h
  generalize kdA n f a i = kk at *
  generalize rdP n f a = p at *
  generalize rdF n f a = q at *
  generalize rdO n f a = o at *
  unfold Hd.hv at HR HK
  replace HR := Lib.hid HR
  replace HK := Lib.hid HK
  by_cases h0 : er = 0
  · subst h0
    rw [if_pos rfl] at hpe
    by_cases h1 : kk = k
    · subst h1
      rw [if_pos rfl] at hpe
      subst hpe
      obtain ⟨-, -, h2, h3, h4, h5⟩ := hpl rfl
      rw [if_pos rfl]
      have h6 : a < 4096 := by omega
      have s1 : IntKind.i64.wrap (a + 1) = a + 1 := IntWalk.i64_in _ (by omega)
      have s2 : IntKind.i64.wrap (a + 1 + i) = a + 1 + i := IntWalk.i64_in _ (by omega)
      have b3 : (kk == 0) = false := by rw [beq_eq_false_iff_ne]; exact hk
      clear hpl h6 hk
      go_enter Try.func126, Try.ntmps126
      go_wp2_with (first | (go_at_call 79; refine HR.out.mono ?_; rintro e w1 ⟨rfl, h1⟩; have H1 := Lib.hid (seq h1 (below_new w1 (.cells #[.int .i64 p, .int .i64 q, .int .i64 o] 106))); clear h1) | (go_at_call 155; refine (HK.out _).mono ?_; rintro e w2 ⟨rfl, hb⟩; have H2 := Lib.hid (seq H1.out hb); clear hb))
      go_ret2
      exact ⟨rfl, H2.out⟩
    · rw [if_neg h1] at hpe
      have b1 : (kk != k) = true := by rw [bne_iff_ne]; exact h1
      by_cases h2 : kk = 0
      · rw [if_pos h2] at hpe
        subst hpe
        have b3 : (kk == 0) = true := by rw [beq_iff_eq]; exact h2
        rw [if_neg (by omega)]
        clear hpl h1 h2 hk
        go_enter Try.func126, Try.ntmps126
        go_wp2_with (first | (go_at_call 79; refine HR.out.mono ?_; rintro e w1 ⟨rfl, h1⟩; have H1 := Lib.hid (seq h1 (below_new w1 (.cells #[.int .i64 p, .int .i64 q, .int .i64 o] 106))); clear h1) | (go_at_call 155; refine (HK.out _).mono ?_; rintro e w2 ⟨rfl, hb⟩; have H2 := Lib.hid (seq H1.out hb); clear hb))
        go_ret2
        exact ⟨rfl, H2.out⟩
      · rw [if_neg h2] at hpe
        subst hpe
        have b3 : (kk == 0) = false := by rw [beq_eq_false_iff_ne]; exact h2
        rw [if_neg (by omega)]
        clear hpl h1 h2 hk
        go_enter Try.func126, Try.ntmps126
        go_wp2_with (first | (go_at_call 79; refine HR.out.mono ?_; rintro e w1 ⟨rfl, h1⟩; have H1 := Lib.hid (seq h1 (below_new w1 (.cells #[.int .i64 p, .int .i64 q, .int .i64 o] 106))); clear h1) | (go_at_call 155; refine (HK.out _).mono ?_; rintro e w2 ⟨rfl, hb⟩; have H2 := Lib.hid (seq H1.out hb); clear hb))
        go_ret2
        exact ⟨rfl, H2.out⟩
  · rw [if_neg h0] at hpe
    subst hpe
    rw [if_neg h0]
    have b1 : (pe != 0) = true := by rw [bne_iff_ne]; exact h0
    clear hpl h0
    go_enter Try.func126, Try.ntmps126
    go_wp2_with (go_at_call 79; refine HR.out.mono ?_; rintro e w1 ⟨rfl, h1⟩; have H1 := Lib.hid (seq h1 (below_new w1 (.cells #[.int .i64 p, .int .i64 q, .int .i64 o] 106))); clear h1)
    go_ret2
    exact ⟨rfl, H1.out⟩
end
end Go.Proofs.Ytkcijlndblbidaa
