/- TPw: several texts in one. -/
import Derived.Test.YtkcijlndblbidaaTPlay
import Derived.Test.YtkcijlndblbidaaTPq
import Derived.Test.YtkcijlndblbidaaTLives
/- The player's whole run: the closure of TrapPlays, and Run's answer. -/
namespace Go.Proofs.Ytkcijlndblbidaa
open Go.ChangeShapes Go.WideShapes Go.ChangeAt Go.RowKit
set_option linter.unusedVariables false
set_option linter.unusedSimpArgs false

theorem play_any {W0 : World} {m wk n t p : Nat} {l : List RA} (hl : l.length ≤ 150) (hk : ∀ x ∈ l, x.w < 18446744073709551616) (hn : 1 ≤ n ∧ n ≤ 4096) :
    ∀ (d i too : Nat) (g : Nat → Nat) (lg : List (Nat × Nat)) (st : PS) (E : List (Nat × Obj)) (w : World), too - i ≤ d → PlaySaid W0 m wk n t p l i too g lg st E w := by
  intro d
  induction d with
  | zero => exact play_step hl hk hn 0 (fun i too g lg st E w hd => absurd hd (by omega))
  | succ d ih => exact play_step hl hk hn (d + 1) (fun i too g lg st E w hd => ih i too g lg st E w (by omega))
def ps0 : PS := ⟨[], [], [], []⟩
def bx2 (bE bp p : Nat) (ok : Bool) : List (Nat × Obj) := [(bE, .cells #[.bool ok] 4 (0, 0)), (bp, .cells #[.pointer (some ⟨p, 0, none⟩)] 79 (0, 0))]
theorem bx2_nf {bE bp p : Nat} {ok : Bool} : NF (bx2 bE bp p ok) := NF.box (NF.box NF.nil (by decide)) (by decide)
section
variable {W0 w w' : World} {m wk n t : Nat} {g g' : Nat → Nat} {p : Nat} {l : List RA} {st : PS} {E : List (Nat × Obj)} {a0 a1 a2 a3 a4 : Option Addr} {c0 c1 c2 c3 c4 : Nat} {R0 R1 R2 R3 R4 : List (Nat × Obj)}
set_option maxRecDepth 100000 in
set_option maxHeartbeats 2000000 in
theorem plays1_does {bl bE bp : Nat} {a : Option Addr} {cap : Nat} (hl : l.length ≤ 150) (hk : ∀ x ∈ l, x.w < 18446744073709551616) (hn1 : 1 ≤ n ∧ n ≤ 4096) (hg : Small n g)
    (hbl : W0.heap[bl]? = some (.cells #[.slice a l.length cap] 66 (0, 0)))
    (r : RWS W0 l ps0 a0 a1 a2 a3 a4 c0 c1 c2 c3 c4 R0 R1 R2 R3 R4) :
    Does2 W0 m wk n t 53 #[.pointer (some ⟨bp, 0, none⟩), .pointer (some ⟨bl, 0, none⟩), .pointer (some ⟨bE, 0, none⟩)] g []
      (pbl p l.length a0 a1 a2 a3 a4 c0 c1 c2 c3 c4 R0 R1 R2 R3 R4 ps0 (bx2 bE bp p false)) (endP (doG n l 0 l.length g ps0).bad)
      (fun g1 l1 K1 => g1 = (doG n l 0 l.length g ps0).g ∧ l1.length ≤ l.length ∧ undoG (doG n l 0 l.length g ps0).g l1 = g ∧ ∃ a0 a1 a2 a3 a4 c0 c1 c2 c3 c4 R0 R1 R2 R3 R4, RWS W0 l (doG n l 0 l.length g ps0).st a0 a1 a2 a3 a4 c0 c1 c2 c3 c4 R0 R1 R2 R3 R4 ∧ K1 = pbl p l.length a0 a1 a2 a3 a4 c0 c1 c2 c3 c4 R0 R1 R2 R3 R4 (doG n l 0 l.length g ps0).st (bx2 bE bp p (doG n l 0 l.length g ps0).bad.isNone)) := by
  intro E W hn h
  have hP := r.pt hn h
  have e0 : (#[Value.pointer (some ⟨wk, 0, none⟩)] ++ #[Value.pointer (some ⟨bp, 0, none⟩), .pointer (some ⟨bl, 0, none⟩), .pointer (some ⟨bE, 0, none⟩)]) = #[.pointer (some ⟨wk, 0, none⟩), .pointer (some ⟨bp, 0, none⟩), .pointer (some ⟨bl, 0, none⟩), .pointer (some ⟨bE, 0, none⟩)] := rfl
  rw [e0]
  clear e0
  have cp := at_cell (hP.inE (x := (bp, .cells #[.pointer (some ⟨p, 0, none⟩)] 79 (0, 0))) (List.mem_append_right _ (by simp [bx2]))) 0 (.pointer (some ⟨p, 0, none⟩)) rfl
  have cl := at_cell (blockB h.below (Nat.le_refl _) hbl) 0 (.slice a l.length cap) rfl
  have hcall := play_any (W0 := W0) (m := m) (wk := wk) (t := t) (p := p) hl hk hn1 _ 0 l.length g [] ps0 _ W (Nat.le_refl _) (Nat.le_refl _) (by omega) (by simp [szS, ps0]; omega) (by simp; omega) hg ⟨_, _, _, _, _, _, _, _, _, _, _, _, _, _, _, hP⟩
  have HC := Lib.hid hcall
  generalize doG n l 0 l.length g ps0 = D2 at *
  have l1 : (l.length : Int) ≤ 150 := by omega
  simp only at cp cl
  obtain ⟨g2, st2, bad⟩ := D2
  simp only at *
  clear hcall r hn h hP hbl hk hg
  cases bad with
  | none =>
    simp only [endP] at HC ⊢
    go_enter Try.func53, Try.ntmps53
    go_wp2_with (go_at_call 54; refine HC.out.mono ?_; rintro e w7 ⟨rfl, l2, q1, q2, a0, a1, a2, a3, a4, c0, c1, c2, c3, c4, R0, R1, R2, R3, R4, h7⟩; have h8 := h7.permE (perm_in (R := [(bE, .cells #[.bool false] 4 (0, 0))])); have f0 := at_free (h8.inE (List.mem_cons_self ..)) 0; have d0 := at_cell (h8.inE (List.mem_cons_self ..)) 0 (.bool false) rfl; have H9 := Lib.hid ((h8.setE 0 (.bool true)).permE (perm_in (R := [(bE, .cells #[.bool true] 4 (0, 0))])).symm); have HQ := Lib.hid q2; clear h7 h8 q2 HC)
    go_end0
    exact ⟨rfl, g2, l2, _, ⟨rfl, by omega, HQ.out, a0, a1, a2, a3, a4, _, c1, c2, c3, c4, R0, R1, R2, R3, R4, H9.out.rws, rfl⟩, H9.out.out.1, H9.out.rws.nf bx2_nf, H9.out.out.2⟩
  | some x =>
    obtain ⟨er, ea⟩ := x
    simp only [endP] at HC ⊢
    go_enter Try.func53, Try.ntmps53
    go_wp2_with (go_at_call 54; refine HC.out.mono ?_; rintro e w7 ⟨rfl, l2, q1, q2, a0, a1, a2, a3, a4, c0, c1, c2, c3, c4, R0, R1, R2, R3, R4, h7⟩; have H9 := Lib.hid h7; have HQ := Lib.hid q2; clear h7 q2 HC)
    exact ⟨rfl, rfl, g2, l2, _, ⟨rfl, by omega, HQ.out, a0, a1, a2, a3, a4, c0, c1, c2, c3, c4, R0, R1, R2, R3, R4, H9.out.rws, rfl⟩, H9.out.out.1, H9.out.rws.nf bx2_nf, H9.out.out.2⟩
/-- Run of the player's work -/
theorem play_run {bl bE bp : Nat} {a : Option Addr} {cap : Nat} (hl : l.length ≤ 150) (hk : ∀ x ∈ l, x.w < 18446744073709551616) (hn1 : 1 ≤ n ∧ n ≤ 4096) (hg : Small n g)
    (hbl : W0.heap[bl]? = some (.cells #[.slice a l.length cap] 66 (0, 0)))
    (r : RWS W0 l ps0 a0 a1 a2 a3 a4 c0 c1 c2 c3 c4 R0 R1 R2 R3 R4)
    (hn : NL W0 (E ++ pbl p l.length a0 a1 a2 a3 a4 c0 c1 c2 c3 c4 R0 R1 R2 R3 R4 ps0 (bx2 bE bp p false)))
    (h : FK W0 m n t g (E ++ pbl p l.length a0 a1 a2 a3 a4 c0 c1 c2 c3 c4 R0 R1 R2 R3 R4 ps0 (bx2 bE bp p false)) w) (D2 : PR10) (hD2 : doG n l 0 l.length g ps0 = D2) :
    Calls Try.prog 52 #[.iface 26 (.pointer (some ⟨m, 0, none⟩)), .func (.func 53) #[] #[.pointer (some ⟨bp, 0, none⟩), .pointer (some ⟨bl, 0, none⟩), .pointer (some ⟨bE, 0, none⟩)]] w fun e' W' =>
      e' = .returned (.agg #[.int .i64 (resE D2.bad), .int .i64 (resA D2.bad)]) ∧ ∃ a0 a1 a2 a3 a4 c0 c1 c2 c3 c4 R0 R1 R2 R3 R4, RWS W0 l D2.st a0 a1 a2 a3 a4 c0 c1 c2 c3 c4 R0 R1 R2 R3 R4 ∧
        FK W0 m n t (if D2.bad.isSome then g else D2.g) (E ++ pbl p l.length a0 a1 a2 a3 a4 c0 c1 c2 c3 c4 R0 R1 R2 R3 R4 D2.st (bx2 bE bp p D2.bad.isNone)) W' := by
  have hd := fun wk => plays1_does (m := m) (wk := wk) (t := t) (p := p) (bE := bE) (bp := bp) hl hk hn1 hg hbl r
  have hF : ∀ args w, (callFunc 53 args).run Try.prog w = .ok (.enter 53 args) w := fun _ _ => by kernel_rfl
  rw [hD2] at hd
  obtain ⟨g2, st2, bad⟩ := D2
  simp only at *
  cases bad with
  | none =>
    refine (run_ret2 (R := fun g1 K1 => g1 = g2 ∧ ∃ a0 a1 a2 a3 a4 c0 c1 c2 c3 c4 R0 R1 R2 R3 R4, RWS W0 l st2 a0 a1 a2 a3 a4 c0 c1 c2 c3 c4 R0 R1 R2 R3 R4 ∧ K1 = pbl p l.length a0 a1 a2 a3 a4 c0 c1 c2 c3 c4 R0 R1 R2 R3 R4 st2 (bx2 bE bp p true)) (er := 0) (a := 0) (fun wk E W hn h => (part_ok2 hF (hd wk) E W hn h).mono ?_) E w hn h).mono ?_
    · rintro e W' ⟨rfl, g1, l1, K1, ⟨rfl, -, -, hx⟩, hn', hf', ht'⟩
      exact ⟨rfl, g1, l1, K1, ⟨rfl, hx⟩, hn', hf', ht'⟩
    · rintro e W' ⟨rfl, g1, K1, ⟨rfl, a0, a1, a2, a3, a4, c0, c1, c2, c3, c4, R0, R1, R2, R3, R4, r', rfl⟩, hn', -, ht'⟩
      exact ⟨rfl, a0, a1, a2, a3, a4, c0, c1, c2, c3, c4, R0, R1, R2, R3, R4, r', ht'⟩
  | some x =>
    obtain ⟨er, ea⟩ := x
    refine (run_ret2 (R := fun g1 K1 => g1 = g ∧ ∃ a0 a1 a2 a3 a4 c0 c1 c2 c3 c4 R0 R1 R2 R3 R4, RWS W0 l st2 a0 a1 a2 a3 a4 c0 c1 c2 c3 c4 R0 R1 R2 R3 R4 ∧ K1 = pbl p l.length a0 a1 a2 a3 a4 c0 c1 c2 c3 c4 R0 R1 R2 R3 R4 st2 (bx2 bE bp p false)) (er := er) (a := ea) (fun wk E W hn h => (part_thrown2 hF (hd wk) (fun g1 l1 K1 hr => by obtain ⟨-, q1, -⟩ := hr; simp; omega) E W hn h).mono ?_) E w hn h).mono ?_
    · rintro e W' ⟨rfl, g1, l1, K1, ⟨rfl, q1, q2, hx⟩, hn', hf', ht'⟩
      rw [List.length_nil, List.drop_zero, List.take_zero, q2] at ht'
      exact ⟨rfl, g, [], K1, ⟨rfl, hx⟩, hn', hf', ht'⟩
    · rintro e W' ⟨rfl, g1, K1, ⟨rfl, a0, a1, a2, a3, a4, c0, c1, c2, c3, c4, R0, R1, R2, R3, R4, r', rfl⟩, hn', -, ht'⟩
      exact ⟨rfl, a0, a1, a2, a3, a4, c0, c1, c2, c3, c4, R0, R1, R2, R3, R4, r', ht'⟩
end
end Go.Proofs.Ytkcijlndblbidaa

/- Plain parts of TrapPlays: rows told in another way, lengths, the blocks ahead of the run. -/
namespace Go.Proofs.Ytkcijlndblbidaa
open Go.ChangeShapes Go.WideShapes Go.ChangeAt Go.RowKit
set_option linter.unusedVariables false
set_option linter.unusedSimpArgs false

theorem RW.gr {W0 w : World} {m n t k : Nat} {g f : Nat → Nat} {K : List (Nat × Obj)} {al : Option Addr} {cap : Nat} (h : RW W0 m n t g f K k al cap w) : GR W0 m n t g K 23 1 k (gcells k f) al cap w := by
  obtain ⟨S, v, h1, hv, h2, h3, h4, h5, h6⟩ := h
  rcases h5.2 with ⟨e, h0⟩ | ⟨gb, c, cur, e, b1, b2, b3, b4, b5, b6⟩
  · simp at e
    obtain ⟨rfl, -, rfl⟩ := e
    subst h0
    exact .inl ⟨rfl, rfl, rfl, rfl, v, ⟨S, h1, h2, h3, h4⟩, hv⟩
  · simp at e
    obtain ⟨rfl, rfl⟩ := e
    obtain ⟨h7, h8⟩ := h6 _ rfl
    refine .inr ⟨gb, cur, rfl, b1, h8, b3, b4, b5, b6, by rw [gcells_length]; omega, v, ⟨S, h1, h2, h3, fun x hx => ?_⟩, hv⟩
    simp only [List.mem_cons] at hx
    rcases hx with rfl | hx
    · exact ⟨h7, b2⟩
    · exact h4 x hx
theorem ulcells_get (l : List Nat) (i : Nat) (hi : i < l.length) : (ulcells l)[i]? = some (.int .u64 ((l.getD i 0 : Nat) : Int)) := by
  unfold ulcells
  rw [List.getElem?_map, List.getElem?_eq_getElem hi, List.getD_eq_getElem?_getD, List.getElem?_eq_getElem hi]
  rfl
theorem blcells_get (l : List Bool) (i : Nat) (hi : i < l.length) : (blcells l)[i]? = some (.bool (l.getD i false)) := by
  unfold blcells
  rw [List.getElem?_map, List.getElem?_eq_getElem hi, List.getD_eq_getElem?_getD, List.getElem?_eq_getElem hi]
  rfl
theorem Rw.urow {base : Nat} {k : Nat} {xs : List Value} {al : Option Addr} {cap : Nat} {R : List (Nat × Obj)} {w : World} {f : Nat → Nat} (r : Rw base 23 1 k xs al cap R) (hb : ∀ x ∈ R, w.heap[x.1]? = some x.2) (hx : ∀ i, i < k → xs[i]? = some (.int .u64 (f i : Nat))) : URow w al k f := by
  rcases r with ⟨rfl, rfl, -, -, -⟩ | ⟨b, cur, rfl, -, -, -, -, h6, h7, rfl⟩
  · exact ⟨0, 0, .inl rfl, fun i hi => by omega⟩
  · refine ⟨b, 0, .inr rfl, fun i hi => ?_⟩
    rw [Nat.zero_add]
    refine at_cell (hb _ (List.mem_cons_self ..)) i _ ?_
    have := hx i hi
    rw [← h6, List.getElem?_take_of_lt (by omega)] at this
    simpa using this
theorem doG_len_d (n : Nat) (l : List RA) (d : Nat) : ∀ (i too : Nat) (g : Nat → Nat) (st : PS), too - i ≤ d → st.at_.length = st.er.length ∧ st.en.length = st.er.length → (doG n l i too g st).st.at_.length = (doG n l i too g st).st.er.length ∧ (doG n l i too g st).st.en.length = (doG n l i too g st).st.er.length := by
  induction d with
  | zero =>
    intro i too g st hd hs
    rw [doG, dif_neg (by omega)]
    exact hs
  | succ d ih =>
    intro i too g st hd hs
    by_cases hlt : i < too
    · rw [doG, dif_pos hlt]
      simp only
      split
      · split
        · split
          · exact ih _ _ _ _ (by omega) hs
          · exact ih _ _ _ _ (by omega) hs
        · exact hs
      · split
        · exact hs
        · split
          · refine ih _ _ _ _ (by omega) ?_
            have h1 := ih (i + 1) (max i (min (closeG l i 0) too)) g st (by omega) hs
            generalize doG n l (i + 1) (max i (min (closeG l i 0) too)) g st = r at *
            obtain ⟨rg, ⟨ld, er, ats, en⟩, bad⟩ := r
            rcases bad with _ | ⟨e, a⟩ <;> simp [PS.push] at h1 ⊢ <;> omega
          · exact ih _ _ _ _ (by omega) hs
    · rw [doG, dif_neg hlt]
      exact hs
theorem plays_perm {bE bp p n0 : Nat} {al : Option Addr} {cp : Nat} {Rl E : List (Nat × Obj)} {ok : Bool} {st : PS} :
    List.Perm ((bE, Obj.cells #[.bool ok] 4 (0, 0)) :: (bp, .cells #[.pointer (some ⟨p, 0, none⟩)] 79 (0, 0)) :: (p, .cells (spC al none none none none n0 cp 0 0 0 0 st) 81 (0, 0)) :: (Rl ++ E))
      (E ++ pbl p n0 al none none none none cp 0 0 0 0 Rl [] [] [] [] st [(bE, .cells #[.bool ok] 4 (0, 0)), (bp, .cells #[.pointer (some ⟨p, 0, none⟩)] 79 (0, 0))]) := by
  have h : ∀ (A B C : List (Nat × Obj)), List.Perm (A ++ (B ++ C)) (C ++ (B ++ A)) := fun A B C => by
    have h1 : List.Perm (A ++ (B ++ C)) ((B ++ C) ++ A) := List.perm_append_comm
    have h2 : List.Perm ((B ++ C) ++ A) ((C ++ B) ++ A) := List.Perm.append_right A List.perm_append_comm
    rw [List.append_assoc C B A] at h2
    exact h1.trans h2
  have q := h [(bE, Obj.cells #[.bool ok] 4 (0, 0)), (bp, .cells #[.pointer (some ⟨p, 0, none⟩)] 79 (0, 0))] ((p, .cells (spC al none none none none n0 cp 0 0 0 0 st) 81 (0, 0)) :: Rl) E
  unfold pbl
  simpa using q
end Go.Proofs.Ytkcijlndblbidaa

/- The walk of TrapPlays. -/
namespace Go.Proofs.Ytkcijlndblbidaa
open Go.ChangeShapes Go.WideShapes Go.ChangeAt Go.RowKit
set_option linter.unusedVariables false
set_option linter.unusedSimpArgs false

set_option maxRecDepth 100000 in
theorem plays_many (x : Int) (a : Option Addr) (len cap : Nat) (w : World) (hl : 150 < len) (hm : len ≤ maxLen) :
    Calls Try.prog 8 #[.int .u8 x, .slice a len cap] w fun e w' => e = .returned (.bool true) ∧ Below w.heap.size w w' := by
  unfold maxLen at hm
  have Hv := Lib.hid lives_yes
  go_enter Try.func8, Try.ntmps8
  go_wp2_with (go_at_call 47; refine (Hv.out _).mono ?_; rintro e w2 ⟨rfl, hb⟩)
  go_ret
  exact ⟨rfl, seq (below_new w _) hb⟩
theorem plays_facts {W : World} {KK : List (Nat × Obj)} {s p bp n k : Nat} {st : PS} {a0 a1 a2 a3 a4 b0 b1 b2 b3 b4 : Option Addr} {c0 c1 c2 c3 c4 d0 d1 d2 d3 d4 : Nat}
    (hs : (s, Obj.cells (spC a0 a1 a2 a3 a4 n c0 c1 c2 c3 c4 st) 74 (0, 0)) ∈ KK) (hp : (p, Obj.cells (spC b0 b1 b2 b3 b4 k d0 d1 d2 d3 d4 st) 81 (0, 0)) ∈ KK)
    (hb : (bp, Obj.cells #[.pointer (some ⟨p, 0, none⟩)] 79 (0, 0)) ∈ KK) (hh : ∀ x ∈ KK, W.heap[x.1]? = some x.2) :
    (W.cell? ⟨bp, 0, none⟩ = some (.pointer (some ⟨p, 0, none⟩)) ∧ W.cell? ⟨p, 1, none⟩ = some (.slice b1 st.ld.length d1) ∧ W.cell? ⟨p, 2, none⟩ = some (.slice b2 st.er.length d2) ∧
      W.cell? ⟨s, 0, none⟩ = some (.slice a0 n c0) ∧ W.cell? ⟨s, 1, none⟩ = some (.slice a1 st.ld.length c1) ∧ W.cell? ⟨s, 2, none⟩ = some (.slice a2 st.er.length c2)) ∧
    W.cell? ⟨p, 3, none⟩ = some (.slice b3 st.at_.length d3) ∧ W.cell? ⟨p, 4, none⟩ = some (.slice b4 st.en.length d4) ∧ W.cell? ⟨s, 3, none⟩ = some (.slice a3 st.at_.length c3) ∧ W.cell? ⟨s, 4, none⟩ = some (.slice a4 st.en.length c4) :=
  ⟨⟨at_cell (hh _ hb) 0 _ rfl, at_cell (hh _ hp) 1 _ rfl, at_cell (hh _ hp) 2 _ rfl, at_cell (hh _ hs) 0 _ rfl, at_cell (hh _ hs) 1 _ rfl, at_cell (hh _ hs) 2 _ rfl⟩, at_cell (hh _ hp) 3 _ rfl, at_cell (hh _ hp) 4 _ rfl, at_cell (hh _ hs) 3 _ rfl, at_cell (hh _ hs) 4 _ rfl⟩
set_option maxRecDepth 100000 in
set_option maxHeartbeats 8000000 in
theorem plays_walk (x : Nat) (hx : x < 256) (a : Option Addr) (cap : Nat) (ps : List A10.Act) (l : List RA) (hll : ps.map toRA = l) (hlen : ps.length = l.length) (hkk : ∀ y ∈ l, y.w < 18446744073709551616) (w : World) (hl : l.length ≤ 150) (hP : A10.Acts w a ps) :
    Calls Try.prog 8 #[.int .u8 x, .slice a l.length cap] w fun e w' => e = .returned (.bool true) ∧ Below w.heap.size w w' := by
  obtain ⟨n, hn⟩ : ∃ n, x % 16 + 1 = n := ⟨_, rfl⟩
  have hn1 : 1 ≤ n ∧ n ≤ 16 := by omega
  have q1 : decide (150 < (l.length : Int)) = false := decide_eq_false (by omega)
  have hx1 : (x : Int) < 256 := by omega
  have hl1 : (l.length : Int) ≤ 150 := by omega
  have Hx := Lib.hid hn
  have HP := Lib.hid hP
  have HLL := Lib.hid hll
  have HLN := Lib.hid hlen
  have HKK := Lib.hid hkk
  clear hP hn hll hlen hkk
  go_enter Try.func8, Try.ntmps8
  go_wp2_with (fail)
  have hxi : (x : Int) % 16 + 1 = n := by have := Hx.out; omega
  have hW1 := heap_alloc_new w (.cells #[.slice a l.length cap] 66)
  have hbW : Below w.heap.size w (w.alloc (.cells #[.slice a l.length cap] 66)) := below_new w _
  rw [hxi]
  obtain ⟨bl, hbl⟩ : ∃ bl, w.heap.size = bl := ⟨_, rfl⟩
  have HPW := HP.out.below hbW
  rw [hbl] at hW1
  simp only [hbl]
  generalize hW0 : w.alloc (.cells #[.slice a l.length cap] 66) = W0 at *
  have HW := Lib.hid hW1
  have HbW := Lib.hid hbW
  have HPW := Lib.hid HPW
  have Hfr := Lib.hid (fresh_any n hn1.1 (by omega) W0)
  have Hbl := Lib.hid hbl
  clear hW1 hbW HP hW0 hbl
  refine Hfr.out.mono ?_
  rintro e w1 ⟨m, t, rfl, h1⟩
  obtain ⟨g, hg⟩ : ∃ g : Nat → Nat, (fun a => 100 + a) = g := ⟨_, rfl⟩
  have hgs : Small n g := fun b hb => by rw [← hg]; show 100 + b < _; omega
  rw [hg] at h1
  have Hgs := Lib.hid hgs
  have HWD := Lib.hid (words_any h1)
  clear h1 Hfr hg hgs
  have c3 : ∀ W, Below W0.heap.size W0 W → W.cell? ⟨bl, 0, none⟩ = some (.slice a l.length cap) := fun W hW => at_cell (blockB hW (Nat.le_refl _) HW.out) 0 _ rfl
  have C3 := Lib.hid c3
  clear c3
  go_wp2_with (go_at_call 49; refine HWD.out.mono ?_; rintro e w2 ⟨a0, c0, rfl, h2⟩; obtain ⟨R0, hr0, hF2⟩ := h2.gr.rw (by simp) (by simp); have hS3 : SP1 W0 m n t g w2.heap.size 74 23 1 n (gcells n g) ps0 [] a0 none none none none c0 0 0 0 0 R0 [] [] [] [] (w2.alloc (.cells #[.slice a0 n c0, .slice none 0 0, .slice none 0 0, .slice none 0 0, .slice none 0 0] 74)) := ⟨hr0, Rw.nil _ _ _, Rw.nil _ _ _, Rw.nil _ _ _, Rw.nil _ _ _, hF2.box (spC a0 none none none none n c0 0 0 0 0 ps0) 74⟩; have HS3 := Lib.hid hS3; clear HWD h2 hr0 hF2 hS3)
  obtain ⟨D, hD⟩ : ∃ D, doG n l 0 l.length g ps0 = D := ⟨_, rfl⟩
  have HD := Lib.hid hD
  obtain ⟨G2, hG2⟩ : ∃ G2, (if D.bad.isSome then g else D.g) = G2 := ⟨_, rfl⟩
  have HG2 := Lib.hid hG2
  have hlenD := doG_len_d n l _ 0 l.length g ps0 (Nat.le_refl _) ⟨rfl, rfl⟩
  rw [hD] at hlenD
  have hszD := doG_sz n l 0 l.length g ps0
  rw [hD] at hszD
  have hszD2 : szS D.st ≤ 1000 := by simp [szS, ps0] at hszD ⊢; omega
  have HlenD := Lib.hid hlenD
  have HszD := Lib.hid hszD2
  clear hD hG2 hlenD hszD hszD2
  obtain ⟨s, hs⟩ : ∃ s, w2.heap.size = s := ⟨_, rfl⟩
  simp only [hs] at HS3 ⊢
  generalize w2.alloc (.cells #[.slice a0 n c0, .slice none 0 0, .slice none 0 0, .slice none 0 0, .slice none 0 0] 74) = w3 at *
  clear hs
  have k3 := C3.out _ (HS3.out.all.1.grow (below_drew _)).below
  go_region_held3 (fun w' => w'.cell? ⟨bl, 0, none⟩ = some (.slice a l.length cap)) (first | exact k3 | exact k4 | exact k5 | go_keep) ((first
    | (go_at_call 51; have hac := acts_fk (HS3.out.all.1.grow (below_drew _)) a ps cap HPW.out (by have := HLN.out; omega); rw [HLL.out, HLN.out] at hac; refine hac.mono ?_; rintro e w4 ⟨al4, cp4, rfl, h4⟩; obtain ⟨Rl, hrl, hF4⟩ := h4.rw HS3.out.all.2.1 HS3.out.all.2.2; have HS4 := Lib.hid (HS3.out.addE hF4); have HRl := Lib.hid hrl; have k4 := C3.out _ hF4.1.below; clear h4 hrl hF4 hac)
    | (go_at_call 50; have hdo := do_any (gm := g) (t := t) (m := m) (s := s) hl HRl.out HKK.out (by omega) _ 0 l.length g ps0 _ w4 (Nat.le_refl _) (Nat.le_refl _) (by omega) (by simp [szS, ps0]; omega) (fun x hx => List.mem_append_left _ hx) ⟨_, _, _, _, _, _, _, _, _, _, _, _, _, _, _, HS4.out⟩; rw [HD.out, HG2.out] at hdo; refine hdo.mono ?_; rintro e w5 ⟨rfl, h5⟩; have k5 : w5.cell? ⟨bl, 0, none⟩ = some (.slice a l.length cap) := (by obtain ⟨_, _, _, _, _, _, _, _, _, _, _, _, _, _, _, h6⟩ := h5; exact C3.out _ h6.all.1.below); have H5 := Lib.hid h5; clear h5 hdo)))
  obtain ⟨ve, hve⟩ : ∃ ve, resE D.bad = ve := ⟨_, rfl⟩
  obtain ⟨va, hva⟩ : ∃ va, resA D.bad = va := ⟨_, rfl⟩
  obtain ⟨vo, hvo⟩ : ∃ vo, D.bad.isNone = vo := ⟨_, rfl⟩
  have HV := Lib.hid (And.intro hve (And.intro hva hvo))
  simp only [hve, hva, hvo]
  clear hve hva hvo k3 k4
  obtain ⟨a0, a1, a2, a3, a4, c0, c1, c2, c3, c4, R0, R1, R2, R3, R4, h5⟩ := H5.out
  have HS5 := Lib.hid h5
  clear h5 H5
  go_wp2_with (first
    | (go_at_call 51; have hac := acts_fk HS5.out.all.1 a ps cap HPW.out (by have := HLN.out; omega); rw [HLL.out, HLN.out] at hac; refine hac.mono ?_; rintro e w6 ⟨al6, cp6, rfl, h6⟩; obtain ⟨R6, hr6, hF6⟩ := h6.rw HS5.out.all.2.1 HS5.out.all.2.2; obtain ⟨p, hp⟩ : ∃ p, w6.heap.size = p := ⟨_, rfl⟩; have hb3 := ((hF6.box (spC al6 none none none none l.length cp6 0 0 0 0 ps0) 81).box #[.pointer (some ⟨p, 0, none⟩)] 79).box #[.bool false] 4; simp only [heap_size_alloc, hp] at hb3; have hF9 := hb3.perm plays_perm; have hrun := play_run (a := a) (cap := cap) (bl := bl) hl HKK.out (by omega) Hgs.out HW.out ⟨hr6, Rw.nil _ _ _, Rw.nil _ _ _, Rw.nil _ _ _, Rw.nil _ _ _⟩ hF9.nl hF9.1 D HD.out; rw [HG2.out, HV.out.1, HV.out.2.1, HV.out.2.2] at hrun; have HRUN := Lib.hid hrun; clear h6 hr6 hF6 hb3 hF9 hrun hac)
    | (go_at_call 52; refine HRUN.out.mono ?_; rintro e w10 ⟨rfl, b0, b1, b2, b3, b4, d0, d1, d2, d3, d4, Q0, Q1, Q2, Q3, Q4, hq, hF⟩; have HQ := Lib.hid hq; have hf := hF.box #[.int .i64 ve, .int .i64 va] 83; have f0 := at_cell (hf.block (List.mem_cons_self ..)) 0 (.int .i64 ve) rfl; have f1 := at_cell (hf.block (List.mem_cons_self ..)) 1 (.int .i64 va) rfl; have fE := at_cell (hf.block (X := p + 1 + 1) (o := .cells #[.bool vo] 4 (0, 0)) (by simp [pbl, bx2])) 0 (.bool vo) rfl; have HF := Lib.hid hf; clear HRUN hq hF hf))
  have hms : (s, Obj.cells (spC a0 a1 a2 a3 a4 n c0 c1 c2 c3 c4 D.st) 74 (0, 0)) ∈ (s, Obj.cells (spC a0 a1 a2 a3 a4 n c0 c1 c2 c3 c4 D.st) 74 (0, 0)) :: (R0 ++ (R1 ++ (R2 ++ (R3 ++ (R4 ++ (Rl ++ [])))))) ++ pbl p l.length b0 b1 b2 b3 b4 d0 d1 d2 d3 d4 Q0 Q1 Q2 Q3 Q4 D.st (bx2 (p + 1 + 1) (p + 1) p vo) := by simp
  have hmp : (p, Obj.cells (spC b0 b1 b2 b3 b4 l.length d0 d1 d2 d3 d4 D.st) 81 (0, 0)) ∈ (s, Obj.cells (spC a0 a1 a2 a3 a4 n c0 c1 c2 c3 c4 D.st) 74 (0, 0)) :: (R0 ++ (R1 ++ (R2 ++ (R3 ++ (R4 ++ (Rl ++ [])))))) ++ pbl p l.length b0 b1 b2 b3 b4 d0 d1 d2 d3 d4 Q0 Q1 Q2 Q3 Q4 D.st (bx2 (p + 1 + 1) (p + 1) p vo) := by simp [pbl]
  have hmb : (p + 1, Obj.cells #[.pointer (some ⟨p, 0, none⟩)] 79 (0, 0)) ∈ (s, Obj.cells (spC a0 a1 a2 a3 a4 n c0 c1 c2 c3 c4 D.st) 74 (0, 0)) :: (R0 ++ (R1 ++ (R2 ++ (R3 ++ (R4 ++ (Rl ++ [])))))) ++ pbl p l.length b0 b1 b2 b3 b4 d0 d1 d2 d3 d4 Q0 Q1 Q2 Q3 Q4 D.st (bx2 (p + 1 + 1) (p + 1) p vo) := by simp [pbl, bx2]
  have hmR : ∀ y, y ∈ R0 ∨ y ∈ R1 ∨ y ∈ R2 ∨ y ∈ R3 ∨ y ∈ R4 ∨ y ∈ Q1 ∨ y ∈ Q2 ∨ y ∈ Q3 ∨ y ∈ Q4 → y ∈ (s, Obj.cells (spC a0 a1 a2 a3 a4 n c0 c1 c2 c3 c4 D.st) 74 (0, 0)) :: (R0 ++ (R1 ++ (R2 ++ (R3 ++ (R4 ++ (Rl ++ [])))))) ++ pbl p l.length b0 b1 b2 b3 b4 d0 d1 d2 d3 d4 Q0 Q1 Q2 Q3 Q4 D.st (bx2 (p + 1 + 1) (p + 1) p vo) := by
    intro y hy
    simp only [pbl, List.mem_cons, List.mem_append]
    rcases hy with h | h | h | h | h | h | h | h | h <;> simp [h]
  replace HF := HF.out
  generalize (s, Obj.cells (spC a0 a1 a2 a3 a4 n c0 c1 c2 c3 c4 D.st) 74 (0, 0)) :: (R0 ++ (R1 ++ (R2 ++ (R3 ++ (R4 ++ (Rl ++ [])))))) ++ pbl p l.length b0 b1 b2 b3 b4 d0 d1 d2 d3 d4 Q0 Q1 Q2 Q3 Q4 D.st (bx2 (p + 1 + 1) (p + 1) p vo) = KK at *
  obtain ⟨bf, hbf⟩ : ∃ bf, w10.heap.size = bf := ⟨_, rfl⟩
  simp only [hbf] at HF f0 f1 ⊢
  generalize w10.alloc (.cells #[.int .i64 ve, .int .i64 va] 83) = w11 at *
  have HFA := Lib.hid (fun W hh => plays_facts (W := W) hms hmp hmb hh)
  have HMR := Lib.hid hmR
  have HF11 := Lib.hid (HF.grow (below_drew _))
  have HZ11 := Lib.hid (fun y (hy : y ∈ KK) => HF11.out.block (X := y.1) (o := y.2) (List.mem_cons_of_mem _ hy))
  have HSA := Lib.hid (same_yes (HQ.out.r1.urow (fun y hy => HZ11.out y (hmR y (by simp [hy]))) (fun i hi => ulcells_get _ i hi)) (HS5.out.r1.urow (fun y hy => HZ11.out y (hmR y (by simp [hy]))) (fun i hi => ulcells_get _ i hi)) (by have := HszD.out; simp [szS] at this; unfold maxLen; omega))
  clear hms hmp hmb hmR HF f0 f1 fE hbf hp k5
  go_region_held3 (fun w' => w'.cell? ⟨p + 1, 0, none⟩ = some (.pointer (some ⟨p, 0, none⟩)) ∧ w'.cell? ⟨p, 1, none⟩ = some (.slice b1 D.st.ld.length d1) ∧ w'.cell? ⟨p, 2, none⟩ = some (.slice b2 D.st.er.length d2) ∧ w'.cell? ⟨s, 0, none⟩ = some (.slice a0 n c0) ∧ w'.cell? ⟨s, 1, none⟩ = some (.slice a1 D.st.ld.length c1) ∧ w'.cell? ⟨s, 2, none⟩ = some (.slice a2 D.st.er.length c2)) (first | exact (HFA.out _ HZ11.out).1 | exact (HFA.out _ HZ12.out).1 | exact (HFA.out _ HZ13.out).1 | exact (HFA.out _ HZ14.out).1 | go_keep) ((first
    | (go_at_call 55; refine (HSA.out _ _).mono ?_; rintro e w12 ⟨rfl, hb⟩; have HF12 := Lib.hid (HF11.out.grow hb); have HZ12 := Lib.hid (fun y (hy : y ∈ KK) => HF12.out.block (X := y.1) (o := y.2) (List.mem_cons_of_mem _ hy)); have HWD := Lib.hid (words_any HF12.out); clear HSA hb)
    | (go_at_call 49; refine HWD.out.mono ?_; rintro e w13 ⟨al13, cp13, rfl, h13⟩; obtain ⟨b13, cur13, rfl, -, hd13, hcur, h14⟩ := h13.kept hn1.1; have HF13 := Lib.hid h14; have HZ13 := Lib.hid (fun y (hy : y ∈ KK) => HF13.out.block (X := y.1) (o := y.2) (List.mem_cons_of_mem _ (List.mem_cons_of_mem _ hy))); have HSB := Lib.hid (same_yes (hcur.row (h14.block (List.mem_cons_self ..))) (HS5.out.r0.urow (fun y hy => HZ13.out y (HMR.out y (by simp [hy]))) (fun i hi => gcells_get n G2 i hi)) (by unfold maxLen; omega)); clear HWD h13 h14 hd13 hcur)
    | (go_at_call 55; refine (HSB.out _ _).mono ?_; rintro e w14 ⟨rfl, hb⟩; have HF14 := Lib.hid (HF13.out.grow hb); have HZ14 := Lib.hid (fun y (hy : y ∈ KK) => HF14.out.block (X := y.1) (o := y.2) (List.mem_cons_of_mem _ (List.mem_cons_of_mem _ hy))); clear HSB hb)))
  have HK14 := Lib.hid (HF14.out.sub (K' := KK) (fun y hy => List.mem_cons_of_mem _ (List.mem_cons_of_mem _ hy)))
  have hu := (HFA.out _ HZ14.out)
  rw [HlenD.out.1, HlenD.out.2] at hu
  obtain ⟨⟨u0, -, u2, -⟩, -⟩ := hu
  clear HZ11 HZ12 HZ13 HZ14 HF11 HF12 HF13 HF14
  have hm1 : (D.st.er.length : Int) ≤ 1000 := by have := HszD.out; simp [szS] at this; omega
  go_wp2_with (fail)
  go_loopw [100] (fun iv wr => ∃ (k : Nat), iv = .int .i64 k ∧ k ≤ D.st.er.length ∧ FK W0 m n t G2 KK wr) (fun iv _ => D.st.er.length - (intOf iv).toNat)
  case atStart => exact ⟨0, rfl, by omega, HK14.out⟩
  case round =>
    clear HK14 u0 u2
    obtain ⟨k, rfl, hk, hF⟩ := hrel
    by_cases hlt : k < D.st.er.length
    · have hz : ∀ y ∈ KK, wr.heap[y.1]? = some y.2 := fun y hy => hF.block (X := y.1) (o := y.2) hy
      have hu := HFA.out _ hz
      rw [HlenD.out.1, HlenD.out.2] at hu
      obtain ⟨y2, e2, g2⟩ := HQ.out.r2.at2 (fun y hy => hz y (HMR.out y (by simp [hy]))) (icI_get _ k hlt)
      obtain ⟨y3, e3, g3⟩ := HQ.out.r3.at2 (fun y hy => hz y (HMR.out y (by simp [hy]))) (icI_get _ k (by have := HlenD.out.1; omega))
      obtain ⟨y4, e4, g4⟩ := HQ.out.r4.at2 (fun y hy => hz y (HMR.out y (by simp [hy]))) (blcells_get _ k (by have := HlenD.out.2; omega))
      obtain ⟨x2, e5, g5⟩ := HS5.out.r2.at2 (fun y hy => hz y (HMR.out y (by simp [hy]))) (icI_get _ k hlt)
      obtain ⟨x3, e6, g6⟩ := HS5.out.r3.at2 (fun y hy => hz y (HMR.out y (by simp [hy]))) (icI_get _ k (by have := HlenD.out.1; omega))
      obtain ⟨x4, e7, g7⟩ := HS5.out.r4.at2 (fun y hy => hz y (HMR.out y (by simp [hy]))) (blcells_get _ k (by have := HlenD.out.2; omega))
      rw [e2, e3, e4, e5, e6, e7] at hu
      obtain ⟨⟨u0, -, u2, -, -, v2⟩, u3, u4, v3, v4⟩ := hu
      generalize D.st.er.getD k 0 = z2 at *
      generalize D.st.at_.getD k 0 = z3 at *
      generalize D.st.en.getD k false = z4 at *
      have HF := Lib.hid hF
      have k1 : (k : Int) < D.st.er.length := by omega
      have k2 : (0 : Int) ≤ k := by omega
      have k3 : ((k : Int)).toNat = k := by omega
      clear hF hz e2 e3 e4 e5 e6 e7
      cases z4
      all_goals
        go_wp2_with (fail)
        go_quiet (fail)
        go_wp2_with (fail)
        go_roundw
        case rel => exact ⟨k + 1, by go_num, by omega, HF.out.grow (Fr.below_drewN' _ _)⟩
        case measure => simp [intOf]; omega
    · have k1 : ¬ (k : Int) < D.st.er.length := by omega
      have HF := Lib.hid hF
      clear hF
      go_wp2_with (go_at_call 47; refine (lives_yes _).mono ?_; rintro e w10 ⟨rfl, hb⟩; have HB := Lib.hid (seq (HbW.out.trans (HF.out.below.mono HbW.out.size)) hb); clear hb)
      go_ret
      exact ⟨rfl, by have := HB.out; rwa [Hbl.out] at this⟩
theorem plays_any (x : Int) (hx : 0 ≤ x) (hx2 : x < 256) (a : Option Addr) (cap : Nat) (ps : List A10.Act) (w : World) (hP : A10.Acts w a ps) :
    Calls Try.prog 8 #[.int .u8 x, .slice a ps.length cap] w fun e w' => e = .returned (.bool true) ∧ Below w.heap.size w w' := by
  obtain ⟨xn, rfl⟩ : ∃ n : Nat, x = n := ⟨x.toNat, by omega⟩
  by_cases hl : 150 < ps.length
  · exact plays_many _ _ _ _ _ hl hP.many
  · have hlen : ps.length = (ps.map toRA).length := by simp
    have := plays_walk xn (by omega) a cap ps (ps.map toRA) rfl hlen (fun y hy => by
      rw [List.mem_map] at hy
      obtain ⟨q, hq, rfl⟩ := hy
      obtain ⟨j, hj, rfl⟩ := List.mem_iff_getElem.1 hq
      have := (hP.each j hj).2.2.1
      rw [List.getD_eq_getElem?_getD, List.getElem?_eq_getElem hj] at this
      exact this) w (by omega) hP
    rwa [← hlen] at this
end Go.Proofs.Ytkcijlndblbidaa
