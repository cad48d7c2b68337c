/- The reference's region: its memory and its block; the walks of its methods. -/
import Derived.Test.YtkcijlndblbidaaR9Free
import Derived.Test.YtkcijlndblbidaaBump
import Derived.Test.YtkcijlndblbidaaFramesRefNew
namespace Go.Proofs.Ytkcijlndblbidaa
open Go.ChangeShapes Go.WideShapes Go.ChangeAt Go.RowKit
set_option linter.unusedVariables false

/-- the reference's memory (block rb) and region (block rr), the blocks of both among T -/
structure Rr (T : Nat → Prop) (rb rr room : Nat) (v : VS) (base top limit : Nat) (w : World) : Prop where
  mem : ∃ T0, Rm T0 rb room v w ∧ ¬ T0 rr ∧ ∀ k, T0 k → T k
  head : w.heap[rr]? = some (.cells #[.pointer (some ⟨rb, 0, none⟩), .int .i64 base, .int .i64 top, .int .i64 limit] 64 (0, 0))
  own : T rr
  ins : In T w
  le : base ≤ top ∧ top ≤ limit ∧ limit ≤ 64
def RrDid (T : Nat → Prop) (rb rr room : Nat) (v : VS) (base top limit : Nat) (w w' : World) : Prop := ∃ T', Rr T' rb rr room v base top limit w' ∧ Chg T w w' ∧ Grew T T' w
section
variable {S T : Nat → Prop} {rb rr room : Nat} {v v' : VS} {base top limit : Nat} {w w1 w' : World}
theorem Rr.keep (h : Rr T rb rr room v base top limit w) (c : Chg S w w') (ap : Apart T S) : Rr T rb rr room v base top limit w' := by
  obtain ⟨⟨T0, h1, h2, h3⟩, h4, h5, h6, h7⟩ := h
  exact ⟨⟨T0, h1.keep c (fun k a b => ap k (h3 k a) b), h2, h3⟩, c.keep h4 (fun s => ap _ h5 s), h5, h6.mono c.size, h7⟩
theorem Rr.grow (h : Rr T rb rr room v base top limit w) (c : Below w.heap.size w w') : Rr T rb rr room v base top limit w' := h.keep (S := fun _ => False) (Chg.of c) (fun _ _ h => h)
theorem Rr.same (h : Rr T rb rr room v base top limit w) (h1 : ∀ k, T k → w'.heap[k]? = w.heap[k]?) : Rr T rb rr room v base top limit w' := by
  obtain ⟨⟨T0, ⟨aL, cL, es, hR, hF, ⟨t1, t2⟩, hI⟩, h2, h3⟩, h4, h5, h6, h7⟩ := h
  have lt : ∀ k, T k → k < w'.heap.size := fun k hk => by
    have e := h1 k hk
    have hlt := h6 k hk
    rw [Array.getElem?_eq_getElem hlt] at e
    exact (Array.getElem?_eq_some_iff.1 e).1
  refine ⟨⟨T0, ⟨aL, cL, es, ⟨(h1 _ (h3 _ t1)).trans hR.head, own_from hR.list fun g hg => ?_⟩, hF, ⟨t1, t2⟩, fun k hk => lt k (h3 k hk)⟩, h2, h3⟩, (h1 _ h5).trans h4, h5, lt, h7⟩
  obtain ⟨ad, rfl, rfl⟩ := own_of_some' hg
  exact h1 _ (h3 _ (t2 ad rfl))
theorem RrDid.of (h : Rr T rb rr room v base top limit w) (c : Below w.heap.size w w') : RrDid T rb rr room v base top limit w w' := ⟨T, h.grow c, Chg.of c, Grew.refl _ _⟩
theorem RrDid.then {T1 : Nat → Prop} (h : Chg T w w1) (g : Grew T T1 w) (k : RrDid T1 rb rr room v base top limit w1 w') : RrDid T rb rr room v base top limit w w' := by
  obtain ⟨S2, h1, h2, h3⟩ := k
  exact ⟨S2, h1, h.then h2 g, g.trans h3 h.size⟩
theorem Rr.cells (h : Rr T rb rr room v base top limit w) : w.cell? ⟨rr, 0, none⟩ = some (.pointer (some ⟨rb, 0, none⟩)) ∧ w.cell? ⟨rr, 1, none⟩ = some (.int .i64 base) ∧ w.cell? ⟨rr, 2, none⟩ = some (.int .i64 top) ∧ w.cell? ⟨rr, 3, none⟩ = some (.int .i64 limit) :=
  ⟨at_cell h.head 0 _ rfl, at_cell h.head 1 _ rfl, at_cell h.head 2 _ rfl, at_cell h.head 3 _ rfl⟩
/-- the memory alone changed -/
theorem Rr.did {T0 : Nat → Prop} (hn : ¬ T0 rr) (hs : ∀ k, T0 k → T k) (h4 : w.heap[rr]? = some (.cells #[.pointer (some ⟨rb, 0, none⟩), .int .i64 base, .int .i64 top, .int .i64 limit] 64 (0, 0))) (h5 : T rr) (h6 : In T w) (h7 : base ≤ top ∧ top ≤ limit ∧ limit ≤ 64) (hd : RmDid T0 rb room v' w w') : RrDid T rb rr room v' base top limit w w' := by
  obtain ⟨T1, k1, k2, k3⟩ := hd
  refine ⟨fun k => T k ∨ T1 k, ⟨⟨T1, k1, fun a => ?_, fun k a => .inr a⟩, k2.keep h4 hn, .inl h5, fun k hk => ?_, h7⟩, k2.mono (fun k _ a => hs k a), fun k hk => ?_⟩
  · rcases k3 _ a with b | b
    · exact hn b
    · have := block_lt h4; omega
  · rcases hk with a | a
    · have := h6 k a; have := k2.size; omega
    · exact k1.in k a
  · rcases hk with a | a
    · exact .inl a
    · exact (k3 k a).imp (hs k) id
theorem Rr.lift (h : Rr T rb rr room v base top limit w) {f : FuncId} {args : Array Value} {R : Ending} (op : ∀ T0, Rm T0 rb room v w → Calls Try.prog f args w fun e w' => e = R ∧ RmDid T0 rb room v' w w') :
    Calls Try.prog f args w fun e w' => e = R ∧ RrDid T rb rr room v' base top limit w w' := by
  obtain ⟨⟨T0, h1, h2, h3⟩, h4, h5, h6, h7⟩ := h
  exact (op T0 h1).mono fun e w' ⟨he, hd⟩ => ⟨he, Rr.did h2 h3 h4 h5 h6 h7 hd⟩
theorem Rr.setTop (h : Rr T rb rr room v base top limit w) {x : Nat} (hx : base ≤ x ∧ x ≤ limit) : RrDid T rb rr room v base x limit w (w.setCell ⟨rr, 2, none⟩ (.int .i64 x)) := by
  obtain ⟨⟨T0, h1, h2, h3⟩, h4, h5, h6, h7⟩ := h
  have hc : Chg (fun k => k = rr) w (w.setCell ⟨rr, 2, none⟩ (.int .i64 x)) := (Chg.refl (fun k => k = rr) w).set (p := ⟨rr, 2, none⟩) (.inl rfl) _
  exact ⟨T, ⟨⟨T0, h1.keep hc (fun k a e => h2 (by rw [← e]; exact a)), h2, h3⟩, heap_setCell_same w rr 2 _ _ _ h4, h5, h6.mono hc.size, hx.1, hx.2, h7.2.2⟩, hc.mono (fun k _ e => by rw [e]; exact h5), Grew.refl _ _⟩
theorem Rr.used (h : Rr T rb rr room v base top limit w) : v.used ≤ 16 := by
  obtain ⟨⟨T0, ⟨aL, cL, es, hR, hF, _⟩, _⟩, _⟩ := h
  rw [hF.many]
  exact hF.few
end
section
variable {T : Nat → Prop} {rb rr room : Nat} {v : VS} {base top limit : Nat} {w : World}
theorem map_rr (h : Rr T rb rr room v base top limit w) (hr : room ≤ 4096) (hh : v.high ≤ 4096) (hu : v.used ≤ room) (p : Int) :
    Calls Try.prog 44 #[.pointer (some ⟨rb, 0, none⟩), .int .i64 p] w fun e w' => e = .returned (.int .i64 (mapE 16 room v p)) ∧ RrDid T rb rr room (mapS 16 4 room v p) base top limit w w' :=
  h.lift fun T0 h0 => map9_any h0 hr hh hu p
theorem at_rr_no (h : Rr T rb rr room v base top limit w) {p : Int} (hp : isM 16 v p = false) :
    Calls Try.prog 46 #[.pointer (some ⟨rb, 0, none⟩), .int .i64 p] w fun e w' => e = .returned (.int .i64 (-1)) ∧ w = w' := by
  obtain ⟨⟨T0, h1, _⟩, _⟩ := h
  exact at9_no h1 hp
theorem at_rr_yes (h : Rr T rb rr room v base top limit w) {p : Int} (hp : isM 16 v p = true) :
    ∃ r : Nat, r < 16 ∧ Calls Try.prog 46 #[.pointer (some ⟨rb, 0, none⟩), .int .i64 p] w fun e w' => e = .returned (.int .i64 r) ∧ w = w' := by
  obtain ⟨⟨T0, h1, _⟩, _⟩ := h
  exact at9_yes h1 hp
theorem need_eq (room : Nat) (v : VS) (a n : Nat) (h1 : 1 ≤ n) (h2 : a + n ≤ 64) : needE 64 4 room v a ((a : Int) + n) = needN 4 room v (a / 4) ((a + n - 1) / 4 - a / 4 + 1) ∧ needV 64 4 room v a ((a : Int) + n) = needNV 4 room v (a / 4) ((a + n - 1) / 4 - a / 4 + 1) := by
  have a3 : ¬ ((a : Int) < 0 ∨ ((64 : Nat) : Int) < (a : Int) + n) := by omega
  have a4 : ¬ (a : Int) + n ≤ a := by omega
  have a5 : ((a : Int) + n).toNat - 1 = a + n - 1 := by omega
  unfold needE needV
  rw [if_neg a3, if_neg a3, if_neg a4, if_neg a4, Int.toNat_natCast, a5]
  exact ⟨rfl, rfl⟩
set_option maxRecDepth 100000 in
set_option maxHeartbeats 1000000 in
theorem alloc_rr (h : Rr T rb rr room v base top limit w) (hr : room ≤ 4096) (hh : v.high ≤ 4096) (hu : v.used ≤ room) (n : Int) :
    Calls Try.prog 45 #[.pointer (some ⟨rr, 0, none⟩), .int .i64 n] w fun e w' => e = .returned (.tuple #[.int .i64 (allocA 64 4 room v top limit n), .int .i64 (allocE 64 4 room v top limit n)]) ∧ RrDid T rb rr room (allocV 64 4 room v top limit n) base (allocT 64 4 room v top limit n) limit w w' := by
  obtain ⟨c0, c1, c2, c3⟩ := h.cells
  have hle := h.le
  have HB := Lib.hid h
  have s1 : IntKind.i64.wrap ((limit : Int) - top) = (limit : Int) - top := IntWalk.i64_in _ (by omega)
  unfold allocA allocV allocT allocE
  by_cases h1 : n < 1
  · rw [if_pos h1, if_pos h1, if_neg (by decide), if_neg (by decide)]
    clear h s1
    go_enter Try.func45, Try.ntmps45
    go_wp2
    go_ret2
    exact ⟨rfl, RrDid.of HB.out (Below.refl _ _)⟩
  · rw [if_neg h1, if_neg h1]
    by_cases h2 : (limit : Int) - top < n
    · rw [if_pos h2, if_pos h2, if_neg (by decide), if_neg (by decide)]
      have q1 : decide ((limit : Int) - top < n) = true := decide_eq_true h2
      clear h
      go_enter Try.func45, Try.ntmps45
      go_wp2
      go_quiet (fail)
      go_wp2
      go_ret2
      exact ⟨rfl, RrDid.of HB.out (Fr.below_drewN' _ _)⟩
    · rw [if_neg h2, if_neg h2]
      obtain ⟨n, rfl⟩ : ∃ q : Nat, n = q := ⟨n.toNat, by omega⟩
      have q1 : decide ((limit : Int) - top < (n : Int)) = false := decide_eq_false h2
      obtain ⟨e1, e2⟩ := need_eq room v top n (by omega) (by omega)
      have hneed := fun T' W (k : Rr T' rb rr room v base top limit W) => k.lift fun T0 h0 => need9_run h0 hr hh hu top (top + n) (by omega) (by omega)
      simp only [← e1, ← e2] at hneed
      have s2 : IntKind.i64.wrap ((top : Int) + n) = (top : Int) + n := IntWalk.i64_in _ (by omega)
      have hcast : ((top + n : Nat) : Int) = (top : Int) + n := by omega
      simp only [hcast] at hneed
      obtain ⟨E, hE⟩ : ∃ E, needE 64 4 room v top ((top : Int) + n) = E := ⟨_, rfl⟩
      obtain ⟨v', hv'⟩ : ∃ v', needV 64 4 room v top ((top : Int) + n) = v' := ⟨_, rfl⟩
      simp only [hE, hv'] at hneed ⊢
      have Hneed := Lib.hid hneed
      have S1 := Lib.hid s1
      have S2 := Lib.hid s2
      have Q1 := Lib.hid q1
      have m1 : (n : Int) ≤ 64 := by omega
      have m2 : (top : Int) ≤ 64 := by omega
      have m3 : (1 : Int) ≤ n := by omega
      clear h hE hv' hneed s1 s2 q1 e1 e2 hcast
      by_cases h3 : E = 0
      · subst h3
        rw [if_pos rfl, if_pos rfl]
        have s1 := S1.out
        have q1 := Q1.out
        go_enter Try.func45, Try.ntmps45
        go_wp2
        go_quiet (fail)
        clear s1 q1 c0 c1 c2 c3
        go_wp2
        have HB2 := Lib.hid (HB.out.grow (Fr.below_drewN' nq w))
        have hbw := Lib.hid (Fr.below_drewN' nq w)
        generalize w.drewN nq = W at *
        obtain ⟨c0, c1, c2, c3⟩ := HB2.out.cells
        have s2 := S2.out
        go_region_held3 (fun w' => w'.cell? ⟨rr, 0, none⟩ = some (.pointer (some ⟨rb, 0, none⟩)) ∧ w'.cell? ⟨rr, 2, none⟩ = some (.int .i64 top)) (first | exact ⟨c0, c2⟩ | exact ⟨d0, d2⟩ | go_keep) ((go_at_call 119; refine (Hneed.out _ _ (HB2.out.grow (below_drew W))).mono ?_; rintro e w5 ⟨rfl, T5, k5, k6, k7⟩; have HB5 := Lib.hid k5; have HC5 := Lib.hid k6; have HG5 := Lib.hid k7; obtain ⟨d0, d1, d2, d3⟩ := k5.cells; have f2 := at_free k5.head 2; clear k5 k6 k7))
        clear c0 c1 c2 c3 s2
        go_wp2
        go_ret2
        refine ⟨?_, ?_⟩
        · rfl
        · have hset := HB5.out.setTop (x := top + n) (by omega)
          rw [show ((top + n : Nat) : Int) = (top : Int) + n by omega] at hset
          exact RrDid.then (((Chg.of hbw.out).newBelow (below_drew W)).then HC5.out (Grew.refl _ _)) (fun k hk => (HG5.out k hk).imp id (fun x => Nat.le_trans hbw.out.size x)) hset
      · rw [if_neg h3, if_neg h3]
        have s1 := S1.out
        have q1 := Q1.out
        go_enter Try.func45, Try.ntmps45
        go_wp2
        go_quiet (fail)
        clear s1 q1 c0 c1 c2 c3
        go_wp2
        have HB2 := Lib.hid (HB.out.grow (Fr.below_drewN' nq w))
        have hbw := Lib.hid (Fr.below_drewN' nq w)
        generalize w.drewN nq = W at *
        obtain ⟨c0, c1, c2, c3⟩ := HB2.out.cells
        have s2 := S2.out
        go_region_held3 (fun w' => w'.cell? ⟨rr, 0, none⟩ = some (.pointer (some ⟨rb, 0, none⟩)) ∧ w'.cell? ⟨rr, 2, none⟩ = some (.int .i64 top)) (first | exact ⟨c0, c2⟩ | exact ⟨d0, d2⟩ | go_keep) ((go_at_call 119; refine (Hneed.out _ _ (HB2.out.grow (below_drew W))).mono ?_; rintro e w5 ⟨rfl, T5, k5, k6, k7⟩; have HB5 := Lib.hid k5; have HC5 := Lib.hid k6; have HG5 := Lib.hid k7; obtain ⟨d0, d1, d2, d3⟩ := k5.cells; clear k5 k6 k7))
        clear c0 c1 c2 c3 s2
        go_wp2
        go_ret2
        exact ⟨rfl, T5, HB5.out, ((Chg.of hbw.out).newBelow (below_drew W)).then HC5.out (Grew.refl _ _), fun k hk => (HG5.out k hk).imp id (fun x => Nat.le_trans hbw.out.size x)⟩
set_option maxRecDepth 100000 in
theorem set_rr (h : Rr T rb rr room v base top limit w) (x : Int) : Calls Try.prog 42 #[.pointer (some ⟨rr, 0, none⟩), .int .i64 x] w fun e w' => e = .returned (.int .i64 (setE base limit x)) ∧ RrDid T rb rr room v base (setT base limit top x) limit w w' := by
  obtain ⟨c0, c1, c2, c3⟩ := h.cells
  have f2 := at_free h.head 2
  have HB := Lib.hid h
  clear h
  unfold setT setE
  by_cases h1 : x < base
  · rw [if_pos (.inl h1), if_neg (by decide)]
    go_enter Try.func42, Try.ntmps42
    go_wp2
    go_ret
    exact ⟨rfl, RrDid.of HB.out (Below.refl _ _)⟩
  · by_cases h2 : (limit : Int) < x
    · rw [if_pos (.inr h2), if_neg (by decide)]
      go_enter Try.func42, Try.ntmps42
      go_wp2
      go_ret
      exact ⟨rfl, RrDid.of HB.out (Below.refl _ _)⟩
    · have h3 : ¬ (x < base ∨ (limit : Int) < x) := by omega
      rw [if_neg h3, if_pos rfl]
      obtain ⟨x, rfl⟩ : ∃ q : Nat, x = q := ⟨x.toNat, by omega⟩
      have Hx := Lib.hid (HB.out.setTop (x := x) (by omega))
      clear h3
      go_enter Try.func42, Try.ntmps42
      go_wp2
      go_ret
      exact ⟨rfl, Hx.out⟩
set_option maxRecDepth 100000 in
theorem release_rr (h : Rr T rb rr room v base top limit w) : Calls Try.prog 43 #[.pointer (some ⟨rr, 0, none⟩)] w fun e w' => e = .returned (.int .i64 (freeR 64 4 v base limit).1) ∧ RrDid T rb rr room (freeR 64 4 v base limit).2 base base limit w w' := by
  obtain ⟨c0, c1, c2, c3⟩ := h.cells
  have f2 := at_free h.head 2
  have hle := h.le
  obtain ⟨T2, b1, b2, b3⟩ := h.setTop (x := base) (by omega)
  have HB2 := Lib.hid b1
  have HC2 := Lib.hid b2
  have HG2 := Lib.hid b3
  have hfree := fun W (k : Rr T2 rb rr room v base base limit W) => k.lift fun T0 h0 => free9_run h0 base limit (by omega) (by omega)
  generalize freeR 64 4 v base limit = F at *
  have Hfree := Lib.hid hfree
  clear h hle hfree b1 b2 b3
  go_enter Try.func43, Try.ntmps43
  go_wp2
  generalize w.setCell ⟨rr, 2, none⟩ (.int .i64 base) = W at *
  clear c0 c1 c2 c3 f2
  obtain ⟨c0, c1, c2, c3⟩ := HB2.out.cells
  go_region_held3 (fun w' => w'.cell? ⟨rr, 0, none⟩ = some (.pointer (some ⟨rb, 0, none⟩)) ∧ w'.cell? ⟨rr, 1, none⟩ = some (.int .i64 base) ∧ w'.cell? ⟨rr, 3, none⟩ = some (.int .i64 limit)) (first | exact ⟨c0, c1, c3⟩ | exact ⟨d0, d1, d3⟩ | go_keep) ((go_at_call 117; refine (Hfree.out _ (HB2.out.grow (below_drew W))).mono ?_; rintro e w5 ⟨rfl, hd⟩; have Hd := Lib.hid (RrDid.then (Chg.of (below_drew W)) (Grew.refl _ _) hd); have d0 := (by obtain ⟨T', k1, _⟩ := hd; exact k1.cells.1 : w5.cell? ⟨rr, 0, none⟩ = some (.pointer (some ⟨rb, 0, none⟩))); have d1 := (by obtain ⟨T', k1, _⟩ := hd; exact k1.cells.2.1 : w5.cell? ⟨rr, 1, none⟩ = some (.int .i64 base)); have d3 := (by obtain ⟨T', k1, _⟩ := hd; exact k1.cells.2.2.2 : w5.cell? ⟨rr, 3, none⟩ = some (.int .i64 limit)); clear hd))
  go_wp2
  go_ret
  exact ⟨rfl, RrDid.then HC2.out HG2.out Hd.out⟩
end
end Go.Proofs.Ytkcijlndblbidaa
