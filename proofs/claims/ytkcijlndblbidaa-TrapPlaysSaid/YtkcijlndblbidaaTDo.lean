/- The reference's Do. -/
import Derived.Test.YtkcijlndblbidaaTSt
namespace Go.Proofs.Ytkcijlndblbidaa
open Go.ChangeShapes Go.WideShapes Go.ChangeAt Go.RowKit
set_option linter.unusedVariables false

/-- the reference's State, somewhere -/
def SPs (W0 : World) (m n t : Nat) (gm : Nat → Nat) (s : Nat) (f : Nat → Nat) (st : PS) (E : List (Nat × Obj)) (w : World) : Prop :=
  ∃ (a0 a1 a2 a3 a4 : Option Addr) (c0 c1 c2 c3 c4 : Nat) (R0 R1 R2 R3 R4 : List (Nat × Obj)), SP1 W0 m n t gm s 74 23 1 n (gcells n f) st E a0 a1 a2 a3 a4 c0 c1 c2 c3 c4 R0 R1 R2 R3 R4 w
def resE (b : Option (Int × Int)) : Int := match b with | none => 0 | some (e, _) => e
def resA (b : Option (Int × Int)) : Int := match b with | none => 0 | some (_, a) => a
theorem szS_push (st : PS) (b : Option (Int × Int)) : szS (st.push b) = szS st + 3 := by
  unfold PS.push szS
  rcases b with _ | ⟨e, a⟩ <;> simp <;> omega
theorem doG_sz_d (n : Nat) (l : List RA) (d : Nat) : ∀ (i to : Nat) (g : Nat → Nat) (st : PS), to - i ≤ d → szS (doG n l i to g st).st ≤ szS st + 3 * (to - i) := by
  induction d with
  | zero =>
    intro i to g st hd
    rw [doG, dif_neg (by omega)]
    show szS st ≤ _
    omega
  | succ d ih =>
    intro i to g st hd
    by_cases hlt : i < to
    · rw [doG, dif_pos hlt]
      simp only
      split
      · split
        · split
          · have := ih (i + 1) to (putG g (l.getD i default).a.toNat (l.getD i default).w) st (by omega)
            omega
          · have := ih (i + 1) to g { st with ld := st.ld ++ [g (l.getD i default).a.toNat] } (by omega)
            have h2 : szS { st with ld := st.ld ++ [g (l.getD i default).a.toNat] } = szS st + 1 := by simp [szS]; omega
            omega
        · show szS st ≤ _
          omega
      · split
        · show szS st ≤ _
          omega
        · split
          · have h1 := ih (i + 1) (max i (min (closeG l i 0) to)) g st (by omega)
            generalize doG n l (i + 1) (max i (min (closeG l i 0) to)) g st = r at *
            have h2 := ih (max i (min (closeG l i 0) to) + 1) to (if r.bad.isSome then g else r.g) (r.st.push r.bad) (by omega)
            rw [szS_push] at h2
            omega
          · have := ih (i + 1) to g st (by omega)
            omega
    · rw [doG, dif_neg hlt]
      show szS st ≤ _
      omega
theorem doG_sz (n : Nat) (l : List RA) (i to : Nat) (g : Nat → Nat) (st : PS) : szS (doG n l i to g st).st ≤ szS st + 3 * (to - i) := doG_sz_d n l _ i to g st (Nat.le_refl _)
section
variable {W0 w w' : World} {m n t : Nat} {g : Nat → Nat} {s : Nat} {ty ty0 : TypeId} {sz0 k0 : Nat} {xs0 : List Value} {st : PS} {E X : List (Nat × Obj)} {a0 a1 a2 a3 a4 : Option Addr} {c0 c1 c2 c3 c4 : Nat} {R0 R1 R2 R3 R4 : List (Nat × Obj)}
theorem SP1.addE (h : SP1 W0 m n t g s ty ty0 sz0 k0 xs0 st E a0 a1 a2 a3 a4 c0 c1 c2 c3 c4 R0 R1 R2 R3 R4 w) (hN : FKN W0 m n t g (X ++ ((s, .cells (spC a0 a1 a2 a3 a4 k0 c0 c1 c2 c3 c4 st) ty (0, 0)) :: (R0 ++ (R1 ++ (R2 ++ (R3 ++ (R4 ++ E))))))) w') :
    SP1 W0 m n t g s ty ty0 sz0 k0 xs0 st (X ++ E) a0 a1 a2 a3 a4 c0 c1 c2 c3 c4 R0 R1 R2 R3 R4 w' := by
  refine ⟨h.r0, h.r1, h.r2, h.r3, h.r4, hN.perm ?_⟩
  have q := (perm_in (A := (s, Obj.cells (spC a0 a1 a2 a3 a4 k0 c0 c1 c2 c3 c4 st) ty (0, 0)) :: (R0 ++ (R1 ++ (R2 ++ (R3 ++ R4))))) (R := X) (B := E)).symm
  simpa only [List.append_assoc, List.cons_append] using q
theorem SP1.boxE (h : SP1 W0 m n t g s ty ty0 sz0 k0 xs0 st E a0 a1 a2 a3 a4 c0 c1 c2 c3 c4 R0 R1 R2 R3 R4 w) (cs : Array Value) (ty2 : TypeId) :
    SP1 W0 m n t g s ty ty0 sz0 k0 xs0 st ((w.heap.size, .cells cs ty2 (0, 0)) :: E) a0 a1 a2 a3 a4 c0 c1 c2 c3 c4 R0 R1 R2 R3 R4 (w.alloc (.cells cs ty2)) :=
  h.addE (X := [(w.heap.size, .cells cs ty2 (0, 0))]) (h.all.box cs ty2)
theorem SP1.dropE (h : SP1 W0 m n t g s ty ty0 sz0 k0 xs0 st (X ++ E) a0 a1 a2 a3 a4 c0 c1 c2 c3 c4 R0 R1 R2 R3 R4 w) :
    SP1 W0 m n t g s ty ty0 sz0 k0 xs0 st E a0 a1 a2 a3 a4 c0 c1 c2 c3 c4 R0 R1 R2 R3 R4 w := by
  refine ⟨h.r0, h.r1, h.r2, h.r3, h.r4, FKN.drop (K' := X) (h.all.perm ?_)⟩
  have q := (perm_in (A := (s, Obj.cells (spC a0 a1 a2 a3 a4 k0 c0 c1 c2 c3 c4 st) ty (0, 0)) :: (R0 ++ (R1 ++ (R2 ++ (R3 ++ R4))))) (R := X) (B := E))
  simpa only [List.append_assoc, List.cons_append] using q
theorem SP1.permE {E' : List (Nat × Obj)} (h : SP1 W0 m n t g s ty ty0 sz0 k0 xs0 st E a0 a1 a2 a3 a4 c0 c1 c2 c3 c4 R0 R1 R2 R3 R4 w) (p : List.Perm E E') :
    SP1 W0 m n t g s ty ty0 sz0 k0 xs0 st E' a0 a1 a2 a3 a4 c0 c1 c2 c3 c4 R0 R1 R2 R3 R4 w :=
  ⟨h.r0, h.r1, h.r2, h.r3, h.r4, h.all.perm (List.Perm.cons _ (List.Perm.append_left _ (List.Perm.append_left _ (List.Perm.append_left _ (List.Perm.append_left _ (List.Perm.append_left _ p))))))⟩
theorem SP1.stop {k : Nat} {ys : List Value} {x : Option Addr} {cx : Nat} {Rx : List (Nat × Obj)} {B : Nat × Obj} (h : SP1 W0 m n t g s ty ty0 sz0 k0 xs0 st (B :: (Rx ++ E)) a0 a1 a2 a3 a4 c0 c1 c2 c3 c4 R0 R1 R2 R3 R4 w) (r : Rw W0.heap.size ty0 sz0 k ys x cx Rx) :
    SP1 W0 m n t g s ty ty0 sz0 k ys st (B :: E) x a1 a2 a3 a4 cx c1 c2 c3 c4 Rx R1 R2 R3 R4 (w.setCell ⟨s, 0, none⟩ (.slice x k cx)) :=
  (h.permE (perm_in (A := [B]) (R := Rx) (B := E))).back0 r
theorem Rw.at2 {sz k : Nat} {xs : List Value} {al : Option Addr} {cap : Nat} {R : List (Nat × Obj)} (r : Rw W0.heap.size ty sz k xs al cap R) (hR : ∀ x ∈ R, w.heap[x.1]? = some x.2) {j : Nat} {v : Value} (hj : xs[j]? = some v) : ∃ b, al = some ⟨b, 0, none⟩ ∧ w.cell? ⟨b, j, none⟩ = some v := by
  rcases r with ⟨rfl, rfl, rfl, rfl, rfl⟩ | ⟨b, cur, rfl, h2, h3, h4, h5, h6, h7, rfl⟩
  · simp at hj
  · refine ⟨b, rfl, at_cell (hR _ (List.mem_cons_self ..)) j v ?_⟩
    have hlt : j < k * sz := by
      rw [← h7]
      exact (List.getElem?_eq_some_iff.1 hj).1
    rw [← h6, List.getElem?_take_of_lt hlt] at hj
    simpa using hj
theorem SP1.inE (h : SP1 W0 m n t g s ty ty0 sz0 k0 xs0 st E a0 a1 a2 a3 a4 c0 c1 c2 c3 c4 R0 R1 R2 R3 R4 w) {x : Nat × Obj} (hx : x ∈ E) : w.heap[x.1]? = some x.2 :=
  h.all.1.block (List.mem_cons_of_mem _ (List.mem_append_right _ (List.mem_append_right _ (List.mem_append_right _ (List.mem_append_right _ (List.mem_append_right _ hx))))))
theorem SP1.cell (h : SP1 W0 m n t g s ty ty0 sz0 k0 xs0 st E a0 a1 a2 a3 a4 c0 c1 c2 c3 c4 R0 R1 R2 R3 R4 w) :
    w.cell? ⟨s, 0, none⟩ = some (.slice a0 k0 c0) ∧ w.cell? ⟨s, 1, none⟩ = some (.slice a1 st.ld.length c1) ∧ w.cell? ⟨s, 2, none⟩ = some (.slice a2 st.er.length c2) ∧ w.cell? ⟨s, 3, none⟩ = some (.slice a3 st.at_.length c3) ∧ w.cell? ⟨s, 4, none⟩ = some (.slice a4 st.en.length c4) :=
  ⟨at_cell h.head 0 _ rfl, at_cell h.head 1 _ rfl, at_cell h.head 2 _ rfl, at_cell h.head 3 _ rfl, at_cell h.head 4 _ rfl⟩
theorem SP1.free (h : SP1 W0 m n t g s ty ty0 sz0 k0 xs0 st E a0 a1 a2 a3 a4 c0 c1 c2 c3 c4 R0 R1 R2 R3 R4 w) (j : Nat) : w.frozen? ⟨s, j, none⟩ = false := at_free h.head j
theorem act_cells {k a e : Int} {x : Nat} {b : Nat} (h : w.heap[b]? = some (.cells #[.int .i64 k, .int .i64 a, .int .u64 x, .int .i64 e] ty (0, 0))) :
    w.cell? ⟨b, 0, none⟩ = some (.int .i64 k) ∧ w.cell? ⟨b, 1, none⟩ = some (.int .i64 a) ∧ w.cell? ⟨b, 2, none⟩ = some (.int .u64 x) ∧ w.cell? ⟨b, 3, none⟩ = some (.int .i64 e) :=
  ⟨at_cell h 0 _ rfl, at_cell h 1 _ rfl, at_cell h 2 _ rfl, at_cell h 3 _ rfl⟩
end
theorem GR.appendU {W0 w : World} {m n t : Nat} {g f : Nat → Nat} {K : List (Nat × Obj)} {b j : Nat} {i : TypeInfo} (h : FK W0 m n t g K w) (hi : Try.prog.info? 23 = some i) (hz : i.zero = some (.int .u64 0)) (hs : i.size = 1) (hby : i.bytes = 8) (hj : 1 ≤ j ∧ j ≤ 4096) (hc : ∀ p, p < j → w.cell? ⟨b, p, none⟩ = some (.int .u64 (f p : Nat))) (c : Nat) :
    ∃ al5 cap5 w5, (Builtin.append_ #[69, 69] 69 #[.slice (some ⟨w.heap.size, 0, none⟩) 0 0, .slice (some ⟨b, 0, none⟩) j c]).run Try.prog (w.alloc (.cells #[] 23)) = .ok (.slice al5 j cap5) w5 ∧ GR W0 m n t g K 23 1 j (gcells j f) al5 cap5 w5 := by
  have hG : GR W0 m n t g K 23 1 0 [] (some ⟨w.heap.size, 0, none⟩) 0 (w.alloc (.cells #[] 23)) :=
    .inr ⟨w.heap.size, #[], rfl, h.below.size, (fun x hx => by have := block_lt (h.block (o := x.2) (X := x.1) hx); omega), by omega, by unfold maxLen; omega, rfl, rfl, rfl, h.box #[] 23⟩
  obtain ⟨g5, cap5, w5, hrun, hown, hgrow, hat, -⟩ := run_append_lies (P := Try.prog) (w.alloc (.cells #[] 23)) 69 69 W0.heap.size 23 i (.int .u64 0) 1 8 Try.underlying69 hi hz hs hby rfl (by decide) _ _ _ hG.row ⟨b, 0, none⟩ j c (gcells j f) (by rw [gcells_length]; omega) (fun p u hu => by
      by_cases hp : p < j
      · rw [gcells_get j f p hp] at hu
        cases hu
        have hadd : (⟨b, 0, none⟩ : Addr).add p = ⟨b, p, none⟩ := by unfold Addr.add; split <;> simp_all
        rw [hadd]
        exact cellB (below_new w _) (Nat.le_refl _) (hc p hp)
      · rw [List.getElem?_eq_none (by rw [gcells_length]; omega)] at hu
        cases hu) (fun u hu => by
      unfold gcells at hu
      rw [List.mem_map] at hu
      obtain ⟨z, -, rfl⟩ := hu
      rfl) (by omega) (by unfold maxLen; omega) (by omega) hG.below.size _ rfl
  have hp := hG.pushN hown hgrow hat
  rw [Nat.zero_add] at hrun hp
  exact ⟨_, _, _, hrun, by simpa using hp⟩
def DoSaid (W0 : World) (m n t : Nat) (gm : Nat → Nat) (s : Nat) (l : List RA) (al : Option Addr) (cap : Nat) (Rl : List (Nat × Obj)) (i to : Nat) (g : Nat → Nat) (st : PS) (E : List (Nat × Obj)) (w : World) : Prop :=
    to ≤ l.length → i ≤ to + 1 → szS st + 3 * (to + 1 - i) ≤ 5000 → (∀ x ∈ Rl, x ∈ E) → SPs W0 m n t gm s g st E w →
      Calls Try.prog 50 #[.pointer (some ⟨s, 0, none⟩), .slice al l.length cap, .int .i64 i, .int .i64 to] w fun e w' =>
        e = .returned (.tuple #[.int .i64 (resE (doG n l i to g st).bad), .int .i64 (resA (doG n l i to g st).bad), .bool (doG n l i to g st).bad.isNone]) ∧
        SPs W0 m n t gm s (if (doG n l i to g st).bad.isSome then g else (doG n l i to g st).g) (doG n l i to g st).st E w'
set_option maxRecDepth 100000 in
set_option maxHeartbeats 16000000 in
theorem do_step {W0 : World} {m n t : Nat} {gm : Nat → Nat} {s : Nat} {l : List RA} {al : Option Addr} {cap : Nat} {Rl : List (Nat × Obj)} (hl : l.length ≤ 150) (hrl : Rw W0.heap.size 179 4 l.length (racells l) al cap Rl) (hk : ∀ x ∈ l, x.w < 18446744073709551616) (hn : 1 ≤ n ∧ n ≤ 4096)
    (d : Nat) (ih : ∀ (i to : Nat) (g : Nat → Nat) (st : PS) (E : List (Nat × Obj)) (w : World), to - i < d → DoSaid W0 m n t gm s l al cap Rl i to g st E w) :
    ∀ (i to : Nat) (g : Nat → Nat) (st : PS) (E : List (Nat × Obj)) (w : World), to - i ≤ d → DoSaid W0 m n t gm s l al cap Rl i to g st E w := by
    intro i to g st E w hd hto hi hsz hRl hS
    obtain ⟨D, hD⟩ : ∃ D, doG n l i to g st = D := ⟨_, rfl⟩
    rw [hD]
    obtain ⟨GG, hGG⟩ : ∃ GG, (if D.bad.isSome then g else D.g) = GG := ⟨_, rfl⟩
    rw [hGG]
    have HD0 := Lib.hid hD
    have HGG := Lib.hid hGG
    clear hGG
    obtain ⟨i1, hj, hy0, hy1, hy2⟩ := info_parts u64_info10
    obtain ⟨a0, a1, a2, a3, a4, c0, c1, c2, c3, c4, R0, R1, R2, R3, R4, h⟩ := hS
    have hq := h.head
    have d0 := at_cell (blockB (below_new w (.cells #[] 23)) (Nat.le_refl _) hq) 0 (.slice a0 n c0) rfl
    obtain ⟨b0, hb0, -⟩ := h.r0.at_ h.all.1 (fun x hx => List.mem_cons_of_mem _ (List.mem_append_left _ hx)) (gcells_get n g 0 (by omega))
    subst hb0
    obtain ⟨a5, c5, w5, hrun5, hg5⟩ := GR.appendU (c := c0) h.all.1 hj hy0 hy1 hy2 hn (fun p hp => by
      obtain ⟨b9, e9, h9⟩ := h.r0.at_ h.all.1 (fun x hx => List.mem_cons_of_mem _ (List.mem_append_left _ hx)) (gcells_get n g p hp)
      cases e9
      exact h9)
    have HR5 := Lib.hid hrun5
    have HG5 := Lib.hid hg5
    have H := Lib.hid h
    clear h hq hrun5 hg5 hD
    go_enter Try.func50, Try.ntmps50
    go_wp2_with (at_builtin; refine wpList_append_run _ rfl (.tmp 18) (.tmp 22) 69 rfl _ _ _ _ rfl rfl HR5.out ?_)
    obtain ⟨R5, hr5, hn5⟩ := HG5.out.rw H.out.all.2.1 H.out.all.2.2
    have H5 := Lib.hid (H.out.addE hn5)
    have HR := Lib.hid hr5
    have HRl := Lib.hid hRl
    obtain ⟨uj, huj, hu0, hu1, hu2⟩ := info_parts u64_info10
    obtain ⟨ij, hij, hi0, hi1, hi2⟩ := info_parts int_info18
    obtain ⟨bj, hbj, hb0, hb1, hb2⟩ := info_parts bool_info10
    clear hn5 hr5 HG5 HR5 hRl H d0
    have l1 : (l.length : Int) ≤ 150 := by omega
    go_loopw [12] (fun iv wr => ∃ (k : Nat) (g' : Nat → Nat) (st' : PS), iv = .int .i64 k ∧ i ≤ k ∧ k ≤ to + 1 ∧ doG n l k to g' st' = D ∧ szS st' + 3 * (to + 1 - k) ≤ 5000 ∧ SPs W0 m n t gm s g' st' (R5 ++ E) wr) (fun iv _ => to + 1 - (intOf iv).toNat)
    case atStart => exact ⟨i, g, st, rfl, by omega, hi, HD0.out, hsz, _, _, _, _, _, _, _, _, _, _, _, _, _, _, _, H5.out⟩
    case round =>
      clear H5 HD0
      obtain ⟨k, g', st', rfl, hk0, hk1, hd, hsz', a0, a1, a2, a3, a4, c0, c1, c2, c3, c4, R0, R1, R2, R3, R4, h⟩ := hrel
      by_cases hlt : k < to
      · have hkl : k < l.length := by omega
        obtain ⟨ba, rfl, d0, d1, d2, d3⟩ := (hrl.rowc h.all.1 (fun x hx => List.mem_cons_of_mem _ (List.mem_append_right _ (List.mem_append_right _ (List.mem_append_right _ (List.mem_append_right _ (List.mem_append_right _ (List.mem_append_right _ (HRl.out x hx))))))))).act hkl
        rw [doG, dif_pos hlt] at hd
        have hxw := hk (l.getD k default) (by rw [List.getD_eq_getElem?_getD, List.getElem?_eq_getElem hkl]; exact List.getElem_mem hkl)
        have hcl := closeG_ge l k 0 (by omega)
        generalize hx : l.getD k default = x at *
        obtain ⟨kz, hkz⟩ : ∃ kz : Int, (x.k : Int) = kz := ⟨_, rfl⟩
        have hB := h.boxE #[.int .i64 kz, .int .i64 x.a, .int .u64 x.w, .int .i64 x.e] 179
        have HB := Lib.hid hB
        obtain ⟨b0, b1, b2, b3⟩ := act_cells (hB.inE (List.mem_cons_self ..))
        have q1 : (k : Int) < l.length := by omega
        have q2 : (0 : Int) ≤ k := by omega
        have q3 : ((k : Int)).toNat = k := by omega
        have q4 : (k : Int) < to := by omega
        rw [hkz] at d0
        obtain ⟨xk, xa, xw, xe⟩ := x
        simp only at *
        have Hx := Lib.hid hx
        clear h hB hx
        obtain ⟨bx, hbx⟩ : ∃ bx, wr.heap.size = bx := ⟨_, rfl⟩
        obtain ⟨s0, s1, s2, s3, s4⟩ := HB.out.cell
        by_cases h1 : xk ≤ 1
        · rw [if_pos h1] at hd
          cases hin : inG n xa with
          | false =>
            rw [hin, if_neg (by simp)] at hd
            have hor := inG_false hin
            have HD := Lib.hid hd
            clear hd hin hcl s1 s2 s3 s4 b2 b3
            obtain rfl | rfl : kz = 0 ∨ kz = 1 := by omega
            all_goals
              rcases hor with ho | ho
              all_goals first
                | (have ho2 : decide (xa < 0) = true := decide_eq_true ho)
                | (have ho2 : decide (xa < 0) = false := decide_eq_false (by omega))
              all_goals
                clear h1 hkz
                go_wp2_with (fail)
                simp only [hbx] at HB b0 b1 s0 ⊢
                generalize wr.alloc (.cells #[.int .i64 _, .int .i64 xa, .int .u64 xw, .int .i64 xe] 179) = wb at *
                go_quiet (fail)
                have HB2 := Lib.hid (HB.out.grow (Fr.below_drewN' nq _))
                clear b0 b1 s0 HB
                generalize wb.drewN nq = wb2 at *
                have fz := HB2.out.free 0
                have HB3 := Lib.hid (HB2.out.stop HR.out)
                obtain ⟨s0, -⟩ := HB2.out.cell
                obtain ⟨b0, b1, -⟩ := act_cells (HB3.out.inE (List.mem_cons_self ..))
                go_wp2_with (fail)
                go_quiet (fail)
                go_wp2_with (fail)
                go_ret3
                have HB4 := HB3.out.dropE (X := [_])
                refine ⟨?_, ?_⟩
                · rw [← HD.out]; rfl
                · rw [← HGG.out, ← HD.out]; exact ⟨_, _, _, _, _, _, _, _, _, _, _, _, _, _, _, HB4.grow (Fr.below_drewN' _ _)⟩
          | true =>
            rw [hin, if_pos rfl] at hd
            obtain ⟨p1, p2⟩ := inG_true hin
            obtain ⟨p, rfl⟩ : ∃ p : Nat, xa = p := ⟨xa.toNat, by omega⟩
            have ho2 : decide ((p : Int) < 0) = false := decide_eq_false (by omega)
            have ho3 : decide ((n : Int) ≤ p) = false := decide_eq_false (by omega)
            have p3 : ((p : Int)).toNat = p := by omega
            rw [p3] at hd
            obtain ⟨bz, e0, hz⟩ := HB.out.r0.at_ HB.out.all.1 (fun x hx => List.mem_cons_of_mem _ (List.mem_append_left _ hx)) (gcells_get n g' p (by omega))
            subst e0
            clear hin hcl s2 s3 s4 b3
            obtain rfl | rfl : kz = 0 ∨ kz = 1 := by omega
            · obtain rfl : xk = 0 := by omega
              rw [if_pos rfl] at hd
              have HD := Lib.hid hd
              clear h1 hkz hd
              go_wp2_with (fail)
              simp only [hbx] at HB b0 b1 b2 s0 s1 hz ⊢
              generalize wr.alloc (.cells #[.int .i64 _, .int .i64 (p : Int), .int .u64 xw, .int .i64 xe] 179) = wb at *
              go_quiet (fail)
              have HB2 := Lib.hid (HB.out.grow (Fr.below_drewN' nq _))
              clear b0 b1 b2 s0 s1 hz HB
              generalize wb.drewN nq = wb2 at *
              obtain ⟨b0, b1, b2, -⟩ := act_cells (HB2.out.inE (List.mem_cons_self ..))
              go_wp2_with (fail)
              have HB3 := Lib.hid (HB2.out.grow (below_drew _))
              clear b0 b1 b2 HB2
              refine wp_region_still_tail 9 (by kernel_rfl) (by kernel_rfl) ?_
              simp only [List.take_succ_cons, List.take_zero, List.drop_succ_cons, List.drop_zero]
              unfold World.drew at HB3
              generalize ({ wb2 with drawn := wb2.drawn + 1 } : World) = W2 at *
              obtain ⟨s0, -⟩ := HB3.out.cell
              obtain ⟨b0, b1, b2, -⟩ := act_cells (HB3.out.inE (List.mem_cons_self ..))
              obtain ⟨b9, R0', e9, fz, h4⟩ := HB3.out.set0 (j := p) (by omega) xw
              cases e9
              obtain ⟨b9, e9, hz⟩ := HB3.out.r0.at_ HB3.out.all.1 (fun x hx => List.mem_cons_of_mem _ (List.mem_append_left _ hx)) (gcells_get n g' p (by omega))
              cases e9
              have H4 := Lib.hid h4
              clear h4
              repeat still_step
              refine wpStill_nil ?_
              go_wp2_with (fail)
              go_roundw
              case rel => exact ⟨k + 1, putG g' p xw, st', by go_num, by omega, by omega, HD.out, by omega, _, _, _, _, _, _, _, _, _, _, _, _, _, _, _, H4.out.dropE (X := [_])⟩
              case measure => simp [intOf]; omega
            · obtain rfl : xk = 1 := by omega
              rw [if_neg (by omega)] at hd
              have HD := Lib.hid hd
              clear h1 hkz hd
              go_wp2_with (fail)
              simp only [hbx] at HB b0 b1 b2 s0 s1 hz ⊢
              generalize wr.alloc (.cells #[.int .i64 _, .int .i64 (p : Int), .int .u64 xw, .int .i64 xe] 179) = wb at *
              go_quiet (fail)
              have HB2 := Lib.hid (HB.out.grow (Fr.below_drewN' nq _))
              clear b0 b1 b2 s0 s1 hz HB
              generalize wb.drewN nq = wb2 at *
              obtain ⟨b0, b1, -, -⟩ := act_cells (HB2.out.inE (List.mem_cons_self ..))
              obtain ⟨s0, s1, -⟩ := HB2.out.cell
              obtain ⟨b9, e9, hz⟩ := HB2.out.r0.at_ HB2.out.all.1 (fun x hx => List.mem_cons_of_mem _ (List.mem_append_left _ hx)) (gcells_get n g' p (by omega))
              cases e9
              obtain ⟨x, cx, w6, Rx, hrun6, hE6, hs6, hR6, h6⟩ := (HB2.out.grow (below_drew _)).app1 (g' p) (by omega)
              have s1a : (wb2.alloc (.cells #[.int .u64 (g' p : Nat)] 23)).drew.cell? ⟨s, 1, none⟩ = some (.slice a1 st'.ld.length c1) := ((HB2.out.boxE #[.int .u64 (g' p : Nat)] 23).grow (below_drew _)).cell.2.1
              have HRUN := Lib.hid hrun6
              have H6 := Lib.hid h6
              obtain ⟨b9, e9, tz⟩ := HB2.out.r0.at2 hR6 (gcells_get n g' p (by omega))
              cases e9
              have t0 := at_cell hs6 0 _ rfl
              have t1 := at_cell hs6 1 _ rfl
              have fz := at_free hs6 1
              obtain ⟨-, tb, -⟩ := act_cells (hE6 _ (List.mem_cons_self ..))
              clear hrun6 h6 hE6 hs6 hR6
              go_wp2_with (fail)
              go_region_law ((refine step_append_run _ (by rfl) (.tmp 74) (.tmp 83) 69 69 _ (by rfl) (by rfl) _ _ (by rfl) (by rfl) _ w6 HRUN.out ?_))
              all_goals
                go_wp2_with (fail)
                go_roundw
                case rel => exact ⟨k + 1, g', { st' with ld := st'.ld ++ [g' p] }, by go_num, by omega, by omega, HD.out, by simp [szS] at hsz' ⊢; omega, _, _, _, _, _, _, _, _, _, _, _, _, _, _, _, H6.out.dropE (X := [_])⟩
                case measure => simp [intOf]; omega
        · rw [if_neg h1] at hd
          by_cases h2 : xk = 2
          · rw [if_pos h2] at hd
            have HD := Lib.hid hd
            obtain rfl : kz = 2 := by omega
            have fz := HB.out.free 0
            have HB3 := Lib.hid (HB.out.stop HR.out)
            obtain ⟨b1a, b1b, b1c, b1d⟩ := act_cells (HB3.out.inE (List.mem_cons_self ..))
            clear h1 h2 hkz hd hcl s1 s2 s3 s4
            go_wp2_with (fail)
            go_quiet (fail)
            go_wp2_with (fail)
            go_ret3
            have HB4 := HB3.out.dropE (X := [_])
            refine ⟨?_, ?_⟩
            · rw [← HD.out]; rfl
            · rw [← HGG.out, ← HD.out]; exact ⟨_, _, _, _, _, _, _, _, _, _, _, _, _, _, _, HB4.grow (Fr.below_drewN' _ _)⟩
          · rw [if_neg h2] at hd
            by_cases h3 : xk = 3
            · rw [if_pos h3] at hd
              obtain rfl : kz = 3 := by omega
              have hmx : max k (min (closeG l k 0) to) = min (closeG l k 0) to := by omega
              rw [hmx] at hd
              have hcc : (min (closeG l k 0 : Int) (to : Int)) = ((min (closeG l k 0) to : Nat) : Int) := by omega
              have HCL := Lib.hid (close_any (hrl.rowc HB.out.all.1 (fun x hx => List.mem_cons_of_mem _ (List.mem_append_right _ (List.mem_append_right _ (List.mem_append_right _ (List.mem_append_right _ (List.mem_append_right _ (List.mem_cons_of_mem _ (List.mem_append_right _ (HRl.out x hx)))))))))) hl cap k (by omega))
              have hcge : k ≤ min (closeG l k 0) to ∧ min (closeG l k 0) to ≤ to := by omega
              generalize closeG l k 0 = cl at *
              obtain ⟨c, hc⟩ : ∃ c, min cl to = c := ⟨_, rfl⟩
              rw [hc] at hd hcc hcge
              have hD2 := ih (k + 1) c g' st' _ _ (by omega) (by omega) (by omega) (by omega) (fun x hx => List.mem_cons_of_mem _ (List.mem_append_right _ (HRl.out x hx))) ⟨_, _, _, _, _, _, _, _, _, _, _, _, _, _, _, HB.out⟩
              have hsz2 := doG_sz n l (k + 1) c g' st'
              generalize doG n l (k + 1) c g' st' = D2 at *
              obtain ⟨G2, hG2⟩ : ∃ G2, (if D2.bad.isSome then g' else D2.g) = G2 := ⟨_, rfl⟩
              rw [hG2] at hd hD2
              obtain ⟨b2g, ⟨ld, er, ats, en⟩, bad⟩ := D2
              simp only at *
              have hpush : (PS.mk ld er ats en).push bad = ⟨ld, er ++ [resE bad], ats ++ [resA bad], en ++ [bad.isNone]⟩ := by
                rcases bad with _ | ⟨e, a⟩ <;> rfl
              rw [hpush] at hd
              generalize resE bad = ve at *
              generalize resA bad = va at *
              generalize bad.isNone = vo at *
              have HD := Lib.hid hd
              rw [show ((k + 1 : Nat) : Int) = (k : Int) + 1 by omega] at hD2
              have HD2 := Lib.hid hD2
              have hcs : (cl = c ∧ (cl : Int) ≤ to) ∨ (c = to ∧ ¬ (cl : Int) ≤ to ∧ (to : Int) < cl) := by omega
              clear hcc
              clear h1 h2 h3 hkz hd hcl hmx hc hD2 hpush hG2 s0 s1 s2 s3 s4
              rcases hcs with ⟨rfl, hm⟩ | ⟨rfl, hm, hm2⟩
              all_goals
                go_wp2_with (first
                  | (go_at_call 121; refine HCL.out.mono ?_; rintro e w1 ⟨rfl, rfl⟩; clear HCL)
                  | (go_at_call 50; refine HD2.out.mono ?_; rintro e w2 ⟨rfl, a0, a1, a2, a3, a4, c0, c1, c2, c3, c4, R0, R1, R2, R3, R4, h2⟩; obtain ⟨x2, cx2, w6, Rx2, hrun6, -, hs6, -, h6⟩ := h2.app2 ve (by omega); simp only at hrun6 h6; obtain ⟨v6, hv6⟩ : ∃ v, w6.setCell ⟨s, 2, none⟩ (.slice x2 (er.length + 1) cx2) = v := ⟨_, rfl⟩; rw [hv6] at h6; obtain ⟨x3, cx3, w7, Rx3, hrun7, -, hs7, -, h7⟩ := h6.app3 va (by simp [szS] at hsz2 hsz' ⊢; omega); simp only at hrun7 h7; obtain ⟨v7, hv7⟩ : ∃ v, w7.setCell ⟨s, 3, none⟩ (.slice x3 (ats.length + 1) cx3) = v := ⟨_, rfl⟩; rw [hv7] at h7; obtain ⟨x4, cx4, w8, Rx4, hrun8, -, hs8, -, h8⟩ := h7.app4 vo (by simp [szS] at hsz2 hsz' ⊢; omega); simp only at hrun8 h8; have e2 := h2.cell.2.2.1; have t2 := at_cell hs6 2 (.slice a2 er.length c2) rfl; have f2 := at_free hs6 2; have e3 := h6.cell.2.2.2.1; have t3 := at_cell hs7 3 (.slice a3 ats.length c3) rfl; have f3 := at_free hs7 3; have e4 := h7.cell.2.2.2.2; have t4 := at_cell hs8 4 (.slice a4 en.length c4) rfl; have f4 := at_free hs8 4; have H8 := Lib.hid h8; have HR6 := Lib.hid hrun6; have HR7 := Lib.hid hrun7; have HR8 := Lib.hid hrun8; simp only at e2 e3 e4; clear HD2 h2 h6 h7 h8 hs6 hs7 hs8 hrun6 hrun7 hrun8)
                  | (at_builtin; refine wpList_append_run _ rfl (.tmp 118) (.tmp 120) 71 rfl _ _ _ _ rfl rfl HR6.out ?_; clear HR6)
                  | (at_builtin; refine wpList_append_run _ rfl (.tmp 128) (.tmp 130) 71 rfl _ _ _ _ rfl rfl HR7.out ?_; clear HR7)
                  | (at_builtin; refine wpList_append_run _ rfl (.tmp 138) (.tmp 140) 72 rfl _ _ _ _ rfl rfl HR8.out ?_; clear HR8))
                go_roundw
                case rel => exact ⟨_ + 1, G2, ⟨ld, er ++ [ve], ats ++ [va], en ++ [vo]⟩, by go_num, by omega, by omega, HD.out, by simp [szS] at hsz2 hsz' ⊢; omega, _, _, _, _, _, _, _, _, _, _, _, _, _, _, _, H8.out.dropE (X := [_])⟩
                case measure => simp [intOf]; omega
            · rw [if_neg h3] at hd
              have z0 : (kz == 0) = false := by rw [beq_eq_false_iff_ne]; omega
              have z1 : (kz == 1) = false := by rw [beq_eq_false_iff_ne]; omega
              have z2 : (kz == 2) = false := by rw [beq_eq_false_iff_ne]; omega
              have z3 : (kz == 3) = false := by rw [beq_eq_false_iff_ne]; omega
              have HD := Lib.hid hd
              clear h1 h2 h3 hkz hd hcl
              go_wp2_with (fail)
              go_roundw
              case rel => exact ⟨k + 1, g', st', by go_num, by omega, by omega, HD.out, by omega, _, _, _, _, _, _, _, _, _, _, _, _, _, _, _, HB.out.dropE (X := [_])⟩
              case measure => simp [intOf]; omega
      · rw [doG, dif_neg hlt] at hd
        have q4 : ¬ (k : Int) < to := by omega
        have HH := Lib.hid h
        subst hd
        clear h
        go_wp2_with (fail)
        go_ret3
        refine ⟨rfl, ?_⟩
        rw [← HGG.out]
        exact ⟨a0, a1, a2, a3, a4, c0, c1, c2, c3, c4, R0, R1, R2, R3, R4, HH.out.dropE⟩
set_option maxRecDepth 100000 in
set_option maxHeartbeats 4000000 in
theorem do_any {W0 : World} {m n t : Nat} {gm : Nat → Nat} {s : Nat} {l : List RA} {al : Option Addr} {cap : Nat} {Rl : List (Nat × Obj)} (hl : l.length ≤ 150) (hrl : Rw W0.heap.size 179 4 l.length (racells l) al cap Rl) (hk : ∀ x ∈ l, x.w < 18446744073709551616) (hn : 1 ≤ n ∧ n ≤ 4096) :
    ∀ (d i to : Nat) (g : Nat → Nat) (st : PS) (E : List (Nat × Obj)) (w : World), to - i ≤ d → DoSaid W0 m n t gm s l al cap Rl i to g st E w := by
  intro d
  induction d with
  | zero => exact do_step hl hrl hk hn 0 (fun i to g st E w hd => absurd hd (by omega))
  | succ d ih => exact do_step hl hrl hk hn (d + 1) (fun i to g st E w hd => ih i to g st E w (by omega))
end Go.Proofs.Ytkcijlndblbidaa
