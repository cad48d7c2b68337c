/- The walk of the example of the laws on canon. -/
import Derived.Test.YtplkogjnmjjjgaaCTake
namespace Go.Proofs.Ytplkogjnmjjjgaa
open Go.ChangeShapes Go.WideShapes Go.ChangeAt Go.RowKit
set_option linter.unusedVariables false
set_option linter.unusedSimpArgs false

def ex0 : Gr := ⟨[], []⟩
def ex1 : Gr := ⟨[0], [⟨[], [], [5]⟩]⟩
theorem ex0_may : mayG ex0 = true := by decide +kernel
theorem ex1_may : mayG ex1 = true := by decide +kernel
theorem ex0_bytes : graphB (trimG ex0) = [0, 0] := by decide +kernel
theorem ex1_trim : trimG ex1 = ex1 := by
  have h : (trimG ex1).rs = [0] ∧ (trimG ex1).ns.length = 1 ∧ ((trimG ex1).ns.getD 0 default).ps = [] ∧ ((trimG ex1).ns.getD 0 default).fs = [] ∧ ((trimG ex1).ns.getD 0 default).ws = [5] := by decide +kernel
  obtain ⟨h1, h2, h3, h4, h5⟩ := h
  generalize trimG ex1 = T at *
  obtain ⟨rs, ns⟩ := T
  simp only at h1 h2 h3 h4 h5
  subst h1
  match ns, h2 with
  | [x], _ =>
    obtain ⟨p, f, w⟩ := x
    simp only [List.getD_cons_zero] at h3 h4 h5
    subst h3 h4 h5
    rfl
theorem ex1_len : (graphB (trimG ex1)).length ≤ 900000 := by
  have : (graphB (trimG ex1)).length ≤ 100 := by decide +kernel
  omega
theorem ex0_put : putS ex0 = Sl.sealedStr ⟨#[0, 0]⟩ := by
  unfold putS
  rw [ex0_bytes]
  rfl
theorem ex0_few : FewG ex0 := ⟨by decide, by decide, fun x hx => by cases hx⟩
theorem ex1_few : FewG ex1 := ⟨by decide, by decide, fun x hx => by simp [ex1] at hx; subst hx; decide⟩
theorem ex1_ok : OkG ex1 := by
  refine ⟨okI_of fun z hz => ?_, fun x hx => ?_⟩
  · simp [ex1] at hz
    subst hz
    unfold IsI
    omega
  · simp [ex1] at hx
    subst hx
    refine ⟨fun i hi => (by cases hi), fun i hi => (by cases hi), okU_of fun z hz => ?_⟩
    simp at hz
    subst hz
    omega
theorem none_row (k : IntKind) (W : World) : IntRow k W none [] := ⟨by simp, fun i hi => (by cases hi), 0, 0, .inl rfl, fun i hi => (by cases hi)⟩
theorem row1 {k : IntKind} {w : World} {b : Nat} {x : Int} {t : TypeId} (h : w.heap[b]? = some (.cells #[.int k x] t (0, 0))) (h1 : (Lit.int k x).wf = true) : IntRow k w (some ⟨b, 0, none⟩) [x] := by
  refine ⟨by simp [maxLen], fun i hi => ?_, b, 0, .inr rfl, fun i hi => ?_⟩
  · match i, hi with
    | 0, _ => exact h1
  · rw [Nat.zero_add]
    match i, hi with
    | 0, _ => exact at_cell h 0 _ rfl
theorem ex1_rd {W0 W : World} {b : Nat} (h : FKN W0 [(b + 1 + 1, .cells #[.slice none 0 0, .slice none 0 0, .slice (some ⟨b + 1, 0, none⟩) 1 1] 47 (0, 0)), (b + 1, .cells #[.int .u64 5] 48 (0, 0)), (b, .cells #[.int .i64 0] 3 (0, 0))] W) : GRd W (some ⟨b, 0, none⟩) (some ⟨b + 1 + 1, 0, none⟩) ex1 := by
  have k2 := h.1.block (List.mem_cons_self ..)
  have k1 := h.tail.1.block (List.mem_cons_self ..)
  have k0 := h.tail.tail.1.block (List.mem_cons_self ..)
  refine ⟨row1 k0 (by decide), ⟨by simp [ex1, maxLen], b + 1 + 1, 0, .inr rfl, fun i hi => ?_⟩⟩
  match i, hi with
  | 0, _ => exact ⟨⟨none, 0, at_cell k2 0 _ rfl, none_row _ _⟩, ⟨none, 0, at_cell k2 1 _ rfl, none_row _ _⟩, ⟨some ⟨b + 1, 0, none⟩, 1, at_cell k2 2 _ rfl, row1 k1 (by decide)⟩⟩
theorem ex1_at {W : World} {ar an : Option Addr} (h : GRd W ar an ex1) : ∃ bn on bw ow cw, an = some ⟨bn, on, none⟩ ∧ W.cell? ⟨bn, on + 2, none⟩ = some (.slice (some ⟨bw, ow, none⟩) 1 cw) ∧ W.cell? ⟨bw, ow, none⟩ = some (.int .u64 5) := by
  obtain ⟨bn, on, ap, af, aw, cp, cf, cw, rfl, hx, -, -, n2⟩ := h.nodes.at_ (i := 0) (by decide)
  obtain ⟨bw, ow, ha, hc⟩ := hx.ws.cell
  have hw : (ex1.ns.getD 0 default).ws = [5] := rfl
  rw [hw] at ha n2 hc
  obtain rfl : aw = some ⟨bw, ow, none⟩ := by
    rcases ha with e | e
    · cases e
    · exact e
  exact ⟨bn, on, bw, ow, cw, rfl, by simpa using n2, by simpa using hc 0 (by decide)⟩
set_option maxRecDepth 100000 in
set_option maxHeartbeats 2000000 in
theorem clives_any (w : World) :
    Calls Try.prog 28 #[] w fun e w' => e = .returned (.bool true) ∧ Below w.heap.size w w' := by
  have hG0 : GRd w none none ex0 := ⟨none_row _ _, ⟨by simp [ex0], 0, 0, .inl rfl, fun i hi => by cases hi⟩⟩
  have hp0 : Calls Try.prog 32 #[.agg #[.slice none 0 0, .slice none 0 0]] w fun e w' => e = .returned (.tuple #[.string (putS ex0), .int .i64 0]) ∧ Below w.heap.size w w' := put_any 0 0 hG0 ex0_few ex0_may (by rw [ex0_bytes]; decide)
  rw [ex0_put] at hp0
  have HP0 := Lib.hid hp0
  have Hse := Lib.hid (fun W => Sl.refSeal_any ⟨#[0, 0]⟩ W (by decide))
  have hsz : (putS ex1).size ≤ 100000 := by
    have h : (graphB (trimG ex1)).length ≤ 100 := by decide +kernel
    unfold putS
    rw [sealed_size, str_size]
    omega
  have hp1 : ∀ (W : World) (a b : Option Addr), GRd W a b ex1 → Calls Try.prog 32 #[.agg #[.slice a 1 1, .slice b 1 1]] W fun e w' => e = .returned (.tuple #[.string (putS ex1), .int .i64 0]) ∧ Below W.heap.size W w' := fun W a b h => put_any 1 1 h ex1_few ex1_may ex1_len
  have hok1 : OkG (trimG ex1) := by rw [ex1_trim]; exact ex1_ok
  have hfew1 : FewG (trimG ex1) := by rw [ex1_trim]; exact ex1_few
  have hpp := parsed_put hok1 hfew1
  obtain ⟨htg, hte⟩ := take_put hok1 hfew1 ex1_may
  have htk := fun W => take_any (w := W) hsz (by rw [hpp]; exact hfew1) (fun _ => by rw [hpp, trimG_twice ex1_may]; exact ex1_len)
  rw [htg, hte, ex1_trim] at htk
  have htk2 : ∀ W : World, Calls Try.prog 30 #[.string (putS ex1)] W fun e w' => ∃ ar an cr cn, e = .returned (.tuple #[.agg #[.slice ar 1 cr, .slice an 1 cn], .int .i64 0]) ∧ ∃ B, OGr W.heap.size ex1 ar an cr cn B ∧ FKN W B w' := htk
  clear htk htg hte hpp hok1 hfew1 hsz hp0 hG0
  generalize Sl.sealedStr ⟨#[0, 0]⟩ = s0 at *
  generalize putS ex1 = s1 at *
  have HP1 := Lib.hid hp1
  have HT := Lib.hid htk2
  clear hp1 htk2
  go_enter Try.func28, Try.ntmps28
  go_wp2_with (first
    | (go_at_call 32; refine HP0.out.mono ?_; clear HP0; rintro e w2 ⟨rfl, hb⟩; have H2 := Lib.hid hb; clear hb; have hb1 := ((FKN.refl w).grow H2.out).box #[.int .i64 0] 3; have hb2 := hb1.box #[.int .u64 5] 48; have hb3 := hb2.box #[.slice none 0 0, .slice none 0 0, .slice (some ⟨w2.heap.size + 1, 0, none⟩) 1 1] 47; simp only [heap_size_alloc] at hb2 hb3; obtain ⟨W3, hW3⟩ : ∃ W, ((w2.alloc (.cells #[.int .i64 0] 3)).alloc (.cells #[.int .u64 5] 48)).alloc (.cells #[.slice none 0 0, .slice none 0 0, .slice (some ⟨w2.heap.size + 1, 0, none⟩) 1 1] 47) = W := ⟨_, rfl⟩; rw [hW3] at hb3; have HB3 := Lib.hid hb3; clear hb1 hb2 hb3)
    | (go_at_call 32; refine (HP1.out _ _ _ (ex1_rd HB3.out)).mono ?_; rintro e w4 ⟨rfl, hb⟩; have H4 := Lib.hid (HB3.out.grow hb); clear hb)
    | (go_at_call 30; refine (HT.out _).mono ?_; rintro e w5 ⟨ar, an, cr, cn, rfl, B, hO, hF⟩; have hbx := (H4.out.grow hF.below).box #[.slice ar 1 cr, .slice an 1 cn] 25; have H5 := Lib.hid hbx; have hrd := (hO.rd hF.1 (fun x hx => hx) ex1_ok).below (below_new w5 (.cells #[.slice ar 1 cr, .slice an 1 cn] 25)); have HRD := Lib.hid hrd; clear hO hF hbx hrd)
    | (go_at_call 29; refine (Hse.out _).mono ?_; rintro e w6 ⟨rfl, hb⟩; have h6 := H5.out.grow hb; have hq := h6.1.block (List.mem_cons_self ..); have t0 := at_cell hq 0 _ rfl; have t1 := at_cell hq 1 _ rfl; obtain ⟨bn, on, bw, ow, cw, rfl, y2, y5⟩ := ex1_at (HRD.out.below hb); have H6 := Lib.hid h6; clear hb h6 hq))
  go_ret
  exact ⟨rfl, H6.out.below⟩
end Go.Proofs.Ytplkogjnmjjjgaa
