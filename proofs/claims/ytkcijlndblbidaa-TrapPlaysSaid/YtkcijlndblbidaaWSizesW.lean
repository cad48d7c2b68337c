/- The walk of WalkSizes; how a Laid that came in lies. -/
import Derived.Test.YtkcijlndblbidaaWSizes
import Derived.Deep.Slices
import Derived.Deep.Strs
import Derived.SizedLaws
import Derived.OpenShut
import Derived.Lib.SmallJoins
namespace Go.Proofs.Ytkcijlndblbidaa
open Go.ChangeShapes Go.WideShapes Go.ChangeAt Go.RowKit
set_option linter.unusedVariables false

section
variable {H : Type} {enc : TypeId × Value → H} {w : World} {fuel : Nat} {c : Value} {x : DataW H × List MemPlace}
theorem hrow_of (h : DataW.trod enc Try.prog w 0 (fun _ => true) true fuel 131 [c] = some x) :
    ∃ (a : Option Addr) (hs : List Hdr) (cap : Nat), c = .slice a hs.length cap ∧ HRow w a hs ∧ (hs = [] ∨ ∃ el sp, x.1 = .slice el sp ∧ el.length = hs.length) := by
  rcases Go.Deep.open_slice Try.underlying131 h with ⟨hcs, hx⟩ | ⟨ad, l, cp, m, n, D, Pl, hcs, _, hl, hm, hmm, hx, hel⟩
  · simp at hcs
    exact ⟨none, [], 0, hcs, ⟨by simp, 0, 0, .inl rfl, by simp⟩, .inl rfl⟩
  · simp at hcs
    have hm' : m = cp := by simpa using hmm
    subst hm'
    have ce : Try.prog.cellsOf 106 = 3 := by kernel_rfl
    rw [ce] at hel
    have hel2 : ∀ i, i < l → ∃ r : Hdr, w.cell? (ad.add (i * 3)) = some (.int .i64 r.p) ∧ w.cell? ((ad.add (i * 3)).add 1) = some (.int .i64 r.f) ∧ w.cell? ((ad.add (i * 3)).add 2) = some (.int .i64 r.o) := by
      intro i hi
      obtain ⟨cs', h1, h2⟩ := hel i (by omega)
      obtain ⟨_, hlen, hcell⟩ := World.cells?_some h1
      match cs', hlen with
      | [c0, c1, c2], _ =>
        obtain ⟨u0, u1, u2, n2, hu, _, s0, s1, s2⟩ := Go.Deep.trod_struct3 Try.underlying106 h2
        have e_int : Try.prog.cellsOf 3 = 1 := by kernel_rfl
        simp only [e_int, List.drop_zero, List.drop_succ_cons, List.take_succ_cons, List.take_zero] at s0 s1 s2
        obtain ⟨z5, q5, _, wz5⟩ := DataW.trod_int Try.underlying3 s0
        obtain ⟨z6, q6, _, wz6⟩ := DataW.trod_int Try.underlying3 s1
        obtain ⟨z7, q7, _, wz7⟩ := DataW.trod_int Try.underlying3 s2
        simp at q5 q6 q7
        subst q5 q6 q7
        refine ⟨⟨z5, z6, z7⟩, ?_, hcell 1 (by omega), hcell 2 (by omega)⟩
        have := hcell 0 (by omega)
        rw [Go.Deep.add_add, Nat.add_zero] at this
        exact this
    have hlen2 : ∃ el sp, x.1 = .slice el sp ∧ el.length = l := by rw [hx]; exact ⟨_, _, rfl, by simp⟩
    by_cases h0 : l = 0
    · subst h0
      exact ⟨some ad, [], m, hcs, ⟨by simp, 0, 0, .inl rfl, by simp⟩, .inl rfl⟩
    · obtain ⟨b, off, spot⟩ := ad
      obtain ⟨p0, c0, _⟩ := hel2 0 (by omega)
      have hspot : spot = none := by simpa [Addr.add] using World.cell?_spot c0
      subst hspot
      obtain ⟨f, hf⟩ := Go.Deep.choose_lt hel2
      have hget : ∀ i, i < l → ((List.range l).map f).getD i default = f i := fun i hi => by simp [hi]
      refine ⟨some ⟨b, off, none⟩, (List.range l).map f, m, by rw [hcs]; simp, ⟨by simp; omega, b, off, .inr rfl, fun i hi => ?_⟩, .inr ?_⟩
      · rw [hget i (by simpa using hi)]
        obtain ⟨g0, g1, g2⟩ := hf i (by simpa using hi)
        rw [add_off] at g0
        rw [add_off, add_off] at g1 g2
        exact ⟨g0, g1, g2⟩
      · obtain ⟨el, sp, h1, h2⟩ := hlen2
        exact ⟨el, sp, h1, by rw [h2]; simp⟩
theorem irow_of (h : DataW.trod enc Try.prog w 0 (fun _ => true) true fuel 71 [c] = some x) :
    ∃ (a : Option Addr) (zs : List Int) (cap : Nat), c = .slice a zs.length cap ∧ IntRow .i64 w a zs ∧ (zs = [] ∨ ∃ el sp, x.1 = .slice el sp ∧ el.length = zs.length) := by
  rcases Go.Deep.open_slice Try.underlying71 h with ⟨hcs, hx⟩ | ⟨ad, l, cp, m, n, D, Pl, hcs, _, hl, hm, hmm, hx, hel⟩
  · simp at hcs
    exact ⟨none, [], 0, hcs, ⟨by simp, by simp, 0, 0, .inl rfl, by simp⟩, .inl rfl⟩
  · simp at hcs
    subst hcs
    obtain ⟨zs, hz, hr⟩ := introw_of Try.underlying71 Try.underlying3 (by kernel_rfl) h
    refine ⟨some ad, zs, cp, by rw [hz], hr, .inr ?_⟩
    rw [hx]
    exact ⟨_, _, rfl, by simp; omega⟩
set_option maxRecDepth 100000 in
theorem laid_of {v : Value} {base : Nat} {d : DataW H} {p : List MemPlace} (hv : Value.okWide Try.prog w .any base 133 v) (h : DataW.Trod enc Try.prog w 0 (fun _ => true) true 133 v d p)
    {ts : List TypeId} {ds : List (DataW H)} (hsz : (DataW.weightsEach Try.prog ts ds).all (· ≤ reachBytes) = true) {j : Nat} (ht : ts[j]? = some 133) (hd : ds[j]? = some d) :
    ∃ (ah apt aw : Option Addr) (hs : List Hdr) (ps ws : List Int) (ch cp cw : Nat), v = .agg #[.slice ah hs.length ch, .slice apt ps.length cp, .slice aw ws.length cw] ∧ HRow w ah hs ∧ IntRow .i64 w apt ps ∧ IntRow .i64 w aw ws ∧ hs.length + ps.length + ws.length ≤ 9223372036854775807 := by
  obtain ⟨c0, c1, c2, y0, y1, y2, m, rfl, rfl, rfl, hy0, hy1, hy2⟩ := Go.Joins.open_agg3 Try.underlying133 (by kernel_rfl) (by kernel_rfl) hv h
  obtain ⟨ah, hs, ch, rfl, hH, h0⟩ := hrow_of hy0
  obtain ⟨apt, ps, cp, rfl, hP, h1⟩ := irow_of hy1
  obtain ⟨aw, ws, cw, rfl, hW, h2⟩ := irow_of hy2
  have hin : (DataW.weightsEach Try.prog [131, 71, 71] [y0.1, y1.1, y2.1]).all (· ≤ reachBytes) = true := by
    rw [List.all_eq_true] at hsz ⊢
    intro z hz
    refine hsz z (DataW.weights_mem_each ht hd z ?_)
    rw [DataW.weights, Try.underlying133]
    exact hz
  have hr := reachBytes_lt
  have b0 : hs.length ≤ 2 ^ 47 := by
    rcases h0 with rfl | ⟨el, sp, e1, e2⟩
    · simp
    · have := sized_slice hin (j := 0) (t := 131) rfl (by rw [← e1]; rfl) Try.underlying131
      rw [show Try.prog.bytesOf 106 = 24 by kernel_rfl] at this
      omega
  have b1 : ps.length ≤ 2 ^ 47 := by
    rcases h1 with rfl | ⟨el, sp, e1, e2⟩
    · simp
    · have := sized_slice hin (j := 1) (t := 71) rfl (by rw [← e1]; rfl) Try.underlying71
      rw [show Try.prog.bytesOf 3 = 8 by kernel_rfl] at this
      omega
  have b2 : ws.length ≤ 2 ^ 47 := by
    rcases h2 with rfl | ⟨el, sp, e1, e2⟩
    · simp
    · have := sized_slice hin (j := 2) (t := 71) rfl (by rw [← e1]; rfl) Try.underlying71
      rw [show Try.prog.bytesOf 3 = 8 by kernel_rfl] at this
      omega
  exact ⟨ah, apt, aw, hs, ps, ws, ch, cp, cw, rfl, hH, hP, hW, by omega⟩
end
set_option maxRecDepth 100000 in
set_option maxHeartbeats 2000000 in
theorem wsizes_any (ah apt aw : Option Addr) (ch cp cw : Nat) (hs : List Hdr) (ps ws : List Int) (w : World) (hH : HRow w ah hs) (hP : IntRow .i64 w apt ps) (hWs : IntRow .i64 w aw ws) (hl : hs.length + ps.length + ws.length ≤ 9223372036854775807) :
    Calls Try.prog 14 #[.agg #[.slice ah hs.length ch, .slice apt ps.length cp, .slice aw ws.length cw]] w fun e w' => e = .returned (.bool true) ∧ Below w.heap.size w w' := by
  obtain ⟨W1, hW1⟩ : ∃ W1, w.alloc (.cells #[.slice ah hs.length ch, .slice apt ps.length cp, .slice aw ws.length cw] 133) = W1 := ⟨_, rfl⟩
  have hb0 : Below w.heap.size w W1 := by rw [← hW1]; exact below_new _ _
  have hb3 : W1.heap[w.heap.size]? = some (.cells #[.slice ah hs.length ch, .slice apt ps.length cp, .slice aw ws.length cw] 133 (0, 0)) := by rw [← hW1]; exact heap_alloc_new w _
  have HFar := far_any ah apt aw hs.length ch ps.length cp ws.length cw W1 hH.many hP.many hWs.many hl
  rw [← hW1] at HFar
  have HH := Lib.hid (hH.below hb0)
  have HP := Lib.hid (hP.below hb0)
  have HWs := Lib.hid (hWs.below hb0)
  have Hb0 := Lib.hid hb0
  have Hb3 := Lib.hid hb3
  have HW1 := Lib.hid hW1
  by_cases hf : 300 < hs.length + ps.length + ws.length
  · rw [decide_eq_true hf] at HFar
    replace HFar := Lib.hid HFar
    clear hH hP hWs hl hb0 hb3 hW1 hf
    go_enter Try.func14, Try.ntmps14
    go_wp2_with (first
      | (go_at_call 87; refine HFar.out.mono ?_; rintro e w1 ⟨rfl, hb⟩; rw [HW1.out] at hb; have HB := Lib.hid (seq Hb0.out hb); clear hb)
      | (go_at_call 88; refine (lives18_yes _).mono ?_; rintro e w2 ⟨rfl, hb⟩; have HB2 := Lib.hid (seq HB.out hb); clear hb))
    go_ret
    exact ⟨rfl, HB2.out⟩
  · rw [decide_eq_false hf] at HFar
    replace HFar := Lib.hid HFar
    have HL := Lib.hid (fun W (hb : Below W1.heap.size W1 W) => lay_any ah apt aw ch cp cw hs ps ws W (HH.out.below hb) (HP.out.below hb) (HWs.out.below hb) (by omega))
    clear hH hP hWs hl hb0 hb3 hW1 hf
    go_enter Try.func14, Try.ntmps14
    go_wp2_with (first
      | (go_at_call 87; refine HFar.out.mono ?_; rintro e w1 ⟨rfl, hb⟩; rw [HW1.out] at hb; have c0 := at_cell (blockB hb (Nat.le_refl _) Hb3.out) 0 _ rfl; have c1 := at_cell (blockB hb (Nat.le_refl _) Hb3.out) 1 _ rfl; have c2 := at_cell (blockB hb (Nat.le_refl _) Hb3.out) 2 _ rfl; have HB := Lib.hid hb; clear hb)
      | (go_at_call 89; refine (HL.out _ HB.out).mono ?_; rintro e w2 ⟨W0, m, t, g, al, cap, top, rfl, hbw, hsm, ht1, ht2, hR, -, -⟩; clear c0 c1 c2; have HA := all_fk hR.full hsm 1 top (by omega); unfold spc at HA; replace HA := Lib.hid HA; have HB2 := Lib.hid (seq (seq Hb0.out HB.out) hbw); clear hbw hsm hR))
    have hall : allR 400 g 1 top = allF 400 g top 1 := by unfold allR; rw [if_neg (by omega)]
    rw [hall] at HA
    have hch := allF_chain 400 g top 1
    have hln := @allF_len 400 g top 1
    have hok := allF_ok 400 g top 1
    generalize allF 400 g top 1 = R at *
    obtain ⟨l, er⟩ := R
    simp only at hch hln hok HA
    have t1 : (top : Int) ≤ 400 := by omega
    clear HL HFar HH HP HWs hall
    by_cases h0 : er = 0
    · subst h0
      have hchain := hch rfl (by omega)
      have hlen : l.length ≤ 400 := by have := hln rfl (by omega); omega
      have Hch := Lib.hid hchain
      clear hch hln hok hchain
      go_wp2_with (first
        | (go_at_call 90; refine HA.out.mono ?_; rintro e w3 ⟨al2, cap2, rfl, h3⟩; have H3 := Lib.hid h3; clear h3))
      go_loopw [8, 39] (fun b i wr => ∃ (k : Nat) (a : Int), b = .int .i64 a ∧ i = .int .i64 k ∧ k ≤ l.length ∧ 1 ≤ a ∧ chain a (l.drop k) top ∧ GR W0 m 400 t g [] 141 4 l.length (fcells l) al2 cap2 wr) (fun _ i _ => l.length - (intOf i).toNat)
      case atStart => exact ⟨0, 1, rfl, rfl, by omega, by omega, Hch.out, H3.out⟩
      case round =>
        clear H3 Hch
        obtain ⟨k, a, rfl, rfl, hk, ha1, hch, hF⟩ := hrel
        have HF := Lib.hid hF
        have hle := chain_le hch
        by_cases hlt : k < l.length
        · have hget : l[k]? = some (l.getD k ⟨0, 0, 0, 0⟩) := by rw [List.getD_eq_getElem?_getD, List.getElem?_eq_getElem hlt]; rfl
          have hdrop : l.drop k = l.getD k ⟨0, 0, 0, 0⟩ :: l.drop (k + 1) := by
            rw [List.drop_eq_getElem_cons hlt, List.getD_eq_getElem?_getD, List.getElem?_eq_getElem hlt]
            rfl
          rw [hdrop] at hch
          obtain ⟨q0, q1, q2, q3⟩ := hch
          have g0 := fcells_get l k 0 hlt (by omega)
          have g1 := fcells_get l k 1 hlt (by omega)
          have g2 := fcells_get l k 2 hlt (by omega)
          have g3 := fcells_get l k 3 hlt (by omega)
          generalize l.getD k ⟨0, 0, 0, 0⟩ = r at *
          obtain ⟨ra, p, f, o⟩ := r
          simp only at q0 q1 q2 q3
          subst q0
          obtain ⟨b1, rfl, c0⟩ := hF.at_ (g0.trans rfl)
          obtain ⟨b2, hb2, c1⟩ := hF.at_ (g1.trans rfl)
          obtain ⟨b3, hb3', c2⟩ := hF.at_ (g2.trans rfl)
          obtain ⟨b4, hb4, c3⟩ := hF.at_ (g3.trans rfl)
          cases hb2
          cases hb3'
          cases hb4
          simp only [Nat.add_zero] at c0
          have hsz : Hd.sizeOf' p f o = (p + f + o + 1 : Nat) := by unfold Hd.sizeOf'; rw [if_pos q1]; omega
          have hS := fun W => Hd.size_any p f o W
          rw [hsz] at hS
          unfold Hd.hv at hS
          obtain ⟨z, hz⟩ : ∃ z, p + f + o + 1 = z := ⟨_, rfl⟩
          rw [hz] at hS q2 q3
          have HS := Lib.hid hS
          have Hq3 := Lib.hid q3
          have k1 : (k : Int) < l.length := by omega
          have k2 : (0 : Int) ≤ k := by omega
          have k3 : ((k : Int)).toNat = k := by omega
          have k4 : (l.length : Int) ≤ 400 := by omega
          have z1 : (z : Int) ≤ 400 := by omega
          have z2 : (0 : Int) ≤ z := by omega
          have z3 : ra ≤ 400 := by omega
          have HB4 := Lib.hid (HF.out.box #[.int .i64 ra, .int .i64 p, .int .i64 f, .int .i64 o] 141)
          have Hz := Lib.hid q2
          clear hget hdrop g0 g1 g2 g3 hS hsz hz q1 q3 hF q2
          go_wp2_with (first
            | (go_at_call 91; refine (HS.out _).mono ?_; rintro e w6 ⟨rfl, hb⟩; have H6 := Lib.hid (HB4.out.grow hb).tail; clear hb))
          go_roundw
          case rel => exact ⟨k + 1, ra + z, rfl, by go_num, by omega, by omega, Hq3.out, H6.out⟩
          case measure => simp [intOf]; omega
        · rw [List.drop_of_length_le (by omega)] at hch
          have hat : a = top := hch
          subst hat
          have k1 : ¬ (k : Int) < l.length := by omega
          clear hch hF
          go_wp2_with (first
            | (go_at_call 88; refine (lives18_yes _).mono ?_; rintro e w7 ⟨rfl, hb⟩; have H7 := Lib.hid (seq (HB2.out.trans (HF.out.below.mono HB2.out.size)) hb); clear hb))
          go_ret
          exact ⟨rfl, H7.out⟩
    · obtain rfl : l = [] := by rcases hok with h | h; exact absurd h h0; exact h
      have b1 : (er != 0) = true := by rw [bne_iff_ne]; exact h0
      clear hch hln hok h0
      go_wp2_with (first
        | (go_at_call 90; refine HA.out.mono ?_; rintro e w3 ⟨al2, cap2, rfl, h3⟩; have H3 := Lib.hid (HB2.out.trans (h3.below.mono HB2.out.size)); clear h3)
        | (go_at_call 88; refine (lives18_yes _).mono ?_; rintro e w7 ⟨rfl, hb⟩; have H7 := Lib.hid (seq H3.out hb); clear hb))
      go_ret
      exact ⟨rfl, H7.out⟩
end Go.Proofs.Ytkcijlndblbidaa
