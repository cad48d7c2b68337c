/- The walks of a memory's find, Load, Store, Mapped and of the counts. -/
import Derived.Test.YtkcijlndblbidaaVOps
import Derived.Deep.RegionHeld3
import Derived.Deep.QuietTactic
import Derived.BigQuiet
import Derived.IntWalk
namespace Go.Proofs.Ytkcijlndblbidaa
open Go.ChangeShapes Go.WideShapes Go.ChangeAt Go.RowKit Go.IntWalk
set_option linter.unusedVariables false

section
variable {S : Nat → Prop} {m b pb words page room : Nat} {s : Fr.PS} {F : Nat → Nat} {w : World}
theorem find_out (h : VRaw S m b pb words page room s F w) (a : Int) (ha : a < 0 ∨ (words : Int) ≤ a) :
    Calls Try.prog 102 #[.pointer (some ⟨m, 0, none⟩), .int .i64 a] w fun e w' => e = .returned (.tuple #[.int .i64 0, .int .i64 0, .int .i64 11]) ∧ w = w' := by
  obtain ⟨c0, c1, c2⟩ := h.cells
  have Hnone := Lib.hid (none_cells m b w c0)
  clear h
  rcases ha with ha | ha
  · go_enter Try.func102, Try.ntmps102
    go_wp2_with (first | (go_at_call 99; refine Hnone.out.mono ?_; rintro e w1 ⟨rfl, rfl⟩))
    go_ret3
    exact ⟨rfl, rfl⟩
  · have h0 : ¬ a < 0 := by omega
    go_enter Try.func102, Try.ntmps102
    go_wp2_with (first | (go_at_call 99; refine Hnone.out.mono ?_; rintro e w1 ⟨rfl, rfl⟩))
    go_ret3
    exact ⟨rfl, rfl⟩
set_option maxRecDepth 100000 in
theorem find_in (h : VRaw S m b pb words page room s F w) (hp0 : 1 ≤ page ∧ page ≤ 256) (hw0 : words ≤ 524288) (p i : Nat) (hi : i < page) (ha : p * page + i < words) :
    Calls Try.prog 102 #[.pointer (some ⟨m, 0, none⟩), .int .i64 ((p * page + i : Nat) : Int)] w fun e w' => e = .returned (.tuple #[.int .i64 (Pg.frameR (words / page) F p).1, .int .i64 i, .int .i64 (Pg.frameR (words / page) F p).2]) ∧ Below w.heap.size w w' := by
  obtain ⟨c0, c1, c2⟩ := h.cells
  have Hnone := Lib.hid (none_cells m b w c0)
  have Hpage := Lib.hid (page_raw h)
  have Hfr := fun W (hW : VRaw S m b pb words page room s F W) => frame_raw hW p
  have HR := Lib.hid h
  obtain ⟨x, y, hx, hy⟩ : ∃ x y, (Pg.frameR (words / page) F p).1 = x ∧ (Pg.frameR (words / page) F p).2 = y := ⟨_, _, rfl, rfl⟩
  rw [hx, hy]
  simp only [hx, hy] at Hfr
  have hd1 := pg_div (p := p) hi
  have hm1 := pg_mod (p := p) hi
  obtain ⟨a, hA⟩ : ∃ a, p * page + i = a := ⟨_, rfl⟩
  rw [hA] at ha hd1 hm1 ⊢
  have hdi : (a : Int) / (page : Int) = p := by rw [← Int.natCast_ediv, hd1]
  have hmi : (a : Int) % (page : Int) = i := by rw [← Int.natCast_emod, hm1]
  have h1 : ¬ (a : Int) < 0 := by omega
  have h2 : ¬ (words : Int) ≤ a := by omega
  have h3 : (0 : Int) ≤ a := by omega
  have h4 : (a : Int) ≤ 524288 := by omega
  have h5 : (0 : Int) < page := by omega
  have h6 : (page : Int) ≤ 256 := by omega
  replace Hfr := Lib.hid Hfr
  obtain ⟨pi, hpi⟩ : ∃ pi : Int, (page : Int) = pi := ⟨_, rfl⟩
  rw [hpi] at Hpage hdi hmi h5 h6
  clear h hx hy hA hm1
  have hz : ¬ pi = 0 := by omega
  have hi6 : i ≤ 256 := by omega
  have Hdi := Lib.hid (show IntKind.i64.wrap ((a : Int) / pi) = p by rw [hdi]; exact IntWalk.i64_in _ (by have := Nat.div_le_self a page; rw [hd1] at this; omega))
  have Hmi := Lib.hid (show (a : Int).tmod pi = i by rw [Int.tmod_eq_emod_of_nonneg h3, hmi])
  have Hmi2 := Lib.hid (show IntKind.i64.wrap (i : Int) = i from IntWalk.i64_in _ (by omega))
  have Hmi3 := Lib.hid hmi
  clear hdi hmi hpi hp0 hd1
  go_enter Try.func102, Try.ntmps102
  go_wp2_with (first | (go_at_call 99; refine Hnone.out.mono ?_; rintro e w1 ⟨rfl, rfl⟩) | (go_at_call 101; refine Hpage.out.mono ?_; rintro e w1 ⟨rfl, rfl⟩))
  have hdi := Hdi.out
  go_region_held3 (fun w' => w'.cell? ⟨m, 1, none⟩ = some (.pointer (some ⟨pb, 0, none⟩))) (first | exact c1 | exact d1 | go_keep) ((go_at_call 104; refine (Hfr.out _ (HR.out.grow (below_drew w))).mono ?_; rintro e w1 ⟨rfl, hb⟩; have Hb := Lib.hid hb; have d1 := ((HR.out.grow (below_drew w)).grow hb).cells.2.1; clear hb))
  clear hdi
  go_wp2
  have hmi := Hmi.out
  have hmi2 := Hmi2.out
  have hmi3 := Hmi3.out
  go_quiet (fail)
  go_wp2
  go_ret3
  exact ⟨rfl, seq (seq (below_drew w) Hb.out) (Fr.below_drewN' _ _)⟩
end
/-- what Load and Store answer, and what Store leaves -/
def loadE (words page : Nat) (v : VS) (a : Int) : Int := if a < 0 ∨ (words : Int) ≤ a then 11 else if v.mp (a.toNat / page) = true then 0 else 12
def loadW (words page : Nat) (v : VS) (a : Int) : Nat := if loadE words page v a = 0 then v.wd a.toNat else 0
def storeV (words page : Nat) (v : VS) (a : Int) (x : Nat) : VS := if loadE words page v a = 0 then putV v a.toNat x else v
theorem word_ok {page : Nat} {s : Fr.PS} {f : Int} {i : Nat} (h : Fr.has s f = true) (hi : i < page) : Fr.wordE page s f i = 0 := by
  unfold Fr.wordE
  rw [if_neg (Classical.not_not.2 h), if_neg (by omega)]
set_option maxRecDepth 100000 in
theorem load_vm (S : Nat → Prop) (m words page room t : Nat) (v : VS) (w : World) (h : Vm S m words page room t v w) (a : Int) :
    Calls Try.prog 24 #[.pointer (some ⟨m, 0, none⟩), .int .i64 a] w fun e w' => e = .returned (.tuple #[.int .u64 (loadW words page v a), .int .i64 (loadE words page v a)]) ∧ Below w.heap.size w w' := by
  obtain ⟨b, pb, s, F, hR, hk, hts, hV, hdim, hmod, hpow⟩ := h
  obtain ⟨c0, c1, -⟩ := hR.cells
  unfold loadW loadE
  by_cases ha : a < 0 ∨ (words : Int) ≤ a
  · have Hf := Lib.hid (find_out hR a ha)
    rw [if_pos ha, if_neg (by decide)]
    clear hR hk hV hdim hmod hpow ha
    go_enter Try.func24, Try.ntmps24
    go_wp2_with (first | (go_at_call 102; refine Hf.out.mono ?_; rintro e w1 ⟨rfl, rfl⟩))
    go_ret2
    exact ⟨rfl, Below.refl _ _⟩
  · rw [if_neg ha]
    obtain ⟨a, rfl⟩ : ∃ q : Nat, a = q := ⟨a.toNat, by omega⟩
    rw [Int.toNat_natCast]
    have hp1 := hk.page1
    have hi := Nat.mod_lt a (show 0 < page by omega)
    have hap : a / page * page + a % page = a := by rw [Nat.mul_comm]; exact Nat.div_add_mod a page
    have hlt : a / page < words / page := Nat.div_lt_of_lt_mul (by rw [Nat.mul_div_cancel' (Nat.dvd_of_mod_eq_zero hmod)]; omega)
    have Hf := find_in hR hp1 hdim.2 (a / page) (a % page) hi (by rw [hap]; omega)
    rw [hap] at Hf
    unfold Pg.frameR at Hf
    rw [if_neg (Classical.not_not.2 ⟨Int.natCast_nonneg _, Int.ofNat_lt.2 hlt⟩), Int.toNat_natCast] at Hf
    by_cases h2 : v.mp (a / page) = true
    · have h3 := (hV.mp _ hlt).1 h2
      rw [if_pos h2, if_pos rfl]
      rw [if_neg h3, show (F (a / page) : Int) - 1 = ((F (a / page) - 1 : Nat) : Int) by omega] at Hf
      have Hld := fun W (hW : VRaw S m b pb words page room s F W) => load_raw hW hk ((F (a / page) - 1 : Nat) : Int) ((a % page : Nat) : Int)
      have hwe := word_ok (hV.has _ hlt h3) hi
      have hwd := hV.wd _ _ hlt h3 hi
      rw [hap] at hwd
      unfold Fr.loadR at Hld
      simp only [hwe, if_true, Int.toNat_natCast, hwd] at Hld
      have HR := Lib.hid hR
      generalize F (a / page) - 1 = f0 at *
      generalize a % page = i0 at *
      generalize v.wd a = x at *
      replace Hf := Lib.hid Hf
      replace Hld := Lib.hid Hld
      clear hR hk hV hdim hmod hpow ha h2 h3 hp1 hi hap hlt hwe hwd
      go_enter Try.func24, Try.ntmps24
      go_wp2_with (first | (go_at_call 102; refine Hf.out.mono ?_; rintro e w1 ⟨rfl, hb⟩; have Hb := Lib.hid hb; obtain ⟨d0, d1, -⟩ := (HR.out.grow hb).cells; clear hb) | (go_at_call 111; refine (Hld.out _ (HR.out.grow Hb.out)).mono ?_; rintro e w1 ⟨rfl, rfl⟩))
      go_ret2
      exact ⟨rfl, Hb.out⟩
    · have h3 : F (a / page) = 0 := Classical.not_not.1 fun k => h2 ((hV.mp _ hlt).2 k)
      rw [if_neg h2, if_neg (by decide)]
      rw [if_pos h3] at Hf
      generalize a % page = i0 at *
      replace Hf := Lib.hid Hf
      clear hR hk hV hdim hmod hpow ha h2 h3 hp1 hi hap hlt
      go_enter Try.func24, Try.ntmps24
      go_wp2_with (first | (go_at_call 102; refine Hf.out.mono ?_; rintro e w1 ⟨rfl, hb⟩; have Hb := Lib.hid hb; clear hb))
      go_ret2
      exact ⟨rfl, Hb.out⟩
set_option maxRecDepth 100000 in
theorem store_vm (S : Nat → Prop) (m words page room t : Nat) (v : VS) (w : World) (h : Vm S m words page room t v w) (a : Int) (x : Nat) (hx : x < 18446744073709551616) :
    Calls Try.prog 19 #[.pointer (some ⟨m, 0, none⟩), .int .i64 a, .int .u64 x] w fun e w' => e = .returned (.int .i64 (loadE words page v a)) ∧ VDid S m words page room t (storeV words page v a x) w w' := by
  have HV := Lib.hid h
  obtain ⟨b, pb, s, F, hR, hk, hts, hV, hdim, hmod, hpow⟩ := h
  obtain ⟨c0, c1, -⟩ := hR.cells
  unfold storeV loadE
  by_cases ha : a < 0 ∨ (words : Int) ≤ a
  · have Hf := Lib.hid (find_out hR a ha)
    rw [if_pos ha, if_neg (by decide)]
    clear hR hk hV hdim hmod hpow ha
    go_enter Try.func19, Try.ntmps19
    go_wp2_with (first | (go_at_call 102; refine Hf.out.mono ?_; rintro e w1 ⟨rfl, rfl⟩))
    go_ret
    exact ⟨rfl, VDid.of HV.out (Below.refl _ _)⟩
  · rw [if_neg ha]
    obtain ⟨a, rfl⟩ : ∃ q : Nat, a = q := ⟨a.toNat, by omega⟩
    rw [Int.toNat_natCast]
    have hp1 := hk.page1
    have hi := Nat.mod_lt a (show 0 < page by omega)
    have hap : a / page * page + a % page = a := by rw [Nat.mul_comm]; exact Nat.div_add_mod a page
    have hlt : a / page < words / page := Nat.div_lt_of_lt_mul (by rw [Nat.mul_div_cancel' (Nat.dvd_of_mod_eq_zero hmod)]; omega)
    have Hf := find_in hR hp1 hdim.2 (a / page) (a % page) hi (by rw [hap]; omega)
    rw [hap] at Hf
    unfold Pg.frameR at Hf
    rw [if_neg (Classical.not_not.2 ⟨Int.natCast_nonneg _, Int.ofNat_lt.2 hlt⟩), Int.toNat_natCast] at Hf
    by_cases h2 : v.mp (a / page) = true
    · have h3 := (hV.mp _ hlt).1 h2
      rw [if_pos h2, if_pos rfl]
      rw [if_neg h3, show (F (a / page) : Int) - 1 = ((F (a / page) - 1 : Nat) : Int) by omega] at Hf
      have Hst := fun W (hW : VRaw S m b pb words page room s F W) => store_raw hW hk ((F (a / page) - 1 : Nat) : Int) ((a % page : Nat) : Int) x
      have hwe := word_ok (hV.has _ hlt h3) hi
      have hput := hV.put hlt h3 hi x
      rw [hap] at hput
      unfold Fr.storeS at Hst
      simp only [hwe, if_true, Int.toNat_natCast] at Hst
      have Hok := Lib.hid (show (Fr.putW s (F (a / page) - 1) (a % page) x).ok room page ∧ (Fr.putW s (F (a / page) - 1) (a % page) x).times ≤ t ∧ Vr page (words / page) (Fr.putW s (F (a / page) - 1) (a % page) x) F (putV v a x) ∧ VDim words page from ⟨Fr.putW_ok hk _ _ x hx, hts, hput, hdim, hmod, hpow⟩)
      have HR := Lib.hid hR
      generalize F (a / page) - 1 = f0 at *
      generalize a % page = i0 at *
      replace Hf := Lib.hid Hf
      replace Hst := Lib.hid Hst
      clear hR hk hV hdim hmod hpow ha h2 h3 hp1 hi hap hlt hwe hput
      go_enter Try.func19, Try.ntmps19
      go_wp2_with (first | (go_at_call 102; refine Hf.out.mono ?_; rintro e w1 ⟨rfl, hb⟩; have Hb := Lib.hid hb; obtain ⟨d0, d1, -⟩ := (HR.out.grow hb).cells; clear hb) | (go_at_call 103; refine (Hst.out _ (HR.out.grow Hb.out)).mono ?_; rintro e w2 ⟨rfl, hd⟩; have Hd := Lib.hid hd; clear hd))
      go_ret
      obtain ⟨S', k1, k2, k3⟩ := Hd.out
      exact ⟨rfl, S', ⟨b, pb, _, _, k1, Hok.out⟩, (Chg.of Hb.out).trans k2 (fun _ _ h => h), (Grew.refl S w).trans k3 Hb.out.size⟩
    · have h3 : F (a / page) = 0 := Classical.not_not.1 fun k => h2 ((hV.mp _ hlt).2 k)
      rw [if_neg h2, if_neg (by decide)]
      rw [if_pos h3] at Hf
      generalize a % page = i0 at *
      replace Hf := Lib.hid Hf
      clear hR hk hV hdim hmod hpow ha h2 h3 hp1 hi hap hlt
      go_enter Try.func19, Try.ntmps19
      go_wp2_with (first | (go_at_call 102; refine Hf.out.mono ?_; rintro e w1 ⟨rfl, hb⟩; have Hb := Lib.hid hb; clear hb))
      go_ret
      exact ⟨rfl, VDid.of HV.out Hb.out⟩
/-- is a page mapped? -/
def isM (np : Nat) (v : VS) (p : Int) : Bool := decide (0 ≤ p ∧ p < np) && v.mp p.toNat
set_option maxRecDepth 100000 in
theorem mapped_vm (S : Nat → Prop) (m words page room t : Nat) (v : VS) (w : World) (h : Vm S m words page room t v w) (p : Int) :
    Calls Try.prog 25 #[.pointer (some ⟨m, 0, none⟩), .int .i64 p] w fun e w' => e = .returned (.bool (isM (words / page) v p)) ∧ Below w.heap.size w w' := by
  obtain ⟨b, pb, s, F, hR, hk, hts, hV, hdim⟩ := h
  obtain ⟨c0, c1, -⟩ := hR.cells
  have Hfr := frame_raw hR p
  have Hnone := Lib.hid (none_cells m b w c0)
  have key : isM (words / page) v p = decide ((Pg.frameR (words / page) F p).2 = 0) := by
    unfold isM Pg.frameR
    by_cases h1 : 0 ≤ p ∧ p < (words / page : Nat)
    · rw [if_neg (Classical.not_not.2 h1), decide_eq_true h1, Bool.true_and]
      have hm := hV.mp p.toNat (by omega)
      by_cases h2 : F p.toNat = 0
      · rw [if_pos h2, decide_eq_false (by decide)]
        cases hmp : v.mp p.toNat with
        | false => rfl
        | true => exact absurd h2 (hm.1 hmp)
      · rw [if_neg h2, decide_eq_true rfl]
        exact hm.2 h2
    · rw [if_pos h1, decide_eq_false h1, decide_eq_false (by decide)]
      rfl
  rw [key]
  generalize (Pg.frameR (words / page) F p).1 = x at *
  generalize (Pg.frameR (words / page) F p).2 = y at *
  replace Hfr := Lib.hid Hfr
  clear hR hk hV hdim key
  by_cases hy : y = 0
  · subst hy
    go_enter Try.func25, Try.ntmps25
    go_wp2_with (first | (go_at_call 99; refine Hnone.out.mono ?_; rintro e w1 ⟨rfl, rfl⟩) | (go_at_call 104; refine Hfr.out.mono ?_; rintro e w1 ⟨rfl, hb⟩))
    go_ret
    exact ⟨rfl, hb⟩
  · rw [decide_eq_false hy]
    have hyb : (y == 0) = false := by simpa using hy
    go_enter Try.func25, Try.ntmps25
    go_wp2_with (first | (go_at_call 99; refine Hnone.out.mono ?_; rintro e w1 ⟨rfl, rfl⟩) | (go_at_call 104; refine Hfr.out.mono ?_; rintro e w1 ⟨rfl, hb⟩))
    go_ret
    exact ⟨rfl, hb⟩
section
variable (S : Nat → Prop) (m words page room t : Nat) (v : VS) (w : World) (h : Vm S m words page room t v w)
include h
theorem page_vm : Calls Try.prog 26 #[.pointer (some ⟨m, 0, none⟩)] w fun e w' => e = .returned (.int .i64 page) ∧ w = w' := by
  obtain ⟨b, pb, s, F, hR, hk, hts, hV, hdim⟩ := h
  obtain ⟨c0, c1, -⟩ := hR.cells
  have Hx := Lib.hid (page_raw hR)
  have Hnone := Lib.hid (none_cells m b w c0)
  clear hR hk hV hdim
  go_enter Try.func26, Try.ntmps26
  go_wp2_with (first | (go_at_call 99; refine Hnone.out.mono ?_; rintro e w1 ⟨rfl, rfl⟩) | (go_at_call 101; refine Hx.out.mono ?_; rintro e w1 ⟨rfl, rfl⟩))
  go_ret
  exact ⟨rfl, rfl⟩
theorem words_vm : Calls Try.prog 27 #[.pointer (some ⟨m, 0, none⟩)] w fun e w' => e = .returned (.int .i64 words) ∧ w = w' := by
  obtain ⟨b, pb, s, F, hR, hk, hts, hV, hdim⟩ := h
  obtain ⟨c0, c1, c2⟩ := hR.cells
  have Hnone := Lib.hid (none_cells m b w c0)
  clear hR hk hV hdim
  go_enter Try.func27, Try.ntmps27
  go_wp2_with (first | (go_at_call 99; refine Hnone.out.mono ?_; rintro e w1 ⟨rfl, rfl⟩))
  go_ret
  exact ⟨rfl, rfl⟩
theorem used_vm : Calls Try.prog 28 #[.pointer (some ⟨m, 0, none⟩)] w fun e w' => e = .returned (.int .i64 v.used) ∧ w = w' := by
  obtain ⟨b, pb, s, F, hR, hk, hts, hV, hdim⟩ := h
  obtain ⟨c0, c1, -⟩ := hR.cells
  have hx := used_raw hR
  rw [hV.used] at hx
  have Hx := Lib.hid hx
  have Hnone := Lib.hid (none_cells m b w c0)
  clear hR hk hV hdim hx
  go_enter Try.func28, Try.ntmps28
  go_wp2_with (first | (go_at_call 99; refine Hnone.out.mono ?_; rintro e w1 ⟨rfl, rfl⟩) | (go_at_call 112; refine Hx.out.mono ?_; rintro e w1 ⟨rfl, rfl⟩))
  go_ret
  exact ⟨rfl, rfl⟩
end
end Go.Proofs.Ytkcijlndblbidaa
