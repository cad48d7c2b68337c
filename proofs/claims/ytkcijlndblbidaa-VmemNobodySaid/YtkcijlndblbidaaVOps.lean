/- The walks of a memory's small methods: none, Map, Unmap, Move. -/
import Derived.Test.YtkcijlndblbidaaVMem
namespace Go.Proofs.Ytkcijlndblbidaa
open Go.ChangeShapes Go.WideShapes Go.ChangeAt Go.RowKit
set_option linter.unusedVariables false

theorem none_cells (m b : Nat) (w : World) (c0 : w.cell? ⟨m, 0, none⟩ = some (.pointer (some ⟨b, 0, none⟩))) :
    Calls Try.prog 99 #[.pointer (some ⟨m, 0, none⟩)] w fun e w' => e = .returned (.bool false) ∧ w = w' := by
  go_enter Try.func99, Try.ntmps99
  go_wp2
  go_ret
  exact ⟨rfl, rfl⟩
/-- what Map answers and leaves -/
def mapE (np room : Nat) (v : VS) (p : Int) : Int := if ¬ (0 ≤ p ∧ p < np) then 11 else if v.mp p.toNat = true then 13 else if v.used = room then 14 else 0
def mapS (np page room : Nat) (v : VS) (p : Int) : VS := if mapE np room v p = 0 then mapV page v p.toNat else v
set_option maxRecDepth 100000 in
set_option maxHeartbeats 1000000 in
theorem map_vm (S : Nat → Prop) (m words page room t : Nat) (v : VS) (w : World) (h : Vm S m words page room t v w) (ht : t < 1000000000) (p : Int) :
    Calls Try.prog 20 #[.pointer (some ⟨m, 0, none⟩), .int .i64 p] w fun e w' => e = .returned (.int .i64 (mapE (words / page) room v p)) ∧ VDid S m words page room (t + 1) (mapS (words / page) page room v p) w w' := by
  have HV := Lib.hid h
  obtain ⟨b, pb, s, F, hR, hk, hts, hV, hdim⟩ := h
  obtain ⟨c0, c1, -⟩ := hR.cells
  have Hfr := frame_raw hR p
  have Hnone := Lib.hid (none_cells m b w c0)
  have HR := Lib.hid hR
  unfold mapS mapE
  by_cases h1 : 0 ≤ p ∧ p < (words / page : Nat)
  · rw [if_neg (Classical.not_not.2 h1)]
    obtain ⟨p, rfl⟩ : ∃ q : Nat, p = q := ⟨p.toNat, by omega⟩
    rw [Int.toNat_natCast]
    have hp : p < words / page := by omega
    unfold Pg.frameR at Hfr
    rw [if_neg (Classical.not_not.2 h1), Int.toNat_natCast] at Hfr
    by_cases h2 : v.mp p = true
    · have h3 := (hV.mp p hp).1 h2
      rw [if_neg h3] at Hfr
      rw [if_pos h2]
      obtain ⟨x, hx⟩ : ∃ x : Int, (F p : Int) - 1 = x := ⟨_, rfl⟩
      rw [hx] at Hfr
      replace Hfr := Lib.hid Hfr
      clear hR hk hV hdim h1 h2 h3 hx
      go_enter Try.func20, Try.ntmps20
      go_wp2_with (first | (go_at_call 99; refine Hnone.out.mono ?_; rintro e w1 ⟨rfl, rfl⟩) | (go_at_call 104; refine Hfr.out.mono ?_; rintro e w1 ⟨rfl, hb⟩))
      go_ret
      exact ⟨rfl, VDid.more (VDid.of HV.out hb) (by omega)⟩
    · have h3 : F p = 0 := Classical.not_not.1 fun k => h2 ((hV.mp p hp).2 k)
      rw [if_pos h3] at Hfr
      rw [if_neg h2]
      have Htk := Lib.hid fun W (hW : VRaw S m b pb words page room s F W) => take_raw hW hk (by omega)
      by_cases h4 : v.used = room
      · rw [if_pos h4]
        have h5 : s.used = room := hV.used.trans h4
        unfold Fr.takeE Fr.takeT at Htk
        rw [if_pos h5, if_pos h5] at Htk
        have Hok := Lib.hid (show s.ok room page ∧ s.times ≤ t + 1 ∧ Vr page (words / page) s F v ∧ VDim words page from ⟨hk, by omega, hV, hdim⟩)
        replace Hfr := Lib.hid Hfr
        clear hR hk hV hdim h1 h2 h3 h4 h5
        go_enter Try.func20, Try.ntmps20
        go_wp2_with (first | (go_at_call 99; refine Hnone.out.mono ?_; rintro e w1 ⟨rfl, rfl⟩) | (go_at_call 104; refine Hfr.out.mono ?_; rintro e w1 ⟨rfl, hb⟩; have Hb := Lib.hid hb; obtain ⟨d0, d1, -⟩ := (HR.out.grow hb).cells; clear hb) | (go_at_call 105; refine (Htk.out _ (HR.out.grow Hb.out)).mono ?_; rintro e w2 ⟨rfl, hd⟩; have Hd := Lib.hid hd; clear hd))
        go_ret
        obtain ⟨S', k1, k2, k3⟩ := Hd.out
        exact ⟨rfl, S', ⟨b, pb, s, F, k1, Hok.out⟩, (Chg.of Hb.out).trans k2 (fun _ _ h => h), (Grew.refl S w).trans k3 Hb.out.size⟩
      · rw [if_neg h4]
        have h5 : ¬ s.used = room := fun k => h4 (hV.used.symm.trans k)
        have hu : s.used < room := by have := Fr.used_le hk; omega
        have hnl := Fr.nextF_lt hk hu
        have hrm := hk.room1
        have Hput := Lib.hid fun S' W (hW : VRaw S' m b pb words page room (Fr.takeS s) F W) => put_raw hW p (Fr.nextF s : Int)
        unfold Fr.takeE Fr.takeT at Htk
        rw [if_neg h5, if_neg h5] at Htk
        unfold Pg.putR at Hput
        simp only [if_neg (Classical.not_not.2 h1), Int.toNat_natCast, if_neg (show ¬ ((Fr.nextF s : Int) < 0 ∨ 2147483648 ≤ (Fr.nextF s : Int)) by omega), if_neg (Classical.not_not.2 h3)] at Hput
        have Hok := Lib.hid (show (Fr.takeS s).ok room page ∧ (Fr.takeS s).times ≤ t + 1 ∧ Vr page (words / page) (Fr.takeS s) (Pg.turn F p (Fr.nextF s + 1)) (mapV page v p) ∧ VDim words page from ⟨Fr.take_ok hk hu, by show s.times + 1 ≤ t + 1; omega, hV.map hk hu hp h3, hdim⟩)
        obtain ⟨f0, hf0⟩ : ∃ f0, Fr.nextF s = f0 := ⟨_, rfl⟩
        simp only [hf0] at Htk Hput Hok
        replace Hfr := Lib.hid Hfr
        clear hR hk hV hdim h1 h2 h3 h4 h5 hu hnl hf0
        go_enter Try.func20, Try.ntmps20
        go_wp2_with (first | (go_at_call 99; refine Hnone.out.mono ?_; rintro e w1 ⟨rfl, rfl⟩) | (go_at_call 104; refine Hfr.out.mono ?_; rintro e w1 ⟨rfl, hb⟩; have Hb := Lib.hid hb; obtain ⟨d0, d1, -⟩ := (HR.out.grow hb).cells; clear hb) | (go_at_call 105; refine (Htk.out _ (HR.out.grow Hb.out)).mono ?_; rintro e w2 ⟨rfl, S2, r2, c2, g2⟩; have HR2 := Lib.hid r2; have HC2 := Lib.hid c2; have HG2 := Lib.hid g2; obtain ⟨e0, e1, -⟩ := r2.cells; clear r2 c2 g2) | (go_at_call 106; refine (Hput.out _ _ HR2.out).mono ?_; rintro e w3 ⟨rfl, hd⟩; have Hd := Lib.hid hd; clear hd))
        go_ret
        obtain ⟨S', k1, k2, k3⟩ := RawDid.then HC2.out HG2.out Hd.out
        refine ⟨rfl, S', ⟨b, pb, _, _, k1, ?_⟩, (Chg.of Hb.out).trans k2 (fun _ _ h => h), (Grew.refl S w).trans k3 Hb.out.size⟩
        exact Hok.out
  · rw [if_pos h1]
    unfold Pg.frameR at Hfr
    rw [if_pos h1] at Hfr
    replace Hfr := Lib.hid Hfr
    clear hR hk hV hdim h1
    go_enter Try.func20, Try.ntmps20
    go_wp2_with (first | (go_at_call 99; refine Hnone.out.mono ?_; rintro e w1 ⟨rfl, rfl⟩) | (go_at_call 104; refine Hfr.out.mono ?_; rintro e w1 ⟨rfl, hb⟩))
    go_ret
    exact ⟨rfl, VDid.more (VDid.of HV.out hb) (by omega)⟩
/-- what Unmap answers and leaves -/
def unmapE (np : Nat) (v : VS) (p : Int) : Int := if ¬ (0 ≤ p ∧ p < np) then 11 else if v.mp p.toNat = true then 0 else 12
def unmapS (np : Nat) (v : VS) (p : Int) : VS := if unmapE np v p = 0 then unmapV v p.toNat else v
set_option maxRecDepth 100000 in
set_option maxHeartbeats 1000000 in
theorem unmap_vm (S : Nat → Prop) (m words page room t : Nat) (v : VS) (w : World) (h : Vm S m words page room t v w) (p : Int) :
    Calls Try.prog 21 #[.pointer (some ⟨m, 0, none⟩), .int .i64 p] w fun e w' => e = .returned (.int .i64 (unmapE (words / page) v p)) ∧ VDid S m words page room t (unmapS (words / page) v p) w w' := by
  obtain ⟨b, pb, s, F, hR, hk, hts, hV, hdim⟩ := h
  obtain ⟨c0, c1, -⟩ := hR.cells
  have Hdr := drop_raw hR p
  have Hnone := Lib.hid (none_cells m b w c0)
  unfold unmapS unmapE
  by_cases h1 : 0 ≤ p ∧ p < (words / page : Nat)
  · rw [if_neg (Classical.not_not.2 h1)]
    obtain ⟨p, rfl⟩ : ∃ q : Nat, p = q := ⟨p.toNat, by omega⟩
    rw [Int.toNat_natCast]
    have hp : p < words / page := by omega
    unfold Pg.dropF Pg.frameR at Hdr
    rw [if_neg (Classical.not_not.2 h1), Int.toNat_natCast] at Hdr
    by_cases h2 : v.mp p = true
    · have h3 := (hV.mp p hp).1 h2
      rw [if_neg h3, if_pos rfl] at Hdr
      rw [if_pos h2, if_pos rfl]
      have Hgv := Lib.hid fun S' W (hW : VRaw S' m b pb words page room s (Pg.turn F p 0) W) => give_raw hW hk ((F p - 1 : Nat) : Int)
      have hh := hV.has p hp h3
      have hgok := Fr.give_ok hk _ hh
      unfold Fr.giveE Fr.giveS at Hgv
      simp only [hh, if_true, Int.toNat_natCast] at Hgv hgok
      have Hok := Lib.hid (show (Fr.giveT s (F p - 1)).ok room page ∧ (Fr.giveT s (F p - 1)).times ≤ t ∧ Vr page (words / page) (Fr.giveT s (F p - 1)) (Pg.turn F p 0) (unmapV v p) ∧ VDim words page from ⟨hgok.1, hts, hV.unmap hp h3, hdim⟩)
      rw [show (F p : Int) - 1 = ((F p - 1 : Nat) : Int) by omega] at Hdr
      obtain ⟨f0, hf0⟩ : ∃ f0, F p - 1 = f0 := ⟨_, rfl⟩
      simp only [hf0] at Hdr Hgv Hok
      replace Hdr := Lib.hid Hdr
      clear hR hk hV hdim h1 h2 h3 hh hgok hf0
      go_enter Try.func21, Try.ntmps21
      go_wp2_with (first | (go_at_call 99; refine Hnone.out.mono ?_; rintro e w1 ⟨rfl, rfl⟩) | (go_at_call 107; refine Hdr.out.mono ?_; rintro e w2 ⟨rfl, S2, r2, c2, g2⟩; have HR2 := Lib.hid r2; have HC2 := Lib.hid c2; have HG2 := Lib.hid g2; obtain ⟨e0, e1, -⟩ := r2.cells; clear r2 c2 g2) | (go_at_call 108; refine (Hgv.out _ _ HR2.out).mono ?_; rintro e w3 ⟨rfl, hd⟩; have Hd := Lib.hid hd; clear hd))
      go_ret
      obtain ⟨S', k1, k2, k3⟩ := RawDid.then HC2.out HG2.out Hd.out
      exact ⟨rfl, S', ⟨b, pb, _, _, k1, Hok.out⟩, k2, k3⟩
    · have h3 : F p = 0 := Classical.not_not.1 fun k => h2 ((hV.mp p hp).2 k)
      rw [if_pos h3, if_neg (by decide)] at Hdr
      rw [if_neg h2, if_neg (by decide)]
      have Hok := Lib.hid (show s.ok room page ∧ s.times ≤ t ∧ Vr page (words / page) s F v ∧ VDim words page from ⟨hk, hts, hV, hdim⟩)
      replace Hdr := Lib.hid Hdr
      clear hR hk hV hdim h1 h2 h3
      go_enter Try.func21, Try.ntmps21
      go_wp2_with (first | (go_at_call 99; refine Hnone.out.mono ?_; rintro e w1 ⟨rfl, rfl⟩) | (go_at_call 107; refine Hdr.out.mono ?_; rintro e w2 ⟨rfl, hd⟩; have Hd := Lib.hid hd; clear hd))
      go_ret
      obtain ⟨S', k1, k2, k3⟩ := Hd.out
      exact ⟨rfl, S', ⟨b, pb, _, _, k1, Hok.out⟩, k2, k3⟩
  · rw [if_pos h1, if_neg (by decide)]
    unfold Pg.dropF Pg.frameR at Hdr
    rw [if_pos h1, if_neg (by decide)] at Hdr
    have Hok := Lib.hid (show s.ok room page ∧ s.times ≤ t ∧ Vr page (words / page) s F v ∧ VDim words page from ⟨hk, hts, hV, hdim⟩)
    replace Hdr := Lib.hid Hdr
    clear hR hk hV hdim h1
    go_enter Try.func21, Try.ntmps21
    go_wp2_with (first | (go_at_call 99; refine Hnone.out.mono ?_; rintro e w1 ⟨rfl, rfl⟩) | (go_at_call 107; refine Hdr.out.mono ?_; rintro e w2 ⟨rfl, hd⟩; have Hd := Lib.hid hd; clear hd))
    go_ret
    obtain ⟨S', k1, k2, k3⟩ := Hd.out
    exact ⟨rfl, S', ⟨b, pb, _, _, k1, Hok.out⟩, k2, k3⟩
/-- what Move answers and leaves -/
def moveE (np : Nat) (v : VS) (p q : Int) : Int := if ¬ ((0 ≤ p ∧ p < np) ∧ 0 ≤ q ∧ q < np) then 11 else if ¬ v.mp p.toNat = true then 12 else if v.mp q.toNat = true then 13 else 0
def moveS (np page : Nat) (v : VS) (p q : Int) : VS := if moveE np v p q = 0 then moveV page v p.toNat q.toNat else v
theorem moveR_vm {page np : Nat} {s : Fr.PS} {F : Nat → Nat} {v : VS} (hV : Vr page np s F v) (p q : Int) : (Pg.moveR np F p q).1 = moveE np v p q ∧ Vr page np s (Pg.moveR np F p q).2 (moveS np page v p q) := by
  unfold moveS moveE Pg.moveR
  by_cases h1 : (0 ≤ p ∧ p < np) ∧ 0 ≤ q ∧ q < np
  · rw [if_neg (Classical.not_not.2 h1), if_neg (Classical.not_not.2 h1)]
    have hp : p.toNat < np := by omega
    have hq : q.toNat < np := by omega
    by_cases h2 : v.mp p.toNat = true
    · have h3 := (hV.mp _ hp).1 h2
      rw [if_neg h3, if_neg (Classical.not_not.2 h2)]
      by_cases h4 : v.mp q.toNat = true
      · have h5 := (hV.mp _ hq).1 h4
        rw [if_pos h5, if_pos h4]
        exact ⟨rfl, hV⟩
      · have h5 : F q.toNat = 0 := Classical.not_not.1 fun k => h4 ((hV.mp _ hq).2 k)
        rw [if_neg (Classical.not_not.2 h5), if_neg h4]
        exact ⟨rfl, hV.move hp hq h3 h5⟩
    · have h3 : F p.toNat = 0 := Classical.not_not.1 fun k => h2 ((hV.mp _ hp).2 k)
      rw [if_pos h3, if_pos h2]
      exact ⟨rfl, hV⟩
  · rw [if_pos h1, if_pos h1]
    exact ⟨rfl, hV⟩
set_option maxRecDepth 100000 in
theorem move_vm (S : Nat → Prop) (m words page room t : Nat) (v : VS) (w : World) (h : Vm S m words page room t v w) (p q : Int) :
    Calls Try.prog 22 #[.pointer (some ⟨m, 0, none⟩), .int .i64 p, .int .i64 q] w fun e w' => e = .returned (.int .i64 (moveE (words / page) v p q)) ∧ VDid S m words page room t (moveS (words / page) page v p q) w w' := by
  obtain ⟨b, pb, s, F, hR, hk, hts, hV, hdim⟩ := h
  obtain ⟨c0, c1, -⟩ := hR.cells
  have Hmv := pmove_raw hR p q
  have Hnone := Lib.hid (none_cells m b w c0)
  obtain ⟨e1, hV2⟩ := moveR_vm hV p q
  rw [e1] at Hmv
  generalize moveE (words / page) v p q = r at *
  have Hok := Lib.hid (show s.ok room page ∧ s.times ≤ t ∧ Vr page (words / page) s (Pg.moveR (words / page) F p q).2 (moveS (words / page) page v p q) ∧ VDim words page from ⟨hk, hts, hV2, hdim⟩)
  replace Hmv := Lib.hid Hmv
  clear hR hk hV hdim e1 hV2
  go_enter Try.func22, Try.ntmps22
  go_wp2_with (first | (go_at_call 99; refine Hnone.out.mono ?_; rintro e w1 ⟨rfl, rfl⟩) | (go_at_call 109; refine Hmv.out.mono ?_; rintro e w2 ⟨rfl, hd⟩; have Hd := Lib.hid hd; clear hd))
  go_ret
  obtain ⟨S', k1, k2, k3⟩ := Hd.out
  exact ⟨rfl, S', ⟨b, pb, _, _, k1, Hok.out⟩, k2, k3⟩
end Go.Proofs.Ytkcijlndblbidaa
