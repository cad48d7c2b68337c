/- The reference of layer 18 over the same memory: Whole. -/
import Derived.Test.YtkcijlndblbidaaWRef3
namespace Go.Proofs.Ytkcijlndblbidaa
open Go.ChangeShapes Go.WideShapes Go.ChangeAt Go.RowKit
set_option linter.unusedVariables false

theorem stS_at (l : List Fnd) (p : Int) (h : p ≠ 0) : stS l p = atS l p := by
  unfold stS atS
  rw [decide_eq_false h, Bool.false_or]
theorem stS_zero (l : List Fnd) : stS l 0 = true := by
  unfold stS
  rfl
theorem qs_all {ps : List Nat} {rs : List Int} {f : Int → Bool} : (qsOf ps rs).all f = ((ps.map fun (v : Nat) => (v : Int)).all f && rs.all f) := List.all_append
section
variable {W0 w w' : World} {m n t : Nat} {g : Nat → Nat} {K : List (Nat × Obj)} {bl c : Nat} {cur : Array Value}
set_option maxRecDepth 100000 in
set_option maxHeartbeats 4000000 in
theorem rwhole_fk (h : FK W0 m n t g K w) (hg : Small n g) (hU : UCells n g cur) (hbl : (bl, .cells cur 23 (0, 0)) ∈ K) (base top : Int) (h3 : top ≤ 9223372036854775807) (ar : Option Addr) (rs : List Int) (cr : Nat) (hrs : IntRow .i64 W0 ar rs) (hrl : rs.length ≤ 100) :
    Calls Try.prog 96 #[.slice (some ⟨bl, 0, none⟩) n c, .int .i64 base, .int .i64 top, .slice ar rs.length cr] w fun e w' => e = .returned (.int .i64 (whE n g base top rs)) ∧ FK W0 m n t g K w' := by
  have hn := h.dims
  have HP := Lib.hid (rpointers_fk (c := c) h hg hU hbl base top h3)
  have HA := Lib.hid (fun K W (hF : FK W0 m n t g K W) (hb : (bl, .cells cur 23 (0, 0)) ∈ K) => rall_fk (c := c) hF hg hU hb base top h3)
  obtain ⟨E, hE⟩ : ∃ E, whE n g base top rs = E := ⟨_, rfl⟩
  rw [hE]
  rw [whE_PR] at hE
  obtain ⟨q1, q2⟩ := PR_facts n g base top hn.2
  obtain ⟨f1, f2, f3⟩ := allR_facts n g base top
  generalize allR n g base top = A at *
  generalize PR n g base top = P at *
  obtain ⟨l, er⟩ := A
  obtain ⟨ps, pe⟩ := P
  simp only at *
  have HRs := Lib.hid hrs
  have Hbl := Lib.hid hbl
  by_cases h0 : pe = 0
  · subst h0
    rw [if_pos rfl, qs_all] at hE
    obtain ⟨pz, hpz⟩ : ∃ pz : List Int, (ps.map fun (v : Nat) => (v : Int)) = pz := ⟨_, rfl⟩
    have hpl : ps.length = pz.length := by rw [← hpz, List.length_map]
    have hps : ∀ k, k < pz.length → pz.getD k 0 ≠ 0 := by
      intro k hk
      have hm : pz.getD k 0 ∈ pz := by rw [List.getD_eq_getElem?_getD, List.getElem?_eq_getElem hk]; exact List.getElem_mem hk
      generalize pz.getD k 0 = z at *
      rw [← hpz, List.mem_map] at hm
      obtain ⟨v, hv, rfl⟩ := hm
      have := q1 v hv
      omega
    rw [icl_icI, hpz, hpl] at HP
    rw [hpz] at hE
    rw [hpl] at q2
    have HE := Lib.hid hE
    have Hps := Lib.hid hps
    have l1 : (pz.length : Int) ≤ 1100000 := by omega
    have l2 : (rs.length : Int) ≤ 100 := by omega
    clear h hg hU hbl hrs q1 f1 f3 hE hps hpz hpl
    go_enter Try.func96, Try.ntmps96
    go_wp2_with (first
      | (go_at_call 94; refine HP.out.mono ?_; rintro e w1 ⟨al, cap, rfl, h1⟩; obtain ⟨D, hF, hk⟩ := h1.kept; have HA2 := Lib.hid (HA.out _ _ hF (List.mem_append_right _ Hbl.out)); have Hk := Lib.hid hk; clear h1 hF hk)
      | (go_at_call 92; refine HA2.out.mono ?_; rintro e w2 ⟨al2, cap2, rfl, h2⟩; obtain ⟨D2, hF2, hk2⟩ := h2.kept; have HAt := Lib.hid (fun p => at_fk hF2 hk2 (fun x hx => List.mem_append_left _ hx) (by omega) cap2 p); have HF := Lib.hid hF2; clear h2 hF2 hk2))
    clear HP HA HA2
    have hcell := fun k (hk : k < pz.length) => Hk.out w2 g t _ (fun x hx => List.mem_append_right _ (List.mem_append_left _ hx)) HF.out k _ (icI_get pz k hk)
    have Hcell := Lib.hid hcell
    have hrow := HRs.out.below HF.out.below
    have Hrow := Lib.hid hrow
    clear hcell Hk hrow
    go_loopw [13] (fun i wr => ∃ (k : Nat), i = .int .i64 k ∧ k ≤ pz.length ∧ wr = w2 ∧ ∀ j, j < k → stS l (pz.getD j 0) = true) (fun i _ => pz.length - (intOf i).toNat)
    case atStart => exact ⟨0, rfl, by omega, rfl, by intro j hj; omega⟩
    case round =>
      obtain ⟨k, rfl, hk, rfl, hpre⟩ := hrel
      have Hpre := Lib.hid hpre
      clear hpre
      by_cases hlt : k < pz.length
      · obtain ⟨bb, rfl, c0⟩ := Hcell.out k hlt
        have hst := stS_at l _ (Hps.out k hlt)
        have Hb := Lib.hid (fun (h : stS l (pz.getD k 0) = false) => not_all_of hlt h)
        have Hs := Lib.hid (fun (h : stS l (pz.getD k 0) = true) => (fun j hj => by rcases Nat.lt_or_ge j k with h2 | h2; exact Hpre.out j h2; rwa [show j = k by omega] : ∀ j, j < k + 1 → stS l (pz.getD j 0) = true))
        rw [hst] at Hb Hs
        generalize pz.getD k 0 = z at *
        have hat := HAt.out z
        obtain ⟨ok, hok⟩ : ∃ ok, atS l z = ok := ⟨_, rfl⟩
        rw [hok] at Hb Hs hat
        have HC := Lib.hid hat
        have k1 : (k : Int) < pz.length := by omega
        have k2 : (0 : Int) ≤ k := by omega
        have k3 : ((k : Int)).toNat = k := by omega
        clear hok hst hat
        cases ok with
        | true =>
          go_wp2_with (go_at_call 142; refine HC.out.mono ?_; rintro e w3 ⟨rfl, rfl⟩)
          go_roundw
          case rel => exact ⟨k + 1, by go_num, by omega, by trivial, Hs.out (by trivial)⟩
          case measure => simp [intOf]; omega
        | false =>
          go_wp2_with (go_at_call 142; refine HC.out.mono ?_; rintro e w3 ⟨rfl, rfl⟩)
          go_ret
          refine ⟨?_, HF.out.sub (fun x hx => List.mem_append_right _ (List.mem_append_right _ hx))⟩
          have := HE.out
          rw [if_neg (by rw [Bool.and_eq_true]; exact fun h => (Hb.out (by trivial)) h.1)] at this
          rw [← this]
          rfl
      · obtain rfl : k = pz.length := by omega
        have k1 : ¬ (pz.length : Int) < pz.length := by omega
        have HE2 := Lib.hid (show (if rs.all (stS l) = true then (0 : Int) else 25) = E by
          have := HE.out
          rw [all_of Hpre.out, Bool.true_and] at this
          exact this)
        clear Hcell Hps Hpre HE
        go_wp2_with (fail)
        obtain ⟨bz, offz, haz, hcz⟩ := Hrow.out.cell
        have Hcz := Lib.hid hcz
        clear hcz
        go_loopw [14] (fun i wr2 => ∃ (k : Nat), i = .int .i64 k ∧ k ≤ rs.length ∧ wr2 = wr ∧ ∀ j, j < k → stS l (rs.getD j 0) = true) (fun i _ => rs.length - (intOf i).toNat)
        case atStart => exact ⟨0, rfl, by omega, rfl, by intro j hj; omega⟩
        case round =>
          obtain ⟨k, rfl, hk, rfl, hpre⟩ := hrel
          have Hpre := Lib.hid hpre
          clear hpre
          by_cases hlt : k < rs.length
          · obtain rfl : ar = some ⟨bz, offz, none⟩ := by
              rcases haz with rfl | e
              · simp at hlt
              · exact e
            clear haz
            have c0 := Hcz.out k hlt
            have Hb := Lib.hid (fun (h : stS l (rs.getD k 0) = false) => not_all_of hlt h)
            have Hs := Lib.hid (fun (h : stS l (rs.getD k 0) = true) => (fun j hj => by rcases Nat.lt_or_ge j k with h2 | h2; exact Hpre.out j h2; rwa [show j = k by omega] : ∀ j, j < k + 1 → stS l (rs.getD j 0) = true))
            generalize rs.getD k 0 = z at *
            have k1 : (k : Int) < rs.length := by omega
            have k2 : (0 : Int) ≤ k := by omega
            have k3 : ((k : Int)).toNat = k := by omega
            by_cases hz : z = 0
            · subst hz
              rw [stS_zero] at Hb Hs
              clear Hb
              go_wp2
              go_roundw
              case rel => exact ⟨k + 1, by go_num, by omega, by trivial, Hs.out (by trivial)⟩
              case measure => simp [intOf]; omega
            · rw [stS_at l z hz] at Hb Hs
              have hat := HAt.out z
              obtain ⟨ok, hok⟩ : ∃ ok, atS l z = ok := ⟨_, rfl⟩
              rw [hok] at Hb Hs hat
              have HC := Lib.hid hat
              have b1 : (z != 0) = true := by rw [bne_iff_ne]; exact hz
              clear hok hat hz
              cases ok with
              | true =>
                go_wp2_with (go_at_call 142; refine HC.out.mono ?_; rintro e w3 ⟨rfl, rfl⟩)
                go_roundw
                case rel => exact ⟨k + 1, by go_num, by omega, by trivial, Hs.out (by trivial)⟩
                case measure => simp [intOf]; omega
              | false =>
                go_wp2_with (go_at_call 142; refine HC.out.mono ?_; rintro e w3 ⟨rfl, rfl⟩)
                go_ret
                refine ⟨?_, HF.out.sub (fun x hx => List.mem_append_right _ (List.mem_append_right _ hx))⟩
                have := HE2.out
                rw [if_neg (Hb.out (by trivial))] at this
                rw [← this]
                rfl
          · obtain rfl : k = rs.length := by omega
            have k1 : ¬ (rs.length : Int) < rs.length := by omega
            clear haz
            go_wp2
            go_ret
            refine ⟨?_, HF.out.sub (fun x hx => List.mem_append_right _ (List.mem_append_right _ hx))⟩
            have := HE2.out
            rw [if_pos (all_of Hpre.out)] at this
            rw [← this]
            rfl
  · rw [if_neg h0] at hE
    subst hE
    have b1 : (pe != 0) = true := by rw [bne_iff_ne]; exact h0
    clear h hg hU hbl hrs q1 q2 f1 f2 f3 h0 HA HRs
    go_enter Try.func96, Try.ntmps96
    go_wp2_with (go_at_call 94; refine HP.out.mono ?_; rintro e w1 ⟨al, cap, rfl, h1⟩; have H1 := Lib.hid h1.full; clear h1)
    go_ret
    exact ⟨rfl, H1.out⟩
end
end Go.Proofs.Ytkcijlndblbidaa
