/- The walk of the reference's Path: it tells the least path too. -/
import Derived.Test.YtplkogjnmjjjgaaGPaths4
namespace Go.Proofs.Ytplkogjnmjjjgaa
open Go.ChangeShapes Go.WideShapes Go.ChangeAt Go.RowKit Go.Maps
set_option linter.unusedVariables false
set_option linter.unusedSimpArgs false

theorem mayG_ix {g : Gr} (h : mayG g = true) {i : Nat} (hi : i < g.rs.length) : g.rs.getD i 0 < 0 ∨ ∃ p : Nat, g.rs.getD i 0 = p ∧ p < g.ns.length := by
  have h1 := mayG_roots h _ (getD_mem 0 hi)
  unfold inr at h1
  have h1 := of_decide_eq_true h1
  by_cases e : g.rs.getD i 0 < 0
  · exact .inl e
  · exact .inr ⟨(g.rs.getD i 0).toNat, by omega, by omega⟩
theorem mayG_px {g : Gr} (h : mayG g = true) {m i : Nat} (hi : i < (psAt g.ns m).length) : (psAt g.ns m).getD i 0 < 0 ∨ ∃ p : Nat, (psAt g.ns m).getD i 0 = p ∧ p < g.ns.length := by
  have h1 := mayG_ps h m _ (getD_mem 0 hi)
  unfold inr at h1
  have h1 := of_decide_eq_true h1
  by_cases e : (psAt g.ns m).getD i 0 < 0
  · exact .inl e
  · exact .inr ⟨((psAt g.ns m).getD i 0).toNat, by omega, by omega⟩
theorem pathG_ne {g : Gr} {k : Int} (h : k ∈ (walkG g).al) : pathG g k ≠ [] := by
  unfold pathG
  rw [if_pos h]
  simp [pathF]
theorem pathG_nil {g : Gr} {k : Int} (h : ¬ k ∈ (walkG g).al) : pathG g k = [] := by
  unfold pathG
  rw [if_neg h]
theorem al_in {g : Gr} {k : Int} (hm : mayG g = true) (h : k ∈ (walkG g).al) : 0 ≤ k ∧ k < g.ns.length := by
  exact (walkG_ok hm).lt k h
theorem Dig.snoc {B : Nat} {l : List Int} {x : Int} (h : Dig B l) (h0 : 0 ≤ x) (h1 : x < B) : Dig B (l ++ [x]) := by
  intro y hy
  rcases List.mem_append.1 hy with hy | hy
  · exact h y hy
  · rw [List.mem_singleton] at hy
    subst hy
    exact ⟨h0, h1⟩
theorem set_keeps {P : List (List Int)} {p n : Nat} {l : List Int} (hp : p < P.length) (hl : l ≠ []) (hn : P.getD n [] ≠ []) : (P.set p l).getD n [] ≠ [] := by
  by_cases e : p = n
  · subst e
    rw [getD_set_eq hp]
    exact hl
  · rw [getD_set_ne e]
    exact hn
theorem PsW.none {W0 w : World} {pb : Nat} {K : List (Nat × Obj)} {P : List (List Int)} (h : PsW W0 pb K P w) : FKN W0 [] w :=
  ⟨h.inK.sub (fun x hx => by cases hx), by simp, fun x hx => by cases hx⟩
set_option maxRecDepth 100000 in
set_option maxHeartbeats 8000000 in
theorem refPath_any {w : World} {ar an : Option Addr} {g : Gr} (cr cn : Nat) (k : Int) (hkI : IsI k) (hG : GRd w ar an g) (hfew : FewG g) (hmay : mayG g = true) :
    Calls Try.prog 19 #[.agg #[.slice ar g.rs.length cr, .slice an g.ns.length cn], .int .i64 k] w fun e w' => ∃ al cap, e = .returned (.tuple #[.slice al (pathG g k).length cap, .bool (decide (k ∈ (walkG g).al))]) ∧ ∃ R, Rw w.heap.size 3 1 (pathG g k).length (icI (pathG g k)) al cap R ∧ FKN w R w' := by
  have hns := hfew.ns
  have hrs := hfew.rs
  have l1 : (g.rs.length : Int) ≤ 1500 := by omega
  have l2 : (g.ns.length : Int) ≤ 100 := by omega
  have h1 := (FKN.refl w).obj (.cells #[.slice ar g.rs.length cr, .slice an g.ns.length cn] 25)
  obtain ⟨gb, hgb⟩ : ∃ gb, w.heap.size = gb := ⟨_, rfl⟩
  obtain ⟨K, hK⟩ : ∃ K, [(w.heap.size, Obj.cells #[.slice ar g.rs.length cr, .slice an g.ns.length cn] 25 (0, 0))] = K := ⟨_, rfl⟩
  have hP0 := PsW.made h1 g.ns.length
  simp only [heap_size_alloc] at hP0
  rw [hK] at hP0
  have Hc := Lib.hid (show ∀ W, KB w K W → W.cell? ⟨gb, 0, none⟩ = some (.slice ar g.rs.length cr) ∧ W.cell? ⟨gb, 1, none⟩ = some (.slice an g.ns.length cn) from fun W hW => by
    have hq := hW.block (X := gb) (o := Obj.cells #[.slice ar g.rs.length cr, .slice an g.ns.length cn] 25 (0, 0)) (by rw [← hK, hgb]; exact List.mem_cons_self ..)
    exact ⟨at_cell hq 0 _ rfl, at_cell hq 1 _ rfl⟩)
  have hmk := make_paths g.ns.length (by omega)
  have c1 := (Hc.out _ (by rw [← hK]; exact h1.1)).2
  obtain ⟨pb, hpb⟩ : ∃ pb, w.heap.size + 1 = pb := ⟨_, rfl⟩
  rw [hpb] at hP0
  rw [hgb] at hpb
  have HG := Lib.hid hG
  have HP0 := Lib.hid hP0
  have Hmay := Lib.hid hmay
  have Hfew := Lib.hid hfew
  have HkI := Lib.hid hkI
  clear hG hP0 h1 hK hfew hmay hns hrs hkI
  obtain ⟨BB, hBB⟩ : ∃ B : Nat, 1500 = B := ⟨_, rfl⟩
  have HB1 := Lib.hid (show g.rs.length ≤ BB by have := Hfew.out.rs; omega)
  have HB2 := Lib.hid (show ∀ m, (psAt g.ns m).length ≤ BB by intro m; have := psAt_le Hfew.out m; omega)
  have HB3 := Lib.hid (show ∀ m, (psAt g.ns m).length ≤ 1500 from fun m => psAt_le Hfew.out m)
  clear hBB
  go_enter Try.func19, Try.ntmps19
  go_wp2_with (fail)
  clear c1 hmk
  have q22 : ∀ (w : World) (a : Option Addr) (n c n' c' : Nat), (binOp .eql 22 (.slice a n c) (.slice none n' c')).run Try.prog w = .ok (.bool a.isNone) w := fun w a n c n' c' => Lib.run_eql_slice_nil w _ _ a n c n' c' Try.underlying22
  go_loopw [7] (fun iv wr => ∃ (i : Nat) (P : List (List Int)), iv = .int .i64 i ∧ i ≤ g.rs.length ∧ Rt g P i ∧ PsW w pb K P wr) (fun iv _ => g.rs.length - (intOf iv).toNat)
  case atStart => exact ⟨0, _, rfl, by omega, Rt.start g, by simpa using HP0.out⟩
  case round =>
    clear HP0
    obtain ⟨i, P, rfl, hi, hR, hP⟩ := hrel
    obtain ⟨c0, c1⟩ := Hc.out _ hP.inK
    by_cases hlt : i < g.rs.length
    · obtain ⟨b, off, ha, hc⟩ := (HG.out.roots.below hP.inK.1).cell
      obtain rfl : ar = some ⟨b, off, none⟩ := by
        rcases ha with e | e
        · rw [e] at hlt; cases hlt
        · exact e
      have q0 := hc i hlt
      have hz := mayG_ix Hmay.out hlt
      have hS := hR.inv.small Hfew.out
      have HR := Lib.hid hR
      have HP := Lib.hid hP
      have HL := Lib.hid hR.inv.len
      have k1 : (i : Int) < g.rs.length := by omega
      have k2 : (0 : Int) ≤ i := by omega
      have k3 : ((i : Int)).toNat = i := by omega
      obtain ⟨z, Hz⟩ : ∃ z, Hid (g.rs.getD i 0 = z) := ⟨_, Lib.hid rfl⟩
      rw [Hz.out] at hz q0
      clear hc ha hR hP
      rcases hz with hz | ⟨p, rfl, hp⟩
      · have hd : decide ((0 : Int) ≤ z) = false := decide_eq_false (by omega)
        have Hlt := Lib.hid hz
        clear hz
        go_wp2_with (fail)
        go_roundw
        case rel => exact ⟨i + 1, P, by go_num, by omega, HR.out.neg (by rw [Hz.out]; exact Hlt.out), HP.out⟩
        case measure => simp [intOf]; omega
      · have hd : decide ((0 : Int) ≤ (p : Int)) = true := decide_eq_true (by omega)
        have p1 : (p : Int) < g.ns.length := by omega
        have p2 : (0 : Int) ≤ p := by omega
        have p3 : ((p : Int)).toNat = p := by omega
        have hpP : p < P.length := by rw [HL.out]; exact hp
        by_cases he : P.getD p [] = []
        · have m0 := HP.out.nil_at hpP he
          have f0 := (HP.out.grow (below_new wr (.cells #[.int .i64 (i : Int)] 3))).free p
          have m1 := (HP.out.grow (below_new wr (.cells #[.int .i64 (i : Int)] 3))).nil_at hpP he
          have HE := Lib.hid he
          clear he
          go_wp2_with (fail)
          go_roundw
          case rel => exact ⟨i + 1, _, by go_num, by omega, HR.out.put hlt Hz.out hpP HE.out, HP.out.put1 hpP i⟩
          case measure => simp [intOf]; omega
        · obtain ⟨b2, c2, m0, hrow⟩ := HP.out.some_at hpP he ((hS p hpP).1.okI (by omega))
          have HE := Lib.hid he
          have HpP := Lib.hid hpP
          obtain ⟨m, hm⟩ : ∃ m, (P.getD p []).length = m := ⟨_, rfl⟩
          rw [hm] at m0
          clear he hrow hpP hm
          go_wp2_with (fail)
          go_roundw
          case rel => exact ⟨i + 1, P, by go_num, by omega, HR.out.had Hz.out HpP.out HE.out, HP.out⟩
          case measure => simp [intOf]; omega
    · obtain rfl : i = g.rs.length := by omega
      have k1 : ¬ (g.rs.length : Int) < g.rs.length := by omega
      have HR := Lib.hid hR
      have HP := Lib.hid hP
      clear hR hP
      go_wp2_with (fail)
      clear k1 c0 c1
      obtain ⟨m0, hm0⟩ : ∃ m0, 2 * muP BB g.ns.length P + 1 = m0 := ⟨_, rfl⟩
      have Hm0 := Lib.hid hm0
      clear hm0
      go_loopg [9] m0 (fun gk s9 wr => ∃ (t : Bool) (P : List (List Int)), s9 = .bool t ∧ PInv g P ∧ RootsTo g P g.rs.length ∧ (t = false → ∀ n, n < P.length → ShutN g P n (psAt g.ns n).length) ∧ 2 * muP BB g.ns.length P + t.toNat ≤ gk ∧ PsW w pb K P wr)
      case atStart => exact ⟨true, P, rfl, HR.out.inv, HR.out.roots, (fun h => by cases h), by have := Hm0.out; simp; omega, HP.out⟩
      case round =>
        clear HR HP Hm0
        obtain ⟨t, P, rfl, hI, hRo, hSh, hmu, hP⟩ := hrel
        obtain ⟨c0, c1⟩ := Hc.out _ hP.inK
        have HI := Lib.hid hI
        have HRo := Lib.hid hRo
        have HP := Lib.hid hP
        have Hmu := Lib.hid hmu
        cases t with
        | true =>
          clear hI hRo hSh hmu hP
          go_wp2_with (fail)
          obtain ⟨mu0, hmu0⟩ : ∃ mu0, muP BB g.ns.length P = mu0 := ⟨_, rfl⟩
          have Hmu0 := Lib.hid hmu0
          clear hmu0 c0 c1
          go_loopw [9, 10] (fun tv nv wr => ∃ (t : Bool) (n : Nat) (P : List (List Int)), tv = .bool t ∧ nv = .int .i64 n ∧ n ≤ g.ns.length ∧ Rd g BB mu0 P t n 0 ∧ PsW w pb K P wr) (fun _ nv _ => g.ns.length - (intOf nv).toNat)
          case atStart => exact ⟨false, 0, P, rfl, rfl, by omega, by have := Hmu0.out; rw [← this]; exact Rd.start HI.out HRo.out, HP.out⟩
          case round =>
            clear HI HRo HP
            obtain ⟨t, n, P, rfl, rfl, hn, hRd, hP⟩ := hrel
            obtain ⟨c0, c1⟩ := Hc.out _ hP.inK
            have HRd := Lib.hid hRd
            have HP := Lib.hid hP
            have hL := hRd.inv.len
            have HL := Lib.hid hL
            have hS := Lib.hid (hRd.inv.small Hfew.out)
            clear hRd hP
            by_cases hlt : n < g.ns.length
            · have n1 : (n : Int) < g.ns.length := by omega
              have n2 : (0 : Int) ≤ n := by omega
              have n3 : ((n : Int)).toNat = n := by omega
              have HnP := Lib.hid (show n < P.length by omega)
              have Hlt := Lib.hid hlt
              clear hL hlt
              obtain ⟨bn, on, ap, af, aw, cp, cf, cw, rfl, hx0, nn0, -, -⟩ := HG.out.nodes.at_ Hlt.out
              have hps : psAt g.ns (n : Int) = (g.ns.getD n default).ps := by unfold psAt; rw [Int.toNat_natCast]
              have hrow := hx0.ps
              rw [← hps] at nn0 hrow
              have HN0 := Lib.hid nn0
              have HROW := Lib.hid hrow
              clear hx0 hps nn0 hrow
              by_cases he : P.getD n [] = []
              · have m0 := HP.out.nil_at HnP.out he
                have HE := Lib.hid he
                clear he
                go_wp2_with (fail)
                go_roundw
                case rel => exact ⟨t, n + 1, P, rfl, by go_num, by have := Hlt.out; omega, HRd.out.nil HE.out, HP.out⟩
                case measure => simp [intOf]; have := Hlt.out; omega
              · obtain ⟨b2, c2, m0, hrow⟩ := HP.out.some_at HnP.out he ((hS.out n HnP.out).1.okI (by omega))
                have HE := Lib.hid he
                obtain ⟨m, hm⟩ : ∃ m, (P.getD n []).length = m := ⟨_, rfl⟩
                rw [hm] at m0
                clear he hrow hm
                go_wp2_with (fail)
                clear m0 c0 c1
                go_loopw [9, 11] (fun tv iv wr => ∃ (t : Bool) (i : Nat) (P : List (List Int)), tv = .bool t ∧ iv = .int .i64 i ∧ i ≤ (psAt g.ns (n : Int)).length ∧ Rd g BB mu0 P t n i ∧ P.getD n [] ≠ [] ∧ PsW w pb K P wr) (fun _ iv _ => (psAt g.ns (n : Int)).length - (intOf iv).toNat)
                case atStart => exact ⟨t, 0, P, rfl, rfl, by omega, HRd.out, HE.out, HP.out⟩
                case round =>
                  clear HRd HP HE HL hS HnP
                  obtain ⟨t, i, P, rfl, rfl, hi4, hRd, hE, hP⟩ := hrel
                  obtain ⟨c0, c1⟩ := Hc.out _ hP.inK
                  have HE := Lib.hid hE
                  have HRd := Lib.hid hRd
                  have HP := Lib.hid hP
                  have hL := hRd.inv.len
                  have HnP := Lib.hid (show n < P.length by have := Hlt.out; omega)
                  have HL := Lib.hid hL
                  have hS := Lib.hid (hRd.inv.small Hfew.out)
                  clear hRd hP hL hE
                  have m0 := cellB HP.out.inK.1 (Nat.le_refl _) HN0.out
                  by_cases hlt4 : i < (psAt g.ns (n : Int)).length
                  · have hz := mayG_px Hmay.out (m := n) hlt4
                    obtain ⟨br, or, har, hcr⟩ := (HROW.out.below HP.out.inK.1).cell
                    obtain rfl : ap = some ⟨br, or, none⟩ := by
                      rcases har with e | e
                      · rw [e] at hlt4; cases hlt4
                      · exact e
                    have q0 := hcr i hlt4
                    have hpl := HB3.out (n : Int)
                    have Hlt4 := Lib.hid hlt4
                    obtain ⟨ps, hps⟩ : ∃ ps, psAt g.ns (n : Int) = ps := ⟨_, rfl⟩
                    rw [hps] at m0 q0 hz hlt4 hpl
                    have i0 : (ps.length : Int) ≤ 1500 := by omega
                    have i1 : (i : Int) < ps.length := by omega
                    have i2 : (0 : Int) ≤ i := by omega
                    have i3 : ((i : Int)).toNat = i := by omega
                    obtain ⟨z, hzz⟩ : ∃ z, ps.getD i 0 = z := ⟨_, rfl⟩
                    rw [hzz] at q0 hz
                    have Hz := Lib.hid (show (psAt g.ns (n : Int)).getD i 0 = z by rw [hps]; exact hzz)
                    have Hps := Lib.hid hps
                    clear hps hzz hcr har hlt4 hpl
                    rcases hz with hz | ⟨p, rfl, hp⟩
                    · have Hlz := Lib.hid hz
                      go_wp2_with (fail)
                      go_roundw
                      case rel => exact ⟨t, i + 1, P, rfl, by go_num, by have := Hlt4.out; omega, HRd.out.neg (by rw [Hz.out]; exact Hlz.out), HE.out, HP.out⟩
                      case measure => simp [intOf]; have := Hlt4.out; omega
                    · have hd : ¬ (p : Int) < 0 := by omega
                      have p1 : (p : Int) < g.ns.length := by omega
                      have p2 : (0 : Int) ≤ p := by omega
                      have p3 : ((p : Int)).toNat = p := by omega
                      have HpP := Lib.hid (show p < P.length by have := HL.out; omega)
                      have hdg := (hS.out n HnP.out).1
                      have hql := (hS.out n HnP.out).2
                      obtain ⟨b0, cc, hc0, hrow0⟩ := HP.out.some_at HnP.out HE.out (hdg.okI (by omega))
                      have hc1 := cellB (below_new wr (.cells #[] 3)) (Nat.le_refl _) hc0
                      obtain ⟨al1, cap1, w1, hrun1, hN1⟩ := HP.out.next HnP.out HE.out hS.out hc0
                      obtain ⟨al2, cap2, w2, hrun2, hN2⟩ := hN1.step (by omega) (i : Int)
                      have hdg2 := hdg.snoc i2 (show (i : Int) < 1500 by omega)
                      obtain ⟨lq, hlq⟩ : ∃ lq, P.getD n [] = lq := ⟨_, rfl⟩
                      simp only [hlq] at hc0 hc1 hrun1 hrun2 hN2 hdg2 hql
                      obtain ⟨ql, hqq⟩ : ∃ ql, lq.length = ql := ⟨_, rfl⟩
                      simp only [hqq] at hc0 hc1 hrun1 hrun2 hql
                      have hn2l : (lq ++ [(i : Int)]).length = ql + 1 := by simp [hqq]
                      have HR1 := Lib.hid hrun1
                      have HR2 := Lib.hid hrun2
                      have HN2 := Lib.hid hN2
                      have Hlq := Lib.hid hlq
                      have Hn2l := Lib.hid hn2l
                      have hrow2 := hN2.introw (hdg2.okI (by omega))
                      clear hp hdg hrow0 hrun1 hrun2 hN1 hlq hqq hdg2 hn2l
                      have hP2 := hN2.drop
                      by_cases he : P.getD p [] = []
                      · have x0 := hP2.nil_at HpP.out he
                        have f0 := hP2.free p
                        have He := Lib.hid he
                        have hHR := HN2.out.put HpP.out (by simp)
                        rw [Hn2l.out] at hHR
                        have HHR := Lib.hid hHR
                        clear he hP2 hN2 hrow2 hHR
                        go_wp2_with (first
                          | (at_builtin; refine wpList_append_run _ rfl (.tmp 79) (.tmp 83) 22 rfl _ _ _ _ rfl rfl HR1.out ?_)
                          | (at_builtin; refine wpList_append_run _ rfl (.tmp 84) (.tmp 86) 22 rfl _ _ _ _ rfl rfl HR2.out ?_))
                        go_roundw
                        case rel => exact ⟨true, i + 1, P.set p (lq ++ [(i : Int)]), rfl, by go_num, by have := Hlt4.out; omega, by rw [← Hlq.out]; exact Rd.put HB1.out HB2.out HRd.out HnP.out HE.out Hlt4.out Hz.out HpP.out (.inl He.out), set_keeps HpP.out (by simp) HE.out, HHR.out⟩
                        case measure => simp [intOf]; have := Hlt4.out; omega
                      · obtain ⟨b2, c2, x0, hrow3⟩ := hP2.some_at HpP.out he ((hS.out p HpP.out).1.okI (by omega))
                        have HLESS := Lib.hid (less_any cap2 c2 hrow2 hrow3)
                        rw [Hn2l.out] at HLESS
                        obtain ⟨pl, hpl2⟩ : ∃ pl, (P.getD p []).length = pl := ⟨_, rfl⟩
                        rw [hpl2] at x0 HLESS
                        obtain ⟨bl, hbl⟩ : ∃ bl, lessP (lq ++ [(i : Int)]) (P.getD p []) = bl := ⟨_, rfl⟩
                        rw [hbl] at HLESS
                        have He := Lib.hid he
                        have Hbl := Lib.hid hbl
                        clear he hP2 hN2 hrow2 hrow3 hpl2 hbl
                        cases bl with
                        | true =>
                          go_wp2_with (first
                            | (at_builtin; refine wpList_append_run _ rfl (.tmp 79) (.tmp 83) 22 rfl _ _ _ _ rfl rfl HR1.out ?_)
                            | (at_builtin; refine wpList_append_run _ rfl (.tmp 84) (.tmp 86) 22 rfl _ _ _ _ rfl rfl HR2.out ?_)
                            | (go_at_call 49; refine HLESS.out.mono ?_; rintro e w3 ⟨rfl, hb3⟩; have hN3 := HN2.out.grow hb3; have f3 := hN3.drop.free p; have x3 := cellB hb3 (Nat.le_refl _) x0; have hHR := hN3.put HpP.out (by simp); rw [Hn2l.out] at hHR; have HHR := Lib.hid hHR; clear hb3 hN3 hHR))
                          go_roundw
                          case rel => exact ⟨true, i + 1, P.set p (lq ++ [(i : Int)]), rfl, by go_num, by have := Hlt4.out; omega, by rw [← Hlq.out]; exact Rd.put HB1.out HB2.out HRd.out HnP.out HE.out Hlt4.out Hz.out HpP.out (.inr (by rw [Hlq.out]; exact Hbl.out)), set_keeps HpP.out (by simp) HE.out, HHR.out⟩
                          case measure => simp [intOf]; have := Hlt4.out; omega
                        | false =>
                          go_wp2_with (first
                            | (at_builtin; refine wpList_append_run _ rfl (.tmp 79) (.tmp 83) 22 rfl _ _ _ _ rfl rfl HR1.out ?_)
                            | (at_builtin; refine wpList_append_run _ rfl (.tmp 84) (.tmp 86) 22 rfl _ _ _ _ rfl rfl HR2.out ?_)
                            | (go_at_call 49; refine HLESS.out.mono ?_; rintro e w3 ⟨rfl, hb3⟩; have HN3 := Lib.hid (HN2.out.grow hb3).drop; clear hb3))
                          go_roundw
                          case rel => exact ⟨t, i + 1, P, rfl, by go_num, by have := Hlt4.out; omega, HRd.out.stay Hz.out He.out (by rw [Hlq.out]; exact Hbl.out), HE.out, HN3.out⟩
                          case measure => simp [intOf]; have := Hlt4.out; omega
                  · obtain rfl : i = (psAt g.ns (n : Int)).length := by omega
                    have HN := Lib.hid HRd.out.next
                    clear HRd
                    obtain ⟨ps, hps⟩ : ∃ ps, psAt g.ns (n : Int) = ps := ⟨_, rfl⟩
                    simp only [hps] at m0 ⊢
                    have k1 : ¬ (ps.length : Int) < ps.length := by omega
                    clear hps
                    go_wp2_with (fail)
                    go_roundw
                    case rel => exact ⟨t, n + 1, P, rfl, by go_num, by have := Hlt.out; omega, HN.out, HP.out⟩
                    case measure => simp [intOf]; have := Hlt.out; omega
            · obtain rfl : n = g.ns.length := by omega
              have k1 : ¬ (g.ns.length : Int) < g.ns.length := by omega
              go_wp2_with (fail)
              have hR := HRd.out
              go_roundg (2 * muP BB g.ns.length P + t.toNat)
              case measure =>
                have h1 := Hmu.out
                have h2 := Hmu0.out
                have h3 := hR.up
                have h4 := hR.shut
                cases t with
                | true => have h5 := h3 rfl; simp at h1 ⊢; omega
                | false => have h5 := (h4 rfl).1; simp at h1 ⊢; omega
              case rel => exact ⟨t, P, rfl, hR.inv, hR.roots, fun ht n hn => (hR.shut ht).2.1 n (by have := hR.inv.len; omega), Nat.le_refl _, HP.out⟩
        | false =>
          have hend := paths_end Hmay.out hI hRo (hSh rfl)
          have hL := hI.len
          have Hend := Lib.hid hend
          have HL := Lib.hid hL
          have hfin := Lib.hid hP.none
          have HI2 := Lib.hid hI
          clear hI hRo hSh hmu hP hend hL HI HRo Hmu
          by_cases hk0 : k < 0
          · have hd : decide (k < 0) = true := decide_eq_true hk0
            have hnm : ¬ k ∈ (walkG g).al := fun h => by have := (al_in Hmay.out h).1; omega
            have Hnm := Lib.hid hnm
            clear hnm
            go_wp2_with (fail)
            go_ret2
            rw [pathG_nil Hnm.out, decide_eq_false Hnm.out]
            exact ⟨none, 0, rfl, [], Rw.nil _ _ _, hfin.out⟩
          · have hd : decide (k < 0) = false := decide_eq_false hk0
            by_cases hkN : (g.ns.length : Int) ≤ k
            · have hd2 : decide ((g.ns.length : Int) ≤ k) = true := decide_eq_true hkN
              have hnm : ¬ k ∈ (walkG g).al := fun h => by have := (al_in Hmay.out h).2; omega
              have Hnm := Lib.hid hnm
              clear hnm
              go_wp2_with (fail)
              go_ret2
              rw [pathG_nil Hnm.out, decide_eq_false Hnm.out]
              exact ⟨none, 0, rfl, [], Rw.nil _ _ _, hfin.out⟩
            · have hd2 : decide ((g.ns.length : Int) ≤ k) = false := decide_eq_false hkN
              obtain ⟨q, rfl⟩ : ∃ q : Nat, k = q := ⟨k.toNat, by omega⟩
              have p1 : (q : Int) < g.ns.length := by omega
              have p2 : (0 : Int) ≤ q := by omega
              have p3 : ((q : Int)).toNat = q := by omega
              have hqP : q < P.length := by have := HL.out; omega
              have hqe := Hend.out q hqP
              by_cases he : P.getD q [] = []
              · have x0 := HP.out.nil_at hqP he
                have hnm : ¬ (q : Int) ∈ (walkG g).al := fun h => pathG_ne h (by rw [← hqe]; exact he)
                have Hnm := Lib.hid hnm
                clear hnm he hqe hqP
                go_wp2_with (fail)
                go_ret2
                rw [pathG_nil Hnm.out, decide_eq_false Hnm.out]
                exact ⟨none, 0, rfl, [], Rw.nil _ _ _, hfin.out⟩
              · have hm : (q : Int) ∈ (walkG g).al := Classical.byContradiction fun h => he (by rw [hqe]; exact pathG_nil h)
                obtain ⟨a, cap, R, x0, hr, hF⟩ := HP.out.give hqP
                obtain ⟨b2, c2, x1, -⟩ := HP.out.some_at hqP he (((HI2.out.small Hfew.out) q hqP).1.okI (by omega))
                rw [x0] at x1
                obtain ⟨rfl, rfl⟩ : a = some ⟨b2, 0, none⟩ ∧ cap = c2 := by simpa using x1
                rw [hqe] at x0 hr
                obtain ⟨pl, hpl⟩ : ∃ pl, (pathG g (q : Int)).length = pl := ⟨_, rfl⟩
                rw [hpl] at x0
                have Hm := Lib.hid hm
                have Hr := Lib.hid hr
                have HF := Lib.hid hF
                have Hpl := Lib.hid hpl
                clear hm he hqe hqP hr hF hpl x1
                go_wp2_with (fail)
                go_ret2
                rw [decide_eq_true Hm.out]
                subst hgb
                exact ⟨some ⟨b2, 0, none⟩, cap, by rw [Hpl.out]; rfl, R, Hr.out, HF.out⟩
end Go.Proofs.Ytplkogjnmjjjgaa
