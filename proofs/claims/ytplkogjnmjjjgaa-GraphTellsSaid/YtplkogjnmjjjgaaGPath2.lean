/- The walk of graph.Path. -/
import Derived.Test.YtplkogjnmjjjgaaGPath1
namespace Go.Proofs.Ytplkogjnmjjjgaa
open Go.ChangeShapes Go.WideShapes Go.ChangeAt Go.RowKit Go.Maps
set_option linter.unusedVariables false
set_option linter.unusedSimpArgs false

theorem path_start {S : Mt} {k : Int} (f : Nat) (h : k ∈ S.al) : pathF S (f + 1) (S.al.idxOf k + 1) = S.st.getD (S.al.idxOf k) 0 :: pathF S f (S.fr.getD (S.al.idxOf k) 0 + 1).toNat := rfl
set_option maxRecDepth 100000 in
theorem path_bad {w : World} {ar an : Option Addr} {g : Gr} (cr cn : Nat) (k : Int) (hG : GRd w ar an g) (hmay : mayG g = false) :
    Calls Try.prog 15 #[.agg #[.slice ar g.rs.length cr, .slice an g.ns.length cn], .int .i64 k] w fun e w' => e = .returned (.tuple #[.slice none 0 0, .int .i64 5]) ∧ Below w.heap.size w w' := by
  have h1 := (FKN.refl w).obj (.cells #[.slice ar g.rs.length cr, .slice an g.ns.length cn] 25)
  have HC := Lib.hid (check_graph g ar an cr cn _ (hG.below h1.below))
  rw [hmay, if_neg (by decide)] at HC
  have H1 := Lib.hid h1
  clear h1 hG
  go_enter Try.func15, Try.ntmps15
  go_wp2_with (go_at_call 18; refine HC.out.mono ?_; rintro e w2 ⟨rfl, hb2⟩; have H2 := Lib.hid (H1.out.grow hb2); clear hb2)
  go_ret2
  exact ⟨rfl, H2.out.below⟩
set_option maxRecDepth 100000 in
set_option maxHeartbeats 2000000 in
theorem path_any {w : World} {ar an : Option Addr} {g : Gr} (cr cn : Nat) (k : Int) (hkI : IsI k) (hG : GRd w ar an g) (hfew : FewG g) (hmay : mayG g = true) :
    Calls Try.prog 15 #[.agg #[.slice ar g.rs.length cr, .slice an g.ns.length cn], .int .i64 k] w fun e w' => ∃ al cap, e = .returned (.tuple #[.slice al (pathG g k).length cap, .int .i64 (if k ∈ (walkG g).al then 0 else 6)]) ∧ ∃ R, Rw w.heap.size 3 1 (pathG g k).length (icI (pathG g k)) al cap R ∧ FKN w R w' := by
  obtain ⟨i1, hj, hy0, hy1, hy2⟩ := info_parts int_info
  have h1 := (FKN.refl w).obj (.cells #[.slice ar g.rs.length cr, .slice an g.ns.length cn] 25)
  have HC := Lib.hid (check_graph g ar an cr cn _ (hG.below h1.below))
  rw [hmay, if_pos rfl] at HC
  have hrs := hfew.rs
  have hns := hfew.ns
  have HW := Lib.hid (fun (W : World) (E : List (Nat × Obj)) (h : FKN w E W) => walk_any h cr cn hG hmay hns hrs)
  have H1 := Lib.hid h1
  have hOk := walkG_ok hmay
  have hfo := walkG_fok hmay
  have hal := hOk.len
  have hfr := hOk.fr
  have hst := hOk.st
  have HFO := Lib.hid hfo
  have Hfr := Lib.hid hfr
  have Hst := Lib.hid hst
  clear h1 hG hOk hfo hfr hst
  obtain ⟨gb, hgb⟩ : ∃ gb, w.heap.size = gb := ⟨_, rfl⟩
  simp only [hgb] at H1
  obtain ⟨P, hP⟩ : ∃ P, pathG g k = P := ⟨_, rfl⟩
  rw [hP]
  unfold pathG at hP
  by_cases hm : k ∈ (walkG g).al
  · rw [if_pos hm] at hP
    simp only [if_pos hm]
    have hat : atM (walkG g).al k = some (((walkG g).al.idxOf k : Nat) : Int) := by unfold atM; rw [if_pos hm]
    have hix := List.idxOf_lt_length_iff.2 hm
    have HST := Lib.hid (path_start (S := walkG g) (walkG g).al.length hm)
    have HP := Lib.hid hP
    generalize (walkG g).al.idxOf k = ix at *
    have x1 : ((ix : Int)) < 100 := by omega
    clear hP hm
    go_enter Try.func15, Try.ntmps15
    go_wp2_with (first
      | (go_at_call 18; refine HC.out.mono ?_; rintro e w2 ⟨rfl, hb2⟩; have H2 := Lib.hid (H1.out.grow hb2); have hq := H2.out.1.block (List.mem_cons_self ..); have c0 := at_cell hq 0 _ rfl; have c1 := at_cell hq 1 _ rfl; clear hb2 hq)
      | (go_at_call 37; refine (HW.out _ _ H2.out).mono ?_; rintro e w3 ⟨p, mb, rfl, hM⟩; obtain ⟨MB, ⟨o, a0, a2, a3, x0, x2, x3, R0, R2, R3, hI, r0, r2, r3, hMB⟩, hF⟩ := hM.out; have hp := hF.1.block (List.mem_append_left _ (by rw [hMB]; exact List.mem_cons_self ..)); have c3 := at_cell hp 1 (.map (some mb)) rfl; have hlk := hI.look (hF.1.block (List.mem_append_left _ (by rw [hMB]; exact List.mem_cons_of_mem _ (List.mem_cons_self ..)))) hkI; rw [hat] at hlk; simp only [Option.getD_some, Option.isSome_some] at hlk; have HMB := Lib.hid hMB; have HR2 := Lib.hid r2; have HR3 := Lib.hid r3; have HF := Lib.hid hF; clear hM hF hI r0 r2 r3 hp hMB))
    clear c0 c1 hlk c3 hat
    obtain ⟨K, hK⟩ : ∃ K, MB ++ [(gb, Obj.cells #[.slice ar g.rs.length cr, .slice an g.ns.length cn] 25 (0, 0))] = K := ⟨_, rfl⟩
    rw [hK] at HF
    have HKN := Lib.hid HF.out.2
    have Hc := Lib.hid (show ∀ W, KB w K W → W.cell? ⟨p, 2, none⟩ = some (.slice a2 (walkG g).fr.length x2) ∧ W.cell? ⟨p, 3, none⟩ = some (.slice a3 (walkG g).st.length x3) ∧ ∀ i, i < (walkG g).al.length → ∃ b2 b3, a2 = some ⟨b2, 0, none⟩ ∧ a3 = some ⟨b3, 0, none⟩ ∧ W.cell? ⟨b2, i, none⟩ = some (.int .i64 ((walkG g).fr.getD i 0)) ∧ W.cell? ⟨b3, i, none⟩ = some (.int .i64 ((walkG g).st.getD i 0)) from fun W hW => by
      have hp : (p, Obj.cells (metC a0 a2 a3 (walkG g).al.length (walkG g).fr.length (walkG g).st.length x0 x2 x3 mb) 73 (0, 0)) ∈ K := by rw [← hK, HMB.out]; exact List.mem_append_left _ (List.mem_cons_self ..)
      refine ⟨at_cell (hW.block hp) 2 _ rfl, at_cell (hW.block hp) 3 _ rfl, fun i hi => ?_⟩
      obtain ⟨b2, e2, d2⟩ := HR2.out.at_ hW (fun x hx => by rw [← hK, HMB.out]; simp [hx]) (icI_get (walkG g).fr i (by rw [Hfr.out]; exact hi))
      obtain ⟨b3, e3, d3⟩ := HR3.out.at_ hW (fun x hx => by rw [← hK, HMB.out]; simp [hx]) (icI_get (walkG g).st i (by rw [Hst.out]; exact hi))
      exact ⟨b2, b3, e2, e3, d2, d3⟩)
    have HG0 := Lib.hid (GR.none' HF.out.1 3 1)
    clear HF hK HMB HR2 HR3
    go_loopw [8, 10] (fun av ov wr => ∃ (n f : Nat) (L : List Int) (a : Option Addr) (cap : Nat), av = .int .i64 ((n : Int) - 1) ∧ ov = .slice a L.length cap ∧ n ≤ (walkG g).al.length ∧ n ≤ f ∧ L.length + n ≤ (walkG g).al.length ∧ L ++ pathF (walkG g) f n = pathF (walkG g) ((walkG g).al.length + 1) (ix + 1) ∧ GR w K 3 1 L.length (icI L) a cap wr) (fun av _ _ => (intOf av + 1).toNat)
    case atStart => exact ⟨ix + 1, (walkG g).al.length + 1, [], none, 0, by simp, rfl, by omega, by omega, by simp; omega, rfl, HG0.out⟩
    case round =>
      clear HG0
      obtain ⟨n, f, L, a, cap, rfl, rfl, hn, hf, hL, heq, hG⟩ := hrel
      obtain ⟨c2, c3, hcs⟩ := Hc.out _ hG.full
      cases n with
      | zero =>
        have hd : decide ((0 : Int) ≤ ((0 : Nat) : Int) - 1) = false := by decide
        have hpz : pathF (walkG g) f 0 = [] := by cases f <;> rfl
        rw [hpz, List.append_nil] at heq
        have hpos : 0 < L.length := by rw [heq, HST.out]; simp
        have hLP : L.reverse = P := by rw [heq]; exact HP.out
        obtain ⟨R, hr, hN⟩ := hG.rw HKN.out.1 HKN.out.2
        rcases hr with ⟨-, e, -⟩ | ⟨b, cur, rfl, h2, h3, h4, h5, h6, h7, rfl⟩
        · omega
        · rw [Nat.mul_one] at h6 h5
          have HREV := Lib.hid (reverse_any cap hN h6 (by omega))
          have HLP := Lib.hid hLP
          clear heq hG hN hcs c2 c3 hpz hLP h6 h7
          go_wp2_with (go_at_call 42; refine HREV.out.mono ?_; rintro e w5 ⟨rfl, cur2, hs2, hc2, hF2⟩; have HF2 := Lib.hid hF2; have HC2 := Lib.hid hc2; clear hF2 hc2)
          go_ret2
          have hfin : FKN w [(b, Obj.cells cur2 3 (0, 0))] w5 := FKN.drop (K' := K) (HF2.out.perm (permC fun x => by simp only [List.count_append, List.count_cons, List.append_assoc, List.cons_append]; ac_rfl))
          have hl : L.length = P.length := by rw [← HLP.out]; simp
          have hc3 := HC2.out
          rw [HLP.out] at hc3
          rw [hl] at hc3
          subst hgb
          exact ⟨some ⟨b, 0, none⟩, cap, by rw [← hl]; rfl, _, .inr ⟨b, cur2, rfl, h2, by omega, h4, by rw [hs2]; omega, by rw [Nat.mul_one]; exact hc3, by simp [icI], rfl⟩, hfin⟩
      | succ n =>
        obtain ⟨f', rfl⟩ : ∃ f', f = f' + 1 := ⟨f - 1, by omega⟩
        rw [pathF] at heq
        obtain ⟨b2, b3, rfl, rfl, d2, d3⟩ := hcs n (by omega)
        have hfo := HFO.out n (by omega)
        obtain ⟨x, cx, w5, hrun, hG5⟩ := hG.append1 hj hy0 hy1 hy2 rfl Try.underlying22 (.int .i64 ((walkG g).st.getD n 0)) rfl (by unfold maxLen; omega) (by omega)
        rw [← icI_snoc] at hG5
        have e : (((n + 1 : Nat) : Int) - 1) = n := by omega
        obtain ⟨c2', -, hcs'⟩ := Hc.out _ hG5.full
        obtain ⟨b2', b3', e2, e3, d2', -⟩ := hcs' n (by omega)
        cases e2
        have k1 : (n : Int) < (walkG g).st.length := by rw [Hst.out]; omega
        have k2 : (n : Int) < (walkG g).fr.length := by rw [Hfr.out]; omega
        have k3 : (0 : Int) ≤ n := by omega
        have k4 : ((n : Int)).toNat = n := by omega
        have hd : decide ((0 : Int) ≤ (n : Int)) = true := decide_eq_true k3
        have Heq := Lib.hid heq
        have HG5 := Lib.hid hG5
        have HR := Lib.hid hrun
        have Hfo := Lib.hid hfo
        clear heq hG hG5 hrun hcs hcs' d2 c2 hfo e3
        rw [e]
        generalize (walkG g).st.getD n 0 = sv at *
        obtain ⟨fv, hfv⟩ : ∃ fv, (walkG g).fr.getD n 0 = fv := ⟨_, rfl⟩
        rw [hfv] at d2' Heq Hfo
        clear hfv
        go_wp2_with (at_builtin; refine wpList_append_run _ rfl (.tmp 38) (.tmp 46) 22 rfl _ _ _ _ rfl rfl HR.out ?_)
        have hfo := Hfo.out
        go_roundw
        case rel => exact ⟨(fv + 1).toNat, f', L ++ [sv], x, cx, by rw [show (((fv + 1).toNat : Nat) : Int) - 1 = fv by omega], by simp, by omega, by omega, by simp; omega, by rw [List.append_assoc]; exact Heq.out, by simpa using HG5.out⟩
        case measure => simp [intOf]; omega
  · rw [if_neg hm] at hP
    simp only [if_neg hm]
    have hat : atM (walkG g).al k = none := by unfold atM; rw [if_neg hm]
    clear hm
    subst hP
    go_enter Try.func15, Try.ntmps15
    go_wp2_with (first
      | (go_at_call 18; refine HC.out.mono ?_; rintro e w2 ⟨rfl, hb2⟩; have H2 := Lib.hid (H1.out.grow hb2); have hq := H2.out.1.block (List.mem_cons_self ..); have c0 := at_cell hq 0 _ rfl; have c1 := at_cell hq 1 _ rfl; clear hb2 hq)
      | (go_at_call 37; refine (HW.out _ _ H2.out).mono ?_; rintro e w3 ⟨p, mb, rfl, hM⟩; obtain ⟨MB, ⟨o, a0, a2, a3, x0, x2, x3, R0, R2, R3, hI, r0, r2, r3, hMB⟩, hF⟩ := hM.out; have hp := hF.1.block (List.mem_append_left _ (by rw [hMB]; exact List.mem_cons_self ..)); have c3 := at_cell hp 1 (.map (some mb)) rfl; have hlk := hI.look (hF.1.block (List.mem_append_left _ (by rw [hMB]; exact List.mem_cons_of_mem _ (List.mem_cons_self ..)))) hkI; rw [hat] at hlk; simp only [Option.getD_none, Option.isSome_none] at hlk; have HF := Lib.hid hF; clear hM hF hI r0 r2 r3 hp hMB))
    go_ret2
    have hfin : FKN w [] w3 := FKN.drop (K' := MB ++ [(gb, Obj.cells #[.slice ar g.rs.length cr, .slice an g.ns.length cn] 25 (0, 0))]) (by rw [List.append_nil]; exact HF.out)
    exact ⟨none, 0, rfl, [], Rw.nil _ _ _, hfin⟩
end Go.Proofs.Ytplkogjnmjjjgaa
