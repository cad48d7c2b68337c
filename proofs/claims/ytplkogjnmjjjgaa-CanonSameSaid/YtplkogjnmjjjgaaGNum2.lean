/- The walk of met.numbers. -/
import Derived.Test.YtplkogjnmjjjgaaGNums
namespace Go.Proofs.Ytplkogjnmjjjgaa
open Go.ChangeShapes Go.WideShapes Go.ChangeAt Go.RowKit Go.Maps
set_option linter.unusedVariables false
set_option linter.unusedSimpArgs false

set_option maxRecDepth 100000 in
set_option maxHeartbeats 2000000 in
theorem numbers_any {W0 w : World} {p mb : Nat} {S : Mt} {K : List (Nat × Obj)} {o : Obj} {cs : Array Value} (h : FKN W0 K w) (hp : (p, .cells cs 73 (0, 0)) ∈ K) (hcs : cs[1]? = some (.map (some mb))) (hmb : (mb, o) ∈ K) (hM : IM S.al.length (atM S.al) o) {a : Option Addr} {zs : List Int} (cap : Nat) (hz : IntRow .i64 W0 a zs) (hm : zs.length ≤ 4000) (hin : ∀ z ∈ zs, IsI z) :
    Calls Try.prog 38 #[.pointer (some ⟨p, 0, none⟩), .slice a zs.length cap] w fun e w' => ∃ al cap', e = .returned (.slice al zs.length cap') ∧ ∃ R, Rw W0.heap.size 3 1 zs.length (icI (zs.map (posP S.al))) al cap' R ∧ FKN W0 (R ++ K) w' := by
  obtain ⟨i1, hj, hy0, hy1, hy2⟩ := info_parts int_info
  have l1 : (zs.length : Int) ≤ 4000 := by omega
  have HM := Lib.hid hM
  have HN := Lib.hid h.2
  have HZ := Lib.hid hz
  have Hin := Lib.hid hin
  have HG := Lib.hid (show GR W0 K 3 1 0 [] none 0 w from GR.none' h.1 _ _)
  have Hp := Lib.hid (show ∀ W, KB W0 K W → W.cell? ⟨p, 1, none⟩ = some (.map (some mb)) ∧ W.heap[mb]? = some o from fun W hW => ⟨at_cell (hW.block hp) 1 _ hcs, hW.block hmb⟩)
  clear hM h hz hin hp hcs hmb
  go_enter Try.func38, Try.ntmps38
  go_wp2_with (fail)
  go_loopw [5, 12] (fun r iv wr => ∃ (k : Nat) (al : Option Addr) (cap2 : Nat), r = .slice al k cap2 ∧ iv = .int .i64 k ∧ k ≤ zs.length ∧ GR W0 K 3 1 k (icI ((zs.take k).map (posP S.al))) al cap2 wr) (fun _ iv _ => zs.length - (intOf iv).toNat)
  case atStart => exact ⟨0, none, 0, rfl, rfl, by omega, HG.out⟩
  case round =>
    clear HG
    obtain ⟨k, al, cap2, rfl, rfl, hk, hG⟩ := hrel
    by_cases hlt : k < zs.length
    · obtain ⟨b, off, ha, hc⟩ := (HZ.out.below hG.below).cell
      obtain rfl : a = some ⟨b, off, none⟩ := by
        rcases ha with e | e
        · rw [e] at hlt; simp at hlt
        · exact e
      have q0 := hc k hlt
      have htk : zs.take (k + 1) = zs.take k ++ [zs.getD k 0] := by
        rw [List.take_add_one, List.getElem?_eq_getElem hlt, List.getD_eq_getElem?_getD, List.getElem?_eq_getElem hlt]
        rfl
      have hI := Hin.out (zs.getD k 0) (by rw [List.getD_eq_getElem?_getD, List.getElem?_eq_getElem hlt]; exact List.getElem_mem hlt)
      generalize zs.getD k 0 = z at *
      obtain ⟨u1, u2⟩ := Hp.out wr hG.full
      have hlk := HM.out.look u2 hI
      obtain ⟨x, cx, w5, hrun, hG5⟩ := hG.append1 hj hy0 hy1 hy2 rfl Try.underlying22 (.int .i64 (posP S.al z)) rfl (by unfold maxLen; omega) (by omega)
      rw [← icI_snoc] at hG5
      have htm : (zs.take (k + 1)).map (posP S.al) = (zs.take k).map (posP S.al) ++ [posP S.al z] := by rw [htk, List.map_append]; rfl
      have Htk := Lib.hid htm
      clear htm
      have hps := atM_posP S.al z
      have H5 := Lib.hid hG5
      have k1 : (k : Int) < zs.length := by omega
      have k2 : (0 : Int) ≤ k := by omega
      have k3 : ((k : Int)).toNat = k := by omega
      clear hG hG5 hc ha u2 htk hI
      generalize posP S.al z = v at *
      generalize (atM S.al z).getD 0 = y at *
      generalize (atM S.al z).isSome = ok at *
      cases ok
      all_goals
        simp only [if_true, if_false, Bool.false_eq_true] at hps
        subst hps
        have HR := Lib.hid hrun
        clear hrun
        go_wp2_with (at_builtin; refine wpList_append_run _ rfl (.tmp 27) (.tmp 29) 22 rfl _ _ _ _ rfl rfl HR.out ?_)
        go_roundw
        case rel => exact ⟨k + 1, _, _, rfl, by go_num, by omega, by rw [Htk.out]; exact H5.out⟩
        case measure => simp [intOf]; omega
    · obtain rfl : k = zs.length := by omega
      have k1 : ¬ (zs.length : Int) < zs.length := by omega
      rw [List.take_length] at hG
      have HF := Lib.hid hG
      clear hG
      go_wp2_with (fail)
      obtain ⟨R, hr, hN⟩ := HF.out.rw HN.out.1 HN.out.2
      have HFIN := Lib.hid hN
      have HRR := Lib.hid hr
      clear hN hr
      go_ret
      exact ⟨al, cap2, rfl, R, HRR.out, HFIN.out⟩
end Go.Proofs.Ytplkogjnmjjjgaa
