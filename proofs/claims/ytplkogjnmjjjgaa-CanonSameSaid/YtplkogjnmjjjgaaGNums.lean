/- The walks of met.numbers and of the reference's At: where numbers stand. -/
import Derived.Test.YtplkogjnmjjjgaaGWalk
namespace Go.Proofs.Ytplkogjnmjjjgaa
open Go.ChangeShapes Go.WideShapes Go.ChangeAt Go.RowKit Go.Maps
set_option linter.unusedVariables false
set_option linter.unusedSimpArgs false

theorem atM_posP (al : List Int) (k : Int) : posP al k = if (atM al k).isSome then (atM al k).getD 0 else -1 := by
  unfold posP atM
  by_cases h : k ∈ al
  · rw [if_pos h, if_pos h]; rfl
  · rw [if_neg h, if_neg h]; rfl
/-- the reference's At -/
def RowI (w : World) (a : Option Addr) (zs : List Int) : Prop := ∀ i, i < zs.length → ∃ b off, a = some ⟨b, off, none⟩ ∧ w.cell? ⟨b, off + i, none⟩ = some (.int .i64 (zs.getD i 0))
theorem posP_nil_drop (zs : List Int) (k : Int) (i : Nat) (hi : i < zs.length) (hpre : ∀ j, j < i → zs.getD j 0 ≠ k) (h : zs.getD i 0 = k) : posP zs k = i := by
  unfold posP
  have hm : k ∈ zs := by rw [← h, List.getD_eq_getElem?_getD, List.getElem?_eq_getElem hi]; exact List.getElem_mem hi
  rw [if_pos hm]
  have h1 : zs.idxOf k = i := by
    have hlt := List.idxOf_lt_length_iff.2 hm
    have hg : zs[zs.idxOf k] = k := List.getElem_idxOf hlt
    rcases Nat.lt_trichotomy (zs.idxOf k) i with h2 | h2 | h2
    · exact absurd (by rw [List.getD_eq_getElem?_getD, List.getElem?_eq_getElem hlt]; exact hg) (hpre _ h2)
    · exact h2
    · exfalso
      have := List.not_of_lt_findIdx (p := (· == k)) (xs := zs) (i := i) (by simpa [List.idxOf] using h2)
      rw [List.getD_eq_getElem?_getD, List.getElem?_eq_getElem hi] at h
      simp at h
      simp [h] at this
  rw [h1]
set_option maxRecDepth 100000 in
theorem at_any {w : World} {a : Option Addr} {zs : List Int} (cap : Nat) (k : Int) (h : RowI w a zs) (hm : zs.length ≤ 100000) :
    Calls Try.prog 50 #[.slice a zs.length cap, .int .i64 k] w fun e w' => e = .returned (.int .i64 (posP zs k)) ∧ w' = w := by
  have H := Lib.hid h
  have l1 : (zs.length : Int) ≤ 100000 := by omega
  obtain ⟨P, hP⟩ : ∃ P, posP zs k = P := ⟨_, rfl⟩
  rw [hP]
  have HP := Lib.hid hP
  clear h hP
  go_enter Try.func50, Try.ntmps50
  go_wp2_with (fail)
  go_loopw [5] (fun iv wr => ∃ i : Nat, iv = .int .i64 i ∧ i ≤ zs.length ∧ wr = w ∧ ∀ j, j < i → zs.getD j 0 ≠ k) (fun iv _ => zs.length - (intOf iv).toNat)
  case atStart => exact ⟨0, rfl, by omega, rfl, fun j hj => by omega⟩
  case round =>
    obtain ⟨i, rfl, hi, rfl, hpre⟩ := hrel
    have Hpre := Lib.hid hpre
    clear hpre
    by_cases hlt : i < zs.length
    · obtain ⟨b, off, rfl, c0⟩ := H.out i hlt
      have k1 : (i : Int) < zs.length := by omega
      have k2 : (0 : Int) ≤ i := by omega
      have k3 : ((i : Int)).toNat = i := by omega
      by_cases he : zs.getD i 0 = k
      · have HX := Lib.hid (posP_nil_drop zs k i hlt Hpre.out he)
        rw [he] at c0
        clear he
        go_wp2_with (fail)
        go_ret
        refine ⟨?_, rfl⟩
        rw [← HP.out, HX.out]
        rfl
      · have hb : (zs.getD i 0 == k) = false := by rw [beq_eq_false_iff_ne]; exact he
        have Hn := Lib.hid (fun j (hj : j < i + 1) => (show zs.getD j 0 ≠ k by
          rcases Nat.lt_or_ge j i with h2 | h2
          · exact Hpre.out j h2
          · rwa [show j = i by omega]))
        clear he
        generalize zs.getD i 0 = z at *
        go_wp2_with (fail)
        go_roundw
        case rel => exact ⟨i + 1, by go_num, by omega, by trivial, Hn.out⟩
        case measure => simp [intOf]; omega
    · obtain rfl : i = zs.length := by omega
      have k1 : ¬ (zs.length : Int) < zs.length := by omega
      go_wp2_with (fail)
      go_ret
      refine ⟨?_, rfl⟩
      rw [← HP.out]
      unfold posP
      rw [if_neg (fun hm => by
        obtain ⟨j, hj, e⟩ := List.mem_iff_getElem.1 hm
        refine Hpre.out j hj ?_
        rw [List.getD_eq_getElem?_getD, List.getElem?_eq_getElem hj]
        exact e)]
      rfl
end Go.Proofs.Ytplkogjnmjjjgaa
