/- The walks of the reference's Load and Store. -/
import Derived.Test.YtoldbaandkgmkaaFramesRefNew
import Derived.Deep.RegionHeld3
import Derived.Deep.RegionLaw
namespace Go.Proofs.Ytoldbaandkgmkaa
open Go.ChangeShapes Go.WideShapes Go.ChangeAt Go.RowKit
set_option linter.unusedVariables false

set_option maxRecDepth 100000 in
set_option maxHeartbeats 1000000 in
theorem refLoad_any (T : Nat → Prop) (rb room page : Nat) (s : PS) (w : World) (hP : Rf T rb room page s w) (hk : s.ok room page) (f i : Int) :
    Calls Try.prog 17 #[.pointer (some ⟨rb, 0, none⟩), .int .i64 f, .int .i64 i] w fun e w' => e = .returned (.tuple #[.int .u64 (loadR page s f i), .int .i64 (wordE page s f i)]) ∧ w = w' := by
  obtain ⟨aL, cL, aB, cB, fs, hR, hF, -, -⟩ := hP
  have hlen : fs.length ≤ 4096 := by
    have := used_le hk
    have := hk.room1
    have := hF.many
    omega
  have c1 := at_cell hR.head 1 _ rfl
  have c2 := at_cell hR.head 2 _ rfl
  unfold loadR wordE
  by_cases h1 : has s f = true
  · obtain ⟨x, hx, hat, hfx⟩ := hF.at h1
    have Hat := Lib.hid (refAt_any rb room page cL cB aL aB fs s w hR hlen f x hat)
    have hx0 : (0 : Int) ≤ x := by omega
    by_cases h2 : i < 0 ∨ (page : Int) ≤ i
    · rw [if_neg (Classical.not_not.2 h1), if_pos h2, if_neg (by decide)]
      clear hR hF hat hfx h1 hk
      rcases h2 with h2 | h2
      · go_enter Try.func17, Try.ntmps17
        go_wp2_with (go_at_call 27; refine Hat.out.mono ?_; rintro e w1 ⟨rfl, rfl⟩)
        go_ret2
        exact ⟨rfl, rfl⟩
      · have h0 : ¬ i < 0 := by omega
        go_enter Try.func17, Try.ntmps17
        go_wp2_with (go_at_call 27; refine Hat.out.mono ?_; rintro e w1 ⟨rfl, rfl⟩)
        go_ret2
        exact ⟨rfl, rfl⟩
    · rw [if_neg (Classical.not_not.2 h1), if_neg h2, if_pos rfl]
      obtain ⟨g, rfl, -, -⟩ := hR.form (by omega)
      obtain ⟨-, cx⟩ := hR.cell hx
      obtain ⟨-, hw⟩ := hR.words x hx
      have hff : fF fs x = f.toNat := by omega
      rw [hff] at hw
      obtain ⟨j, rfl⟩ : ∃ j : Nat, i = j := ⟨i.toNat, by omega⟩
      rw [Int.toNat_natCast]
      have cj := at_cell hw j (.int .u64 (s.wd f.toNat j)) (by
        have := ftab_get page (fun j => Value.int .u64 (s.wd f.toNat j)) j
        rw [if_pos (by omega)] at this
        simpa using this)
      have hj0 : ¬ (j : Int) < 0 := by omega
      have hj1 : ¬ (page : Int) ≤ j := by omega
      have hj2 : (j : Int) < page := by omega
      have hx2 : (x : Int) < fs.length := by omega
      generalize (s.wd f.toNat j : Int) = y at *
      generalize fG fs x = gw at *
      clear hR hF hat hfx h1 hk hw hff h2
      go_enter Try.func17, Try.ntmps17
      go_wp2_with (go_at_call 27; refine Hat.out.mono ?_; rintro e w1 ⟨rfl, rfl⟩)
      go_ret2
      exact ⟨rfl, rfl⟩
  · have Hat := Lib.hid (refAt_any rb room page cL cB aL aB fs s w hR hlen f (-1) (hF.not h1))
    rw [if_pos h1, if_neg (by decide)]
    clear hR hF h1 hk
    go_enter Try.func17, Try.ntmps17
    go_wp2_with (go_at_call 27; refine Hat.out.mono ?_; rintro e w1 ⟨rfl, rfl⟩)
    go_ret2
    exact ⟨rfl, rfl⟩
end Go.Proofs.Ytoldbaandkgmkaa
