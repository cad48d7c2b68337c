/- What Set and Copy answer, the program's and the reference's alike. -/
import Derived.Test.YtdiooepnapdafaaRootsActs
namespace Go.Proofs.Ytdiooepnapdafaa
open Go.ChangeShapes Go.WideShapes Go.ChangeAt Go.RowKit

theorem Tab.only {g b k : Nat} {zs : List Int} {w w' : World} (h : Tab g b zs w) (o : Only k w w') (hg : g ≠ k) (hb : b ≠ k) : Tab g b zs w' :=
  ⟨o.keep h.row hg, o.keep h.head hb, h.few⟩
theorem RowAt.only {h k : Nat} {zs : List Int} {w w' : World} (hr : RowAt h zs w) (o : Only k w w') (hg : h ≠ k) : RowAt h zs w' := o.keep hr hg
theorem Only.refl (b : Nat) (w : World) : Only b w w := ⟨rfl, rfl, rfl, Nat.le_refl _, fun _ _ _ => rfl⟩

theorem set_both (g b h n : Nat) (zs : List Int) (i v : Int) (hn : n = zs.length) (hf : n ≤ 64) : ∃ (c : Int) (zs' : List Int), zs'.length = zs.length ∧
    (∀ w, Tab g b zs w → Calls Try.prog 7 #[.pointer (some ⟨b, 0, none⟩), .int .i64 i, .int .i64 v] w fun e w' => e = .returned (.int .i64 c) ∧ Tab g b zs' w' ∧ Only g w w') ∧
    (∀ w, RowAt h zs w → Calls Try.prog 8 #[.slice (some ⟨h, 0, none⟩) n n, .int .i64 i, .int .i64 v] w fun e w' => e = .returned (.int .i64 c) ∧ RowAt h zs' w' ∧ Only h w w') := by
  by_cases hi : i < 0 ∨ (n : Int) ≤ i
  · refine ⟨17, zs, rfl, fun w hT => ?_, fun w hR => ?_⟩
    · refine (set_no g b zs i v w hT (by rw [← hn]; exact hi)).mono ?_
      rintro e w1 ⟨rfl, hb⟩
      exact ⟨rfl, hT.grow hb, Only.of hb⟩
    · refine (refSet_no h i v n w hi hf).mono ?_
      rintro e w1 ⟨rfl, rfl⟩
      exact ⟨rfl, hR, Only.refl _ _⟩
  · obtain ⟨k, rfl⟩ : ∃ k : Nat, i = k := ⟨i.toNat, by omega⟩
    by_cases hv : v < 0
    · refine ⟨5, zs, rfl, fun w hT => ?_, fun w hR => ?_⟩
      · refine (set_neg g b zs k v w hT (by omega) hv).mono ?_
        rintro e w1 ⟨rfl, hb⟩
        exact ⟨rfl, hT.grow hb, Only.of hb⟩
      · refine (refSet_neg h zs k n v w hR hn (by omega) hv hf).mono ?_
        rintro e w1 ⟨rfl, rfl⟩
        exact ⟨rfl, hR, Only.refl _ _⟩
    · exact ⟨0, zs.set k v, by simp, fun w hT => set_yes g b zs k v w hT (by omega) (by omega), fun w hR => refSet_yes h zs k n v w hR hn (by omega) (by omega) hf⟩
theorem copy_both (g b h n : Nat) (zs : List Int) (i v : Int) (hn : n = zs.length) (hf : n ≤ 64) : ∃ (c : Int) (zs' : List Int), zs'.length = zs.length ∧
    (∀ w, Tab g b zs w → Calls Try.prog 9 #[.pointer (some ⟨b, 0, none⟩), .int .i64 i, .int .i64 v] w fun e w' => e = .returned (.int .i64 c) ∧ Tab g b zs' w' ∧ Only g w w') ∧
    (∀ w, RowAt h zs w → Calls Try.prog 10 #[.slice (some ⟨h, 0, none⟩) n n, .int .i64 i, .int .i64 v] w fun e w' => e = .returned (.int .i64 c) ∧ RowAt h zs' w' ∧ Only h w w') := by
  by_cases hi : (i < 0 ∨ (n : Int) ≤ i) ∨ (v < 0 ∨ (n : Int) ≤ v)
  · refine ⟨17, zs, rfl, fun w hT => ?_, fun w hR => ?_⟩
    · refine (copy_no g b zs i v w hT (by rw [← hn]; exact hi)).mono ?_
      rintro e w1 ⟨rfl, hb⟩
      exact ⟨rfl, hT.grow hb, Only.of hb⟩
    · refine (refCopy_no h zs i v n w hR hn hi hf).mono ?_
      rintro e w1 ⟨rfl, rfl⟩
      exact ⟨rfl, hR, Only.refl _ _⟩
  · obtain ⟨k, rfl⟩ : ∃ k : Nat, i = k := ⟨i.toNat, by omega⟩
    obtain ⟨j, rfl⟩ : ∃ j : Nat, v = j := ⟨v.toNat, by omega⟩
    exact ⟨0, zs.set k (zs.getD j 0), by simp, fun w hT => copy_yes g b zs k j w hT (by omega) (by omega), fun w hR => refCopy_yes h zs k j n w hR hn (by omega) (by omega) hf⟩
theorem get_both (g b h n : Nat) (zs : List Int) (i : Int) (hn : n = zs.length) (hf : n ≤ 64) : ∃ (x c : Int),
    (∀ w, Tab g b zs w → Calls Try.prog 14 #[.pointer (some ⟨b, 0, none⟩), .int .i64 i] w fun e w' => e = .returned (.tuple #[.int .i64 x, .int .i64 c]) ∧ Below w.heap.size w w') ∧
    (∀ w, RowAt h zs w → Calls Try.prog 15 #[.slice (some ⟨h, 0, none⟩) n n, .int .i64 i] w fun e w' => e = .returned (.tuple #[.int .i64 x, .int .i64 c]) ∧ w = w') := by
  by_cases hi : i < 0 ∨ (n : Int) ≤ i
  · exact ⟨0, 17, fun w hT => get_no g b zs i w hT (by rw [← hn]; exact hi), fun w _ => refGet_no h i n w hi hf⟩
  · obtain ⟨k, rfl⟩ : ∃ k : Nat, i = k := ⟨i.toNat, by omega⟩
    exact ⟨zs.getD k 0, 0, fun w hT => get_yes g b zs k w hT (by omega), fun w hR => refGet_yes h zs k n w hR hn (by omega) hf⟩
end Go.Proofs.Ytdiooepnapdafaa
