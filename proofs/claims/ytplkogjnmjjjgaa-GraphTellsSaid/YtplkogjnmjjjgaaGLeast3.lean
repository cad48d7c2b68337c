/- Plain: the paths increase along the walk; each is a path; it is the least one. -/
import Derived.Test.YtplkogjnmjjjgaaGLeast2
import Derived.Test.YtplkogjnmjjjgaaGPath1
namespace Go.Proofs.Ytplkogjnmjjjgaa
set_option linter.unusedVariables false
set_option linter.unusedSimpArgs false

theorem pathF_fuel {S : Mt} (h : FOk S) : ∀ (n f f' : Nat), n ≤ f → n ≤ f' → n ≤ S.al.length → pathF S f n = pathF S f' n := by
  intro n
  induction n using Nat.strongRecOn with
  | ind n ih =>
    intro f f' h1 h2 h3
    cases n with
    | zero => cases f <;> cases f' <;> rfl
    | succ n =>
      obtain ⟨a, rfl⟩ : ∃ a, f = a + 1 := ⟨f - 1, by omega⟩
      obtain ⟨b, rfl⟩ : ∃ b, f' = b + 1 := ⟨f' - 1, by omega⟩
      have := h n (by omega)
      rw [pathF, pathF, ih (S.fr.getD n 0 + 1).toNat (by omega) a b (by omega) (by omega) (by omega)]
/-- the path of the node in place k -/
def PT (S : Mt) (k : Nat) : List Int := (pathF S (k + 1) (k + 1)).reverse
theorem PT_rec {S : Mt} (h : FOk S) {k : Nat} (hk : k < S.al.length) : PT S k = (if S.fr.getD k 0 < 0 then [] else PT S (S.fr.getD k 0).toNat) ++ [S.st.getD k 0] := by
  have hf := h k hk
  unfold PT
  rw [pathF, List.reverse_cons]
  congr 1
  by_cases e : S.fr.getD k 0 < 0
  · rw [if_pos e, show (S.fr.getD k 0 + 1).toNat = 0 by omega]
    cases k <;> rfl
  · rw [if_neg e, show (S.fr.getD k 0 + 1).toNat = (S.fr.getD k 0).toNat + 1 by omega, pathF_fuel h ((S.fr.getD k 0).toNat + 1) k ((S.fr.getD k 0).toNat + 1) (by omega) (Nat.le_refl _) (by omega)]
theorem PT_pos {S : Mt} (h : FOk S) {k : Nat} (hk : k < S.al.length) : 1 ≤ (PT S k).length := by
  rw [PT_rec h hk]
  simp
theorem PT_mono {g : Gr} {S : Mt} {f s : Int} (hw : Wi g S f s) (h : FOk S) : ∀ k' k, k < k' → k' < S.al.length → lessP (PT S k) (PT S k') = true := by
  intro k'
  induction k' using Nat.strongRecOn with
  | ind k' ih =>
    intro k hk hk'
    have h1 := h k (by omega)
    have h2 := h k' hk'
    rw [PT_rec h hk', PT_rec h (show k < S.al.length by omega)]
    rcases hw.inc k k' hk hk' with e | ⟨e1, e2⟩
    · by_cases n : S.fr.getD k 0 < 0
      · rw [if_pos n, if_neg (show ¬ S.fr.getD k' 0 < 0 by omega)]
        have := PT_pos h (show (S.fr.getD k' 0).toNat < S.al.length by omega)
        refine lessP_iff.2 (.inl ?_)
        rw [List.length_append, List.length_append]
        simp only [List.length_nil, List.length_singleton]
        omega
      · rw [if_neg n, if_neg (show ¬ S.fr.getD k' 0 < 0 by omega)]
        exact lessP_app (ih (S.fr.getD k' 0).toNat (by omega) (S.fr.getD k 0).toNat (by omega) (by omega))
    · rw [e1]
      exact lessP_last e2
theorem PT_path {g : Gr} {S : Mt} {f s : Int} (hw : Wi g S f s) (h : FOk S) (h0 : ∀ x ∈ S.al, 0 ≤ x) : ∀ k, k < S.al.length → IsPath g (S.al.getD k 0) (PT S k) := by
  intro k
  induction k using Nat.strongRecOn with
  | ind k ih =>
    intro hk
    have hp := h0 _ (getD_mem 0 hk)
    obtain ⟨hs0, hsrc⟩ := hw.src k hk
    rw [PT_rec h hk]
    obtain ⟨i, hi⟩ : ∃ i : Nat, S.st.getD k 0 = i := ⟨(S.st.getD k 0).toNat, by omega⟩
    rw [hi] at hsrc ⊢
    rw [Int.toNat_natCast] at hsrc
    rcases hsrc with ⟨e1, e2, e3⟩ | ⟨e1, e2, e3, e4⟩
    · rw [if_pos (show S.fr.getD k 0 < 0 by omega), List.nil_append]
      exact .root e2 e3 hp
    · rw [if_neg (show ¬ S.fr.getD k 0 < 0 by omega)]
      exact .step (ih (S.fr.getD k 0).toNat (by omega) (by omega)) e3 e4 hp
end Go.Proofs.Ytplkogjnmjjjgaa
