/- A map after set has made a table; and set in one contract: of what was there only the map's blocks change. -/
import Derived.Test.YtkcijlndblbidaaPagesSet4
import Derived.Test.YtkcijlndblbidaaSep
namespace Go.Proofs.Ytkcijlndblbidaa.Pg
open Go.ChangeShapes Go.WideShapes Go.ChangeAt Go.RowKit

theorem tcells_nil {F : Nat → Nat} {i : Nat} (h : ∀ j, j < 256 → F (i * 256 + j) = 0) : tcells F i = tzero := by
  unfold tzero tcells
  have hc : cntF F i 256 = cntF (fun _ => 0) 0 256 := by
    have : ∀ m, m ≤ 256 → cntF F i m = 0 := by
      intro m
      induction m with
      | zero => intro _; rfl
      | succ m ih => intro hm; simp [cntF, ih (by omega), h m (by omega)]
    rw [this 256 (Nat.le_refl _), cnt_zeros]
  rw [hc]
  congr 2
  apply List.map_congr_left
  intro q hq
  rw [h q (by simpa using hq)]
theorem PMap.put_new {b tb np : Nat} {ts : List (Option Nat)} {F : Nat → Nat} {w : World} (hM : PMap b tb np ts F w) {i j x : Nat} (hi : i < ts.length) (hj : j < 256) (hk : ts.getD i Option.none = Option.none) (hx : x ≠ 0) (hx2 : x < 4294967296) :
    PMap b tb np (ts.set i (Option.some w.heap.size)) (turn F (i * 256 + j) x) (((w.setCell ⟨tb, i, Option.none⟩ (.pointer (Option.some ⟨w.heap.size, 0, Option.none⟩))).setCell ⟨b, 2, Option.none⟩ (.int .i64 (sumF F ts.length + 1))).alloc (.cells ((tzero.setIfInBounds j (.int .u32 x)).setIfInBounds 256 (.int .i64 1)) 231)) := by
  have hbt : tb ≠ b := by
    intro e
    have h1 := hM.row
    rw [e, hM.head] at h1
    simp at h1
  have hzero := hM.none i hi hk
  have h0 := hzero j hj
  have hs := sum_turn (F := F) (m := ts.length) hi hj hx h0
  have hc := cnt_turn (F := F) (m := 256) hj hx h0
  have hc0 : cntF F i 256 = 0 := by
    have := tcells_cnt F i
    rw [tcells_nil hzero, tzero_cnt] at this
    simpa using this.symm
  have hsz : ((w.setCell ⟨tb, i, Option.none⟩ (.pointer (Option.some ⟨w.heap.size, 0, Option.none⟩))).setCell ⟨b, 2, Option.none⟩ (.int .i64 (sumF F ts.length + 1))).heap.size = w.heap.size := by simp [World.setCell]
  have old : ∀ k, k < w.heap.size → k ≠ b → k ≠ tb → (((w.setCell ⟨tb, i, Option.none⟩ (.pointer (Option.some ⟨w.heap.size, 0, Option.none⟩))).setCell ⟨b, 2, Option.none⟩ (.int .i64 (sumF F ts.length + 1))).alloc (.cells ((tzero.setIfInBounds j (.int .u32 x)).setIfInBounds 256 (.int .i64 1)) 231)).heap[k]? = w.heap[k]? := by
    intro k hk h1 h2
    rw [Below.heap_alloc _ _ k (by omega), Below.heap_setCell _ ⟨b, 2, Option.none⟩ _ k h1, Below.heap_setCell _ ⟨tb, i, Option.none⟩ _ k h2]
  have hb1 : (w.setCell ⟨tb, i, Option.none⟩ (.pointer (Option.some ⟨w.heap.size, 0, Option.none⟩))).heap[b]? = Option.some (.cells #[.slice (Option.some ⟨tb, 0, Option.none⟩) ts.length ts.length, .int .i64 np, .int .i64 (sumF F ts.length)] 209 (0, 0)) := by
    rw [Below.heap_setCell _ ⟨tb, i, Option.none⟩ _ b (fun e => hbt e.symm)]
    exact hM.head
  have lb := block_lt hM.head
  have lt := block_lt hM.row
  refine ⟨?_, ?_, by rw [List.length_set]; exact hM.many, ?_, ?_, ?_, ?_⟩
  · rw [Below.heap_alloc _ _ b (by omega), heap_setCell_same _ b 2 _ _ _ hb1, List.length_set, hs]
    simp
  · rw [Below.heap_alloc _ _ tb (by omega), Below.heap_setCell _ ⟨b, 2, Option.none⟩ _ tb hbt, heap_setCell_same _ tb i _ _ _ hM.row]
    simp [List.map_set, ptr]
  · intro i' hi' hn q hq
    rw [List.length_set] at hi'
    by_cases e : i' = i
    · rw [getD_set hi, if_pos e] at hn; cases hn
    · rw [getD_set hi, if_neg e] at hn
      have : turn F (i * 256 + j) x (i' * 256 + q) = F (i' * 256 + q) := if_neg (by omega)
      rw [this]
      exact hM.none i' hi' hn q hq
  · intro i' k' hi' hk'
    rw [List.length_set] at hi'
    rw [getD_set hi] at hk'
    by_cases e : i' = i
    · rw [if_pos e] at hk'
      obtain rfl : w.heap.size = k' := by simpa using hk'
      subst e
      refine ⟨?_, by omega⟩
      have := heap_alloc_new ((w.setCell ⟨tb, i', Option.none⟩ (.pointer (Option.some ⟨w.heap.size, 0, Option.none⟩))).setCell ⟨b, 2, Option.none⟩ (.int .i64 (sumF F ts.length + 1))) (.cells ((tzero.setIfInBounds j (.int .u32 x)).setIfInBounds 256 (.int .i64 1)) 231)
      rw [hsz] at this
      rw [this, ← tcells_nil hzero, show (1 : Int) = ((1 : Nat) : Int) from rfl, tcells_turn hj 1 (by omega)]
    · rw [if_neg e] at hk'
      have hT' := hM.some i' k' hi' hk'
      have hk'b : k' ≠ b := by
        intro e
        have h1 := hM.head
        rw [← e, hT'.1] at h1
        simp at h1
      have hk't : k' ≠ tb := by
        intro e
        have h1 := hM.row
        rw [← e, hT'.1] at h1
        simp at h1
      rw [tcells_other hj e, cnt_other hj e, old k' (block_lt hT'.1) hk'b hk't]
      exact hT'
  · intro p q r hp hq h1 h2
    rw [List.length_set] at hp hq
    rw [getD_set hi] at h1 h2
    by_cases e1 : p = i
    · by_cases e2 : q = i
      · omega
      · rw [if_pos e1] at h1
        rw [if_neg e2] at h2
        have := block_lt (hM.some q r hq h2).1
        simp at h1
        omega
    · rw [if_neg e1] at h1
      by_cases e2 : q = i
      · rw [if_pos e2] at h2
        have := block_lt (hM.some p r hp h1).1
        simp at h2
        omega
      · rw [if_neg e2] at h2
        exact hM.apart p q r hp hq h1 h2
  · intro p
    unfold turn
    split
    · exact hx2
    · exact hM.small p

/-- a map in block b whose blocks are among S, and that has np pages with the frames F -/
def Mp (S : Nat → Prop) (b np : Nat) (F : Nat → Nat) (w : World) : Prop :=
  ∃ tb ts, PMap b tb np ts F w ∧ (S b ∧ S tb ∧ ∀ i k, i < ts.length → ts.getD i none = some k → S k) ∧ In S w ∧ ts.length = (np + 255) / 256
theorem Mp.in {S : Nat → Prop} {b np : Nat} {F : Nat → Nat} {w : World} (h : Mp S b np F w) : In S w := by
  obtain ⟨_, _, _, _, h, _⟩ := h; exact h
theorem Mp.keep {S T : Nat → Prop} {b np : Nat} {F : Nat → Nat} {w w' : World} (h : Mp S b np F w) (c : Chg T w w') (a : Apart S T) : Mp S b np F w' := by
  obtain ⟨tb, ts, hM, ⟨s1, s2, s3⟩, hI, hl⟩ := h
  exact ⟨tb, ts, ⟨c.keep hM.head (fun t => a _ s1 t), c.keep hM.row (fun t => a _ s2 t), hM.many, hM.none, fun i k hi hk => ⟨c.keep (hM.some i k hi hk).1 (fun t => a _ (s3 i k hi hk) t), (hM.some i k hi hk).2⟩, hM.apart, hM.small⟩, ⟨s1, s2, s3⟩, hI.mono c.size, hl⟩
theorem Mp.grow {S : Nat → Prop} {b np : Nat} {F : Nat → Nat} {w w' : World} (h : Mp S b np F w) (c : Below w.heap.size w w') : Mp S b np F w' :=
  h.keep (T := fun _ => False) (Chg.of c) (fun _ _ h => h)
theorem set_mp (S : Nat → Prop) (b np : Nat) (F : Nat → Nat) (w : World) (hM : Mp S b np F w) (p x : Nat) (hp : p < np) (hx2 : x < 4294967296) (hx : x = 0 ↔ F p ≠ 0) :
    Calls Try.prog 149 #[.pointer (some ⟨b, 0, none⟩), .int .i64 p, .int .u32 x] w fun e w' => e = .returned (.tuple #[]) ∧ ∃ S', Mp S' b np (turn F p x) w' ∧ Chg S w w' ∧ Grew S S' w := by
  obtain ⟨tb, ts, hM, ⟨s1, s2, s3⟩, hI, hl⟩ := hM
  have hm := hM.many
  obtain ⟨i, j, hi, hj, rfl⟩ : ∃ i j, i < ts.length ∧ j < 256 ∧ p = i * 256 + j := ⟨p / 256, p % 256, by omega, by omega, by omega⟩
  by_cases h0 : x = 0
  · subst h0
    have hF := hx.1 rfl
    cases hk : ts.getD i none with
    | none => exact absurd (hM.none i hi hk j hj) hF
    | some k =>
      have hc := (hM.some i k hi hk).2
      by_cases h1 : cntF F i 256 = 1
      · refine (set_last b tb np ts F w hM i j k hi hj hk hF h1).mono ?_
        rintro e w' ⟨rfl, rfl⟩
        refine ⟨rfl, S, ⟨tb, _, hM.clear_last hi hj hk hF h1 _ _, ⟨s1, s2, ?_⟩, ?_, by rw [List.length_set]; exact hl⟩, ?_, Grew.refl _ _⟩
        · intro i' k' hi' hk'
          rw [List.length_set] at hi'
          rw [getD_set hi] at hk'
          split at hk'
          · cases hk'
          · exact s3 i' k' hi' hk'
        · exact hI.mono (by simp [World.setCell])
        · exact ((((Chg.refl S w).set (.inl (s3 i k hi hk)) _).set (.inl (s3 i k hi hk)) _).set (.inl s1) _).set (.inl s2) _
      · refine (set_clear b tb np ts F w hM i j k hi hj hk hF (by omega)).mono ?_
        rintro e w' ⟨rfl, rfl⟩
        refine ⟨rfl, S, ⟨tb, _, hM.clear_there hi hj hk hF (by omega), ⟨s1, s2, s3⟩, hI.mono (by simp [World.setCell]), hl⟩, ?_, Grew.refl _ _⟩
        exact (((Chg.refl S w).set (.inl (s3 i k hi hk)) _).set (.inl (s3 i k hi hk)) _).set (.inl s1) _
  · have hF : F (i * 256 + j) = 0 := by
      apply Classical.byContradiction
      intro h
      exact h0 (hx.2 h)
    cases hk : ts.getD i none with
    | none =>
      refine (set_new b tb np ts F w hM i j x hi hj hk h0 hx2).mono ?_
      rintro e w' ⟨rfl, rfl⟩
      refine ⟨rfl, fun k => S k ∨ k = w.heap.size, ⟨tb, _, hM.put_new hi hj hk h0 hx2, ⟨.inl s1, .inl s2, ?_⟩, ?_, by rw [List.length_set]; exact hl⟩, ?_, ?_⟩
      · intro i' k' hi' hk'
        rw [List.length_set] at hi'
        rw [getD_set hi] at hk'
        split at hk'
        · right; simpa using hk'.symm
        · exact .inl (s3 i' k' hi' hk')
      · intro q hq
        rcases hq with a | a
        · have := hI q a; simp [World.setCell]; omega
        · simp [World.setCell]; omega
      · exact (((Chg.refl S w).set (.inl s2) _).set (.inl s1) _).alloc _
      · intro q hq
        rcases hq with a | a
        · exact .inl a
        · exact .inr (by omega)
    | some k =>
      refine (set_there b tb np ts F w hM i j k x hi hj hk h0 hx2 hF).mono ?_
      rintro e w' ⟨rfl, rfl⟩
      refine ⟨rfl, S, ⟨tb, _, hM.put_there hi hj hk h0 hx2 hF, ⟨s1, s2, s3⟩, hI.mono (by simp [World.setCell]), hl⟩, ?_, Grew.refl _ _⟩
      exact (((Chg.refl S w).set (.inl (s3 i k hi hk)) _).set (.inl (s3 i k hi hk)) _).set (.inl s1) _
end Go.Proofs.Ytkcijlndblbidaa.Pg
