/- The walks of package header's functions, each once. -/
import Derived.Test.YtibhlblieeflbaaKit
namespace Go.Proofs.Ytibhlblieeflbaa
open Go.ChangeShapes Go.WideShapes Go.ChangeAt Go.RowKit

/-- a header that may be -/
def Ok (p f o : Int) : Prop := 0 ≤ p ∧ p ≤ 255 ∧ 0 ≤ f ∧ f ≤ 255 ∧ 0 ≤ o ∧ o ≤ 255 ∧ p + f + o ≤ 255
instance (p f o : Int) : Decidable (Ok p f o) := by unfold Ok; infer_instance
/-- the code of a header that is checked -/
def code (p f o : Int) : Int := if Ok p f o then 0 else 15
theorem code_ok {p f o : Int} (h : Ok p f o) : code p f o = 0 := if_pos h
theorem code_bad {p f o : Int} (h : ¬ Ok p f o) : code p f o = 15 := if_neg h
/-- a header's value -/
def hv (p f o : Int) : Value := .agg #[.int .i64 p, .int .i64 f, .int .i64 o]

/-- a byte's number -/
def In8 (n : Int) : Prop := 0 ≤ n ∧ n ≤ 255

theorem idx0 (a b c : Value) (w : World) : (Instr.index 43 (.agg #[a, b, c]) (.int .i64 0)).run Try.prog w = .ok a w := by kernel_rfl
theorem idx1 (a b c : Value) (w : World) : (Instr.index 43 (.agg #[a, b, c]) (.int .i64 1)).run Try.prog w = .ok b w := by kernel_rfl
theorem idx2 (a b c : Value) (w : World) : (Instr.index 43 (.agg #[a, b, c]) (.int .i64 2)).run Try.prog w = .ok c w := by kernel_rfl

theorem check_any (p f o : Int) (w : World) :
    Calls Try.prog 10 #[hv p f o] w fun e w' => e = .returned (.int .i64 (code p f o)) ∧ Below w.heap.size w w' := by
  unfold hv
  have i0 := idx0
  have i1 := idx1
  have i2 := idx2
  have hb := below_new w (.cells #[.int .i64 p, .int .i64 f, .int .i64 o] 23)
  go_enter Try.func10, Try.ntmps10
  go_wp2
  go_loop [12] (fun i => i = .int .i64 0 ∨ (i = .int .i64 1 ∧ In8 p) ∨ (i = .int .i64 2 ∧ In8 p ∧ In8 f) ∨ (i = .int .i64 3 ∧ In8 p ∧ In8 f ∧ In8 o)) (fun i => 3 - (intOf i).toNat)
  case atStart => exact .inl rfl
  case round =>
    rcases hrel with rfl | ⟨rfl, hp⟩ | ⟨rfl, hp, hf⟩ | ⟨rfl, hp, hf, ho⟩
    · by_cases h0 : p < 0
      · have hc := code_bad (p := p) (f := f) (o := o) (fun h => by unfold Ok at h; omega)
        go_wp2
        go_ret
        exact ⟨rfl, hb⟩
      · by_cases h1 : 256 ≤ p
        · have hc := code_bad (p := p) (f := f) (o := o) (fun h => by unfold Ok at h; omega)
          go_wp2
          go_ret
          exact ⟨rfl, hb⟩
        · have hp : In8 p := ⟨by omega, by omega⟩
          go_wp2
          go_round
          case rel => exact .inr (.inl ⟨rfl, hp⟩)
          case measure => simp [intOf]
    · by_cases h0 : f < 0
      · have hc := code_bad (p := p) (f := f) (o := o) (fun h => by unfold Ok at h; omega)
        go_wp2
        go_ret
        exact ⟨rfl, hb⟩
      · by_cases h1 : 256 ≤ f
        · have hc := code_bad (p := p) (f := f) (o := o) (fun h => by unfold Ok at h; omega)
          go_wp2
          go_ret
          exact ⟨rfl, hb⟩
        · have hf : In8 f := ⟨by omega, by omega⟩
          go_wp2
          go_round
          case rel => exact .inr (.inr (.inl ⟨rfl, hp, hf⟩))
          case measure => simp [intOf]
    · by_cases h0 : o < 0
      · have hc := code_bad (p := p) (f := f) (o := o) (fun h => by unfold Ok at h; omega)
        go_wp2
        go_ret
        exact ⟨rfl, hb⟩
      · by_cases h1 : 256 ≤ o
        · have hc := code_bad (p := p) (f := f) (o := o) (fun h => by unfold Ok at h; omega)
          go_wp2
          go_ret
          exact ⟨rfl, hb⟩
        · have ho : In8 o := ⟨by omega, by omega⟩
          go_wp2
          go_round
          case rel => exact .inr (.inr (.inr ⟨rfl, hp, hf, ho⟩))
          case measure => simp [intOf]
    · obtain ⟨hp0, hp1⟩ := hp
      obtain ⟨hf0, hf1⟩ := hf
      obtain ⟨ho0, ho1⟩ := ho
      by_cases h1 : 256 ≤ p + f + o
      · have hc := code_bad (p := p) (f := f) (o := o) (fun h => by unfold Ok at h; omega)
        go_wp2
        go_ret
        exact ⟨rfl, hb⟩
      · have hc := code_ok (p := p) (f := f) (o := o) (by unfold Ok; omega)
        go_wp2
        go_ret
        exact ⟨rfl, hb⟩
end Go.Proofs.Ytibhlblieeflbaa
