/- Where a part ends: the reference's Close; and the acts' meaning, plain. -/
import Derived.Test.YtkcijlndblbidaaTActsW
namespace Go.Proofs.Ytkcijlndblbidaa
open Go.ChangeShapes Go.WideShapes Go.ChangeAt Go.RowKit
set_option linter.unusedVariables false

/-- a slice whose cells are these -/
def RowC (w : World) (al : Option Addr) (xs : List Value) : Prop := ∀ (j : Nat) (v : Value), xs[j]? = some v → ∃ b, al = some ⟨b, 0, none⟩ ∧ w.cell? ⟨b, j, none⟩ = some v
theorem RowC.act {w : World} {al : Option Addr} {l : List RA} (h : RowC w al (racells l)) {i : Nat} (hi : i < l.length) : ∃ b, al = some ⟨b, 0, none⟩ ∧ w.cell? ⟨b, i * 4, none⟩ = some (.int .i64 (l.getD i default).k) ∧ w.cell? ⟨b, i * 4 + 1, none⟩ = some (.int .i64 (l.getD i default).a) ∧ w.cell? ⟨b, i * 4 + 2, none⟩ = some (.int .u64 (l.getD i default).w) ∧ w.cell? ⟨b, i * 4 + 3, none⟩ = some (.int .i64 (l.getD i default).e) := by
  obtain ⟨b, hb, c0⟩ := h _ _ ((racells_get l i 0 hi (by omega)).trans rfl)
  obtain ⟨b1, hb1, c1⟩ := h _ _ ((racells_get l i 1 hi (by omega)).trans rfl)
  obtain ⟨b2, hb2, c2⟩ := h _ _ ((racells_get l i 2 hi (by omega)).trans rfl)
  obtain ⟨b3, hb3, c3⟩ := h _ _ ((racells_get l i 3 hi (by omega)).trans rfl)
  rw [hb] at hb1 hb2 hb3
  cases hb1
  cases hb2
  cases hb3
  exact ⟨b, hb, c0, c1, c2, c3⟩
def deepR (x : RA) (d : Int) : Int := (if x.k = 3 then d + 1 else d) - (if x.k = 4 then 1 else 0)
def closeG (l : List RA) (i : Nat) (d : Int) : Nat :=
  if i < l.length then (if deepR (l.getD i default) d = 0 then i else closeG l (i + 1) (deepR (l.getD i default) d)) else l.length
termination_by l.length - i
theorem closeG_ge (l : List RA) (i : Nat) (d : Int) (h : i ≤ l.length) : i ≤ closeG l i d ∧ closeG l i d ≤ l.length := by
  induction i, d using closeG.induct (l := l) with
  | case1 i d hlt hd => rw [closeG, if_pos hlt, if_pos hd]; omega
  | case2 i d hlt hd ih =>
    rw [closeG, if_pos hlt, if_neg hd]
    have := ih (by omega)
    omega
  | case3 i d hlt => rw [closeG, if_neg hlt]; omega
set_option maxRecDepth 100000 in
set_option maxHeartbeats 2000000 in
theorem close_any {w : World} {al : Option Addr} {l : List RA} (h : RowC w al (racells l)) (hl : l.length ≤ 150) (cap i0 : Nat) (hi0 : i0 ≤ l.length) :
    Calls Try.prog 121 #[.slice al l.length cap, .int .i64 i0] w fun e w' => e = .returned (.int .i64 (closeG l i0 0)) ∧ w' = w := by
  have H := Lib.hid h
  obtain ⟨E, hE⟩ : ∃ E, closeG l i0 0 = E := ⟨_, rfl⟩
  rw [hE]
  have HE := Lib.hid hE
  have l1 : (l.length : Int) ≤ 150 := by omega
  clear h hE
  go_enter Try.func121, Try.ntmps121
  go_wp2_with (fail)
  go_loopw [5, 6] (fun d i wr => ∃ (k : Nat) (dp : Int), d = .int .i64 dp ∧ i = .int .i64 k ∧ k ≤ l.length ∧ -(k : Int) ≤ dp ∧ dp ≤ k ∧ wr = w ∧ closeG l k dp = E) (fun _ i _ => l.length - (intOf i).toNat)
  case atStart => exact ⟨i0, 0, rfl, rfl, hi0, by omega, by omega, rfl, HE.out⟩
  case round =>
    clear HE
    obtain ⟨k, dp, rfl, rfl, hk, hd1, hd2, rfl, hcl⟩ := hrel
    by_cases hlt : k < l.length
    · obtain ⟨b, rfl, c0, -⟩ := H.out.act hlt
      rw [closeG, if_pos hlt] at hcl
      unfold deepR at hcl
      generalize l.getD k default = x at *
      obtain ⟨xk, xa, xw, xe⟩ := x
      simp only at *
      have k1 : (k : Int) < l.length := by omega
      have k2 : (0 : Int) ≤ k := by omega
      have k3 : ((k : Int)).toNat = k := by omega
      by_cases h3 : xk = 3
      · subst h3
        rw [if_pos rfl, if_neg (show ¬ (3 : Nat) = 4 by omega), Int.sub_zero] at hcl
        by_cases hz : dp + 1 = 0
        · rw [if_pos hz] at hcl
          subst hcl
          obtain rfl : dp = -1 := by omega
          go_wp2
          go_ret
          exact ⟨rfl, rfl⟩
        · rw [if_neg hz] at hcl
          have b1 : (dp + 1 == 0) = false := by rw [beq_eq_false_iff_ne]; exact hz
          have Hcl := Lib.hid hcl
          clear hcl
          go_wp2
          go_roundw
          case rel => exact ⟨k + 1, dp + 1, rfl, by go_num, by omega, by omega, by omega, by trivial, Hcl.out⟩
          case measure => simp [intOf]; omega
      · rw [if_neg h3] at hcl
        by_cases h4 : xk = 4
        · subst h4
          rw [if_pos rfl] at hcl
          by_cases hz : dp - 1 = 0
          · rw [if_pos hz] at hcl
            subst hcl
            obtain rfl : dp = 1 := by omega
            go_wp2
            go_ret
            exact ⟨rfl, rfl⟩
          · rw [if_neg hz] at hcl
            have b1 : (dp - 1 == 0) = false := by rw [beq_eq_false_iff_ne]; exact hz
            have Hcl := Lib.hid hcl
            clear hcl
            go_wp2
            go_roundw
            case rel => exact ⟨k + 1, dp - 1, rfl, by go_num, by omega, by omega, by omega, by trivial, Hcl.out⟩
            case measure => simp [intOf]; omega
        · rw [if_neg h4, Int.sub_zero] at hcl
          have b3 : ((xk : Int) == 3) = false := by rw [beq_eq_false_iff_ne]; omega
          have b4 : ((xk : Int) == 4) = false := by rw [beq_eq_false_iff_ne]; omega
          by_cases hz : dp = 0
          · subst hz
            rw [if_pos rfl] at hcl
            subst hcl
            go_wp2
            go_ret
            exact ⟨rfl, rfl⟩
          · rw [if_neg hz] at hcl
            have b1 : (dp == 0) = false := by rw [beq_eq_false_iff_ne]; exact hz
            have Hcl := Lib.hid hcl
            clear hcl
            go_wp2
            go_roundw
            case rel => exact ⟨k + 1, dp, rfl, by go_num, by omega, by omega, by omega, by trivial, Hcl.out⟩
            case measure => simp [intOf]; omega
    · rw [closeG, if_neg hlt] at hcl
      have k1 : ¬ (k : Int) < l.length := by omega
      subst hcl
      go_wp2
      go_ret
      exact ⟨rfl, rfl⟩
/-- what was loaded, and how each part ended -/
structure PS where
  ld : List Nat
  er : List Int
  at_ : List Int
  en : List Bool
structure PR10 where
  g : Nat → Nat
  st : PS
  bad : Option (Int × Int)
def PS.push (s : PS) (b : Option (Int × Int)) : PS := match b with
  | none => { s with er := s.er ++ [0], at_ := s.at_ ++ [0], en := s.en ++ [true] }
  | some (e, a) => { s with er := s.er ++ [e], at_ := s.at_ ++ [a], en := s.en ++ [false] }
/-- acts from a place up to another one; the words at the end are those where it stopped -/
def doG (n : Nat) (l : List RA) (i to : Nat) (g : Nat → Nat) (st : PS) : PR10 :=
  if h : i < to then
    let x := l.getD i default
    if x.k ≤ 1 then
      (if inG n x.a = true then
        (if x.k = 0 then doG n l (i + 1) to (putG g x.a.toNat x.w) st else doG n l (i + 1) to g { st with ld := st.ld ++ [g x.a.toNat] })
      else ⟨g, st, some (11, x.a)⟩)
    else if x.k = 2 then ⟨g, st, some (x.e, x.a)⟩
    else if x.k = 3 then
      (let c := max i (min (closeG l i 0) to)
       let r := doG n l (i + 1) c g st
       doG n l (c + 1) to (if r.bad.isSome then g else r.g) (r.st.push r.bad))
    else doG n l (i + 1) to g st
  else ⟨g, st, none⟩
termination_by to - i
decreasing_by
  all_goals simp_wf
  all_goals omega
end Go.Proofs.Ytkcijlndblbidaa
