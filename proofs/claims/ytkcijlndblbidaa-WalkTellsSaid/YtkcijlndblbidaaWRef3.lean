/- The reference of layer 18 over the same memory: at and Whole. -/
import Derived.Test.YtkcijlndblbidaaWRef2
namespace Go.Proofs.Ytkcijlndblbidaa
open Go.ChangeShapes Go.WideShapes Go.ChangeAt Go.RowKit
set_option linter.unusedVariables false

def atS (l : List Fnd) (p : Int) : Bool := l.any (fun x => decide (x.a = p))
theorem whE_PR (n : Nat) (g : Nat → Nat) (base top : Int) (rs : List Int) : whE n g base top rs = if (PR n g base top).2 = 0 then (if (qsOf (PR n g base top).1 rs).all (stS (allR n g base top).1) = true then 0 else 25) else (PR n g base top).2 := by
  unfold whE PR
  by_cases h : (allR n g base top).2 = 0
  · rw [if_pos h, if_pos h]
  · rw [if_neg h, if_neg h, if_neg h]
theorem PR_facts (n : Nat) (g : Nat → Nat) (base top : Int) (hn : n ≤ 4096) : (∀ v ∈ (PR n g base top).1, 0 < v ∧ v < 2147483648) ∧ (PR n g base top).1.length ≤ 1100000 := by
  obtain ⟨f1, f2, f3⟩ := allR_facts n g base top
  unfold PR
  split
  · have := ptR_len n g _ f1
    exact ⟨ptR_lt n g _, by omega⟩
  · exact ⟨(fun v hv => by cases hv), by simp⟩
theorem take_any {l : List Fnd} {f : Fnd → Bool} {k : Nat} (hk : k < l.length) : (l.take (k + 1)).any f = ((l.take k).any f || f (l.getD k ⟨0, 0, 0, 0⟩)) := by
  rw [List.take_add_one, List.getElem?_eq_getElem hk, List.getD_eq_getElem?_getD, List.getElem?_eq_getElem hk]
  simp only [Option.toList_some, List.any_append, List.any_cons, List.any_nil, Bool.or_false, Option.getD_some]
theorem any_at {l : List Fnd} {f : Fnd → Bool} {k : Nat} (hk : k < l.length) (h : f (l.getD k ⟨0, 0, 0, 0⟩) = true) : l.any f = true := by
  rw [List.any_eq_true]
  refine ⟨l.getD k ⟨0, 0, 0, 0⟩, ?_, h⟩
  rw [List.getD_eq_getElem?_getD, List.getElem?_eq_getElem hk]
  exact List.getElem_mem hk
theorem icl_icI (ps : List Nat) : icl ps = icI (ps.map fun (v : Nat) => (v : Int)) := by simp [icl, icI]
section
variable {W0 w w' : World} {m n t : Nat} {g : Nat → Nat} {K D : List (Nat × Obj)} {bl c : Nat} {cur : Array Value} {al : Option Addr} {l : List Fnd}
set_option maxRecDepth 100000 in
theorem at_fk (h : FK W0 m n t g K w) (hk : Kept W0 m n D al (fcells l)) (hD : ∀ x ∈ D, x ∈ K) (hl : l.length ≤ 5000) (cap : Nat) (p : Int) :
    Calls Try.prog 142 #[.slice al l.length cap, .int .i64 p] w fun e w' => e = .returned (.bool (atS l p)) ∧ w' = w := by
  have hcells := fun k (hlt : k < l.length) => kept_fnd hk hD h hlt
  have Hcells := Lib.hid hcells
  obtain ⟨b, hb⟩ : ∃ b, atS l p = b := ⟨_, rfl⟩
  rw [hb]
  have Hb := Lib.hid hb
  have l1 : (l.length : Int) ≤ 5000 := by omega
  clear h hk hD hcells hb
  go_enter Try.func142, Try.ntmps142
  go_wp2_with (fail)
  go_loopw [5] (fun i wr => ∃ (k : Nat), i = .int .i64 k ∧ k ≤ l.length ∧ wr = w ∧ (l.take k).any (fun x => decide (x.a = p)) = false) (fun i _ => l.length - (intOf i).toNat)
  case atStart => exact ⟨0, rfl, by omega, rfl, by simp⟩
  case round =>
    obtain ⟨k, rfl, hk, rfl, hno⟩ := hrel
    by_cases hlt : k < l.length
    · obtain ⟨bb, rfl, c0, -⟩ := Hcells.out k hlt
      have hsucc := @take_any l (fun x => decide (x.a = p)) k hlt
      have hyes := @any_at l (fun x => decide (x.a = p)) k hlt
      rw [hno, Bool.false_or] at hsucc
      generalize l.getD k ⟨0, 0, 0, 0⟩ = x at *
      obtain ⟨xa, p2, f, q⟩ := x
      simp only at *
      have Hsucc := Lib.hid hsucc
      have Hyes := Lib.hid hyes
      have k1 : (k : Int) < l.length := by omega
      have k2 : (0 : Int) ≤ k := by omega
      have k3 : ((k : Int)).toNat = k := by omega
      clear hsucc hyes hno
      by_cases he : xa = p
      · subst he
        clear Hsucc
        go_wp2
        go_ret
        have := Hb.out
        unfold atS at this
        rw [Hyes.out (by simp)] at this
        rw [← this]
        exact ⟨rfl, rfl⟩
      · have hd : decide (xa = p) = false := decide_eq_false he
        replace Hsucc := Lib.hid (Hsucc.out.trans hd)
        have b1 : (xa == p) = false := by rw [beq_eq_false_iff_ne]; exact he
        clear Hyes hd
        go_wp2
        go_roundw
        case rel => exact ⟨k + 1, by go_num, by omega, by trivial, Hsucc.out⟩
        case measure => simp [intOf]; omega
    · have Hno := Lib.hid hno
      have k1 : ¬ (k : Int) < l.length := by omega
      clear hno
      go_wp2
      go_ret
      have := Hb.out
      have h2 := Hno.out
      rw [List.take_of_length_le (by omega)] at h2
      unfold atS at this
      rw [h2] at this
      rw [← this]
      exact ⟨rfl, rfl⟩
end
end Go.Proofs.Ytkcijlndblbidaa
