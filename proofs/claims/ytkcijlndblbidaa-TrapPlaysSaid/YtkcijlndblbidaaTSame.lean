/- Rows of words of a memory as blocks that stay; 'same' tells that two rows are alike. -/
import Derived.Test.YtkcijlndblbidaaTStores
namespace Go.Proofs.Ytkcijlndblbidaa
open Go.ChangeShapes Go.WideShapes Go.ChangeAt Go.RowKit
set_option linter.unusedVariables false

/-- a slice of n words, f -/
def URow (w : World) (al : Option Addr) (n : Nat) (f : Nat → Nat) : Prop := ∃ b off, (n = 0 ∨ al = some ⟨b, off, none⟩) ∧ ∀ i, i < n → w.cell? ⟨b, off + i, none⟩ = some (.int .u64 (f i))
theorem URow.below {w w' : World} {al : Option Addr} {n : Nat} {f : Nat → Nat} (h : URow w al n f) (hb : Below w.heap.size w w') : URow w' al n f := by
  obtain ⟨b, off, ha, hc⟩ := h
  exact ⟨b, off, ha, fun i hi => cellB hb (Nat.le_refl _) (hc i hi)⟩
theorem URow.congr {w : World} {al : Option Addr} {n : Nat} {f g : Nat → Nat} (h : URow w al n f) (hfg : ∀ i, i < n → f i = g i) : URow w al n g := by
  obtain ⟨b, off, ha, hc⟩ := h
  exact ⟨b, off, ha, fun i hi => by rw [← hfg i hi]; exact hc i hi⟩
/-- a block's cells are the words f -/
def UCells (n : Nat) (f : Nat → Nat) (cur : Array Value) : Prop := ∀ i, i < n → cur[i]? = some (.int .u64 (f i))
theorem UCells.row {w : World} {n b : Nat} {f : Nat → Nat} {cur : Array Value} {ty : TypeId} (h : UCells n f cur) (hb : w.heap[b]? = some (.cells cur ty (0, 0))) : URow w (some ⟨b, 0, none⟩) n f :=
  ⟨b, 0, .inr rfl, fun i hi => by rw [Nat.zero_add]; exact at_cell hb i _ (h i hi)⟩
theorem UCells.set {n : Nat} {f : Nat → Nat} {cur : Array Value} (h : UCells n f cur) (j x : Nat) (hj : j < n) : UCells n (putG f j x) (cur.setIfInBounds j (.int .u64 x)) := fun i hi => by
  have hjs : j < cur.size := by
    have := h j hj
    rw [Array.getElem?_eq_some_iff] at this
    exact this.1
  unfold putG
  rw [Array.getElem?_setIfInBounds]
  by_cases e : j = i
  · subst e
    rw [if_pos rfl, if_pos hjs, if_pos rfl]
  · rw [if_neg e, if_neg (fun x => e x.symm)]
    exact h i hi
theorem RW.kept {W0 : World} {m n t k : Nat} {g f : Nat → Nat} {K : List (Nat × Obj)} {al : Option Addr} {cap : Nat} {w : World} (h : RW W0 m n t g f K k al cap w) (hk : 1 ≤ k) :
    ∃ b cur, al = some ⟨b, 0, Option.none⟩ ∧ W0.heap.size ≤ b ∧ (∀ x ∈ K, x.1 ≠ b) ∧ UCells k f cur ∧ FK W0 m n t g ((b, .cells cur 23 (0, 0)) :: K) w := by
  obtain ⟨S, v, h1, hv, h2, h3, h4, h5, h6⟩ := h
  rcases h5.2 with ⟨e, h0⟩ | ⟨gb, c, cur, e, b1, b2, b3, b4, b5, b6⟩
  · omega
  · simp at e
    obtain ⟨rfl, rfl⟩ := e
    obtain ⟨h7, h8⟩ := h6 _ rfl
    refine ⟨gb, cur, rfl, b1, h8, fun i hi => ?_, v, ⟨S, h1, h2, h3, fun x hx => ?_⟩, hv⟩
    · have hc : (cur.toList.take (k * 1))[i]? = some (.int .u64 (f i)) := by rw [b6, ftab_get, if_pos hi]
      rw [List.getElem?_take_of_lt (by omega)] at hc
      simpa using hc
    · simp only [List.mem_cons] at hx
      rcases hx with rfl | hx
      · exact ⟨h7, b2⟩
      · exact h4 x hx
set_option maxRecDepth 100000 in
theorem same_yes {w : World} {al bl : Option Addr} {n : Nat} {f : Nat → Nat} (ha : URow w al n f) (hb : URow w bl n f) (hn : n ≤ maxLen) (c d : Nat) :
    Calls Try.prog 55 #[.slice al n c, .slice bl n d] w fun e w' => e = .returned (.bool true) ∧ Below w.heap.size w w' := by
  unfold maxLen at hn
  have HA := Lib.hid ha
  have HB := Lib.hid hb
  have hn1 : (n : Int) ≤ 9223372036854775807 := by omega
  clear ha hb
  go_enter Try.func55, Try.ntmps55
  go_wp2_with (fail)
  go_loopw [13] (fun i wr => ∃ (k : Nat), i = .int .i64 k ∧ k ≤ n ∧ Below w.heap.size w wr) (fun i _ => n - (intOf i).toNat)
  case atStart => exact ⟨0, rfl, by omega, Below.refl _ _⟩
  case round =>
    obtain ⟨k, rfl, hk, hbl⟩ := hrel
    by_cases hlt : k < n
    · obtain ⟨b1, off1, ha1, hc1⟩ := HA.out.below hbl
      obtain ⟨b2, off2, ha2, hc2⟩ := HB.out.below hbl
      obtain rfl : al = some ⟨b1, off1, none⟩ := by rcases ha1 with e | e; omega; exact e
      obtain rfl : bl = some ⟨b2, off2, none⟩ := by rcases ha2 with e | e; omega; exact e
      have c1 := hc1 k hlt
      have c2 := hc2 k hlt
      have k1 : (k : Int) < n := by omega
      have k2 : (0 : Int) ≤ k := by omega
      clear ha1 ha2 hc1 hc2
      have Hbl := Lib.hid hbl
      clear hbl
      go_wp2_with (fail)
      go_quiet (fail)
      go_wp2
      go_roundw
      case rel => exact ⟨k + 1, by go_num, by omega, Hbl.out.trans ((Fr.below_drewN' nq wr).mono Hbl.out.size)⟩
      case measure => simp [intOf]; omega
    · have Hbl := Lib.hid hbl
      clear hbl
      go_wp2
      go_ret
      exact ⟨rfl, Hbl.out⟩
end Go.Proofs.Ytkcijlndblbidaa
