/- The reference's memory of 64 words in pages of 4: how it lies in memory; the walks of in, At, Map. -/
import Derived.Test.YtkcijlndblbidaaRCells
import Derived.Deep.RegionHeld3
import Derived.Deep.RegionLaw
import Derived.Deep.QuietTactic
import Derived.BigQuiet
namespace Go.Proofs.Ytkcijlndblbidaa
open Go.ChangeShapes Go.WideShapes Go.ChangeAt Go.RowKit
set_option linter.unusedVariables false

theorem page_info : (Try.prog.info? 177).map (fun i => (i.zero, i.size, i.bytes)) = some (some (.agg #[.int .i64 0, .slice none 0 0]), 2, 32) := by kernel_rfl
theorem word_info9 : (Try.prog.info? 23).map (fun i => (i.zero, i.size, i.bytes)) = some (some (.int .u64 0), 1, 8) := by kernel_rfl
/-- the list tells which pages are mapped, and how many -/
structure RelM (es : List (Nat × Nat)) (v : VS) : Prop where
  each : ∀ i, i < es.length → fF es i < 16 ∧ v.mp (fF es i) = true
  all : ∀ p, p < 16 → v.mp p = true → ∃ i, i < es.length ∧ fF es i = p
  once : ∀ i j, i < es.length → j < es.length → fF es i = fF es j → i = j
  many : v.used = es.length
structure RM9 (rb room : Nat) (aL : Option Addr) (cL : Nat) (es : List (Nat × Nat)) (v : VS) (w : World) : Prop where
  head : w.heap[rb]? = some (.cells #[.int .i64 64, .int .i64 4, .int .i64 room, .int .i64 v.high, .slice aL es.length cL] 175 (0, 0))
  list : w.ownsRow (rb + 1) 177 2 (.slice aL es.length cL) es.length (fcells 4 es)
theorem RelM.few {es : List (Nat × Nat)} {v : VS} (h : RelM es v) : es.length ≤ 16 := by
  have h1 : ((List.range es.length).map (fF es)).Nodup := by
    rw [List.nodup_iff_pairwise_ne]
    rw [List.pairwise_map]
    refine List.Pairwise.imp_of_mem ?_ (List.nodup_range (n := es.length))
    intro a b ha hb hab e
    exact hab (h.once a b (List.mem_range.1 ha) (List.mem_range.1 hb) e)
  have h2 := Fr.nodup_bound (n := 16) h1 (fun x hx => by
    rw [List.mem_map] at hx
    obtain ⟨i, hi, rfl⟩ := hx
    exact (h.each i (List.mem_range.1 hi)).1)
  simpa using h2
theorem RM9.form {rb room cL : Nat} {aL : Option Addr} {es : List (Nat × Nat)} {v : VS} {w : World} (h : RM9 rb room aL cL es v w) (h0 : 0 < es.length) : ∃ g, aL = some ⟨g, 0, none⟩ ∧ rb < g ∧ g < w.heap.size := by
  obtain ⟨g, c, e, h1, h2⟩ := h.list.form h0
  simp at e
  exact ⟨g, e.1, by omega, h2⟩
theorem RM9.cell {rb room cL g : Nat} {es : List (Nat × Nat)} {v : VS} {w : World} (h : RM9 rb room (some ⟨g, 0, none⟩) cL es v w) {i : Nat} (hi : i < es.length) :
    w.cell? ⟨g, i * 2, none⟩ = some (.int .i64 (fF es i)) := by
  have h1 := h.list.cellAt (i * 2) (by omega)
  exact h1.trans (fcells_get 4 es i hi).1
set_option maxHeartbeats 1000000 in
theorem at9_any (rb room cL : Nat) (aL : Option Addr) (es : List (Nat × Nat)) (v : VS) (w : World) (hR : RM9 rb room aL cL es v w) (hf : es.length ≤ 16) (p r : Int) (hr : IsAt es p r) :
    Calls Try.prog 46 #[.pointer (some ⟨rb, 0, none⟩), .int .i64 p] w fun e w' => e = .returned (.int .i64 r) ∧ w = w' := by
  have HR := Lib.hid hR
  have Hr := Lib.hid hr
  have c1 := at_cell hR.head 4 _ rfl
  clear hR hr
  go_enter Try.func46, Try.ntmps46
  go_wp2
  go_loopw [5] (fun i wr => ∃ m : Nat, i = .int .i64 m ∧ m ≤ es.length ∧ (∀ j, j < m → (fF es j : Int) ≠ p) ∧ wr = w) (fun i _ => es.length - (intOf i).toNat)
  case atStart => exact ⟨0, rfl, by omega, by omega, rfl⟩
  case round =>
    obtain ⟨m, rfl, hm, hall, rfl⟩ := hrel
    have Hall := Lib.hid hall
    clear hall
    by_cases hlt : m < es.length
    · obtain ⟨g, rfl, -, -⟩ := HR.out.form (by omega)
      have cm := HR.out.cell hlt
      by_cases hp : (fF es m : Int) = p
      · have e : r = m := by
          rcases Hr.out with ⟨_, h⟩ | ⟨i, hi, rfl, h1, h2⟩
          · exact absurd hp (h m hlt)
          · have h3 : ¬ i < m := fun h => Hall.out i h h1
            have h4 : ¬ m < i := fun h => h2 m h hp
            omega
        subst e
        rw [hp] at cm
        clear hp
        go_wp2
        go_ret
        exact ⟨rfl, rfl⟩
      · obtain ⟨x, hx⟩ : ∃ x : Int, (fF es m : Int) = x := ⟨_, rfl⟩
        rw [hx] at cm hp
        have Hx := Lib.hid hx
        clear hx
        go_wp2
        go_roundw
        case rel => exact ⟨m + 1, by go_num, by omega, fun j hj => by
          by_cases e : j = m
          · rw [e, Hx.out]; exact hp
          · exact Hall.out j (by omega), trivial⟩
        case measure => simp [intOf]; omega
    · obtain rfl : es.length = m := by omega
      have e : r = -1 := by
        rcases Hr.out with ⟨h, _⟩ | ⟨i, hi, rfl, h1, h2⟩
        · exact h
        · exact absurd h1 (Hall.out i hi)
      subst e
      go_wp2
      go_ret
      exact ⟨rfl, rfl⟩
/-- the reference's memory in block rb, its blocks among T -/
def Rm (T : Nat → Prop) (rb room : Nat) (v : VS) (w : World) : Prop :=
  ∃ aL cL es, RM9 rb room aL cL es v w ∧ RelM es v ∧ (T rb ∧ ∀ a, aL = some a → T a.block) ∧ In T w
def RmDid (T : Nat → Prop) (rb room : Nat) (v : VS) (w w' : World) : Prop := ∃ T', Rm T' rb room v w' ∧ Chg T w w' ∧ Grew T T' w
section
variable {S T : Nat → Prop} {rb room : Nat} {v v' : VS} {w w1 w' : World}
theorem Rm.in (h : Rm T rb room v w) : In T w := by
  obtain ⟨_, _, _, _, _, _, h⟩ := h; exact h
theorem Rm.keep (h : Rm T rb room v w) (c : Chg S w w') (ap : Apart T S) : Rm T rb room v w' := by
  obtain ⟨aL, cL, es, hR, hF, ⟨t1, t2⟩, hI⟩ := h
  refine ⟨aL, cL, es, ⟨c.keep hR.head (fun s => ap _ t1 s), own_from hR.list fun g hg => ?_⟩, hF, ⟨t1, t2⟩, hI.mono c.size⟩
  obtain ⟨ad, rfl, rfl⟩ := own_of_some' hg
  exact c.2.2.2.2 ad.block (hR.list.lt _ hg).2 (fun t => ap _ (t2 ad rfl) t)
theorem Rm.grow (h : Rm T rb room v w) (c : Below w.heap.size w w') : Rm T rb room v w' := h.keep (S := fun _ => False) (Chg.of c) (fun _ _ h => h)
theorem RmDid.of (h : Rm T rb room v w) (c : Below w.heap.size w w') : RmDid T rb room v w w' := ⟨T, h.grow c, Chg.of c, Grew.refl _ _⟩
theorem RmDid.then {T1 : Nat → Prop} (h : Chg T w w1) (g : Grew T T1 w) (k : RmDid T1 rb room v w1 w') : RmDid T rb room v w w' := by
  obtain ⟨S2, h1, h2, h3⟩ := k
  exact ⟨S2, h1, h.then h2 g, g.trans h3 h.size⟩
/-- memories of which the reference tells the same -/
theorem Rm.same (h : Rm T rb room v w) (h1 : ∀ p, p < 16 → v'.mp p = v.mp p) (h2 : v'.used = v.used) (h3 : v'.high = v.high) : Rm T rb room v' w := by
  obtain ⟨aL, cL, es, hR, hF, ht, hI⟩ := h
  exact ⟨aL, cL, es, ⟨by rw [h3]; exact hR.head, hR.list⟩, ⟨fun i hi => ⟨(hF.each i hi).1, by rw [h1 _ (hF.each i hi).1]; exact (hF.each i hi).2⟩, fun p hp hm => hF.all p hp (by rw [← h1 p hp]; exact hm), hF.once, by rw [h2]; exact hF.many⟩, ht, hI⟩
end
theorem RelM.yes {es : List (Nat × Nat)} {v : VS} (h : RelM es v) {p : Nat} (hp : p < 16) (hm : v.mp p = true) : ∃ i, i < es.length ∧ IsAt es p i ∧ fF es i = p := by
  obtain ⟨i, hi, e⟩ := h.all p hp hm
  refine ⟨i, hi, .inr ⟨i, hi, rfl, by omega, fun j hj k => ?_⟩, e⟩
  have := h.once i j hi (by omega) (by omega)
  omega
theorem RelM.no {es : List (Nat × Nat)} {v : VS} (h : RelM es v) {p : Int} (hp : isM 16 v p = false) : IsAt es p (-1) := .inl ⟨rfl, fun i hi e => by
  obtain ⟨h1, h2⟩ := h.each i hi
  unfold isM at hp
  rw [← e] at hp
  simp at hp
  rw [hp (by omega)] at h2
  cases h2⟩
theorem at9_no {T : Nat → Prop} {rb room : Nat} {v : VS} {w : World} (h : Rm T rb room v w) {p : Int} (hp : isM 16 v p = false) :
    Calls Try.prog 46 #[.pointer (some ⟨rb, 0, none⟩), .int .i64 p] w fun e w' => e = .returned (.int .i64 (-1)) ∧ w = w' := by
  obtain ⟨aL, cL, es, hR, hF, _⟩ := h
  exact at9_any rb room cL aL es v w hR hF.few p (-1) (hF.no hp)
theorem at9_yes {T : Nat → Prop} {rb room : Nat} {v : VS} {w : World} (h : Rm T rb room v w) {p : Int} (hp : isM 16 v p = true) :
    ∃ r : Nat, r < 16 ∧ Calls Try.prog 46 #[.pointer (some ⟨rb, 0, none⟩), .int .i64 p] w fun e w' => e = .returned (.int .i64 r) ∧ w = w' := by
  obtain ⟨aL, cL, es, hR, hF, _⟩ := h
  unfold isM at hp
  simp at hp
  obtain ⟨p, rfl⟩ : ∃ q : Nat, p = q := ⟨p.toNat, by omega⟩
  rw [Int.toNat_natCast] at hp
  obtain ⟨i, hi, hat, -⟩ := hF.yes (by omega) hp.2
  have := hF.few
  exact ⟨i, by omega, at9_any rb room cL aL es v w hR hF.few p i hat⟩
set_option maxRecDepth 100000 in
theorem in9_any {rb room : Nat} {v : VS} {aL : Option Addr} {cL : Nat} {es : List (Nat × Nat)} {w : World} (h : RM9 rb room aL cL es v w) (p : Int) :
    Calls Try.prog 118 #[.pointer (some ⟨rb, 0, none⟩), .int .i64 p] w fun e w' => e = .returned (.bool (decide (0 ≤ p ∧ p < 16))) ∧ Below w.heap.size w w' := by
  have c0 := at_cell h.head 0 _ rfl
  have c1 := at_cell h.head 1 _ rfl
  clear h
  by_cases h1 : 0 ≤ p
  · have q1 : decide (0 ≤ p) = true := decide_eq_true h1
    by_cases h2 : p < 16
    · have q2 : decide (p < 16) = true := decide_eq_true h2
      rw [decide_eq_true (show 0 ≤ p ∧ p < 16 from ⟨h1, h2⟩)]
      go_enter Try.func118, Try.ntmps118
      go_wp2
      go_quiet (fail)
      go_wp2
      go_ret
      exact ⟨rfl, Fr.below_drewN' _ _⟩
    · have q2 : decide (p < 16) = false := decide_eq_false h2
      rw [decide_eq_false (show ¬ (0 ≤ p ∧ p < 16) by omega)]
      go_enter Try.func118, Try.ntmps118
      go_wp2
      go_quiet (fail)
      go_wp2
      go_ret
      exact ⟨rfl, Fr.below_drewN' _ _⟩
  · have q1 : decide (0 ≤ p) = false := decide_eq_false h1
    rw [decide_eq_false (show ¬ (0 ≤ p ∧ p < 16) by omega)]
    go_enter Try.func118, Try.ntmps118
    go_wp2
    go_quiet (fail)
    go_wp2
    go_ret
    exact ⟨rfl, Fr.below_drewN' _ _⟩
end Go.Proofs.Ytkcijlndblbidaa
