/- The walks of strings.Builder's methods on the builder that is a wire.Writer's first field. -/
import Derived.Test.YtkabpiganjjacaaKit
import Derived.Lib.Builder
import Derived.Lib.UnsafeStr
import Derived.Lib.AppendStr
import Derived.Laws.Externs
import Derived.OwnWalk
import Derived.RegionTactic
import Derived.Deep.RegionWith
import Derived.Lib.OwnKind
namespace Go.Proofs.Ytkabpiganjjacaa
open Go.ChangeShapes Go.WideShapes Go.ChangeAt Go.RowKit

theorem u8_info : (Try.prog.info? 5).map (fun i => (i.zero, i.size, i.bytes)) = some (some (.int .u8 0), 1, 1) := by kernel_rfl
theorem builder_info : (Try.prog.info? 59).map (·.size) = some 2 := by kernel_rfl
theorem builder_lies : liesAt Try.prog Try.prog.depth 61 (3 / Try.prog.cellsOf 61) 0 59 1 = true := by kernel_rfl

/-- a writer in block b: what its builder's first cell holds, the bytes that were written, whether a text was too long -/
def WAt (B b : Nat) (p : Value) (l : List UInt8) (bad : Bool) (w : World) : Prop :=
  B ≤ b ∧ ∃ v, w.heap[b]? = some (.cells #[p, v, .bool bad] 61 (0, 0)) ∧ w.ownsRow B 5 1 v l.length (bcells l) ∧ v.ownBlock ≠ some b ∧ (l = [] → v = .slice none 0 0)
def IsW (B b : Nat) (l : List UInt8) (bad : Bool) (w : World) : Prop := WAt B b (.pointer none) l bad w ∨ WAt B b (.pointer (some ⟨b, 0, none⟩)) l bad w
theorem WAt.lt {B b : Nat} {p : Value} {l : List UInt8} {bad : Bool} {w : World} (h : WAt B b p l bad w) : b < w.heap.size := by
  obtain ⟨_, v, hb, _⟩ := h
  exact block_lt hb
theorem WAt.used {B b : Nat} {p : Value} {l : List UInt8} {bad : Bool} {w : World} (h : WAt B b p l bad w) (q : Value) : WAt B b q l bad (w.setCell ⟨b, 0, none⟩ q) := by
  obtain ⟨hB, v, hb, hown, hne, hnil⟩ := h
  refine ⟨hB, v, ?_, ?_, hne, hnil⟩
  · have := heap_setCell_same w b 0 _ _ q hb
    simpa using this
  · exact hown.kept (row := some b) ⟨rfl, rfl, rfl, by simp [World.setCell], fun k _ hk => heap_setCell_other _ _ _ _ (fun e => hk (by simp at e; rw [e]))⟩ (.inr hne)

/-- the world goes on: nothing below B changes, nor any block of another type than bytes beside b -/
structure BelowK (B b : Nat) (w w' : World) : Prop extends Below B w w' where
  kept : ∀ (k : Nat) (cs : Array Value) (t : TypeId) (fr : Nat × Nat), w.heap[k]? = some (.cells cs t fr) → k ≠ b → t ≠ 5 → w'.heap[k]? = some (.cells cs t fr)
theorem BelowK.refl (B b : Nat) (w : World) : BelowK B b w w := ⟨Below.refl _ _, fun _ _ _ _ h _ _ => h⟩
theorem BelowK.trans {B b : Nat} {w1 w2 w3 : World} (h : BelowK B b w1 w2) (g : BelowK B b w2 w3) : BelowK B b w1 w3 :=
  ⟨h.toBelow.trans g.toBelow, fun k cs t fr hk hb ht => g.kept k cs t fr (h.kept k cs t fr hk hb ht) hb ht⟩
theorem BelowK.alloc {B b : Nat} {a w : World} (h : BelowK B b a w) (hB : B ≤ w.heap.size) (o : Obj) : BelowK B b a (w.alloc o) :=
  ⟨h.toBelow.alloc hB o, fun k cs t fr hk hb ht => by
    have := h.kept k cs t fr hk hb ht
    rw [Below.heap_alloc w o k (block_lt this)]; exact this⟩
theorem BelowK.setCell {B b : Nat} {a w : World} (h : BelowK B b a w) (hB : B ≤ b) (i : Nat) (u : Value) : BelowK B b a (w.setCell ⟨b, i, none⟩ u) :=
  ⟨h.toBelow.setCell (p := ⟨b, i, none⟩) hB u, fun k cs t fr hk hb ht => by
    rw [Below.heap_setCell w ⟨b, i, none⟩ u k hb]; exact h.kept k cs t fr hk hb ht⟩
theorem BelowK.grown {B b n size : Nat} {a w w' : World} {v : Value} {xs : List Value} (h : BelowK B b a w) (hg : w.grownBy w' v.ownBlock) (hB : B ≤ w.heap.size) (hown : w.ownsRow B 5 size v n xs) : BelowK B b a w' :=
  ⟨h.toBelow.grown hg hB (fun k hk => (hown.lt k hk).1), fun k cs t fr hk hb ht => by
    have h1 := h.kept k cs t fr hk hb ht
    rw [hg.block k (block_lt h1) (fun e => by
      obtain ⟨c, fz, h2⟩ := Lib.ownsRow_kind hown k e.symm
      rw [h1] at h2
      simp at h2
      exact ht h2.2.1)]
    exact h1⟩

theorem copyCheck_used (b : Nat) (w : World) (h0 : w.cell? ⟨b, 0, none⟩ = some (.pointer (some ⟨b, 0, none⟩))) :
    Calls Try.prog 44 #[.pointer (some ⟨b, 0, none⟩)] w fun e w' => e = .returned (.tuple #[]) ∧ w = w' := by
  obtain ⟨j, hj, _⟩ := Option.map_eq_some_iff.1 builder_info
  have hn := Lib.run_neq_ptr_same w ⟨b, 0, none⟩ Try.underlying57 hj
  go_enter Try.func44, Try.ntmps44
  go_wp2
  go_end0
  exact ⟨rfl, rfl⟩

theorem copyCheck_fresh (b : Nat) (w : World) (v x : Value) (hb : w.heap[b]? = some (.cells #[.pointer none, v, x] 61 (0, 0))) :
    Calls Try.prog 44 #[.pointer (some ⟨b, 0, none⟩)] w fun e w' => e = .returned (.tuple #[]) ∧ w' = w.setCell ⟨b, 0, none⟩ (.pointer (some ⟨b, 0, none⟩)) := by
  obtain ⟨j, hj, hjs⟩ := Option.map_eq_some_iff.1 builder_info
  have h0 := at_cell hb 0 _ rfl
  have hf := at_free hb 0
  have hsh : w.shape? b = some (61, 3) := by simp [World.shape?, hb]
  have k1 := Lib.run_to_unsafe w ⟨b, 0, none⟩ Try.underlying57 Try.underlying84 hj (by rw [hjs]; decide) hsh (Nat.zero_lt_succ 2)
  have k2 := Lib.run_from_unsafe w ⟨b, 0, none⟩ Try.underlying84 Try.underlying57 hj hsh builder_lies
  go_enter Try.func44, Try.ntmps44
  go_wp2
  rw [run_callFunc_extern Try.func46 (by kernel_rfl) (by kernel_rfl) (by kernel_rfl) (e := Extern.AbiNoEscape.same) (by kernel_rfl), Lib.run_noEscape]
  simp only [Result.andThen]
  rw [Oper.upon_value]
  go_wp2
  go_end0
  exact ⟨rfl, rfl⟩

theorem copyCheck_any (B b : Nat) (l : List UInt8) (bad : Bool) (w : World) (h : IsW B b l bad w) :
    Calls Try.prog 44 #[.pointer (some ⟨b, 0, none⟩)] w fun e w' => e = .returned (.tuple #[]) ∧ WAt B b (.pointer (some ⟨b, 0, none⟩)) l bad w' ∧ BelowK B b w w' := by
  rcases h with h | h
  · obtain ⟨hB, v, hb, hown, hne, hnil⟩ := id h
    refine (copyCheck_fresh b w v (.bool bad) hb).mono ?_
    rintro e w' ⟨rfl, rfl⟩
    exact ⟨rfl, h.used _, (BelowK.refl B b w).setCell hB 0 _⟩
  · obtain ⟨hB, v, hb, hown, hne, hnil⟩ := id h
    refine (copyCheck_used b w (at_cell hb 0 _ rfl)).mono ?_
    rintro e w' ⟨rfl, rfl⟩
    exact ⟨rfl, h, BelowK.refl B b _⟩

theorem WAt.put {B b : Nat} {p v v' : Value} {l : List UInt8} {bad : Bool} {w : World} (hB : B ≤ b) (hb : w.heap[b]? = some (.cells #[p, v, .bool bad] 61 (0, 0))) (hown : w.ownsRow B 5 1 v' l.length (bcells l)) (hnil : l = [] → v' = .slice none 0 0) :
    WAt B b p l bad (w.setCell ⟨b, 1, none⟩ v') := by
  have hne : v'.ownBlock ≠ some b := Lib.ownBlock_ne hown hb (by decide)
  refine ⟨hB, v', ?_, ?_, hne, hnil⟩
  · have := heap_setCell_same w b 1 _ _ v' hb
    simpa using this
  · exact hown.kept (row := some b) ⟨rfl, rfl, rfl, by simp [World.setCell], fun k _ hk => heap_setCell_other _ _ _ _ (fun e => hk (by simp at e; rw [e]))⟩ (.inr hne)

/-- what a writing method leaves -/
def Wrote (B b : Nat) (l : List UInt8) (bad : Bool) (w w' : World) : Prop := WAt B b (.pointer (some ⟨b, 0, none⟩)) l bad w' ∧ BelowK B b w w'
theorem Wrote.is {B b : Nat} {l : List UInt8} {bad : Bool} {w w' : World} (h : Wrote B b l bad w w') : IsW B b l bad w' := .inr h.1

set_option maxHeartbeats 1000000 in
theorem writeByte_any (B b : Nat) (l : List UInt8) (bad : Bool) (c : UInt8) (w : World) (h : IsW B b l bad w) (hlen : l.length ≤ 1000000000) (hBw : B ≤ w.heap.size) :
    Calls Try.prog 40 #[.pointer (some ⟨b, 0, none⟩), .int .u8 c.toNat] w fun e w' => e = .returned .nilIface ∧ Wrote B b (l ++ [c]) bad w w' := by
  obtain ⟨i0, hi, hz0, hz1, hz2⟩ := info_parts u8_info
  have hcc := copyCheck_any B b l bad w h
  have Hcc := Lib.hid hcc
  clear hcc
  go_enter Try.func40, Try.ntmps40
  go_wp2_with fail
  refine Hcc.out.mono ?_
  rintro e w1 ⟨rfl, ⟨hB, v, hbk, hown, hne, hnil⟩, hb1⟩
  have c1 : w1.cell? ⟨b, 1, none⟩ = some v := at_cell hbk 1 _ rfl
  go_wp2_with (at_builtin; refine wpList_append_own _ rfl _ _ 36 rfl B 5 i0 (.int .u8 0) 1 1 Try.underlying36 hi hz0 hz1 hz2 rfl (by decide) _ _ _ rfl (hown.alloc _) ⟨w1.heap.size, 0, none⟩ 1 1 [.int .u8 c.toNat] rfl rfl ?c1 ?c2 ?c3 ?c4 ?c5 ?_)
  case c1 => exact cell_one_new _ _ _
  case c2 => simp [Value.oneCell']
  case c3 => unfold maxLen; omega
  case c4 => omega
  case c5 => have := hb1.size; simp; omega
  intro v' w2 hown' hgrow hiff
  have hlt := block_lt hbk
  have hb2 : w2.heap[b]? = some (.cells #[.pointer (some ⟨b, 0, none⟩), v, .bool bad] 61 (0, 0)) := by
    rw [hgrow.block b (by simp; omega) (fun e => hne e.symm), Lib.alloc_old w1 _ b hlt]
    exact hbk
  have d1 := at_cell hb2 1 _ rfl
  have f1 := at_free hb2 1
  have Hown := Lib.hid (show w2.ownsRow B 5 1 v' (l ++ [c]).length (bcells (l ++ [c])) from by
    rw [bcells_append, List.length_append]; exact hown')
  have hb' : BelowK B b w w2 := (hb1.alloc (by have := hb1.size; omega) _).grown hgrow (by have := hb1.size; simp; omega) (hown.alloc _)
  have Hb2 := Lib.hid hb2
  obtain ⟨g, cap, hv⟩ : ∃ g cap, v' = .slice (some ⟨g, 0, none⟩) (l.length + 1) cap := by
    rcases hown'.2 with ⟨_, h0⟩ | ⟨g, cap, cur, hv, _⟩
    · omega
    · exact ⟨g, cap, hv⟩
  subst hv
  clear hb2 hown' hgrow hown hbk hiff hnil
  go_wp2
  go_ret
  exact ⟨rfl, WAt.put hB Hb2.out Hown.out (by simp), hb'.setCell hB 1 _⟩

theorem bcells_str (s : ByteArray) : Lib.strCells s = bcells s.data.toList := rfl

set_option maxHeartbeats 1000000 in
theorem writeString_any (B b : Nat) (l : List UInt8) (bad : Bool) (s : ByteArray) (w : World) (h : IsW B b l bad w) (hlen : l.length + s.size ≤ 1000000000) (hBw : B ≤ w.heap.size) :
    Calls Try.prog 42 #[.pointer (some ⟨b, 0, none⟩), .string s] w fun e w' => e = .returned (.tuple #[.int .i64 s.size, .nilIface]) ∧ Wrote B b (l ++ s.data.toList) bad w w' := by
  obtain ⟨i0, hi, hz0, hz1, hz2⟩ := info_parts u8_info
  have hcc := copyCheck_any B b l bad w h
  have Hcc := Lib.hid hcc
  clear hcc
  go_enter Try.func42, Try.ntmps42
  go_wp2_with fail
  refine Hcc.out.mono ?_
  rintro e w1 ⟨rfl, ⟨hB, v, hbk, hown, hne, hnil⟩, hb1⟩
  have c1 : w1.cell? ⟨b, 1, none⟩ = some v := at_cell hbk 1 _ rfl
  go_wp2_with (at_builtin; refine Lib.wpList_append_own_string _ rfl _ _ 36 9 rfl B 5 i0 Try.underlying36 Try.underlying9 hi hz0 hz1 hz2 _ _ _ rfl hown s rfl ?c3 ?c4 ?c5 ?_)
  case c3 => unfold maxLen; omega
  case c4 => omega
  case c5 => have := hb1.size; omega
  intro v' w2 hown' hgrow hiff
  have hlt := block_lt hbk
  have hb2 : w2.heap[b]? = some (.cells #[.pointer (some ⟨b, 0, none⟩), v, .bool bad] 61 (0, 0)) := by
    rw [hgrow.block b hlt (fun e => hne e.symm)]
    exact hbk
  have d1 := at_cell hb2 1 _ rfl
  have f1 := at_free hb2 1
  have Hown := Lib.hid (show w2.ownsRow B 5 1 v' (l ++ s.data.toList).length (bcells (l ++ s.data.toList)) from by
    rw [bcells_append, List.length_append]; exact hown')
  have hb' : BelowK B b w w2 := hb1.grown hgrow (by have := hb1.size; omega) hown
  have Hb2 := Lib.hid hb2
  obtain ⟨ao, n', cap, hv⟩ : ∃ ao n' cap, v' = .slice ao n' cap := by
    rcases hown'.2 with ⟨hv, h0⟩ | ⟨g, cap, cur, hv, _⟩
    · exact ⟨_, _, _, hv⟩
    · exact ⟨_, _, _, hv⟩
  have Hnil := Lib.hid (show l ++ s.data.toList = [] → v' = .slice none 0 0 from fun h0 => by
    obtain ⟨h1, h2⟩ := List.append_eq_nil_iff.1 h0
    exact hiff.2 ⟨hnil h1, ByteArray.ext (Array.toList_inj.1 h2)⟩)
  subst hv
  clear hb2 hown' hgrow hown hbk hiff hnil
  go_wp2
  go_ret2
  exact ⟨rfl, WAt.put hB Hb2.out Hown.out Hnil.out, hb'.setCell hB 1 _⟩

set_option maxHeartbeats 1000000 in
theorem string_any (B b : Nat) (p : Value) (l : List UInt8) (bad : Bool) (w : World) (h : WAt B b p l bad w) (hlen : l.length ≤ 1000000000) :
    Calls Try.prog 33 #[.pointer (some ⟨b, 0, none⟩)] w fun e w' => e = .returned (.string (str l)) ∧ Below B w w' := by
  obtain ⟨hB, v, hbk, hown, hne, hnil⟩ := h
  by_cases h0 : l = []
  · obtain rfl := hnil h0
    subst h0
    have c1 : w.cell? ⟨b, 1, none⟩ = some (.slice none 0 0) := at_cell hbk 1 _ rfl
    have hUS := fun w => Lib.run_unsafeString_none (P := Try.prog) w 80 3 9 none
    have hSD : (Builtin.unsafeSliceData_ #[36] 80 #[.slice none 0 0]).run Try.prog w.drew = .ok (.pointer none) w.drew := rfl
    clear hbk hown hne hnil
    go_enter Try.func33, Try.ntmps33
    go_wp2
    go_region
    all_goals (go_wp2; go_ret; exact ⟨rfl, Below.drew (Below.refl B w)⟩)
  · obtain ⟨g, cap, cur, rfl, hbg, hg, hnc, hcm, hcs, htake⟩ : ∃ g cap cur, v = .slice (some ⟨g, 0, none⟩) l.length cap ∧ B ≤ g ∧ w.heap[g]? = some (.cells cur 5 (0, 0)) ∧ l.length ≤ cap ∧ cap ≤ maxLen ∧ cur.size = cap * 1 ∧ cur.toList.take (l.length * 1) = bcells l := by
      rcases hown.2 with ⟨_, hz⟩ | ⟨g, cap, cur, hv, r⟩
      · exact absurd (List.eq_nil_of_length_eq_zero hz) h0
      · exact ⟨g, cap, cur, hv, r⟩
    have c1 : w.cell? ⟨b, 1, none⟩ = some (.slice (some ⟨g, 0, none⟩) l.length cap) := at_cell hbk 1 _ rfl
    have hl0 : l.length ≠ 0 := fun h => h0 (List.eq_nil_of_length_eq_zero h)
    have hSD : (Builtin.unsafeSliceData_ #[36] 80 #[.slice (some ⟨g, 0, none⟩) l.length cap]).run Try.prog w.drew = .ok (.pointer (some ⟨g, 0, none⟩)) w.drew :=
      Lib.run_unsafeSliceData_row _ _ _ _ _ _ (by omega)
    have hUS : (Builtin.unsafeString_ #[80, 3] 9 #[.pointer (some ⟨g, 0, none⟩), .int .i64 l.length]).run Try.prog w.drew = .ok (.string (str l)) (w.drew.freeze ⟨g, 0, none⟩ l.length) := by
      refine Lib.run_unsafeString_row w.drew 80 3 9 5 Try.underlying80 (by kernel_rfl) g cur.size (by have hg' : w.drew.heap[g]? = some (.cells cur 5 (0, 0)) := hg; simp [World.shape?, hg']) l h0 (by omega) (by unfold maxLen at hcm; omega) ?_
      intro j x hx
      exact hown.cells (g := g) rfl j (.int .u8 x.toNat) (by simp [bcells, hx])
    clear hown hne hnil hbk hg htake hnc hcm hcs
    go_enter Try.func33, Try.ntmps33
    go_wp2
    go_region
    all_goals (go_wp2; go_ret; exact ⟨rfl, Lib.below_freeze (Below.drew (Below.refl B w)) (p := ⟨g, 0, none⟩) hbg _⟩)
end Go.Proofs.Ytkabpiganjjacaa
