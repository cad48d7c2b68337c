/- The walks of Table.Turn with the law's closure. -/
import Derived.Test.YtdiooepnapdafaaRootsRef
import Derived.Deep.RegionWith
namespace Go.Proofs.Ytdiooepnapdafaa
open Go.ChangeShapes Go.WideShapes Go.ChangeAt Go.RowKit
set_option linter.unusedVariables false

/-- an address' turn, a slot's turn, all slots' turn of the first m -/
def turnSlot (b a : Int) : Int := if a ≠ 0 then max (turnedZ a b) 0 else 0
def turnAll (b : Int) (m : Nat) (zs : List Int) : List Int := (zs.take m).map (turnSlot b) ++ zs.drop m

theorem Only.put {b : Nat} {w w1 : World} (h : Only b w w1) (i : Nat) (v : Value) : Only b w (w1.setCell ⟨b, i, none⟩ v) :=
  ⟨h.1, h.2.1, h.2.2.1, by have := h.2.2.2.1; simpa [World.setCell] using this, fun k hk hb => by rw [Below.heap_setCell w1 ⟨b, i, none⟩ v k hb]; exact h.2.2.2.2 k hk hb⟩
theorem turnAll_length (b : Int) (m : Nat) (zs : List Int) : (turnAll b m zs).length = zs.length := by simp [turnAll]; omega
theorem turnAll_get (b : Int) (m : Nat) (zs : List Int) (h : m < zs.length) : (turnAll b m zs).getD m 0 = zs.getD m 0 := by
  unfold turnAll
  have e : (List.map (turnSlot b) (zs.take m)).length = m := by simp; omega
  rw [List.getD_eq_getElem?_getD, List.getD_eq_getElem?_getD, List.getElem?_append_right (by omega), List.getElem?_drop]
  rw [e, Nat.sub_self, Nat.add_zero]
theorem turnAll_succ (b : Int) (m : Nat) (zs : List Int) (h : m < zs.length) : turnAll b (m + 1) zs = (turnAll b m zs).set m (turnSlot b (zs.getD m 0)) := by
  unfold turnAll
  have e : (List.map (turnSlot b) (zs.take m)).length = m := by simp; omega
  rw [List.take_succ_eq_append_getElem h, List.map_append, List.set_append_right m _ (by omega), List.drop_eq_getElem_cons h]
  simp only [e, Nat.sub_self, List.set_cons_zero]
  simp [List.getD_eq_getElem?_getD, h]
theorem turnAll_all (b : Int) (zs : List Int) : turnAll b zs.length zs = zs.map (turnSlot b) := by simp [turnAll]
theorem closure_any (k a b : Int) (cap : Nat) (w : World) (hb : w.heap[cap]? = some (.cells #[.int .u8 k, .int .i64 a, .int .i64 b] 30 (0, 0))) (x : Int) :
    Calls Try.prog 12 #[.int .i64 x, .pointer (some ⟨cap, 0, none⟩)] w fun e w' => e = .returned (.int .i64 (turnedZ x b)) ∧ w = w' := by
  have c2 := at_cell hb 2 _ rfl
  have H := Lib.hid (turned_any x b w)
  clear hb
  go_enter Try.func12, Try.ntmps12
  go_wp2_with (go_at_call 13; refine H.out.mono ?_; rintro e w1 ⟨rfl, rfl⟩)
  go_ret
  exact ⟨rfl, rfl⟩
set_option maxHeartbeats 1000000 in
theorem turn_any (g bt cap : Nat) (k a b : Int) (zs : List Int) (w : World) (hT : Tab g bt zs w) (hb : w.heap[cap]? = some (.cells #[.int .u8 k, .int .i64 a, .int .i64 b] 30 (0, 0))) :
    Calls Try.prog 11 #[.pointer (some ⟨bt, 0, none⟩), .func (.func 12) #[] #[.pointer (some ⟨cap, 0, none⟩)]] w fun e w' => e = .returned (.tuple #[]) ∧ Tab g bt (zs.map (turnSlot b)) w' ∧ Only g w w' := by
  have hfew := hT.few
  have c0 := at_cell hT.head 0 _ rfl
  have HT := Lib.hid hT
  have Hb := Lib.hid hb
  clear hT hb
  go_enter Try.func11, Try.ntmps11
  go_wp2
  clear c0
  go_loopw [13] (fun i wr => ∃ (m : Nat), i = .int .i64 m ∧ m ≤ zs.length ∧ Tab g bt (turnAll b m zs) wr ∧ Only g w wr) (fun i _ => zs.length - (intOf i).toNat)
  case atStart => exact ⟨0, rfl, by omega, by simpa [turnAll] using HT.out, ⟨rfl, rfl, rfl, Nat.le_refl _, fun _ _ _ => rfl⟩⟩
  case round =>
    obtain ⟨m, rfl, hm, hT, hO⟩ := hrel
    by_cases hlt : m < zs.length
    · have hlen : (turnAll b m zs).length = zs.length := by simp [turnAll]; omega
      have hget : (turnAll b m zs).getD m 0 = zs.getD m 0 := turnAll_get b m zs hlt
      have hne : cap ≠ g := by
        intro e
        have h1 := HT.out.row
        unfold RowAt at h1
        rw [← e, Hb.out] at h1
        simp at h1
      have hcap := hO.keep Hb.out hne
      have cm := hT.row.cell (show m < (turnAll b m zs).length by omega)
      rw [hget] at cm
      have fm := hT.row.free m
      have c0 := at_cell hT.head 0 _ rfl
      rw [hlen] at c0
      have Hcap := Lib.hid hcap
      have HT2 := Lib.hid hT
      have Hlen := Lib.hid hlen
      have Hget := Lib.hid hget
      clear hT hcap hlen hget
      obtain ⟨x, hx⟩ : ∃ x, zs.getD m 0 = x := ⟨_, rfl⟩
      rw [hx] at cm
      have Hx := Lib.hid hx
      clear hx
      have Hs := Lib.hid (turnAll_succ b m zs hlt)
      by_cases h0 : x = 0
      · subst h0
        have hsame : turnAll b (m + 1) zs = turnAll b m zs := by
          rw [Hs.out, Hx.out, show turnSlot b 0 = 0 from rfl]
          have h1 := Hget.out
          rw [Hx.out] at h1
          have hl : m < (turnAll b m zs).length := by have := Hlen.out; omega
          have h2 : (turnAll b m zs)[m] = 0 := by rw [← h1]; simp [List.getD_eq_getElem?_getD, hl]
          rw [← h2]; exact List.set_getElem_self hl
        have Hsame := Lib.hid hsame
        clear hsame
        go_wp2
        go_roundw
        case rel => exact ⟨m + 1, by go_num, by omega, by rw [Hsame.out]; exact HT2.out, hO⟩
        case measure => simp [intOf]; omega
      · have Hcl := Lib.hid (fun w1 (h1 : w1.heap[cap]? = _) => closure_any k a b cap w1 h1 x)
        have hts : turnSlot b x = max (turnedZ x b) 0 := if_pos h0
        generalize turnedZ x b = z at *
        have hmx : (if z < 0 then (0 : Int) else z) = turnSlot b (zs.getD m 0) := by rw [Hx.out, hts]; split <;> omega
        have Hts := Lib.hid hmx
        clear hts hmx
        go_wp2
        go_region_with (go_at_call 12; refine (Hcl.out _ ?_).mono ?_; exact Hcap.out; rintro e w1 ⟨rfl, rfl⟩)
        all_goals
          go_wp2
          refine ⟨⟨m + 1, by go_num, by omega, ?_, (hO.put _ _).drew⟩, by simp [intOf]; omega⟩
          rw [Hts.out, Hs.out]
          exact (HT2.out.set m _).drew
    · obtain rfl : zs.length = m := by omega
      rw [turnAll_all] at hT
      have HT2 := Lib.hid hT
      clear hT
      go_wp2
      go_end0
      exact ⟨rfl, HT2.out, hO⟩
end Go.Proofs.Ytdiooepnapdafaa
