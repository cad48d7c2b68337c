/- The walks of canon.ints and of canon.bytes: a graph's bytes, sealed. -/
import Derived.Test.YtplkogjnmjjjgaaCMath
namespace Go.Proofs.Ytplkogjnmjjjgaa
open Go.ChangeShapes Go.WideShapes Go.ChangeAt Go.RowKit
set_option linter.unusedVariables false
set_option linter.unusedSimpArgs false

theorem drop_cons {α : Type} {l : List α} {i : Nat} (d : α) (h : i < l.length) : l.drop i = l.getD i d :: l.drop (i + 1) := by
  rw [List.drop_eq_getElem_cons h, List.getD_eq_getElem?_getD, List.getElem?_eq_getElem h]
  rfl
theorem wrap_len {n : Nat} (h : n ≤ 100000) : IntKind.u64.wrap (n : Int) = (n : Int) := by rw [IntKind.wrap_u64]; omega
theorem Wrote_trans {B b : Nat} {l l' : List UInt8} {bad : Bool} {w w1 w2 : World} (h : Wr.Wrote B b l bad w w1) (k : Wr.Wrote B b l' bad w1 w2) : Wr.Wrote B b l' bad w w2 := ⟨k.1, h.2.trans k.2⟩
theorem base_below {V w w' : World} {B : Nat} (h : Below V.heap.size V w) (hB : V.heap.size ≤ B) (k : Below B w w') : Below V.heap.size V w' := h.trans (k.mono hB)
theorem flat_nil {α : Type} (f : α → List UInt8) {l : List α} : (l.drop l.length).flatMap f = [] := by simp
set_option maxRecDepth 100000 in
set_option maxHeartbeats 2000000 in
theorem ints_any {V w : World} {B b : Nat} {l : List UInt8} {a : Option Addr} {zs : List Int} (cap : Nat) (hz : IntRow .i64 V a zs) (hV : Below V.heap.size V w) (hVB : V.heap.size ≤ B) (h : Wr.IsW B b l false w) (hBw : B ≤ w.heap.size) (hlen : (l ++ intsB zs).length ≤ 800000000) (hm : zs.length ≤ 100000) :
    Calls Try.prog 92 #[.pointer (some ⟨b, 0, none⟩), .slice a zs.length cap] w fun e w' => e = .returned (.tuple #[]) ∧ Wr.Wrote B b (l ++ intsB zs) false w w' := by
  have hwl := wrap_len hm
  have hll : l.length ≤ 800000000 := by rw [List.length_append] at hlen; omega
  have HN := Lib.hid (Wr.wNum_any B b zs.length l false w h (by omega) (by omega) hBw)
  have HZ := Lib.hid (fun W (k : Below B w W) => hz.below (base_below hV hVB k))
  have HBw := Lib.hid hBw
  obtain ⟨tot, htot⟩ : ∃ tot, intsB zs = tot := ⟨_, rfl⟩
  rw [htot] at hlen ⊢
  have Hst := Lib.hid (show Wr.Wire.num zs.length ++ (zs.drop 0).flatMap Wr.Wire.int = tot by rw [← htot]; rfl)
  have Hlen := Lib.hid hlen
  have HI := Lib.hid (isI_row hz)
  have l1 : (zs.length : Int) ≤ 100000 := by omega
  obtain ⟨nz, hnz⟩ : ∃ nz, Wr.Wire.num zs.length = nz := ⟨_, rfl⟩
  rw [hnz] at HN Hst
  clear hz hV hVB h hBw hlen htot hm hll hnz
  go_enter Try.func92, Try.ntmps92
  go_wp2_with (go_at_call 93; refine HN.out.mono ?_; rintro e w1 ⟨rfl, hW⟩; have HW := Lib.hid hW; clear hW)
  clear HN hwl
  go_loopw [13] (fun iv wr => ∃ (i : Nat) (dn : List UInt8), iv = .int .i64 i ∧ i ≤ zs.length ∧ dn ++ (zs.drop i).flatMap Wr.Wire.int = tot ∧ Wr.Wrote B b (l ++ dn) false w wr) (fun iv _ => zs.length - (intOf iv).toNat)
  case atStart => exact ⟨0, nz, rfl, by omega, Hst.out, HW.out⟩
  case round =>
    clear HW Hst
    obtain ⟨i, dn, rfl, hi, hd, hW⟩ := hrel
    by_cases hlt : i < zs.length
    · obtain ⟨b0, off, ha, hc⟩ := (HZ.out _ hW.2.toBelow).cell
      obtain rfl : a = some ⟨b0, off, none⟩ := by
        rcases ha with e | e
        · rw [e] at hlt; cases hlt
        · exact e
      have q0 := hc i hlt
      rw [drop_cons 0 hlt, List.flatMap_cons] at hd
      have hzI := HI.out _ (getD_mem 0 hlt)
      generalize zs.getD i 0 = z at *
      have hdl : dn.length ≤ tot.length := by rw [← hd]; simp
      have hll : (l ++ dn).length ≤ 900000000 := by have := Hlen.out; simp at this ⊢; omega
      have HC := Lib.hid (Wr.wInt_any B b z (l ++ dn) false wr hW.is hll hzI.1 hzI.2 (Nat.le_trans HBw.out hW.2.size))
      have HW := Lib.hid hW
      have Hd := Lib.hid hd
      have k1 : (i : Int) < zs.length := by omega
      have k2 : (0 : Int) ≤ i := by omega
      have k3 : ((i : Int)).toNat = i := by omega
      clear hc ha hW hd hzI hdl hll
      go_wp2_with (go_at_call 100; refine HC.out.mono ?_; rintro e w2 ⟨rfl, hW2⟩; have HW2 := Lib.hid hW2; clear hW2)
      go_roundw
      case rel => exact ⟨i + 1, dn ++ Wr.Wire.int z, by go_num, by omega, by rw [List.append_assoc]; exact Hd.out, by have := Wrote_trans HW.out HW2.out; rwa [List.append_assoc] at this⟩
      case measure => simp [intOf]; omega
    · obtain rfl : i = zs.length := by omega
      rw [flat_nil, List.append_nil] at hd
      have k1 : ¬ (zs.length : Int) < zs.length := by omega
      have HW := Lib.hid hW
      have Hd := Lib.hid hd
      clear hW hd
      go_wp2_with (fail)
      go_end0
      have := Hd.out
      subst this
      exact ⟨rfl, HW.out⟩
end Go.Proofs.Ytplkogjnmjjjgaa
