/- The walks of canon.Put and canon.Digest; Open of both sides at any text. -/
import Derived.Test.YtplkogjnmjjjgaaCBytes
namespace Go.Proofs.Ytplkogjnmjjjgaa
open Go.ChangeShapes Go.WideShapes Go.ChangeAt Go.RowKit
set_option linter.unusedVariables false
set_option linter.unusedSimpArgs false

/-- a graph's bytes, sealed -/
def putS (g : Gr) : ByteArray := Sl.sealedStr (str (graphB (trimG g)))
def openE (s : ByteArray) : Nat := if s.size < 4 then 1 else if Sl.okB (s.size - 4) s then 0 else 10
def openV (s : ByteArray) : ByteArray := if openE s = 0 then s.extract 0 (s.size - 4) else ⟨#[]⟩
theorem sealed_data (s : ByteArray) : (Sl.sealedStr s).data.toList = Sl.Crc.sealed s.data.toList := by
  unfold Sl.sealedStr Sl.Crc.sealed
  rw [ByteArray.data_append, Array.toList_append, Sl.str_data]
theorem sealed_size (s : ByteArray) : (Sl.sealedStr s).size = s.size + 4 := by
  unfold Sl.sealedStr
  rw [ByteArray.size_append, Sl.str_size]; rfl
theorem ok_sealed (s : ByteArray) : Sl.okB s.size (Sl.sealedStr s) = true := by
  rw [Sl.okB_iff, sealed_data]
  unfold Sl.Crc.sealed
  rw [← size_list, List.take_left, List.drop_left]
theorem openE_sealed (s : ByteArray) : openE (Sl.sealedStr s) = 0 := by
  unfold openE
  rw [sealed_size, if_neg (by omega), Nat.add_sub_cancel, ok_sealed]
  rfl
theorem openV_sealed (s : ByteArray) : openV (Sl.sealedStr s) = s := by
  unfold openV
  rw [if_pos (openE_sealed s), sealed_size, Nat.add_sub_cancel]
  apply ByteArray.ext
  apply Array.toList_inj.1
  rw [Sl.extract_head, sealed_data]
  unfold Sl.Crc.sealed
  rw [← size_list, List.take_left]
theorem openV_size (s : ByteArray) : (openV s).size ≤ s.size := by
  unfold openV
  split
  · rw [ByteArray.size_extract]; omega
  · exact Nat.zero_le _
theorem open_all (s : ByteArray) (w : World) (hs : s.size ≤ 1000000) :
    Calls Try.prog 58 #[.string s] w fun e w' => e = .returned (.tuple #[.string (openV s), .int .i64 (openE s : Nat)]) ∧ Below w.heap.size w w' := by
  by_cases h : s.size < 4
  · have h1 : openE s = 1 := by unfold openE; rw [if_pos h]
    have h2 : openV s = ⟨#[]⟩ := by unfold openV; rw [h1, if_neg (by decide)]
    rw [h1, h2]
    exact Sl.open_short s w h
  · have hl := fun ok hE => Sl.open_long ok (s.size - 4) s w (by omega) hs hE
    cases ho : Sl.okB (s.size - 4) s with
    | true =>
      have h1 : openE s = 0 := by unfold openE; rw [if_neg h, ho]; rfl
      have h2 : openV s = s.extract 0 (s.size - 4) := by unfold openV; rw [if_pos h1]
      rw [h1, h2]
      exact hl true ho
    | false =>
      have h1 : openE s = 10 := by unfold openE; rw [if_neg h, ho]; rfl
      have h2 : openV s = ⟨#[]⟩ := by unfold openV; rw [h1, if_neg (by decide)]
      rw [h1, h2]
      exact hl false ho
theorem refOpen_all (s : ByteArray) (w : World) (hs : s.size ≤ 1000000) :
    Calls Try.prog 35 #[.string s] w fun e w' => e = .returned (.tuple #[.string (openV s), .int .i64 (openE s : Nat)]) ∧ Below w.heap.size w w' := by
  by_cases h : s.size < 4
  · have h1 : openE s = 1 := by unfold openE; rw [if_pos h]
    have h2 : openV s = ⟨#[]⟩ := by unfold openV; rw [h1, if_neg (by decide)]
    rw [h1, h2]
    exact Sl.refOpen_short s w h
  · have hl := fun ok hE => Sl.refOpen_long ok (s.size - 4) s w (by omega) hs ((Sl.okB_ref (s.size - 4) s).trans hE)
    cases ho : Sl.okB (s.size - 4) s with
    | true =>
      have h1 : openE s = 0 := by unfold openE; rw [if_neg h, ho]; rfl
      have h2 : openV s = s.extract 0 (s.size - 4) := by unfold openV; rw [if_pos h1]
      rw [h1, h2]
      exact hl true ho
    | false =>
      have h1 : openE s = 10 := by unfold openE; rw [if_neg h, ho]; rfl
      have h2 : openV s = ⟨#[]⟩ := by unfold openV; rw [h1, if_neg (by decide)]
      rw [h1, h2]
      exact hl false ho
set_option maxRecDepth 100000 in
theorem put_bad {V : World} {ar an : Option Addr} {g : Gr} (cr cn : Nat) (hG : GRd V ar an g) (hm : mayG g = false) :
    Calls Try.prog 32 #[.agg #[.slice ar g.rs.length cr, .slice an g.ns.length cn]] V fun e w' => e = .returned (.tuple #[.string ⟨#[]⟩, .int .i64 5]) ∧ Below V.heap.size V w' := by
  have h1 := (FKN.refl V).box #[.slice ar g.rs.length cr, .slice an g.ns.length cn] 25
  have hq := h1.1.block (List.mem_cons_self ..)
  have c0 := at_cell hq 0 _ rfl
  have c1 := at_cell hq 1 _ rfl
  have HT := Lib.hid (trim_bad cr cn (hG.below h1.below) hm)
  have H1 := Lib.hid h1
  clear h1 hq hG hm
  go_enter Try.func32, Try.ntmps32
  go_wp2_with (go_at_call 13; refine HT.out.mono ?_; rintro e w2 ⟨rfl, hb⟩; have H2 := Lib.hid ((H1.out.grow hb).box #[.slice none 0 0, .slice none 0 0] 25); clear hb)
  go_ret2
  exact ⟨rfl, H2.out.below⟩
set_option maxRecDepth 100000 in
theorem put_any {V : World} {ar an : Option Addr} {g : Gr} (cr cn : Nat) (hG : GRd V ar an g) (few : FewG g) (hm : mayG g = true) (hlen : (graphB (trimG g)).length ≤ 900000) :
    Calls Try.prog 32 #[.agg #[.slice ar g.rs.length cr, .slice an g.ns.length cn]] V fun e w' => e = .returned (.tuple #[.string (putS g), .int .i64 0]) ∧ Below V.heap.size V w' := by
  have h1 := (FKN.refl V).box #[.slice ar g.rs.length cr, .slice an g.ns.length cn] 25
  have hq := h1.1.block (List.mem_cons_self ..)
  have c0 := at_cell hq 0 _ rfl
  have c1 := at_cell hq 1 _ rfl
  have HT := Lib.hid (trim_any cr cn (hG.below h1.below) few hm)
  have H1 := Lib.hid h1
  have hns := few.ns
  have hlx := (walkG_ok hm).len
  have HO := Lib.hid (hG.ok.trim (show (walkG g).al.length ≤ 10000 by omega))
  have fewT := trimG_few hm few
  have HB := Lib.hid (fun W a b c d (h : GRd W a b (trimG g)) => bytes_any c d h fewT hlen)
  rw [trimG_rlen, trimG_nlen] at HB
  rw [show putS g = Sl.sealedStr (str (graphB (trimG g))) from rfl]
  generalize Sl.sealedStr (str (graphB (trimG g))) = ps at *
  clear h1 hq hG hm few hlen fewT hns hlx
  go_enter Try.func32, Try.ntmps32
  go_wp2_with (first
    | (go_at_call 13; refine HT.out.mono ?_; rintro e w2 ⟨a, b, c, d, rfl, B, hO, hF⟩; have hbx := (H1.out.grow hF.below).box #[.slice a g.rs.length c, .slice b (walkG g).al.length d] 25; have hrd := (hO.rd hF.1 (fun x hx => hx) HO.out).below (below_new w2 (.cells #[.slice a g.rs.length c, .slice b (walkG g).al.length d] 25)); have hqb := hbx.1.block (List.mem_cons_self ..); have t0 := at_cell hqb 0 _ rfl; have t1 := at_cell hqb 1 _ rfl; have H2 := Lib.hid hbx; have HRD := Lib.hid hrd; clear hO hF hbx hrd hqb)
    | (go_at_call 73; refine (HB.out _ _ _ _ _ HRD.out).mono ?_; rintro e w3 ⟨rfl, hb⟩; have H3 := Lib.hid (H2.out.grow hb); clear hb))
  go_ret2
  exact ⟨rfl, H3.out.below⟩
theorem putS_size {g : Gr} (h : (graphB (trimG g)).length ≤ 900000) : (putS g).size ≤ 900004 := by
  unfold putS
  rw [sealed_size, str_size]
  omega
set_option maxRecDepth 100000 in
theorem digest_bad {V : World} {ar an : Option Addr} {g : Gr} (cr cn : Nat) (hG : GRd V ar an g) (hm : mayG g = false) :
    Calls Try.prog 34 #[.agg #[.slice ar g.rs.length cr, .slice an g.ns.length cn]] V fun e w' => e = .returned (.tuple #[.int .u32 0, .int .i64 5]) ∧ Below V.heap.size V w' := by
  have h1 := (FKN.refl V).box #[.slice ar g.rs.length cr, .slice an g.ns.length cn] 25
  have hq := h1.1.block (List.mem_cons_self ..)
  have c0 := at_cell hq 0 _ rfl
  have c1 := at_cell hq 1 _ rfl
  have HT := Lib.hid (put_bad cr cn (hG.below h1.below) hm)
  have H1 := Lib.hid h1
  clear h1 hq hG hm
  go_enter Try.func34, Try.ntmps34
  go_wp2_with (go_at_call 32; refine HT.out.mono ?_; rintro e w2 ⟨rfl, hb⟩; have H2 := Lib.hid (H1.out.grow hb); clear hb)
  go_ret2
  exact ⟨rfl, H2.out.below⟩
set_option maxRecDepth 100000 in
theorem digest_any {V : World} {ar an : Option Addr} {g : Gr} (cr cn : Nat) (hG : GRd V ar an g) (few : FewG g) (hm : mayG g = true) (hlen : (graphB (trimG g)).length ≤ 900000) :
    Calls Try.prog 34 #[.agg #[.slice ar g.rs.length cr, .slice an g.ns.length cn]] V fun e w' => e = .returned (.tuple #[.int .u32 (Sl.Crc.sum (graphB (trimG g)) : Nat), .int .i64 0]) ∧ Below V.heap.size V w' := by
  have h1 := (FKN.refl V).box #[.slice ar g.rs.length cr, .slice an g.ns.length cn] 25
  have hq := h1.1.block (List.mem_cons_self ..)
  have c0 := at_cell hq 0 _ rfl
  have c1 := at_cell hq 1 _ rfl
  have HT := Lib.hid (put_any cr cn (hG.below h1.below) few hm hlen)
  have H1 := Lib.hid h1
  have HOp := Lib.hid (fun W => open_all (putS g) W (by have := putS_size hlen; omega))
  rw [show openE (putS g) = 0 from openE_sealed _, show openV (putS g) = str (graphB (trimG g)) from openV_sealed _] at HOp
  have hstr := fun W => Sl.strs_one W (str (graphB (trimG g))) (by rw [str_size]; unfold maxLen; omega) 9
  have hsum : Sl.Crc.sum (Sl.joined [str (graphB (trimG g))]) = Sl.Crc.sum (graphB (trimG g)) := by rw [Sl.joined_one, str_data]
  have HSTR := Lib.hid hstr
  have Hsum := Lib.hid hsum
  clear h1 hq hG hm few hlen hstr hsum
  generalize putS g = ps at *
  generalize str (graphB (trimG g)) = sg at *
  generalize graphB (trimG g) = lg at *
  go_enter Try.func34, Try.ntmps34
  go_wp2_with (first
    | (go_at_call 32; refine HT.out.mono ?_; rintro e w2 ⟨rfl, hb⟩; have H2 := Lib.hid (H1.out.grow hb); clear hb)
    | (go_at_call 58; refine (HOp.out _).mono ?_; rintro e w3 ⟨rfl, hb⟩; have H3 := Lib.hid (H2.out.grow hb); clear hb)
    | (go_at_call 77; refine (Sl.of_any _ 1 [sg] _ (HSTR.out _)).mono ?_; rw [Hsum.out]; rintro e w4 ⟨rfl, hb⟩; have H4 := Lib.hid ((H3.out.box #[.string sg] 9).grow hb); clear hb))
  go_ret2
  exact ⟨rfl, H4.out.below⟩
end Go.Proofs.Ytplkogjnmjjjgaa
