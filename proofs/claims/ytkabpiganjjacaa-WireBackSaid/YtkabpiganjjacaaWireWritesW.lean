/- The walk of the law WireWrites, for any parts. -/
import Derived.Test.YtkabpiganjjacaaWireActs
namespace Go.Proofs.Ytkabpiganjjacaa
open Go.ChangeShapes Go.WideShapes Go.ChangeAt Go.RowKit

def Part.cost (p : Part) : Nat := min p.s.size 100000 + 1
def costs (ps : List Part) : Nat → Nat
  | 0 => 0
  | i + 1 => costs ps i + (ps.getD i default).cost
def wants (ps : List Part) : Nat → List UInt8
  | 0 => []
  | i + 1 => wants ps i ++ (ps.getD i default).bytes.1
def mays (ps : List Part) : Nat → Bool
  | 0 => true
  | i + 1 => mays ps i && (ps.getD i default).bytes.2
theorem costs_mono (ps : List Part) {i j : Nat} (h : i ≤ j) : costs ps i ≤ costs ps j := by
  induction j with
  | zero => obtain rfl : i = 0 := by omega
            exact Nat.le_refl _
  | succ j ih =>
    by_cases e : i = j + 1
    · subst e; exact Nat.le_refl _
    · have := ih (by omega); simp only [costs]; omega
theorem bytes_length (p : Part) : p.bytes.1.length ≤ 11 * p.cost := by
  unfold Part.bytes Part.cost
  have h1 := Wire.num_length p.n
  have h2 := Wire.num_length (Wire.zig (wrap64 p.n))
  have h3 := Wire.num_length p.s.size
  split
  · simp; omega
  split
  · simp [Wire.int]; omega
  split
  · simp [Wire.fix, Wire.fixF_length]; omega
  split
  · simp only [Wire.text, List.length_append, size_list]; omega
  · simp
theorem wants_length (ps : List Part) (i : Nat) : (wants ps i).length ≤ 11 * costs ps i := by
  induction i with
  | zero => simp [wants, costs]
  | succ i ih => have := bytes_length (ps.getD i default); simp only [wants, costs, List.length_append]; omega

set_option maxHeartbeats 1000000 in
set_option maxRecDepth 100000 in
theorem writes_walk (a : Option Addr) (cap : Nat) (ps : List Part) (w : World) (hP : Parts w a ps) :
    Calls Try.prog 3 #[.slice a ps.length cap] w fun e w' => e = .returned (.bool true) ∧ Below w.heap.size w w' := by
  have HP := Lib.hid hP
  have hmany := hP.many
  unfold maxLen at hmany
  clear hP
  go_enter Try.func3, Try.ntmps3
  go_wp2
  go_loopw [3, 17] (fun c i wr => ∃ (m : Nat), c = .int .i64 (costs ps m) ∧ i = .int .i64 m ∧ m ≤ ps.length ∧ costs ps m ≤ 200000 ∧ Below w.heap.size w wr) (fun _ i _ => ps.length - (intOf i).toNat)
  case atStart => exact ⟨0, rfl, rfl, by omega, by simp [costs], Below.refl _ _⟩
  case round =>
    obtain ⟨m, rfl, rfl, hm, hc, hb⟩ := hrel
    by_cases hlt : m < ps.length
    · have hP2 := HP.out.below hb
      obtain ⟨b, off, ha, hcell⟩ := hP2.cell
      obtain rfl : a = some ⟨b, off, none⟩ := by
        rcases ha with rfl | ha
        · simp at hlt
        · exact ha
      obtain ⟨c0, c1, c2⟩ := hcell m hlt
      have hok := hP2.each m hlt
      have hstep : costs ps (m + 1) = costs ps m + (ps.getD m default).cost := rfl
      unfold Part.cost at hstep
      obtain ⟨hk, hn, hs⟩ := hok
      unfold maxLen at hs
      clear hcell ha hP2
      generalize (ps.getD m default).k = k at *
      generalize (ps.getD m default).n = n at *
      generalize (ps.getD m default).s = s at *
      have e : ((if (100000 : Int) < s.size then 100000 else (s.size : Int)) : Int) = (min s.size 100000 : Nat) := by split <;> omega
      have Hstep := Lib.hid hstep
      have E := Lib.hid e
      clear hstep e
      by_cases hov : costs ps m + (min s.size 100000 + 1) ≤ 200000
      · have hov' : (costs ps m : Int) + ((if (100000 : Int) < s.size then 100000 else (s.size : Int)) + 1) ≤ 200000 := by rw [E.out]; omega
        go_wp2
        go_roundw
        case rel => exact ⟨m + 1, by rw [Hstep.out, E.out]; go_num, by go_num, by omega, by rw [Hstep.out]; exact hov, hb.alloc hb.size _⟩
        case measure => simp [intOf]; omega
      · have hov' : 200000 < (costs ps m : Int) + ((if (100000 : Int) < s.size then 100000 else (s.size : Int)) + 1) := by rw [E.out]; omega
        replace hb := seq hb (below_new wr (.cells #[.int .u8 k, .int .u64 n, .string s] 25))
        go_wp2_with (go_at_call 7; refine (lives_any _).mono ?_; rintro e w1 ⟨rfl, hb1⟩; replace hb := seq hb hb1; clear hb1)
        all_goals (go_ret; exact ⟨rfl, hb⟩)
    · obtain rfl : ps.length = m := by omega
      obtain ⟨V, rfl⟩ : ∃ V, V = wr := ⟨_, rfl⟩
      replace HP := Lib.hid (HP.out.below hb)
      have hb0 := below_new V (.cells #[.pointer none, .slice none 0 0, .bool false] 61)
      have h0 := isW_new V
      have hnew := newWriter_any V
      generalize V.alloc (.cells #[.pointer none, .slice none 0 0, .bool false] 61) = W at *
      have Hnew := Lib.hid hnew
      have H0 := Lib.hid h0
      clear hnew h0 hlt
      go_wp2_with (go_at_call 8; refine Hnew.out.mono ?_; rintro e w0 ⟨rfl, rfl⟩; clear Hnew)
      go_loopw [7, 8, 37] (fun want ok i wr2 => ∃ (m : Nat), want = .string (str (wants ps m)) ∧ ok = .bool (mays ps m) ∧ i = .int .i64 m ∧ m ≤ ps.length ∧ IsW V.heap.size V.heap.size (wants ps m) (!mays ps m) wr2 ∧ Below V.heap.size V wr2) (fun _ _ i _ => ps.length - (intOf i).toNat)
      case atStart => exact ⟨0, rfl, rfl, rfl, by omega, by simpa [wants, mays] using H0.out, hb0⟩
      case round =>
        clear H0 hb0
        obtain ⟨m, rfl, rfl, rfl, hm2, hW, hb2⟩ := hrel
        have hwl := wants_length ps m
        have hcm := costs_mono ps hm2
        have hl9 : (wants ps m).length ≤ 2200000 := by omega
        have hsw : (str (wants ps m)).size ≤ 2200000 := by rw [str_size]; omega
        have hVB : V.heap.size < wr.heap.size := by obtain ⟨_, _, _, h⟩ := hW.block; exact block_lt h
        by_cases hlt2 : m < ps.length
        · have hP2 := HP.out.below hb2
          obtain ⟨b, off, ha, hcell⟩ := hP2.cell
          obtain rfl : a = some ⟨b, off, none⟩ := by
            rcases ha with rfl | ha
            · simp at hlt2
            · exact ha
          obtain ⟨c0, c1, c2⟩ := hcell m hlt2
          have hok := hP2.each m hlt2
          have hbl : (str (ps.getD m default).bytes.1).size ≤ 2200000 := by
            rw [str_size]
            have := bytes_length (ps.getD m default)
            have := costs_mono ps (show m + 1 ≤ ps.length by omega)
            simp only [costs] at this
            omega
          have e1 : wants ps (m + 1) = wants ps m ++ (ps.getD m default).bytes.1 := rfl
          have e2 : mays ps (m + 1) = (mays ps m && (ps.getD m default).bytes.2) := rfl
          have es : str (wants ps m) ++ str (ps.getD m default).bytes.1 = str (wants ps m ++ (ps.getD m default).bytes.1) := by
            apply ByteArray.ext; apply Array.toList_inj.1; rw [ByteArray.data_append, Array.toList_append, str_data, str_data, str_data]
          clear hcell ha hP2
          generalize ps.getD m default = p at *
          have hbox := below_new wr (.cells #[.int .u8 p.k, .int .u64 p.n, .string p.s] 25)
          have hcell3 := heap_alloc_new wr (.cells #[.int .u8 p.k, .int .u64 p.n, .string p.s] 25)
          have hwr := write_any V.heap.size V.heap.size p (wants ps m) (!mays ps m) _ hok (hW.grow hbox) (by omega) (by have := hbox.size; omega)
          have hby := fun w => bytes_any p w hok
          obtain ⟨⟨d0, d1, d2⟩, -⟩ := three hcell3
          have Hbox := Lib.hid hbox
          have Hcell3 := Lib.hid hcell3
          have Hwr := Lib.hid hwr
          have Hby := Lib.hid hby
          have E1 := Lib.hid e1
          have E2 := Lib.hid e2
          have Es := Lib.hid es
          clear hbox hcell3 hwr hby hW e1 e2 es hok
          unfold Part.value at *
          generalize p.bytes = r at *
          obtain ⟨t, y⟩ := r
          simp only at *
          generalize mays ps m = my at *
          cases my <;> go_wp2_with (first | (go_at_call 9; refine Hwr.out.mono ?_; rintro e w1 ⟨rfl, hw1⟩; clear d0 d1 d2; obtain ⟨⟨d0, d1, d2⟩, -⟩ := three (hw1.2.kept _ _ _ _ Hcell3.out (by omega) (by decide)); have Hw1 := Lib.hid hw1; clear hw1) | (go_at_call 10; refine (Hby.out _).mono ?_; rintro e w2 ⟨rfl, hb3⟩))
          all_goals
            have hs1 := Hbox.out.size
            have hs2 := Hw1.out.2.size
            refine ⟨⟨m + 1, by rw [E1.out, Es.out], by rw [E2.out]; rfl, by go_num, by omega, ?_, (hb2.alloc hb2.size _).trans (Hw1.out.2.toBelow.trans (hb3.mono (by omega)))⟩, by simp [intOf]; omega⟩
            rw [E1.out, E2.out]
            have := Hw1.out.1.grow hb3
            simpa using this
        · obtain rfl : ps.length = m := by omega
          have hdone := wDone_any V.heap.size V.heap.size _ _ wr hW (by omega)
          have Hb := Lib.hid (seq hb hb2)
          have hwV := hb.size
          clear hW hwl hl9 hcm hc
          generalize hsz : wants ps ps.length = l at *
          generalize mays ps ps.length = my at *
          have Hb2 := Lib.hid hb2
          clear hb hb2 hsz HP
          cases my
          · have Hd := Lib.hid hdone
            clear hdone
            go_wp2_with (first | (go_at_call 11; refine Hd.out.mono ?_; rintro e w1 ⟨rfl, hb1⟩) | (go_at_call 7; refine (lives_any _).mono ?_; rintro e w2 ⟨rfl, hb3⟩))
            go_ret
            exact ⟨rfl, Hb.out.trans ((hb1.mono hwV).trans (hb3.mono (by have := Hb.out.size; have := hb1.size; omega)))⟩
          · have Hd := Lib.hid hdone
            clear hdone
            go_wp2_with (first | (go_at_call 11; refine Hd.out.mono ?_; rintro e w1 ⟨rfl, hb1⟩) | (go_at_call 7; refine (lives_any _).mono ?_; rintro e w2 ⟨rfl, hb3⟩))
            go_ret
            exact ⟨rfl, Hb.out.trans ((hb1.mono hwV).trans (hb3.mono (by have := Hb.out.size; have := hb1.size; omega)))⟩
end Go.Proofs.Ytkabpiganjjacaa
