/- The walks of the reference functions comes, Of, More and Seal, each once. -/
import Derived.Test.YtdkgjjgpejkgfaaSealFns
import Derived.Laws.BytesArg
namespace Go.Proofs.Ytdkgjjgpejkgfaa
open Go.ChangeShapes Go.WideShapes Go.ChangeAt Go.RowKit

theorem refComes_any (r : Nat) (s : ByteArray) (w : World) (hr : r < 4294967296) (hs : s.size ≤ 1000000) :
    Calls Try.prog 17 #[.int .u32 r, .string s] w fun e w' => e = .returned (.int .u32 (Crc.crc r s.data.toList : Nat)) ∧ w = w' := by
  go_enter Try.func17, Try.ntmps17
  go_wp2
  go_loop [0, 5] (fun q i => ∃ k : Nat, k ≤ s.size ∧ i = .int .i64 k ∧ q = .int .u32 (Crc.crc r (s.data.toList.take k) : Nat)) (fun _ i => s.size - (intOf i).toNat)
  case atStart => exact ⟨0, by omega, rfl, rfl⟩
  case round =>
    obtain ⟨k, hk, rfl, rfl⟩ := hrel
    by_cases hlt : k < s.size
    · generalize hq : Crc.crc r (s.data.toList.take k) = q
      have hql : q < 4294967296 := by rw [← hq]; exact Crc.crc_lt (by omega) _
      have Hq := Lib.hid hq
      clear hq
      have hcl : s[k].toNat < 256 := UInt8.toNat_lt _
      go_wp2
      go_loop [0, 6, 7] (fun q' c i => ∃ j : Nat, j ≤ 8 ∧ i = .int .i64 j ∧ c = .int .u32 (s[k].toNat / 2 ^ j : Nat) ∧ q' = .int .u32 (Crc.refN q s[k].toNat j : Nat)) (fun _ _ i => 8 - (intOf i).toNat)
      case atStart => exact ⟨0, by omega, rfl, by simp, rfl⟩
      case round =>
        obtain ⟨j, hj, rfl, rfl, rfl⟩ := hrel
        by_cases hjl : j < 8
        · have hnext : Crc.refN q s[k].toNat (j + 1) = if Crc.refN q s[k].toNat j % 2 = s[k].toNat / 2 ^ j % 2 then Crc.refN q s[k].toNat j / 2 else Crc.refN q s[k].toNat j / 2 ^^^ 2197175160 := rfl
          have hpow : s[k].toNat / 2 ^ (j + 1) = s[k].toNat / 2 ^ j / 2 := by rw [Nat.div_div_eq_div_mul, Nat.pow_succ]
          have hql' : Crc.refN q s[k].toNat j < 4294967296 := Crc.refN_lt hql _ _
          have hcl' : s[k].toNat / 2 ^ j < 4294967296 := Nat.lt_of_le_of_lt (Nat.div_le_self _ _) (by omega)
          generalize Crc.refN q s[k].toNat j = q' at *
          generalize s[k].toNat / 2 ^ j = c' at *
          have Hn := Lib.hid hnext
          have Hp := Lib.hid hpow
          clear hnext hpow
          by_cases hpar : q' % 2 = c' % 2
          · have hB : ((q' : Int) % 2 == (c' : Int) % 2) = true := by rw [beq_iff_eq]; omega
            have Hpar := Lib.hid hpar
            clear hpar
            go_wp2
            go_round
            case rel => exact ⟨j + 1, by omega, by go_num, by rw [Hp.out]; go_num, by rw [Hn.out, if_pos Hpar.out]; go_num⟩
            case measure => simp [intOf]; omega
          · have hB : ((q' : Int) % 2 == (c' : Int) % 2) = false := by rw [beq_eq_false_iff_ne]; omega
            have Hpar := Lib.hid hpar
            clear hpar
            have hx : bits BinOp.xor IntKind.u32 ((q' : Int) / 2) 2197175160 = ((q' / 2 ^^^ 2197175160 : Nat) : Int) := by
              have := u32_xor_nat (q' / 2) 2197175160 (by omega) (by decide)
              rw [← this]; rfl
            go_wp2
            go_round
            case rel => exact ⟨j + 1, by omega, by go_num, by rw [Hp.out]; go_num, by rw [Hn.out, if_neg Hpar.out]⟩
            case measure => simp [intOf]; omega
        · obtain rfl : j = 8 := by omega
          go_wp2
          go_round
          case rel => exact ⟨k + 1, by omega, by go_num, by rw [Crc.refN_8 _ _ hcl, byte_take s k hlt, Crc.crc_snoc, Hq.out]⟩
          case measure => simp [intOf]; omega
    · obtain rfl : k = s.size := by omega
      have ht := take_all s
      go_wp2
      go_ret
      exact ⟨rfl, rfl⟩

theorem refOf_any (s : ByteArray) (w : World) (hs : s.size ≤ 1000000) :
    Calls Try.prog 9 #[.string s] w fun e w' => e = .returned (.int .u32 (Crc.sum s.data.toList : Nat)) ∧ w = w' := by
  have hl := Crc.crc_lt (r := 4294967295) (by decide) s.data.toList
  have hf : Crc.sum s.data.toList = 4294967295 - Crc.crc 4294967295 s.data.toList := rfl
  have hn : (4294967295 : Int) - (Crc.crc 4294967295 s.data.toList : Nat) = ((4294967295 - Crc.crc 4294967295 s.data.toList : Nat) : Int) := by omega
  rw [hf]
  clear hf
  go_enter Try.func9, Try.ntmps9
  go_wp2_with (go_at_call 17; refine (refComes_any 4294967295 s _ (by decide) hs).mono ?_; rintro e w1 ⟨rfl, rfl⟩)
  go_ret
  exact ⟨rfl, rfl⟩

theorem refMore_any (r : Nat) (s : ByteArray) (w : World) (hr : r < 4294967296) (hs : s.size ≤ 1000000) :
    Calls Try.prog 14 #[.int .u32 r, .string s] w fun e w' => e = .returned (.int .u32 (4294967295 - Crc.crc (4294967295 - r) s.data.toList : Nat)) ∧ w = w' := by
  have hl := Crc.crc_lt (r := 4294967295 - r) (by omega) (s.data.toList)
  have hn : (4294967295 : Int) - (Crc.crc (4294967295 - r) s.data.toList : Nat) = ((4294967295 - Crc.crc (4294967295 - r) s.data.toList : Nat) : Int) := by omega
  have hn' : (4294967295 : Int) - (r : Int) = ((4294967295 - r : Nat) : Int) := by omega
  go_enter Try.func14, Try.ntmps14
  go_wp2_with (go_at_call 17; refine (refComes_any (4294967295 - r) s _ (by omega) hs).mono ?_; rintro e w1 ⟨rfl, rfl⟩)
  go_ret
  exact ⟨rfl, rfl⟩

theorem u8_info : (Try.prog.info? 5).map (fun i => (i.zero, i.size, i.bytes)) = some (some (.int .u8 0), 1, 1) := by kernel_rfl

/-- bytes as cells -/
def bcells (l : List UInt8) : List Value := l.map fun c => .int .u8 c.toNat
theorem four_take (n k : Nat) (hk : k < 4) : (Crc.four n).take (k + 1) = (Crc.four n).take k ++ [UInt8.ofNat (n / 256 ^ k)] := by
  match k, hk with
  | 0, _ => simp [Crc.four]
  | 1, _ => simp [Crc.four]
  | 2, _ => simp [Crc.four]
  | 3, _ => simp [Crc.four]
theorem refSeal_step (n k : Nat) (hk : k < 4) : bcells ((Crc.four n).take k) ++ [.int .u8 ((n / 256 ^ k : Nat) % 256 : Int)] = bcells ((Crc.four n).take (k + 1)) := by
  rw [four_take n k hk]
  simp [bcells]

/-- string(b) of a slice of the call's own -/
theorem conv_own {wr : World} {base : Nat} {v : Value} {l : List UInt8} (h : wr.ownsRow base 5 1 v l.length (bcells l)) :
    (convert 41 9 v).run Try.prog wr = .ok (.string (str l)) wr := by
  rcases h.2 with ⟨rfl, h0⟩ | ⟨g, cap, cur, rfl, hg, hcur, hle, hcap, hsz, htake⟩
  · obtain rfl : l = [] := List.eq_nil_of_length_eq_zero h0
    exact run_convert_bytes_nil wr 41 5 Try.underlying41 Try.underlying5 0 0 _ Try.underlying9
  · refine run_convert_bytes_back _ 41 9 5 ⟨g, 0, none⟩ cap l Try.underlying41 Try.underlying5 Try.underlying9 ?_
    intro j hj
    have := World.ownsRow.cells h (g := g) rfl j (.int .u8 l[j].toNat) (by simp [bcells, hj])
    exact this

theorem refSeal_any (s : ByteArray) (w : World) (hs : s.size ≤ 1000000) :
    Calls Try.prog 15 #[.string s] w fun e w' => e = .returned (.string (sealedStr s)) ∧ Below w.heap.size w w' := by
  have hsum := Crc.sum_lt s.data.toList
  have hsz4 : (str (Crc.four (Crc.sum s.data.toList))).size = 4 := by rw [str_size]; rfl
  obtain ⟨i0, hi, hz0, hz1, hz2⟩ := info_parts u8_info
  go_enter Try.func15, Try.ntmps15
  go_wp2_with (go_at_call 9; refine (refOf_any s _ hs).mono ?_; rintro e w1 ⟨rfl, rfl⟩)
  generalize hn : Crc.sum s.data.toList = n at *
  have Hn := Lib.hid hn
  clear hn
  go_loopw [3, 4, 5] (fun q v i wr => ∃ k : Nat, k ≤ 4 ∧ i = .int .i64 k ∧ q = .int .u32 (n / 256 ^ k : Nat) ∧ wr.ownsRow w.heap.size 5 1 v k (bcells ((Crc.four n).take k)) ∧ Below w.heap.size w wr) (fun _ _ i _ => 4 - (intOf i).toNat)
  case atStart => exact ⟨0, by omega, rfl, by simp, World.ownsRow_nil _ _ _ _, Below.refl _ _⟩
  case round =>
    obtain ⟨k, hk, rfl, rfl, hown, hb⟩ := hrel
    by_cases hlt : k < 4
    · have hnext : n / 256 ^ (k + 1) = n / 256 ^ k / 256 := by rw [Nat.div_div_eq_div_mul, Nat.pow_succ]
      have hstep := refSeal_step n k hlt
      have hle : n / 256 ^ k < 4294967296 := Nat.lt_of_le_of_lt (Nat.div_le_self _ _) (by omega)
      generalize n / 256 ^ k = q at *
      have Hnext := Lib.hid hnext
      have Hstep := Lib.hid hstep
      clear hnext hstep
      go_wp2_with (at_builtin; refine wpList_append_own _ rfl _ _ 41 rfl w.heap.size 5 i0 (.int .u8 0) 1 1 Try.underlying41 hi hz0 hz1 hz2 rfl (by decide) _ _ _ rfl (hown.alloc _) ⟨wr.heap.size, 0, none⟩ 1 1 [.int .u8 ((q : Int) % 256)] rfl rfl ?c1 ?c2 ?c3 ?c4 ?c5 ?_)
      case c1 => exact cell_one_new _ _ _
      case c2 => simp [Value.oneCell']
      case c3 => unfold maxLen; omega
      case c4 => omega
      case c5 => have := hb.size; simp; omega
      intro v' w1 hown' hgrow _
      go_wp2
      go_roundw
      case rel =>
        rw [Hstep.out] at hown'
        exact ⟨k + 1, by omega, by go_num, by rw [Hnext.out]; go_num, hown', (hb.alloc (by have := hb.size; omega) _).grown hgrow (by have := hb.size; simp; omega) (fun k hk => (hown.lt k hk).1)⟩
      case measure => simp [intOf]; omega
    · obtain rfl : k = 4 := by omega
      have hcv := conv_own (l := Crc.four n) (by simpa [Crc.four] using hown)
      go_wp2
      go_ret
      exact ⟨by unfold sealedStr; rw [Hn.out]; rfl, hb⟩
end Go.Proofs.Ytdkgjjgpejkgfaa
