/- The walk of seal.comes: any strings that are read come to the register as their bytes in a row. -/
import Derived.Test.YtdkgjjgpejkgfaaSealTab
namespace Go.Proofs.Ytdkgjjgpejkgfaa
open Go.ChangeShapes Go.WideShapes Go.ChangeAt Go.RowKit

/-- a slice reads as these strings -/
structure Strs (w : World) (a : Option Addr) (ss : List ByteArray) : Prop where
  many : ss.length ≤ maxLen
  each : ∀ s ∈ ss, s.size ≤ maxLen
  cell : ∃ b off, (ss = [] ∨ a = some ⟨b, off, none⟩) ∧ ∀ i, i < ss.length → w.cell? ⟨b, off + i, none⟩ = some (.string (ss.getD i ByteArray.empty))

/-- the bytes of strings in a row -/
def joined (ss : List ByteArray) : List UInt8 := (ss.map fun s => s.data.toList).flatten

theorem cellB {B : Nat} {w w' : World} (h : Below B w w') {p : Addr} {v : Value} (hB : w.heap.size ≤ B) (hc : w.cell? p = some v) : w'.cell? p = some v := by
  rw [h.cell (Nat.lt_of_lt_of_le (block_lt_of_cell hc) hB)]; exact hc

theorem tab_index (q c : Nat) (hc : c < 256) : bits BinOp.xor IntKind.u8 ((q : Int) % 256) (c : Int) = ((q % 256 ^^^ c : Nat) : Int) := by
  have := u8_xor_nat (q % 256) c (by omega) hc
  rw [← this]; congr 1
theorem tab_index_lt (q c : Nat) (hc : c < 256) : q % 256 ^^^ c < 256 := Crc.xor_lt (n := 8) (by omega) (by omega)
theorem tabArr_at (x : Nat) (h : x < 256) : tabArr[x]? = some (.int .u32 (Crc.stN 8 x : Nat)) := by simp [tabArr, h]
theorem tab_join (q c : Nat) (hc : c < 256) (hq : q < 4294967296) : bits BinOp.xor IntKind.u32 (Crc.stN 8 (q % 256 ^^^ c) : Nat) ((q : Int) / 256) = (Crc.byte q c : Nat) := by
  have h1 : Crc.stN 8 (q % 256 ^^^ c) < 4294967296 := Crc.stN_lt (by have := tab_index_lt q c hc; omega)
  have h2 : (q : Int) / 256 = ((q / 256 : Nat) : Int) := by omega
  rw [h2, u32_xor_nat _ _ h1 (by omega), Crc.byte_table _ _ hc]
theorem byte_take (s : ByteArray) (k : Nat) (h : k < s.size) : s.data.toList.take (k + 1) = s.data.toList.take k ++ [s[k]] := by
  rw [List.take_succ_eq_append_getElem (by simpa using h)]; rfl
theorem take_all (s : ByteArray) : s.data.toList.take s.size = s.data.toList := List.take_of_length_le (Nat.le_of_eq rfl)
theorem joined_take (ss : List ByteArray) (k : Nat) (h : k < ss.length) : joined (ss.take (k + 1)) = joined (ss.take k) ++ (ss.getD k ByteArray.empty).data.toList := by
  rw [List.take_succ_eq_append_getElem h, List.getD_eq_getElem?_getD, List.getElem?_eq_getElem h]
  simp only [joined, List.map_append, List.flatten_append, List.map_cons, List.map_nil, List.flatten_cons, List.flatten_nil, List.append_nil, Option.getD_some]

set_option maxRecDepth 100000 in
theorem comes_any (r : Nat) (a : Option Addr) (cap : Nat) (ss : List ByteArray) (w : World) (hr : r < 4294967296) (hs : Strs w a ss) :
    Calls Try.prog 16 #[.int .u32 r, .slice a ss.length cap] w fun e w' => e = .returned (.int .u32 (Crc.crc r (joined ss) : Nat)) ∧ Below w.heap.size w w' := by
  obtain ⟨hm, he, b, off, ha, hcell⟩ := hs
  unfold maxLen at hm
  have hz := zero_table
  go_enter Try.func16, Try.ntmps16
  go_wp2_with (first | (go_at_call 19; refine (table_any _).mono ?_; rintro e w1 ⟨rfl, hb1⟩) | (refine wpList_store_row rfl 42 _ _ rfl w1.heap.size tabArr rfl rfl 42 zeros256 (heap_alloc_new _ _) tab_info tab_old tab_one ?_; generalize hW2 : (w1.alloc (.cells zeros256 42)).setRow w1.heap.size tabArr = w2))
  have hT : w2.heap[w1.heap.size]? = some (.cells tabArr 42 (0, 0)) := by rw [← hW2]; exact setRow_heap _ _ _ _ _ _ (heap_alloc_new _ _)
  have hb2 : Below w.heap.size w w2 := by
    rw [← hW2]
    have := hb1.size
    exact (hb1.alloc (by omega) _).trans ⟨rfl, rfl, rfl, by simp, fun i hi => setRow_other _ _ i _ (by omega)⟩
  have hc2 : ∀ i, i < ss.length → w2.cell? ⟨b, off + i, none⟩ = some (.string (ss.getD i ByteArray.empty)) := fun i hi => cellB hb2 (Nat.le_refl _) (hcell i hi)
  clear hW2 hb1
  go_loop [0, 12] (fun q i => ∃ k : Nat, k ≤ ss.length ∧ i = .int .i64 k ∧ q = .int .u32 (Crc.crc r (joined (ss.take k)) : Nat)) (fun _ i => ss.length - (intOf i).toNat)
  case atStart => exact ⟨0, by omega, rfl, rfl⟩
  case round =>
    obtain ⟨k, hk, rfl, rfl⟩ := hrel
    by_cases hlt : k < ss.length
    · have hck := hc2 k hlt
      obtain ⟨s, hs⟩ : ∃ s, s = ss.getD k ByteArray.empty := ⟨_, rfl⟩
      rw [← hs] at hck
      have hsz : s.size ≤ maxLen := he _ (by rw [hs, List.getD_eq_getElem?_getD, List.getElem?_eq_getElem hlt]; exact List.getElem_mem hlt)
      unfold maxLen at hsz
      have ha' : a = some ⟨b, off, none⟩ := by rcases ha with h | h; · subst h; simp at hlt
                                               · exact h
      subst ha'
      have Hs := Lib.hid hs
      clear hs hc2 ha hcell
      go_wp2
      go_loop [0, 18] (fun q i => ∃ j : Nat, j ≤ s.size ∧ i = .int .i64 j ∧ q = .int .u32 (Crc.crc (Crc.crc r (joined (ss.take k))) (s.data.toList.take j) : Nat)) (fun _ i => s.size - (intOf i).toNat)
      case atStart => exact ⟨0, by omega, rfl, rfl⟩
      case round =>
        obtain ⟨j, hj, rfl, rfl⟩ := hrel
        by_cases hjl : j < s.size
        · generalize hq : Crc.crc (Crc.crc r (joined (ss.take k))) (s.data.toList.take j) = q
          have hql : q < 4294967296 := by rw [← hq]; exact Crc.crc_lt (Crc.crc_lt (by omega) _) _
          have Hq := Lib.hid hq
          clear hq
          have hcl : s[j].toNat < 256 := UInt8.toNat_lt _
          have hx := tab_index q s[j].toNat hcl
          have hxl := tab_index_lt q s[j].toNat hcl
          have hcx := (cell_of_row w2 _ (q % 256 ^^^ s[j].toNat) _ _ _ hT).trans (tabArr_at _ hxl)
          have hxr := tab_join q s[j].toNat hcl hql
          go_wp2
          go_round
          case rel => exact ⟨j + 1, by omega, by go_num, by rw [byte_take s j hjl, Crc.crc_snoc, Hq.out]⟩
          case measure => simp [intOf]; omega
        · obtain rfl : j = s.size := by omega
          go_wp2
          go_round
          case rel => exact ⟨k + 1, by omega, by go_num, by rw [joined_take ss k hlt, Crc.crc_append, ← Hs.out, take_all s]⟩
          case measure => simp [intOf]; omega
    · obtain rfl : k = ss.length := by omega
      go_wp2
      go_ret
      exact ⟨rfl, hb2⟩
end Go.Proofs.Ytdkgjjgpejkgfaa
