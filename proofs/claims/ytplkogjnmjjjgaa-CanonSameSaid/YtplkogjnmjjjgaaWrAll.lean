/- WrAll: several texts in one. -/
import Derived.Test.YtplkogjnmjjjgaaKit
import Derived.Lib.Builder
import Derived.Lib.UnsafeStr
import Derived.Lib.AppendStr
import Derived.Laws.Externs
import Derived.OwnWalk
import Derived.RegionTactic
import Derived.Deep.RegionWith
import Derived.Lib.OwnKind
import Derived.Deep.Slices
import Derived.Deep.Strs
import Derived.SizedLaws
import Derived.OpenShut
import Derived.Lib.Strings
import Derived.Lib.BufferWrite
import Derived.Laws.MakeOwn
import Derived.Lib.IndexBytes
/- The walks of strings.Builder's methods on the builder that is a wire.Writer's first field. -/
namespace Go.Proofs.Ytplkogjnmjjjgaa.Wr
open Go.ChangeShapes Go.WideShapes Go.ChangeAt Go.RowKit

theorem u8_info : (Try.prog.info? 5).map (fun i => (i.zero, i.size, i.bytes)) = some (some (.int .u8 0), 1, 1) := by kernel_rfl
theorem builder_info : (Try.prog.info? 142).map (·.size) = some 2 := by kernel_rfl
theorem builder_lies : liesAt Try.prog Try.prog.depth 144 (3 / Try.prog.cellsOf 144) 0 142 1 = true := by kernel_rfl

/-- a writer in block b: what its builder's first cell holds, the bytes that were written, whether a text was too long -/
def WAt (B b : Nat) (p : Value) (l : List UInt8) (bad : Bool) (w : World) : Prop :=
  B ≤ b ∧ ∃ v, w.heap[b]? = some (.cells #[p, v, .bool bad] 144 (0, 0)) ∧ w.ownsRow B 5 1 v l.length (bcells l) ∧ v.ownBlock ≠ some b ∧ (l = [] → v = .slice none 0 0)
def IsW (B b : Nat) (l : List UInt8) (bad : Bool) (w : World) : Prop := WAt B b (.pointer none) l bad w ∨ WAt B b (.pointer (some ⟨b, 0, none⟩)) l bad w
theorem WAt.lt {B b : Nat} {p : Value} {l : List UInt8} {bad : Bool} {w : World} (h : WAt B b p l bad w) : b < w.heap.size := by
  obtain ⟨_, v, hb, _⟩ := h
  exact block_lt hb
theorem WAt.used {B b : Nat} {p : Value} {l : List UInt8} {bad : Bool} {w : World} (h : WAt B b p l bad w) (q : Value) : WAt B b q l bad (w.setCell ⟨b, 0, none⟩ q) := by
  obtain ⟨hB, v, hb, hown, hne, hnil⟩ := h
  refine ⟨hB, v, ?_, ?_, hne, hnil⟩
  · have := heap_setCell_same w b 0 _ _ q hb
    simpa using this
  · exact hown.kept (row := some b) ⟨rfl, rfl, rfl, by simp [World.setCell], fun k _ hk => heap_setCell_other _ _ _ _ (fun e => hk (by simp at e; rw [e]))⟩ (.inr hne)

/-- the world goes on: nothing below B changes, nor any block of another type than bytes beside b -/
structure BelowK (B b : Nat) (w w' : World) : Prop extends Below B w w' where
  kept : ∀ (k : Nat) (cs : Array Value) (t : TypeId) (fr : Nat × Nat), w.heap[k]? = some (.cells cs t fr) → k ≠ b → t ≠ 5 → w'.heap[k]? = some (.cells cs t fr)
theorem BelowK.refl (B b : Nat) (w : World) : BelowK B b w w := ⟨Below.refl _ _, fun _ _ _ _ h _ _ => h⟩
theorem BelowK.trans {B b : Nat} {w1 w2 w3 : World} (h : BelowK B b w1 w2) (g : BelowK B b w2 w3) : BelowK B b w1 w3 :=
  ⟨h.toBelow.trans g.toBelow, fun k cs t fr hk hb ht => g.kept k cs t fr (h.kept k cs t fr hk hb ht) hb ht⟩
theorem BelowK.alloc {B b : Nat} {a w : World} (h : BelowK B b a w) (hB : B ≤ w.heap.size) (o : Obj) : BelowK B b a (w.alloc o) :=
  ⟨h.toBelow.alloc hB o, fun k cs t fr hk hb ht => by
    have := h.kept k cs t fr hk hb ht
    rw [Below.heap_alloc w o k (block_lt this)]; exact this⟩
theorem BelowK.setCell {B b : Nat} {a w : World} (h : BelowK B b a w) (hB : B ≤ b) (i : Nat) (u : Value) : BelowK B b a (w.setCell ⟨b, i, none⟩ u) :=
  ⟨h.toBelow.setCell (p := ⟨b, i, none⟩) hB u, fun k cs t fr hk hb ht => by
    rw [Below.heap_setCell w ⟨b, i, none⟩ u k hb]; exact h.kept k cs t fr hk hb ht⟩
theorem BelowK.grown {B b n size : Nat} {a w w' : World} {v : Value} {xs : List Value} (h : BelowK B b a w) (hg : w.grownBy w' v.ownBlock) (hB : B ≤ w.heap.size) (hown : w.ownsRow B 5 size v n xs) : BelowK B b a w' :=
  ⟨h.toBelow.grown hg hB (fun k hk => (hown.lt k hk).1), fun k cs t fr hk hb ht => by
    have h1 := h.kept k cs t fr hk hb ht
    rw [hg.block k (block_lt h1) (fun e => by
      obtain ⟨c, fz, h2⟩ := Lib.ownsRow_kind hown k e.symm
      rw [h1] at h2
      simp at h2
      exact ht h2.2.1)]
    exact h1⟩

theorem copyCheck_used (b : Nat) (w : World) (h0 : w.cell? ⟨b, 0, none⟩ = some (.pointer (some ⟨b, 0, none⟩))) :
    Calls Try.prog 104 #[.pointer (some ⟨b, 0, none⟩)] w fun e w' => e = .returned (.tuple #[]) ∧ w = w' := by
  obtain ⟨j, hj, _⟩ := Option.map_eq_some_iff.1 builder_info
  have hn := Lib.run_neq_ptr_same w ⟨b, 0, none⟩ Try.underlying140 hj
  go_enter Try.func104, Try.ntmps104
  go_wp2
  go_end0
  exact ⟨rfl, rfl⟩

set_option maxRecDepth 100000 in
theorem copyCheck_fresh (b : Nat) (w : World) (v x : Value) (hb : w.heap[b]? = some (.cells #[.pointer none, v, x] 144 (0, 0))) :
    Calls Try.prog 104 #[.pointer (some ⟨b, 0, none⟩)] w fun e w' => e = .returned (.tuple #[]) ∧ w' = w.setCell ⟨b, 0, none⟩ (.pointer (some ⟨b, 0, none⟩)) := by
  obtain ⟨j, hj, hjs⟩ := Option.map_eq_some_iff.1 builder_info
  have h0 := at_cell hb 0 _ rfl
  have hf := at_free hb 0
  have hsh : w.shape? b = some (144, 3) := by simp [World.shape?, hb]
  have k1 := Lib.run_to_unsafe w ⟨b, 0, none⟩ Try.underlying140 Try.underlying153 hj (by rw [hjs]; decide) hsh (Nat.zero_lt_succ 2)
  have k2 := Lib.run_from_unsafe w ⟨b, 0, none⟩ Try.underlying153 Try.underlying140 hj hsh builder_lies
  go_enter Try.func104, Try.ntmps104
  go_wp2
  rw [run_callFunc_extern Try.func105 (by kernel_rfl) (by kernel_rfl) (by kernel_rfl) (e := Extern.AbiNoEscape.same) (by kernel_rfl), Lib.run_noEscape]
  simp only [Result.andThen]
  rw [Oper.upon_value]
  go_wp2
  go_end0
  exact ⟨rfl, rfl⟩

theorem copyCheck_any (B b : Nat) (l : List UInt8) (bad : Bool) (w : World) (h : IsW B b l bad w) :
    Calls Try.prog 104 #[.pointer (some ⟨b, 0, none⟩)] w fun e w' => e = .returned (.tuple #[]) ∧ WAt B b (.pointer (some ⟨b, 0, none⟩)) l bad w' ∧ BelowK B b w w' := by
  rcases h with h | h
  · obtain ⟨hB, v, hb, hown, hne, hnil⟩ := id h
    refine (copyCheck_fresh b w v (.bool bad) hb).mono ?_
    rintro e w' ⟨rfl, rfl⟩
    exact ⟨rfl, h.used _, (BelowK.refl B b w).setCell hB 0 _⟩
  · obtain ⟨hB, v, hb, hown, hne, hnil⟩ := id h
    refine (copyCheck_used b w (at_cell hb 0 _ rfl)).mono ?_
    rintro e w' ⟨rfl, rfl⟩
    exact ⟨rfl, h, BelowK.refl B b _⟩

theorem WAt.put {B b : Nat} {p v v' : Value} {l : List UInt8} {bad : Bool} {w : World} (hB : B ≤ b) (hb : w.heap[b]? = some (.cells #[p, v, .bool bad] 144 (0, 0))) (hown : w.ownsRow B 5 1 v' l.length (bcells l)) (hnil : l = [] → v' = .slice none 0 0) :
    WAt B b p l bad (w.setCell ⟨b, 1, none⟩ v') := by
  have hne : v'.ownBlock ≠ some b := Lib.ownBlock_ne hown hb (by decide)
  refine ⟨hB, v', ?_, ?_, hne, hnil⟩
  · have := heap_setCell_same w b 1 _ _ v' hb
    simpa using this
  · exact hown.kept (row := some b) ⟨rfl, rfl, rfl, by simp [World.setCell], fun k _ hk => heap_setCell_other _ _ _ _ (fun e => hk (by simp at e; rw [e]))⟩ (.inr hne)

/-- what a writing method leaves -/
def Wrote (B b : Nat) (l : List UInt8) (bad : Bool) (w w' : World) : Prop := WAt B b (.pointer (some ⟨b, 0, none⟩)) l bad w' ∧ BelowK B b w w'
theorem Wrote.is {B b : Nat} {l : List UInt8} {bad : Bool} {w w' : World} (h : Wrote B b l bad w w') : IsW B b l bad w' := .inr h.1

set_option maxHeartbeats 1000000 in
theorem writeByte_any (B b : Nat) (l : List UInt8) (bad : Bool) (c : UInt8) (w : World) (h : IsW B b l bad w) (hlen : l.length ≤ 1000000000) (hBw : B ≤ w.heap.size) :
    Calls Try.prog 101 #[.pointer (some ⟨b, 0, none⟩), .int .u8 c.toNat] w fun e w' => e = .returned .nilIface ∧ Wrote B b (l ++ [c]) bad w w' := by
  obtain ⟨i0, hi, hz0, hz1, hz2⟩ := info_parts u8_info
  have hcc := copyCheck_any B b l bad w h
  have Hcc := Lib.hid hcc
  clear hcc
  go_enter Try.func101, Try.ntmps101
  go_wp2_with fail
  refine Hcc.out.mono ?_
  rintro e w1 ⟨rfl, ⟨hB, v, hbk, hown, hne, hnil⟩, hb1⟩
  have c1 : w1.cell? ⟨b, 1, none⟩ = some v := at_cell hbk 1 _ rfl
  go_wp2_with (at_builtin; refine wpList_append_own _ rfl _ _ 93 rfl B 5 i0 (.int .u8 0) 1 1 Try.underlying93 hi hz0 hz1 hz2 rfl (by decide) _ _ _ rfl (hown.alloc _) ⟨w1.heap.size, 0, none⟩ 1 1 [.int .u8 c.toNat] rfl rfl ?c1 ?c2 ?c3 ?c4 ?c5 ?_)
  case c1 => exact cell_one_new _ _ _
  case c2 => simp [Value.oneCell']
  case c3 => unfold maxLen; omega
  case c4 => omega
  case c5 => have := hb1.size; simp; omega
  intro v' w2 hown' hgrow hiff
  have hlt := block_lt hbk
  have hb2 : w2.heap[b]? = some (.cells #[.pointer (some ⟨b, 0, none⟩), v, .bool bad] 144 (0, 0)) := by
    rw [hgrow.block b (by simp; omega) (fun e => hne e.symm), Lib.alloc_old w1 _ b hlt]
    exact hbk
  have d1 := at_cell hb2 1 _ rfl
  have f1 := at_free hb2 1
  have Hown := Lib.hid (show w2.ownsRow B 5 1 v' (l ++ [c]).length (bcells (l ++ [c])) from by
    rw [bcells_append, List.length_append]; exact hown')
  have hb' : BelowK B b w w2 := (hb1.alloc (by have := hb1.size; omega) _).grown hgrow (by have := hb1.size; simp; omega) (hown.alloc _)
  have Hb2 := Lib.hid hb2
  obtain ⟨g, cap, hv⟩ : ∃ g cap, v' = .slice (some ⟨g, 0, none⟩) (l.length + 1) cap := by
    rcases hown'.2 with ⟨_, h0⟩ | ⟨g, cap, cur, hv, _⟩
    · omega
    · exact ⟨g, cap, hv⟩
  subst hv
  clear hb2 hown' hgrow hown hbk hiff hnil
  go_wp2
  go_ret
  exact ⟨rfl, WAt.put hB Hb2.out Hown.out (by simp), hb'.setCell hB 1 _⟩

theorem bcells_str (s : ByteArray) : Lib.strCells s = bcells s.data.toList := rfl

set_option maxHeartbeats 1000000 in
theorem string_any (B b : Nat) (p : Value) (l : List UInt8) (bad : Bool) (w : World) (h : WAt B b p l bad w) (hlen : l.length ≤ 1000000000) :
    Calls Try.prog 102 #[.pointer (some ⟨b, 0, none⟩)] w fun e w' => e = .returned (.string (str l)) ∧ Below B w w' := by
  obtain ⟨hB, v, hbk, hown, hne, hnil⟩ := h
  by_cases h0 : l = []
  · obtain rfl := hnil h0
    subst h0
    have c1 : w.cell? ⟨b, 1, none⟩ = some (.slice none 0 0) := at_cell hbk 1 _ rfl
    have hUS := fun w => Lib.run_unsafeString_none (P := Try.prog) w 152 3 9 none
    have hSD : (Builtin.unsafeSliceData_ #[93] 152 #[.slice none 0 0]).run Try.prog w.drew = .ok (.pointer none) w.drew := rfl
    clear hbk hown hne hnil
    go_enter Try.func102, Try.ntmps102
    go_wp2
    go_region
    all_goals (go_wp2; go_ret; exact ⟨rfl, Below.drew (Below.refl B w)⟩)
  · obtain ⟨g, cap, cur, rfl, hbg, hg, hnc, hcm, hcs, htake⟩ : ∃ g cap cur, v = .slice (some ⟨g, 0, none⟩) l.length cap ∧ B ≤ g ∧ w.heap[g]? = some (.cells cur 5 (0, 0)) ∧ l.length ≤ cap ∧ cap ≤ maxLen ∧ cur.size = cap * 1 ∧ cur.toList.take (l.length * 1) = bcells l := by
      rcases hown.2 with ⟨_, hz⟩ | ⟨g, cap, cur, hv, r⟩
      · exact absurd (List.eq_nil_of_length_eq_zero hz) h0
      · exact ⟨g, cap, cur, hv, r⟩
    have c1 : w.cell? ⟨b, 1, none⟩ = some (.slice (some ⟨g, 0, none⟩) l.length cap) := at_cell hbk 1 _ rfl
    have hl0 : l.length ≠ 0 := fun h => h0 (List.eq_nil_of_length_eq_zero h)
    have hSD : (Builtin.unsafeSliceData_ #[93] 152 #[.slice (some ⟨g, 0, none⟩) l.length cap]).run Try.prog w.drew = .ok (.pointer (some ⟨g, 0, none⟩)) w.drew :=
      Lib.run_unsafeSliceData_row _ _ _ _ _ _ (by omega)
    have hUS : (Builtin.unsafeString_ #[152, 3] 9 #[.pointer (some ⟨g, 0, none⟩), .int .i64 l.length]).run Try.prog w.drew = .ok (.string (str l)) (w.drew.freeze ⟨g, 0, none⟩ l.length) := by
      refine Lib.run_unsafeString_row w.drew 152 3 9 5 Try.underlying152 (by kernel_rfl) g cur.size (by have hg' : w.drew.heap[g]? = some (.cells cur 5 (0, 0)) := hg; simp [World.shape?, hg']) l h0 (by omega) (by unfold maxLen at hcm; omega) ?_
      intro j x hx
      exact hown.cells (g := g) rfl j (.int .u8 x.toNat) (by simp [bcells, hx])
    clear hown hne hnil hbk hg htake hnc hcm hcs
    go_enter Try.func102, Try.ntmps102
    go_wp2
    go_region
    all_goals (go_wp2; go_ret; exact ⟨rfl, Lib.below_freeze (Below.drew (Below.refl B w)) (p := ⟨g, 0, none⟩) hbg _⟩)
end Go.Proofs.Ytplkogjnmjjjgaa.Wr

/- The plain law of the encoding: numbers, ints, floats and texts as bytes, and what is read of bytes. No program in sight. -/
namespace Go.Proofs.Ytplkogjnmjjjgaa.Wr
namespace Wire

/-- a number's bytes: seven bits a byte, the lowest first (k: how many bytes may still follow) -/
def numF : Nat → Nat → List UInt8
  | 0, n => [UInt8.ofNat n]
  | k + 1, n => if n < 128 then [UInt8.ofNat n] else UInt8.ofNat (n % 128 + 128) :: numF k (n / 128)
def num (n : Nat) : List UInt8 := numF 9 n
theorem numF_small {k n : Nat} (h : n < 128) : numF k n = [UInt8.ofNat n] := by
  cases k with
  | zero => rfl
  | succ k => exact if_pos h
theorem numF_great {k n : Nat} (h : 128 ≤ n) : numF (k + 1) n = UInt8.ofNat (n % 128 + 128) :: numF k (n / 128) := if_neg (by omega)
theorem numF_length (k n : Nat) : (numF k n).length ≤ k + 1 := by
  induction k generalizing n with
  | zero => simp [numF]
  | succ k ih =>
    unfold numF
    split
    · simp
    · have := ih (n / 128); simp; omega
theorem num_length (n : Nat) : (num n).length ≤ 10 := numF_length 9 n
/-- an int's number: its sign in the lowest bit -/
def zig (n : Int) : Nat := if 0 ≤ n then (2 * n).toNat else (2 * (-n - 1) + 1).toNat
def int (n : Int) : List UInt8 := num (zig n)
/-- eight bytes, the lowest first -/
def fixF : Nat → Nat → List UInt8
  | 0, _ => []
  | k + 1, n => UInt8.ofNat n :: fixF k (n / 256)
def fix (n : Nat) : List UInt8 := fixF 8 n
theorem fixF_length (k n : Nat) : (fixF k n).length = k := by
  induction k generalizing n with
  | zero => rfl
  | succ k ih => simp [fixF, ih]
def text (s : List UInt8) : List UInt8 := num s.length ++ s

theorem or128 : ∀ x : Nat, x < 256 → x ||| 128 = x % 128 + 128 := by decide +kernel
theorem byte_or (n : Nat) : bits BinOp.or IntKind.u8 ((n : Int) % 256) 128 = (((UInt8.ofNat (n % 128 + 128)).toNat : Nat) : Int) := by
  have h := u8_or_nat (n % 256) 128 (by omega) (by decide)
  rw [or128 _ (by omega)] at h
  rw [UInt8.toNat_ofNat']
  have e : (n : Int) % 256 = ((n % 256 : Nat) : Int) := by omega
  rw [e, show (128 : Int) = ((128 : Nat) : Int) from rfl, h]
  omega
theorem byte_mod (n : Nat) : (n : Int) % 256 = (((UInt8.ofNat n).toNat : Nat) : Int) := by
  rw [UInt8.toNat_ofNat']; omega
theorem zig_bits (n : Int) (h0 : -9223372036854775808 ≤ n) (h1 : n ≤ 9223372036854775807) :
    bits BinOp.xor IntKind.u64 (IntKind.u64.wrap (RowKit.wrap64 (n * 2))) (IntKind.u64.wrap (n / 9223372036854775808)) = (zig n : Nat) := by
  rw [IntKind.wrap_u64, IntKind.wrap_u64]
  unfold RowKit.wrap64 zig
  by_cases h : 0 ≤ n
  · rw [if_pos h]
    have e1 : ((n * 2 + 9223372036854775808) % 18446744073709551616 - 9223372036854775808) % 18446744073709551616 = ((2 * n).toNat : Int) := by omega
    have e2 : n / 9223372036854775808 % 18446744073709551616 = ((0 : Nat) : Int) := by omega
    rw [e1, e2, u64_xor_nat _ _ (by omega) (by decide), Nat.xor_zero]
  · rw [if_neg h]
    have e1 : ((n * 2 + 9223372036854775808) % 18446744073709551616 - 9223372036854775808) % 18446744073709551616 = ((2 * n + 18446744073709551616).toNat : Int) := by omega
    have e2 : n / 9223372036854775808 % 18446744073709551616 = ((18446744073709551615 : Nat) : Int) := by omega
    rw [e1, e2, u64_xor_nat _ _ (by omega) (by decide)]
    have := xor_ones 64 (2 * n + 18446744073709551616).toNat (by omega)
    rw [show (2 ^ 64 - 1 : Nat) = 18446744073709551615 from rfl] at this
    rw [this]
    omega
end Wire
end Go.Proofs.Ytplkogjnmjjjgaa.Wr

/- The walks of wire's Writer, each method once: at a writer that was made. -/
namespace Go.Proofs.Ytplkogjnmjjjgaa.Wr
open Go.ChangeShapes Go.WideShapes Go.ChangeAt Go.RowKit

theorem newWriter_any (w : World) :
    Calls Try.prog 91 #[] w fun e w' => e = .returned (.pointer (some ⟨w.heap.size, 0, none⟩)) ∧ w' = w.alloc (.cells #[.pointer none, .slice none 0 0, .bool false] 144) := by
  go_enter Try.func91, Try.ntmps91
  go_wp2
  go_ret
  exact ⟨rfl, rfl⟩
theorem isW_new (w : World) : IsW w.heap.size w.heap.size [] false (w.alloc (.cells #[.pointer none, .slice none 0 0, .bool false] 144)) :=
  .inl ⟨Nat.le_refl _, _, heap_alloc_new _ _, World.ownsRow_nil _ _ _ _, by simp [Value.ownBlock], fun _ => rfl⟩

set_option maxHeartbeats 1000000 in
set_option maxRecDepth 100000 in
theorem wNum_any (B b n : Nat) (l : List UInt8) (bad : Bool) (w : World) (h : IsW B b l bad w) (hlen : l.length ≤ 900000000) (hn : n < 18446744073709551616) (hBw : B ≤ w.heap.size) :
    Calls Try.prog 93 #[.pointer (some ⟨b, 0, none⟩), .int .u64 n] w fun e w' => e = .returned (.tuple #[]) ∧ Wrote B b (l ++ Wire.num n) bad w w' := by
  have hbound : n < 128 ^ (9 + 1) := by omega
  have HW := Lib.hid h
  have Hbound := Lib.hid hbound
  clear h hn hbound
  go_enter Try.func93, Try.ntmps93
  go_wp2
  go_loopw [1] (fun x wr => ∃ (m k : Nat) (done : List UInt8), x = .int .u64 m ∧ m < 128 ^ (k + 1) ∧ k ≤ 9 ∧ done.length + k ≤ 9 ∧ done ++ Wire.numF k m = Wire.num n ∧ IsW B b (l ++ done) bad wr ∧ BelowK B b w wr) (fun x _ => (intOf x).toNat)
  case atStart => exact ⟨n, 9, [], rfl, Hbound.out, by omega, by simp, rfl, by simpa using HW.out, BelowK.refl _ _ _⟩
  case round =>
    clear HW Hbound
    obtain ⟨m, k, done, rfl, hm, hk, hdl, hd, hW, hb⟩ := hrel
    have hBw' : B ≤ wr.heap.size := by have := hb.size; omega
    have hl2 : (l ++ done).length ≤ 1000000000 := by rw [List.length_append]; omega
    by_cases hlt : 128 ≤ m
    · obtain ⟨k, rfl⟩ : ∃ j, k = j + 1 := by
        cases k with
        | zero => simp at hm; omega
        | succ k => exact ⟨k, rfl⟩
      rw [Wire.numF_great hlt] at hd
      have hm' : m / 128 < 128 ^ (k + 1) := by
        have : m < 128 ^ (k + 1) * 128 := by rw [← Nat.pow_succ]; exact hm
        exact Nat.div_lt_of_lt_mul (by rw [Nat.mul_comm]; exact this)
      have hor := Wire.byte_or m
      generalize UInt8.ofNat (m % 128 + 128) = c at *
      have hcall := writeByte_any B b (l ++ done) bad c wr hW hl2 hBw'
      have Hcall := Lib.hid hcall
      have Hd := Lib.hid hd
      have Hm := Lib.hid hm
      have Hm' := Lib.hid hm'
      clear hcall hd hm hm' hW
      go_wp2_with (go_at_call 101; refine Hcall.out.mono ?_; rintro e w1 ⟨rfl, hwr⟩; have Hwr := Lib.hid hwr; clear hwr)
      go_roundw
      case rel => exact ⟨m / 128, k, done ++ [c], by go_num, Hm'.out, by omega, by simp; omega, by simpa using Hd.out, by simpa using Hwr.out.is, hb.trans Hwr.out.2⟩
      case measure => simp [intOf]; omega
    · rw [Wire.numF_small (by omega)] at hd
      have hc8 : (UInt8.ofNat m).toNat = m := by rw [UInt8.toNat_ofNat']; omega
      have hcall := writeByte_any B b (l ++ done) bad (UInt8.ofNat m) wr hW hl2 hBw'
      rw [hc8] at hcall
      clear hc8
      generalize UInt8.ofNat m = c at *
      have Hcall := Lib.hid hcall
      have Hd := Lib.hid hd
      have Hm := Lib.hid hm
      clear hcall hd hm hW
      go_wp2_with (go_at_call 101; refine Hcall.out.mono ?_; rintro e w1 ⟨rfl, hwr⟩; have Hwr := Lib.hid hwr; clear hwr)
      go_end0
      refine ⟨rfl, ?_⟩
      rw [← Hd.out, ← List.append_assoc]
      exact ⟨Hwr.out.1, hb.trans Hwr.out.2⟩

set_option maxRecDepth 100000 in
theorem wInt_any (B b : Nat) (n : Int) (l : List UInt8) (bad : Bool) (w : World) (h : IsW B b l bad w) (hlen : l.length ≤ 900000000) (h0 : -9223372036854775808 ≤ n) (h1 : n ≤ 9223372036854775807) (hBw : B ≤ w.heap.size) :
    Calls Try.prog 100 #[.pointer (some ⟨b, 0, none⟩), .int .i64 n] w fun e w' => e = .returned (.tuple #[]) ∧ Wrote B b (l ++ Wire.int n) bad w w' := by
  have hcall := wNum_any B b (Wire.zig n) l bad w h hlen (by unfold Wire.zig; split <;> omega) hBw
  have hz := Wire.zig_bits n h0 h1
  unfold Wire.int
  have Hcall := Lib.hid hcall
  clear hcall h h0 h1
  generalize Wire.zig n = z at *
  go_enter Try.func100, Try.ntmps100
  go_wp2_with fail
  refine Hcall.out.mono ?_
  rintro e w1 ⟨rfl, hwr⟩
  have Hwr := Lib.hid hwr
  clear hwr hz
  go_wp2
  go_end0
  exact ⟨rfl, Hwr.out⟩

theorem run_bits (x : Nat) (w : World) : (callFunc 83 #[.float .f64 x]).run Try.prog w = .ok (.value (.int .u64 x)) w := by
  rw [run_callFunc_extern Try.func83 (by kernel_rfl) (by kernel_rfl) (by kernel_rfl) (e := Extern.MathFloatBits.float64bits) (by kernel_rfl)]; rfl
theorem run_frombits (x : Nat) (w : World) : (callFunc 99 #[.int .u64 x]).run Try.prog w = .ok (.value (.float .f64 x)) w := by
  rw [run_callFunc_extern Try.func99 (by kernel_rfl) (by kernel_rfl) (by kernel_rfl) (e := Extern.MathFloatBits.float64frombits) (by kernel_rfl)]; rfl
theorem floatBits_any (x : Nat) (w : World) :
    Calls Try.prog 61 #[.float .f64 x] w fun e w' => e = .returned (.int .u64 x) ∧ w = w' := by
  have h := run_bits x
  go_enter Try.func61, Try.ntmps61
  go_wp2
  go_ret
  exact ⟨rfl, rfl⟩
theorem floatOf_any (x : Nat) (w : World) :
    Calls Try.prog 84 #[.int .u64 x] w fun e w' => e = .returned (.float .f64 x) ∧ w = w' := by
  have h := run_frombits x
  go_enter Try.func84, Try.ntmps84
  go_wp2
  go_ret
  exact ⟨rfl, rfl⟩

theorem fix_step (k x : Nat) : Wire.fixF (k + 1) x = UInt8.ofNat x :: Wire.fixF k (x / 256) := rfl
set_option maxRecDepth 100000 in
set_option maxHeartbeats 1000000 in
theorem wFloat_any (B b x : Nat) (l : List UInt8) (bad : Bool) (w : World) (h : IsW B b l bad w) (hlen : l.length ≤ 900000000) (hx : x < 18446744073709551616) (hBw : B ≤ w.heap.size) :
    Calls Try.prog 94 #[.pointer (some ⟨b, 0, none⟩), .float .f64 x] w fun e w' => e = .returned (.tuple #[]) ∧ Wrote B b (l ++ Wire.fix x) bad w w' := by
  have HW := Lib.hid h
  clear h
  go_enter Try.func94, Try.ntmps94
  go_wp2_with (go_at_call 61; refine (floatBits_any x _).mono ?_; rintro e w1 ⟨rfl, rfl⟩)
  go_loopw [4, 9] (fun x' i wr => ∃ (m j k : Nat) (done : List UInt8), x' = .int .u64 m ∧ m < 18446744073709551616 ∧ i = .int .i64 j ∧ j + k = 8 ∧ done.length = j ∧ done ++ Wire.fixF k m = Wire.fix x ∧ (j = 0 → wr = w) ∧ IsW B b (l ++ done) bad wr ∧ (0 < j → WAt B b (.pointer (some ⟨b, 0, none⟩)) (l ++ done) bad wr) ∧ BelowK B b w wr) (fun _ i _ => 8 - (intOf i).toNat)
  case atStart => exact ⟨x, 0, 8, [], rfl, hx, rfl, by omega, rfl, rfl, fun _ => rfl, by simpa using HW.out, by omega, BelowK.refl _ _ _⟩
  case round =>
    clear HW hx
    obtain ⟨m, j, k, done, rfl, hm, rfl, hk, hdl, hd, _, hW, hat, hb⟩ := hrel
    have hBw' : B ≤ wr.heap.size := by have := hb.size; omega
    have hl2 : (l ++ done).length ≤ 1000000000 := by rw [List.length_append]; omega
    by_cases hlt : j < 8
    · obtain ⟨k, rfl⟩ : ∃ i, k = i + 1 := ⟨k - 1, by omega⟩
      rw [fix_step] at hd
      have hmod := Wire.byte_mod m
      generalize UInt8.ofNat m = c at *
      have hcall := writeByte_any B b (l ++ done) bad c wr hW hl2 hBw'
      have Hcall := Lib.hid hcall
      have Hd := Lib.hid hd
      have Hdl := Lib.hid hdl
      clear hcall hd hW hat hdl
      go_wp2_with (go_at_call 101; refine Hcall.out.mono ?_; rintro e w1 ⟨rfl, hwr⟩; have Hwr := Lib.hid hwr; clear hwr)
      go_roundw
      case rel => exact ⟨m / 256, j + 1, k, done ++ [c], by go_num, by omega, by go_num, by omega, by simp [Hdl.out], by simpa using Hd.out, by omega, by simpa using Hwr.out.is, fun _ => by simpa using Hwr.out.1, hb.trans Hwr.out.2⟩
      case measure => simp [intOf]; omega
    · obtain rfl : 8 = j := by omega
      obtain rfl : 0 = k := by omega
      have Hat := Lib.hid (hat (by omega))
      have Hd := Lib.hid hd
      clear hat hd hW hdl
      go_wp2
      go_end0
      refine ⟨rfl, ?_, hb⟩
      rw [← Hd.out]
      simpa [Wire.fixF] using Hat.out

theorem WAt.bad {B b : Nat} {p : Value} {l : List UInt8} {bad : Bool} {w : World} (h : WAt B b p l bad w) : WAt B b p l true (w.setCell ⟨b, 2, none⟩ (.bool true)) := by
  obtain ⟨hB, v, hb, hown, hne, hnil⟩ := h
  refine ⟨hB, v, ?_, ?_, hne, hnil⟩
  · have := heap_setCell_same w b 2 _ _ (.bool true) hb
    simpa using this
  · exact hown.kept (row := some b) ⟨rfl, rfl, rfl, by simp [World.setCell], fun k _ hk => heap_setCell_other _ _ _ _ (fun e => hk (by simp at e; rw [e]))⟩ (.inr hne)
theorem IsW.bad {B b : Nat} {l : List UInt8} {bad : Bool} {w : World} (h : IsW B b l bad w) : IsW B b l true (w.setCell ⟨b, 2, none⟩ (.bool true)) := by
  rcases h with h | h
  · exact .inl h.bad
  · exact .inr h.bad
theorem IsW.block {B b : Nat} {l : List UInt8} {bad : Bool} {w : World} (h : IsW B b l bad w) : B ≤ b ∧ ∃ p v, w.heap[b]? = some (.cells #[p, v, .bool bad] 144 (0, 0)) := by
  rcases h with ⟨hB, v, hb, _⟩ | ⟨hB, v, hb, _⟩ <;> exact ⟨hB, _, v, hb⟩

theorem wDone_any (B b : Nat) (l : List UInt8) (bad : Bool) (w : World) (h : IsW B b l bad w) (hlen : l.length ≤ 1000000000) :
    Calls Try.prog 95 #[.pointer (some ⟨b, 0, none⟩)] w fun e w' => e = .returned (.tuple #[.string (if bad then ⟨#[]⟩ else str l), .int .i64 (if bad then 3 else 0)]) ∧ Below B w w' := by
  obtain ⟨p, h⟩ : ∃ p, WAt B b p l bad w := by rcases h with h | h <;> exact ⟨_, h⟩
  have hs := string_any B b p l bad w h hlen
  obtain ⟨hB, v, hbk, hown, hne, hnil⟩ := h
  have c2 : w.cell? ⟨b, 2, none⟩ = some (.bool bad) := at_cell hbk 2 _ rfl
  have Hs := Lib.hid hs
  clear hs hbk hown hne hnil
  cases bad
  · go_enter Try.func95, Try.ntmps95
    go_wp2_with (go_at_call 102; refine Hs.out.mono ?_; rintro e w1 ⟨rfl, hb1⟩)
    go_ret2
    exact ⟨rfl, hb1⟩
  · go_enter Try.func95, Try.ntmps95
    go_wp2
    go_ret2
    exact ⟨rfl, Below.refl _ _⟩
end Go.Proofs.Ytplkogjnmjjjgaa.Wr

/- The walks of the reference's Num, Int, Float and Text (what is written), each once. -/
namespace Go.Proofs.Ytplkogjnmjjjgaa.Wr
open Go.ChangeShapes Go.WideShapes Go.ChangeAt Go.RowKit

theorem conv_own {wr : World} {base : Nat} {v : Value} {l : List UInt8} (h : wr.ownsRow base 5 1 v l.length (bcells l)) :
    (convert 93 9 v).run Try.prog wr = .ok (.string (str l)) wr := by
  rcases h.2 with ⟨rfl, h0⟩ | ⟨g, cap, cur, rfl, hg, hcur, hle, hcap, hsz, htake⟩
  · obtain rfl : l = [] := List.eq_nil_of_length_eq_zero h0
    exact run_convert_bytes_nil wr 93 5 Try.underlying93 Try.underlying5 0 0 _ Try.underlying9
  · refine run_convert_bytes_back _ 93 9 5 ⟨g, 0, none⟩ cap l Try.underlying93 Try.underlying5 Try.underlying9 ?_
    intro j hj
    have := World.ownsRow.cells h (g := g) rfl j (.int .u8 l[j].toNat) (by simp [bcells, hj])
    exact this

set_option maxRecDepth 100000 in
set_option maxHeartbeats 1000000 in
theorem refNum_any (n : Nat) (w : World) (hn : n < 18446744073709551616) :
    Calls Try.prog 75 #[.int .u64 n] w fun e w' => e = .returned (.string (str (Wire.num n))) ∧ Below w.heap.size w w' := by
  obtain ⟨i0, hi, hz0, hz1, hz2⟩ := info_parts u8_info
  have hbound : n < 128 ^ (9 + 1) := by omega
  have Hbound := Lib.hid hbound
  clear hbound
  go_enter Try.func75, Try.ntmps75
  go_wp2
  go_loopw [0, 3] (fun x v wr => ∃ (m k : Nat) (done : List UInt8), x = .int .u64 m ∧ m < 18446744073709551616 ∧ m < 128 ^ (k + 1) ∧ done.length + k = 9 ∧ done ++ Wire.numF k m = Wire.num n ∧ wr.ownsRow w.heap.size 5 1 v done.length (bcells done) ∧ Below w.heap.size w wr) (fun x _ _ => (intOf x).toNat)
  case atStart => exact ⟨n, 9, [], rfl, hn, Hbound.out, by simp, rfl, World.ownsRow_nil _ _ _ _, Below.refl _ _⟩
  case round =>
    clear Hbound
    obtain ⟨m, k, done, rfl, hm64, hm, hdl, hd, hown, hb⟩ := hrel
    have hl9 : done.length ≤ 9 := by omega
    have Hown := Lib.hid hown
    by_cases hlt : 128 ≤ m
    · obtain ⟨k, rfl⟩ : ∃ j, k = j + 1 := by
        cases k with
        | zero => simp at hm; omega
        | succ k => exact ⟨k, rfl⟩
      rw [Wire.numF_great hlt] at hd
      have hm' : m / 128 < 128 ^ (k + 1) := by
        have : m < 128 ^ (k + 1) * 128 := by rw [← Nat.pow_succ]; exact hm
        exact Nat.div_lt_of_lt_mul (by rw [Nat.mul_comm]; exact this)
      have hc8 : (((UInt8.ofNat (m % 128 + 128)).toNat : Nat) : Int) = (m : Int) % 128 + 128 := by rw [UInt8.toNat_ofNat']; omega
      generalize UInt8.ofNat (m % 128 + 128) = c at *
      have Hc8 := Lib.hid hc8
      have Hd := Lib.hid hd
      have Hm := Lib.hid hm
      have Hm' := Lib.hid hm'
      have Hdl := Lib.hid hdl
      clear hd hm hm' hown hc8 hdl
      go_wp2_with (at_builtin; refine wpList_append_own _ rfl _ _ 93 rfl w.heap.size 5 i0 (.int .u8 0) 1 1 Try.underlying93 hi hz0 hz1 hz2 rfl (by decide) _ _ _ rfl (Hown.out.alloc _) ⟨wr.heap.size, 0, none⟩ 1 1 [.int .u8 ((m : Int) % 128 + 128)] rfl rfl ?c1 ?c2 ?c3 ?c4 ?c5 ?_)
      case c1 => exact cell_one_new _ _ _
      case c2 => simp [Value.oneCell']
      case c3 => unfold maxLen; omega
      case c4 => omega
      case c5 => have := hb.size; simp; omega
      intro v' w2 hown' hgrow _
      have hb' : Below w.heap.size w w2 := (hb.alloc (by have := hb.size; omega) _).grown hgrow (by have := hb.size; simp; omega) (fun k hk => (Hown.out.lt k hk).1)
      have Hown' := Lib.hid (show w2.ownsRow w.heap.size 5 1 v' (done ++ [c]).length (bcells (done ++ [c])) from by
        rw [bcells_append, List.length_append]; simp only [bcells, List.map_cons, List.map_nil]; rw [Hc8.out]; exact hown')
      clear hown' hgrow
      go_wp2
      go_roundw
      case rel => exact ⟨m / 128, k, done ++ [c], by go_num, by omega, Hm'.out, by have := Hdl.out; simp; omega, by simpa using Hd.out, Hown'.out, hb'⟩
      case measure => simp [intOf]; omega
    · rw [Wire.numF_small (by omega)] at hd
      have hc8 : (((UInt8.ofNat m).toNat : Nat) : Int) = (m : Int) := by rw [UInt8.toNat_ofNat']; omega
      generalize UInt8.ofNat m = c at *
      have Hc8 := Lib.hid hc8
      have Hd := Lib.hid hd
      have Hm := Lib.hid hm
      clear hd hm hown hc8 hdl
      go_wp2_with (at_builtin; refine wpList_append_own _ rfl _ _ 93 rfl w.heap.size 5 i0 (.int .u8 0) 1 1 Try.underlying93 hi hz0 hz1 hz2 rfl (by decide) _ _ _ rfl (Hown.out.alloc _) ⟨wr.heap.size, 0, none⟩ 1 1 [.int .u8 (m : Int)] rfl rfl ?d1 ?d2 ?d3 ?d4 ?d5 ?_)
      case d1 => exact cell_one_new _ _ _
      case d2 => simp [Value.oneCell']
      case d3 => unfold maxLen; omega
      case d4 => omega
      case d5 => have := hb.size; simp; omega
      intro v' w2 hown' hgrow _
      have hb' : Below w.heap.size w w2 := (hb.alloc (by have := hb.size; omega) _).grown hgrow (by have := hb.size; simp; omega) (fun k hk => (Hown.out.lt k hk).1)
      have hown2 : w2.ownsRow w.heap.size 5 1 v' (done ++ [c]).length (bcells (done ++ [c])) := by
        rw [bcells_append, List.length_append]; simp only [bcells, List.map_cons, List.map_nil]; rw [Hc8.out]; exact hown'
      have hcv := conv_own hown2
      rw [Hd.out] at hcv
      clear hown' hgrow hown2
      go_wp2
      go_ret
      exact ⟨rfl, hb'⟩

theorem refInt_any (n : Int) (w : World) (h0 : -9223372036854775808 ≤ n) (h1 : n ≤ 9223372036854775807) :
    Calls Try.prog 97 #[.int .i64 n] w fun e w' => e = .returned (.string (str (Wire.int n))) ∧ Below w.heap.size w w' := by
  have hcall := refNum_any (Wire.zig n) w (by unfold Wire.zig; split <;> omega)
  have Hcall := Lib.hid hcall
  unfold Wire.int
  by_cases hp : 0 ≤ n
  · have hz : IntKind.u64.wrap (IntKind.u64.wrap n * 2) = (Wire.zig n : Nat) := by
      rw [IntKind.wrap_u64, IntKind.wrap_u64]; unfold Wire.zig; rw [if_pos hp]; omega
    clear hcall h0 h1
    generalize Wire.zig n = z at *
    go_enter Try.func97, Try.ntmps97
    go_wp2_with fail
    refine Hcall.out.mono ?_
    rintro e w1 ⟨rfl, hb⟩
    go_wp2
    go_ret
    exact ⟨rfl, hb⟩
  · have hz : -(n + 1) * 2 + 1 = (Wire.zig n : Nat) := by
      unfold Wire.zig; rw [if_neg hp]; omega
    have Hz := Lib.hid hz
    clear hcall hz
    go_enter Try.func97, Try.ntmps97
    go_wp2_with fail
    rw [Hz.out]
    refine Hcall.out.mono ?_
    rintro e w1 ⟨rfl, hb⟩
    go_wp2
    go_ret
    exact ⟨rfl, hb⟩

set_option maxRecDepth 100000 in
set_option maxHeartbeats 1000000 in
theorem refFloat_any (n : Nat) (w : World) (hn : n < 18446744073709551616) :
    Calls Try.prog 76 #[.int .u64 n] w fun e w' => e = .returned (.string (str (Wire.fix n))) ∧ Below w.heap.size w w' := by
  obtain ⟨i0, hi, hz0, hz1, hz2⟩ := info_parts u8_info
  go_enter Try.func76, Try.ntmps76
  go_wp2
  go_loopw [0, 3, 4] (fun x v i wr => ∃ (m j k : Nat) (done : List UInt8), x = .int .u64 m ∧ m < 18446744073709551616 ∧ i = .int .i64 j ∧ j + k = 8 ∧ done.length = j ∧ done ++ Wire.fixF k m = Wire.fix n ∧ wr.ownsRow w.heap.size 5 1 v done.length (bcells done) ∧ Below w.heap.size w wr) (fun _ _ i _ => 8 - (intOf i).toNat)
  case atStart => exact ⟨n, 0, 8, [], rfl, hn, rfl, by omega, rfl, rfl, World.ownsRow_nil _ _ _ _, Below.refl _ _⟩
  case round =>
    clear hn
    obtain ⟨m, j, k, done, rfl, hm, rfl, hk, hdl, hd, hown, hb⟩ := hrel
    have Hown := Lib.hid hown
    have hl9 : done.length ≤ 9 := by omega
    by_cases hlt : j < 8
    · obtain ⟨k, rfl⟩ : ∃ i, k = i + 1 := ⟨k - 1, by omega⟩
      rw [fix_step] at hd
      have hc8 : (((UInt8.ofNat m).toNat : Nat) : Int) = (m : Int) % 256 := by rw [UInt8.toNat_ofNat']; omega
      generalize UInt8.ofNat m = c at *
      have Hc8 := Lib.hid hc8
      have Hd := Lib.hid hd
      have Hdl := Lib.hid hdl
      clear hd hown hc8 hdl
      go_wp2_with (at_builtin; refine wpList_append_own _ rfl _ _ 93 rfl w.heap.size 5 i0 (.int .u8 0) 1 1 Try.underlying93 hi hz0 hz1 hz2 rfl (by decide) _ _ _ rfl (Hown.out.alloc _) ⟨wr.heap.size, 0, none⟩ 1 1 [.int .u8 ((m : Int) % 256)] rfl rfl ?c1 ?c2 ?c3 ?c4 ?c5 ?_)
      case c1 => exact cell_one_new _ _ _
      case c2 => simp [Value.oneCell']
      case c3 => unfold maxLen; omega
      case c4 => omega
      case c5 => have := hb.size; simp; omega
      intro v' w2 hown' hgrow _
      have hb' : Below w.heap.size w w2 := (hb.alloc (by have := hb.size; omega) _).grown hgrow (by have := hb.size; simp; omega) (fun k hk => (Hown.out.lt k hk).1)
      have Hown' := Lib.hid (show w2.ownsRow w.heap.size 5 1 v' (done ++ [c]).length (bcells (done ++ [c])) from by
        rw [bcells_append, List.length_append]; simp only [bcells, List.map_cons, List.map_nil]; rw [Hc8.out]; exact hown')
      clear hown' hgrow
      go_wp2
      go_roundw
      case rel => exact ⟨m / 256, j + 1, k, done ++ [c], by go_num, by omega, by go_num, by omega, by simp [Hdl.out], by simpa using Hd.out, Hown'.out, hb'⟩
      case measure => simp [intOf]; omega
    · obtain rfl : 8 = j := by omega
      obtain rfl : 0 = k := by omega
      have hcv := conv_own hown
      simp only [Wire.fixF, List.append_nil] at hd
      rw [hd] at hcv
      clear hown hd hdl hl9
      go_wp2
      go_ret
      exact ⟨rfl, hb⟩

theorem text_str (s : ByteArray) : str (Wire.num s.size) ++ s = str (Wire.text s.data.toList) := by
  apply ByteArray.ext
  apply Array.toList_inj.1
  rw [ByteArray.data_append, Array.toList_append, str_data, str_data]; rfl
end Go.Proofs.Ytplkogjnmjjjgaa.Wr

/- How a slice of parts that came in lies in memory, read off its reading; what a part's bytes are. -/
namespace Go.Proofs.Ytplkogjnmjjjgaa.Wr
open Go.ChangeShapes Go.WideShapes Go.ChangeAt Go.RowKit

/-- a part: its kind, its number, its text -/
structure Part where
  k : Nat
  n : Nat
  s : ByteArray
instance : Inhabited Part := ⟨⟨0, 0, .empty⟩⟩
def Part.ok (p : Part) : Prop := p.k < 256 ∧ p.n < 18446744073709551616 ∧ p.s.size ≤ maxLen
def Part.value (p : Part) : Value := .agg #[.int .u8 p.k, .int .u64 p.n, .string p.s]

/-- a slice reads as these parts -/
structure Parts (w : World) (a : Option Addr) (ps : List Part) : Prop where
  many : ps.length ≤ maxLen
  each : ∀ i, i < ps.length → (ps.getD i default).ok
  cell : ∃ b off, (ps = [] ∨ a = some ⟨b, off, none⟩) ∧ ∀ i, i < ps.length → w.cell? ⟨b, off + i * 3, none⟩ = some (.int .u8 (ps.getD i default).k) ∧ w.cell? ⟨b, off + i * 3 + 1, none⟩ = some (.int .u64 (ps.getD i default).n) ∧ w.cell? ⟨b, off + i * 3 + 2, none⟩ = some (.string (ps.getD i default).s)
theorem Parts.below {w w' : World} {a : Option Addr} {ps : List Part} (h : Parts w a ps) (hb : Below w.heap.size w w') : Parts w' a ps :=
  ⟨h.many, h.each, by
    obtain ⟨b, off, ha, hc⟩ := h.cell
    exact ⟨b, off, ha, fun i hi => ⟨cellB hb (Nat.le_refl _) (hc i hi).1, cellB hb (Nat.le_refl _) (hc i hi).2.1, cellB hb (Nat.le_refl _) (hc i hi).2.2⟩⟩⟩

/-- a part's bytes, and whether it may be written -/
def Part.bytes (p : Part) : List UInt8 × Bool :=
  if p.k % 4 = 0 then (Wire.num p.n, true) else if p.k % 4 = 1 then (Wire.int (wrap64 p.n), true) else if p.k % 4 = 2 then (Wire.fix p.n, true)
  else if p.s.size ≤ 65535 then (Wire.text p.s.data.toList, true) else ([], false)
theorem wrap64_bounds (n : Int) : -9223372036854775808 ≤ wrap64 n ∧ wrap64 n ≤ 9223372036854775807 := by unfold wrap64; omega
end Go.Proofs.Ytplkogjnmjjjgaa.Wr

/- The walks of the law's own helpers: 'lives', 'bytes' and 'write'. -/
namespace Go.Proofs.Ytplkogjnmjjjgaa.Wr
open Go.ChangeShapes Go.WideShapes Go.ChangeAt Go.RowKit

theorem IsW.grow {B b : Nat} {l : List UInt8} {bad : Bool} {w w' : World} (h : IsW B b l bad w) (hb : Below w.heap.size w w') : IsW B b l bad w' := by
  have key : ∀ p, WAt B b p l bad w → WAt B b p l bad w' := by
    intro p hp
    obtain ⟨hB, v, hbk, hown, hne, hnil⟩ := hp
    exact ⟨hB, v, blockB hb (Nat.le_refl _) hbk, hown.kept (row := none) ⟨hb.os, hb.tape, hb.output, hb.size, fun k hk _ => hb.block k hk⟩ (by cases hob : v.ownBlock with
      | none => exact .inl rfl
      | some g => exact .inr (by simp)), hne, hnil⟩
  rcases h with h | h
  · exact .inl (key _ h)
  · exact .inr (key _ h)

theorem lives_str : str ([] ++ Wire.num 300 ++ Wire.int (-1)) = ⟨#[172, 2, 1]⟩ := by decide +kernel
end Go.Proofs.Ytplkogjnmjjjgaa.Wr

/- The plain law of reading: what is read of any bytes. No program in sight. -/
namespace Go.Proofs.Ytplkogjnmjjjgaa.Wr
namespace Wire

/-- a number, how many bytes it has, and why it is none (i: how many bytes are behind; n: their number) -/
def rd : Nat → Nat → List UInt8 → Nat × Nat × Nat
  | _, _, [] => (0, 0, 1)
  | i, n, c :: r => if (0 < i ∧ c.toNat = 0) ∨ (9 ≤ i ∧ 1 < c.toNat) then (0, 0, 2) else if c.toNat < 128 then (n + c.toNat % 128 * 128 ^ i, i + 1, 0) else rd (i + 1) (n + c.toNat % 128 * 128 ^ i) r
def readNum (l : List UInt8) : Nat × Nat × Nat := rd 0 0 l
theorem rd_bad {i n : Nat} {c : UInt8} {r : List UInt8} (h : (0 < i ∧ c.toNat = 0) ∨ (9 ≤ i ∧ 1 < c.toNat)) : rd i n (c :: r) = (0, 0, 2) := if_pos h
theorem rd_end {i n : Nat} {c : UInt8} {r : List UInt8} (h : ¬ ((0 < i ∧ c.toNat = 0) ∨ (9 ≤ i ∧ 1 < c.toNat))) (h2 : c.toNat < 128) : rd i n (c :: r) = (n + c.toNat % 128 * 128 ^ i, i + 1, 0) := (if_neg h).trans (if_pos h2)
theorem rd_more {i n : Nat} {c : UInt8} {r : List UInt8} (h : ¬ ((0 < i ∧ c.toNat = 0) ∨ (9 ≤ i ∧ 1 < c.toNat))) (h2 : ¬ c.toNat < 128) : rd i n (c :: r) = rd (i + 1) (n + c.toNat % 128 * 128 ^ i) r := (if_neg h).trans (if_neg h2)
/-- what a byte adds stays in its place -/
theorem rd_small {i n : Nat} {c : UInt8} (hi : i ≤ 9) (hn : n < 128 ^ i) (h : ¬ (9 ≤ i ∧ 1 < c.toNat)) : n + c.toNat % 128 * 128 ^ i < 18446744073709551616 := by
  by_cases h9 : i = 9
  · subst h9
    have : c.toNat ≤ 1 := by omega
    have e : c.toNat % 128 * 128 ^ 9 ≤ 1 * 128 ^ 9 := Nat.mul_le_mul_right _ (by omega)
    have e2 : (128 : Nat) ^ 9 = 9223372036854775808 := by decide
    omega
  · have h8 : 128 ^ (i + 1) ≤ 128 ^ 9 := Nat.pow_le_pow_right (by omega) (by omega)
    have e : c.toNat % 128 * 128 ^ i ≤ 127 * 128 ^ i := Nat.mul_le_mul_right _ (by omega)
    have e2 : (128 : Nat) ^ 9 = 9223372036854775808 := by decide
    rw [Nat.pow_succ] at h8
    omega
theorem rd_step {i n : Nat} {c : UInt8} (hn : n < 128 ^ i) : n + c.toNat % 128 * 128 ^ i < 128 ^ (i + 1) := by
  have e : c.toNat % 128 * 128 ^ i ≤ 127 * 128 ^ i := Nat.mul_le_mul_right _ (by omega)
  rw [Nat.pow_succ]
  omega
/-- the number is one of 64 bits, and its bytes are there -/
theorem rd_fits (l : List UInt8) : ∀ (i n : Nat), i ≤ 9 → n < 128 ^ i → (rd i n l).1 < 18446744073709551616 ∧ (rd i n l).2.1 ≤ i + l.length ∧ ((rd i n l).2.2 = 0 ∨ (rd i n l).2.2 = 1 ∨ (rd i n l).2.2 = 2) := by
  induction l with
  | nil => intro i n _ _; simp [rd]
  | cons c r ih =>
    intro i n hi hn
    by_cases h : (0 < i ∧ c.toNat = 0) ∨ (9 ≤ i ∧ 1 < c.toNat)
    · rw [rd_bad h]; simp
    · have hs := rd_small (c := c) hi hn (by omega)
      by_cases h2 : c.toNat < 128
      · rw [rd_end h h2]; simp; omega
      · rw [rd_more h h2]
        have := ih (i + 1) _ (by omega) (rd_step (c := c) hn)
        simp only [List.length_cons]
        omega
theorem readNum_fits (l : List UInt8) : (readNum l).1 < 18446744073709551616 ∧ (readNum l).2.1 ≤ l.length ∧ ((readNum l).2.2 = 0 ∨ (readNum l).2.2 = 1 ∨ (readNum l).2.2 = 2) := by
  have := rd_fits l 0 0 (by omega) (by decide)
  unfold readNum; omega

theorem put_shift (m x k : Nat) (hm : m < 2 ^ k) (hx : x * 2 ^ k < 18446744073709551616) (hm2 : m < 18446744073709551616) :
    bits BinOp.or IntKind.u64 (m : Int) (IntKind.u64.wrap ((x : Int) * 2 ^ k)) = ((m + x * 2 ^ k : Nat) : Int) := by
  have e : IntKind.u64.wrap ((x : Int) * 2 ^ k) = ((x * 2 ^ k : Nat) : Int) := by
    rw [IntKind.wrap_u64]
    have e1 : (x : Int) * 2 ^ k = ((x * 2 ^ k : Nat) : Int) := by rw [Int.natCast_mul, Int.natCast_pow]; rfl
    rw [e1]
    generalize x * 2 ^ k = q at *
    omega
  rw [e, u64_or_nat _ _ hm2 hx]
  apply congrArg
  rw [Nat.or_comm, Nat.mul_comm x, ← Nat.two_pow_add_eq_or_of_lt hm x, Nat.add_comm]
theorem and127 (c : Nat) (hc : c < 256) : bits BinOp.and IntKind.u8 (c : Int) 127 = ((c % 128 : Nat) : Int) := by
  rw [show (127 : Int) = ((127 : Nat) : Int) from rfl, u8_and_nat c 127 hc (by decide)]
  apply congrArg
  exact Nat.and_two_pow_sub_one_eq_mod c 7
theorem pow128 (j : Nat) : (128 : Nat) ^ j = 2 ^ (7 * j) := by rw [Nat.pow_mul]
theorem put_byte {j m : Nat} {c : UInt8} (hj : j ≤ 9) (hm : m < 128 ^ j) (h : ¬ (9 ≤ j ∧ 1 < c.toNat)) :
    bits BinOp.or IntKind.u64 (m : Int) (IntKind.u64.wrap (IntKind.u64.wrap (bits BinOp.and IntKind.u8 (c.toNat : Int) 127) * 2 ^ (7 * j))) = ((m + c.toNat % 128 * 128 ^ j : Nat) : Int) := by
  have hs := rd_small hj hm h
  have hw : IntKind.u64.wrap ((c.toNat % 128 : Nat) : Int) = ((c.toNat % 128 : Nat) : Int) := by rw [IntKind.wrap_u64]; omega
  rw [and127 _ c.toNat_lt, hw]
  rw [pow128] at *
  exact put_shift _ _ _ hm (by omega) (by omega)
theorem put_byte0 {m : Nat} {c : UInt8} (hm : m < 128 ^ 0) :
    bits BinOp.or IntKind.u64 (m : Int) (IntKind.u64.wrap (IntKind.u64.wrap (bits BinOp.and IntKind.u8 (c.toNat : Int) 127))) = ((m + c.toNat % 128 * 128 ^ 0 : Nat) : Int) := by
  have := put_byte (j := 0) (m := m) (c := c) (by omega) hm (by omega)
  rw [← this]; simp
theorem put_byte9 {m : Nat} {c : UInt8} (hm : m < 128 ^ 9) (h : ¬ (9 ≤ 9 ∧ 1 < c.toNat)) :
    bits BinOp.or IntKind.u64 (m : Int) (IntKind.u64.wrap (IntKind.u64.wrap (bits BinOp.and IntKind.u8 (c.toNat : Int) 127) * 9223372036854775808)) = ((m + c.toNat % 128 * 128 ^ 9 : Nat) : Int) := by
  have := put_byte (j := 9) (m := m) (c := c) (by omega) hm h
  rw [← this]; rfl
theorem mul_byte {m c p : Nat} (h : m + c % 128 * p < 18446744073709551616) :
    IntKind.u64.wrap ((m : Int) + IntKind.u64.wrap ((c : Int) % 128 * (p : Int))) = ((m + c % 128 * p : Nat) : Int) := by
  have e1 : (c : Int) % 128 * (p : Int) = ((c % 128 * p : Nat) : Int) := by rw [Int.natCast_mul]; rfl
  rw [e1, IntKind.wrap_u64, IntKind.wrap_u64]
  generalize c % 128 * p = q at *
  omega
theorem mul_worth {j : Nat} (hj : j < 9) : IntKind.u64.wrap (((128 ^ j : Nat) : Int) * 128) = ((128 ^ (j + 1) : Nat) : Int) := by
  have h8 : 128 ^ (j + 1) ≤ 128 ^ 9 := Nat.pow_le_pow_right (by omega) (by omega)
  have e2 : (128 : Nat) ^ 9 = 9223372036854775808 := by decide
  rw [Nat.pow_succ] at *
  rw [IntKind.wrap_u64]
  generalize 128 ^ j = q at *
  omega
theorem pow256 (j : Nat) : (256 : Nat) ^ j = 2 ^ (8 * j) := by rw [Nat.pow_mul]
theorem put8 {j m c : Nat} (hj : j ≤ 7) (hm : m < 256 ^ j) (hc : c < 256) :
    bits BinOp.or IntKind.u64 (m : Int) (IntKind.u64.wrap ((c : Int) * 2 ^ (8 * j))) = ((m + c * 256 ^ j : Nat) : Int) := by
  have h8 : 256 ^ j ≤ 256 ^ 7 := Nat.pow_le_pow_right (by omega) hj
  have e : c * 256 ^ j ≤ 255 * 256 ^ j := Nat.mul_le_mul_right _ (by omega)
  have e2 : (256 : Nat) ^ 7 = 72057594037927936 := by decide
  have hx : c * 256 ^ j < 18446744073709551616 := by omega
  have hm2 : m < 18446744073709551616 := by omega
  rw [pow256] at *
  exact put_shift _ _ _ hm hx hm2
theorem put8_0 {c : Nat} (hc : c < 256) : bits BinOp.or IntKind.u64 0 (c : Int) = ((0 + c * 256 ^ 0 : Nat) : Int) := by
  rw [show (0 : Int) = ((0 : Nat) : Int) from rfl, u64_or_nat 0 c (by decide) (by omega)]
  apply congrArg
  simp
theorem horner {m c : Nat} (hm : m < 72057594037927936) (hc : c < 256) : IntKind.u64.wrap (IntKind.u64.wrap ((m : Int) * 256) + (c : Int)) = ((c + 256 * m : Nat) : Int) := by
  rw [IntKind.wrap_u64, IntKind.wrap_u64]; omega
/-- eight bytes' number -/
def un : List UInt8 → Nat
  | [] => 0
  | c :: r => c.toNat + 256 * un r
theorem un_lt (l : List UInt8) : un l < 256 ^ l.length := by
  induction l with
  | nil => simp [un]
  | cons c r ih =>
    have : c.toNat < 256 := c.toNat_lt
    simp only [un, List.length_cons, Nat.pow_succ]
    omega
theorem un_append (a : List UInt8) (c : UInt8) : un (a ++ [c]) = un a + c.toNat * 256 ^ a.length := by
  induction a with
  | nil => simp [un]
  | cons d a ih => simp only [List.cons_append, un, ih, List.length_cons, Nat.pow_succ]; rw [Nat.mul_add, Nat.add_assoc, Nat.mul_left_comm, Nat.mul_comm 256 (256 ^ a.length)]
def readFix (l : List UInt8) : Nat × Nat × Nat := if l.length < 8 then (0, 0, 1) else (un (l.take 8), 8, 0)
def readText (l : List UInt8) : List UInt8 × Nat × Nat :=
  if (readNum l).2.2 ≠ 0 then ([], 0, (readNum l).2.2) else if 65535 < (readNum l).1 then ([], 0, 3) else if l.length < (readNum l).2.1 + (readNum l).1 then ([], 0, 1)
  else ((l.drop (readNum l).2.1).take (readNum l).1, (readNum l).2.1 + (readNum l).1, 0)
theorem readFix_fits (l : List UInt8) : (readFix l).2.1 ≤ l.length := by
  unfold readFix
  split
  · simp
  · simp; omega
theorem readFix_lt (l : List UInt8) : (readFix l).1 < 18446744073709551616 := by
  unfold readFix
  split
  · simp
  · have := un_lt (l.take 8)
    have h8 : 256 ^ (l.take 8).length ≤ 256 ^ 8 := Nat.pow_le_pow_right (by omega) (by rw [List.length_take]; omega)
    have e2 : (256 : Nat) ^ 8 = 18446744073709551616 := by decide
    simp only; omega
theorem readText_fits (l : List UInt8) : (readText l).2.1 ≤ l.length := by
  unfold readText
  split
  · simp
  split
  · simp
  split
  · simp
  · simp only; omega
end Wire
end Go.Proofs.Ytplkogjnmjjjgaa.Wr

/- The walks of the readers of bytes: wire's number, fixed and text, and the reference's. -/
namespace Go.Proofs.Ytplkogjnmjjjgaa.Wr
open Go.ChangeShapes Go.WideShapes Go.ChangeAt Go.RowKit

set_option maxRecDepth 100000 in
set_option maxHeartbeats 1000000 in
theorem number_any (s : ByteArray) (w : World) (hs : s.size ≤ 1000000000) :
    Calls Try.prog 87 #[.string s] w fun e w' => e = .returned (.tuple #[.int .u64 (Wire.readNum s.data.toList).1, .int .i64 (Wire.readNum s.data.toList).2.1, .int .i64 (Wire.readNum s.data.toList).2.2]) ∧ w = w' := by
  unfold Wire.readNum
  go_enter Try.func87, Try.ntmps87
  go_wp2
  go_loopw [5, 10] (fun n i wr => ∃ (j m : Nat), n = .int .u64 m ∧ i = .int .i64 j ∧ j ≤ 9 ∧ j ≤ s.size ∧ m < 128 ^ j ∧ Wire.rd 0 0 s.data.toList = Wire.rd j m (s.data.toList.drop j) ∧ wr = w) (fun _ i _ => s.size - (intOf i).toNat)
  case atStart => exact ⟨0, 0, rfl, rfl, by omega, by omega, by simp, rfl, rfl⟩
  case round =>
    obtain ⟨j, m, rfl, rfl, hj9, hj, hm, hrd, rfl⟩ := hrel
    have Hm := Lib.hid hm
    have Hrd := Lib.hid hrd
    clear hm hrd
    by_cases hlt : j < s.size
    · have hcl : s[j].toNat < 256 := UInt8.toNat_lt _
      have hdr : s.data.toList.drop j = s[j] :: s.data.toList.drop (j + 1) := by
        rw [List.drop_eq_getElem_cons (by rw [size_list]; exact hlt)]; rfl
      have Hdr := Lib.hid hdr
      clear hdr
      by_cases hbad : (0 < j ∧ s[j].toNat = 0) ∨ (9 ≤ j ∧ 1 < s[j].toNat)
      · have hbad' : (0 < j ∧ s[j].toNat = 0) ∨ (j = 9 ∧ 1 < s[j].toNat) := by omega
        have Hbad := Lib.hid hbad
        rcases hbad' with ⟨h1, h2⟩ | ⟨h1, h2⟩
        · clear hbad
          go_wp2
          go_ret3
          rw [Hrd.out, Hdr.out, Wire.rd_bad Hbad.out]
          exact ⟨rfl, rfl⟩
        · subst h1
          have h3 : ¬ s[9].toNat = 0 := by omega
          clear hbad
          go_wp2
          go_ret3
          rw [Hrd.out, Hdr.out, Wire.rd_bad Hbad.out]
          exact ⟨rfl, rfl⟩
      · have n1 : ¬ (0 < j ∧ s[j].toNat = 0) := by omega
        have n2 : ¬ (j = 9 ∧ 1 < s[j].toNat) := by omega
        have Hbad := Lib.hid hbad
        have Hput := Lib.hid (Wire.put_byte hj9 Hm.out (c := s[j]) (by omega))
        have Hstep := Lib.hid (Wire.rd_step (c := s[j]) Hm.out)
        clear hbad
        by_cases hend : s[j].toNat < 128
        · have Hend := Lib.hid (Wire.rd_end (n := m) (r := s.data.toList.drop (j + 1)) Hbad.out hend)
          by_cases hz : j = 0
          · subst hz
            have Hput0 := Lib.hid (Wire.put_byte0 (c := s[0]) Hm.out)
            go_wp2
            go_ret3
            rw [Hrd.out, Hdr.out, Hend.out]
            exact ⟨by show Ending.returned (.tuple #[.int .u64 _, _, _]) = _; rw [Hput0.out]; rfl, rfl⟩
          · have c0 : ¬ s[j].toNat = 0 := by omega
            by_cases h9 : j = 9
            · subst h9
              have Hput9 := Lib.hid (Wire.put_byte9 (c := s[9]) Hm.out (by omega))
              have c1 : ¬ (1 : Int) < (s[9].toNat : Int) := by omega
              have b0 : ((s[9].toNat : Int) == 0) = false := by rw [beq_eq_false_iff_ne]; omega
              clear n1 n2
              go_wp2
              go_ret3
              rw [Hrd.out, Hdr.out, Hend.out]
              exact ⟨by show Ending.returned (.tuple #[.int .u64 _, _, _]) = _; rw [Hput9.out]; rfl, rfl⟩
            · clear n1 n2
              go_wp2
              go_ret3
              rw [Hrd.out, Hdr.out, Hend.out]
              exact ⟨by show Ending.returned (.tuple #[.int .u64 _, _, _]) = _; rw [Hput.out]; rfl, rfl⟩
        · have Hmore := Lib.hid (Wire.rd_more (n := m) (r := s.data.toList.drop (j + 1)) Hbad.out hend)
          have h9 : ¬ j = 9 := by omega
          by_cases hz : j = 0
          · subst hz
            have Hput0 := Lib.hid (Wire.put_byte0 (c := s[0]) Hm.out)
            go_wp2
            go_roundw
            case rel => exact ⟨1, m + s[0].toNat % 128 * 128 ^ 0, by rw [Hput0.out], rfl, by omega, by omega, Hstep.out, by rw [Hrd.out, Hdr.out, Hmore.out], trivial⟩
            case measure => simp [intOf]; omega
          · have c0 : ¬ s[j].toNat = 0 := by omega
            clear n1 n2
            go_wp2
            go_roundw
            case rel => exact ⟨j + 1, m + s[j].toNat % 128 * 128 ^ j, by rw [Hput.out], by go_num, by omega, by omega, Hstep.out, by rw [Hrd.out, Hdr.out, Hmore.out], trivial⟩
            case measure => simp [intOf]; omega
    · obtain rfl : s.size = j := by omega
      have hdr : s.data.toList.drop s.size = [] := List.drop_of_length_le (by rw [size_list]; exact Nat.le_refl _)
      have Hdr := Lib.hid hdr
      clear hdr
      go_wp2
      go_ret3
      rw [Hrd.out, Hdr.out]
      exact ⟨rfl, rfl⟩

end Go.Proofs.Ytplkogjnmjjjgaa.Wr

/- The walks of the reference's ReadNum and ReadFloat, and wire's fixed. -/
namespace Go.Proofs.Ytplkogjnmjjjgaa.Wr
open Go.ChangeShapes Go.WideShapes Go.ChangeAt Go.RowKit

set_option maxRecDepth 100000 in
set_option maxHeartbeats 1000000 in
theorem readNum_any (s : ByteArray) (w : World) (hs : s.size ≤ 1000000000) :
    Calls Try.prog 89 #[.string s] w fun e w' => e = .returned (.tuple #[.int .u64 (Wire.readNum s.data.toList).1, .int .i64 (Wire.readNum s.data.toList).2.1, .int .i64 (Wire.readNum s.data.toList).2.2]) ∧ w = w' := by
  unfold Wire.readNum
  go_enter Try.func89, Try.ntmps89
  go_wp2
  go_loopw [5, 6, 7] (fun n q i wr => ∃ (j m p : Nat), n = .int .u64 m ∧ i = .int .i64 j ∧ q = .int .u64 p ∧ p = 128 ^ j ∧ j ≤ 9 ∧ j ≤ s.size ∧ m < 128 ^ j ∧ Wire.rd 0 0 s.data.toList = Wire.rd j m (s.data.toList.drop j) ∧ wr = w) (fun _ _ i _ => s.size - (intOf i).toNat)
  case atStart => exact ⟨0, 0, 1, rfl, rfl, rfl, rfl, by omega, by omega, by simp, rfl, rfl⟩
  case round =>
    obtain ⟨j, m, p, rfl, rfl, rfl, hp, hj9, hj, hm, hrd, rfl⟩ := hrel
    have Hp := Lib.hid hp
    have Hm := Lib.hid hm
    have Hrd := Lib.hid hrd
    clear hm hrd hp
    by_cases hlt : j < s.size
    · have hcl : s[j].toNat < 256 := UInt8.toNat_lt _
      have hdr : s.data.toList.drop j = s[j] :: s.data.toList.drop (j + 1) := by
        rw [List.drop_eq_getElem_cons (by rw [size_list]; exact hlt)]; rfl
      have Hdr := Lib.hid hdr
      clear hdr
      by_cases hbad : (0 < j ∧ s[j].toNat = 0) ∨ (9 ≤ j ∧ 1 < s[j].toNat)
      · have hbad' : (0 < j ∧ s[j].toNat = 0) ∨ (j = 9 ∧ 1 < s[j].toNat) := by omega
        have Hbad := Lib.hid hbad
        rcases hbad' with ⟨h1, h2⟩ | ⟨h1, h2⟩
        · clear hbad
          go_wp2
          go_ret3
          rw [Hrd.out, Hdr.out, Wire.rd_bad Hbad.out]
          exact ⟨rfl, rfl⟩
        · subst h1
          have h3 : ¬ s[9].toNat = 0 := by omega
          clear hbad
          go_wp2
          go_ret3
          rw [Hrd.out, Hdr.out, Wire.rd_bad Hbad.out]
          exact ⟨rfl, rfl⟩
      · have n1 : ¬ (0 < j ∧ s[j].toNat = 0) := by omega
        have n2 : ¬ (9 ≤ j ∧ 1 < s[j].toNat) := by omega
        have hq : m + s[j].toNat % 128 * p < 18446744073709551616 := by rw [Hp.out]; exact Wire.rd_small hj9 Hm.out n2
        have hq2 : s[j].toNat % 128 * p < 18446744073709551616 := by omega
        have Hbad := Lib.hid hbad
        have hmb := Wire.mul_byte hq
        rw [Hp.out] at hmb
        rw [← Hp.out] at hmb
        have Hmb := Lib.hid hmb
        clear hmb
        have Hq := Lib.hid hq
        have Hq2 := Lib.hid hq2
        have Hstep := Lib.hid (Wire.rd_step (c := s[j]) Hm.out)
        clear hbad hq hq2
        by_cases hend : s[j].toNat < 128
        · have Hend := Lib.hid (Wire.rd_end (n := m) (r := s.data.toList.drop (j + 1)) Hbad.out hend)
          by_cases hz : j = 0
          · subst hz
            go_wp2
            go_ret3
            rw [Hrd.out, Hdr.out, Hend.out]
            exact ⟨by show Ending.returned (.tuple #[.int .u64 _, _, _]) = _; rw [Hmb.out, Hp.out]; rfl, rfl⟩
          · have c0 : ¬ s[j].toNat = 0 := by omega
            have b0 : ((s[j].toNat : Int) == 0) = false := by rw [beq_eq_false_iff_ne]; omega
            go_wp2
            all_goals
              go_ret3
              rw [Hrd.out, Hdr.out, Hend.out]
              exact ⟨by show Ending.returned (.tuple #[.int .u64 _, _, _]) = _; rw [Hmb.out, Hp.out]; rfl, rfl⟩
        · have Hmore := Lib.hid (Wire.rd_more (n := m) (r := s.data.toList.drop (j + 1)) Hbad.out hend)
          have c0 : ¬ s[j].toNat = 0 := by omega
          have h9 : ¬ 9 ≤ j := by omega
          have hw := Wire.mul_worth (j := j) (by omega)
          rw [← Hp.out] at hw
          have Hw := Lib.hid hw
          clear hw
          go_wp2
          all_goals
            refine ⟨⟨j + 1, m + s[j].toNat % 128 * p, 128 ^ (j + 1), by rw [Hmb.out], by go_num, by rw [Hw.out], rfl, by omega, by omega, by rw [Hp.out]; exact Hstep.out, by rw [Hrd.out, Hdr.out, Hmore.out, Hp.out], trivial⟩, by simp [intOf]; omega⟩
    · obtain rfl : s.size = j := by omega
      have hdr : s.data.toList.drop s.size = [] := List.drop_of_length_le (by rw [size_list]; exact Nat.le_refl _)
      have Hdr := Lib.hid hdr
      clear hdr
      go_wp2
      go_ret3
      rw [Hrd.out, Hdr.out]
      exact ⟨rfl, rfl⟩

theorem un_step (s : ByteArray) (j : Nat) (h : j < s.size) : Wire.un (s.data.toList.take (j + 1)) = Wire.un (s.data.toList.take j) + s[j].toNat * 256 ^ j := by
  have e : s.data.toList.take (j + 1) = s.data.toList.take j ++ [s[j]] := by
    rw [List.take_succ_eq_append_getElem (by rw [size_list]; exact h)]; rfl
  rw [e, Wire.un_append, List.length_take, size_list, Nat.min_eq_left (by omega)]

set_option maxRecDepth 100000 in
set_option maxHeartbeats 1000000 in
theorem fixed_any (s : ByteArray) (w : World) (hs : s.size ≤ 1000000000) :
    Calls Try.prog 86 #[.string s] w fun e w' => e = .returned (.tuple #[.int .u64 (Wire.readFix s.data.toList).1, .int .i64 (Wire.readFix s.data.toList).2.1, .int .i64 (Wire.readFix s.data.toList).2.2]) ∧ w = w' := by
  unfold Wire.readFix
  rw [size_list]
  by_cases h8 : s.size < 8
  · rw [if_pos h8]
    go_enter Try.func86, Try.ntmps86
    go_wp2
    go_ret3
    exact ⟨rfl, rfl⟩
  · rw [if_neg h8]
    go_enter Try.func86, Try.ntmps86
    go_wp2
    go_loopw [5, 10] (fun n i wr => ∃ (j m : Nat), n = .int .u64 m ∧ i = .int .i64 j ∧ j ≤ 8 ∧ m = Wire.un (s.data.toList.take j) ∧ wr = w) (fun _ i _ => 8 - (intOf i).toNat)
    case atStart => exact ⟨0, 0, rfl, rfl, by omega, rfl, rfl⟩
    case round =>
      obtain ⟨j, m, rfl, rfl, hj, hm, rfl⟩ := hrel
      by_cases hlt : j < 8
      · have hlt2 : j < s.size := by omega
        have Hstep := Lib.hid (un_step s j hlt2)
        have hml : m < 256 ^ j := by
          rw [hm]
          have := Wire.un_lt (s.data.toList.take j)
          rw [List.length_take, size_list, Nat.min_eq_left (by omega)] at this
          exact this
        have Hm := Lib.hid hm
        clear hm
        have hcl : s[j].toNat < 256 := UInt8.toNat_lt _
        by_cases hz : j = 0
        · subst hz
          obtain rfl : m = 0 := by simpa using hml
          have Hput := Lib.hid (Wire.put8_0 hcl)
          clear hml
          go_wp2
          go_roundw
          case rel => exact ⟨1, _, by rw [Hput.out], rfl, by omega, by rw [Hstep.out, ← Hm.out], trivial⟩
          case measure => simp [intOf]
        · have Hput := Lib.hid (Wire.put8 (j := j) (by omega) hml hcl)
          clear hml
          go_wp2
          go_roundw
          case rel => exact ⟨j + 1, _, by rw [Hput.out], by go_num, by omega, by rw [Hstep.out, ← Hm.out], trivial⟩
          case measure => simp [intOf]; omega
      · obtain rfl : 8 = j := by omega
        have Hm := Lib.hid hm
        clear hm
        go_wp2
        go_ret3
        rw [← Hm.out]
        exact ⟨rfl, rfl⟩

theorem un_down (s : ByteArray) (k : Nat) (h : k < 8) (hs : 8 ≤ s.size) : Wire.un ((s.data.toList.take 8).drop k) = s[k].toNat + 256 * Wire.un ((s.data.toList.take 8).drop (k + 1)) := by
  have e : (s.data.toList.take 8).drop k = s[k] :: (s.data.toList.take 8).drop (k + 1) := by
    rw [List.drop_eq_getElem_cons (by rw [List.length_take, size_list]; omega), List.getElem_take]; rfl
  rw [e]; rfl

set_option maxRecDepth 100000 in
set_option maxHeartbeats 1000000 in
theorem readFix_any (s : ByteArray) (w : World) (hs : s.size ≤ 1000000000) :
    Calls Try.prog 90 #[.string s] w fun e w' => e = .returned (.tuple #[.int .u64 (Wire.readFix s.data.toList).1, .int .i64 (Wire.readFix s.data.toList).2.1, .int .i64 (Wire.readFix s.data.toList).2.2]) ∧ w = w' := by
  unfold Wire.readFix
  rw [size_list]
  by_cases h8 : s.size < 8
  · rw [if_pos h8]
    go_enter Try.func90, Try.ntmps90
    go_wp2
    go_ret3
    exact ⟨rfl, rfl⟩
  · rw [if_neg h8]
    go_enter Try.func90, Try.ntmps90
    go_wp2
    go_loopw [5, 6] (fun n i wr => ∃ (j m : Nat) (i0 : Int), n = .int .u64 m ∧ i = .int .i64 i0 ∧ i0 + 1 = j ∧ j ≤ 8 ∧ m = Wire.un ((s.data.toList.take 8).drop j) ∧ wr = w) (fun _ i _ => (intOf i + 1).toNat)
    case atStart => exact ⟨8, 0, 7, rfl, rfl, rfl, by omega, by rw [List.drop_of_length_le (by rw [List.length_take]; omega)]; rfl, rfl⟩
    case round =>
      obtain ⟨j, m, i0, rfl, rfl, hi0, hj, hm, rfl⟩ := hrel
      by_cases hz : j = 0
      · subst hz
        obtain rfl : i0 = -1 := by omega
        have Hm := Lib.hid hm
        clear hm
        go_wp2
        go_ret3
        rw [show Wire.un (s.data.toList.take 8) = m from Hm.out.symm]
        exact ⟨rfl, rfl⟩
      · obtain ⟨k, rfl⟩ : ∃ k, j = k + 1 := ⟨j - 1, by omega⟩
        obtain rfl : i0 = (k : Int) := by omega
        have hks : k < s.size := by omega
        have hcl : s[k].toNat < 256 := UInt8.toNat_lt _
        have hml : m < 72057594037927936 := by
          rw [hm]
          have := Wire.un_lt ((s.data.toList.take 8).drop (k + 1))
          have h7 : 256 ^ ((s.data.toList.take 8).drop (k + 1)).length ≤ 256 ^ 7 := Nat.pow_le_pow_right (by omega) (by rw [List.length_drop, List.length_take]; omega)
          have e2 : (256 : Nat) ^ 7 = 72057594037927936 := by decide
          omega
        have Hh := Lib.hid (Wire.horner hml hcl)
        have Hstep := Lib.hid (un_down s k (by omega) (by omega))
        have Hm := Lib.hid hm
        clear hm hi0 hml
        go_wp2
        go_roundw
        case rel => exact ⟨k, _, (k : Int) - 1, by rw [Hh.out], rfl, by omega, by omega, by rw [Hstep.out, ← Hm.out], trivial⟩
        case measure => simp [intOf]
end Go.Proofs.Ytplkogjnmjjjgaa.Wr

/- The walks of strings.Clone, and of the readers of a text: wire's and the reference's. -/
namespace Go.Proofs.Ytplkogjnmjjjgaa.Wr
open Go.ChangeShapes Go.WideShapes Go.ChangeAt Go.RowKit
theorem extract_text (s : ByteArray) (a n : Nat) (_h : a + n ≤ s.size) : s.extract a (a + n) = str ((s.data.toList.drop a).take n) := by
  apply ByteArray.ext; apply Array.toList_inj.1
  rw [str_data, Lib.extract_data]
  simp [List.take_drop]
end Go.Proofs.Ytplkogjnmjjjgaa.Wr

/- The walks of a Reader's methods, at a reader that was made. -/
namespace Go.Proofs.Ytplkogjnmjjjgaa.Wr
open Go.ChangeShapes Go.WideShapes Go.ChangeAt Go.RowKit

namespace Wire
/-- what a reader hands back, what is left, what is noted: y: noted before; e: why nothing was found; k: how many bytes it has -/
def got (α : Type) (none : α) (y e : Nat) (x : α) : α := if y ≠ 0 then none else if e ≠ 0 then none else x
def left (y e k : Nat) (l : List UInt8) : List UInt8 := if y ≠ 0 then l else if e ≠ 0 then l else l.drop k
def note (y e : Nat) : Nat := if y ≠ 0 then y else e
end Wire
/-- a reader in block b -/
def IsR (b : Nat) (l : List UInt8) (y : Nat) (w : World) : Prop := w.heap[b]? = some (.cells #[.string (str l), .int .i64 y] 121 (0, 0))
theorem newReader_any (s : ByteArray) (w : World) :
    Calls Try.prog 59 #[.string s] w fun e w' => e = .returned (.pointer (some ⟨w.heap.size, 0, none⟩)) ∧ IsR w.heap.size s.data.toList 0 w' ∧ Below w.heap.size w w' := by
  have hst : str s.data.toList = s := by apply ByteArray.ext; apply Array.toList_inj.1; rw [str_data]
  unfold IsR
  rw [hst]
  clear hst
  go_enter Try.func59, Try.ntmps59
  go_wp2
  go_ret
  exact ⟨rfl, heap_alloc_new _ _, below_new _ _⟩
theorem extract_left (l : List UInt8) (k : Nat) : (str l).extract k (str l).size = str (l.drop k) := by
  apply ByteArray.ext; apply Array.toList_inj.1
  rw [str_data, Lib.extract_to_end, str_data]
theorem IsR.two {b : Nat} {l : List UInt8} {y : Nat} {w : World} (h : IsR b l y w) : w.cell? ⟨b, 0, none⟩ = some (.string (str l)) ∧ w.cell? ⟨b, 1, none⟩ = some (.int .i64 y) ∧ w.frozen? ⟨b, 0, none⟩ = false ∧ w.frozen? ⟨b, 1, none⟩ = false :=
  ⟨at_cell h 0 _ rfl, at_cell h 1 _ rfl, at_free h 0, at_free h 1⟩
theorem IsR.why {b : Nat} {l : List UInt8} {y : Nat} {w : World} (h : IsR b l y w) (e : Nat) : IsR b l e (w.setCell ⟨b, 1, none⟩ (.int .i64 e)) := by
  have := heap_setCell_same w b 1 _ _ (.int .i64 e) h
  simpa [IsR] using this
theorem IsR.rest {b : Nat} {l l' : List UInt8} {y : Nat} {w : World} (h : IsR b l y w) : IsR b l' y (w.setCell ⟨b, 0, none⟩ (.string (str l'))) := by
  have := heap_setCell_same w b 0 _ _ (.string (str l')) h
  simpa [IsR] using this


set_option maxHeartbeats 1000000 in
theorem nextNum_any (B b : Nat) (l : List UInt8) (y : Nat) (w : World) (h : IsR b l y w) (hB : B ≤ b) (hl : l.length ≤ 1000000000) :
    Calls Try.prog 85 #[.pointer (some ⟨b, 0, none⟩), .func (.func 87) #[] #[]] w fun e w' => e = .returned (.int .u64 ((Wire.got Nat 0 y (Wire.readNum l).2.2 (Wire.readNum l).1) : Nat)) ∧ IsR b (Wire.left y (Wire.readNum l).2.2 (Wire.readNum l).2.1 l) (Wire.note y (Wire.readNum l).2.2) w' ∧ Below B w w' := by
  have hrd := fun w => number_any (str l) w (by rw [str_size]; exact hl)
  simp only [str_data] at hrd
  have hfit : (Wire.readNum l).2.1 ≤ l.length := (Wire.readNum_fits l).2.1
  have hex := extract_left l (Wire.readNum l).2.1
  have hsl := str_size l
  generalize Wire.readNum l = q at *
  obtain ⟨x, k, e0⟩ := q
  simp only at *
  obtain ⟨c0, c1, f0, f1⟩ := h.two
  have Hrd := Lib.hid hrd
  have Hex := Lib.hid hex
  have H := Lib.hid h
  have hfit2 : k ≤ (str l).size := by omega
  have hsz2 : (str l).size ≤ 1000000000 := by omega
  clear hrd hex h hsl
  by_cases hy : y = 0
  · subst hy
    by_cases he : e0 = 0
    · subst he
      simp only [Wire.got, Wire.left, Wire.note, ne_eq, not_true_eq_false, ↓reduceIte]
      go_enter Try.func85, Try.ntmps85
      go_wp2_with (go_at_call 87; refine (Hrd.out _).mono ?_; rintro e w1 ⟨rfl, rfl⟩)
      go_ret
      rw [Hex.out]
      exact ⟨rfl, H.out.rest, (Below.refl B _).setCell hB _⟩
    · simp only [Wire.got, Wire.left, Wire.note, ne_eq, not_true_eq_false, he, not_false_eq_true, ↓reduceIte]
      go_enter Try.func85, Try.ntmps85
      go_wp2_with (go_at_call 87; refine (Hrd.out _).mono ?_; rintro e w1 ⟨rfl, rfl⟩)
      go_ret
      exact ⟨rfl, H.out.why _, (Below.refl B _).setCell hB _⟩
  · simp only [Wire.got, Wire.left, Wire.note, ne_eq, hy, not_false_eq_true, ↓reduceIte]
    go_enter Try.func85, Try.ntmps85
    go_wp2
    go_ret
    exact ⟨rfl, H.out, Below.refl _ _⟩


set_option maxHeartbeats 1000000 in
theorem nextFix_any (B b : Nat) (l : List UInt8) (y : Nat) (w : World) (h : IsR b l y w) (hB : B ≤ b) (hl : l.length ≤ 1000000000) :
    Calls Try.prog 85 #[.pointer (some ⟨b, 0, none⟩), .func (.func 86) #[] #[]] w fun e w' => e = .returned (.int .u64 ((Wire.got Nat 0 y (Wire.readFix l).2.2 (Wire.readFix l).1) : Nat)) ∧ IsR b (Wire.left y (Wire.readFix l).2.2 (Wire.readFix l).2.1 l) (Wire.note y (Wire.readFix l).2.2) w' ∧ Below B w w' := by
  have hrd := fun w => fixed_any (str l) w (by rw [str_size]; exact hl)
  simp only [str_data] at hrd
  have hfit : (Wire.readFix l).2.1 ≤ l.length := Wire.readFix_fits l
  have hex := extract_left l (Wire.readFix l).2.1
  have hsl := str_size l
  generalize Wire.readFix l = q at *
  obtain ⟨x, k, e0⟩ := q
  simp only at *
  obtain ⟨c0, c1, f0, f1⟩ := h.two
  have Hrd := Lib.hid hrd
  have Hex := Lib.hid hex
  have H := Lib.hid h
  have hfit2 : k ≤ (str l).size := by omega
  have hsz2 : (str l).size ≤ 1000000000 := by omega
  clear hrd hex h hsl
  by_cases hy : y = 0
  · subst hy
    by_cases he : e0 = 0
    · subst he
      simp only [Wire.got, Wire.left, Wire.note, ne_eq, not_true_eq_false, ↓reduceIte]
      go_enter Try.func85, Try.ntmps85
      go_wp2_with (go_at_call 86; refine (Hrd.out _).mono ?_; rintro e w1 ⟨rfl, rfl⟩)
      go_ret
      rw [Hex.out]
      exact ⟨rfl, H.out.rest, (Below.refl B _).setCell hB _⟩
    · simp only [Wire.got, Wire.left, Wire.note, ne_eq, not_true_eq_false, he, not_false_eq_true, ↓reduceIte]
      go_enter Try.func85, Try.ntmps85
      go_wp2_with (go_at_call 86; refine (Hrd.out _).mono ?_; rintro e w1 ⟨rfl, rfl⟩)
      go_ret
      exact ⟨rfl, H.out.why _, (Below.refl B _).setCell hB _⟩
  · simp only [Wire.got, Wire.left, Wire.note, ne_eq, hy, not_false_eq_true, ↓reduceIte]
    go_enter Try.func85, Try.ntmps85
    go_wp2
    go_ret
    exact ⟨rfl, H.out, Below.refl _ _⟩


end Go.Proofs.Ytplkogjnmjjjgaa.Wr

/- The walks of a Reader's methods Num, Int, Float, Text, Left and Err, and the reference's ReadInt. -/
namespace Go.Proofs.Ytplkogjnmjjjgaa.Wr
open Go.ChangeShapes Go.WideShapes Go.ChangeAt Go.RowKit

namespace Wire
def zag (n : Nat) : Int := if n % 2 = 0 then ((n / 2 : Nat) : Int) else -((n / 2 : Nat) : Int) - 1
end Wire


theorem rNum_any (B b : Nat) (l : List UInt8) (y : Nat) (w : World) (h : IsR b l y w) (hB : B ≤ b) (hl : l.length ≤ 1000000000) :
    Calls Try.prog 67 #[.pointer (some ⟨b, 0, none⟩)] w fun e w' => e = .returned (.int .u64 ((Wire.got Nat 0 y (Wire.readNum l).2.2 (Wire.readNum l).1) : Nat)) ∧ IsR b (Wire.left y (Wire.readNum l).2.2 (Wire.readNum l).2.1 l) (Wire.note y (Wire.readNum l).2.2) w' ∧ Below B w w' := by
  have H := Lib.hid (nextNum_any B b l y w h hB hl)
  clear h
  go_enter Try.func67, Try.ntmps67
  go_wp2_with fail
  refine H.out.mono ?_
  rintro e w1 ⟨rfl, h1⟩
  have H1 := Lib.hid h1
  clear h1
  go_wp2
  go_ret
  exact ⟨rfl, H1.out⟩


theorem rFloat_any (B b : Nat) (l : List UInt8) (y : Nat) (w : World) (h : IsR b l y w) (hB : B ≤ b) (hl : l.length ≤ 1000000000) :
    Calls Try.prog 62 #[.pointer (some ⟨b, 0, none⟩)] w fun e w' => e = .returned (.float .f64 (Wire.got Nat 0 y (Wire.readFix l).2.2 (Wire.readFix l).1)) ∧ IsR b (Wire.left y (Wire.readFix l).2.2 (Wire.readFix l).2.1 l) (Wire.note y (Wire.readFix l).2.2) w' ∧ Below B w w' := by
  have H := Lib.hid (nextFix_any B b l y w h hB hl)
  have Hf := Lib.hid floatOf_any
  clear h
  go_enter Try.func62, Try.ntmps62
  go_wp2_with (first | (go_at_call 85; refine H.out.mono ?_; rintro e w1 ⟨rfl, h1⟩; have H1 := Lib.hid h1; clear h1) | (go_at_call 84; refine (Hf.out _ _).mono ?_; rintro e w2 ⟨rfl, rfl⟩))
  go_ret
  exact ⟨rfl, H1.out⟩
theorem got_lt {y e x : Nat} (h : x < 18446744073709551616) : Wire.got Nat 0 y e x < 18446744073709551616 := by
  unfold Wire.got; split
  · omega
  split <;> omega
theorem zag_bits {n : Nat} (h : n < 18446744073709551616) :
    bits BinOp.xor IntKind.i64 ((n : Int) / 2) (wrap64 (-wrap64 (bits BinOp.and IntKind.u64 (n : Int) 1))) = Wire.zag n := by
  have ha : bits BinOp.and IntKind.u64 (n : Int) 1 = ((n % 2 : Nat) : Int) := by
    rw [show (1 : Int) = ((1 : Nat) : Int) from rfl, u64_and_nat n 1 h (by decide)]
    apply congrArg
    exact Nat.and_one_is_mod n
  rw [ha]
  have hx : ∀ (a : Nat) (b : Int), bits BinOp.xor IntKind.i64 (a : Int) b = IntKind.i64.wrap ((BitVec.ofInt 64 (a : Int) ^^^ BitVec.ofInt 64 b).toNat : Int) := fun _ _ => rfl
  have ho : (BitVec.ofInt 64 ((n / 2 : Nat) : Int)).toNat = n / 2 := by simp; omega
  have hn2 : n / 2 < 9223372036854775808 := by omega
  unfold Wire.zag
  rw [show (n : Int) / 2 = ((n / 2 : Nat) : Int) by omega]
  by_cases he : n % 2 = 0
  · rw [if_pos he, he, show wrap64 (-wrap64 ((0 : Nat) : Int)) = 0 from by decide +kernel, hx, show BitVec.ofInt 64 0 = 0#64 from rfl, BitVec.xor_zero, ho]
    generalize n / 2 = m at *
    rw [IntKind.wrap_i64]
    omega
  · have h1 : n % 2 = 1 := by omega
    rw [if_neg he, h1, show wrap64 (-wrap64 ((1 : Nat) : Int)) = -1 from by decide +kernel, hx, BitVec.toNat_xor, ho, show (BitVec.ofInt 64 (-1)).toNat = 2 ^ 64 - 1 from rfl, xor_ones 64 _ (by omega)]
    generalize n / 2 = m at *
    rw [IntKind.wrap_i64]
    omega
theorem rInt_any (B b : Nat) (l : List UInt8) (y : Nat) (w : World) (h : IsR b l y w) (hB : B ≤ b) (hl : l.length ≤ 1000000000) :
    Calls Try.prog 65 #[.pointer (some ⟨b, 0, none⟩)] w fun e w' => e = .returned (.int .i64 (Wire.zag (Wire.got Nat 0 y (Wire.readNum l).2.2 (Wire.readNum l).1))) ∧ IsR b (Wire.left y (Wire.readNum l).2.2 (Wire.readNum l).2.1 l) (Wire.note y (Wire.readNum l).2.2) w' ∧ Below B w w' := by
  have h0 := rNum_any B b l y w h hB hl
  have hlt := got_lt (y := y) (e := (Wire.readNum l).2.2) (Wire.readNum_fits l).1
  generalize Wire.got Nat 0 y (Wire.readNum l).2.2 (Wire.readNum l).1 = n at *
  have H := Lib.hid h0
  have Hz := Lib.hid (zag_bits hlt)
  clear h h0
  go_enter Try.func65, Try.ntmps65
  go_wp2_with (go_at_call 67; refine H.out.mono ?_; rintro e w1 ⟨rfl, h1⟩; have H1 := Lib.hid h1; clear h1)
  go_ret
  rw [← Hz.out]
  exact ⟨rfl, H1.out⟩
theorem rErr_any (b : Nat) (l : List UInt8) (y : Nat) (w : World) (h : IsR b l y w) :
    Calls Try.prog 69 #[.pointer (some ⟨b, 0, none⟩)] w fun e w' => e = .returned (.int .i64 y) ∧ w = w' := by
  obtain ⟨c0, c1, f0, f1⟩ := h.two
  clear h
  go_enter Try.func69, Try.ntmps69
  go_wp2
  go_ret
  exact ⟨rfl, rfl⟩
theorem readInt_any (s : ByteArray) (w : World) (hs : s.size ≤ 1000000000) :
    Calls Try.prog 88 #[.string s] w fun e w' => e = .returned (.tuple #[.int .i64 (Wire.zag (Wire.readNum s.data.toList).1), .int .i64 (Wire.readNum s.data.toList).2.1, .int .i64 (Wire.readNum s.data.toList).2.2]) ∧ w = w' := by
  have hnum := readNum_any s w hs
  have hf := (Wire.readNum_fits s.data.toList).1
  generalize Wire.readNum s.data.toList = q at *
  obtain ⟨n, a, y⟩ := q
  simp only at *
  have H := Lib.hid hnum
  clear hnum
  unfold Wire.zag
  by_cases he : n % 2 = 0
  · rw [if_pos he]
    have he' : (n : Int) % 2 = 0 := by omega
    go_enter Try.func88, Try.ntmps88
    go_wp2_with (go_at_call 89; refine H.out.mono ?_; rintro e w1 ⟨rfl, rfl⟩)
    go_ret3
    exact ⟨rfl, rfl⟩
  · rw [if_neg he]
    have he' : (n : Int) % 2 = 1 := by omega
    go_enter Try.func88, Try.ntmps88
    go_wp2_with (go_at_call 89; refine H.out.mono ?_; rintro e w1 ⟨rfl, rfl⟩)
    go_ret3
    exact ⟨rfl, rfl⟩
end Go.Proofs.Ytplkogjnmjjjgaa.Wr
