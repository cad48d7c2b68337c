/- The walks of the reference's Get, Set, Copy and Same, of Table.All and of what an address turns to. -/
import Derived.Test.YtdiooepnapdafaaRootsFns
import Derived.OwnWalk
import Derived.Lib.SmallJoins
import Derived.Lib.Strings
namespace Go.Proofs.Ytdiooepnapdafaa
open Go.ChangeShapes Go.WideShapes Go.ChangeAt Go.RowKit
set_option linter.unusedVariables false

theorem refGet_yes (h : Nat) (zs : List Int) (k n : Nat) (w : World) (hR : RowAt h zs w) (hn : n = zs.length) (hk : k < n) (hf : n ≤ 64) :
    Calls Try.prog 15 #[.slice (some ⟨h, 0, none⟩) n n, .int .i64 k] w fun e w' => e = .returned (.tuple #[.int .i64 (zs.getD k 0), .int .i64 0]) ∧ w = w' := by
  have c1 := hR.cell (show k < zs.length by omega)
  clear hR hn
  generalize zs.getD k 0 = x at *
  go_enter Try.func15, Try.ntmps15
  go_wp2
  go_ret2
  exact ⟨rfl, rfl⟩
theorem refGet_no (h : Nat) (i : Int) (n : Nat) (w : World) (hi : i < 0 ∨ (n : Int) ≤ i) (hf : n ≤ 64) :
    Calls Try.prog 15 #[.slice (some ⟨h, 0, none⟩) n n, .int .i64 i] w fun e w' => e = .returned (.tuple #[.int .i64 0, .int .i64 17]) ∧ w = w' := by
  rcases hi with hi | hi
  · go_enter Try.func15, Try.ntmps15
    go_wp2
    go_ret2
    exact ⟨rfl, rfl⟩
  · have h0 : ¬ i < 0 := by omega
    go_enter Try.func15, Try.ntmps15
    go_wp2
    go_ret2
    exact ⟨rfl, rfl⟩
theorem refSet_no (h : Nat) (i v : Int) (n : Nat) (w : World) (hi : i < 0 ∨ (n : Int) ≤ i) (hf : n ≤ 64) :
    Calls Try.prog 8 #[.slice (some ⟨h, 0, none⟩) n n, .int .i64 i, .int .i64 v] w fun e w' => e = .returned (.int .i64 17) ∧ w = w' := by
  have H := Lib.hid (refGet_no h i n w hi hf)
  clear hi
  go_enter Try.func8, Try.ntmps8
  go_wp2_with (go_at_call 15; refine H.out.mono ?_; rintro e w1 ⟨rfl, rfl⟩)
  go_ret
  exact ⟨rfl, rfl⟩
theorem refSet_neg (h : Nat) (zs : List Int) (k n : Nat) (v : Int) (w : World) (hR : RowAt h zs w) (hn : n = zs.length) (hk : k < n) (hv : v < 0) (hf : n ≤ 64) :
    Calls Try.prog 8 #[.slice (some ⟨h, 0, none⟩) n n, .int .i64 k, .int .i64 v] w fun e w' => e = .returned (.int .i64 5) ∧ w = w' := by
  have H := Lib.hid (refGet_yes h zs k n w hR hn hk hf)
  clear hR hn
  go_enter Try.func8, Try.ntmps8
  go_wp2_with (go_at_call 15; refine H.out.mono ?_; rintro e w1 ⟨rfl, rfl⟩)
  go_ret
  exact ⟨rfl, rfl⟩
theorem refSet_yes (h : Nat) (zs : List Int) (k n : Nat) (v : Int) (w : World) (hR : RowAt h zs w) (hn : n = zs.length) (hk : k < n) (hv : 0 ≤ v) (hf : n ≤ 64) :
    Calls Try.prog 8 #[.slice (some ⟨h, 0, none⟩) n n, .int .i64 k, .int .i64 v] w fun e w' => e = .returned (.int .i64 0) ∧ RowAt h (zs.set k v) w' ∧ Only h w w' := by
  have H := Lib.hid (refGet_yes h zs k n w hR hn hk hf)
  have c1 := hR.cell (show k < zs.length by omega)
  have f1 := hR.free k
  have HR := Lib.hid hR
  clear hR hn
  go_enter Try.func8, Try.ntmps8
  go_wp2_with (go_at_call 15; refine H.out.mono ?_; rintro e w1 ⟨rfl, rfl⟩)
  go_ret
  exact ⟨rfl, HR.out.set k v, Only.set (Below.refl _ _) _ _⟩
theorem refCopy_yes (h : Nat) (zs : List Int) (k j n : Nat) (w : World) (hR : RowAt h zs w) (hn : n = zs.length) (hk : k < n) (hj : j < n) (hf : n ≤ 64) :
    Calls Try.prog 10 #[.slice (some ⟨h, 0, none⟩) n n, .int .i64 k, .int .i64 j] w fun e w' => e = .returned (.int .i64 0) ∧ RowAt h (zs.set k (zs.getD j 0)) w' ∧ Only h w w' := by
  have H := Lib.hid (refGet_yes h zs k n w hR hn hk hf)
  have H2 := Lib.hid (refGet_yes h zs j n w hR hn hj hf)
  have c1 := hR.cell (show k < zs.length by omega)
  have f1 := hR.free k
  have HR := Lib.hid hR
  clear hR hn
  generalize zs.getD j 0 = x at *
  generalize zs.getD k 0 = y at *
  go_enter Try.func10, Try.ntmps10
  go_wp2_with (first | (go_at_call 15; refine H.out.mono ?_; rintro e w1 ⟨rfl, rfl⟩; clear H) | (go_at_call 15; refine H2.out.mono ?_; rintro e w1 ⟨rfl, rfl⟩))
  go_ret
  exact ⟨rfl, HR.out.set k _, Only.set (Below.refl _ _) _ _⟩
theorem refCopy_no (h : Nat) (zs : List Int) (i j : Int) (n : Nat) (w : World) (hR : RowAt h zs w) (hn : n = zs.length) (hi : (i < 0 ∨ (n : Int) ≤ i) ∨ (j < 0 ∨ (n : Int) ≤ j)) (hf : n ≤ 64) :
    Calls Try.prog 10 #[.slice (some ⟨h, 0, none⟩) n n, .int .i64 i, .int .i64 j] w fun e w' => e = .returned (.int .i64 17) ∧ w = w' := by
  by_cases h1 : i < 0 ∨ (n : Int) ≤ i
  · have H := Lib.hid (refGet_no h i n w h1 hf)
    clear hi hR hn h1
    go_enter Try.func10, Try.ntmps10
    go_wp2_with (go_at_call 15; refine H.out.mono ?_; rintro e w1 ⟨rfl, rfl⟩)
    go_ret
    exact ⟨rfl, rfl⟩
  · obtain ⟨k, rfl⟩ : ∃ k : Nat, i = k := ⟨i.toNat, by omega⟩
    have H := Lib.hid (refGet_yes h zs k n w hR hn (by omega) hf)
    have H2 := Lib.hid (refGet_no h j n w (by omega) hf)
    clear hi hR hn h1
    generalize zs.getD k 0 = y at *
    go_enter Try.func10, Try.ntmps10
    go_wp2_with (first | (go_at_call 15; refine H.out.mono ?_; rintro e w1 ⟨rfl, rfl⟩; clear H) | (go_at_call 15; refine H2.out.mono ?_; rintro e w1 ⟨rfl, rfl⟩))
    go_ret
    exact ⟨rfl, rfl⟩

set_option maxHeartbeats 2000000 in
set_option maxRecDepth 100000 in
theorem clone_any (b n : Nat) (zs : List Int) (w : World) (hn : n = zs.length) (hf : n ≤ 64) (hR : RowAt b zs w) (h1 : 1 ≤ n) :
    Calls Try.prog 21 #[.slice (some ⟨b, 0, none⟩) n n] w fun e w' => ∃ q c, e = .returned (.slice (some ⟨q, 0, none⟩) n c) ∧ w'.ownsRow w.heap.size 3 1 (.slice (some ⟨q, 0, none⟩) n c) n (icells zs) ∧ Below w.heap.size w w' := by
  obtain ⟨i0, hi, hz0, hz1, hz2⟩ := info_parts int_info
  have q22 : ∀ (w : World) (a : Option Addr) (n c n' c' : Nat), (binOp .eql 28 (.slice a n c) (.slice none n' c')).run Try.prog w = .ok (.bool a.isNone) w := fun w a n c n' c' => Lib.run_eql_slice_nil w _ _ a n c n' c' Try.underlying28
  have HR := Lib.hid hR
  have Hn := Lib.hid hn
  clear hR hn
  go_enter Try.func21, Try.ntmps21
  go_wp2_with (at_builtin; refine wpList_append_own _ rfl _ _ 28 rfl w.heap.size 3 i0 (.int .i64 0) 1 8 Try.underlying28 hi hz0 hz1 hz2 rfl (by decide) _ _ _ rfl (World.ownsRow_made w #[] 0 (Nat.le_refl _) (Nat.zero_le _) rfl) ⟨b, 0, none⟩ n n (icells zs) rfl ?qc1 ?qc2 ?qc3 ?qc4 ?qc5 ?qc6 ?_)
  case qc1 => simp [icells, Hn.out]
  case qc2 =>
    intro j u hj
    have hjn : j < zs.length := by
      have := (List.getElem?_eq_some_iff.1 hj).1
      simpa [icells] using this
    rw [Addr.add_lit, Nat.zero_add]
    refine Lib.cell?_alloc_some _ ?_
    rw [HR.out.cell hjn]
    have e : (icells zs)[j]? = some (Value.int .i64 (zs.getD j 0)) := by simp [icells, hjn]
    rw [e] at hj
    exact hj
  case qc3 => intro u hu; obtain ⟨x, _, rfl⟩ := List.mem_map.1 hu; rfl
  case qc4 => unfold maxLen; omega
  case qc5 => omega
  case qc6 => simp
  intro v' w1 hown hgrow hnil
  have hown2 : w1.ownsRow w.heap.size 3 1 v' n (icells zs) := by simpa using hown
  obtain ⟨q, c, rfl⟩ := Go.Joins.ownsRow_form hown2 (by omega)
  have hb : Below w.heap.size w w1 := ((Below.refl _ w).alloc (Nat.le_refl _) _).grown hgrow (by simp) (by intro k hk; simp [Value.ownBlock] at hk; omega)
  have Hown := Lib.hid hown2
  clear hown hown2 hgrow hnil
  go_wp2
  go_ret
  exact ⟨q, c, rfl, Hown.out, hb⟩
theorem all_any (g b : Nat) (zs : List Int) (w : World) (hT : Tab g b zs w) (h1 : 1 ≤ zs.length) :
    Calls Try.prog 16 #[.pointer (some ⟨b, 0, none⟩)] w fun e w' => ∃ q c, e = .returned (.slice (some ⟨q, 0, none⟩) zs.length c) ∧ w'.ownsRow w.heap.size 3 1 (.slice (some ⟨q, 0, none⟩) zs.length c) zs.length (icells zs) ∧ Below w.heap.size w w' := by
  have H := Lib.hid (clone_any g zs.length zs w rfl hT.few hT.row h1)
  have c0 := at_cell hT.head 0 _ rfl
  have hfew := hT.few
  clear hT
  go_enter Try.func16, Try.ntmps16
  go_wp2_with (go_at_call 21; refine H.out.mono ?_; rintro e w1 ⟨q, c, rfl, hown, hb⟩; have Hown := Lib.hid hown; clear hown)
  go_ret
  exact ⟨q, c, rfl, Hown.out, hb⟩
set_option maxHeartbeats 1000000 in
theorem same_any (p c h n : Nat) (zs : List Int) (w : World) (hn : n = zs.length) (hf : n ≤ 64) (hp : ∀ j, j < zs.length → w.cell? ⟨p, j, none⟩ = some (.int .i64 (zs.getD j 0))) (hR : RowAt h zs w) :
    Calls Try.prog 17 #[.slice (some ⟨p, 0, none⟩) n c, .slice (some ⟨h, 0, none⟩) n n] w fun e w' => e = .returned (.bool true) ∧ Below w.heap.size w w' := by
  have Hn := Lib.hid hn
  have Hp := Lib.hid hp
  have HR := Lib.hid hR
  clear hn hp hR
  go_enter Try.func17, Try.ntmps17
  go_wp2
  go_loopw [5] (fun i wr => ∃ (m : Nat), i = .int .i64 m ∧ m ≤ n ∧ Below w.heap.size w wr) (fun i _ => n - (intOf i).toNat)
  case atStart => exact ⟨0, rfl, by omega, Below.refl _ _⟩
  case round =>
    obtain ⟨m, rfl, hm, hb⟩ := hrel
    by_cases hlt : m < n
    · have c1 := cellB hb (Nat.le_refl _) (Hp.out m (by have := Hn.out; omega))
      have c2 := cellB hb (Nat.le_refl _) (HR.out.cell (show m < zs.length by have := Hn.out; omega))
      generalize zs.getD m 0 = x at *
      go_wp2
      go_region
      all_goals
        go_wp2
        refine ⟨⟨m + 1, by go_num, by omega, hb.drew⟩, by simp [intOf]; omega⟩
    · obtain rfl : n = m := by omega
      go_wp2
      go_ret
      exact ⟨rfl, hb⟩
/-- what an address turns to -/
def turnedZ (a b : Int) : Int := wrap64 (a % 4294967296 * 3 - wrap64 ((IntKind.u64.wrap b).tmod 100))
theorem turned_any (a b : Int) (w : World) :
    Calls Try.prog 13 #[.int .i64 a, .int .i64 b] w fun e w' => e = .returned (.int .i64 (turnedZ a b)) ∧ w = w' := by
  unfold turnedZ
  go_enter Try.func13, Try.ntmps13
  go_wp2
  go_ret
  exact ⟨rfl, rfl⟩
end Go.Proofs.Ytdiooepnapdafaa
