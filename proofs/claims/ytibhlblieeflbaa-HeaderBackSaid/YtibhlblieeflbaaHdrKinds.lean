/- The walks of the reference's Kinds, Kind, Count and First, each once. -/
import Derived.Test.YtibhlblieeflbaaHdrRef
import Derived.OwnWalk
import Derived.WalkSmall
namespace Go.Proofs.Ytibhlblieeflbaa
open Go.ChangeShapes Go.WideShapes Go.ChangeAt Go.RowKit

def icells (l : List Int) : List Value := l.map fun c => .int .i64 c
theorem icells_append (a b : List Int) : icells (a ++ b) = icells a ++ icells b := by simp [icells]
theorem icells_length (a : List Int) : (icells a).length = a.length := by simp [icells]
/-- a row of numbers of the call's own, as a result -/
def SomeRow (l : List Int) (w : World) (e : Ending) (w' : World) : Prop := ∃ v, e = .returned v ∧ w'.ownsRow w.heap.size 3 1 v l.length (icells l) ∧ Below w.heap.size w w'
theorem int_info : (Try.prog.info? 3).map (fun i => (i.zero, i.size, i.bytes)) = some (some (.int .i64 0), 1, 8) := by kernel_rfl

def kindsL (p f o : Nat) : List Int := List.replicate p 1 ++ List.replicate f 2 ++ List.replicate o 3
theorem own_step {w1 : World} {B : Nat} {v' : Value} {l : List Int} {c : Int} (n : Nat) (hn : n = l.length) (h : w1.ownsRow B 3 1 v' (n + 1) (icells l ++ [.int .i64 c])) : w1.ownsRow B 3 1 v' (l ++ [c]).length (icells (l ++ [c])) := by
  rw [icells_append, List.length_append, ← hn]; exact h

theorem own_base {w : World} {B B' e sz n : Nat} {v : Value} {l : List Value} (hB : B' ≤ B) (h : w.ownsRow B e sz v n l) : w.ownsRow B' e sz v n l := by
  refine ⟨h.1, ?_⟩
  rcases h.2 with hn | ⟨g, cap, cur, h1, h2, h3⟩
  · exact .inl hn
  · exact .inr ⟨g, cap, cur, h1, by omega, h3⟩

theorem refKinds_yes (p f o : Nat) (w : World) (hok : Ok p f o) :
    Calls Try.prog 21 #[hv p f o] w (SomeRow (kindsL p f o) w) := by
  have hb := below_new w (hdrBlock p f o)
  have hk := hdr_kept p f o w
  have hm := may_any p f o (w.alloc (hdrBlock p f o))
  unfold hdrBlock at hk hb hm
  rw [decide_eq_true hok] at hm
  have hok' := hok
  unfold Ok at hok'
  obtain ⟨a1, a2, a3, a4, a5, a6, a7⟩ := hok'
  obtain ⟨i0, hi, hz0, hz1, hz2⟩ := info_parts int_info
  have Hm := Lib.hid hm
  clear hok hm
  unfold hv at *
  go_enter Try.func21, Try.ntmps21
  go_wp2_with (go_at_call 11; refine (Hm.out).mono ?_; rintro e w1 ⟨rfl, hb1⟩; obtain ⟨⟨c0, c1, c2⟩, -⟩ := hk _ hb1; replace hb := seq hb hb1; clear hb1 hk)
  have hcells : ∀ wr, Below (w.heap.size + 1) w1 wr → wr.cell? ⟨w.heap.size, 0, none⟩ = some (.int .i64 p) ∧ wr.cell? ⟨w.heap.size, 1, none⟩ = some (.int .i64 f) ∧ wr.cell? ⟨w.heap.size, 2, none⟩ = some (.int .i64 o) := fun wr h => by
    refine ⟨?_, ?_, ?_⟩ <;> rw [h.cell (by simp)] <;> assumption
  have hs1 : w.heap.size + 1 ≤ w1.heap.size := by have := block_lt_of_cell c0; simp at this; omega
  have Hcells := Lib.hid hcells
  clear hcells c0 c1 c2
  go_loopw [3, 4] (fun v i wr => ∃ k : Nat, k ≤ p ∧ i = .int .i64 k ∧ wr.ownsRow (w.heap.size + 1) 3 1 v ([] ++ List.replicate k (1 : Int)).length (icells ([] ++ List.replicate k (1 : Int))) ∧ Below (w.heap.size + 1) w1 wr) (fun _ i _ => p - (intOf i).toNat)
  case atStart => exact ⟨0, by omega, rfl, World.ownsRow_nil _ _ _ _, Below.refl _ _⟩
  case round =>
    obtain ⟨k, hkp, rfl, hown, hbl⟩ := hrel
    obtain ⟨c0, c1, c2⟩ := Hcells.out _ hbl
    by_cases hlt : k < p
    · have hlen : ([] ++ List.replicate k (1 : Int)).length ≤ 300 := by simp; omega
      have Hown := Lib.hid hown
      generalize hR : ([] ++ List.replicate k (1 : Int)) = R at *
      have HR := Lib.hid hR
      clear hR hown
      go_wp2_with (at_builtin; refine wpList_append_own _ rfl _ _ 44 rfl (w.heap.size + 1) 3 i0 (.int .i64 0) 1 8 Try.underlying44 hi hz0 hz1 hz2 rfl (by decide) _ _ _ rfl (Hown.out.alloc _) ⟨wr.heap.size, 0, none⟩ 1 1 [.int .i64 1] rfl rfl ?c1 ?c2 ?c3 ?c4 ?c5 ?_)
      case c1 => exact cell_one_new _ _ _
      case c2 => simp [Value.oneCell']
      case c3 => unfold maxLen; omega
      case c4 => omega
      case c5 => have := hbl.size; simp; omega
      intro v' w2 hown' hgrow _
      have hbl' : Below (w.heap.size + 1) w1 w2 := (hbl.alloc (by have := hbl.size; omega) _).grown hgrow (by have := hbl.size; simp; omega) (fun k hk => (Hown.out.lt k hk).1)
      have Hown' := Lib.hid (own_step _ rfl hown')
      clear hown' hgrow
      go_wp2
      go_roundw
      case rel => exact ⟨k + 1, by omega, by go_num, by rw [List.replicate_succ', ← List.append_assoc, HR.out]; exact Hown'.out, hbl'⟩
      case measure => simp [intOf]; omega
    · obtain rfl : p = k := by omega
      clear hlt
      go_wp2
      go_loopw [3, 5] (fun v i wr => ∃ k : Nat, k ≤ f ∧ i = .int .i64 k ∧ wr.ownsRow (w.heap.size + 1) 3 1 v (([] ++ List.replicate p (1 : Int)) ++ List.replicate k (2 : Int)).length (icells (([] ++ List.replicate p (1 : Int)) ++ List.replicate k (2 : Int))) ∧ Below (w.heap.size + 1) w1 wr) (fun _ i _ => f - (intOf i).toNat)
      case atStart => exact ⟨0, by omega, rfl, by simpa using hown, hbl⟩
      case round =>
        obtain ⟨k, hkp, rfl, hown, hbl⟩ := hrel
        obtain ⟨c0, c1, c2⟩ := Hcells.out _ hbl
        by_cases hlt : k < f
        · have hlen : (([] ++ List.replicate p (1 : Int)) ++ List.replicate k (2 : Int)).length ≤ 300 := by simp; omega
          have Hown := Lib.hid hown
          generalize hR : (([] ++ List.replicate p (1 : Int)) ++ List.replicate k (2 : Int)) = R at *
          have HR := Lib.hid hR
          clear hR hown
          go_wp2_with (at_builtin; refine wpList_append_own _ rfl _ _ 44 rfl (w.heap.size + 1) 3 i0 (.int .i64 0) 1 8 Try.underlying44 hi hz0 hz1 hz2 rfl (by decide) _ _ _ rfl (Hown.out.alloc _) ⟨wr.heap.size, 0, none⟩ 1 1 [.int .i64 2] rfl rfl ?c1 ?c2 ?c3 ?c4 ?c5 ?_)
          case c1 => exact cell_one_new _ _ _
          case c2 => simp [Value.oneCell']
          case c3 => unfold maxLen; omega
          case c4 => omega
          case c5 => have := hbl.size; simp; omega
          intro v' w2 hown' hgrow _
          have hbl' : Below (w.heap.size + 1) w1 w2 := (hbl.alloc (by have := hbl.size; omega) _).grown hgrow (by have := hbl.size; simp; omega) (fun k hk => (Hown.out.lt k hk).1)
          have Hown' := Lib.hid (own_step _ rfl hown')
          clear hown' hgrow
          go_wp2
          go_roundw
          case rel => exact ⟨k + 1, by omega, by go_num, by rw [List.replicate_succ', ← List.append_assoc, HR.out]; exact Hown'.out, hbl'⟩
          case measure => simp [intOf]; omega
        · obtain rfl : f = k := by omega
          clear hlt
          go_wp2
          go_loopw [3, 6] (fun v i wr => ∃ k : Nat, k ≤ o ∧ i = .int .i64 k ∧ wr.ownsRow (w.heap.size + 1) 3 1 v ((([] ++ List.replicate p (1 : Int)) ++ List.replicate f (2 : Int)) ++ List.replicate k (3 : Int)).length (icells ((([] ++ List.replicate p (1 : Int)) ++ List.replicate f (2 : Int)) ++ List.replicate k (3 : Int))) ∧ Below (w.heap.size + 1) w1 wr) (fun _ i _ => o - (intOf i).toNat)
          case atStart => exact ⟨0, by omega, rfl, by simpa using hown, hbl⟩
          case round =>
            obtain ⟨k, hkp, rfl, hown, hbl⟩ := hrel
            obtain ⟨c0, c1, c2⟩ := Hcells.out _ hbl
            by_cases hlt : k < o
            · have hlen : ((([] ++ List.replicate p (1 : Int)) ++ List.replicate f (2 : Int)) ++ List.replicate k (3 : Int)).length ≤ 300 := by simp; omega
              have Hown := Lib.hid hown
              generalize hR : ((([] ++ List.replicate p (1 : Int)) ++ List.replicate f (2 : Int)) ++ List.replicate k (3 : Int)) = R at *
              have HR := Lib.hid hR
              clear hR hown
              go_wp2_with (at_builtin; refine wpList_append_own _ rfl _ _ 44 rfl (w.heap.size + 1) 3 i0 (.int .i64 0) 1 8 Try.underlying44 hi hz0 hz1 hz2 rfl (by decide) _ _ _ rfl (Hown.out.alloc _) ⟨wr.heap.size, 0, none⟩ 1 1 [.int .i64 3] rfl rfl ?c1 ?c2 ?c3 ?c4 ?c5 ?_)
              case c1 => exact cell_one_new _ _ _
              case c2 => simp [Value.oneCell']
              case c3 => unfold maxLen; omega
              case c4 => omega
              case c5 => have := hbl.size; simp; omega
              intro v' w2 hown' hgrow _
              have hbl' : Below (w.heap.size + 1) w1 w2 := (hbl.alloc (by have := hbl.size; omega) _).grown hgrow (by have := hbl.size; simp; omega) (fun k hk => (Hown.out.lt k hk).1)
              have Hown' := Lib.hid (own_step _ rfl hown')
              clear hown' hgrow
              go_wp2
              go_roundw
              case rel => exact ⟨k + 1, by omega, by go_num, by rw [List.replicate_succ', ← List.append_assoc, HR.out]; exact Hown'.out, hbl'⟩
              case measure => simp [intOf]; omega
            · obtain rfl : o = k := by omega
              clear hlt
              go_wp2
              go_ret
              refine ⟨_, rfl, ?_, ?_⟩
              · exact own_base (by omega) hown
              · exact hb.trans (hbl.mono (by omega))

theorem refKinds_no (p f o : Int) (w : World) (hok : ¬ Ok p f o) :
    Calls Try.prog 21 #[hv p f o] w (SomeRow [] w) := by
  have hb := below_new w (hdrBlock p f o)
  have hm := may_any p f o (w.alloc (hdrBlock p f o))
  unfold hdrBlock at hb hm
  rw [decide_eq_false hok] at hm
  have Hm := Lib.hid hm
  clear hok hm
  unfold hv at *
  go_enter Try.func21, Try.ntmps21
  go_wp2_with (go_at_call 11; refine (Hm.out).mono ?_; rintro e w1 ⟨rfl, hb1⟩; replace hb := seq hb hb1; clear hb1)
  go_ret
  exact ⟨_, rfl, World.ownsRow_nil _ _ _ _, hb⟩

/-- the fields' kinds of any header -/
def kinds (p f o : Int) : List Int := if Ok p f o then kindsL p.toNat f.toNat o.toNat else []
theorem refKinds_any (p f o : Int) (w : World) : Calls Try.prog 21 #[hv p f o] w (SomeRow (kinds p f o) w) := by
  by_cases hok : Ok p f o
  · have hok' := hok
    unfold Ok at hok'
    obtain ⟨p, rfl⟩ := Int.eq_ofNat_of_zero_le (show 0 ≤ p by omega)
    obtain ⟨f, rfl⟩ := Int.eq_ofNat_of_zero_le (show 0 ≤ f by omega)
    obtain ⟨o, rfl⟩ := Int.eq_ofNat_of_zero_le (show 0 ≤ o by omega)
    have := refKinds_yes p f o w hok
    unfold kinds
    rw [if_pos hok]
    exact this
  · unfold kinds
    rw [if_neg hok]
    exact refKinds_no p f o w hok
theorem kinds_le (p f o : Int) : (kinds p f o).length ≤ 255 := by
  unfold kinds
  split
  · rename_i h
    unfold Ok at h
    simp [kindsL]
    omega
  · simp

/-- what a row of the call's own gives to whoever reads it -/
theorem own_cases {w : World} {B : Nat} {v : Value} {l : List Int} (h : w.ownsRow B 3 1 v l.length (icells l)) :
    (v = .slice none 0 0 ∧ l = []) ∨ ∃ g cap, v = .slice (some ⟨g, 0, none⟩) l.length cap ∧ B ≤ g ∧ ∀ j, j < l.length → w.cell? ⟨g, j, none⟩ = some (.int .i64 (l.getD j 0)) := by
  have hc := fun g hg => World.ownsRow.cells h (g := g) hg
  rcases h.2 with ⟨rfl, h0⟩ | ⟨g, cap, cur, rfl, hg, hcur, hle, hcap, hsz, htake⟩
  · exact .inl ⟨rfl, List.eq_nil_of_length_eq_zero h0⟩
  · refine .inr ⟨g, cap, rfl, hg, fun j hj => ?_⟩
    have := hc g rfl j (.int .i64 (l.getD j 0)) (by simp [icells, hj])
    have hadd : (⟨g, 0, none⟩ : Addr).add j = ⟨g, j, none⟩ := by unfold Addr.add; split <;> simp_all
    rw [hadd] at this
    exact this

theorem own_shape {w : World} {B : Nat} {v : Value} {l : List Int} (h : w.ownsRow B 3 1 v l.length (icells l)) : ∃ a cap, v = .slice a l.length cap := by
  rcases own_cases h with ⟨rfl, rfl⟩ | ⟨g, cap, rfl, _⟩
  · exact ⟨none, 0, rfl⟩
  · exact ⟨_, _, rfl⟩
theorem own_view {w : World} {B : Nat} {v : Value} {l : List Int} (h : w.ownsRow B 3 1 v l.length (icells l)) (h0 : 0 < l.length) : ∃ g cap, v = .slice (some ⟨g, 0, none⟩) l.length cap ∧ ∀ j, j < l.length → w.cell? ⟨g, j, none⟩ = some (.int .i64 (l.getD j 0)) := by
  rcases own_cases h with ⟨rfl, rfl⟩ | ⟨g, cap, rfl, _, hc⟩
  · simp at h0
  · exact ⟨_, _, rfl, hc⟩

theorem refKind_any (p f o i : Int) (w : World) :
    Calls Try.prog 16 #[hv p f o, .int .i64 i] w fun e w' => e = .returned (.int .i64 (if 0 ≤ i then (kinds p f o).getD i.toNat 0 else 0)) ∧ Below w.heap.size w w' := by
  have hb := below_new w (hdrBlock p f o)
  have hk := refKinds_any p f o (w.alloc (hdrBlock p f o))
  have hl := kinds_le p f o
  generalize kinds p f o = l at *
  unfold hdrBlock at hk hb
  have Hk := Lib.hid hk
  clear hk
  unfold hv at *
  by_cases h0 : i < 0
  · rw [if_neg (by omega)]
    go_enter Try.func16, Try.ntmps16
    go_wp2_with (go_at_call 21; refine (Hk.out).mono ?_; rintro e w1 ⟨v, rfl, hown, hb1⟩; replace hb := seq hb hb1; obtain ⟨a, cap, rfl⟩ := own_shape hown; clear hb1 hown)
    go_ret
    exact ⟨rfl, hb⟩
  · obtain ⟨i, rfl⟩ := Int.eq_ofNat_of_zero_le (show 0 ≤ i by omega)
    rw [if_pos (by omega), Int.toNat_natCast]
    by_cases h1 : i < l.length
    · obtain ⟨x, hx⟩ : ∃ x, x = l.getD i 0 := ⟨_, rfl⟩
      rw [← hx]
      have Hx := Lib.hid hx
      clear hx
      go_enter Try.func16, Try.ntmps16
      go_wp2_with (go_at_call 21; refine (Hk.out).mono ?_; rintro e w1 ⟨v, rfl, hown, hb1⟩; replace hb := seq hb hb1; obtain ⟨g, cap, rfl, hcell⟩ := own_view hown (by omega); replace hcell := hcell i h1; rw [← Hx.out] at hcell; clear hb1 hown)
      go_ret
      exact ⟨rfl, hb⟩
    · have hz : l.getD i 0 = 0 := by simp; rw [List.getElem?_eq_none (by omega)]; rfl
      rw [hz]
      clear hz
      go_enter Try.func16, Try.ntmps16
      go_wp2_with (go_at_call 21; refine (Hk.out).mono ?_; rintro e w1 ⟨v, rfl, hown, hb1⟩; replace hb := seq hb hb1; obtain ⟨a, cap, rfl⟩ := own_shape hown; clear hb1 hown)
      go_ret
      exact ⟨rfl, hb⟩

theorem refCount_any (p f o c : Int) (w : World) :
    Calls Try.prog 18 #[hv p f o, .int .i64 c] w fun e w' => e = .returned (.int .i64 ((kinds p f o).count c : Nat)) ∧ Below w.heap.size w w' := by
  have hb := below_new w (hdrBlock p f o)
  have hk := refKinds_any p f o (w.alloc (hdrBlock p f o))
  have hl := kinds_le p f o
  generalize kinds p f o = l at *
  unfold hdrBlock at hk hb
  have Hk := Lib.hid hk
  clear hk
  unfold hv at *
  by_cases h0 : 0 < l.length
  · go_enter Try.func18, Try.ntmps18
    go_wp2_with (go_at_call 21; refine (Hk.out).mono ?_; rintro e w1 ⟨v, rfl, hown, hb1⟩; replace hb := seq hb hb1; obtain ⟨g, cap, rfl, hcell⟩ := own_view hown h0; have Hcell := Lib.hid hcell; clear hcell hb1 hown)
    go_loop [6, 7] (fun n i => ∃ k : Nat, k ≤ l.length ∧ i = .int .i64 k ∧ n = .int .i64 ((l.take k).count c : Nat)) (fun _ i => l.length - (intOf i).toNat)
    case atStart => exact ⟨0, by omega, rfl, by simp⟩
    case round =>
      obtain ⟨k, hkl, rfl, rfl⟩ := hrel
      by_cases hlt : k < l.length
      · have hc := Hcell.out k hlt
        have hstep : (l.take (k + 1)).count c = (l.take k).count c + if l.getD k 0 = c then 1 else 0 := by
          rw [List.take_succ_eq_append_getElem hlt, List.count_append, List.getD_eq_getElem?_getD, List.getElem?_eq_getElem hlt]
          simp [List.count_singleton]
        have hcl : (l.take k).count c ≤ 255 := by
          have := List.count_le_length (a := c) (l := l.take k)
          rw [List.length_take] at this
          omega
        generalize (l.take k).count c = n at *
        generalize l.getD k 0 = x at *
        have Hstep := Lib.hid hstep
        clear hstep
        by_cases hx : x = c
        · subst hx
          go_wp2
          go_round
          case rel => exact ⟨k + 1, by omega, by go_num, by rw [Hstep.out, if_pos rfl]; go_num⟩
          case measure => simp [intOf]; omega
        · have hB : (x == c) = false := by rw [beq_eq_false_iff_ne]; exact hx
          have Hx := Lib.hid hx
          clear hx
          go_wp2
          go_round
          case rel => exact ⟨k + 1, by omega, by go_num, by rw [Hstep.out, if_neg Hx.out]; rfl⟩
          case measure => simp [intOf]; omega
      · obtain rfl : l.length = k := by omega
        have ht := List.take_length (l := l)
        go_wp2
        go_ret
        exact ⟨rfl, hb⟩
  · obtain rfl : l = [] := List.eq_nil_of_length_eq_zero (by omega)
    go_enter Try.func18, Try.ntmps18
    go_wp2_with (go_at_call 21; refine (Hk.out).mono ?_; rintro e w1 ⟨v, rfl, hown, hb1⟩; replace hb := seq hb hb1; obtain ⟨a, cap, rfl⟩ := own_shape hown; clear hb1 hown)
    refine wp_loop_rounds 1 ?_
    rw [rounds_succ]
    go_wp2
    go_ret
    exact ⟨rfl, hb⟩

theorem refFirst_any (p f o c : Int) (w : World) :
    Calls Try.prog 20 #[hv p f o, .int .i64 c] w fun e w' => e = .returned (.int .i64 (if 1 ≤ c ∧ c ≤ 3 then (((kinds p f o).takeWhile (· < c)).length : Nat) else 0)) ∧ Below w.heap.size w w' := by
  have hb := below_new w (hdrBlock p f o)
  have hk := refKinds_any p f o (w.alloc (hdrBlock p f o))
  have hl := kinds_le p f o
  generalize kinds p f o = l at *
  unfold hdrBlock at hk hb
  have Hk := Lib.hid hk
  clear hk
  unfold hv at *
  by_cases hr : 1 ≤ c ∧ c ≤ 3
  · rw [if_pos hr]
    obtain ⟨r1, r2⟩ := hr
    by_cases h0 : 0 < l.length
    · go_enter Try.func20, Try.ntmps20
      go_wp2_with (go_at_call 21; refine (Hk.out).mono ?_; rintro e w1 ⟨v, rfl, hown, hb1⟩; replace hb := seq hb hb1; obtain ⟨g, cap, rfl, hcell⟩ := own_view hown h0; have Hcell := Lib.hid hcell; clear hcell hb1 hown)
      go_loop [6] (fun i => ∃ k : Nat, k ≤ l.length ∧ i = .int .i64 k ∧ (l.takeWhile (· < c)).length = k + ((l.drop k).takeWhile (· < c)).length) (fun i => l.length - (intOf i).toNat)
      case atStart => exact ⟨0, by omega, rfl, by simp⟩
      case round =>
        obtain ⟨k, hkl, rfl, hrest⟩ := hrel
        by_cases hlt : k < l.length
        · have hc := Hcell.out k hlt
          have hd : l.drop k = l.getD k 0 :: l.drop (k + 1) := by
            rw [List.drop_eq_getElem_cons hlt, List.getD_eq_getElem?_getD, List.getElem?_eq_getElem hlt]; rfl
          rw [hd, List.takeWhile_cons] at hrest
          generalize l.getD k 0 = x at *
          by_cases hx : x < c
          · rw [if_pos (by simpa using hx)] at hrest
            have Hrest := Lib.hid hrest
            clear hrest hd
            go_wp2
            go_round
            case rel => exact ⟨k + 1, by omega, by go_num, by have := Hrest.out; rw [List.length_cons] at this; omega⟩
            case measure => simp [intOf]; omega
          · rw [if_neg (by simpa using hx)] at hrest
            have Hrest := Lib.hid hrest
            clear hrest hd
            go_wp2
            go_ret
            exact ⟨by rw [Hrest.out]; rfl, hb⟩
        · obtain rfl : l.length = k := by omega
          rw [List.drop_length] at hrest
          have Hrest := Lib.hid hrest
          clear hrest
          go_wp2
          go_ret
          exact ⟨by rw [Hrest.out]; rfl, hb⟩
    · obtain rfl : l = [] := List.eq_nil_of_length_eq_zero (by omega)
      go_enter Try.func20, Try.ntmps20
      go_wp2_with (go_at_call 21; refine (Hk.out).mono ?_; rintro e w1 ⟨v, rfl, hown, hb1⟩; replace hb := seq hb hb1; obtain ⟨a, cap, rfl⟩ := own_shape hown; clear hb1 hown)
      refine wp_loop_rounds 1 ?_
      rw [rounds_succ]
      go_wp2
      go_ret
      exact ⟨rfl, hb⟩
  · rw [if_neg hr]
    by_cases h1 : c < 1
    · clear hr
      go_enter Try.func20, Try.ntmps20
      go_wp2_with (go_at_call 21; refine (Hk.out).mono ?_; rintro e w1 ⟨v, rfl, hown, hb1⟩; replace hb := seq hb hb1; obtain ⟨a, cap, rfl⟩ := own_shape hown; clear hb1 hown)
      go_ret
      exact ⟨rfl, hb⟩
    · have h3 : 3 < c := by omega
      clear hr
      go_enter Try.func20, Try.ntmps20
      go_wp2_with (go_at_call 21; refine (Hk.out).mono ?_; rintro e w1 ⟨v, rfl, hown, hb1⟩; replace hb := seq hb hb1; obtain ⟨a, cap, rfl⟩ := own_shape hown; clear hb1 hown)
      go_ret
      exact ⟨rfl, hb⟩
end Go.Proofs.Ytibhlblieeflbaa
