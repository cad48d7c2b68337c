/- The objects of a run of addresses, by recursion on the words; All finds them. -/
import Derived.Test.YtkcijlndblbidaaWGrow
namespace Go.Proofs.Ytkcijlndblbidaa
open Go.ChangeShapes Go.WideShapes Go.ChangeAt Go.RowKit
set_option linter.unusedVariables false

/-- an object that was found -/
structure Fnd where
  a : Int
  p : Nat
  f : Nat
  o : Nat
def Fnd.cells (x : Fnd) : List Value := [.int .i64 x.a, .int .i64 x.p, .int .i64 x.f, .int .i64 x.o]
def fcells (l : List Fnd) : List Value := l.flatMap Fnd.cells
theorem fcells_length (l : List Fnd) : (fcells l).length = l.length * 4 := by
  induction l with
  | nil => rfl
  | cons x l ih => unfold fcells at *; rw [List.flatMap_cons, List.length_append, ih]; simp [Fnd.cells]; omega
theorem fcells_snoc (l : List Fnd) (x : Fnd) : fcells (l ++ [x]) = fcells l ++ x.cells := by simp [fcells]
theorem fcells_get (l : List Fnd) (i j : Nat) (hi : i < l.length) (hj : j < 4) : (fcells l)[i * 4 + j]? = (l.getD i ⟨0, 0, 0, 0⟩).cells[j]? := by
  induction l generalizing i with
  | nil => simp at hi
  | cons x l ih =>
    show (x.cells ++ fcells l)[i * 4 + j]? = _
    cases i with
    | zero =>
      rw [List.getElem?_append_left (by simp [Fnd.cells]; omega)]
      simp
    | succ i =>
      rw [List.getElem?_append_right (by simp [Fnd.cells]; omega)]
      rw [show (i + 1) * 4 + j - x.cells.length = i * 4 + j by simp [Fnd.cells]; omega]
      rw [ih i (by simpa using hi)]
      simp
/-- a list found ahead, and how the rest ends -/
def cat (l : List Fnd) (r : List Fnd × Int) : List Fnd × Int := if r.2 = 0 then (l ++ r.1, 0) else ([], r.2)
theorem cat_nil (r : List Fnd × Int) (h : r.2 = 0 ∨ r.1 = []) : cat [] r = r := by
  obtain ⟨a, b⟩ := r
  unfold cat
  split
  · rename_i e
    simp only [] at e
    rw [e]
    rfl
  · rename_i e
    rcases h with h | h
    · exact absurd h e
    · simp only [] at h
      rw [h]
theorem cat_cat (l l2 : List Fnd) (r : List Fnd × Int) : cat l (cat l2 r) = cat (l ++ l2) r := by
  unfold cat
  by_cases e : r.2 = 0
  · rw [if_pos e, if_pos rfl, if_pos e, List.append_assoc]
  · rw [if_neg e, if_neg e, if_neg e]
theorem cat_fail (l : List Fnd) (e : Int) (h : e ≠ 0) : cat l ([], e) = ([], e) := if_neg h
theorem cat_done (l : List Fnd) : cat l ([], 0) = (l, 0) := by unfold cat; rw [if_pos rfl, List.append_nil]
def fndAt (n : Nat) (g : Nat → Nat) (a : Int) : Fnd := ⟨a, rdP n g a, rdF n g a, rdO n g a⟩
def allF (n : Nat) (g : Nat → Nat) (top a : Int) : List Fnd × Int :=
  if a < top then
    if h : rdE n g a = 0 then (if top - a < rdS n g a + 1 then ([], 25) else cat [fndAt n g a] (allF n g top (a + rdS n g a + 1)))
    else ([], rdE n g a)
  else ([], 0)
termination_by ((n : Int) - a).toNat
decreasing_by
  have := rdE_zero h
  omega
theorem rdE_bad (n : Nat) (g : Nat → Nat) (a : Int) : rdE n g a = 0 ∨ rdE n g a = 18 ∨ rdE n g a = 5 ∨ rdE n g a = 11 ∨ rdE n g a = 16 := by
  unfold rdE
  split
  · simp
  · split
    · simp
    · split
      · simp
      · split <;> simp
theorem allF_ok (n : Nat) (g : Nat → Nat) (top a : Int) : (allF n g top a).2 = 0 ∨ (allF n g top a).1 = [] := by
  rw [allF]
  split
  · split
    · split
      · exact .inr rfl
      · unfold cat
        split
        · exact .inl rfl
        · exact .inr rfl
    · exact .inr rfl
  · exact .inl rfl
/-- the objects of a run, or why not -/
def allR (n : Nat) (g : Nat → Nat) (base top : Int) : List Fnd × Int := if base < 1 ∨ top < base then ([], 5) else allF n g top base
theorem found_info : (Try.prog.info? 141).map (fun i => (i.zero, i.size, i.bytes)) = some (some (.agg #[.int .i64 0, .int .i64 0, .int .i64 0, .int .i64 0]), 4, 32) := by kernel_rfl
section
variable {W0 w w' : World} {m n t : Nat} {g : Nat → Nat} {K : List (Nat × Obj)}
set_option maxRecDepth 100000 in
theorem all_bad (h : FK W0 m n t g K w) (base top : Int) (hb : base < 1 ∨ top < base) :
    Calls Try.prog 90 #[spc m, .int .i64 base, .int .i64 top] w fun e w' => e = .returned (.tuple #[.slice none 0 0, .int .i64 5]) ∧ FK W0 m n t g K w' := by
  have H := Lib.hid h
  clear h
  unfold spc
  by_cases h1 : base < 1
  · clear hb
    go_enter Try.func90, Try.ntmps90
    go_wp2
    go_ret2
    exact ⟨rfl, H.out⟩
  · have h2 : top < base := by omega
    clear hb
    go_enter Try.func90, Try.ntmps90
    go_wp2
    go_ret2
    exact ⟨rfl, H.out⟩
set_option maxRecDepth 100000 in
set_option maxHeartbeats 2000000 in
theorem all_good (h : FK W0 m n t g K w) (hg : Small n g) (base top : Int) (h1 : 1 ≤ base) (h2 : base ≤ top) (h3 : top ≤ 9223372036854775807) :
    Calls Try.prog 90 #[spc m, .int .i64 base, .int .i64 top] w fun e w' => ∃ al cap, e = .returned (.tuple #[.slice al (allF n g top base).1.length cap, .int .i64 (allF n g top base).2]) ∧ GR W0 m n t g K 141 4 (allF n g top base).1.length (fcells (allF n g top base).1) al cap w' := by
  have hn := h.dims
  obtain ⟨i1, hj, hy0, hy1, hy2⟩ := info_parts found_info
  have H := Lib.hid h
  have Hg := Lib.hid hg
  have hbd : ∀ (a p q o : Int) (w : World), (Instr.build 141 #[(0, .int .i64 a), (1, .agg #[.int .i64 p, .int .i64 q, .int .i64 o])]).run Try.prog w = .ok (.agg #[.int .i64 a, .int .i64 p, .int .i64 q, .int .i64 o]) w := fun a p q o w => run_build w 141 _ _ (by kernel_rfl)
  have Hbd := Lib.hid hbd
  obtain ⟨R, hR⟩ : ∃ R, allF n g top base = R := ⟨_, rfl⟩
  rw [hR]
  have HR := Lib.hid hR
  have e1 : ¬ base < 1 := by omega
  have e2 : ¬ top < base := by omega
  clear h hg hR hbd
  unfold spc
  go_enter Try.func90, Try.ntmps90
  go_wp2_with (fail)
  go_loopw [8, 9] (fun r i wr => ∃ (l : List Fnd) (a : Int) (al : Option Addr) (cap : Nat), r = .slice al l.length cap ∧ i = .int .i64 a ∧ 1 ≤ a ∧ a ≤ top ∧ (l = [] ∨ (a ≤ n + 256 ∧ l.length ≤ a)) ∧ R = cat l (allF n g top a) ∧ GR W0 m n t g K 141 4 l.length (fcells l) al cap wr) (fun _ i _ => (top - intOf i).toNat)
  case atStart => exact ⟨[], base, none, 0, rfl, rfl, h1, h2, .inl rfl, by rw [cat_nil _ (allF_ok n g top base)]; exact HR.out.symm, GR.none' H.out _ _⟩
  case round =>
    clear H
    obtain ⟨l, a, al, cap, rfl, rfl, ha1, ha2, hla, hcat, hF⟩ := hrel
    have hll : l.length ≤ 4352 := by
      rcases hla with rfl | hla
      · simp
      · omega
    have HF := Lib.hid hF
    by_cases hlt : a < top
    · have hread := hF.mem (fun K hK => read_fk hK Hg.out a)
      rw [allF, if_pos hlt] at hcat
      unfold rdV Hd.hv spc at hread
      by_cases h0 : rdE n g a = 0
      · rw [dif_pos h0] at hcat
        rw [h0] at hread
        have hok := rd_ok h0
        have hz := rdE_zero h0
        have hsz : Hd.sizeOf' (rdP n g a) (rdF n g a) (rdO n g a) = (rdS n g a + 1 : Nat) := by unfold Hd.sizeOf'; rw [if_pos hok]; unfold rdS; omega
        have hS := fun W => Hd.size_any (rdP n g a) (rdF n g a) (rdO n g a) W
        rw [hsz] at hS
        have hs255 : rdS n g a ≤ 255 := by unfold Hd.Ok at hok; unfold rdS; omega
        have hfa : fndAt n g a = ⟨a, rdP n g a, rdF n g a, rdO n g a⟩ := rfl
        rw [hfa] at hcat
        unfold Hd.hv at hS
        generalize rdP n g a = p at *
        generalize rdF n g a = q at *
        generalize rdO n g a = o at *
        obtain ⟨z, hz2⟩ : ∃ z, rdS n g a + 1 = z := ⟨_, rfl⟩
        rw [hz2] at hS
        have hz3 : ((rdS n g a : Nat) : Int) + 1 = z := by omega
        have hz4 : a + ((rdS n g a : Nat) : Int) + 1 = a + z := by omega
        rw [hz4] at hcat
        have hz5 : (top - a < ((rdS n g a : Nat) : Int) + 1) = (top - a < z) := by rw [hz3]
        rw [hz3] at hcat
        have HRD := Lib.hid hread
        have HS := Lib.hid hS
        have z1 : (z : Int) ≤ 256 := by omega
        have z2 : 1 ≤ (z : Int) := by omega
        have a4 : a ≤ 4096 := by omega
        have Hz := Lib.hid hz
        clear hread hS hF hsz hok hz hz2 hz3 hz4 hz5 hfa hs255 h0
        by_cases hfit : top - a < z
        · rw [if_pos hfit, cat_fail _ _ (by omega)] at hcat
          subst hcat
          clear hla
          go_wp2_with (first
            | (go_at_call 78; refine HRD.out.mono ?_; rintro e w1 ⟨rfl, h4⟩; have H4 := Lib.hid (h4.box #[.int .i64 p, .int .i64 q, .int .i64 o] 106); clear h4)
            | (go_at_call 91; refine (HS.out _).mono ?_; rintro e w2 ⟨rfl, hb⟩; have H5 := Lib.hid (H4.out.grow hb).tail; clear hb))
          go_ret2
          exact ⟨none, 0, rfl, GR.none' H5.out.full _ _⟩
        · rw [if_neg hfit, cat_cat] at hcat
          have Hcat := Lib.hid hcat
          have Hla := Lib.hid hla
          have hlow := HF.out.below.size
          clear hcat hla
          have hbd := Hbd.out
          go_wp2_with (first
            | (go_at_call 78; refine HRD.out.mono ?_; rintro e w1 ⟨rfl, h4⟩; have H4 := Lib.hid (h4.box #[.int .i64 p, .int .i64 q, .int .i64 o] 106); clear h4)
            | (go_at_call 91; refine (HS.out _).mono ?_; rintro e w2 ⟨rfl, hb⟩; have h5 := H4.out.grow hb; have qb := h5.block (List.mem_cons_self ..); have d0 := at_cell qb 0 _ rfl; have d1 := at_cell qb 1 _ rfl; have d2 := at_cell qb 2 _ rfl; have hlow2 := h5.below.size; have H5 := Lib.hid h5; clear hb h5 qb)
            | (at_builtin; refine wpList_append_lies _ rfl (.tmp 40) (.tmp 44) 137 rfl W0.heap.size 141 i1 (.agg #[.int .i64 0, .int .i64 0, .int .i64 0, .int .i64 0]) 4 32 Try.underlying137 hj hy0 hy1 hy2 rfl (by decide) _ _ _ rfl (World.ownsRow.alloc H5.out.row _) ⟨w2.heap.size, 0, none⟩ 1 1 [.int .i64 a, .int .i64 p, .int .i64 q, .int .i64 o] rfl rfl ?k1 ?k2 ?k3 ?k4 ?k5 ?k6 (w2.heap.size + 1) ?k7 ?_))
          case k1 => exact World.news_of_block (heap_alloc_new w2 (.cells #[.int .i64 a, .int .i64 p, .int .i64 q, .int .i64 o] 141))
          case k2 => intro u hu; simp at hu; rcases hu with rfl | rfl | rfl | rfl <;> rfl
          case k3 => omega
          case k4 => unfold maxLen; omega
          case k5 => omega
          case k6 => simp; omega
          case k7 => simp
          intro g5 cap5 w5 hown5 hgrow5 hat5 hlt5
          have HN5 := Lib.hid (H5.out.push hown5 hgrow5 hat5).tail
          clear hown5 hgrow5 hat5 hbd
          go_wp2
          go_roundw
          case rel => exact ⟨l ++ [⟨a, p, q, o⟩], a + z, _, _, by rw [List.length_append]; rfl, rfl, by omega, by omega, .inr ⟨by have := Hz.out; omega, by have := Hla.out; rw [List.length_append]; rcases this with e | e; rw [e]; simp; omega; simp; omega⟩, Hcat.out, by rw [List.length_append, fcells_snoc]; exact HN5.out⟩
          case measure => simp [intOf]; omega
      · rw [dif_neg h0, cat_fail _ _ h0] at hcat
        generalize rdP n g a = p at *
        generalize rdF n g a = q at *
        generalize rdO n g a = o at *
        generalize rdE n g a = er at *
        have Hcat := Lib.hid hcat
        clear hcat
        have b1 : (er != 0) = true := by rw [bne_iff_ne]; exact h0
        have HRD := Lib.hid hread
        clear hread hF hla h0
        go_wp2_with (first
          | (go_at_call 78; refine HRD.out.mono ?_; rintro e w1 ⟨rfl, h4⟩; have H4 := Lib.hid (h4.box #[.int .i64 p, .int .i64 q, .int .i64 o] 106).tail; clear h4))
        go_ret2
        rw [Hcat.out]
        exact ⟨none, 0, rfl, GR.none' H4.out.full _ _⟩
    · rw [allF, if_neg hlt, cat_done] at hcat
      subst hcat
      clear hF hla
      go_wp2
      go_ret2
      exact ⟨al, cap, rfl, HF.out⟩
theorem all_fk (h : FK W0 m n t g K w) (hg : Small n g) (base top : Int) (h3 : top ≤ 9223372036854775807) :
    Calls Try.prog 90 #[spc m, .int .i64 base, .int .i64 top] w fun e w' => ∃ al cap, e = .returned (.tuple #[.slice al (allR n g base top).1.length cap, .int .i64 (allR n g base top).2]) ∧ GR W0 m n t g K 141 4 (allR n g base top).1.length (fcells (allR n g base top).1) al cap w' := by
  unfold allR
  by_cases hb : base < 1 ∨ top < base
  · rw [if_pos hb]
    exact (all_bad h base top hb).mono fun e w' ⟨he, hF⟩ => ⟨none, 0, he, GR.none' hF _ _⟩
  · rw [if_neg hb]
    exact all_good h hg base top (by omega) (by omega) h3
end
end Go.Proofs.Ytkcijlndblbidaa
