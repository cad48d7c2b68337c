/- The walks of the reference's Size, Put and Take, and of header.Kind, Count and First, each once. -/
import Derived.Test.YtibhlblieeflbaaHdrTake
namespace Go.Proofs.Ytibhlblieeflbaa
open Go.ChangeShapes Go.WideShapes Go.ChangeAt Go.RowKit

/-- the block of a header's copy -/
def hdrBlock (p f o : Int) : Obj := .cells #[.int .i64 p, .int .i64 f, .int .i64 o] 23
theorem hdr_kept (p f o : Int) (w w' : World) (hb : Below (w.alloc (hdrBlock p f o)).heap.size (w.alloc (hdrBlock p f o)) w') :
    (w'.cell? ⟨w.heap.size, 0, none⟩ = some (.int .i64 p) ∧ w'.cell? ⟨w.heap.size, 1, none⟩ = some (.int .i64 f) ∧ w'.cell? ⟨w.heap.size, 2, none⟩ = some (.int .i64 o)) ∧ w'.frozen? ⟨w.heap.size, 0, none⟩ = false ∧ w'.frozen? ⟨w.heap.size, 1, none⟩ = false ∧ w'.frozen? ⟨w.heap.size, 2, none⟩ = false :=
  three (blockB hb (Nat.le_refl _) (heap_alloc_new _ _))

theorem refSize_any (p f o : Int) (w : World) :
    Calls Try.prog 13 #[hv p f o] w fun e w' => e = .returned (.int .i64 (sizeOf' p f o)) ∧ Below w.heap.size w w' := by
  have hb := below_new w (hdrBlock p f o)
  have hk := hdr_kept p f o w
  have hm := may_any p f o (w.alloc (hdrBlock p f o))
  unfold hdrBlock at hk hb hm
  by_cases hok : Ok p f o
  · have hs : sizeOf' p f o = p + f + o + 1 := by rw [show p + f + o + 1 = 1 + p + f + o from by omega]; exact if_pos hok
    rw [decide_eq_true hok] at hm
    have hok' := hok
    unfold Ok at hok'
    obtain ⟨a1, a2, a3, a4, a5, a6, a7⟩ := hok'
    have Hs := Lib.hid hs
    have Hm := Lib.hid hm
    clear hok hs hm
    unfold hv at *
    go_enter Try.func13, Try.ntmps13
    go_wp2_with (go_at_call 11; refine (Hm.out).mono ?_; rintro e w1 ⟨rfl, hb1⟩; obtain ⟨⟨c0, c1, c2⟩, -⟩ := hk _ hb1; replace hb := seq hb hb1; clear hb1 hk)
    go_ret
    exact ⟨by rw [Hs.out]; rfl, hb⟩
  · have hs : sizeOf' p f o = 0 := if_neg hok
    rw [decide_eq_false hok] at hm
    have Hs := Lib.hid hs
    have Hm := Lib.hid hm
    clear hok hs hm
    unfold hv at *
    go_enter Try.func13, Try.ntmps13
    go_wp2_with (go_at_call 11; refine (Hm.out).mono ?_; rintro e w1 ⟨rfl, hb1⟩; replace hb := seq hb hb1; clear hb1 hk)
    go_ret
    exact ⟨by rw [Hs.out]; rfl, hb⟩

theorem refPut_facts (p f o : Nat) (hp : p ≤ 255) (hf : f ≤ 255) (ho : o ≤ 255) : ∃ A B C D N M K : Int, IntKind.u64.wrap (p : Int) = p ∧ IntKind.u64.wrap (f : Int) = f ∧ IntKind.u64.wrap (o : Int) = o ∧
    IntKind.u64.wrap ((f : Int) * 256) = A ∧ IntKind.u64.wrap ((p : Int) + A) = B ∧ IntKind.u64.wrap ((o : Int) * 65536) = C ∧ IntKind.u64.wrap (B + C) = D ∧ IntKind.u64.wrap (D + 2768240640) = N ∧
    IntKind.u64.wrap (4294967295 - N) = M ∧ IntKind.u64.wrap (M * 4294967296) = K ∧ IntKind.u64.wrap (N + K) = (wordOf p f o : Nat) := by
  have hl : low p f o < 4294967296 := by unfold low; omega
  refine ⟨(f * 256 : Nat), (p + f * 256 : Nat), (o * 65536 : Nat), (p + f * 256 + o * 65536 : Nat), (low p f o : Nat), (4294967295 - low p f o : Nat), ((4294967295 - low p f o) * 4294967296 : Nat), ?_, ?_, ?_, ?_, ?_, ?_, ?_, ?_, ?_, ?_, ?_⟩ <;> rw [IntKind.wrap_u64]
  · omega
  · omega
  · omega
  · omega
  · omega
  · omega
  · omega
  · unfold low; omega
  · omega
  · omega
  · unfold wordOf; omega

theorem refPut_yes (p f o : Nat) (w : World) (hok : Ok p f o) :
    Calls Try.prog 7 #[hv p f o] w fun e w' => e = .returned (.tuple #[.int .u64 (wordOf p f o : Nat), .int .i64 0]) ∧ Below w.heap.size w w' := by
  have hb := below_new w (hdrBlock p f o)
  have hk := hdr_kept p f o w
  have hm := may_any p f o (w.alloc (hdrBlock p f o))
  unfold hdrBlock at hk hb hm
  rw [decide_eq_true hok] at hm
  have hok' := hok
  unfold Ok at hok'
  obtain ⟨a1, a2, a3, a4, a5, a6, a7⟩ := hok'
  obtain ⟨A, B, C, D, N, M, K, e1, e2, e3, e4, e5, e6, e7, e8, e9, e10, e11⟩ := refPut_facts p f o (by omega) (by omega) (by omega)
  have Hm := Lib.hid hm
  clear hok hm
  unfold hv at *
  go_enter Try.func7, Try.ntmps7
  go_wp2_with (go_at_call 11; refine (Hm.out).mono ?_; rintro e w1 ⟨rfl, hb1⟩; obtain ⟨⟨c0, c1, c2⟩, -⟩ := hk _ hb1; replace hb := seq hb hb1; clear hb1 hk)
  go_ret2
  exact ⟨rfl, hb⟩

theorem refPut_no (p f o : Int) (w : World) (hok : ¬ Ok p f o) :
    Calls Try.prog 7 #[hv p f o] w fun e w' => e = .returned (.tuple #[.int .u64 0, .int .i64 15]) ∧ Below w.heap.size w w' := by
  have hb := below_new w (hdrBlock p f o)
  have hm := may_any p f o (w.alloc (hdrBlock p f o))
  unfold hdrBlock at hb hm
  rw [decide_eq_false hok] at hm
  have Hm := Lib.hid hm
  clear hok hm
  unfold hv at *
  go_enter Try.func7, Try.ntmps7
  go_wp2_with (go_at_call 11; refine (Hm.out).mono ?_; rintro e w1 ⟨rfl, hb1⟩; replace hb := seq hb hb1; clear hb1)
  go_ret2
  exact ⟨rfl, hb⟩

theorem refTake_any (x : Nat) (w : World) (hx : x < 18446744073709551616) :
    Calls Try.prog 9 #[.int .u64 x] w fun e w' => e = .returned (.tuple #[if Is x then hv (tp x) (tf x) (to x) else hv 0 0 0, .int .i64 (if Is x then 0 else 16)]) ∧ Below w.heap.size w w' := by
  have e1 : (x : Int) % 256 = (tp x : Nat) := by unfold tp; omega
  have e2 : (x : Int) / 256 % 256 = (tf x : Nat) := by unfold tf; omega
  have e3 : (x : Int) / 65536 % 256 = (to x : Nat) := by unfold to; omega
  have hp : tp x ≤ 255 := by unfold tp; omega
  have hf : tf x ≤ 255 := by unfold tf; omega
  have ho : to x ≤ 255 := by unfold to; omega
  have hput := refPut_yes (tp x) (tf x) (to x)
  have hput' := refPut_no (tp x) (tf x) (to x)
  have hiff : Is x ↔ Ok (tp x) (tf x) (to x) ∧ wordOf (tp x) (tf x) (to x) = x := Iff.rfl
  by_cases h3 : Ok (tp x) (tf x) (to x)
  · by_cases h2 : wordOf (tp x) (tf x) (to x) = x
    · have his : Is x := hiff.2 ⟨h3, h2⟩
      simp only [if_pos his]
      have hput := fun w => hput w h3
      rw [h2] at hput
      clear hput' h3 his hiff h2
      generalize tp x = p at *
      generalize tf x = f at *
      generalize to x = o at *
      obtain ⟨W, hW⟩ : ∃ W, W = (w.alloc (.cells #[.int .i64 0, .int .i64 0, .int .i64 0] 23)).alloc (.cells #[.int .i64 p, .int .i64 f, .int .i64 o] 23) := ⟨_, rfl⟩
      have hb : Below w.heap.size w W := by rw [hW]; exact seq (below_new _ _) (below_new _ _)
      have hr : W.heap[w.heap.size]? = some (.cells #[.int .i64 0, .int .i64 0, .int .i64 0] 23 (0, 0)) := by rw [hW]; exact heap_alloc2_old _ _ _
      have hs : W.heap[w.heap.size + 1]? = some (.cells #[.int .i64 p, .int .i64 f, .int .i64 o] 23 (0, 0)) := by rw [hW]; exact heap_alloc2_new _ _ _
      have hput := hput W
      rw [hW] at hput
      have HW := Lib.hid hW
      have Hput := Lib.hid hput
      have Hr := Lib.hid hr
      have Hs := Lib.hid hs
      clear hW hr hs hput
      unfold hv at *
      go_enter Try.func9, Try.ntmps9
      go_wp2_with (go_at_call 7; refine (Hput.out).mono ?_; rw [← HW.out]; rintro e w1 ⟨rfl, hb1⟩; obtain ⟨⟨c0, c1, c2⟩, f0, f1, f2⟩ := three (blockB hb1 (Nat.le_refl _) Hr.out); obtain ⟨⟨d0, d1, d2⟩, g0, g1, g2⟩ := three (blockB hb1 (Nat.le_refl _) Hs.out); replace hb := seq hb hb1; clear hb1)
      refine bodyPost_ret (v := .tuple #[.agg #[.int .i64 p, .int .i64 f, .int .i64 o], .int .i64 0]) (by simp [results, Try.results9, go_sem, c0, c1, c2]) rfl ⟨rfl, ((hb.setCell (by simp) _).setCell (by simp) _).setCell (by simp) _⟩
    · have his : ¬ Is x := fun h => h2 (hiff.1 h).2
      simp only [if_neg his]
      have hput := fun w => hput w h3
      have b1 : ((wordOf (tp x) (tf x) (to x) : Nat) : Int) ≠ x := by omega
      have b3 : (((wordOf (tp x) (tf x) (to x) : Nat) : Int) == (x : Int)) = false := by rw [beq_eq_false_iff_ne]; exact b1
      have b4 : (((wordOf (tp x) (tf x) (to x) : Nat) : Int) != (x : Int)) = true := by rw [bne_iff_ne]; exact b1
      clear hput' h3 his hiff h2 b1
      generalize wordOf (tp x) (tf x) (to x) = W' at *
      generalize tp x = p at *
      generalize tf x = f at *
      generalize to x = o at *
      obtain ⟨W, hW⟩ : ∃ W, W = (w.alloc (.cells #[.int .i64 0, .int .i64 0, .int .i64 0] 23)).alloc (.cells #[.int .i64 p, .int .i64 f, .int .i64 o] 23) := ⟨_, rfl⟩
      have hb : Below w.heap.size w W := by rw [hW]; exact seq (below_new _ _) (below_new _ _)
      have hr : W.heap[w.heap.size]? = some (.cells #[.int .i64 0, .int .i64 0, .int .i64 0] 23 (0, 0)) := by rw [hW]; exact heap_alloc2_old _ _ _
      have hs : W.heap[w.heap.size + 1]? = some (.cells #[.int .i64 p, .int .i64 f, .int .i64 o] 23 (0, 0)) := by rw [hW]; exact heap_alloc2_new _ _ _
      have hput := hput W
      rw [hW] at hput
      have HW := Lib.hid hW
      have Hput := Lib.hid hput
      have Hr := Lib.hid hr
      have Hs := Lib.hid hs
      clear hW hr hs hput
      unfold hv at *
      go_enter Try.func9, Try.ntmps9
      go_wp2_with (go_at_call 7; refine (Hput.out).mono ?_; rw [← HW.out]; rintro e w1 ⟨rfl, hb1⟩; obtain ⟨⟨c0, c1, c2⟩, f0, f1, f2⟩ := three (blockB hb1 (Nat.le_refl _) Hr.out); obtain ⟨⟨d0, d1, d2⟩, g0, g1, g2⟩ := three (blockB hb1 (Nat.le_refl _) Hs.out); replace hb := seq hb hb1; clear hb1)
      refine bodyPost_ret (v := .tuple #[.agg #[.int .i64 0, .int .i64 0, .int .i64 0], .int .i64 16]) (by simp [results, Try.results9, go_sem, c0, c1, c2]) rfl ⟨rfl, ((hb.setCell (by simp) _).setCell (by simp) _).setCell (by simp) _⟩
  · have his : ¬ Is x := fun h => h3 (hiff.1 h).1
    simp only [if_neg his]
    have hput := fun w => hput' w h3
    clear hput' h3 his hiff
    generalize tp x = p at *
    generalize tf x = f at *
    generalize to x = o at *
    obtain ⟨W, hW⟩ : ∃ W, W = (w.alloc (.cells #[.int .i64 0, .int .i64 0, .int .i64 0] 23)).alloc (.cells #[.int .i64 p, .int .i64 f, .int .i64 o] 23) := ⟨_, rfl⟩
    have hb : Below w.heap.size w W := by rw [hW]; exact seq (below_new _ _) (below_new _ _)
    have hr : W.heap[w.heap.size]? = some (.cells #[.int .i64 0, .int .i64 0, .int .i64 0] 23 (0, 0)) := by rw [hW]; exact heap_alloc2_old _ _ _
    have hs : W.heap[w.heap.size + 1]? = some (.cells #[.int .i64 p, .int .i64 f, .int .i64 o] 23 (0, 0)) := by rw [hW]; exact heap_alloc2_new _ _ _
    have hput := hput W
    rw [hW] at hput
    have HW := Lib.hid hW
    have Hput := Lib.hid hput
    have Hr := Lib.hid hr
    have Hs := Lib.hid hs
    clear hW hr hs hput
    unfold hv at *
    go_enter Try.func9, Try.ntmps9
    go_wp2_with (go_at_call 7; refine (Hput.out).mono ?_; rw [← HW.out]; rintro e w1 ⟨rfl, hb1⟩; obtain ⟨⟨c0, c1, c2⟩, f0, f1, f2⟩ := three (blockB hb1 (Nat.le_refl _) Hr.out); obtain ⟨⟨d0, d1, d2⟩, g0, g1, g2⟩ := three (blockB hb1 (Nat.le_refl _) Hs.out); replace hb := seq hb hb1; clear hb1)
    refine bodyPost_ret (v := .tuple #[.agg #[.int .i64 0, .int .i64 0, .int .i64 0], .int .i64 16]) (by simp [results, Try.results9, go_sem, c0, c1, c2]) rfl ⟨rfl, ((hb.setCell (by simp) _).setCell (by simp) _).setCell (by simp) _⟩

def kindOf (p f o i : Int) : Int := if Ok p f o ∧ 0 ≤ i ∧ i < p + f + o then (if i < p then 1 else if i < p + f then 2 else 3) else 0
def countOf (p f o k : Int) : Int := if Ok p f o then (if k = 1 then p else if k = 2 then f else if k = 3 then o else 0) else 0
def firstOf (p f o k : Int) : Int := if Ok p f o then (if k = 2 then p else if k = 3 then p + f else 0) else 0

theorem count_any (p f o k : Int) (w : World) :
    Calls Try.prog 17 #[hv p f o, .int .i64 k] w fun e w' => e = .returned (.int .i64 (countOf p f o k)) ∧ Below w.heap.size w w' := by
  have hb := below_new w (hdrBlock p f o)
  have hk := hdr_kept p f o w
  have hc := check_any p f o (w.alloc (hdrBlock p f o))
  unfold hdrBlock at hk hb hc
  by_cases hok : Ok p f o
  · have hs : countOf p f o k = if k = 1 then p else if k = 2 then f else if k = 3 then o else 0 := if_pos hok
    rw [code_ok hok] at hc
    have Hs := Lib.hid hs
    have Hc := Lib.hid hc
    clear hok hs hc
    unfold hv at *
    by_cases k1 : k = 1
    · subst k1
      go_enter Try.func17, Try.ntmps17
      go_wp2_with (go_at_call 10; refine (Hc.out).mono ?_; rintro e w1 ⟨rfl, hb1⟩; obtain ⟨⟨c0, c1, c2⟩, -⟩ := hk _ hb1; replace hb := seq hb hb1; clear hb1 hk)
      go_ret
      exact ⟨by rw [Hs.out]; rfl, hb⟩
    by_cases k2 : k = 2
    · subst k2
      go_enter Try.func17, Try.ntmps17
      go_wp2_with (go_at_call 10; refine (Hc.out).mono ?_; rintro e w1 ⟨rfl, hb1⟩; obtain ⟨⟨c0, c1, c2⟩, -⟩ := hk _ hb1; replace hb := seq hb hb1; clear hb1 hk)
      go_ret
      exact ⟨by rw [Hs.out]; rfl, hb⟩
    by_cases k3 : k = 3
    · subst k3
      go_enter Try.func17, Try.ntmps17
      go_wp2_with (go_at_call 10; refine (Hc.out).mono ?_; rintro e w1 ⟨rfl, hb1⟩; obtain ⟨⟨c0, c1, c2⟩, -⟩ := hk _ hb1; replace hb := seq hb hb1; clear hb1 hk)
      go_ret
      exact ⟨by rw [Hs.out]; rfl, hb⟩
    have b1 : (k == 1) = false := by rw [beq_eq_false_iff_ne]; exact k1
    have b2 : (k == 2) = false := by rw [beq_eq_false_iff_ne]; exact k2
    have b3 : (k == 3) = false := by rw [beq_eq_false_iff_ne]; exact k3
    have hs : countOf p f o k = 0 := by rw [Hs.out, if_neg k1, if_neg k2, if_neg k3]
    have Hs' := Lib.hid hs
    clear hs k1 k2 k3
    go_enter Try.func17, Try.ntmps17
    go_wp2_with (go_at_call 10; refine (Hc.out).mono ?_; rintro e w1 ⟨rfl, hb1⟩; obtain ⟨⟨c0, c1, c2⟩, -⟩ := hk _ hb1; replace hb := seq hb hb1; clear hb1 hk)
    go_ret
    exact ⟨by rw [Hs'.out]; rfl, hb⟩
  · have hs : countOf p f o k = 0 := if_neg hok
    rw [code_bad hok] at hc
    have Hs := Lib.hid hs
    have Hc := Lib.hid hc
    clear hok hs hc
    unfold hv at *
    go_enter Try.func17, Try.ntmps17
    go_wp2_with (go_at_call 10; refine (Hc.out).mono ?_; rintro e w1 ⟨rfl, hb1⟩; obtain ⟨⟨c0, c1, c2⟩, -⟩ := hk _ hb1; replace hb := seq hb hb1; clear hb1 hk)
    go_ret
    exact ⟨by rw [Hs.out]; rfl, hb⟩

theorem first_any (p f o k : Int) (w : World) :
    Calls Try.prog 19 #[hv p f o, .int .i64 k] w fun e w' => e = .returned (.int .i64 (firstOf p f o k)) ∧ Below w.heap.size w w' := by
  have hb := below_new w (hdrBlock p f o)
  have hk := hdr_kept p f o w
  have hc := check_any p f o (w.alloc (hdrBlock p f o))
  unfold hdrBlock at hk hb hc
  by_cases hok : Ok p f o
  · have hs : firstOf p f o k = if k = 2 then p else if k = 3 then p + f else 0 := if_pos hok
    rw [code_ok hok] at hc
    have hok' := hok
    unfold Ok at hok'
    obtain ⟨a1, a2, a3, a4, a5, a6, a7⟩ := hok'
    have Hs := Lib.hid hs
    have Hc := Lib.hid hc
    clear hok hs hc
    unfold hv at *
    by_cases k2 : k = 2
    · subst k2
      go_enter Try.func19, Try.ntmps19
      go_wp2_with (go_at_call 10; refine (Hc.out).mono ?_; rintro e w1 ⟨rfl, hb1⟩; obtain ⟨⟨c0, c1, c2⟩, -⟩ := hk _ hb1; replace hb := seq hb hb1; clear hb1 hk)
      go_ret
      exact ⟨by rw [Hs.out]; rfl, hb⟩
    by_cases k3 : k = 3
    · subst k3
      go_enter Try.func19, Try.ntmps19
      go_wp2_with (go_at_call 10; refine (Hc.out).mono ?_; rintro e w1 ⟨rfl, hb1⟩; obtain ⟨⟨c0, c1, c2⟩, -⟩ := hk _ hb1; replace hb := seq hb hb1; clear hb1 hk)
      go_ret
      exact ⟨by rw [Hs.out]; rfl, hb⟩
    have b2 : (k == 2) = false := by rw [beq_eq_false_iff_ne]; exact k2
    have b3 : (k == 3) = false := by rw [beq_eq_false_iff_ne]; exact k3
    have hs : firstOf p f o k = 0 := by rw [Hs.out, if_neg k2, if_neg k3]
    have Hs' := Lib.hid hs
    clear hs k2 k3
    go_enter Try.func19, Try.ntmps19
    go_wp2_with (go_at_call 10; refine (Hc.out).mono ?_; rintro e w1 ⟨rfl, hb1⟩; obtain ⟨⟨c0, c1, c2⟩, -⟩ := hk _ hb1; replace hb := seq hb hb1; clear hb1 hk)
    go_ret
    exact ⟨by rw [Hs'.out]; rfl, hb⟩
  · have hs : firstOf p f o k = 0 := if_neg hok
    rw [code_bad hok] at hc
    have Hs := Lib.hid hs
    have Hc := Lib.hid hc
    clear hok hs hc
    unfold hv at *
    go_enter Try.func19, Try.ntmps19
    go_wp2_with (go_at_call 10; refine (Hc.out).mono ?_; rintro e w1 ⟨rfl, hb1⟩; obtain ⟨⟨c0, c1, c2⟩, -⟩ := hk _ hb1; replace hb := seq hb hb1; clear hb1 hk)
    go_ret
    exact ⟨by rw [Hs.out]; rfl, hb⟩

theorem kind_any (p f o i : Int) (w : World) :
    Calls Try.prog 15 #[hv p f o, .int .i64 i] w fun e w' => e = .returned (.int .i64 (kindOf p f o i)) ∧ Below w.heap.size w w' := by
  have hb := below_new w (hdrBlock p f o)
  have hk := hdr_kept p f o w
  have hc := size_any p f o (w.alloc (hdrBlock p f o))
  unfold hdrBlock at hk hb hc
  by_cases h0 : i < 0
  · have hs : kindOf p f o i = 0 := if_neg (by omega)
    have Hs := Lib.hid hs
    clear hs hc hk
    unfold hv at *
    go_enter Try.func15, Try.ntmps15
    go_wp2
    go_ret
    exact ⟨by rw [Hs.out]; rfl, hb⟩
  by_cases hok : Ok p f o
  · have hz : sizeOf' p f o = 1 + p + f + o := if_pos hok
    rw [hz] at hc
    have hs : kindOf p f o i = if 0 ≤ i ∧ i < p + f + o then (if i < p then 1 else if i < p + f then 2 else 3) else 0 := by unfold kindOf; simp only [hok, true_and]
    have hok' := hok
    unfold Ok at hok'
    obtain ⟨a1, a2, a3, a4, a5, a6, a7⟩ := hok'
    have Hs := Lib.hid hs
    have Hc := Lib.hid hc
    clear hok hs hc hz
    unfold hv at *
    by_cases h1 : i < p + f + o
    · by_cases h2 : i < p
      · have hs : kindOf p f o i = 1 := by rw [Hs.out, if_pos ⟨by omega, by omega⟩, if_pos h2]
        have Hs' := Lib.hid hs
        clear hs Hs
        go_enter Try.func15, Try.ntmps15
        go_wp2_with (go_at_call 12; refine (Hc.out).mono ?_; rintro e w1 ⟨rfl, hb1⟩; obtain ⟨⟨c0, c1, c2⟩, -⟩ := hk _ hb1; replace hb := seq hb hb1; clear hb1 hk)
        go_ret
        exact ⟨by rw [Hs'.out]; rfl, hb⟩
      by_cases h3 : i < p + f
      · have hs : kindOf p f o i = 2 := by rw [Hs.out, if_pos ⟨by omega, by omega⟩, if_neg h2, if_pos h3]
        have Hs' := Lib.hid hs
        clear hs Hs
        go_enter Try.func15, Try.ntmps15
        go_wp2_with (go_at_call 12; refine (Hc.out).mono ?_; rintro e w1 ⟨rfl, hb1⟩; obtain ⟨⟨c0, c1, c2⟩, -⟩ := hk _ hb1; replace hb := seq hb hb1; clear hb1 hk)
        go_ret
        exact ⟨by rw [Hs'.out]; rfl, hb⟩
      · have hs : kindOf p f o i = 3 := by rw [Hs.out, if_pos ⟨by omega, by omega⟩, if_neg h2, if_neg h3]
        have Hs' := Lib.hid hs
        clear hs Hs
        go_enter Try.func15, Try.ntmps15
        go_wp2_with (go_at_call 12; refine (Hc.out).mono ?_; rintro e w1 ⟨rfl, hb1⟩; obtain ⟨⟨c0, c1, c2⟩, -⟩ := hk _ hb1; replace hb := seq hb hb1; clear hb1 hk)
        go_ret
        exact ⟨by rw [Hs'.out]; rfl, hb⟩
    · have hs : kindOf p f o i = 0 := by rw [Hs.out, if_neg (by omega)]
      have Hs' := Lib.hid hs
      clear hs Hs
      go_enter Try.func15, Try.ntmps15
      go_wp2_with (go_at_call 12; refine (Hc.out).mono ?_; rintro e w1 ⟨rfl, hb1⟩; obtain ⟨⟨c0, c1, c2⟩, -⟩ := hk _ hb1; replace hb := seq hb hb1; clear hb1 hk)
      go_ret
      exact ⟨by rw [Hs'.out]; rfl, hb⟩
  · have hz : sizeOf' p f o = 0 := if_neg hok
    rw [hz] at hc
    have hs : kindOf p f o i = 0 := if_neg (fun h => hok h.1)
    have Hs := Lib.hid hs
    have Hc := Lib.hid hc
    clear hok hs hc hz
    unfold hv at *
    go_enter Try.func15, Try.ntmps15
    go_wp2_with (go_at_call 12; refine (Hc.out).mono ?_; rintro e w1 ⟨rfl, hb1⟩; obtain ⟨⟨c0, c1, c2⟩, -⟩ := hk _ hb1; replace hb := seq hb hb1; clear hb1 hk)
    go_ret
    exact ⟨by rw [Hs.out]; rfl, hb⟩
end Go.Proofs.Ytibhlblieeflbaa
