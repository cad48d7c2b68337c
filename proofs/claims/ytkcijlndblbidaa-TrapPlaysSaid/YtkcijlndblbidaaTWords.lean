/- The words of a memory, read into a row. -/
import Derived.Test.YtkcijlndblbidaaTFresh
namespace Go.Proofs.Ytkcijlndblbidaa
open Go.ChangeShapes Go.WideShapes Go.ChangeAt Go.RowKit
set_option linter.unusedVariables false

/-- a full memory, and a row of k words beside it, whose block stays too -/
def RW (W0 : World) (m n t : Nat) (g f : Nat → Nat) (K : List (Nat × Obj)) (k : Nat) (al : Option Addr) (cap : Nat) (w : World) : Prop :=
  ∃ S v, Vm S m n 1 n t v w ∧ (∀ p, p < n → v.mp p = true ∧ v.wd p = g p) ∧ Fr.Up W0.heap.size S ∧ Below W0.heap.size W0 w ∧ (∀ x ∈ K, ¬ S x.1 ∧ w.heap[x.1]? = some x.2) ∧
    OwnF W0.heap.size 23 (.slice al k cap) k (fun p => .int .u64 (f p)) w ∧ ∀ ad, al = some ad → ¬ S ad.block ∧ ∀ x ∈ K, x.1 ≠ ad.block
section
variable {W0 : World} {m n t k : Nat} {g f : Nat → Nat} {K : List (Nat × Obj)} {al : Option Addr} {cap : Nat} {w w' : World}
theorem RW.none (h : FK W0 m n t g K w) : RW W0 m n t g f K 0 none 0 w := by
  obtain ⟨v, ⟨S, h1, h2, h3, h4⟩, hv⟩ := h
  exact ⟨S, v, h1, hv, h2, h3, h4, OwnF.nil _ _ _ _, fun ad e => by cases e⟩
theorem RW.full (h : RW W0 m n t g f K k al cap w) : FK W0 m n t g K w := by
  obtain ⟨S, v, h1, hv, h2, h3, h4, h5, h6⟩ := h
  exact ⟨v, ⟨S, h1, h2, h3, h4⟩, hv⟩
theorem ftab_succ (k : Nat) (f : Nat → Value) : ftab (k + 1) f = ftab k f ++ [f k] := by simp [ftab, List.range_succ]
theorem RW.row (h : RW W0 m n t g f K k al cap w) : OwnF W0.heap.size 23 (.slice al k cap) k (fun p => .int .u64 (f p)) w := by
  obtain ⟨S, v, h1, hv, h2, h3, h4, h5, h6⟩ := h
  exact h5
theorem RW.grow (h : RW W0 m n t g f K k al cap w) (c : Below w.heap.size w w') : RW W0 m n t g f K k al cap w' := by
  obtain ⟨S, v, h1, hv, h2, h3, h4, h5, h6⟩ := h
  exact ⟨S, v, h1.grow c, hv, h2, h3.trans (c.mono h3.size), fun x hx => ⟨(h4 x hx).1, blockB c (Nat.le_refl _) (h4 x hx).2⟩, h5.from fun q hq => c.block q (h5.lt q hq).2, h6⟩
theorem RW.load (h : RW W0 m n t g f K k al cap w) (a : Int) (ha : inG n a = true) :
    Calls Try.prog 24 #[.pointer (some ⟨m, 0, Option.none⟩), .int .i64 a] w fun e w' => e = .returned (.tuple #[.int .u64 (g a.toNat), .int .i64 0]) ∧ RW W0 m n t g f K k al cap w' := by
  obtain ⟨S, v, h1, hv, h2⟩ := id h
  obtain ⟨e1, e2⟩ := loadE_full hv a
  have := load_vm S m n 1 n t v w h1 a
  rw [e1, e2, ha] at this
  exact this.mono fun e w' ⟨he, hb⟩ => ⟨he, h.grow hb⟩
theorem RW.words (h : RW W0 m n t g f K k al cap w) :
    Calls Try.prog 27 #[.pointer (some ⟨m, 0, Option.none⟩)] w fun e w' => e = .returned (.int .i64 n) ∧ RW W0 m n t g f K k al cap w' := by
  obtain ⟨S, v, h1, hv, h2⟩ := id h
  have := words_vm S m n 1 n t v w h1
  exact this.mono fun e w' ⟨he, hb⟩ => ⟨he, by rw [← hb]; exact h⟩
theorem RW.push (h : RW W0 m n t g f K k al cap w) {g5 cap5 : Nat} {w5 : World}
    (hown : w5.ownsRow W0.heap.size 23 1 (.slice (some ⟨g5, 0, Option.none⟩) (k + 1) cap5) (k + 1) (ftab k (fun p => .int .u64 (f p)) ++ [.int .u64 (f k)]))
    (hgrow : (w.alloc (.cells #[.int .u64 (f k)] 23)).grownBy w5 (Value.slice al k cap).ownBlock) (hat : (Value.slice al k cap).ownBlock = some g5 ∨ g5 = w.heap.size + 1) :
    RW W0 m n t g f K (k + 1) (some ⟨g5, 0, Option.none⟩) cap5 w5 := by
  obtain ⟨S, v, h1, hv, h2, h3, h4, h5, h6⟩ := h
  have hsz : w.heap.size + 1 ≤ w5.heap.size := by have := hgrow.size; simpa using this
  have old : ∀ q, q < w.heap.size → some q ≠ (Value.slice al k cap).ownBlock → w5.heap[q]? = w.heap[q]? := fun q hq hn =>
    (hgrow.block q (by simp; omega) hn).trans (Below.heap_alloc w _ q hq)
  have c4 : Chg (fun q => some q = (Value.slice al k cap).ownBlock) w w5 := ⟨hgrow.os, hgrow.tape, hgrow.output, by omega, fun q hq hn => old q hq hn⟩
  have out : ∀ q, some q = (Value.slice al k cap).ownBlock → ¬ S q ∧ ∀ x ∈ K, x.1 ≠ q := fun q hq => by
    obtain ⟨ad, e1, rfl⟩ := own_of_some' hq.symm
    exact h6 ad e1
  refine ⟨S, v, h1.keep c4 (fun q hs hq => (out q hq).1 hs), hv, h2, h3.trans (c4.below (fun q hq => (h5.lt q hq.symm).1) h3.size), fun x hx => ⟨(h4 x hx).1, (old x.1 (block_lt (h4 x hx).2) fun e => (out _ e).2 x hx rfl).trans (h4 x hx).2⟩, ?_, fun ad e => ?_⟩
  · unfold OwnF
    rw [ftab_succ]
    exact hown
  · cases e
    show ¬ S g5 ∧ ∀ x ∈ K, x.1 ≠ g5
    rcases hat with e2 | e2
    · exact out g5 e2.symm
    · refine ⟨fun hs => ?_, fun x hx hxe => ?_⟩
      · have := h1.in g5 hs
        omega
      · have := block_lt (h4 x hx).2
        omega
end
theorem u64_info : (Try.prog.info? 23).map (fun i => (i.zero, i.size, i.bytes)) = some (some (.int .u64 0), 1, 8) := by kernel_rfl
set_option maxRecDepth 100000 in
theorem words_any {W0 : World} {m n t : Nat} {g : Nat → Nat} {K : List (Nat × Obj)} {w : World} (h : FK W0 m n t g K w) :
    Calls Try.prog 49 #[.pointer (some ⟨m, 0, none⟩)] w fun e w' => ∃ al cap, e = .returned (.slice al n cap) ∧ RW W0 m n t g g K n al cap w' := by
  have hn := h.dims
  obtain ⟨i1, hj, hy0, hy1, hy2⟩ := info_parts u64_info
  have H0 := Lib.hid (RW.none (f := g) h)
  have HW := Lib.hid (RW.none (f := g) h).words
  clear h
  go_enter Try.func49, Try.ntmps49
  go_wp2_with (go_at_call 27; refine HW.out.mono ?_; rintro e w1 ⟨rfl, h1⟩; replace h1 := Lib.hid h1)
  clear HW H0
  go_loopw [3, 9] (fun r i wr => ∃ (k : Nat) (al : Option Addr) (cap : Nat), r = .slice al k cap ∧ i = .int .i64 k ∧ k ≤ n ∧ RW W0 m n t g g K k al cap wr) (fun _ i _ => n - (intOf i).toNat)
  case atStart => exact ⟨0, none, 0, rfl, rfl, by omega, h1.out⟩
  case round =>
    clear h1
    obtain ⟨k, al, cap, rfl, rfl, hk, hR⟩ := hrel
    by_cases hlt : k < n
    · have hin : inG n (k : Int) = true := by simp [inG]; omega
      have hl := hR.load k hin
      simp only [Int.toNat_natCast] at hl
      have HL := Lib.hid hl
      have hW0 := hR.full.below.size
      have k1 : (k : Int) < n := by omega
      have k2 : (k : Int) ≤ 4096 := by omega
      clear hl hR hin
      go_wp2_with (first | (go_at_call 24; refine HL.out.mono ?_; rintro e w3 ⟨rfl, h3⟩; have hlow := h3.full.below.size; replace h3 := Lib.hid h3) | (at_builtin; refine wpList_append_lies _ rfl (.tmp 18) (.tmp 20) 69 rfl W0.heap.size 23 i1 (.int .u64 0) 1 8 Try.underlying69 hj hy0 hy1 hy2 rfl (by decide) _ _ _ rfl (World.ownsRow.alloc (h3.out.row) _) ⟨w3.heap.size, 0, none⟩ 1 1 [.int .u64 (g k)] rfl rfl ?k1 ?k2 ?k3 ?k4 ?k5 ?k6 (w3.heap.size + 1) ?k7 ?_))
      case k1 => exact World.news_of_block (heap_alloc_new w3 (.cells #[.int .u64 (g k)] 23))
      case k2 => intro u hu; simp at hu; subst hu; rfl
      case k3 => omega
      case k4 => unfold maxLen; omega
      case k5 => omega
      case k6 => simp; omega
      case k7 => simp
      intro g5 cap5 w5 hown5 hgrow5 hat5 hlt5
      have HN5 := Lib.hid (h3.out.push hown5 hgrow5 hat5)
      clear hown5 hgrow5 hat5
      go_wp2
      go_roundw
      case rel => exact ⟨k + 1, _, _, rfl, by go_num, by omega, HN5.out⟩
      case measure => simp [intOf]; omega
    · obtain rfl : k = n := by omega
      have HR := Lib.hid hR
      clear hR
      go_wp2
      go_ret
      exact ⟨al, cap, rfl, HR.out⟩
end Go.Proofs.Ytkcijlndblbidaa
