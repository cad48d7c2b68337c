/- The walk of Take. -/
import Derived.Test.YtkcijlndblbidaaFramesFresh
import Derived.Deep.QuietTactic
import Derived.BigQuiet
namespace Go.Proofs.Ytkcijlndblbidaa.Fr
open Go.ChangeShapes Go.WideShapes Go.ChangeAt Go.RowKit
set_option linter.unusedVariables false

/-- the frame that is taken next, and what is left -/
def nextF (s : PS) : Nat := s.bk.getLast?.getD s.n
def freshS (s : PS) : PS := if s.bk = [] then moreS s else dropBack s s.bk.dropLast
def takeS (s : PS) : PS := { freshS s with used := s.used + 1, high := max s.high (s.used + 1), times := s.times + 1, tk := fun i => if i = nextF s then true else (freshS s).tk i, wd := fun g i => if g = nextF s then 0 else (freshS s).wd g i }
theorem fresh_pl (S : Nat → Prop) (b room page : Nat) (s : PS) (w : World) (hP : Pl S b room page s w) (hk : s.ok room page) (hu : s.used < room) :
    Calls Try.prog 147 #[.pointer (some ⟨b, 0, none⟩)] w fun e w' => e = .returned (.int .i64 (nextF s)) ∧ PDid S b room page (freshS s) w w' := by
  unfold nextF freshS
  rcases List.eq_nil_or_concat s.bk with h | ⟨l, f, h⟩
  · rw [if_pos h]
    have hn : s.n < room := by have := hk.used; rw [h] at this; simp at this; omega
    have := fresh_new S b room page s w hP hk h hn
    rw [h]
    exact this
  · rw [List.concat_eq_append] at h
    rw [if_neg (by rw [h]; simp)]
    have := fresh_back S b room page s w hP hk l f h
    rw [h]
    simpa using this
theorem nextF_lt {room page : Nat} {s : PS} (hk : s.ok room page) (hu : s.used < room) : nextF s < (freshS s).n ∧ (freshS s).n ≤ room := by
  unfold nextF freshS
  have hfew := hk.few
  rcases List.eq_nil_or_concat s.bk with h | ⟨l, f, h⟩
  · have hn : s.n < room := by have := hk.used; rw [h] at this; simp at this; omega
    rw [if_pos h, h]
    exact ⟨by show s.n < s.n + 1; omega, by show s.n + 1 ≤ room; omega⟩
  · rw [List.concat_eq_append] at h
    rw [if_neg (by rw [h]; simp), h]
    have := (hk.back f (by rw [h]; simp)).1
    exact ⟨by show _ < s.n; simpa using this, hfew⟩
theorem take_ok {room page : Nat} {s : PS} (hk : s.ok room page) (hu : s.used < room) : (takeS s).ok room page := by
  have hr := hk.room1
  have hfew := hk.few
  have huse := hk.used
  have hh := hk.high
  rcases List.eq_nil_or_concat s.bk with h | ⟨l, f, h⟩
  · have hn : s.n < room := by have := hk.used; rw [h] at this; simp at this; omega
    have hfs : freshS s = moreS s := by unfold freshS; rw [if_pos h]
    have hbk : (takeS s).bk = [] := by show (freshS s).bk = []; rw [hfs]; exact h
    have hnn : (takeS s).n = s.n + 1 := by show (freshS s).n = _; rw [hfs]; rfl
    rw [h] at huse
    simp at huse
    refine ⟨hr, hk.page1, by rw [hnn]; omega, by rw [hbk]; simp, by rw [hbk, hnn]; show s.used + 1 + 0 = _; omega, ?_, by rw [hbk]; simp, by rw [hbk]; simp, ?_⟩
    · show max s.high (s.used + 1) ≤ 4096
      omega
    · intro g i
      show (if g = nextF s then 0 else (freshS s).wd g i) < _
      rw [hfs]
      show (if g = nextF s then 0 else if g = s.n then 0 else s.wd g i) < _
      have := hk.small g i
      split
      · omega
      · split <;> omega
  · rw [List.concat_eq_append] at h
    have hfs : freshS s = dropBack s l := by unfold freshS; rw [if_neg (by rw [h]; simp), h]; simp
    have hbk : (takeS s).bk = l := by show (freshS s).bk = l; rw [hfs]; rfl
    have hnn : (takeS s).n = s.n := by show (freshS s).n = _; rw [hfs]; rfl
    have hnx : nextF s = f := by unfold nextF; rw [h]; simp
    have hlen : s.bk.length = l.length + 1 := by rw [h]; simp
    have hnd := hk.once
    rw [h, List.nodup_append] at hnd
    have hless := hk.less
    refine ⟨hr, hk.page1, by rw [hnn]; exact hfew, by rw [hbk, hnn]; omega, by rw [hbk, hnn]; show s.used + 1 + l.length = _; omega, ?_, ?_, by rw [hbk]; exact hnd.1, ?_⟩
    · show max s.high (s.used + 1) ≤ 4096
      omega
    · intro x hx
      rw [hbk] at hx
      rw [hnn]
      obtain ⟨a, c⟩ := hk.back x (by rw [h]; simp [hx])
      refine ⟨a, ?_⟩
      show (if x = nextF s then true else (freshS s).tk x) = false
      rw [hnx, hfs, if_neg (hnd.2.2 x hx f (by simp))]
      exact c
    · intro g i
      show (if g = nextF s then 0 else (freshS s).wd g i) < _
      rw [hfs]
      have := hk.small g i
      split
      · omega
      · exact this
theorem zero_word (w : World) : (zeroValue 23).run Try.prog w = .ok (.int .u64 0) w := by kernel_rfl
theorem FMem.clear {b room page : Nat} {s : PS} {at_ ab : Option Addr} {cw ct cb g : Nat} {w : World} (h : FMem b room page s (some ⟨g, 0, none⟩) cw at_ ct ab cb w) (f : Nat) (hp : 1 ≤ page) :
    FMem b room page { s with wd := fun g i => if g = f then 0 else s.wd g i } (some ⟨g, 0, none⟩) cw at_ ct ab cb (w.setCells g (f * page) (List.replicate page (.int .u64 0))) := by
  obtain ⟨n1, n2, n3⟩ := h.ne
  have hb : b ≠ g := by have := n1 _ rfl; simp at this; omega
  refine ⟨?_, ?_, ?_, ?_⟩
  · rw [setCells_far hb]; exact h.head
  · refine (h.words.setCells (.int .u64 0) page (f * page)).congr fun j hj => ?_
    show (if f * page ≤ j ∧ j < f * page + page then Value.int .u64 0 else wordV page s j) = .int .u64 ((if j / page = f then 0 else s.wd (j / page) (j % page) : Nat) : Int)
    have key : (f * page ≤ j ∧ j < f * page + page) ↔ j / page = f := by
      constructor
      · rintro ⟨h1, h2⟩
        have a := (Nat.le_div_iff_mul_le (show 0 < page by omega)).2 h1
        have c := (Nat.div_lt_iff_lt_mul (show 0 < page by omega)).2 (show j < (f + 1) * page by rw [Nat.add_mul]; omega)
        omega
      · rintro rfl
        have a := Nat.div_add_mod' j page
        have c := Nat.mod_lt j (show 0 < page by omega)
        omega
    by_cases e : j / page = f
    · rw [if_pos (key.2 e), if_pos e]; rfl
    · rw [if_neg (fun k => e (key.1 k)), if_neg e]; rfl
  · exact h.taken.from fun k hk => setCells_far (h.taken.unlike h.words word_bool.symm hk rfl) _ _ _
  · exact h.back.from fun k hk => setCells_far (h.back.unlike h.words word_int.symm hk rfl) _ _ _
/-- the run of clear at a frame -/
theorem clear_run {b room page : Nat} {s : PS} {at_ ab : Option Addr} {cw ct cb g : Nat} {w : World} (h : FMem b room page s (some ⟨g, 0, none⟩) cw at_ ct ab cb w) (f : Nat) (hf : f < s.n) (hp : 1 ≤ page) (ty : TypeId) :
    (Builtin.clear_ #[69] ty #[.slice (some ⟨g, f * page, none⟩) page page]).run Try.prog w = .ok (.tuple #[]) (w.setCells g (f * page) (List.replicate page (.int .u64 0))) :=
  Lib.run_clear_slice w 69 23 ty (.int .u64 0) Try.underlying69 zero_word rfl rfl g (f * page) page page (by omega)
    (fun j hj => by
      have := h.words.cell (word_index hf hj)
      rw [this]; rfl)
    (fun j hj => h.words.free _)
end Go.Proofs.Ytkcijlndblbidaa.Fr
