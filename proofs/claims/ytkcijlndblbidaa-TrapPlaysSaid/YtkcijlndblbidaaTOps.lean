/- The walks of a piece of work's Fail, Throw, Stores, Load, Store. -/
import Derived.Test.YtkcijlndblbidaaTMem
namespace Go.Proofs.Ytkcijlndblbidaa
open Go.ChangeShapes Go.WideShapes Go.ChangeAt Go.RowKit
set_option linter.unusedVariables false

/-- a fault that is thrown -/
def faultV (e a : Int) : Value := .agg #[.int .i64 e, .int .i64 a]
def thrownV (e a : Int) : Value := .iface 188 (.agg #[.int .i64 e, .int .i64 a])
theorem space_eql (a : Addr) (w : World) : (binOp .eql 183 (.iface 26 (.pointer (some a))) .nilIface).run Try.prog w = .ok (.bool false) w := by kernel_rfl
theorem load_at (a : Addr) (w : World) : (method 355 26 (.pointer (some a)) "Load").run Try.prog w = .ok (24, .pointer (some a)) w := by kernel_rfl
theorem store_at (a : Addr) (w : World) : (method 355 26 (.pointer (some a)) "Store").run Try.prog w = .ok (19, .pointer (some a)) w := by kernel_rfl
theorem store_nil (a : Addr) (w : World) : (nilAhead 355 26 (.pointer (some a)) "Store").run Try.prog w = .ok (some false) w := by kernel_rfl
theorem load_nil (a : Addr) (w : World) : (nilAhead 355 26 (.pointer (some a)) "Load").run Try.prog w = .ok (some false) w := by kernel_rfl
section
variable {W0 : World} {m wk n t t' : Nat} {g g' : Nat → Nat} {l : List (Nat × Nat)} {K K' : List (Nat × Obj)} {w w' : World}
theorem fail_tw (h : TW W0 m wk n t g l K w) (e a : Int) :
    Calls Try.prog 59 #[.pointer (some ⟨wk, 0, none⟩), .int .i64 e, .int .i64 a] w fun E w' => E = .panicked [{ v := thrownV e a, recovered := false }] ∧ w' = w := by
  have c0 := h.space
  have he := space_eql ⟨m, 0, none⟩
  clear h
  go_enter Try.func59, Try.ntmps59
  go_wp2
  exact ⟨rfl, rfl, rfl⟩
theorem stores_tw (h : TW W0 m wk n t g l K w) :
    Calls Try.prog 58 #[.pointer (some ⟨wk, 0, none⟩)] w fun E w' => E = .returned (.int .i64 l.length) ∧ w' = w := by
  obtain ⟨al, cap, c1⟩ := h.log
  clear h
  go_enter Try.func58, Try.ntmps58
  go_wp2
  go_ret
  exact ⟨rfl, rfl⟩
set_option maxRecDepth 100000 in
theorem load_tw (h : TW W0 m wk n t g l K w) (a : Int) (ha : inG n a = true) :
    Calls Try.prog 65 #[.pointer (some ⟨wk, 0, none⟩), .int .i64 a] w fun E w' => E = .returned (.int .u64 (g a.toNat)) ∧ TW W0 m wk n t g l K w' := by
  have c0 := h.space
  have he := space_eql ⟨m, 0, none⟩
  have hl := load_at ⟨m, 0, none⟩
  have HM := h.loadM a
  rw [ha] at HM
  simp only [if_true] at HM
  replace HM := Lib.hid HM
  clear h
  go_enter Try.func65, Try.ntmps65
  go_wp2_with (go_at_call 24; refine HM.out.mono ?_; rintro E w1 ⟨rfl, k1⟩; replace k1 := Lib.hid k1)
  go_ret
  exact ⟨rfl, k1.out⟩
set_option maxRecDepth 100000 in
theorem load_out (h : TW W0 m wk n t g l K w) (a : Int) (ha : inG n a = false) :
    Calls Try.prog 65 #[.pointer (some ⟨wk, 0, none⟩), .int .i64 a] w fun E w' => E = .panicked [{ v := thrownV 11 a, recovered := false }] ∧ TW W0 m wk n t g l K w' := by
  have c0 := h.space
  have he := space_eql ⟨m, 0, none⟩
  have hl := load_at ⟨m, 0, none⟩
  have HM := h.loadM a
  rw [ha] at HM
  simp only [Bool.false_eq_true, if_false] at HM
  replace HM := Lib.hid HM
  clear h
  go_enter Try.func65, Try.ntmps65
  go_wp2_with (first | (go_at_call 24; refine HM.out.mono ?_; rintro E w1 ⟨rfl, k1⟩; replace k1 := Lib.hid k1) | (go_at_call 59; refine (fail_tw k1.out _ _).mono ?_; rintro E w2 ⟨rfl, rfl⟩))
  exact ⟨rfl, rfl, k1.out⟩
theorem old_info : (Try.prog.info? 190).map (fun i => (i.zero, i.size, i.bytes)) = some (some (.agg #[.int .i64 0, .int .u64 0]), 2, 16) := by kernel_rfl
theorem TW.many' (h : TW W0 m wk n t g l K w) : (l.length : Int) ≤ 9223372036854775807 := by
  have := h.many
  unfold maxLen at this
  omega
set_option maxRecDepth 100000 in
theorem store_out (h : TW W0 m wk n t g l K w) (a x : Int) (ha : inG n a = false) :
    Calls Try.prog 63 #[.pointer (some ⟨wk, 0, none⟩), .int .i64 a, .int .u64 x] w fun E w' => E = .panicked [{ v := thrownV 11 a, recovered := false }] ∧ TW W0 m wk n t g l K w' := by
  have c0 := h.space
  have he := space_eql ⟨m, 0, none⟩
  have HL := Lib.hid (load_out h a ha)
  clear h
  go_enter Try.func63, Try.ntmps63
  go_wp2_with (first | (go_at_call 65; refine HL.out.mono ?_; rintro E w1 ⟨rfl, k1⟩; replace k1 := Lib.hid k1))
  exact ⟨rfl, rfl, k1.out⟩
set_option maxRecDepth 100000 in
theorem store_tw (h : TW W0 m wk n t g l K w) (a : Int) (x : Nat) (hx : x < 18446744073709551616) (ha : inG n a = true) (hg : g a.toNat < 18446744073709551616) (hl : l.length ≤ 1000000) :
    Calls Try.prog 63 #[.pointer (some ⟨wk, 0, none⟩), .int .i64 a, .int .u64 x] w fun E w' => E = .returned (.tuple #[]) ∧ TW W0 m wk n t (putG g a.toNat x) (l ++ [(a.toNat, g a.toNat)]) K w' := by
  have c0 := h.space
  have he := space_eql ⟨m, 0, none⟩
  have hs := store_at ⟨m, 0, none⟩
  have HL := Lib.hid (load_tw h a ha)
  have HS := Lib.hid (fun W (hW : TW W0 m wk n t g l K W) => by have := hW.storeM a x hx; rw [ha] at this; simpa only [if_true] using this)
  obtain ⟨i1, hj, hy0, hy1, hy2⟩ := info_parts old_info
  have hA := inG_true ha
  clear h
  go_enter Try.func63, Try.ntmps63
  go_wp2_with (first | (go_at_call 65; refine HL.out.mono ?_; rintro E w1 ⟨rfl, k1⟩; have c0 := k1.space; replace k1 := Lib.hid k1) | (go_at_call 19; refine (HS.out _ k1.out).mono ?_; rintro E w2 ⟨rfl, k2⟩; obtain ⟨al, cap, S, v, k2⟩ := k2; have c1 := at_cell k2.head 1 _ rfl; have hlow := k2.below.size; replace k2 := Lib.hid k2) | (at_builtin; refine wpList_append_lies _ rfl (.tmp 37) (.tmp 41) 184 rfl W0.heap.size 190 i1 (.agg #[.int .i64 0, .int .u64 0]) 2 16 Try.underlying184 hj hy0 hy1 hy2 rfl (by decide) _ _ _ rfl (World.ownsRow.alloc k2.out.row _) ⟨w2.heap.size, 0, none⟩ 1 1 [.int .i64 a, .int .u64 (g a.toNat)] rfl rfl ?k1 ?k2 ?k3 ?k4 ?k5 ?k6 (w2.heap.size + 1) ?k7 ?_))
  case k1 => exact World.news_of_block (heap_alloc_new w2 (.cells #[.int .i64 a, .int .u64 (g a.toNat)] 190))
  case k2 => intro u hu; simp at hu; rcases hu with rfl | rfl <;> rfl
  case k3 => omega
  case k4 => unfold maxLen; omega
  case k5 => omega
  case k6 => simp; omega
  case k7 => simp
  intro g5 cap5 w5 hown5 hgrow5 hat5 hlt5
  have hh5 := k2.out.head5 hgrow5
  have f1 := at_cell hh5 0 _ rfl
  have f2 := at_free hh5 0
  have f3 := at_cell hh5 1 _ rfl
  have f4 := at_free hh5 1
  have ea : ((a.toNat : Nat) : Int) = a := by omega
  have HN5 := Lib.hid (k2.out.push (a.toNat, g a.toNat) ⟨by simp only []; omega, hg⟩ (by simpa only [ea] using hown5) (by simpa only [ea] using hgrow5) hat5)
  clear hown5 hgrow5 hat5 hh5 ea
  go_wp2
  go_end0
  exact ⟨rfl, HN5.out⟩
end
end Go.Proofs.Ytkcijlndblbidaa
