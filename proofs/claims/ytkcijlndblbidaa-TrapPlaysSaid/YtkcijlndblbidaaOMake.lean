/- Objects in a full memory: Make. -/
import Derived.Test.YtkcijlndblbidaaOFld
namespace Go.Proofs.Ytkcijlndblbidaa
open Go.ChangeShapes Go.WideShapes Go.ChangeAt Go.RowKit
set_option linter.unusedVariables false

/-- a log tells what undoes the words that came of others -/
def Logs (g : Nat → Nat) (l : List (Nat × Nat)) (g' : Nat → Nat) (l' : List (Nat × Nat)) : Prop := ∃ ext, l' = l ++ ext ∧ ∀ b, undoG g' ext b = g b
theorem undoG_congr {g h : Nat → Nat} (hh : ∀ b, g b = h b) (l : List (Nat × Nat)) (b : Nat) : undoG g l b = undoG h l b := by
  induction l generalizing b with
  | nil => exact hh b
  | cons e es ih =>
    show putG (undoG g es) e.1 e.2 b = putG (undoG h es) e.1 e.2 b
    unfold putG
    split
    · rfl
    · exact ih b
theorem Logs.refl (g : Nat → Nat) (l : List (Nat × Nat)) : Logs g l g l := ⟨[], by simp, fun b => rfl⟩
theorem Logs.store {g g1 : Nat → Nat} {l l1 : List (Nat × Nat)} (h : Logs g l g1 l1) (a x : Nat) : Logs g l (putG g1 a x) (l1 ++ [(a, g1 a)]) := by
  obtain ⟨ext, h1, h2⟩ := h
  refine ⟨ext ++ [(a, g1 a)], by rw [h1, List.append_assoc], fun b => ?_⟩
  rw [← h2 b]
  show List.foldr (fun e h => putG h e.1 e.2) (putG g1 a x) (ext ++ [(a, g1 a)]) b = _
  rw [List.foldr_append]
  refine undoG_congr (fun c => ?_) ext b
  show putG (putG g1 a x) a (g1 a) c = g1 c
  unfold putG
  split
  · rename_i e; rw [e]
  · rfl
theorem Logs.undone {g g' : Nat → Nat} {l l' : List (Nat × Nat)} (h : Logs g l g' l') : (∀ b, undoG g' (l'.drop l.length) b = g b) ∧ l'.take l.length = l ∧ l.length ≤ l'.length := by
  obtain ⟨ext, rfl, h2⟩ := h
  refine ⟨fun b => ?_, by simp, by simp⟩
  rw [List.drop_left]
  exact h2 b
/-- an object that was made -/
def mkG (g : Nat → Nat) (a x s : Nat) : Nat → Nat := fun b => if b = a then x else if a < b ∧ b ≤ a + s then 0 else g b
theorem mkG_zero (g : Nat → Nat) (a x : Nat) : mkG g a x 0 = putG g a x := by
  funext b
  unfold mkG putG
  split
  · rfl
  · rw [if_neg (by omega)]
theorem mkG_succ (g : Nat → Nat) (a x s : Nat) : mkG g a x (s + 1) = putG (mkG g a x s) (a + 1 + s) 0 := by
  funext b
  show (if b = a then x else if a < b ∧ b ≤ a + (s + 1) then 0 else g b) = if b = a + 1 + s then 0 else if b = a then x else if a < b ∧ b ≤ a + s then 0 else g b
  by_cases h1 : b = a
  · rw [if_pos h1, if_neg (by omega), if_pos h1]
  · rw [if_neg h1, if_neg h1]
    by_cases h2 : b = a + 1 + s
    · rw [if_pos h2, if_pos (by omega)]
    · rw [if_neg h2]
      by_cases h3 : a < b ∧ b ≤ a + s
      · rw [if_pos h3, if_pos (by omega)]
      · rw [if_neg h3, if_neg (by omega)]
theorem mkG_small {n : Nat} {g : Nat → Nat} (h : Small n g) {a x s : Nat} (hx : x < 18446744073709551616) : Small n (mkG g a x s) := fun b hb => by
  unfold mkG
  split
  · exact hx
  · split
    · omega
    · exact h b hb
theorem mem_swap3 (a b c : Nat × Obj) (K : List (Nat × Obj)) : ∀ x ∈ K ++ [a, b, c], x ∈ a :: b :: c :: K := by
  intro x hx
  simp only [List.mem_append, List.mem_cons, List.not_mem_nil, or_false] at hx ⊢
  rcases hx with h | h | h | h
  · exact .inr (.inr (.inr h))
  · exact .inl h
  · exact .inr (.inl h)
  · exact .inr (.inr (.inl h))
section
variable {W0 : World} {m wk n t b4 b5 b7 a x p f o : Nat} {g : Nat → Nat} {K : List (Nat × Obj)} {w : World}
theorem make1_enter (args : Array Value) (w : World) : (callFunc 134 args).run Try.prog w = .ok (.enter 134 args) w := by
  kernel_rfl
def makeEnd (n a s : Nat) : Ending := if a + s < n then .returned (.tuple #[]) else .panicked [{ v := thrownV 11 (n : Int), recovered := false }]
set_option maxRecDepth 100000 in
theorem make1_far (h4 : (b4, .cells #[.int .i64 a] 3 (0, 0)) ∈ K) (h7 : (b7, .cells #[.int .u64 x] 23 (0, 0)) ∈ K) (hK : ∀ x ∈ K, ∀ cs, x.2 ≠ .cells cs 83 (0, 0)) (ha : n ≤ a) :
    Does W0 m wk n t 134 #[.pointer (some ⟨b4, 0, none⟩), .pointer (some ⟨b7, 0, none⟩), .pointer (some ⟨b5, 0, none⟩)] g [] K (.panicked [{ v := thrownV 11 a, recovered := false }]) (fun g' l' K' => g' = g ∧ l' = [] ∧ K' = K) := by
  intro E W h
  have e0 : (#[Value.pointer (some ⟨wk, 0, none⟩)] ++ #[Value.pointer (some ⟨b4, 0, none⟩), .pointer (some ⟨b7, 0, none⟩), .pointer (some ⟨b5, 0, none⟩)]) = #[.pointer (some ⟨wk, 0, none⟩), .pointer (some ⟨b4, 0, none⟩), .pointer (some ⟨b7, 0, none⟩), .pointer (some ⟨b5, 0, none⟩)] := rfl
  rw [e0]
  clear e0
  have c4 := at_cell (h.block (List.mem_append_right _ h4)) 0 _ rfl
  have c7 := at_cell (h.block (List.mem_append_right _ h7)) 0 _ rfl
  have HS := Lib.hid (store_out h (a : Int) x (by simp [inG]; omega))
  have HK := Lib.hid hK
  clear h h4 h7 hK
  go_enter Try.func134, Try.ntmps134
  go_wp2_with (go_at_call 63; refine HS.out.mono ?_; rintro e w5 ⟨rfl, h5⟩; have H5 := Lib.hid h5; clear h5)
  exact ⟨rfl, rfl, g, [], K, ⟨rfl, rfl, rfl⟩, HK.out, H5.out⟩
set_option maxRecDepth 100000 in
theorem make1_does (h4 : (b4, .cells #[.int .i64 a] 3 (0, 0)) ∈ K) (h7 : (b7, .cells #[.int .u64 x] 23 (0, 0)) ∈ K) (h5 : (b5, .cells #[.int .i64 p, .int .i64 f, .int .i64 o] 106 (0, 0)) ∈ K) (hK : ∀ x ∈ K, ∀ cs, x.2 ≠ .cells cs 83 (0, 0))
    (ha : a < n) (hx : x < 18446744073709551616) (hok : Hd.Ok p f o) (hg : Small n g) :
    Does W0 m wk n t 134 #[.pointer (some ⟨b4, 0, none⟩), .pointer (some ⟨b7, 0, none⟩), .pointer (some ⟨b5, 0, none⟩)] g [] K (makeEnd n a (p + f + o)) (fun g' l' K' => Logs g [] g' l' ∧ l'.length ≤ 300 ∧ K' = K ∧ (a + (p + f + o) < n → g' = mkG g a x (p + f + o))) := by
  intro E W h
  have e0 : (#[Value.pointer (some ⟨wk, 0, none⟩)] ++ #[Value.pointer (some ⟨b4, 0, none⟩), .pointer (some ⟨b7, 0, none⟩), .pointer (some ⟨b5, 0, none⟩)]) = #[.pointer (some ⟨wk, 0, none⟩), .pointer (some ⟨b4, 0, none⟩), .pointer (some ⟨b7, 0, none⟩), .pointer (some ⟨b5, 0, none⟩)] := rfl
  rw [e0]
  clear e0
  have hn := h.dims
  obtain ⟨s, hs⟩ : ∃ s, p + f + o = s := ⟨_, rfl⟩
  have hs2 : s ≤ 255 := by unfold Hd.Ok at hok; omega
  have hsz : Hd.sizeOf' p f o = 1 + s := by unfold Hd.sizeOf'; rw [if_pos hok]; omega
  rw [hs]
  have c4 := at_cell (h.block (List.mem_append_right _ h4)) 0 _ rfl
  have c7 := at_cell (h.block (List.mem_append_right _ h7)) 0 _ rfl
  have HS := store_tw h (a : Int) x hx (by simp [inG]; omega) (by rw [Int.toNat_natCast]; exact hg a ha) (by simp)
  rw [Int.toNat_natCast, ← mkG_zero] at HS
  have HST := Lib.hid (fun W (g1 : Nat → Nat) l1 k (hW : TW W0 m wk n t g1 l1 (E ++ K) W) (hg1 : Small n g1) (hk : a + 1 + k < n) (hl : l1.length ≤ 1000) => by
    have := store_tw hW ((a : Int) + 1 + (k : Nat)) 0 (by omega) (by simp [inG]; omega) (by apply hg1; omega) (by omega)
    rw [show ((a : Int) + 1 + (k : Nat)).toNat = a + 1 + k by omega] at this
    exact this)
  have HSO := Lib.hid (fun W (g1 : Nat → Nat) l1 k (hW : TW W0 m wk n t g1 l1 (E ++ K) W) (hk : ¬ a + 1 + k < n) => store_out hW ((a : Int) + 1 + (k : Nat)) 0 (by simp [inG]; omega))
  have HSZ := fun W => Hd.size_any p f o W
  rw [hsz] at HSZ
  unfold Hd.hv at HSZ
  replace HSZ := Lib.hid HSZ
  replace HS := Lib.hid HS
  have HK := Lib.hid hK
  have H45 := Lib.hid (And.intro h4 h5)
  have Hg := Lib.hid hg
  obtain ⟨eE, hE⟩ : ∃ e, makeEnd n a s = e := ⟨_, rfl⟩
  rw [hE]
  have HE := Lib.hid hE
  clear hE
  have a1 : (a : Int) ≤ 4096 := by omega
  have s1 : (s : Int) ≤ 255 := by omega
  clear h h4 h7 h5 hK hok hsz hg
  go_enter Try.func134, Try.ntmps134
  go_wp2_with (first
    | (go_at_call 63; refine HS.out.mono ?_; rintro e w5 ⟨rfl, h5⟩; have q := h5.block (List.mem_append_right _ H45.out.2); have d0 := at_cell q 0 _ rfl; have d1 := at_cell q 1 _ rfl; have d2 := at_cell q 2 _ rfl; have H5 := Lib.hid h5; clear h5 q HS)
    | (go_at_call 91; refine (HSZ.out _).mono ?_; rintro e w6 ⟨rfl, hb⟩; have H6 := Lib.hid (H5.out.grow hb); clear hb))
  clear H5 d0 d1 d2
  go_loopw [13] (fun i wr => ∃ (k : Nat) (l1 : List (Nat × Nat)), i = .int .i64 k ∧ k ≤ s ∧ a + k < n ∧ l1.length = k + 1 ∧ Logs g [] (mkG g a x k) l1 ∧ TW W0 m wk n t (mkG g a x k) l1 (E ++ K) wr) (fun i _ => s - (intOf i).toNat)
  case atStart => exact ⟨0, _, rfl, by omega, by omega, rfl, by rw [mkG_zero]; exact (Logs.refl g []).store a x, H6.out⟩
  case round =>
    clear H6
    obtain ⟨k, l1, rfl, hk, hkn, hl1, hlog, hT⟩ := hrel
    have c4 := at_cell (hT.block (List.mem_append_right _ H45.out.1)) 0 _ rfl
    have Hlog := Lib.hid hlog
    by_cases hlt : k < s
    · by_cases hin : a + 1 + k < n
      · have HST2 := Lib.hid (HST.out _ _ _ k hT (mkG_small Hg.out hx) hin (by omega))
        have k1 : (k : Int) < s := by omega
        have k2 : (0 : Int) ≤ k := by omega
        clear hT hlog
        go_wp2_with (go_at_call 63; refine HST2.out.mono ?_; rintro e w7 ⟨rfl, h7⟩; have H7 := Lib.hid h7; clear h7)
        go_roundw
        case rel => exact ⟨k + 1, l1 ++ [(a + 1 + k, mkG g a x k (a + 1 + k))], by go_num, by omega, by omega, by rw [List.length_append, hl1]; rfl, by rw [mkG_succ]; exact Hlog.out.store _ _, by rw [mkG_succ]; exact H7.out⟩
        case measure => simp [intOf]; omega
      · have HSO2 := HSO.out _ _ _ k hT hin
        have he : (a : Int) + 1 + (k : Nat) = n := by omega
        have he2 : makeEnd n a s = .panicked [{ v := thrownV 11 (n : Int), recovered := false }] := by unfold makeEnd; rw [if_neg (by omega)]
        rw [he] at HSO2
        replace HSO2 := Lib.hid HSO2
        have k1 : (k : Int) < s := by omega
        have k2 : (0 : Int) ≤ k := by omega
        have s2 : IntKind.i64.wrap ((a : Int) + 1) = a + 1 := IntWalk.i64_in _ (by omega)
        have s3 : IntKind.i64.wrap ((a : Int) + 1 + k) = n := by rw [he]; exact IntWalk.i64_in _ (by omega)
        have hnn : ¬ (a + s < n) := by omega
        have Hnn := Lib.hid hnn
        have Hl1 := Lib.hid hl1
        have HE2 := Lib.hid (HE.out.symm.trans he2)
        clear hT hlog he he2 hin hkn hnn hl1
        go_wp2_with (go_at_call 63; refine HSO2.out.mono ?_; rintro e w7 ⟨rfl, h7⟩; have H7 := Lib.hid h7; clear h7)
        exact ⟨rfl, HE2.out.symm, _, _, K, ⟨Hlog.out, by rw [Hl1.out]; omega, rfl, fun h => absurd h Hnn.out⟩, HK.out, H7.out⟩
    · obtain rfl : k = s := by omega
      have he2 : makeEnd n a k = .returned (.tuple #[]) := by unfold makeEnd; rw [if_pos hkn]
      have HE2 := Lib.hid (HE.out.symm.trans he2)
      have HT := Lib.hid hT
      have Hl1 := Lib.hid hl1
      clear hT hlog he2 hl1
      go_wp2
      go_end0
      exact ⟨HE2.out.symm, _, _, K, ⟨Hlog.out, by rw [Hl1.out]; omega, rfl, fun _ => rfl⟩, HK.out, HT.out⟩
/-- the error of an object that is made, and the words behind it -/
def makE (n : Nat) (a p f o : Int) : Int := if a ≤ 0 then 5 else if Hd.Ok p f o then (if a + (p + f + o) < n then 0 else 11) else 15
def makG (n : Nat) (g : Nat → Nat) (a p f o : Int) : Nat → Nat := if makE n a p f o = 0 then mkG g a.toNat (Hd.wordOf p.toNat f.toNat o.toNat) (p + f + o).toNat else g
theorem word_lt (p f o : Nat) (h : Hd.Ok p f o) : Hd.wordOf p f o < 18446744073709551616 := by
  unfold Hd.Ok at h
  unfold Hd.wordOf Hd.low
  omega
theorem makG_small {n : Nat} {g : Nat → Nat} (h : Small n g) (a p f o : Int) : Small n (makG n g a p f o) := by
  unfold makG
  split
  · rename_i h1
    unfold makE at h1
    split at h1
    · omega
    · split at h1
      · rename_i h2
        refine mkG_small h (word_lt _ _ _ ?_)
        unfold Hd.Ok at h2 ⊢
        omega
      · omega
  · exact h
theorem fault_err (x y : Value) (w : World) : (Instr.field 83 (.agg #[x, y]) 0).run Try.prog w = .ok x w := by kernel_rfl
theorem make_run (p f o : Nat) (ha : 0 < a) (hx : x < 18446744073709551616) (hok : Hd.Ok p f o) (hg : Small n g) (h : FK W0 m n t g (K ++ [(b7, .cells #[.int .u64 x] 23 (0, 0)), (b5, .cells #[.int .i64 p, .int .i64 f, .int .i64 o] 106 (0, 0)), (b4, .cells #[.int .i64 a] 3 (0, 0))]) w) :
    Calls Try.prog 52 #[spc m, .func (.func 134) #[] #[.pointer (some ⟨b4, 0, none⟩), .pointer (some ⟨b7, 0, none⟩), .pointer (some ⟨b5, 0, none⟩)]] w fun e' W' => ∃ at_ : Int, e' = .returned (.agg #[.int .i64 (if a + (p + f + o) < n then 0 else 11), .int .i64 at_]) ∧ FK W0 m n t (if a + (p + f + o) < n then mkG g a x (p + f + o) else g) K W' := by
  have hK : ∀ z ∈ [(b7, Obj.cells #[.int .u64 x] 23 (0, 0)), (b5, .cells #[.int .i64 p, .int .i64 f, .int .i64 o] 106 (0, 0)), (b4, .cells #[.int .i64 a] 3 (0, 0))], ∀ cs, z.2 ≠ .cells cs 83 (0, 0) := by
    intro z hz cs e
    simp only [List.mem_cons, List.not_mem_nil, or_false] at hz
    rcases hz with rfl | rfl | rfl <;> simp at e
  have hsub : ∀ {g' : Nat → Nat} {K' : List (Nat × Obj)} {W' : World}, FK W0 m n t g' (K ++ K') W' → FK W0 m n t g' K W' := fun hF => hF.sub fun x hx => List.mem_append_left _ hx
  unfold spc
  by_cases hfar : n ≤ a
  · rw [if_neg (by omega), if_neg (by omega)]
    refine (run_ret (W0 := W0) (m := m) (n := n) (t := t) (g := g) (R := fun g' K' => g' = g) (fun wk E W hW => (part_thrown make1_enter (make1_far (x := x) (b5 := b5) (by simp) (by simp) hK hfar) (fun g' l' K' hr => by rw [hr.2.1]; simp) E W hW).mono fun e' W' ⟨he, g', l', K', hr, hk, hT⟩ => ⟨he, _, _, K', ?_, hk, hT⟩) K w h).mono fun e' W' ⟨he, g', K', hr, hk, hT⟩ => ⟨_, he, ?_⟩
    · rw [hr.1, hr.2.1]; rfl
    · rw [hr] at hT; exact hsub hT
  · have hd := fun wk => make1_does (W0 := W0) (m := m) (wk := wk) (t := t) (b4 := b4) (b5 := b5) (b7 := b7) (K := [(b7, Obj.cells #[.int .u64 x] 23 (0, 0)), (b5, .cells #[.int .i64 p, .int .i64 f, .int .i64 o] 106 (0, 0)), (b4, .cells #[.int .i64 a] 3 (0, 0))]) (by simp) (by simp) (by simp) hK (show a < n by omega) hx hok hg
    by_cases hfit : a + (p + f + o) < n
    · rw [if_pos hfit, if_pos hfit]
      have he2 : makeEnd n a (p + f + o) = .returned (.tuple #[]) := by unfold makeEnd; rw [if_pos hfit]
      rw [he2] at hd
      refine (run_ret (W0 := W0) (m := m) (n := n) (t := t) (g := g) (R := fun g' K' => g' = mkG g a x (p + f + o)) (fun wk E W hW => (part_ok make1_enter (hd wk) E W hW).mono fun e' W' ⟨he, g', l', K', hr, hk, hT⟩ => ⟨he, g', l', K', hr.2.2.2 hfit, hk, hT⟩) K w h).mono fun e' W' ⟨he, g', K', hr, hk, hT⟩ => ⟨_, he, ?_⟩
      rw [hr] at hT
      exact hsub hT
    · rw [if_neg hfit, if_neg hfit]
      have he2 : makeEnd n a (p + f + o) = .panicked [{ v := thrownV 11 (n : Int), recovered := false }] := by unfold makeEnd; rw [if_neg hfit]
      rw [he2] at hd
      refine (run_ret (W0 := W0) (m := m) (n := n) (t := t) (g := g) (R := fun g' K' => ∀ b, g b = g' b) (fun wk E W hW => (part_thrown make1_enter (hd wk) (fun g' l' K' hr => ⟨by simp, by have := hr.2.1; omega⟩) E W hW).mono fun e' W' ⟨he, g', l', K', hr, hk, hT⟩ => ⟨he, _, _, K', fun b => (hr.1.undone.1 b).symm, hk, hT⟩) K w h).mono fun e' W' ⟨he, g', K', hr, hk, hT⟩ => ⟨_, he, ?_⟩
      exact hsub (hT.same fun p _ => hr p)
set_option maxRecDepth 100000 in
theorem make_fk (h : FK W0 m n t g K w) (hg : Small n g) (a p f o : Int) :
    Calls Try.prog 81 #[spc m, .int .i64 a, Hd.hv p f o] w fun e w' => e = .returned (.int .i64 (makE n a p f o)) ∧ FK W0 m n t (makG n g a p f o) K w' := by
  have hmf : ∀ (fn : Fn) (first cap : Array Value) (w : World), (Instr.makeFunc fn first cap).run Try.prog w = .ok (.func fn first cap) w := fun _ _ _ _ => rfl
  have hfe : ∀ (x y : Int) (w : World), (Instr.field 83 (.agg #[.int .i64 x, .int .i64 y]) 0).run Try.prog w = .ok (.int .i64 x) w := fun x y w => fault_err _ _ w
  unfold makG
  by_cases h0 : a ≤ 0
  · have he : makE n a p f o = 5 := by unfold makE; rw [if_pos h0]
    rw [he, if_neg (by omega)]
    have H := Lib.hid ((h.box #[.int .i64 a] 3).box #[.int .i64 p, .int .i64 f, .int .i64 o] 106).tail.tail
    clear h he
    unfold spc Hd.hv
    go_enter Try.func81, Try.ntmps81
    go_wp2
    go_ret
    exact ⟨rfl, H.out⟩
  · by_cases hok : Hd.Ok p f o
    · obtain ⟨pn, fn, on, rfl, rfl, rfl⟩ := Hd.ok_nat hok
      obtain ⟨an, rfl⟩ : ∃ an : Nat, a = an := ⟨a.toNat, by omega⟩
      have he : makE n an pn fn on = if an + (pn + fn + on) < n then 0 else 11 := by
        unfold makE
        rw [if_neg h0, if_pos hok]
        by_cases hf : an + (pn + fn + on) < n
        · rw [if_pos (by omega), if_pos hf]
        · rw [if_neg (by omega), if_neg hf]
      have hP := fun W => Hd.put_yes pn fn on W hok
      have hR := fun (b5 b4 b7 : Nat) (w : World) h => make_run (b5 := b5) (b4 := b4) (b7 := b7) (W0 := W0) (m := m) (t := t) (w := w) (K := K) (g := g) pn fn on (show 0 < an by omega) (word_lt pn fn on hok) hok hg h
      have hgo : (if makE n (an : Int) pn fn on = 0 then mkG g (an : Int).toNat (Hd.wordOf (pn : Int).toNat (fn : Int).toNat (on : Int).toNat) ((pn : Int) + fn + on).toNat else g) = (if an + (pn + fn + on) < n then mkG g an (Hd.wordOf pn fn on) (pn + fn + on) else g) := by
        rw [he]
        by_cases hf : an + (pn + fn + on) < n
        · rw [if_pos hf, if_pos rfl, if_pos hf]
          simp only [Int.toNat_natCast]
          rw [show ((pn : Int) + fn + on).toNat = pn + fn + on by omega]
        · rw [if_neg hf, if_neg (by omega), if_neg hf]
      rw [hgo, he]
      generalize Hd.wordOf pn fn on = wd at *
      generalize (if an + (pn + fn + on) < n then mkG g an wd (pn + fn + on) else g) = gE at *
      generalize (if an + (pn + fn + on) < n then (0 : Int) else 11) = er at *
      have hB := (h.box #[.int .i64 an] 3).box #[.int .i64 pn, .int .i64 fn, .int .i64 on] 106
      rw [heap_size_alloc] at hB
      have HB := Lib.hid hB
      have HR := Lib.hid hR
      unfold Hd.hv at hP
      have HP := Lib.hid hP
      have a1 : (0 : Int) < an := by omega
      clear h hB hR hP he hgo hok h0
      unfold spc Hd.hv at *
      go_enter Try.func81, Try.ntmps81
      go_wp2_with (first
        | (go_at_call 133; refine (HP.out _).mono ?_; rintro e w1 ⟨rfl, hb⟩; have H1 := Lib.hid ((HB.out.grow hb).box #[.int .u64 wd] 23); clear hb)
        | (go_at_call 52; refine (HR.out _ _ _ _ (H1.out.sub (mem_swap3 _ _ _ _))).mono ?_; rintro e w2 ⟨at_, rfl, h2⟩; have H2 := Lib.hid h2; clear h2))
      go_ret
      exact ⟨rfl, H2.out⟩
    · have he : makE n a p f o = 15 := by unfold makE; rw [if_neg h0, if_neg hok]
      rw [he, if_neg (by omega)]
      have hP := fun W => Hd.put_no p f o W hok
      have HB := Lib.hid ((h.box #[.int .i64 a] 3).box #[.int .i64 p, .int .i64 f, .int .i64 o] 106).tail.tail
      have h1 : 0 < a := by omega
      unfold Hd.hv at hP
      have HP := Lib.hid hP
      clear h he hP hok h0
      unfold spc Hd.hv
      go_enter Try.func81, Try.ntmps81
      go_wp2_with (first
        | (go_at_call 133; refine (HP.out _).mono ?_; rintro e w1 ⟨rfl, hb⟩; have H1 := Lib.hid (((HB.out.grow hb).box #[.int .u64 0] 23).tail); clear hb))
      go_ret
      exact ⟨rfl, H1.out⟩
end
end Go.Proofs.Ytkcijlndblbidaa
