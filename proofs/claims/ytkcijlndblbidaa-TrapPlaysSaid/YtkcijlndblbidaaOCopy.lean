/- Objects in a full memory: Copy. -/
import Derived.Test.YtkcijlndblbidaaOMake
import Derived.Test.YtkcijlndblbidaaTSame
import Derived.Laws.MakeOwn
namespace Go.Proofs.Ytkcijlndblbidaa
open Go.ChangeShapes Go.WideShapes Go.ChangeAt Go.RowKit
set_option linter.unusedVariables false

def zerosU (n : Nat) : Array Value := (List.replicate n (Value.int .u64 0)).toArray
theorem made_words (n : Nat) : madeCells (Value.int .u64 0).cells (n * 1) = zerosU n := by
  apply Array.toList_inj.1
  rw [Nat.mul_one]
  show (madeCells #[Value.int .u64 0] n).toList = _
  rw [toList_madeCells_one]
  simp [zerosU]
theorem zerosU_cells (n : Nat) : UCells n (fun _ => 0) (zerosU n) := fun i hi => by
  unfold zerosU
  simp [hi]
/-- the words from a on, copied to b on -/
def cpyG (g : Nat → Nat) (a b k : Nat) : Nat → Nat := fun c => if b ≤ c ∧ c < b + k then g (a + (c - b)) else g c
theorem cpyG_zero (g : Nat → Nat) (a b : Nat) : cpyG g a b 0 = g := by
  funext c
  unfold cpyG
  rw [if_neg (by omega)]
theorem cpyG_succ (g : Nat → Nat) (a b k : Nat) : cpyG g a b (k + 1) = putG (cpyG g a b k) (b + k) (g (a + k)) := by
  funext c
  show (if b ≤ c ∧ c < b + (k + 1) then g (a + (c - b)) else g c) = if c = b + k then g (a + k) else if b ≤ c ∧ c < b + k then g (a + (c - b)) else g c
  by_cases h1 : c = b + k
  · rw [if_pos h1, if_pos (by omega)]
    congr 1
    omega
  · rw [if_neg h1]
    by_cases h2 : b ≤ c ∧ c < b + k
    · rw [if_pos h2, if_pos (by omega)]
    · rw [if_neg h2, if_neg (by omega)]
theorem cpyG_small {n : Nat} {g : Nat → Nat} (h : Small n g) {a b k : Nat} (hk : a + k ≤ n) : Small n (cpyG g a b k) := fun c hc => by
  unfold cpyG
  split
  · apply h; omega
  · exact h c hc
theorem ucells_set {k : Nat} {f : Nat → Nat} {cur : Array Value} (h : UCells k f cur) (hk : k < cur.size) (x : Nat) (hx : f k = x) : UCells (k + 1) f (cur.setIfInBounds k (.int .u64 x)) := fun i hi => by
  rw [Array.getElem?_setIfInBounds]
  by_cases e : k = i
  · subst e
    rw [if_pos rfl, if_pos hk, hx]
  · rw [if_neg e]
    exact h i (by omega)
/-- how a copy ends -/
def copyEnd (n a b s : Nat) : Ending := if a + s < n then (if b + s < n then .returned (.tuple #[]) else .panicked [{ v := thrownV 11 (if b < n then (n : Int) else b), recovered := false }]) else .panicked [{ v := thrownV 11 (n : Int), recovered := false }]
section
variable {W0 : World} {m wk n t b4 b5 b7 a b p f o : Nat} {g : Nat → Nat} {l : List (Nat × Nat)} {K : List (Nat × Obj)} {w : World}
theorem copy1_enter (args : Array Value) (w : World) : (callFunc 138 args).run Try.prog w = .ok (.enter 138 args) w := by
  kernel_rfl
theorem TW.older (h : TW W0 m wk n t g l K w) : ∀ x ∈ K, x.1 < w.heap.size := fun x hx => block_lt (h.block (o := x.2) (X := x.1) hx)
set_option maxRecDepth 100000 in
set_option maxHeartbeats 1000000 in
theorem copy1_does (h4 : (b4, .cells #[.int .i64 a] 3 (0, 0)) ∈ K) (h5 : (b5, .cells #[.int .i64 b] 3 (0, 0)) ∈ K) (h7 : (b7, .cells #[.int .i64 p, .int .i64 f, .int .i64 o] 106 (0, 0)) ∈ K) (hK : ∀ x ∈ K, ∀ cs, x.2 ≠ .cells cs 83 (0, 0))
    (ha : a < n) (hb : b < 9223372036854775808) (hok : Hd.Ok p f o) (hg : Small n g) :
    Does W0 m wk n t 138 #[.pointer (some ⟨b7, 0, none⟩), .pointer (some ⟨b4, 0, none⟩), .pointer (some ⟨b5, 0, none⟩)] g [] K (copyEnd n a b (p + f + o)) (fun g' l' K' => Logs g [] g' l' ∧ l'.length ≤ 300 ∧ K' = K ∧ (a + (p + f + o) < n → b + (p + f + o) < n → g' = cpyG g a b (p + f + o + 1))) := by
  intro E W h
  have e0 : (#[Value.pointer (some ⟨wk, 0, none⟩)] ++ #[Value.pointer (some ⟨b7, 0, none⟩), .pointer (some ⟨b4, 0, none⟩), .pointer (some ⟨b5, 0, none⟩)]) = #[.pointer (some ⟨wk, 0, none⟩), .pointer (some ⟨b7, 0, none⟩), .pointer (some ⟨b4, 0, none⟩), .pointer (some ⟨b5, 0, none⟩)] := rfl
  rw [e0]
  clear e0
  have hn := h.dims
  obtain ⟨s, hs⟩ : ∃ s, p + f + o = s := ⟨_, rfl⟩
  have hs2 : s ≤ 255 := by unfold Hd.Ok at hok; omega
  have hsz : Hd.sizeOf' p f o = (s + 1 : Nat) := by unfold Hd.sizeOf'; rw [if_pos hok]; omega
  rw [hs]
  obtain ⟨z, hz⟩ : ∃ z, s + 1 = z := ⟨_, rfl⟩
  rw [hz] at hsz ⊢
  obtain ⟨eE, hE⟩ : ∃ e, copyEnd n a b s = e := ⟨_, rfl⟩
  rw [hE]
  have HE := Lib.hid hE
  obtain ⟨i0, hi, hz0, hz1, hz2⟩ := info_parts u64_info
  have hmk : ∀ W : World, (Instr.makeSlice 69 (.int .i64 (z : Int)) (.int .i64 (z : Int))).run Try.prog W = .ok (.slice (some ⟨W.heap.size, 0, none⟩) z z) (W.alloc (.cells (zerosU z) 23)) := fun W => by
    have h := run_make (P := Try.prog) W 69 23 i0 (.int .u64 0) Try.underlying69 hi hz0 .i64 .i64 (z : Int) (z : Int) (by omega) (by omega) (by rw [hz2]; omega) (by omega)
    rw [hz1, Int.toNat_natCast, made_words] at h
    exact h
  have q := h.block (List.mem_append_right _ h7)
  have d0 := at_cell q 0 _ rfl
  have d1 := at_cell q 1 _ rfl
  have d2 := at_cell q 2 _ rfl
  have HSZ := fun W => Hd.size_any p f o W
  rw [hsz] at HSZ
  unfold Hd.hv at HSZ
  replace HSZ := Lib.hid HSZ
  have HLD := Lib.hid (fun W (g1 : Nat → Nat) l1 (K1 : List (Nat × Obj)) k (hW : TW W0 m wk n t g1 l1 K1 W) (hk : a + k < n) => by
    have := load_tw hW ((a : Int) + (k : Nat)) (by simp [inG]; omega)
    rw [show ((a : Int) + (k : Nat)).toNat = a + k by omega] at this
    exact this)
  have HLO := Lib.hid (fun W (g1 : Nat → Nat) l1 (K1 : List (Nat × Obj)) k (hW : TW W0 m wk n t g1 l1 K1 W) (hk : ¬ a + k < n) => load_out hW ((a : Int) + (k : Nat)) (by simp [inG]; omega))
  have HST := Lib.hid (fun W (g1 : Nat → Nat) l1 (K1 : List (Nat × Obj)) k x (hW : TW W0 m wk n t g1 l1 K1 W) (hg1 : Small n g1) (hk : b + k < n) (hl : l1.length ≤ 1000) (hx : x < 18446744073709551616) => by
    have := store_tw hW ((b : Int) + (k : Nat)) x hx (by simp [inG]; omega) (by apply hg1; omega) (by omega)
    rw [show ((b : Int) + (k : Nat)).toNat = b + k by omega] at this
    exact this)
  have HSO := Lib.hid (fun W (g1 : Nat → Nat) l1 (K1 : List (Nat × Obj)) k (x : Nat) (hW : TW W0 m wk n t g1 l1 K1 W) (hk : ¬ b + k < n) => store_out hW ((b : Int) + (k : Nat)) x (by simp [inG]; omega))
  have H := Lib.hid h
  have HK := Lib.hid hK
  have H45 := Lib.hid (And.intro h4 h5)
  have Hg := Lib.hid hg
  have a1 : (a : Int) ≤ 4096 := by omega
  have z1 : (z : Int) ≤ 256 := by omega
  have b1 : (b : Int) ≤ 9223372036854775807 := by omega
  clear h h4 h7 h5 hK hok hsz hg q hE
  go_enter Try.func138, Try.ntmps138
  go_wp2_with (first
    | (go_at_call 91; refine (HSZ.out _).mono ?_; rintro e w6 ⟨rfl, hb⟩; have H6 := Lib.hid ((H.out.grow hb).box (zerosU z) 23); have Hold := Lib.hid (H.out.grow hb).older; have HW0 := Lib.hid (H.out.grow hb).below.size; clear hb))
  clear H d0 d1 d2 hmk
  generalize w6.heap.size = bx at *
  go_loopw [14] (fun i wr => ∃ (k : Nat) (cu : Array Value), i = .int .i64 k ∧ k ≤ z ∧ a + k ≤ n ∧ cu.size = z ∧ UCells k (fun j => g (a + j)) cu ∧ TW W0 m wk n t g [] ((bx, .cells cu 23 (0, 0)) :: (E ++ K)) wr) (fun i _ => z - (intOf i).toNat)
  case atStart => exact ⟨0, zerosU z, rfl, by omega, by omega, by simp [zerosU], fun i hi => by omega, H6.out⟩
  case round =>
    clear H6
    obtain ⟨k, cu, rfl, hk, hkn, hcs, hcu, hT⟩ := hrel
    have c4 := at_cell (hT.block (List.mem_cons_of_mem _ (List.mem_append_right _ H45.out.1))) 0 _ rfl
    by_cases hlt : k < z
    · by_cases hin : a + k < n
      · have HL2 := Lib.hid (HLD.out _ _ _ _ k hT hin)
        have hgk : g (a + k) = g (a + k) := rfl
        obtain ⟨y, hy⟩ : ∃ y, g (a + k) = y := ⟨_, rfl⟩
        rw [hy] at HL2
        have Hcu := Lib.hid (ucells_set hcu (by rw [hcs]; exact hlt) y hy)
        have k1 : (k : Int) < z := by omega
        have k2 : (0 : Int) ≤ k := by omega
        have k3 : ((k : Int)).toNat = k := by omega
        have hcz : ∃ v, cu[k]? = some v := ⟨cu[k]'(by omega), Array.getElem?_eq_getElem (by omega)⟩
        obtain ⟨v0, hv0⟩ := hcz
        have Hv0 := Lib.hid hv0
        have Hcs := Lib.hid hcs
        clear hT hcu hgk hy hv0 hcs
        go_wp2_with (go_at_call 65; refine HL2.out.mono ?_; rintro e w7 ⟨rfl, h7⟩; have q := h7.block (List.mem_cons_self ..); have dk := at_cell q k _ Hv0.out; have fk := at_free q k; have H7 := Lib.hid (h7.set HW0.out (fun x hx => by have := Hold.out x hx; omega) k (.int .u64 y)); clear h7 q)
        go_roundw
        case rel => exact ⟨k + 1, _, by go_num, by omega, by omega, by rw [Array.size_setIfInBounds]; exact Hcs.out, Hcu.out, H7.out⟩
        case measure => simp [intOf]; omega
      · have HLO2 := HLO.out _ _ _ _ k hT hin
        have he : (a : Int) + (k : Nat) = n := by omega
        have he2 : copyEnd n a b s = .panicked [{ v := thrownV 11 (n : Int), recovered := false }] := by unfold copyEnd; rw [if_neg (by omega)]
        rw [he] at HLO2
        replace HLO2 := Lib.hid HLO2
        have k1 : (k : Int) < z := by omega
        have k2 : (0 : Int) ≤ k := by omega
        have s3 : IntKind.i64.wrap ((a : Int) + k) = n := by rw [he]; exact IntWalk.i64_in _ (by omega)
        have Hnn := Lib.hid (show ¬ (a + s < n) by omega)
        have HE2 := Lib.hid (HE.out.symm.trans he2)
        clear hT he he2 hin hkn hcu hcs
        go_wp2_with (go_at_call 65; refine HLO2.out.mono ?_; rintro e w7 ⟨rfl, h7⟩; have H7 := Lib.hid h7.tail; clear h7)
        exact ⟨rfl, HE2.out.symm, _, _, K, ⟨Logs.refl _ _, by simp, rfl, fun h => absurd h Hnn.out⟩, HK.out, H7.out⟩
    · obtain rfl : k = z := by omega
      have HT := Lib.hid hT
      have Hcu := Lib.hid hcu
      have Hcs := Lib.hid hcs
      have k1 : ¬ (k : Int) < k := by omega
      clear hT hcu hcs
      go_wp2_with (fail)
      clear c4
      go_loopw [28] (fun i wr => ∃ (j : Nat) (l1 : List (Nat × Nat)), i = .int .i64 j ∧ j ≤ k ∧ (j = 0 ∨ b + j ≤ n) ∧ l1.length = j ∧ Logs g [] (cpyG g a b j) l1 ∧ TW W0 m wk n t (cpyG g a b j) l1 ((bx, .cells cu 23 (0, 0)) :: (E ++ K)) wr) (fun i _ => k - (intOf i).toNat)
      case atStart => exact ⟨0, [], rfl, by omega, .inl rfl, rfl, by rw [cpyG_zero]; exact Logs.refl _ _, by rw [cpyG_zero]; exact HT.out⟩
      case round =>
        clear HT
        obtain ⟨j, l1, rfl, hj, hjn, hl1, hlog, hT⟩ := hrel
        have c5 := at_cell (hT.block (List.mem_cons_of_mem _ (List.mem_append_right _ H45.out.2))) 0 _ rfl
        have Hlog := Lib.hid hlog
        by_cases hlt2 : j < k
        · have hcj := at_cell (hT.block (List.mem_cons_self ..)) j _ (Hcu.out j hlt2)
          have hy : g (a + j) < 18446744073709551616 := Hg.out _ (by omega)
          by_cases hin : b + j < n
          · have HL2 := HST.out _ _ _ _ j (g (a + j)) hT (cpyG_small Hg.out (by omega)) hin (by omega) hy
            have hcs2 := (cpyG_succ g a b j).symm
            obtain ⟨y, hy2⟩ : ∃ y, g (a + j) = y := ⟨_, rfl⟩
            have Hlog2 := Lib.hid (Hlog.out.store (b + j) (g (a + j)))
            rw [hcs2] at HL2 Hlog2
            simp only [hy2] at hcj hy HL2
            have HL3 := Lib.hid HL2
            have k1 : (j : Int) < k := by omega
            have k2 : (0 : Int) ≤ j := by omega
            have k3 : ((j : Int)).toNat = j := by omega
            have k4 : (b : Int) + j ≤ 4096 := by omega
            have Hl1 := Lib.hid hl1
            clear hT hlog hcs2 hy2 HL2 hl1
            go_wp2_with (go_at_call 63; refine HL3.out.mono ?_; rintro e w7 ⟨rfl, h7⟩; have H7 := Lib.hid h7; clear h7)
            go_roundw
            case rel => exact ⟨j + 1, l1 ++ [(b + j, cpyG g a b j (b + j))], by go_num, by omega, .inr (by omega), by rw [List.length_append, Hl1.out]; rfl, Hlog2.out, H7.out⟩
            case measure => simp [intOf]; omega
          · have HSO2 := HSO.out _ _ _ _ j (g (a + j)) hT hin
            obtain ⟨er, he⟩ : ∃ er : Int, (b : Int) + (j : Nat) = er := ⟨_, rfl⟩
            have he2 : copyEnd n a b s = .panicked [{ v := thrownV 11 er, recovered := false }] := by
              unfold copyEnd
              rw [if_pos (by omega), if_neg (by omega)]
              have : (if b < n then (n : Int) else (b : Int)) = er := by
                split
                · omega
                · omega
              rw [this]
            obtain ⟨y, hy2⟩ : ∃ y, g (a + j) = y := ⟨_, rfl⟩
            rw [he] at HSO2
            simp only [hy2] at hcj hy HSO2
            have HSO3 := Lib.hid HSO2
            have k1 : (j : Int) < k := by omega
            have k2 : (0 : Int) ≤ j := by omega
            have k3 : ((j : Int)).toNat = j := by omega
            have s3 : IntKind.i64.wrap ((b : Int) + j) = er := by rw [he]; exact IntWalk.i64_in _ (by omega)
            have Hnn := Lib.hid (show ¬ (b + s < n) by omega)
            have HE2 := Lib.hid (HE.out.symm.trans he2)
            have Hl1 := Lib.hid hl1
            clear hT he he2 hin hjn hlog HSO2 hy2 hl1
            go_wp2_with (go_at_call 63; refine HSO3.out.mono ?_; rintro e w7 ⟨rfl, h7⟩; have H7 := Lib.hid h7.tail; clear h7)
            exact ⟨rfl, HE2.out.symm, _, _, K, ⟨Hlog.out, by rw [Hl1.out]; omega, rfl, fun _ h => absurd h Hnn.out⟩, HK.out, H7.out⟩
        · obtain rfl : j = k := by omega
          have he2 : copyEnd n a b s = .returned (.tuple #[]) := by
            unfold copyEnd
            rw [if_pos (by omega), if_pos (by omega)]
          have HE2 := Lib.hid (HE.out.symm.trans he2)
          have HT := Lib.hid hT.tail
          have Hl1 := Lib.hid hl1
          clear hT hlog he2 hl1
          go_wp2
          go_end0
          exact ⟨HE2.out.symm, _, _, K, ⟨Hlog.out, by rw [Hl1.out]; omega, rfl, fun _ _ => rfl⟩, HK.out, HT.out⟩
end
end Go.Proofs.Ytkcijlndblbidaa
