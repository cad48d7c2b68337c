/- Layer 18: Lay. -/
import Derived.Test.YtkcijlndblbidaaWAll
import Derived.Test.YtkcijlndblbidaaIntRow
import Derived.StillTailTactics
namespace Go.Proofs.Ytkcijlndblbidaa
open Go.ChangeShapes Go.WideShapes Go.ChangeAt Go.RowKit
set_option linter.unusedVariables false

/-- a header that came in -/
structure Hdr where
  p : Int
  f : Int
  o : Int
instance : Inhabited Hdr := ⟨⟨0, 0, 0⟩⟩
structure HRow (w : World) (a : Option Addr) (hs : List Hdr) : Prop where
  many : hs.length ≤ maxLen
  cell : ∃ b off, (hs = [] ∨ a = some ⟨b, off, none⟩) ∧ ∀ i, i < hs.length → w.cell? ⟨b, off + i * 3, none⟩ = some (.int .i64 (hs.getD i default).p) ∧ w.cell? ⟨b, off + i * 3 + 1, none⟩ = some (.int .i64 (hs.getD i default).f) ∧ w.cell? ⟨b, off + i * 3 + 2, none⟩ = some (.int .i64 (hs.getD i default).o)
theorem HRow.below {w w' : World} {a : Option Addr} {hs : List Hdr} (h : HRow w a hs) (hb : Below w.heap.size w w') : HRow w' a hs :=
  ⟨h.many, by
    obtain ⟨b, off, ha, hc⟩ := h.cell
    exact ⟨b, off, ha, fun i hi => ⟨cellB hb (Nat.le_refl _) (hc i hi).1, cellB hb (Nat.le_refl _) (hc i hi).2.1, cellB hb (Nat.le_refl _) (hc i hi).2.2⟩⟩⟩
/-- the words and the address behind headers that are laid -/
def layF : (Nat → Nat) → Nat → List Hdr → (Nat → Nat) × Nat
  | g, top, [] => (g, top)
  | g, top, h :: hs => if makE 400 top h.p h.f h.o = 0 then layF (makG 400 g top h.p h.f h.o) (top + 1 + (h.p + h.f + h.o).toNat) hs else (g, top)
def icl (l : List Nat) : List Value := l.map fun (z : Nat) => Value.int .i64 (z : Int)
theorem icl_length (l : List Nat) : (icl l).length = l.length := by simp [icl]
theorem icl_snoc (l : List Nat) (z : Nat) : icl (l ++ [z]) = icl l ++ [.int .i64 z] := by simp [icl]
theorem int_info18 : (Try.prog.info? 3).map (fun i => (i.zero, i.size, i.bytes)) = some (some (.int .i64 0), 1, 8) := by kernel_rfl
theorem mod400 (z : Int) : ∃ p : Nat, IntKind.i64.wrap ((IntKind.u64.wrap z).tmod 400) = p ∧ p < 400 := by
  have h : 0 ≤ IntKind.u64.wrap z ∧ IntKind.u64.wrap z < 18446744073709551616 := by rw [IntKind.wrap_u64]; omega
  obtain ⟨h1, h2⟩ := h
  generalize IntKind.u64.wrap z = y at *
  rw [Int.tmod_eq_emod_of_nonneg h1]
  refine ⟨(y % 400).toNat, ?_, by omega⟩
  rw [show IntKind.i64.wrap (y % 400) = y % 400 from IntWalk.i64_in _ (by omega)]
  omega
theorem modn (z : Int) (n : Nat) (hn : 1 ≤ n) : ∃ p : Nat, (IntKind.u64.wrap z).tmod (n : Int) = p ∧ p < n := by
  have h : 0 ≤ IntKind.u64.wrap z := by rw [IntKind.wrap_u64]; omega
  rw [Int.tmod_eq_emod_of_nonneg h]
  have h1 := Int.emod_nonneg (IntKind.u64.wrap z) (show (n : Int) ≠ 0 by omega)
  have h2 := Int.emod_lt_of_pos (IntKind.u64.wrap z) (show (0 : Int) < n by omega)
  exact ⟨(IntKind.u64.wrap z % n).toNat, by omega, by omega⟩
theorem wrapu (z : Int) : ∃ p : Nat, IntKind.u64.wrap z = p ∧ p < 18446744073709551616 := ⟨(IntKind.u64.wrap z).toNat, by rw [IntKind.wrap_u64]; omega, by rw [IntKind.wrap_u64]; omega⟩
section
variable {W0 w w' : World} {m n t : Nat} {g : Nat → Nat} {K : List (Nat × Obj)} {ty : TypeId} {sz k : Nat} {xs : List Value} {al : Option Addr} {cap : Nat}
theorem GR.store (h : GR W0 m n t g K ty sz k xs al cap w) (a : Nat) (ha : a < n) (x : Nat) (hx : x < 18446744073709551616) :
    Calls Try.prog 19 #[.pointer (some ⟨m, 0, none⟩), .int .i64 a, .int .u64 x] w fun e w' => e = .returned (.int .i64 0) ∧ GR W0 m n t (putG g a x) K ty sz k xs al cap w' := by
  refine h.mem fun K hF => ?_
  have := store_fk hF (a : Int) x hx
  rw [show inG n (a : Int) = true by simp [inG]; omega] at this
  simpa only [if_true, Int.toNat_natCast] using this
theorem putG_small {g : Nat → Nat} (h : Small n g) (a : Nat) {x : Nat} (hx : x < 18446744073709551616) : Small n (putG g a x) := fun b hb => by
  unfold putG
  split
  · exact hx
  · exact h b hb
end
set_option maxRecDepth 100000 in
set_option maxHeartbeats 4000000 in
theorem lay_any (ah apt aw : Option Addr) (ch cp cw : Nat) (hs : List Hdr) (ps ws : List Int) (w : World) (hH : HRow w ah hs) (hP : IntRow .i64 w apt ps) (hWs : IntRow .i64 w aw ws) (hl : hs.length + ps.length + ws.length ≤ 300) :
    Calls Try.prog 89 #[.agg #[.slice ah hs.length ch, .slice apt ps.length cp, .slice aw ws.length cw]] w fun e w' => ∃ W0 m t g al cap top, e = .returned (.tuple #[.pointer (some ⟨m, 0, none⟩), .slice al 400 cap, .int .i64 (top : Nat)]) ∧ Below w.heap.size w W0 ∧ Small 400 g ∧ 1 ≤ top ∧ top ≤ 400 ∧ RW W0 m 400 t g g [] 400 al cap w' ∧ top = (layF (fun _ => 0) 1 hs).2 ∧ (ps = [] → ws = [] → ∀ b, g b = (layF (fun _ => 0) 1 hs).1 b) := by
  obtain ⟨W0, hW0⟩ : ∃ W0, w.alloc (.cells #[.slice ah hs.length ch, .slice apt ps.length cp, .slice aw ws.length cw] 133) = W0 := ⟨_, rfl⟩
  have hb0 : Below w.heap.size w W0 := by rw [← hW0]; exact below_new _ _
  have hb3 : W0.heap[w.heap.size]? = some (.cells #[.slice ah hs.length ch, .slice apt ps.length cp, .slice aw ws.length cw] 133 (0, 0)) := by rw [← hW0]; exact heap_alloc_new w _
  have HH := Lib.hid (hH.below hb0)
  have HP := Lib.hid (hP.below hb0)
  have HWs := Lib.hid (hWs.below hb0)
  have Hb0 := Lib.hid hb0
  have Hb3 := Lib.hid hb3
  have Hnew := new_fk 400 (by omega) (by omega) W0
  rw [← hW0] at Hnew
  replace Hnew := Lib.hid Hnew
  have HW0 := Lib.hid hW0
  have Hneed := Lib.hid (fun m W (h : VK W0 m 400 1 400 0 VS.zero [] W) => need_fk0 h (by omega))
  have l1 : (hs.length : Int) ≤ 300 := by omega
  have l2 : (ps.length : Int) ≤ 300 := by omega
  have l3 : (ws.length : Int) ≤ 300 := by omega
  obtain ⟨i1, hj, hy0, hy1, hy2⟩ := info_parts int_info18
  obtain ⟨i2, hj2, hu0, hu1, hu2⟩ := info_parts u64_info
  clear hH hP hWs hb0 hb3 hW0
  go_enter Try.func89, Try.ntmps89
  go_wp2_with (first
    | (go_at_call 17; refine Hnew.out.mono ?_; rintro e w1 ⟨m, rfl, h1⟩; rw [HW0.out] at h1; have H1 := Lib.hid h1; clear h1)
    | (go_at_call 18; refine (Hneed.out _ _ H1.out).mono ?_; rintro e w2 ⟨rfl, t, h2⟩; have c0 := at_cell (blockB h2.below (Nat.le_refl _) Hb3.out) 0 _ rfl; have H2 := Lib.hid h2; clear h2))
  clear Hnew Hneed H1 c0
  go_loopw [7, 8, 32] (fun a b i wr => ∃ (k top : Nat) (fl : List Nat) (g : Nat → Nat) (al : Option Addr) (cap : Nat), a = .int .i64 top ∧ b = .slice al fl.length cap ∧ i = .int .i64 k ∧ k ≤ hs.length ∧ layF (fun _ => 0) 1 hs = layF g top (hs.drop k) ∧ 1 ≤ top ∧ top ≤ 400 ∧ Small 400 g ∧ (∀ z ∈ fl, z < 400) ∧ fl.length < top ∧ GR W0 m 400 t g [] 3 1 fl.length (icl fl) al cap wr) (fun _ _ i _ => hs.length - (intOf i).toNat)
  case atStart => exact ⟨0, 1, [], _, none, 0, rfl, rfl, rfl, by omega, rfl, by omega, by omega, small_zero 400, (fun z hz => by cases hz), by simp, GR.none' H2.out _ _⟩
  case round =>
    clear H2
    obtain ⟨k, top, fl, g, al, cap, rfl, rfl, rfl, hk, hlay, ht1, ht2, hsg, hfl, hflt, hF⟩ := hrel
    have hb := hF.below
    have Hfl := Lib.hid hfl
    have Hsg := Lib.hid hsg
    have t1 : (top : Int) ≤ 400 := by omega
    have t2 : (0 : Int) ≤ top := by omega
    have hcase : (k < hs.length ∧ makE 400 top (hs.getD k default).p (hs.getD k default).f (hs.getD k default).o = 0) ∨ ((k < hs.length ∧ makE 400 top (hs.getD k default).p (hs.getD k default).f (hs.getD k default).o ≠ 0) ∨ ¬ k < hs.length) := by
      by_cases h1 : k < hs.length
      · by_cases h2 : makE 400 top (hs.getD k default).p (hs.getD k default).f (hs.getD k default).o = 0
        · exact .inl ⟨h1, h2⟩
        · exact .inr (.inl ⟨h1, h2⟩)
      · exact .inr (.inr h1)
    rcases hcase with ⟨hlt, hmk⟩ | hbc
    · have hdrop : hs.drop k = hs.getD k default :: hs.drop (k + 1) := by
        rw [List.drop_eq_getElem_cons hlt, List.getD_eq_getElem?_getD, List.getElem?_eq_getElem hlt]
        rfl
      rw [hdrop, layF, if_pos hmk] at hlay
      have hH2 := HH.out.below hb
      obtain ⟨b1, off, ha, hcell⟩ := hH2.cell
      obtain rfl : ah = some ⟨b1, off, none⟩ := by
        rcases ha with rfl | ha
        · simp at hlt
        · exact ha
      obtain ⟨c0, c1, c2⟩ := hcell k hlt
      generalize hs.getD k default = r at *
      obtain ⟨rp, rf, ro⟩ := r
      simp only at *
      have hok : Hd.Ok rp rf ro := by
        unfold makE at hmk
        split at hmk
        · omega
        · split at hmk
          · assumption
          · omega
      obtain ⟨p, f, o, rfl, rfl, rfl⟩ := Hd.ok_nat hok
      have hfit : top + (p + f + o) < 400 := by
        unfold makE at hmk
        rw [if_neg (by omega), if_pos hok] at hmk
        split at hmk
        · omega
        · omega
      have hs255 : p + f + o ≤ 255 := by unfold Hd.Ok at hok; omega
      have hsm := makG_small Hsg.out top p f o
      have hmkc := fun W (h : GR W0 m 400 t g [(wr.heap.size, .cells #[.int .i64 p, .int .i64 f, .int .i64 o] 106 (0, 0))] 3 1 fl.length (icl fl) al cap W) => h.mem (fun K hK => make_fk hK Hsg.out top p f o)
      rw [hmk] at hmkc
      have hsz : Hd.sizeOf' p f o = (p + f + o + 1 : Nat) := by unfold Hd.sizeOf'; rw [if_pos hok]; omega
      have hS := fun W => Hd.size_any p f o W
      rw [hsz] at hS
      have hnat : ((p : Int) + f + o).toNat = p + f + o := by omega
      rw [hnat] at hlay
      generalize makG 400 g top p f o = g' at *
      obtain ⟨s, hs'⟩ : ∃ s, p + f + o = s := ⟨_, rfl⟩
      rw [hs'] at hlay hfit hs255 hS
      unfold Hd.hv spc at *
      have hbx := hF.box #[.int .i64 p, .int .i64 f, .int .i64 o] 106
      have HB := Lib.hid hbx
      have HM := Lib.hid hmkc
      have HS := Lib.hid hS
      have Hsm := Lib.hid hsm
      have Hlay := Lib.hid hlay
      have k1 : (k : Int) < hs.length := by omega
      have k2 : (0 : Int) ≤ k := by omega
      have k3 : ((k : Int)).toNat = k := by omega
      have p1 : (p : Int) ≤ 255 := by omega
      have p2 : (0 : Int) ≤ p := by omega
      have s1 : ((s + 1 : Nat) : Int) ≤ 256 := by omega
      obtain ⟨z, hz⟩ : ∃ z, s + 1 = z := ⟨_, rfl⟩
      rw [hz] at HS s1
      clear hcell ha hH2 hb hF hlay hdrop hmk hbx hmkc hS hsm hok hsz hnat hsg hfl
      go_wp2_with (first
        | (go_at_call 81; refine (HM.out _ HB.out).mono ?_; rintro e w4 ⟨rfl, h4⟩; have qb := h4.block (List.mem_cons_self ..); have d0 := at_cell qb 0 _ rfl; have H4 := Lib.hid h4; clear h4 qb HB))
      clear d0 c0 c1 c2
      go_loopw [8, 44] (fun b i wr' => ∃ (q : Nat) (fl' : List Nat) (al' : Option Addr) (cap' : Nat), b = .slice al' fl'.length cap' ∧ i = .int .i64 q ∧ q ≤ p ∧ fl'.length = fl.length + q ∧ (∀ z ∈ fl', z < 400) ∧ GR W0 m 400 t g' [(wr.heap.size, .cells #[.int .i64 p, .int .i64 f, .int .i64 o] 106 (0, 0))] 3 1 fl'.length (icl fl') al' cap' wr') (fun _ i _ => p - (intOf i).toNat)
      case atStart => exact ⟨0, fl, al, cap, rfl, rfl, by omega, rfl, Hfl.out, H4.out⟩
      case round =>
        clear H4
        obtain ⟨q, fl', al', cap', rfl, rfl, hq, hfll, hfl', hF⟩ := hrel
        have Hfl' := Lib.hid hfl'
        have HF := Lib.hid hF
        have Hfll := Lib.hid hfll
        have hll : fl'.length ≤ 400 := by omega
        clear hfl' hF hfll
        by_cases hltq : q < p
        · have q1 : (q : Int) < p := by omega
          have q2 : (0 : Int) ≤ q := by omega
          obtain ⟨v, hv⟩ : ∃ v : Nat, top + 1 + q = v := ⟨_, rfl⟩
          have v1 : (top : Int) + 1 + q = v := by omega
          have hvl : v < 400 := by omega
          have hlow := HF.out.below.size
          go_wp2_with (at_builtin; refine wpList_append_lies _ rfl (.tmp 47) (.tmp 52) 71 rfl W0.heap.size 3 i1 (.int .i64 0) 1 8 Try.underlying71 hj hy0 hy1 hy2 rfl (by decide) _ _ _ rfl (World.ownsRow.alloc HF.out.row _) ⟨wr.heap.size, 0, none⟩ 1 1 [.int .i64 v] rfl rfl ?k1 ?k2 ?k3 ?k4 ?k5 ?k6 (wr.heap.size + 1) ?k7 ?_)
          case k1 => exact World.news_of_block (heap_alloc_new wr (.cells #[.int .i64 v] 3))
          case k2 => intro u hu; simp at hu; subst hu; rfl
          case k3 => omega
          case k4 => unfold maxLen; omega
          case k5 => omega
          case k6 => simp; omega
          case k7 => simp
          intro g5 cap5 w5 hown5 hgrow5 hat5 hlt5
          have HN5 := Lib.hid (HF.out.push hown5 hgrow5 hat5)
          clear hown5 hgrow5 hat5
          go_wp2
          go_roundw
          case rel => exact ⟨q + 1, fl' ++ [v], _, _, by rw [List.length_append]; rfl, by go_num, by omega, by rw [List.length_append, Hfll.out]; simp; omega, fun z hz => by rw [List.mem_append] at hz; rcases hz with hz | hz; exact Hfl'.out z hz; simp at hz; omega, by rw [List.length_append, icl_snoc]; exact HN5.out⟩
          case measure => simp [intOf]; omega
        · have q1 : ¬ (q : Int) < p := by omega
          have qb := HF.out.block (List.mem_cons_self ..)
          have d0 := at_cell qb 0 _ rfl
          have d1 := at_cell qb 1 _ rfl
          have d2 := at_cell qb 2 _ rfl
          clear qb
          go_wp2_with (first
            | (go_at_call 91; refine (HS.out _).mono ?_; rintro e w6 ⟨rfl, hb⟩; have H6 := Lib.hid (HF.out.grow hb).tail; clear hb d0 d1 d2))
          go_roundw
          case rel => exact ⟨k + 1, top + z, fl', g', al', cap', by go_num, rfl, by go_num, by omega, by rw [show top + z = top + 1 + s by omega]; exact Hlay.out, by omega, by omega, Hsm.out, Hfl'.out, by have := Hfll.out; omega, H6.out⟩
          case measure => simp [intOf]; omega
    · have hlay2 : layF (fun _ => 0) 1 hs = (g, top) := by
        rcases hbc with ⟨hlt, hmk⟩ | hlt
        · have hdrop : hs.drop k = hs.getD k default :: hs.drop (k + 1) := by
            rw [List.drop_eq_getElem_cons hlt, List.getD_eq_getElem?_getD, List.getElem?_eq_getElem hlt]
            rfl
          rw [hdrop, layF, if_neg hmk] at hlay
          exact hlay
        · rw [List.drop_of_length_le (by omega)] at hlay
          exact hlay
      have Hlay := Lib.hid hlay2
      have hll : fl.length < 400 := by omega
      clear hlay hlay2
      rcases hbc with ⟨hlt, hmk⟩ | hlt
      · have hH2 := HH.out.below hb
        obtain ⟨b1, off, ha, hcell⟩ := hH2.cell
        obtain rfl : ah = some ⟨b1, off, none⟩ := by
          rcases ha with rfl | ha
          · simp at hlt
          · exact ha
        obtain ⟨c0, c1, c2⟩ := hcell k hlt
        generalize hs.getD k default = r at *
        obtain ⟨rp, rf, ro⟩ := r
        simp only at *
        have hmkc := fun W (h : GR W0 m 400 t g [(wr.heap.size, .cells #[.int .i64 rp, .int .i64 rf, .int .i64 ro] 106 (0, 0))] 3 1 fl.length (icl fl) al cap W) => h.mem (fun K hK => make_fk hK Hsg.out top rp rf ro)
        have hgo : makG 400 g top rp rf ro = g := by unfold makG; rw [if_neg hmk]
        rw [hgo] at hmkc
        generalize makE 400 top rp rf ro = er at *
        have b0 : (er != 0) = true := by rw [bne_iff_ne]; exact hmk
        unfold Hd.hv spc at *
        have hbx := hF.box #[.int .i64 rp, .int .i64 rf, .int .i64 ro] 106
        have HB := Lib.hid hbx
        have HM := Lib.hid hmkc
        have k1 : (k : Int) < hs.length := by omega
        have k2 : (0 : Int) ≤ k := by omega
        have k3 : ((k : Int)).toNat = k := by omega
        clear hcell ha hH2 hb hF hmk hbx hmkc hsg hfl hgo
        go_wp2_with (first
          | (go_at_call 81; refine (HM.out _ HB.out).mono ?_; rintro e w4 ⟨rfl, h4⟩; have HG := Lib.hid h4.tail; clear h4 HB HM c0 c1 c2))
        go_loopw [12] (fun i wr => ∃ (j : Nat) (g1 : Nat → Nat), i = .int .i64 j ∧ j ≤ 310 ∧ Small 400 g1 ∧ (ps = [] → g1 = g) ∧ GR W0 m 400 t g1 [] 3 1 fl.length (icl fl) al cap wr) (fun i _ => 400 - (intOf i).toNat)
        case atStart => exact ⟨0, g, rfl, by omega, Hsg.out, fun _ => rfl, HG.out⟩
        case round =>
          clear HG
          obtain ⟨j, g1, rfl, hj3, hs1, hpe, hF⟩ := hrel
          have hb := hF.below
          have c0 := at_cell (blockB hb (Nat.le_refl _) Hb3.out) 1 _ rfl
          have Hs1 := Lib.hid hs1
          have Hpe := Lib.hid hpe
          have HG := Lib.hid hF
          have j1 : (j : Int) ≤ 310 := by omega
          have j2 : (0 : Int) ≤ j := by omega
          clear hs1 hpe hF
          by_cases hlt : j + 1 < ps.length
          · by_cases hfl : 0 < fl.length
            · have hP2 := HP.out.below hb
              obtain ⟨b1, off, ha, hcell⟩ := hP2.cell
              obtain rfl : apt = some ⟨b1, off, none⟩ := by
                rcases ha with rfl | ha
                · simp at hlt
                · exact ha
              have d1 := hcell j (by omega)
              have d2 := hcell (j + 1) hlt
              obtain ⟨p, hp, hp4⟩ := modn (ps.getD j 0) fl.length hfl
              obtain ⟨x, hx, hx2⟩ := wrapu (ps.getD (j + 1) 0)
              have hne : ps ≠ [] := by rintro rfl; simp at hlt
              obtain ⟨y, hy, hy4⟩ : ∃ y, (icl fl)[p]? = some (.int .i64 (y : Nat)) ∧ y < 400 := ⟨fl[p]'hp4, by unfold icl; rw [List.getElem?_map, List.getElem?_eq_getElem hp4]; rfl, Hfl.out _ (List.getElem_mem hp4)⟩
              obtain ⟨bf, rfl, d3⟩ := HG.out.at_ hy
              have Hst := Lib.hid (fun W (h : GR W0 m 400 t g1 [] 3 1 fl.length (icl fl) (some ⟨bf, 0, none⟩) cap W) => h.store y hy4 x hx2)
              have hsm := putG_small Hs1.out y hx2
              have Hsm := Lib.hid hsm
              have Hne := Lib.hid hne
              generalize ps.getD j 0 = z1 at *
              generalize ps.getD (j + 1) 0 = z2 at *
              have k1 : (j : Int) + 1 < ps.length := by omega
              have k2 : (j : Int) < ps.length := by omega
              have k3 : ((j : Int)).toNat = j := by omega
              have k4 : ((j : Int) + 1).toNat = j + 1 := by omega
              have k5 : (0 : Int) ≤ (j : Int) + 1 := by omega
              have k6 : IntKind.i64.wrap ((j : Int) + 1) = (j : Int) + 1 := IntWalk.i64_in _ (by omega)
              have m1 : (0 : Int) < fl.length := by omega
              have m2 : (fl.length : Int) ≤ 400 := by omega
              have m3 : (p : Int) < fl.length := by omega
              have m4 : (0 : Int) ≤ p := by omega
              have m5 : ((p : Int)).toNat = p := by omega
              have m6 : IntKind.u64.wrap (fl.length : Int) = fl.length := by rw [IntKind.wrap_u64]; omega
              have m7 : (fl.length : Int) ≠ 0 := by omega
              have m8 : fl.length ≠ 0 := by omega
              have Hp := Lib.hid (And.intro hp hx)
              have HS2 := Lib.hid (HG.out.grow (below_drew _))
              have Hm8 := Lib.hid (And.intro m6 (And.intro m7 m8))
              clear hcell ha hP2 hb hsm hne hp hx hp4 hx2 HG hy hy4 m6 m7 m8
              go_wp2_with (fail)
              have hp := Hp.out.1
              have hx := Hp.out.2
              have m6 := Hm8.out.1
              have m7 := Hm8.out.2.1
              have m8 := Hm8.out.2.2
              refine wp_region_still_tail 21 (by kernel_rfl) (by kernel_rfl) ?_
              simp only [List.take_succ_cons, List.take_zero, List.drop_succ_cons, List.drop_zero]
              obtain ⟨W, hW⟩ : ∃ W, wr.drew = W := ⟨_, rfl⟩
              have e0 : W.cell? ⟨w.heap.size, 1, none⟩ = some (.slice (some ⟨b1, off, none⟩) ps.length cp) := by rw [← hW]; exact c0
              have e1 : W.cell? ⟨b1, off + j, none⟩ = some (.int .i64 z1) := by rw [← hW]; exact d1
              have e2 : W.cell? ⟨b1, off + (j + 1), none⟩ = some (.int .i64 z2) := by rw [← hW]; exact d2
              have e3 : W.cell? ⟨bf, p, none⟩ = some (.int .i64 (y : Nat)) := by rw [← hW]; exact d3
              rw [hW] at HS2
              unfold World.drew at hW
              rw [hW]
              clear c0 d1 d2 d3 hW
              repeat still_step
              refine wpStill_nil ?_
              clear hp hx e0 e1 e2 e3 m6 m7 m8
              go_wp2_with ((go_at_call 19; refine (Hst.out _ HS2.out).mono ?_; rintro e w5 ⟨rfl, h5⟩; have H5 := Lib.hid h5; clear h5))
              go_roundw
              case rel => exact ⟨j + 2, _, by go_num, by omega, Hsm.out, fun e => absurd e Hne.out, H5.out⟩
              case measure => simp [intOf]; omega
            · have k1 : (j : Int) + 1 < ps.length := by omega
              have m1 : fl.length = 0 := by omega
              have m2 : ¬ (0 : Int) < fl.length := by omega
              clear hb m1
              go_wp2_with (fail)
              clear c0
              go_loopw [13] (fun i wr => ∃ (j : Nat) (g2 : Nat → Nat), i = .int .i64 j ∧ j ≤ 310 ∧ Small 400 g2 ∧ (ws = [] → g2 = g1) ∧ GR W0 m 400 t g2 [] 3 1 fl.length (icl fl) al cap wr) (fun i _ => 400 - (intOf i).toNat)
              case atStart => exact ⟨0, g1, rfl, by omega, Hs1.out, fun _ => rfl, HG.out⟩
              case round =>
                clear HG
                obtain ⟨j, g2, rfl, hj3, hs2, hwe, hF⟩ := hrel
                have hb := hF.below
                have c0 := at_cell (blockB hb (Nat.le_refl _) Hb3.out) 2 _ rfl
                have Hs2 := Lib.hid hs2
                have Hwe := Lib.hid hwe
                have HG := Lib.hid hF
                have j1 : (j : Int) ≤ 310 := by omega
                have j2 : (0 : Int) ≤ j := by omega
                clear hs2 hwe hF
                by_cases hlt : j + 1 < ws.length
                · have hP2 := HWs.out.below hb
                  obtain ⟨b1, off, ha, hcell⟩ := hP2.cell
                  obtain rfl : aw = some ⟨b1, off, none⟩ := by
                    rcases ha with rfl | ha
                    · simp at hlt
                    · exact ha
                  have d1 := hcell j (by omega)
                  have d2 := hcell (j + 1) hlt
                  obtain ⟨p, hp, hp4⟩ := mod400 (ws.getD j 0)
                  obtain ⟨x, hx, hx2⟩ := wrapu (ws.getD (j + 1) 0)
                  have hne : ws ≠ [] := by rintro rfl; simp at hlt
                  have Hst := Lib.hid (fun W (h : GR W0 m 400 t g2 [] 3 1 fl.length (icl fl) al cap W) => h.store p hp4 x hx2)
                  have hsm := putG_small Hs2.out p hx2
                  have Hsm := Lib.hid hsm
                  have Hne := Lib.hid hne
                  generalize ws.getD j 0 = z1 at *
                  generalize ws.getD (j + 1) 0 = z2 at *
                  have k1 : (j : Int) + 1 < ws.length := by omega
                  have k2 : (j : Int) < ws.length := by omega
                  have k3 : ((j : Int)).toNat = j := by omega
                  have k4 : ((j : Int) + 1).toNat = j + 1 := by omega
                  have k5 : (0 : Int) ≤ (j : Int) + 1 := by omega
                  have k6 : IntKind.i64.wrap ((j : Int) + 1) = (j : Int) + 1 := IntWalk.i64_in _ (by omega)
                  have Hp := Lib.hid (And.intro hp hx)
                  have HS2 := Lib.hid (HG.out.grow (below_drew _))
                  clear hcell ha hP2 hb hsm hne hp hx hp4 hx2 HG
                  go_wp2_with (fail)
                  have hp := Hp.out.1
                  have hx := Hp.out.2
                  refine wp_region_still_tail 16 (by kernel_rfl) (by kernel_rfl) ?_
                  simp only [List.take_succ_cons, List.take_zero, List.drop_succ_cons, List.drop_zero]
                  obtain ⟨W, hW⟩ : ∃ W, wr.drew = W := ⟨_, rfl⟩
                  have e0 : W.cell? ⟨w.heap.size, 2, none⟩ = some (.slice (some ⟨b1, off, none⟩) ws.length cw) := by rw [← hW]; exact c0
                  have e1 : W.cell? ⟨b1, off + j, none⟩ = some (.int .i64 z1) := by rw [← hW]; exact d1
                  have e2 : W.cell? ⟨b1, off + (j + 1), none⟩ = some (.int .i64 z2) := by rw [← hW]; exact d2
                  rw [hW] at HS2
                  unfold World.drew at hW
                  rw [hW]
                  clear c0 d1 d2 hW
                  repeat still_step
                  refine wpStill_nil ?_
                  clear hp hx e0 e1 e2
                  go_wp2_with ((go_at_call 19; refine (Hst.out _ HS2.out).mono ?_; rintro e w5 ⟨rfl, h5⟩; have H5 := Lib.hid h5; clear h5))
                  go_roundw
                  case rel => exact ⟨j + 2, _, by go_num, by omega, Hsm.out, fun e => absurd e Hne.out, H5.out⟩
                  case measure => simp [intOf]; omega
                · have k1 : ¬ (j : Int) + 1 < ws.length := by omega
                  clear hb
                  go_wp2_with (fail)
                  clear c0
                  go_loopw [14, 120] (fun r i wr => ∃ (k : Nat) (al : Option Addr) (cap : Nat), r = .slice al k cap ∧ i = .int .i64 k ∧ k ≤ 400 ∧ RW W0 m 400 t g2 g2 [] k al cap wr) (fun _ i _ => 400 - (intOf i).toNat)
                  case atStart => exact ⟨0, none, 0, rfl, rfl, by omega, RW.none HG.out.full⟩
                  case round =>
                    clear HG
                    obtain ⟨q, al2, cap2, rfl, rfl, hq, hR⟩ := hrel
                    by_cases hltq : q < 400
                    · have hin : inG 400 (q : Int) = true := by simp [inG]; omega
                      have hl := hR.load q hin
                      simp only [Int.toNat_natCast] at hl
                      have HL := Lib.hid hl
                      have hW0 := hR.full.below.size
                      have r1 : (q : Int) < 400 := by omega
                      clear hl hR hin
                      go_wp2_with (first | (go_at_call 24; refine HL.out.mono ?_; rintro e w3 ⟨rfl, h3⟩; have hlow := h3.full.below.size; replace h3 := Lib.hid h3) | (at_builtin; refine wpList_append_lies _ rfl (.tmp 129) (.tmp 131) 69 rfl W0.heap.size 23 i2 (.int .u64 0) 1 8 Try.underlying69 hj2 hu0 hu1 hu2 rfl (by decide) _ _ _ rfl (World.ownsRow.alloc (h3.out.row) _) ⟨w3.heap.size, 0, none⟩ 1 1 [.int .u64 (g2 q)] rfl rfl ?k1 ?k2 ?k3 ?k4 ?k5 ?k6 (w3.heap.size + 1) ?k7 ?_))
                      case k1 => exact World.news_of_block (heap_alloc_new w3 (.cells #[.int .u64 (g2 q)] 23))
                      case k2 => intro u hu; simp at hu; subst hu; rfl
                      case k3 => omega
                      case k4 => unfold maxLen; omega
                      case k5 => omega
                      case k6 => simp; omega
                      case k7 => simp
                      intro g5 cap5 w5 hown5 hgrow5 hat5 hlt5
                      have HN5 := Lib.hid (h3.out.push hown5 hgrow5 hat5)
                      clear hown5 hgrow5 hat5
                      go_wp2
                      go_roundw
                      case rel => exact ⟨q + 1, _, _, rfl, by go_num, by omega, HN5.out⟩
                      case measure => simp [intOf]; omega
                    · obtain rfl : q = 400 := by omega
                      have HR := Lib.hid hR
                      clear hR
                      go_wp2
                      go_ret3
                      exact ⟨W0, m, t, g2, al2, cap2, top, rfl, Hb0.out, Hs2.out, ht1, ht2, HR.out, by rw [Hlay.out], fun e1 e2 b => by rw [Hlay.out, Hwe.out e2, Hpe.out e1]⟩
          · have k1 : ¬ (j : Int) + 1 < ps.length := by omega
            clear hb
            go_wp2_with (fail)
            clear c0
            go_loopw [13] (fun i wr => ∃ (j : Nat) (g2 : Nat → Nat), i = .int .i64 j ∧ j ≤ 310 ∧ Small 400 g2 ∧ (ws = [] → g2 = g1) ∧ GR W0 m 400 t g2 [] 3 1 fl.length (icl fl) al cap wr) (fun i _ => 400 - (intOf i).toNat)
            case atStart => exact ⟨0, g1, rfl, by omega, Hs1.out, fun _ => rfl, HG.out⟩
            case round =>
              clear HG
              obtain ⟨j, g2, rfl, hj3, hs2, hwe, hF⟩ := hrel
              have hb := hF.below
              have c0 := at_cell (blockB hb (Nat.le_refl _) Hb3.out) 2 _ rfl
              have Hs2 := Lib.hid hs2
              have Hwe := Lib.hid hwe
              have HG := Lib.hid hF
              have j1 : (j : Int) ≤ 310 := by omega
              have j2 : (0 : Int) ≤ j := by omega
              clear hs2 hwe hF
              by_cases hlt : j + 1 < ws.length
              · have hP2 := HWs.out.below hb
                obtain ⟨b1, off, ha, hcell⟩ := hP2.cell
                obtain rfl : aw = some ⟨b1, off, none⟩ := by
                  rcases ha with rfl | ha
                  · simp at hlt
                  · exact ha
                have d1 := hcell j (by omega)
                have d2 := hcell (j + 1) hlt
                obtain ⟨p, hp, hp4⟩ := mod400 (ws.getD j 0)
                obtain ⟨x, hx, hx2⟩ := wrapu (ws.getD (j + 1) 0)
                have hne : ws ≠ [] := by rintro rfl; simp at hlt
                have Hst := Lib.hid (fun W (h : GR W0 m 400 t g2 [] 3 1 fl.length (icl fl) al cap W) => h.store p hp4 x hx2)
                have hsm := putG_small Hs2.out p hx2
                have Hsm := Lib.hid hsm
                have Hne := Lib.hid hne
                generalize ws.getD j 0 = z1 at *
                generalize ws.getD (j + 1) 0 = z2 at *
                have k1 : (j : Int) + 1 < ws.length := by omega
                have k2 : (j : Int) < ws.length := by omega
                have k3 : ((j : Int)).toNat = j := by omega
                have k4 : ((j : Int) + 1).toNat = j + 1 := by omega
                have k5 : (0 : Int) ≤ (j : Int) + 1 := by omega
                have k6 : IntKind.i64.wrap ((j : Int) + 1) = (j : Int) + 1 := IntWalk.i64_in _ (by omega)
                have Hp := Lib.hid (And.intro hp hx)
                have HS2 := Lib.hid (HG.out.grow (below_drew _))
                clear hcell ha hP2 hb hsm hne hp hx hp4 hx2 HG
                go_wp2_with (fail)
                have hp := Hp.out.1
                have hx := Hp.out.2
                refine wp_region_still_tail 16 (by kernel_rfl) (by kernel_rfl) ?_
                simp only [List.take_succ_cons, List.take_zero, List.drop_succ_cons, List.drop_zero]
                obtain ⟨W, hW⟩ : ∃ W, wr.drew = W := ⟨_, rfl⟩
                have e0 : W.cell? ⟨w.heap.size, 2, none⟩ = some (.slice (some ⟨b1, off, none⟩) ws.length cw) := by rw [← hW]; exact c0
                have e1 : W.cell? ⟨b1, off + j, none⟩ = some (.int .i64 z1) := by rw [← hW]; exact d1
                have e2 : W.cell? ⟨b1, off + (j + 1), none⟩ = some (.int .i64 z2) := by rw [← hW]; exact d2
                rw [hW] at HS2
                unfold World.drew at hW
                rw [hW]
                clear c0 d1 d2 hW
                repeat still_step
                refine wpStill_nil ?_
                clear hp hx e0 e1 e2
                go_wp2_with ((go_at_call 19; refine (Hst.out _ HS2.out).mono ?_; rintro e w5 ⟨rfl, h5⟩; have H5 := Lib.hid h5; clear h5))
                go_roundw
                case rel => exact ⟨j + 2, _, by go_num, by omega, Hsm.out, fun e => absurd e Hne.out, H5.out⟩
                case measure => simp [intOf]; omega
              · have k1 : ¬ (j : Int) + 1 < ws.length := by omega
                clear hb
                go_wp2_with (fail)
                clear c0
                go_loopw [14, 120] (fun r i wr => ∃ (k : Nat) (al : Option Addr) (cap : Nat), r = .slice al k cap ∧ i = .int .i64 k ∧ k ≤ 400 ∧ RW W0 m 400 t g2 g2 [] k al cap wr) (fun _ i _ => 400 - (intOf i).toNat)
                case atStart => exact ⟨0, none, 0, rfl, rfl, by omega, RW.none HG.out.full⟩
                case round =>
                  clear HG
                  obtain ⟨q, al2, cap2, rfl, rfl, hq, hR⟩ := hrel
                  by_cases hltq : q < 400
                  · have hin : inG 400 (q : Int) = true := by simp [inG]; omega
                    have hl := hR.load q hin
                    simp only [Int.toNat_natCast] at hl
                    have HL := Lib.hid hl
                    have hW0 := hR.full.below.size
                    have r1 : (q : Int) < 400 := by omega
                    clear hl hR hin
                    go_wp2_with (first | (go_at_call 24; refine HL.out.mono ?_; rintro e w3 ⟨rfl, h3⟩; have hlow := h3.full.below.size; replace h3 := Lib.hid h3) | (at_builtin; refine wpList_append_lies _ rfl (.tmp 129) (.tmp 131) 69 rfl W0.heap.size 23 i2 (.int .u64 0) 1 8 Try.underlying69 hj2 hu0 hu1 hu2 rfl (by decide) _ _ _ rfl (World.ownsRow.alloc (h3.out.row) _) ⟨w3.heap.size, 0, none⟩ 1 1 [.int .u64 (g2 q)] rfl rfl ?k1 ?k2 ?k3 ?k4 ?k5 ?k6 (w3.heap.size + 1) ?k7 ?_))
                    case k1 => exact World.news_of_block (heap_alloc_new w3 (.cells #[.int .u64 (g2 q)] 23))
                    case k2 => intro u hu; simp at hu; subst hu; rfl
                    case k3 => omega
                    case k4 => unfold maxLen; omega
                    case k5 => omega
                    case k6 => simp; omega
                    case k7 => simp
                    intro g5 cap5 w5 hown5 hgrow5 hat5 hlt5
                    have HN5 := Lib.hid (h3.out.push hown5 hgrow5 hat5)
                    clear hown5 hgrow5 hat5
                    go_wp2
                    go_roundw
                    case rel => exact ⟨q + 1, _, _, rfl, by go_num, by omega, HN5.out⟩
                    case measure => simp [intOf]; omega
                  · obtain rfl : q = 400 := by omega
                    have HR := Lib.hid hR
                    clear hR
                    go_wp2
                    go_ret3
                    exact ⟨W0, m, t, g2, al2, cap2, top, rfl, Hb0.out, Hs2.out, ht1, ht2, HR.out, by rw [Hlay.out], fun e1 e2 b => by rw [Hlay.out, Hwe.out e2, Hpe.out e1]⟩
      · have k1 : ¬ (k : Int) < hs.length := by omega
        have HG := Lib.hid hF
        clear hb hF hsg hfl
        go_wp2_with (fail)
        go_loopw [12] (fun i wr => ∃ (j : Nat) (g1 : Nat → Nat), i = .int .i64 j ∧ j ≤ 310 ∧ Small 400 g1 ∧ (ps = [] → g1 = g) ∧ GR W0 m 400 t g1 [] 3 1 fl.length (icl fl) al cap wr) (fun i _ => 400 - (intOf i).toNat)
        case atStart => exact ⟨0, g, rfl, by omega, Hsg.out, fun _ => rfl, HG.out⟩
        case round =>
          clear HG
          obtain ⟨j, g1, rfl, hj3, hs1, hpe, hF⟩ := hrel
          have hb := hF.below
          have c0 := at_cell (blockB hb (Nat.le_refl _) Hb3.out) 1 _ rfl
          have Hs1 := Lib.hid hs1
          have Hpe := Lib.hid hpe
          have HG := Lib.hid hF
          have j1 : (j : Int) ≤ 310 := by omega
          have j2 : (0 : Int) ≤ j := by omega
          clear hs1 hpe hF
          by_cases hlt : j + 1 < ps.length
          · by_cases hfl : 0 < fl.length
            · have hP2 := HP.out.below hb
              obtain ⟨b1, off, ha, hcell⟩ := hP2.cell
              obtain rfl : apt = some ⟨b1, off, none⟩ := by
                rcases ha with rfl | ha
                · simp at hlt
                · exact ha
              have d1 := hcell j (by omega)
              have d2 := hcell (j + 1) hlt
              obtain ⟨p, hp, hp4⟩ := modn (ps.getD j 0) fl.length hfl
              obtain ⟨x, hx, hx2⟩ := wrapu (ps.getD (j + 1) 0)
              have hne : ps ≠ [] := by rintro rfl; simp at hlt
              obtain ⟨y, hy, hy4⟩ : ∃ y, (icl fl)[p]? = some (.int .i64 (y : Nat)) ∧ y < 400 := ⟨fl[p]'hp4, by unfold icl; rw [List.getElem?_map, List.getElem?_eq_getElem hp4]; rfl, Hfl.out _ (List.getElem_mem hp4)⟩
              obtain ⟨bf, rfl, d3⟩ := HG.out.at_ hy
              have Hst := Lib.hid (fun W (h : GR W0 m 400 t g1 [] 3 1 fl.length (icl fl) (some ⟨bf, 0, none⟩) cap W) => h.store y hy4 x hx2)
              have hsm := putG_small Hs1.out y hx2
              have Hsm := Lib.hid hsm
              have Hne := Lib.hid hne
              generalize ps.getD j 0 = z1 at *
              generalize ps.getD (j + 1) 0 = z2 at *
              have k1 : (j : Int) + 1 < ps.length := by omega
              have k2 : (j : Int) < ps.length := by omega
              have k3 : ((j : Int)).toNat = j := by omega
              have k4 : ((j : Int) + 1).toNat = j + 1 := by omega
              have k5 : (0 : Int) ≤ (j : Int) + 1 := by omega
              have k6 : IntKind.i64.wrap ((j : Int) + 1) = (j : Int) + 1 := IntWalk.i64_in _ (by omega)
              have m1 : (0 : Int) < fl.length := by omega
              have m2 : (fl.length : Int) ≤ 400 := by omega
              have m3 : (p : Int) < fl.length := by omega
              have m4 : (0 : Int) ≤ p := by omega
              have m5 : ((p : Int)).toNat = p := by omega
              have m6 : IntKind.u64.wrap (fl.length : Int) = fl.length := by rw [IntKind.wrap_u64]; omega
              have m7 : (fl.length : Int) ≠ 0 := by omega
              have m8 : fl.length ≠ 0 := by omega
              have Hp := Lib.hid (And.intro hp hx)
              have HS2 := Lib.hid (HG.out.grow (below_drew _))
              have Hm8 := Lib.hid (And.intro m6 (And.intro m7 m8))
              clear hcell ha hP2 hb hsm hne hp hx hp4 hx2 HG hy hy4 m6 m7 m8
              go_wp2_with (fail)
              have hp := Hp.out.1
              have hx := Hp.out.2
              have m6 := Hm8.out.1
              have m7 := Hm8.out.2.1
              have m8 := Hm8.out.2.2
              refine wp_region_still_tail 21 (by kernel_rfl) (by kernel_rfl) ?_
              simp only [List.take_succ_cons, List.take_zero, List.drop_succ_cons, List.drop_zero]
              obtain ⟨W, hW⟩ : ∃ W, wr.drew = W := ⟨_, rfl⟩
              have e0 : W.cell? ⟨w.heap.size, 1, none⟩ = some (.slice (some ⟨b1, off, none⟩) ps.length cp) := by rw [← hW]; exact c0
              have e1 : W.cell? ⟨b1, off + j, none⟩ = some (.int .i64 z1) := by rw [← hW]; exact d1
              have e2 : W.cell? ⟨b1, off + (j + 1), none⟩ = some (.int .i64 z2) := by rw [← hW]; exact d2
              have e3 : W.cell? ⟨bf, p, none⟩ = some (.int .i64 (y : Nat)) := by rw [← hW]; exact d3
              rw [hW] at HS2
              unfold World.drew at hW
              rw [hW]
              clear c0 d1 d2 d3 hW
              repeat still_step
              refine wpStill_nil ?_
              clear hp hx e0 e1 e2 e3 m6 m7 m8
              go_wp2_with ((go_at_call 19; refine (Hst.out _ HS2.out).mono ?_; rintro e w5 ⟨rfl, h5⟩; have H5 := Lib.hid h5; clear h5))
              go_roundw
              case rel => exact ⟨j + 2, _, by go_num, by omega, Hsm.out, fun e => absurd e Hne.out, H5.out⟩
              case measure => simp [intOf]; omega
            · have k1 : (j : Int) + 1 < ps.length := by omega
              have m1 : fl.length = 0 := by omega
              have m2 : ¬ (0 : Int) < fl.length := by omega
              clear hb m1
              go_wp2_with (fail)
              clear c0
              go_loopw [13] (fun i wr => ∃ (j : Nat) (g2 : Nat → Nat), i = .int .i64 j ∧ j ≤ 310 ∧ Small 400 g2 ∧ (ws = [] → g2 = g1) ∧ GR W0 m 400 t g2 [] 3 1 fl.length (icl fl) al cap wr) (fun i _ => 400 - (intOf i).toNat)
              case atStart => exact ⟨0, g1, rfl, by omega, Hs1.out, fun _ => rfl, HG.out⟩
              case round =>
                clear HG
                obtain ⟨j, g2, rfl, hj3, hs2, hwe, hF⟩ := hrel
                have hb := hF.below
                have c0 := at_cell (blockB hb (Nat.le_refl _) Hb3.out) 2 _ rfl
                have Hs2 := Lib.hid hs2
                have Hwe := Lib.hid hwe
                have HG := Lib.hid hF
                have j1 : (j : Int) ≤ 310 := by omega
                have j2 : (0 : Int) ≤ j := by omega
                clear hs2 hwe hF
                by_cases hlt : j + 1 < ws.length
                · have hP2 := HWs.out.below hb
                  obtain ⟨b1, off, ha, hcell⟩ := hP2.cell
                  obtain rfl : aw = some ⟨b1, off, none⟩ := by
                    rcases ha with rfl | ha
                    · simp at hlt
                    · exact ha
                  have d1 := hcell j (by omega)
                  have d2 := hcell (j + 1) hlt
                  obtain ⟨p, hp, hp4⟩ := mod400 (ws.getD j 0)
                  obtain ⟨x, hx, hx2⟩ := wrapu (ws.getD (j + 1) 0)
                  have hne : ws ≠ [] := by rintro rfl; simp at hlt
                  have Hst := Lib.hid (fun W (h : GR W0 m 400 t g2 [] 3 1 fl.length (icl fl) al cap W) => h.store p hp4 x hx2)
                  have hsm := putG_small Hs2.out p hx2
                  have Hsm := Lib.hid hsm
                  have Hne := Lib.hid hne
                  generalize ws.getD j 0 = z1 at *
                  generalize ws.getD (j + 1) 0 = z2 at *
                  have k1 : (j : Int) + 1 < ws.length := by omega
                  have k2 : (j : Int) < ws.length := by omega
                  have k3 : ((j : Int)).toNat = j := by omega
                  have k4 : ((j : Int) + 1).toNat = j + 1 := by omega
                  have k5 : (0 : Int) ≤ (j : Int) + 1 := by omega
                  have k6 : IntKind.i64.wrap ((j : Int) + 1) = (j : Int) + 1 := IntWalk.i64_in _ (by omega)
                  have Hp := Lib.hid (And.intro hp hx)
                  have HS2 := Lib.hid (HG.out.grow (below_drew _))
                  clear hcell ha hP2 hb hsm hne hp hx hp4 hx2 HG
                  go_wp2_with (fail)
                  have hp := Hp.out.1
                  have hx := Hp.out.2
                  refine wp_region_still_tail 16 (by kernel_rfl) (by kernel_rfl) ?_
                  simp only [List.take_succ_cons, List.take_zero, List.drop_succ_cons, List.drop_zero]
                  obtain ⟨W, hW⟩ : ∃ W, wr.drew = W := ⟨_, rfl⟩
                  have e0 : W.cell? ⟨w.heap.size, 2, none⟩ = some (.slice (some ⟨b1, off, none⟩) ws.length cw) := by rw [← hW]; exact c0
                  have e1 : W.cell? ⟨b1, off + j, none⟩ = some (.int .i64 z1) := by rw [← hW]; exact d1
                  have e2 : W.cell? ⟨b1, off + (j + 1), none⟩ = some (.int .i64 z2) := by rw [← hW]; exact d2
                  rw [hW] at HS2
                  unfold World.drew at hW
                  rw [hW]
                  clear c0 d1 d2 hW
                  repeat still_step
                  refine wpStill_nil ?_
                  clear hp hx e0 e1 e2
                  go_wp2_with ((go_at_call 19; refine (Hst.out _ HS2.out).mono ?_; rintro e w5 ⟨rfl, h5⟩; have H5 := Lib.hid h5; clear h5))
                  go_roundw
                  case rel => exact ⟨j + 2, _, by go_num, by omega, Hsm.out, fun e => absurd e Hne.out, H5.out⟩
                  case measure => simp [intOf]; omega
                · have k1 : ¬ (j : Int) + 1 < ws.length := by omega
                  clear hb
                  go_wp2_with (fail)
                  clear c0
                  go_loopw [14, 120] (fun r i wr => ∃ (k : Nat) (al : Option Addr) (cap : Nat), r = .slice al k cap ∧ i = .int .i64 k ∧ k ≤ 400 ∧ RW W0 m 400 t g2 g2 [] k al cap wr) (fun _ i _ => 400 - (intOf i).toNat)
                  case atStart => exact ⟨0, none, 0, rfl, rfl, by omega, RW.none HG.out.full⟩
                  case round =>
                    clear HG
                    obtain ⟨q, al2, cap2, rfl, rfl, hq, hR⟩ := hrel
                    by_cases hltq : q < 400
                    · have hin : inG 400 (q : Int) = true := by simp [inG]; omega
                      have hl := hR.load q hin
                      simp only [Int.toNat_natCast] at hl
                      have HL := Lib.hid hl
                      have hW0 := hR.full.below.size
                      have r1 : (q : Int) < 400 := by omega
                      clear hl hR hin
                      go_wp2_with (first | (go_at_call 24; refine HL.out.mono ?_; rintro e w3 ⟨rfl, h3⟩; have hlow := h3.full.below.size; replace h3 := Lib.hid h3) | (at_builtin; refine wpList_append_lies _ rfl (.tmp 129) (.tmp 131) 69 rfl W0.heap.size 23 i2 (.int .u64 0) 1 8 Try.underlying69 hj2 hu0 hu1 hu2 rfl (by decide) _ _ _ rfl (World.ownsRow.alloc (h3.out.row) _) ⟨w3.heap.size, 0, none⟩ 1 1 [.int .u64 (g2 q)] rfl rfl ?k1 ?k2 ?k3 ?k4 ?k5 ?k6 (w3.heap.size + 1) ?k7 ?_))
                      case k1 => exact World.news_of_block (heap_alloc_new w3 (.cells #[.int .u64 (g2 q)] 23))
                      case k2 => intro u hu; simp at hu; subst hu; rfl
                      case k3 => omega
                      case k4 => unfold maxLen; omega
                      case k5 => omega
                      case k6 => simp; omega
                      case k7 => simp
                      intro g5 cap5 w5 hown5 hgrow5 hat5 hlt5
                      have HN5 := Lib.hid (h3.out.push hown5 hgrow5 hat5)
                      clear hown5 hgrow5 hat5
                      go_wp2
                      go_roundw
                      case rel => exact ⟨q + 1, _, _, rfl, by go_num, by omega, HN5.out⟩
                      case measure => simp [intOf]; omega
                    · obtain rfl : q = 400 := by omega
                      have HR := Lib.hid hR
                      clear hR
                      go_wp2
                      go_ret3
                      exact ⟨W0, m, t, g2, al2, cap2, top, rfl, Hb0.out, Hs2.out, ht1, ht2, HR.out, by rw [Hlay.out], fun e1 e2 b => by rw [Hlay.out, Hwe.out e2, Hpe.out e1]⟩
          · have k1 : ¬ (j : Int) + 1 < ps.length := by omega
            clear hb
            go_wp2_with (fail)
            clear c0
            go_loopw [13] (fun i wr => ∃ (j : Nat) (g2 : Nat → Nat), i = .int .i64 j ∧ j ≤ 310 ∧ Small 400 g2 ∧ (ws = [] → g2 = g1) ∧ GR W0 m 400 t g2 [] 3 1 fl.length (icl fl) al cap wr) (fun i _ => 400 - (intOf i).toNat)
            case atStart => exact ⟨0, g1, rfl, by omega, Hs1.out, fun _ => rfl, HG.out⟩
            case round =>
              clear HG
              obtain ⟨j, g2, rfl, hj3, hs2, hwe, hF⟩ := hrel
              have hb := hF.below
              have c0 := at_cell (blockB hb (Nat.le_refl _) Hb3.out) 2 _ rfl
              have Hs2 := Lib.hid hs2
              have Hwe := Lib.hid hwe
              have HG := Lib.hid hF
              have j1 : (j : Int) ≤ 310 := by omega
              have j2 : (0 : Int) ≤ j := by omega
              clear hs2 hwe hF
              by_cases hlt : j + 1 < ws.length
              · have hP2 := HWs.out.below hb
                obtain ⟨b1, off, ha, hcell⟩ := hP2.cell
                obtain rfl : aw = some ⟨b1, off, none⟩ := by
                  rcases ha with rfl | ha
                  · simp at hlt
                  · exact ha
                have d1 := hcell j (by omega)
                have d2 := hcell (j + 1) hlt
                obtain ⟨p, hp, hp4⟩ := mod400 (ws.getD j 0)
                obtain ⟨x, hx, hx2⟩ := wrapu (ws.getD (j + 1) 0)
                have hne : ws ≠ [] := by rintro rfl; simp at hlt
                have Hst := Lib.hid (fun W (h : GR W0 m 400 t g2 [] 3 1 fl.length (icl fl) al cap W) => h.store p hp4 x hx2)
                have hsm := putG_small Hs2.out p hx2
                have Hsm := Lib.hid hsm
                have Hne := Lib.hid hne
                generalize ws.getD j 0 = z1 at *
                generalize ws.getD (j + 1) 0 = z2 at *
                have k1 : (j : Int) + 1 < ws.length := by omega
                have k2 : (j : Int) < ws.length := by omega
                have k3 : ((j : Int)).toNat = j := by omega
                have k4 : ((j : Int) + 1).toNat = j + 1 := by omega
                have k5 : (0 : Int) ≤ (j : Int) + 1 := by omega
                have k6 : IntKind.i64.wrap ((j : Int) + 1) = (j : Int) + 1 := IntWalk.i64_in _ (by omega)
                have Hp := Lib.hid (And.intro hp hx)
                have HS2 := Lib.hid (HG.out.grow (below_drew _))
                clear hcell ha hP2 hb hsm hne hp hx hp4 hx2 HG
                go_wp2_with (fail)
                have hp := Hp.out.1
                have hx := Hp.out.2
                refine wp_region_still_tail 16 (by kernel_rfl) (by kernel_rfl) ?_
                simp only [List.take_succ_cons, List.take_zero, List.drop_succ_cons, List.drop_zero]
                obtain ⟨W, hW⟩ : ∃ W, wr.drew = W := ⟨_, rfl⟩
                have e0 : W.cell? ⟨w.heap.size, 2, none⟩ = some (.slice (some ⟨b1, off, none⟩) ws.length cw) := by rw [← hW]; exact c0
                have e1 : W.cell? ⟨b1, off + j, none⟩ = some (.int .i64 z1) := by rw [← hW]; exact d1
                have e2 : W.cell? ⟨b1, off + (j + 1), none⟩ = some (.int .i64 z2) := by rw [← hW]; exact d2
                rw [hW] at HS2
                unfold World.drew at hW
                rw [hW]
                clear c0 d1 d2 hW
                repeat still_step
                refine wpStill_nil ?_
                clear hp hx e0 e1 e2
                go_wp2_with ((go_at_call 19; refine (Hst.out _ HS2.out).mono ?_; rintro e w5 ⟨rfl, h5⟩; have H5 := Lib.hid h5; clear h5))
                go_roundw
                case rel => exact ⟨j + 2, _, by go_num, by omega, Hsm.out, fun e => absurd e Hne.out, H5.out⟩
                case measure => simp [intOf]; omega
              · have k1 : ¬ (j : Int) + 1 < ws.length := by omega
                clear hb
                go_wp2_with (fail)
                clear c0
                go_loopw [14, 120] (fun r i wr => ∃ (k : Nat) (al : Option Addr) (cap : Nat), r = .slice al k cap ∧ i = .int .i64 k ∧ k ≤ 400 ∧ RW W0 m 400 t g2 g2 [] k al cap wr) (fun _ i _ => 400 - (intOf i).toNat)
                case atStart => exact ⟨0, none, 0, rfl, rfl, by omega, RW.none HG.out.full⟩
                case round =>
                  clear HG
                  obtain ⟨q, al2, cap2, rfl, rfl, hq, hR⟩ := hrel
                  by_cases hltq : q < 400
                  · have hin : inG 400 (q : Int) = true := by simp [inG]; omega
                    have hl := hR.load q hin
                    simp only [Int.toNat_natCast] at hl
                    have HL := Lib.hid hl
                    have hW0 := hR.full.below.size
                    have r1 : (q : Int) < 400 := by omega
                    clear hl hR hin
                    go_wp2_with (first | (go_at_call 24; refine HL.out.mono ?_; rintro e w3 ⟨rfl, h3⟩; have hlow := h3.full.below.size; replace h3 := Lib.hid h3) | (at_builtin; refine wpList_append_lies _ rfl (.tmp 129) (.tmp 131) 69 rfl W0.heap.size 23 i2 (.int .u64 0) 1 8 Try.underlying69 hj2 hu0 hu1 hu2 rfl (by decide) _ _ _ rfl (World.ownsRow.alloc (h3.out.row) _) ⟨w3.heap.size, 0, none⟩ 1 1 [.int .u64 (g2 q)] rfl rfl ?k1 ?k2 ?k3 ?k4 ?k5 ?k6 (w3.heap.size + 1) ?k7 ?_))
                    case k1 => exact World.news_of_block (heap_alloc_new w3 (.cells #[.int .u64 (g2 q)] 23))
                    case k2 => intro u hu; simp at hu; subst hu; rfl
                    case k3 => omega
                    case k4 => unfold maxLen; omega
                    case k5 => omega
                    case k6 => simp; omega
                    case k7 => simp
                    intro g5 cap5 w5 hown5 hgrow5 hat5 hlt5
                    have HN5 := Lib.hid (h3.out.push hown5 hgrow5 hat5)
                    clear hown5 hgrow5 hat5
                    go_wp2
                    go_roundw
                    case rel => exact ⟨q + 1, _, _, rfl, by go_num, by omega, HN5.out⟩
                    case measure => simp [intOf]; omega
                  · obtain rfl : q = 400 := by omega
                    have HR := Lib.hid hR
                    clear hR
                    go_wp2
                    go_ret3
                    exact ⟨W0, m, t, g2, al2, cap2, top, rfl, Hb0.out, Hs2.out, ht1, ht2, HR.out, by rw [Hlay.out], fun e1 e2 b => by rw [Hlay.out, Hwe.out e2, Hpe.out e1]⟩
end Go.Proofs.Ytkcijlndblbidaa
