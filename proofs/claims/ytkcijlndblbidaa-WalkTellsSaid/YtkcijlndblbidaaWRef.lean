/- The reference of layer 18 over the same memory: All. -/
import Derived.Test.YtkcijlndblbidaaWWhole2
namespace Go.Proofs.Ytkcijlndblbidaa
open Go.ChangeShapes Go.WideShapes Go.ChangeAt Go.RowKit
set_option linter.unusedVariables false

theorem rfound_info : (Try.prog.info? 153).map (fun i => (i.zero, i.size, i.bytes)) = some (some (.agg #[.int .i64 0, .int .i64 0, .int .i64 0, .int .i64 0]), 4, 32) := by kernel_rfl
section
variable {W0 w w' : World} {m n t : Nat} {g : Nat → Nat} {K : List (Nat × Obj)} {bl c : Nat} {cur : Array Value}
set_option maxRecDepth 100000 in
theorem rall_bad (h : FK W0 m n t g K w) (hg : Small n g) (hU : UCells n g cur) (hbl : (bl, .cells cur 23 (0, 0)) ∈ K) (base top : Int) (hb : base < 1 ∨ top < base) :
    Calls Try.prog 92 #[.slice (some ⟨bl, 0, none⟩) n c, .int .i64 base, .int .i64 top] w fun e w' => e = .returned (.tuple #[.slice none 0 0, .int .i64 5]) ∧ FK W0 m n t g K w' := by
  have H := Lib.hid h
  clear h
  by_cases h1 : base < 1
  · clear hb
    go_enter Try.func92, Try.ntmps92
    go_wp2
    go_ret2
    exact ⟨rfl, H.out⟩
  · have h2 : top < base := by omega
    clear hb
    go_enter Try.func92, Try.ntmps92
    go_wp2
    go_ret2
    exact ⟨rfl, H.out⟩
set_option maxRecDepth 100000 in
set_option maxHeartbeats 2000000 in
theorem rall_good (h : FK W0 m n t g K w) (hg : Small n g) (hU : UCells n g cur) (hbl : (bl, .cells cur 23 (0, 0)) ∈ K) (base top : Int) (h1 : 1 ≤ base) (h2 : base ≤ top) (h3 : top ≤ 9223372036854775807) :
    Calls Try.prog 92 #[.slice (some ⟨bl, 0, none⟩) n c, .int .i64 base, .int .i64 top] w fun e w' => ∃ al cap, e = .returned (.tuple #[.slice al (allF n g top base).1.length cap, .int .i64 (allF n g top base).2]) ∧ GR W0 m n t g K 153 4 (allF n g top base).1.length (fcells (allF n g top base).1) al cap w' := by
  have hn := h.dims
  obtain ⟨i1, hj, hy0, hy1, hy2⟩ := info_parts rfound_info
  have H := Lib.hid h
  have Hg := Lib.hid hg
  have HU := Lib.hid hU
  have Hbl := Lib.hid hbl
  have hbd : ∀ (a p q o : Int) (w : World), (Instr.build 153 #[(0, .int .i64 a), (1, .agg #[.int .i64 p, .int .i64 q, .int .i64 o])]).run Try.prog w = .ok (.agg #[.int .i64 a, .int .i64 p, .int .i64 q, .int .i64 o]) w := fun a p q o w => run_build w 153 _ _ (by kernel_rfl)
  have Hbd := Lib.hid hbd
  obtain ⟨R, hR⟩ : ∃ R, allF n g top base = R := ⟨_, rfl⟩
  rw [hR]
  have HR := Lib.hid hR
  have e1 : ¬ base < 1 := by omega
  have e2 : ¬ top < base := by omega
  clear h hg hR hbd hU hbl
  go_enter Try.func92, Try.ntmps92
  go_wp2_with (fail)
  go_loopw [8, 9] (fun r i wr => ∃ (l : List Fnd) (a : Int) (al : Option Addr) (cap : Nat), r = .slice al l.length cap ∧ i = .int .i64 a ∧ 1 ≤ a ∧ a ≤ top ∧ (l = [] ∨ (a ≤ n + 256 ∧ l.length ≤ a)) ∧ R = cat l (allF n g top a) ∧ GR W0 m n t g K 153 4 l.length (fcells l) al cap wr) (fun _ i _ => (top - intOf i).toNat)
  case atStart => exact ⟨[], base, none, 0, rfl, rfl, h1, h2, .inl rfl, by rw [cat_nil _ (allF_ok n g top base)]; exact HR.out.symm, GR.none' H.out _ _⟩
  case round =>
    clear H
    obtain ⟨l, a, al, cap, rfl, rfl, ha1, ha2, hla, hcat, hF⟩ := hrel
    have hll : l.length ≤ 4352 := by
      rcases hla with rfl | hla
      · simp
      · omega
    have HF := Lib.hid hF
    by_cases hlt : a < top
    · have hread := (rread_any (HU.out.row (hF.block Hbl.out)) c hn.2 Hg.out a).mono (fun e w' q => (⟨q.1, HF.out.grow q.2⟩ : _ ∧ GR W0 m n t g K 153 4 l.length (fcells l) al cap w'))
      rw [allF, if_pos hlt] at hcat
      unfold rdV Hd.hv at hread
      by_cases h0 : rdE n g a = 0
      · rw [dif_pos h0] at hcat
        rw [h0] at hread
        have hok := rd_ok h0
        have hz := rdE_zero h0
        have hsz : Hd.sizeOf' (rdP n g a) (rdF n g a) (rdO n g a) = (rdS n g a + 1 : Nat) := by unfold Hd.sizeOf'; rw [if_pos hok]; unfold rdS; omega
        have hS := fun W => Hd.refSize_any (rdP n g a) (rdF n g a) (rdO n g a) W
        rw [hsz] at hS
        have hs255 : rdS n g a ≤ 255 := by unfold Hd.Ok at hok; unfold rdS; omega
        have hfa : fndAt n g a = ⟨a, rdP n g a, rdF n g a, rdO n g a⟩ := rfl
        rw [hfa] at hcat
        unfold Hd.hv at hS
        generalize rdP n g a = p at *
        generalize rdF n g a = q at *
        generalize rdO n g a = o at *
        obtain ⟨z, hz2⟩ : ∃ z, rdS n g a + 1 = z := ⟨_, rfl⟩
        rw [hz2] at hS
        have hz3 : ((rdS n g a : Nat) : Int) + 1 = z := by omega
        have hz4 : a + ((rdS n g a : Nat) : Int) + 1 = a + z := by omega
        rw [hz4] at hcat
        have hz5 : (top - a < ((rdS n g a : Nat) : Int) + 1) = (top - a < z) := by rw [hz3]
        rw [hz3] at hcat
        have HRD := Lib.hid hread
        have HS := Lib.hid hS
        have z1 : (z : Int) ≤ 256 := by omega
        have z2 : 1 ≤ (z : Int) := by omega
        have a4 : a ≤ 4096 := by omega
        have Hz := Lib.hid hz
        clear hread hS hF hsz hok hz hz2 hz3 hz4 hz5 hfa hs255 h0
        by_cases hfit : top - a < z
        · rw [if_pos hfit, cat_fail _ _ (by omega)] at hcat
          subst hcat
          clear hla
          go_wp2_with (first
            | (go_at_call 79; refine HRD.out.mono ?_; rintro e w1 ⟨rfl, h4⟩; have H4 := Lib.hid (h4.box #[.int .i64 p, .int .i64 q, .int .i64 o] 106); clear h4)
            | (go_at_call 140; refine (HS.out _).mono ?_; rintro e w2 ⟨rfl, hb⟩; have H5 := Lib.hid (H4.out.grow hb).tail; clear hb))
          go_ret2
          exact ⟨none, 0, rfl, GR.none' H5.out.full _ _⟩
        · rw [if_neg hfit, cat_cat] at hcat
          have Hcat := Lib.hid hcat
          have Hla := Lib.hid hla
          have hlow := HF.out.below.size
          clear hcat hla
          have hbd := Hbd.out
          go_wp2_with (first
            | (go_at_call 79; refine HRD.out.mono ?_; rintro e w1 ⟨rfl, h4⟩; have H4 := Lib.hid (h4.box #[.int .i64 p, .int .i64 q, .int .i64 o] 106); clear h4)
            | (go_at_call 140; refine (HS.out _).mono ?_; rintro e w2 ⟨rfl, hb⟩; have h5 := H4.out.grow hb; have qb := h5.block (List.mem_cons_self ..); have d0 := at_cell qb 0 _ rfl; have d1 := at_cell qb 1 _ rfl; have d2 := at_cell qb 2 _ rfl; have hlow2 := h5.below.size; have H5 := Lib.hid h5; clear hb h5 qb)
            | (at_builtin; refine wpList_append_lies _ rfl (.tmp 38) (.tmp 42) 144 rfl W0.heap.size 153 i1 (.agg #[.int .i64 0, .int .i64 0, .int .i64 0, .int .i64 0]) 4 32 Try.underlying144 hj hy0 hy1 hy2 rfl (by decide) _ _ _ rfl (World.ownsRow.alloc H5.out.row _) ⟨w2.heap.size, 0, none⟩ 1 1 [.int .i64 a, .int .i64 p, .int .i64 q, .int .i64 o] rfl rfl ?k1 ?k2 ?k3 ?k4 ?k5 ?k6 (w2.heap.size + 1) ?k7 ?_))
          case k1 => exact World.news_of_block (heap_alloc_new w2 (.cells #[.int .i64 a, .int .i64 p, .int .i64 q, .int .i64 o] 153))
          case k2 => intro u hu; simp at hu; rcases hu with rfl | rfl | rfl | rfl <;> rfl
          case k3 => omega
          case k4 => unfold maxLen; omega
          case k5 => omega
          case k6 => simp; omega
          case k7 => simp
          intro g5 cap5 w5 hown5 hgrow5 hat5 hlt5
          have HN5 := Lib.hid (H5.out.push hown5 hgrow5 hat5)
          have qb5 := HN5.out.block (List.mem_cons_self ..)
          have j0 := at_cell qb5 0 _ rfl
          have j1 := at_cell qb5 1 _ rfl
          have j2 := at_cell qb5 2 _ rfl
          clear hown5 hgrow5 hat5 hbd qb5 d0 d1 d2 H4 H5
          go_wp2_with (go_at_call 140; refine (HS.out _).mono ?_; rintro e w7 ⟨rfl, hb⟩; have HN6 := Lib.hid (HN5.out.grow hb).tail; clear hb j0 j1 j2)
          go_roundw
          case rel => exact ⟨l ++ [⟨a, p, q, o⟩], a + z, _, _, by rw [List.length_append]; rfl, rfl, by omega, by omega, .inr ⟨by have := Hz.out; omega, by have := Hla.out; rw [List.length_append]; rcases this with e | e; rw [e]; simp; omega; simp; omega⟩, Hcat.out, by rw [List.length_append, fcells_snoc]; exact HN6.out⟩
          case measure => simp [intOf]; omega
      · rw [dif_neg h0, cat_fail _ _ h0] at hcat
        generalize rdP n g a = p at *
        generalize rdF n g a = q at *
        generalize rdO n g a = o at *
        generalize rdE n g a = er at *
        have Hcat := Lib.hid hcat
        clear hcat
        have b1 : (er != 0) = true := by rw [bne_iff_ne]; exact h0
        have HRD := Lib.hid hread
        clear hread hF hla h0
        go_wp2_with (first
          | (go_at_call 79; refine HRD.out.mono ?_; rintro e w1 ⟨rfl, h4⟩; have H4 := Lib.hid (h4.box #[.int .i64 p, .int .i64 q, .int .i64 o] 106).tail; clear h4))
        go_ret2
        rw [Hcat.out]
        exact ⟨none, 0, rfl, GR.none' H4.out.full _ _⟩
    · rw [allF, if_neg hlt, cat_done] at hcat
      subst hcat
      clear hF hla
      go_wp2
      go_ret2
      exact ⟨al, cap, rfl, HF.out⟩
theorem rall_fk (h : FK W0 m n t g K w) (hg : Small n g) (hU : UCells n g cur) (hbl : (bl, .cells cur 23 (0, 0)) ∈ K) (base top : Int) (h3 : top ≤ 9223372036854775807) :
    Calls Try.prog 92 #[.slice (some ⟨bl, 0, none⟩) n c, .int .i64 base, .int .i64 top] w fun e w' => ∃ al cap, e = .returned (.tuple #[.slice al (allR n g base top).1.length cap, .int .i64 (allR n g base top).2]) ∧ GR W0 m n t g K 153 4 (allR n g base top).1.length (fcells (allR n g base top).1) al cap w' := by
  unfold allR
  by_cases hb : base < 1 ∨ top < base
  · rw [if_pos hb]
    exact (rall_bad h hg hU hbl base top hb).mono fun e w' ⟨he, hF⟩ => ⟨none, 0, he, GR.none' hF _ _⟩
  · rw [if_neg hb]
    exact rall_good h hg hU hbl base top (by omega) (by omega) h3
end
end Go.Proofs.Ytkcijlndblbidaa
