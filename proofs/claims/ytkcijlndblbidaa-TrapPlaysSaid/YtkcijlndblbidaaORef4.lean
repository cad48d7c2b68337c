/- The reference of layer 15: Copy. -/
import Derived.Test.YtkcijlndblbidaaORef3
namespace Go.Proofs.Ytkcijlndblbidaa
open Go.ChangeShapes Go.WideShapes Go.ChangeAt Go.RowKit
set_option linter.unusedVariables false

theorem own_empty (w : World) : (w.alloc (.cells #[] 23)).ownsRow w.heap.size 23 1 (.slice (some ⟨w.heap.size, 0, none⟩) 0 0) 0 [] :=
  ⟨rfl, .inr ⟨w.heap.size, 0, #[], rfl, Nat.le_refl _, heap_alloc_new w _, Nat.le_refl _, by unfold maxLen; omega, rfl, rfl⟩⟩
theorem grown_below {w w' : World} {B base : Nat} (h : w.grownBy w' (some B)) (h1 : base ≤ B) (h2 : base ≤ w.heap.size) : Below base w w' := by
  have c : Chg (fun q => q = B) w w' := ⟨h.os, h.tape, h.output, h.size, fun q hq hn => h.block q hq (fun e => hn (Option.some.inj e))⟩
  exact c.below (fun k hk => by rw [hk]; exact h1) h2
theorem own_words {w : World} {base g cap z : Nat} {fv : Nat → Nat} (hz : 0 < z) (h : w.ownsRow base 23 1 (.slice (some ⟨g, 0, none⟩) z cap) z (ftab z (fun j => .int .u64 (fv j)))) :
    ∃ cur, w.heap[g]? = some (.cells cur 23 (0, 0)) ∧ UCells z fv cur ∧ base ≤ g := by
  rcases h.2 with ⟨e, h0⟩ | ⟨gb, c, cur, e, b1, b2, b3, b4, b5, b6⟩
  · omega
  · simp at e
    obtain ⟨rfl, rfl⟩ := e
    refine ⟨cur, b2, fun i hi => ?_, b1⟩
    have hc : (cur.toList.take (z * 1))[i]? = some (.int .u64 (fv i)) := by rw [b6, ftab_get, if_pos hi]
    rw [List.getElem?_take_of_lt (by omega)] at hc
    simpa using hc
section
variable {W0 w w' : World} {m n t bl : Nat} {g f : Nat → Nat} {K : List (Nat × Obj)}
set_option maxRecDepth 100000 in
theorem rcopy_err (h : RF W0 m n t g bl f K w) (hf : Small n f) (c : Nat) (a b : Int) (h0 : rdE n f a ≠ 0) :
    Calls Try.prog 130 #[.slice (some ⟨bl, 0, none⟩) n c, .int .i64 a, .int .i64 b] w fun e w' => e = .returned (.int .i64 (rdE n f a)) ∧ RF W0 m n t g bl f K w' := by
  have hn := h.dims
  have HRD := rread_any h.row c hn.2 hf a
  unfold rdV Hd.hv at HRD
  have H := Lib.hid h
  clear h
  generalize rdP n f a = p at *
  generalize rdF n f a = q at *
  generalize rdO n f a = o at *
  generalize rdE n f a = er at *
  have HR := Lib.hid HRD
  have b1 : (er != 0) = true := by rw [bne_iff_ne]; exact h0
  clear HRD h0
  go_enter Try.func130, Try.ntmps130
  go_wp2_with (go_at_call 79; refine HR.out.mono ?_; rintro e w1 ⟨rfl, h1⟩; have H1 := Lib.hid (((H.out.grow h1).box #[.int .i64 p, .int .i64 q, .int .i64 o] 106).tail); clear h1)
  go_ret
  exact ⟨rfl, H1.out⟩
set_option maxRecDepth 100000 in
theorem rcopy_out (h : RF W0 m n t g bl f K w) (hf : Small n f) (c : Nat) (a b : Int) (h0 : rdE n f a = 0) (er : Int) (hb2 : b ≤ 9223372036854775807) (hc : (b ≤ 0 ∧ er = 5) ∨ (0 < b ∧ ¬ (a + rdS n f a < n ∧ b + rdS n f a < n) ∧ er = 11)) :
    Calls Try.prog 130 #[.slice (some ⟨bl, 0, none⟩) n c, .int .i64 a, .int .i64 b] w fun e w' => e = .returned (.int .i64 er) ∧ RF W0 m n t g bl f K w' := by
  have hn := h.dims
  have hn1 : (n : Int) ≤ 4096 := by omega
  obtain ⟨ha1, ha2, -⟩ := rdE_zero h0
  have hok := rd_ok h0
  have HRD := rread_any h.row c hn.2 hf a
  rw [h0] at HRD
  unfold rdV Hd.hv at HRD
  unfold rdS at hc
  have H := Lib.hid h
  clear h h0
  generalize rdP n f a = p at *
  generalize rdF n f a = q at *
  generalize rdO n f a = o at *
  have hs2 : p + q + o ≤ 255 := by unfold Hd.Ok at hok; omega
  obtain ⟨z, hz⟩ : ∃ z, p + q + o + 1 = z := ⟨_, rfl⟩
  have hsz : Hd.sizeOf' p q o = (z : Nat) := by unfold Hd.sizeOf'; rw [if_pos hok]; omega
  have hS := fun W => Hd.refSize_any p q o W
  rw [hsz] at hS
  unfold Hd.hv at hS
  have HS := Lib.hid hS
  have HR := Lib.hid HRD
  clear hS HRD hsz hok
  rcases hc with ⟨h1, rfl⟩ | ⟨h1, h2, rfl⟩
  · have h3 : b < 1 := by omega
    clear hz
    go_enter Try.func130, Try.ntmps130
    go_wp2_with (go_at_call 79; refine HR.out.mono ?_; rintro e w1 ⟨rfl, h1⟩; have H1 := Lib.hid (((H.out.grow h1).box #[.int .i64 p, .int .i64 q, .int .i64 o] 106).tail); clear h1)
    go_ret
    exact ⟨rfl, H1.out⟩
  · have h3 : ¬ b < 1 := by omega
    have h4 : a ≤ 4096 := by omega
    by_cases h5 : (n : Int) - a < z
    · clear h2 hz
      go_enter Try.func130, Try.ntmps130
      go_wp2_with (first
        | (go_at_call 79; refine HR.out.mono ?_; rintro e w1 ⟨rfl, h1⟩; have H1 := Lib.hid ((H.out.grow h1).box #[.int .i64 p, .int .i64 q, .int .i64 o] 106); clear h1)
        | (go_at_call 140; refine (HS.out _).mono ?_; rintro e w2 ⟨rfl, hb⟩; have H2 := Lib.hid (H1.out.grow hb).tail; clear hb))
      go_ret
      exact ⟨rfl, H2.out⟩
    · by_cases h6 : (n : Int) ≤ b
      · clear h2 hz
        go_enter Try.func130, Try.ntmps130
        go_wp2_with (first
          | (go_at_call 79; refine HR.out.mono ?_; rintro e w1 ⟨rfl, h1⟩; have H1 := Lib.hid ((H.out.grow h1).box #[.int .i64 p, .int .i64 q, .int .i64 o] 106); clear h1)
          | (go_at_call 140; refine (HS.out _).mono ?_; rintro e w2 ⟨rfl, hb⟩; have H2 := Lib.hid (H1.out.grow hb).tail; clear hb))
        go_ret
        exact ⟨rfl, H2.out⟩
      · have h7 : (n : Int) - b < z := by omega
        clear h2 hz
        go_enter Try.func130, Try.ntmps130
        go_wp2_with (first
          | (go_at_call 79; refine HR.out.mono ?_; rintro e w1 ⟨rfl, h1⟩; have H1 := Lib.hid ((H.out.grow h1).box #[.int .i64 p, .int .i64 q, .int .i64 o] 106); clear h1)
          | (go_at_call 140; refine (HS.out _).mono ?_; rintro e w2 ⟨rfl, hb⟩; have H2 := Lib.hid (H1.out.grow hb).tail; clear hb))
        go_ret
        exact ⟨rfl, H2.out⟩
set_option maxRecDepth 100000 in
set_option maxHeartbeats 1000000 in
theorem rcopy_ok (h : RF W0 m n t g bl f K w) (hf : Small n f) (c a b : Nat) (hc : n ≤ c) (hc2 : c ≤ maxLen) (h0 : rdE n f a = 0) (hb : 0 < b) (hfit : a + rdS n f a < n ∧ b + rdS n f a < n) :
    Calls Try.prog 130 #[.slice (some ⟨bl, 0, none⟩) n c, .int .i64 a, .int .i64 b] w fun e w' => e = .returned (.int .i64 0) ∧ RF W0 m n t g bl (cpyG f a b (rdS n f a + 1)) K w' := by
  have hn := h.dims
  have hn1 : (n : Int) ≤ 4096 := by omega
  have hok := rd_ok h0
  obtain ⟨ha1, ha2, -⟩ := rdE_zero h0
  have HRD := rread_any h.row c hn.2 hf a
  rw [h0] at HRD
  unfold rdV Hd.hv at HRD
  unfold rdS at hfit ⊢
  have H := Lib.hid h
  clear h h0
  generalize rdP n f a = p at *
  generalize rdF n f a = q at *
  generalize rdO n f a = o at *
  have hs2 : p + q + o ≤ 255 := by unfold Hd.Ok at hok; omega
  obtain ⟨z, hz⟩ : ∃ z, p + q + o + 1 = z := ⟨_, rfl⟩
  have hsz : Hd.sizeOf' p q o = (z : Nat) := by unfold Hd.sizeOf'; rw [if_pos hok]; omega
  have hS := fun W => Hd.refSize_any p q o W
  rw [hsz] at hS
  rw [hz]
  unfold Hd.hv at hS
  have HS := Lib.hid hS
  have HR := Lib.hid HRD
  obtain ⟨i1, hj, hy0, hy1, hy2⟩ := info_parts u64_info
  unfold maxLen at hc2
  have z0 : ¬ (b : Int) < 1 := by omega
  have z1 : (a : Int) ≤ 4096 := by omega
  have z2 : (b : Int) ≤ 4096 := by omega
  have z3 : ¬ (n : Int) - a < z := by omega
  have z4 : ¬ (n : Int) ≤ b := by omega
  have z5 : ¬ (n : Int) - b < z := by omega
  have z6 : (z : Int) ≤ 256 := by omega
  have z7 : decide ((n : Int) - a < z) = false := decide_eq_false z3
  have z8 : decide ((n : Int) - b < z) = false := decide_eq_false z5
  have z9 : decide (n ≤ b) = false := decide_eq_false (by omega)
  obtain ⟨y, hy⟩ : ∃ y, a + z = y := ⟨_, rfl⟩
  have y1 : (a : Int) + z = y := by omega
  have y2 : (y : Int) ≤ n := by omega
  have y3 : (y : Int) ≤ c := by omega
  have y4 : (0 : Int) ≤ y := by omega
  have y5 : (a : Int) ≤ y := by omega
  have y6 : (0 : Int) ≤ a := by omega
  have y7 : IntKind.i64.wrap (y : Int) = y := IntWalk.i64_in _ (by omega)
  have y8 : y - a = z := by omega
  clear hS HRD hsz hok
  go_enter Try.func130, Try.ntmps130
  go_wp2_with (first
    | (go_at_call 79; refine HR.out.mono ?_; rintro e w1 ⟨rfl, h1⟩; have H1 := Lib.hid ((H.out.grow h1).box #[.int .i64 p, .int .i64 q, .int .i64 o] 106); clear h1)
    | (go_at_call 140; refine (HS.out _).mono ?_; rintro e w2 ⟨rfl, hb⟩; have H2 := Lib.hid (H1.out.grow hb).tail; clear hb)
    | (at_builtin; refine wpList_append_lies _ rfl (.tmp 45) (.tmp 51) 69 rfl w2.heap.size 23 i1 (.int .u64 0) 1 8 Try.underlying69 hj hy0 hy1 hy2 rfl (by decide) _ 0 [] rfl (own_empty w2) ⟨bl, a, none⟩ z (c - a) (ftab z (fun j => .int .u64 (f (a + j)))) rfl ?k1 ?k2 ?k3 ?k4 ?k5 ?k6 ?k7 (w2.heap.size + 1) ?k8 ?_))
  case k1 => rw [ftab_length, Nat.mul_one]
  case k2 =>
    intro j u hu
    rw [ftab_get] at hu
    split at hu
    · rename_i hjz
      cases hu
      have hadd : (⟨bl, a, none⟩ : Addr).add j = ⟨bl, a + j, none⟩ := by unfold Addr.add; split <;> simp_all
      rw [hadd]
      exact (H2.out.grow (below_new w2 _)).cell (by omega)
    · cases hu
  case k3 =>
    intro u hu
    unfold ftab at hu
    rw [List.mem_map] at hu
    obtain ⟨j, -, rfl⟩ := hu
    rfl
  case k4 => omega
  case k5 => unfold maxLen; omega
  case k6 => omega
  case k7 => simp
  case k8 => simp
  intro g5 cap5 w5 hown5 hgrow5 hat5 hlt5
  obtain ⟨cu5, hcu5, hcu6, hg5⟩ := own_words (by omega) hown5
  have hbl := (below_new w2 (.cells #[] 23)).trans (grown_below hgrow5 (Nat.le_refl _) (by simp))
  have H5 := Lib.hid (H2.out.adopt hbl hg5 hcu5)
  have Hcu := Lib.hid hcu6
  clear hown5 hgrow5 hat5 hlt5 hcu5 hcu6 hbl hg5
  go_wp2_with (fail)
  go_loopw [11] (fun i wr => ∃ (j : Nat), i = .int .i64 j ∧ j ≤ z ∧ RF W0 m n t g bl (cpyG f a b j) ((g5, .cells cu5 23 (0, 0)) :: K) wr) (fun i _ => z - (intOf i).toNat)
  case atStart => exact ⟨0, rfl, by omega, by rw [cpyG_zero]; exact H5.out⟩
  case round =>
    clear H5
    obtain ⟨j, rfl, hj2, hF⟩ := hrel
    by_cases hlt : j < z
    · have hcj : wr.cell? ⟨g5, j, none⟩ = some (.int .u64 (f (a + j))) := at_cell (hF.block (List.mem_cons_self ..)) j _ (Hcu.out j hlt)
      obtain ⟨v, hv⟩ : ∃ v, b + j = v := ⟨_, rfl⟩
      have v1 : (b : Int) + j = v := by omega
      have v2 : (v : Int) < n := by omega
      have v3 : (0 : Int) ≤ v := by omega
      have v4 : ((v : Int)).toNat = v := by omega
      have v5 : IntKind.i64.wrap (v : Int) = v := IntWalk.i64_in _ (by omega)
      have hvn : v < n := by omega
      have d0 := hF.cell hvn
      have f0 := hF.free v
      have hcs := (cpyG_succ f a b j).symm
      rw [hv] at hcs
      have hp := hF.put hvn (f (a + j))
      rw [hcs] at hp
      have Hp := Lib.hid hp
      generalize f (a + j) = x at *
      have j1 : (j : Int) < z := by omega
      have j2 : (0 : Int) ≤ j := by omega
      have j3 : ((j : Int)).toNat = j := by omega
      have j4 : (j : Int) ≤ 256 := by omega
      clear hF hp hcs hv
      go_wp2
      go_roundw
      case rel => exact ⟨j + 1, by go_num, by omega, Hp.out⟩
      case measure => simp [intOf]; omega
    · obtain rfl : j = z := by omega
      have j1 : ¬ (j : Int) < j := by omega
      have HF := Lib.hid hF.tail
      clear hF
      go_wp2
      go_ret
      exact ⟨rfl, HF.out⟩
theorem rcopy_any (h : RF W0 m n t g bl f K w) (hf : Small n f) (c : Nat) (hc : n ≤ c) (hc2 : c ≤ maxLen) (a b : Int) (hb2 : b ≤ 9223372036854775807) :
    Calls Try.prog 130 #[.slice (some ⟨bl, 0, none⟩) n c, .int .i64 a, .int .i64 b] w fun e w' => e = .returned (.int .i64 (cpE n f a b)) ∧ RF W0 m n t g bl (cpG n f a b) K w' := by
  unfold cpG
  by_cases h0 : rdE n f a = 0
  · by_cases hb : b ≤ 0
    · have he : cpE n f a b = 5 := by unfold cpE; rw [if_pos h0, if_pos hb]
      rw [he, if_neg (by omega)]
      exact rcopy_out h hf c a b h0 5 hb2 (.inl ⟨hb, rfl⟩)
    · by_cases hfit : a + rdS n f a < n ∧ b + rdS n f a < n
      · have he : cpE n f a b = 0 := by unfold cpE; rw [if_pos h0, if_neg hb, if_pos hfit]
        rw [he, if_pos rfl]
        obtain ⟨ha1, ha2, -⟩ := rdE_zero h0
        obtain ⟨an, rfl⟩ : ∃ an : Nat, a = an := ⟨a.toNat, by omega⟩
        obtain ⟨bn, rfl⟩ : ∃ bn : Nat, b = bn := ⟨b.toNat, by omega⟩
        exact rcopy_ok h hf c an bn hc hc2 h0 (by omega) (by omega)
      · have he : cpE n f a b = 11 := by unfold cpE; rw [if_pos h0, if_neg hb, if_neg hfit]
        rw [he, if_neg (by omega)]
        exact rcopy_out h hf c a b h0 11 hb2 (.inr ⟨by omega, hfit, rfl⟩)
  · have he : cpE n f a b = rdE n f a := by unfold cpE; rw [if_neg h0]
    rw [he, if_neg h0]
    exact rcopy_err h hf c a b h0
end
end Go.Proofs.Ytkcijlndblbidaa
