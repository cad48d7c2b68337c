/- Objects in a full memory: Copy itself. -/
import Derived.Test.YtkcijlndblbidaaOCopy
namespace Go.Proofs.Ytkcijlndblbidaa
open Go.ChangeShapes Go.WideShapes Go.ChangeAt Go.RowKit
set_option linter.unusedVariables false

def rdS (n : Nat) (g : Nat → Nat) (a : Int) : Nat := rdP n g a + rdF n g a + rdO n g a
theorem is_ok {x : Nat} (h : Hd.Is x) : Hd.Ok (Hd.tp x) (Hd.tf x) (Hd.to x) := h.1
theorem rd_ok {n : Nat} {g : Nat → Nat} {a : Int} (h : rdE n g a = 0) : Hd.Ok (rdP n g a) (rdF n g a) (rdO n g a) := by
  unfold rdP rdF rdO
  rw [if_pos h, if_pos h, if_pos h]
  exact is_ok (rdE_zero h).2.2
/-- the error of a copy, and the words behind it -/
def cpE (n : Nat) (g : Nat → Nat) (a b : Int) : Int := if rdE n g a = 0 then (if b ≤ 0 then 5 else if a + rdS n g a < n ∧ b + rdS n g a < n then 0 else 11) else rdE n g a
def cpG (n : Nat) (g : Nat → Nat) (a b : Int) : Nat → Nat := if cpE n g a b = 0 then cpyG g a.toNat b.toNat (rdS n g a + 1) else g
theorem cpG_small {n : Nat} {g : Nat → Nat} (h : Small n g) (a b : Int) : Small n (cpG n g a b) := by
  unfold cpG
  split
  · rename_i h1
    unfold cpE at h1
    split at h1
    · rename_i h0
      have := rdE_zero h0
      split at h1
      · omega
      · split at h1
        · exact cpyG_small h (by omega)
        · omega
    · contradiction
  · exact h
theorem seG_small {n : Nat} {g : Nat → Nat} (h : Small n g) (a i k : Int) {x : Nat} (hx : x < 18446744073709551616) : Small n (seG n g a i k x) := fun b hb => by
  unfold seG
  split
  · unfold putG
    split
    · exact hx
    · exact h b hb
  · exact h b hb
theorem spG_small {n : Nat} {g : Nat → Nat} (h : Small n g) (a i p : Int) : Small n (spG n g a i p) := fun b hb => by
  unfold spG
  split
  · rename_i h1
    unfold spE at h1
    split at h1
    · split at h1
      · omega
      · unfold putG
        split
        · omega
        · exact h b hb
    · contradiction
  · exact h b hb
section
variable {W0 : World} {m n t b4 b5 b7 a b p f o : Nat} {g : Nat → Nat} {K : List (Nat × Obj)} {w : World}
theorem copy_run (p f o : Nat) (ha : a < n) (hb : b < 9223372036854775808) (hok : Hd.Ok p f o) (hg : Small n g) (h : FK W0 m n t g (K ++ [(b7, .cells #[.int .i64 p, .int .i64 f, .int .i64 o] 106 (0, 0)), (b5, .cells #[.int .i64 b] 3 (0, 0)), (b4, .cells #[.int .i64 a] 3 (0, 0))]) w) :
    Calls Try.prog 52 #[spc m, .func (.func 138) #[] #[.pointer (some ⟨b7, 0, none⟩), .pointer (some ⟨b4, 0, none⟩), .pointer (some ⟨b5, 0, none⟩)]] w fun e' W' => ∃ at_ : Int, e' = .returned (.agg #[.int .i64 (if a + (p + f + o) < n ∧ b + (p + f + o) < n then 0 else 11), .int .i64 at_]) ∧ FK W0 m n t (if a + (p + f + o) < n ∧ b + (p + f + o) < n then cpyG g a b (p + f + o + 1) else g) K W' := by
  have hK : ∀ z ∈ [(b7, Obj.cells #[.int .i64 p, .int .i64 f, .int .i64 o] 106 (0, 0)), (b5, .cells #[.int .i64 b] 3 (0, 0)), (b4, .cells #[.int .i64 a] 3 (0, 0))], ∀ cs, z.2 ≠ .cells cs 83 (0, 0) := by
    intro z hz cs e
    simp only [List.mem_cons, List.not_mem_nil, or_false] at hz
    rcases hz with rfl | rfl | rfl <;> simp at e
  have hsub : ∀ {g' : Nat → Nat} {K' : List (Nat × Obj)} {W' : World}, FK W0 m n t g' (K ++ K') W' → FK W0 m n t g' K W' := fun hF => hF.sub fun x hx => List.mem_append_left _ hx
  unfold spc
  have hd := fun wk => copy1_does (W0 := W0) (m := m) (wk := wk) (t := t) (b4 := b4) (b5 := b5) (b7 := b7) (K := [(b7, Obj.cells #[.int .i64 p, .int .i64 f, .int .i64 o] 106 (0, 0)), (b5, .cells #[.int .i64 b] 3 (0, 0)), (b4, .cells #[.int .i64 a] 3 (0, 0))]) (by simp) (by simp) (by simp) hK ha hb hok hg
  by_cases hfit : a + (p + f + o) < n ∧ b + (p + f + o) < n
  · rw [if_pos hfit, if_pos hfit]
    have he2 : copyEnd n a b (p + f + o) = .returned (.tuple #[]) := by unfold copyEnd; rw [if_pos hfit.1, if_pos hfit.2]
    rw [he2] at hd
    refine (run_ret (W0 := W0) (m := m) (n := n) (t := t) (g := g) (R := fun g' K' => g' = cpyG g a b (p + f + o + 1)) (fun wk E W hW => (part_ok copy1_enter (hd wk) E W hW).mono fun e' W' ⟨he, g', l', K', hr, hk, hT⟩ => ⟨he, g', l', K', hr.2.2.2 hfit.1 hfit.2, hk, hT⟩) K w h).mono fun e' W' ⟨he, g', K', hr, hk, hT⟩ => ⟨_, he, ?_⟩
    rw [hr] at hT
    exact hsub hT
  · rw [if_neg hfit, if_neg hfit]
    obtain ⟨at_, he2⟩ : ∃ at_, copyEnd n a b (p + f + o) = .panicked [{ v := thrownV 11 at_, recovered := false }] := by
      unfold copyEnd
      split
      · rw [if_neg (by omega)]
        exact ⟨_, rfl⟩
      · exact ⟨_, rfl⟩
    rw [he2] at hd
    refine (run_ret (W0 := W0) (m := m) (n := n) (t := t) (g := g) (R := fun g' K' => ∀ b, g b = g' b) (fun wk E W hW => (part_thrown copy1_enter (hd wk) (fun g' l' K' hr => ⟨by simp, by have := hr.2.1; omega⟩) E W hW).mono fun e' W' ⟨he, g', l', K', hr, hk, hT⟩ => ⟨he, _, _, K', fun b => (hr.1.undone.1 b).symm, hk, hT⟩) K w h).mono fun e' W' ⟨he, g', K', hr, hk, hT⟩ => ⟨_, he, ?_⟩
    exact hsub (hT.same fun p _ => hr p)
set_option maxRecDepth 100000 in
theorem copy_fk (h : FK W0 m n t g K w) (hg : Small n g) (a b : Int) (hb2 : b ≤ 9223372036854775807) :
    Calls Try.prog 86 #[spc m, .int .i64 a, .int .i64 b] w fun e w' => e = .returned (.int .i64 (cpE n g a b)) ∧ FK W0 m n t (cpG n g a b) K w' := by
  have hmf : ∀ (fn : Fn) (first cap : Array Value) (w : World), (Instr.makeFunc fn first cap).run Try.prog w = .ok (.func fn first cap) w := fun _ _ _ _ => rfl
  have hfe : ∀ (x y : Int) (w : World), (Instr.field 83 (.agg #[.int .i64 x, .int .i64 y]) 0).run Try.prog w = .ok (.int .i64 x) w := fun x y w => fault_err _ _ w
  have hB := (h.box #[.int .i64 a] 3).box #[.int .i64 b] 3
  rw [heap_size_alloc] at hB
  have HRD := read_fk hB hg a
  unfold rdV Hd.hv at HRD
  unfold cpG
  by_cases h0 : rdE n g a = 0
  · obtain ⟨ha1, ha2, -⟩ := rdE_zero h0
    have hok := rd_ok h0
    obtain ⟨an, rfl⟩ : ∃ an : Nat, a = an := ⟨a.toNat, by omega⟩
    by_cases hb : b ≤ 0
    · have he : cpE n g an b = 5 := by unfold cpE; rw [if_pos h0, if_pos hb]
      rw [he, if_neg (by omega)]
      rw [h0] at HRD
      clear he h0 h hB hok
      generalize rdP n g an = p at *
      generalize rdF n g an = f at *
      generalize rdO n g an = o at *
      have HR := Lib.hid HRD
      clear HRD
      unfold spc at *
      go_enter Try.func86, Try.ntmps86
      go_wp2_with (go_at_call 78; refine HR.out.mono ?_; rintro e w1 ⟨rfl, h1⟩; have h2 := h1.box #[.int .i64 p, .int .i64 f, .int .i64 o] 106; have c5 := at_cell (h2.block (List.mem_cons_of_mem _ (List.mem_cons_self ..))) 0 _ rfl; have H1 := Lib.hid h2.tail.tail.tail; clear h1 h2)
      go_ret
      exact ⟨rfl, H1.out⟩
    · obtain ⟨bn, rfl⟩ : ∃ bn : Nat, b = bn := ⟨b.toNat, by omega⟩
      have hR := fun (b4 b5 b7 : Nat) (w : World) h => copy_run (b5 := b5) (b4 := b4) (b7 := b7) (W0 := W0) (m := m) (t := t) (w := w) (K := K) (g := g) (rdP n g an) (rdF n g an) (rdO n g an) (show an < n by omega) (show bn < 9223372036854775808 by omega) hok hg h
      have he : cpE n g an bn = if an + (rdP n g an + rdF n g an + rdO n g an) < n ∧ bn + (rdP n g an + rdF n g an + rdO n g an) < n then 0 else 11 := by
        unfold cpE rdS
        rw [if_pos h0, if_neg hb]
        by_cases hf : an + (rdP n g an + rdF n g an + rdO n g an) < n ∧ bn + (rdP n g an + rdF n g an + rdO n g an) < n
        · rw [if_pos (by omega), if_pos hf]
        · rw [if_neg (by omega), if_neg hf]
      have hgo : (if cpE n g an bn = 0 then cpyG g (an : Int).toNat (bn : Int).toNat (rdS n g an + 1) else g) = (if an + (rdP n g an + rdF n g an + rdO n g an) < n ∧ bn + (rdP n g an + rdF n g an + rdO n g an) < n then cpyG g an bn (rdP n g an + rdF n g an + rdO n g an + 1) else g) := by
        rw [he]
        by_cases hf : an + (rdP n g an + rdF n g an + rdO n g an) < n ∧ bn + (rdP n g an + rdF n g an + rdO n g an) < n
        · rw [if_pos hf, if_pos rfl, if_pos hf]
          rfl
        · rw [if_neg hf, if_neg (by omega), if_neg hf]
      rw [hgo, he]
      rw [h0] at HRD
      clear he hgo h0 h hB hok
      generalize rdP n g an = p at *
      generalize rdF n g an = f at *
      generalize rdO n g an = o at *
      generalize (if an + (p + f + o) < n ∧ bn + (p + f + o) < n then cpyG g an bn (p + f + o + 1) else g) = gE at *
      generalize (if an + (p + f + o) < n ∧ bn + (p + f + o) < n then (0 : Int) else 11) = er at *
      have HR := Lib.hid HRD
      have HN := Lib.hid hR
      have h1 : (0 : Int) < bn := by omega
      clear HRD hR hb
      unfold spc at *
      go_enter Try.func86, Try.ntmps86
      go_wp2_with (first
        | (go_at_call 78; refine HR.out.mono ?_; rintro e w1 ⟨rfl, h1⟩; have h2 := h1.box #[.int .i64 p, .int .i64 f, .int .i64 o] 106; have c5 := at_cell (h2.block (List.mem_cons_of_mem _ (List.mem_cons_self ..))) 0 _ rfl; have H1 := Lib.hid h2; clear h1 h2)
        | (go_at_call 52; refine (HN.out _ _ _ _ (H1.out.sub (mem_swap3 _ _ _ _))).mono ?_; rintro e w2 ⟨at_, rfl, h2⟩; have H2 := Lib.hid h2; clear h2))
      go_ret
      exact ⟨rfl, H2.out⟩
  · have he : cpE n g a b = rdE n g a := by unfold cpE; rw [if_neg h0]
    rw [he, if_neg h0]
    clear he h hB
    generalize rdP n g a = p at *
    generalize rdF n g a = f at *
    generalize rdO n g a = o at *
    generalize rdE n g a = er at *
    have HR := Lib.hid HRD
    have b1 : (er != 0) = true := by rw [bne_iff_ne]; exact h0
    clear HRD h0
    unfold spc at *
    go_enter Try.func86, Try.ntmps86
    go_wp2_with (go_at_call 78; refine HR.out.mono ?_; rintro e w1 ⟨rfl, h1⟩; have H1 := Lib.hid ((h1.box #[.int .i64 p, .int .i64 f, .int .i64 o] 106).tail.tail.tail); clear h1)
    go_ret
    exact ⟨rfl, H1.out⟩
end
end Go.Proofs.Ytkcijlndblbidaa
