/- Plain: how long a graph's bytes are; how much is read of so many bytes; that what was written is read as it was. The first theorems are turned from wire's text. -/
import Derived.Test.YtplkogjnmjjjgaaCRNode
import Derived.Test.YtplkogjnmjjjgaaCPut
namespace Go.Proofs.Ytplkogjnmjjjgaa
open Go.ChangeShapes Go.WideShapes Go.ChangeAt Go.RowKit
set_option linter.unusedVariables false
set_option linter.unusedSimpArgs false
open Wr.Wire

namespace Bk
theorem ofNat_toNat {m : Nat} (h : m < 256) : (UInt8.ofNat m).toNat = m := by rw [UInt8.toNat_ofNat']; omega
theorem rd_num (k : Nat) : ∀ (i n m : Nat) (r : List UInt8), i + k = 9 → m < 128 ^ (k + 1) → m * 128 ^ i < 18446744073709551616 → (0 < i → m ≠ 0) →
    rd i n (numF k m ++ r) = (n + m * 128 ^ i, i + (numF k m).length, 0) := by
  induction k with
  | zero =>
    intro i n m r hik hm hb h0
    obtain rfl : i = 9 := by omega
    have e9 : (128 : Nat) ^ 9 = 9223372036854775808 := by decide
    have h1 : m ≤ 1 := by rw [e9] at hb; omega
    have hc := ofNat_toNat (m := m) (by omega)
    unfold numF
    rw [List.singleton_append, rd_end (by rw [hc]; omega) (by rw [hc]; omega), hc, Nat.mod_eq_of_lt (by omega : m < 128)]
    rfl
  | succ k ih =>
    intro i n m r hik hm hb h0
    by_cases hs : m < 128
    · have hc := ofNat_toNat (m := m) (by omega)
      rw [numF_small hs, List.singleton_append, rd_end (by rw [hc]; omega) (by rw [hc]; omega), hc, Nat.mod_eq_of_lt hs]
      rfl
    · have hc := ofNat_toNat (m := m % 128 + 128) (by omega)
      have e1 : m / 128 * 128 ^ (i + 1) + m % 128 * 128 ^ i = m * 128 ^ i := by
        rw [Nat.pow_succ, Nat.mul_comm (128 ^ i) 128, ← Nat.mul_assoc, ← Nat.add_mul]
        congr 1
        omega
      rw [numF_great (by omega), List.cons_append, rd_more (by rw [hc]; omega) (by rw [hc]; omega), hc, show (m % 128 + 128) % 128 = m % 128 by omega]
      rw [ih (i + 1) _ (m / 128) r (by omega) (by
        rw [Nat.pow_succ] at hm
        omega) (by omega) (by omega)]
      rw [List.length_cons, show n + m % 128 * 128 ^ i + m / 128 * 128 ^ (i + 1) = n + m * 128 ^ i by omega, show i + 1 + (numF k (m / 128)).length = i + ((numF k (m / 128)).length + 1) by omega]
theorem readNum_num {n : Nat} (h : n < 18446744073709551616) (r : List UInt8) : readNum (num n ++ r) = (n, (num n).length, 0) := by
  unfold readNum num
  rw [rd_num 9 0 0 n r rfl (by have e : (128 : Nat) ^ (9 + 1) = 1180591620717411303424 := by decide
                               omega) (by omega) (by omega)]
  simp
theorem un_fix (k : Nat) : ∀ n, un (fixF k n) = n % 256 ^ k := by
  induction k with
  | zero => intro n; simp [fixF, un, Nat.mod_one]
  | succ k ih =>
    intro n
    have h : n % 256 ^ (k + 1) = n % 256 + 256 * (n / 256 % 256 ^ k) := by rw [Nat.pow_succ, Nat.mul_comm, Nat.mod_mul]
    simp only [fixF, un, ih]
    rw [h, UInt8.toNat_ofNat']
theorem readFix_fix {n : Nat} (h : n < 18446744073709551616) (r : List UInt8) : readFix (fix n ++ r) = (n, 8, 0) := by
  have hl : (fix n).length = 8 := fixF_length 8 n
  unfold readFix
  rw [if_neg (by rw [List.length_append]; omega), List.take_append_of_le_length (by omega), List.take_of_length_le (by omega)]
  unfold fix
  rw [un_fix, Nat.mod_eq_of_lt (by have e : (256 : Nat) ^ 8 = 18446744073709551616 := by decide
                                   omega)]
theorem zag_zig {x : Int} (_h0 : -9223372036854775808 ≤ x) (_h1 : x ≤ 9223372036854775807) : zag (zig x) = x := by
  unfold zag zig
  split <;> split <;> omega
theorem zig_lt {x : Int} (h0 : -9223372036854775808 ≤ x) (h1 : x ≤ 9223372036854775807) : zig x < 18446744073709551616 := by
  unfold zig; split <;> omega
end Bk
theorem flat_len {α : Type} {f : α → List UInt8} {c : Nat} (h : ∀ z, (f z).length ≤ c) : ∀ l : List α, (l.flatMap f).length ≤ c * l.length
  | [] => by simp
  | x :: l => by
    have h1 := h x
    have h2 := flat_len h l
    rw [List.flatMap_cons, List.length_append, List.length_cons, Nat.mul_add]
    omega
theorem intsB_len (l : List Int) : (intsB l).length ≤ 10 + 10 * l.length := by
  have h1 := num_length l.length
  have h2 := flat_len (f := int) (c := 10) (fun z => num_length (zig z)) l
  unfold intsB
  rw [List.length_append]
  omega
theorem fltsB_len (l : List Int) : (fltsB l).length ≤ 10 + 10 * l.length := by
  have h1 := num_length l.length
  have h2 := flat_len (f := fun z : Int => fix z.toNat) (c := 10) (fun z => by have := fixF_length 8 z.toNat; unfold fix; omega) l
  unfold fltsB
  rw [List.length_append]
  omega
theorem wrdsB_len (l : List Int) : (wrdsB l).length ≤ 10 + 10 * l.length := by
  have h1 := num_length l.length
  have h2 := flat_len (f := fun z : Int => num z.toNat) (c := 10) (fun z => num_length z.toNat) l
  unfold wrdsB
  rw [List.length_append]
  omega
theorem nodeB_len (x : Nd) : (nodeB x).length ≤ 30 * szN x := by
  have h1 := intsB_len x.ps
  have h2 := fltsB_len x.fs
  have h3 := wrdsB_len x.ws
  unfold nodeB szN
  simp only [List.length_append]
  omega
theorem nodesB_len : ∀ l : List Nd, (l.flatMap nodeB).length ≤ 30 * totN l
  | [] => by simp [totN]
  | x :: l => by
    have h1 := nodeB_len x
    have h2 := nodesB_len l
    unfold totN at h2 ⊢
    rw [List.flatMap_cons, List.length_append, List.map_cons, List.sum_cons, Nat.mul_add]
    omega
theorem graphB_len (g : Gr) : (graphB g).length ≤ 10 * g.rs.length + 20 + 30 * totN g.ns := by
  have h1 := intsB_len g.rs
  have h2 := nodesB_len g.ns
  have h3 := num_length g.ns.length
  unfold graphB
  simp only [List.length_append]
  omega
theorem sum_few {f : Nat → Nat} : ∀ (N : Nat) (l : List Int), l.Nodup → (∀ k ∈ l, 0 ≤ k ∧ k < N) → (l.map fun k => f k.toNat).sum ≤ ((List.range N).map f).sum
  | 0, l, _, h => by
    cases l with
    | nil => simp
    | cons a l => have := h a (List.mem_cons_self ..); omega
  | N + 1, l, hn, h => by
    rw [List.range_succ, List.map_append, List.sum_append]
    by_cases hm : (N : Int) ∈ l
    · have hp := (List.perm_cons_erase hm).map (fun k : Int => f k.toNat)
      rw [hp.sum_nat, List.map_cons, List.sum_cons]
      have ih := sum_few (f := f) N (l.erase (N : Int)) (hn.erase _) (fun k hk => by
        have h1 := (hn.mem_erase_iff).1 hk
        have h2 := h k h1.2
        have h3 := h1.1
        omega)
      simp
      omega
    · have ih := sum_few (f := f) N l hn (fun k hk => by
        have h2 := h k hk
        have h3 : k ≠ N := fun e => hm (e ▸ hk)
        omega)
      omega
theorem totN_range (ns : List Nd) : totN ns = ((List.range ns.length).map fun i => szN (ns.getD i default)).sum := by
  unfold totN
  congr 1
  apply List.ext_getElem?
  intro i
  rw [List.getElem?_map, List.getElem?_map]
  by_cases h : i < ns.length
  · rw [List.getElem?_range h, List.getElem?_eq_getElem h]
    simp [List.getD_eq_getElem?_getD, List.getElem?_eq_getElem h]
  · rw [List.getElem?_eq_none (by omega), List.getElem?_eq_none (by simp; omega)]
    rfl
theorem totN_trim {g : Gr} (h : mayG g = true) : totN (trimG g).ns ≤ totN g.ns := by
  have hOk := walkG_ok h
  rw [totN_range g.ns]
  have := sum_few (f := fun i => szN (g.ns.getD i default)) g.ns.length (walkG g).al hOk.nd (fun k hk => hOk.lt k hk)
  refine Nat.le_trans (Nat.le_of_eq ?_) this
  unfold totN trimG
  rw [List.map_map]
  congr 1
  refine List.map_congr_left fun k hk => ?_
  simp [szN, psAt]
theorem trimB_len {g : Gr} (h : mayG g = true) : (graphB (trimG g)).length ≤ 10 * g.rs.length + 20 + 30 * totN g.ns := by
  have h1 := graphB_len (trimG g)
  have h2 := totN_trim h
  rw [trimG_rlen] at h1
  omega
theorem near_len {g : Gr} (hf : farG g = false) (h : mayG g = true) : (graphB (trimG g)).length ≤ 900000 := by
  have h1 := trimB_len h
  unfold farG at hf
  rw [Bool.or_eq_false_iff, decide_eq_false_iff_not, decide_eq_false_iff_not] at hf
  omega
/-- how much is read -/
theorem manyP_eat {α : Type} {one : Rs → α × Rs} (h : Eats one) : ∀ (n : Nat) (s : Rs), (manyP one n s).1.length + (manyP one n s).2.1.length ≤ s.1.length + 1
  | 0, s => by simp [manyP_zero]
  | n + 1, s => by
    by_cases h0 : s.2 = 0
    · rw [manyP_more h0]
      have h1 := (h s).1
      simp only [List.length_cons]
      by_cases e : (one s).2.2 = 0
      · have h2 := (h s).2.1 h0 e
        have h3 := manyP_eat h n (one s).2
        omega
      · rw [manyP_bad e]
        simp
        omega
    · rw [manyP_bad h0]
      simp
theorem rowP_eat {α : Type} {one : Rs → α × Rs} (h : Eats one) (s : Rs) : (rowP one s).1.length + (rowP one s).2.1.length ≤ s.1.length := by
  by_cases h0 : s.2 = 0
  · by_cases e : (numP s).2.2 = 0
    · have h1 := (numP_eats s).2.1 h0 e
      have h2 := manyP_eat h (numP s).1 (numP s).2
      unfold rowP
      omega
    · have h1 := (numP_eats s).1
      unfold rowP
      rw [manyP_bad e]
      simpa using h1
  · rw [rowP_bad h0]
    simp
theorem nodeP_eat (s : Rs) : szN (nodeP s).1 + (nodeP s).2.1.length ≤ s.1.length + 1 := by
  have h1 := rowP_eat intP_eats s
  have h2 := rowP_eat fltP_eats (rowP intP s).2
  have h3 := rowP_eat wrdP_eats (rowP fltP (rowP intP s).2).2
  unfold nodeP szN
  dsimp only
  omega
theorem manyP_tot : ∀ (n : Nat) (s : Rs), totN (manyP nodeP n s).1 + (manyP nodeP n s).2.1.length ≤ s.1.length + (manyP nodeP n s).1.length
  | 0, s => by simp [manyP_zero, totN]
  | n + 1, s => by
    by_cases h0 : s.2 = 0
    · rw [manyP_more h0]
      have h1 := nodeP_eat s
      have h2 := manyP_tot n (nodeP s).2
      unfold totN at h2 ⊢
      simp only [List.map_cons, List.sum_cons, List.length_cons]
      omega
    · rw [manyP_bad h0]
      simp [totN]
theorem graphP_tot (s : Rs) : (graphP s).1.rs.length + totN (graphP s).1.ns ≤ 2 * s.1.length + 1 := by
  have h1 := rowP_eat intP_eats s
  have h2 := (numP_eats (rowP intP s).2).1
  have h3 := manyP_tot (numP (rowP intP s).2).1 (numP (rowP intP s).2).2
  have h4 := (manyP_len nodeP_eats (numP (rowP intP s).2).1 (numP (rowP intP s).2).2).1
  have h5 := (rowP_eats intP_eats s).1
  have h6 := rowP_eat nodeP_eats (rowP intP s).2
  unfold graphP
  dsimp only
  unfold rowP at h1 h5 h6 ⊢
  unfold rowP at h2 h3 h4
  omega
theorem len_tot (ns : List Nd) : ns.length ≤ totN ns := by
  induction ns with
  | nil => simp [totN]
  | cons x ns ih =>
    unfold totN at ih ⊢
    rw [List.map_cons, List.sum_cons, List.length_cons]
    have : 1 ≤ szN x := by unfold szN; omega
    omega
theorem few_tot {g : Gr} (h : g.rs.length + totN g.ns ≤ 3000) : FewG g := by
  refine ⟨by have := len_tot g.ns; omega, by omega, fun x hx => ?_⟩
  have := totN_mem hx
  unfold szN at this
  omega
end Go.Proofs.Ytplkogjnmjjjgaa
