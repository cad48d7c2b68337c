/- Plain, and arguments: a turned graph with a node beside it; a trim with one word changed. -/
import Derived.Test.YtplkogjnmjjjgaaGTurn2
namespace Go.Proofs.Ytplkogjnmjjjgaa
open Go.ChangeShapes Go.WideShapes Go.ChangeAt Go.RowKit Go.Maps
set_option linter.unusedVariables false
set_option linter.unusedSimpArgs false

def addG (g : Gr) (x : Nd) : Gr := ⟨g.rs, g.ns ++ [x]⟩
theorem swI_swI {i k n : Int} : swI i k (swI i k n) = n := by
  unfold swI
  by_cases h1 : n = i
  · subst h1
    by_cases h2 : k = n
    · subst h2; simp
    · rw [if_pos rfl, if_neg h2, if_pos rfl]
  · rw [if_neg h1]
    by_cases h2 : n = k
    · subst h2
      rw [if_pos rfl]
      simp
    · rw [if_neg h2, if_neg h1, if_neg h2]
theorem swI_in {i k n : Int} {N M : Nat} (hi : 0 ≤ i ∧ i < N) (hk : 0 ≤ k ∧ k < N) (hNM : N ≤ M) (h : inr N n = true) : inr M (swI i k n) = true := by
  unfold inr at h ⊢
  have h := of_decide_eq_true h
  refine decide_eq_true ?_
  unfold swI
  split
  · omega
  · split <;> omega
theorem turn_len (i k : Int) (g : Gr) : (turnG i k g).ns.length = g.ns.length := by simp [turnG]
theorem add_len (i k : Int) (g : Gr) (x : Nd) : (addG (turnG i k g) x).ns.length = g.ns.length + 1 := by simp [addG, turnG]
theorem add_at {i k : Int} {g : Gr} {x : Nd} {n : Nat} (h : n < g.ns.length) : (addG (turnG i k g) x).ns.getD n default = trnN i k g n := by
  unfold addG turnG
  rw [List.getD_eq_getElem?_getD, List.getElem?_append_left (by simpa using h), List.getElem?_map, List.getElem?_range h]
  rfl
theorem mayN_of {g : Gr} (h : mayG g = true) {n : Nat} (hn : n < g.ns.length) : mayN g.ns.length (g.ns.getD n default) = true := by
  unfold mayG at h
  rw [Bool.and_eq_true, List.all_eq_true, List.all_eq_true] at h
  exact h.2 _ (getD_mem default hn)
theorem add_may {i k : Int} {g : Gr} {x : Nd} (h : mayG g = true) (hi : 0 ≤ i ∧ i < g.ns.length) (hk : 0 ≤ k ∧ k < g.ns.length) (hx : x.ps.length + x.fs.length + x.ws.length ≤ 255) (hp : ∀ q ∈ x.ps, inr (g.ns.length + 1) q = true) : mayG (addG (turnG i k g) x) = true := by
  unfold mayG
  rw [add_len, Bool.and_eq_true, List.all_eq_true, List.all_eq_true]
  refine ⟨fun q hq => ?_, fun y hy => ?_⟩
  · obtain ⟨r, hr, rfl⟩ := List.mem_map.1 hq
    exact swI_in hi hk (by omega) (mayG_roots h r hr)
  · rcases List.mem_append.1 hy with hy | hy
    · obtain ⟨n, hn, rfl⟩ := List.mem_map.1 hy
      rw [List.mem_range] at hn
      obtain ⟨q, hq, hqN⟩ := swI_lt hi hk hn
      have := mayN_of h hqN
      unfold mayN at this ⊢
      unfold trnN
      rw [hq, Int.toNat_natCast]
      rw [Bool.and_eq_true] at this ⊢
      refine ⟨by simpa using this.1, ?_⟩
      rw [List.all_eq_true] at this ⊢
      intro z hz
      obtain ⟨y, hy, rfl⟩ := List.mem_map.1 hz
      exact swI_in hi hk (by omega) (this.2 y hy)
    · simp only [List.mem_singleton] at hy
      subst hy
      unfold mayN
      rw [Bool.and_eq_true, List.all_eq_true]
      exact ⟨decide_eq_true (by unfold Hd.Ok; omega), hp⟩
theorem add_trim {i k : Int} {g : Gr} {x : Nd} (h : mayG g = true) (hi : 0 ≤ i ∧ i < g.ns.length) (hk : 0 ≤ k ∧ k < g.ns.length) (hx : x.ps.length + x.fs.length + x.ws.length ≤ 255) (hp : ∀ q ∈ x.ps, inr (g.ns.length + 1) q = true) : trimG (addG (turnG i k g) x) = trimG g := by
  refine (trim_turn (σ := swI i k) h (add_may h hi hk hx hp) ⟨fun z hz => ?_, fun z hz => ?_, fun a ha b hb e => ?_⟩ rfl fun z hz => ?_).2
  · unfold swI
    rw [if_neg (by omega), if_neg (by omega)]
    exact hz
  · have := (walkG_ok h).lt z hz
    unfold swI
    split
    · omega
    · split <;> omega
  · rw [← swI_swI (i := i) (k := k) (n := a), e, swI_swI]
  · have hz2 := (walkG_ok h).lt z hz
    obtain ⟨n, rfl⟩ : ∃ n : Nat, z = n := ⟨z.toNat, by omega⟩
    obtain ⟨q, hq, hqN⟩ := swI_lt (n := n) hi hk (by omega)
    rw [hq, Int.toNat_natCast, add_at hqN]
    unfold trnN psAt
    rw [← hq, swI_swI, Int.toNat_natCast]
theorem add_few {i k : Int} {g : Gr} {x : Nd} (h : NearG g) (hi : 0 ≤ i ∧ i < g.ns.length) (hk : 0 ≤ k ∧ k < g.ns.length) (hx : x.ps.length + x.fs.length + x.ws.length ≤ 255) : FewG (addG (turnG i k g) x) := by
  refine ⟨by rw [add_len]; have := h.ns; omega, by simp [addG, turnG]; exact h.rs, fun y hy => ?_⟩
  rcases List.mem_append.1 hy with hy | hy
  · obtain ⟨n, hn, rfl⟩ := List.mem_map.1 hy
    rw [List.mem_range] at hn
    obtain ⟨q, hq, hqN⟩ := swI_lt hi hk hn
    have := h.each q hqN
    unfold trnN
    rw [hq, Int.toNat_natCast]
    simpa using this
  · simp only [List.mem_singleton] at hy
    subst hy
    omega
theorem swI_isI {i k : Int} {l : List Int} {N : Nat} (hN : N ≤ 1000) (hi : 0 ≤ i ∧ i < N) (hk : 0 ≤ k ∧ k < N) (h : OkI l) : OkI (l.map (swI i k)) := fun j hj => by
  rw [List.length_map] at hj
  have h1 := h j hj
  rw [List.getD_eq_getElem?_getD, List.getElem?_map, List.getElem?_eq_getElem hj] at *
  simp only [Option.map_some, Option.getD_some] at *
  unfold swI
  split
  · exact WalkArith.wf_i64 (by omega)
  · split
    · exact WalkArith.wf_i64 (by omega)
    · exact h1
theorem turn_ok {i k : Int} {g : Gr} (h : OkG g) (hN : g.ns.length ≤ 1000) (hi : 0 ≤ i ∧ i < g.ns.length) (hk : 0 ≤ k ∧ k < g.ns.length) : OkG (turnG i k g) := by
  refine ⟨swI_isI hN hi hk h.rs, fun y hy => ?_⟩
  obtain ⟨n, hn, rfl⟩ := List.mem_map.1 hy
  exact ⟨swI_isI hN hi hk (h.at_ _).ps, (h.at_ _).fs, (h.at_ _).ws⟩
theorem add_ok {g : Gr} {x : Nd} (h : OkG g) (hx : OkN x) : OkG (addG g x) := by
  refine ⟨h.rs, fun y hy => ?_⟩
  rcases List.mem_append.1 hy with hy | hy
  · exact h.ns y hy
  · simp only [List.mem_singleton] at hy
    subst hy
    exact hx
/-- the walk hangs on the pointers alone -/
theorem walkL_same {ns ms : List Nd} (h : ∀ k, psAt ms k = psAt ns k) : ∀ (f i : Nat) (S : Mt), walkL ms f i S = walkL ns f i S := by
  intro f
  induction f with
  | zero => intro i S; rfl
  | succ f ih =>
    intro i S
    unfold walkL
    rw [h, ih]
theorem walkG_same {g h : Gr} (hr : h.rs = g.rs) (hl : h.ns.length = g.ns.length) (hp : ∀ k, psAt h.ns k = psAt g.ns k) : walkG h = walkG g := by
  unfold walkG
  rw [hr, hl, walkL_same hp]
theorem range_posP {L : Nat} {k : Int} (h : -1 ≤ k ∧ k < L) : posP ((List.range L).map fun (n : Nat) => (n : Int)) k = k := by
  by_cases hk : k < 0
  · rw [posP_out (by
      intro e
      rw [List.mem_map] at e
      obtain ⟨n, -, e⟩ := e
      omega)]
    omega
  · obtain ⟨n, rfl⟩ : ∃ n : Nat, k = n := ⟨k.toNat, by omega⟩
    have hn : n < L := by omega
    rw [posP_idx (List.mem_map.2 ⟨n, by simpa using hn, rfl⟩)]
    have hlt : n < ((List.range L).map fun (n : Nat) => (n : Int)).length := by simpa using hn
    have hnd : ((List.range L).map fun (n : Nat) => (n : Int)).Nodup := by
      rw [List.Nodup, List.pairwise_map]
      exact List.nodup_range.imp fun h e => h (by omega)
    have := hnd.idxOf_getElem n hlt
    rw [List.getElem_map, List.getElem_range] at this
    rw [this]
/-- a trim's nodes are met in their order -/
theorem trim_al {g : Gr} (h : mayG g = true) : (walkG (trimG g)).al = (List.range (walkG g).al.length).map fun (n : Nat) => (n : Int) := by
  rw [(trim_turn (σ := posP (walkG g).al) h (trimG_may h) (trimG_turn h) rfl fun k hk => by
    have hlt := List.idxOf_lt_length_iff.2 hk
    rw [posP_idx hk, Int.toNat_natCast, trimG_ns, List.getD_eq_getElem?_getD, List.getElem?_map, List.getElem?_eq_getElem hlt, List.getElem_idxOf hlt]
    rfl).1]
  refine List.ext_getElem (by simp) fun j h1 h2 => ?_
  rw [List.getElem_map, List.getElem_map, List.getElem_range]
  have hj : j < (walkG g).al.length := by simpa using h1
  rw [posP_idx (List.getElem_mem hj), (walkG_ok h).nd.idxOf_getElem j hj]
theorem trim_self {t : Gr} (h : mayG t = true) (hal : (walkG t).al = (List.range t.ns.length).map fun (n : Nat) => (n : Int)) : trimG t = t := by
  have hps : ∀ l : List Int, (∀ q ∈ l, inr t.ns.length q = true) → l.map (posP (walkG t).al) = l := fun l hl => by
    rw [hal]
    conv => rhs; rw [← List.map_id l]
    refine List.map_congr_left fun q hq => ?_
    have := hl q hq
    unfold inr at this
    have := of_decide_eq_true this
    exact range_posP (by omega)
  obtain ⟨rs, ns⟩ := t
  unfold trimG
  congr 1
  · exact hps rs (mayG_roots h)
  · simp only at *
    rw [hal, List.map_map]
    refine List.ext_getElem (by simp) fun j h1 h2 => ?_
    have hj : j < ns.length := by simpa using h1
    rw [List.getElem_map, List.getElem_range]
    show (⟨(psAt ns (j : Int)).map _, (ns.getD (j : Int).toNat default).fs, (ns.getD (j : Int).toNat default).ws⟩ : Nd) = _
    rw [← hal, hps (psAt ns (j : Int)) (mayG_ps h (j : Int))]
    unfold psAt
    rw [Int.toNat_natCast, List.getD_eq_getElem?_getD, List.getElem?_eq_getElem hj]
    rfl
/-- a graph with the first word of a node changed -/
def wordN (x : Nd) (u : Int) : Nd := ⟨x.ps, x.fs, x.ws.set 0 u⟩
def wordG (t : Gr) (j : Nat) (u : Int) : Gr := ⟨t.rs, t.ns.set j (wordN (t.ns.getD j default) u)⟩
theorem word_at {t : Gr} {j : Nat} {u : Int} (n : Nat) : (wordG t j u).ns.getD n default = if n = j ∧ j < t.ns.length then wordN (t.ns.getD j default) u else t.ns.getD n default := by
  unfold wordG
  rw [List.getD_eq_getElem?_getD, List.getElem?_set]
  by_cases e : j = n
  · subst e
    by_cases hl : j < t.ns.length
    · simp [hl]
    · simp [hl]
  · rw [if_neg e, if_neg (by omega), List.getD_eq_getElem?_getD]
theorem word_ps {t : Gr} {j : Nat} {u : Int} (k : Int) : psAt (wordG t j u).ns k = psAt t.ns k := by
  unfold psAt
  rw [word_at]
  split
  · rename_i h
    rw [h.1]
    rfl
  · rfl
theorem word_may {t : Gr} {j : Nat} {u : Int} (h : mayG t = true) : mayG (wordG t j u) = true := by
  have hl : (wordG t j u).ns.length = t.ns.length := by simp [wordG]
  unfold mayG
  rw [Bool.and_eq_true, List.all_eq_true, List.all_eq_true]
  refine ⟨fun q hq => by rw [hl]; exact mayG_roots h q hq, fun y hy => ?_⟩
  obtain ⟨n, hn, rfl⟩ := List.getElem_of_mem hy
  have e : (wordG t j u).ns[n] = (wordG t j u).ns.getD n default := by rw [List.getD_eq_getElem?_getD, List.getElem?_eq_getElem hn]; rfl
  rw [e, word_at, hl]
  rw [hl] at hn
  split
  · rename_i hh
    have := mayN_of h hh.2
    unfold mayN at this ⊢
    unfold wordN
    simpa using this
  · exact mayN_of h hn
theorem word_trim {g : Gr} {j : Nat} {u : Int} (h : mayG g = true) : trimG (wordG (trimG g) j u) = wordG (trimG g) j u := by
  have hl : (wordG (trimG g) j u).ns.length = (trimG g).ns.length := by simp [wordG]
  refine trim_self (word_may (trimG_may h)) ?_
  rw [walkG_same (g := trimG g) (h := wordG (trimG g) j u) rfl hl word_ps, trim_al h, hl, trimG_nlen]
theorem word_few {t : Gr} {j : Nat} {u : Int} (h : FewG t) : FewG (wordG t j u) := by
  have hl : (wordG t j u).ns.length = t.ns.length := by simp [wordG]
  refine ⟨by rw [hl]; exact h.ns, h.rs, fun y hy => ?_⟩
  obtain ⟨n, hn, rfl⟩ := List.getElem_of_mem hy
  have e : (wordG t j u).ns[n] = (wordG t j u).ns.getD n default := by rw [List.getD_eq_getElem?_getD, List.getElem?_eq_getElem hn]; rfl
  rw [e, word_at]
  rw [hl] at hn
  split
  · rename_i hh
    have := h.each _ (getD_mem default hh.2)
    simpa [wordN] using this
  · exact h.each _ (getD_mem default hn)
theorem word_same {t : Gr} {j : Nat} {u : Int} (hj : j < t.ns.length) (hw : 0 < (t.ns.getD j default).ws.length) : sameG t (wordG t j u) = ((t.ns.getD j default).ws.getD 0 0 == u) := by
  have hx : (t.ns.getD j default).ws = ((t.ns.getD j default).ws.getD 0 0) :: (t.ns.getD j default).ws.tail := by
    cases hh : (t.ns.getD j default).ws with
    | nil => rw [hh] at hw; cases hw
    | cons a l => rfl
  by_cases e : (t.ns.getD j default).ws.getD 0 0 = u
  · rw [show ((t.ns.getD j default).ws.getD 0 0 == u) = true from beq_iff_eq.2 e, sameG_iff]
    have h1 : wordN (t.ns.getD j default) u = t.ns.getD j default := by
      unfold wordN
      rw [hx, List.set_cons_zero, ← e, ← hx]
    unfold wordG
    rw [h1, List.getD_eq_getElem?_getD, List.getElem?_eq_getElem hj, Option.getD_some, List.set_getElem_self]
  · rw [show ((t.ns.getD j default).ws.getD 0 0 == u) = false by rw [beq_eq_false_iff_ne]; exact e, ← Bool.not_eq_true, sameG_iff]
    intro h
    apply e
    have h2 : (t.ns.getD j default).ws.getD 0 0 = ((wordG t j u).ns.getD j default).ws.getD 0 0 := congrArg (fun t : Gr => (t.ns.getD j default).ws.getD 0 0) h
    rw [word_at, if_pos ⟨rfl, hj⟩] at h2
    rw [h2]
    unfold wordN
    simp only
    rw [hx, List.set_cons_zero]
    rfl
theorem word_back {t : Gr} {j : Nat} {u : Int} (hj : j < t.ns.length) (hw : 0 < (t.ns.getD j default).ws.length) : wordG (wordG t j u) j ((t.ns.getD j default).ws.getD 0 0) = t := by
  have hl : (wordG t j u).ns.length = t.ns.length := by simp [wordG]
  refine sameG_iff.1 ?_ |>.symm
  have hw2 : 0 < ((wordG t j u).ns.getD j default).ws.length := by
    rw [word_at, if_pos ⟨rfl, hj⟩]
    simpa [wordN] using hw
  unfold sameG
  rw [Bool.and_eq_true, sameL_iff]
  refine ⟨decide_eq_true rfl, ?_⟩
  unfold wordG
  simp only [List.set_set]
  have hx : (t.ns.getD j default).ws = ((t.ns.getD j default).ws.getD 0 0) :: (t.ns.getD j default).ws.tail := by
    cases hh : (t.ns.getD j default).ws with
    | nil => rw [hh] at hw; cases hw
    | cons a l => rfl
  have h1 : wordN ((t.ns.set j (wordN (t.ns.getD j default) u)).getD j default) ((t.ns.getD j default).ws.getD 0 0) = t.ns.getD j default := by
    rw [List.getD_eq_getElem?_getD (l := t.ns.set j _), List.getElem?_set_self hj, Option.getD_some]
    clear hw2 hl
    generalize t.ns.getD j default = x at *
    obtain ⟨ps, fs, ws⟩ := x
    cases ws with
    | nil => cases hw
    | cons a l => rfl
  rw [h1, List.getD_eq_getElem?_getD, List.getElem?_eq_getElem hj, Option.getD_some, List.set_getElem_self]
set_option maxRecDepth 100000 in
theorem beside_of {H : Type} {enc : TypeId × Value → H} {w : World} {v : Value} {base : Nat} {d : DataW H} {p : List MemPlace} (hv : Value.okWide Try.prog w .any base 54 v) (h : DataW.Trod enc Try.prog w 0 (fun _ => true) true 54 v d p)
    {ts : List TypeId} {ds : List (DataW H)} (hsz : (DataW.weightsEach Try.prog ts ds).all (· ≤ reachBytes) = true) {j : Nat} (ht : ts[j]? = some 54) (hd : ds[j]? = some d) :
    ∃ (ap af aw : Option Addr) (x : Nd) (cp cf cw : Nat) (u : Int), v = .agg #[.slice ap x.ps.length cp, .slice af x.fs.length cf, .slice aw x.ws.length cw, .int .u64 u] ∧ NdR w ap af aw x ∧ (x.ps.length ≤ 2 ^ 47 ∧ x.fs.length ≤ 2 ^ 47 ∧ x.ws.length ≤ 2 ^ 47) ∧ (Lit.int .u64 u).wf = true := by
  obtain ⟨cs, rfl, hsz4⟩ := okWide_struct Try.underlying54 hv
  rw [show Try.prog.cellsOf 54 = 4 by kernel_rfl] at hsz4
  obtain ⟨c0, c1, c2, c3, rfl⟩ : ∃ c0 c1 c2 c3, cs = #[c0, c1, c2, c3] := by
    have : cs.toList.length = 4 := by simpa using hsz4
    match hh : cs.toList, this with
    | [c0, c1, c2, c3], _ => exact ⟨c0, c1, c2, c3, Array.toList_inj.1 (by rw [hh])⟩
  obtain ⟨fuel, hf⟩ := h
  obtain ⟨y0, y1, n, hx, _, h0, h1⟩ := trod_struct2 Try.underlying54 hf
  have en : Try.prog.cellsOf 47 = 3 := by kernel_rfl
  have eu : Try.prog.cellsOf 48 = 1 := by kernel_rfl
  simp only [en, Value.cells, List.drop_zero, List.take_succ_cons, List.take_zero] at h0
  simp only [eu, Value.cells, List.drop_succ_cons, List.drop_zero, List.take_succ_cons, List.take_zero] at h1
  obtain ⟨z0, z1, z2, n', hz, _, t0, t1, t2⟩ := Go.Deep.trod_struct3 Try.underlying47 h0
  have e8 : Try.prog.cellsOf 22 = 1 := by kernel_rfl
  have e64 : Try.prog.cellsOf 45 = 1 := by kernel_rfl
  simp only [e8, List.drop_zero, List.take_succ_cons, List.take_zero] at t0
  simp only [e64, List.drop_succ_cons, List.drop_zero, List.take_succ_cons, List.take_zero] at t1
  simp only [e64, List.drop_succ_cons, List.drop_zero, List.take_succ_cons, List.take_zero] at t2
  simp only [Prod.mk.injEq] at hx
  have hdd : d = .agg [.agg [z0.1, z1.1, z2.1], y1.1] := by rw [hx.1, hz]
  have hws : ∀ z ∈ DataW.weightsEach Try.prog [22, 45, 45] [z0.1, z1.1, z2.1], z ≤ reachBytes := fun z hz => by
    rw [List.all_eq_true] at hsz
    have := hsz z (DataW.weights_mem_each ht hd z (by
      rw [hdd, DataW.weights, Try.underlying54]
      refine DataW.weights_mem_each (j := 0) (t := 47) rfl rfl z ?_
      rw [DataW.weights, Try.underlying47]
      exact hz))
    simpa using this
  have bi : 0 < Try.prog.bytesOf 3 := by rw [show Try.prog.bytesOf 3 = 8 by kernel_rfl]; omega
  have bu : 0 < Try.prog.bytesOf 48 := by rw [show Try.prog.bytesOf 48 = 8 by kernel_rfl]; omega
  obtain ⟨ap, zp, cp, rfl, hp, sp⟩ := slice_sz Try.underlying22 Try.underlying3 (by kernel_rfl) bi t0 (fun n hn => hws n (DataW.weights_mem_each (j := 0) (t := 22) rfl rfl n hn))
  obtain ⟨af, zf, cf, rfl, hf2, sf⟩ := slice_sz Try.underlying45 Try.underlying48 (by kernel_rfl) bu t1 (fun n hn => hws n (DataW.weights_mem_each (j := 1) (t := 45) rfl rfl n hn))
  obtain ⟨aw, zw, cw, rfl, hw2, sw⟩ := slice_sz Try.underlying45 Try.underlying48 (by kernel_rfl) bu t2 (fun n hn => hws n (DataW.weights_mem_each (j := 2) (t := 45) rfl rfl n hn))
  obtain ⟨u, e1, -, wu⟩ := DataW.trod_int Try.underlying48 h1
  simp at e1
  subst e1
  exact ⟨ap, af, aw, ⟨zp, zf, zw⟩, cp, cf, cw, u, rfl, ⟨hp, hf2, hw2⟩, ⟨sp, sf, sw⟩, wu⟩
end Go.Proofs.Ytplkogjnmjjjgaa
