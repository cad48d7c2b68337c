/- The walks of graph.Reach and of slices.Reverse; the least path, plain: the steps back from a node met. -/
import Derived.Test.YtplkogjnmjjjgaaGRTrim
import Derived.Deep.LoopGhost
import Derived.RegionTactic
import Derived.Sort.WalkB12
import Derived.Lib.SlicesMore
namespace Go.Proofs.Ytplkogjnmjjjgaa
open Go.ChangeShapes Go.WideShapes Go.ChangeAt Go.RowKit Go.Maps
set_option linter.unusedVariables false
set_option linter.unusedSimpArgs false

/-- the steps back from the node in place n - 1 -/
def pathF (S : Mt) : Nat → Nat → List Int
  | 0, _ => []
  | _ + 1, 0 => []
  | f + 1, n + 1 => S.st.getD n 0 :: pathF S f (S.fr.getD n 0 + 1).toNat
/-- where a node met was met from: an earlier one, or a root -/
def FOk (S : Mt) : Prop := ∀ i, i < S.al.length → -1 ≤ S.fr.getD i 0 ∧ S.fr.getD i 0 < i
theorem FOk.meet {N : Nat} {S : Mt} (h : FOk S) (hk : MOk N S) {k f s : Int} (h1 : -1 ≤ f) (h2 : f < S.al.length) : FOk (meetM S k f s) := by
  unfold meetM
  split
  · exact h
  · intro i hi
    simp only [List.length_append, List.length_singleton] at hi
    simp only
    by_cases hlt : i < S.fr.length
    · rw [List.getD_eq_getElem?_getD, List.getElem?_append_left hlt, ← List.getD_eq_getElem?_getD]
      exact h i (by rw [← hk.fr]; exact hlt)
    · obtain rfl : i = S.fr.length := by have := hk.fr; omega
      rw [List.getD_eq_getElem?_getD, List.getElem?_append_right (Nat.le_refl _), Nat.sub_self]
      have := hk.fr
      simp
      omega
theorem FOk.meetL {N : Nat} {f : Int} (h1 : -1 ≤ f) (l : List Int) : ∀ {S : Mt} (i : Nat), FOk S → MOk N S → f < S.al.length → (∀ k ∈ l, inr N k = true) → FOk (meetL f l i S) := by
  induction l with
  | nil => intro S i h _ _ _; exact h
  | cons k l ih =>
    intro S i h hk h2 hl
    refine ih (i + 1) (h.meet hk h1 h2) (hk.meet (hl k (List.mem_cons_self ..))) ?_ fun y hy => hl y (List.mem_cons_of_mem _ hy)
    have := meetM_len S k f (i : Int)
    omega
theorem FOk.meetR {N : Nat} (l : List Int) : ∀ {S : Mt} (i : Nat), FOk S → MOk N S → (∀ k ∈ l, inr N k = true) → FOk (Go.Proofs.Ytplkogjnmjjjgaa.meetL (-1) l i S) := by
  induction l with
  | nil => intro S i h _ _; exact h
  | cons k l ih =>
    intro S i h hk hl
    exact ih (i + 1) (h.meet hk (by omega) (by omega)) (hk.meet (hl k (List.mem_cons_self ..))) fun y hy => hl y (List.mem_cons_of_mem _ hy)
theorem FOk.walkL {ns : List Nd} {N : Nat} (hN : ∀ k, ∀ q ∈ psAt ns k, inr N q = true) : ∀ (fuel i : Nat) {S : Mt}, FOk S → MOk N S → FOk (walkL ns fuel i S) := by
  intro fuel
  induction fuel with
  | zero => intro i S h _; exact h
  | succ fuel ih =>
    intro i S h hk
    unfold Go.Proofs.Ytplkogjnmjjjgaa.walkL
    split
    · rename_i hlt
      exact ih _ (h.meetL (N := N) (by omega) _ _ hk (by omega) (hN _)) (hk.meetL _ _ (hN _))
    · exact h
theorem walkG_fok {g : Gr} (h : mayG g = true) : FOk (walkG g) :=
  FOk.walkL (mayG_ps h) _ _ (FOk.meetR _ _ (fun i hi => by cases hi) (MOk.empty _) (mayG_roots h)) ((MOk.empty _).meetL _ _ (mayG_roots h))
/-- the path to a node, and why there is none -/
def pathG (g : Gr) (k : Int) : List Int := if k ∈ (walkG g).al then (pathF (walkG g) ((walkG g).al.length + 1) ((walkG g).al.idxOf k + 1)).reverse else []
set_option maxRecDepth 100000 in
theorem reach_any {w : World} {ar an : Option Addr} {g : Gr} (cr cn : Nat) (hG : GRd w ar an g) (hfew : FewG g) (hmay : mayG g = true) :
    Calls Try.prog 12 #[.agg #[.slice ar g.rs.length cr, .slice an g.ns.length cn]] w fun e w' => ∃ al cap, e = .returned (.tuple #[.slice al (walkG g).al.length cap, .int .i64 0]) ∧ ∃ R, Rw w.heap.size 3 1 (walkG g).al.length (icI (walkG g).al) al cap R ∧ FKN w R w' := by
  have h1 := (FKN.refl w).obj (.cells #[.slice ar g.rs.length cr, .slice an g.ns.length cn] 25)
  have HC := Lib.hid (check_graph g ar an cr cn _ (hG.below h1.below))
  rw [hmay, if_pos rfl] at HC
  have hrs := hfew.rs
  have hns := hfew.ns
  have HW := Lib.hid (fun (W : World) (E : List (Nat × Obj)) (h : FKN w E W) => walk_any h cr cn hG hmay hns hrs)
  have H1 := Lib.hid h1
  clear h1 hG
  obtain ⟨gb, hgb⟩ : ∃ gb, w.heap.size = gb := ⟨_, rfl⟩
  simp only [hgb] at H1
  go_enter Try.func12, Try.ntmps12
  go_wp2_with (first
    | (go_at_call 18; refine HC.out.mono ?_; rintro e w2 ⟨rfl, hb2⟩; have H2 := Lib.hid (H1.out.grow hb2); have hq := H2.out.1.block (List.mem_cons_self ..); have c0 := at_cell hq 0 _ rfl; have c1 := at_cell hq 1 _ rfl; clear hb2 hq)
    | (go_at_call 37; refine (HW.out _ _ H2.out).mono ?_; rintro e w3 ⟨p, mb, rfl, hM⟩; obtain ⟨MB, ⟨o, a0, a2, a3, x0, x2, x3, R0, R2, R3, hI, r0, -, -, rfl⟩, hF⟩ := hM.out; have hp := hF.1.block (List.mem_cons_self ..); have c3 := at_cell hp 0 (.slice a0 (walkG g).al.length x0) rfl; have HR0 := Lib.hid r0; have HF := Lib.hid hF; clear hM hF hI r0 hp))
  go_ret2
  refine ⟨a0, x0, rfl, R0, HR0.out, ?_⟩
  have := HF.out
  refine FKN.drop (K' := (p, Obj.cells (metC a0 a2 a3 (walkG g).al.length (walkG g).fr.length (walkG g).st.length x0 x2 x3 mb) 73 (0, 0)) :: (mb, o) :: (R2 ++ R3) ++ [(gb, Obj.cells #[.slice ar g.rs.length cr, .slice an g.ns.length cn] 25 (0, 0))]) (this.perm (permC fun x => by simp only [List.count_append, List.count_cons, List.append_assoc, List.cons_append]; ac_rfl))
set_option maxRecDepth 100000 in
theorem reach_bad {w : World} {ar an : Option Addr} {g : Gr} (cr cn : Nat) (hG : GRd w ar an g) (hmay : mayG g = false) :
    Calls Try.prog 12 #[.agg #[.slice ar g.rs.length cr, .slice an g.ns.length cn]] w fun e w' => e = .returned (.tuple #[.slice none 0 0, .int .i64 5]) ∧ Below w.heap.size w w' := by
  have h1 := (FKN.refl w).obj (.cells #[.slice ar g.rs.length cr, .slice an g.ns.length cn] 25)
  have HC := Lib.hid (check_graph g ar an cr cn _ (hG.below h1.below))
  rw [hmay, if_neg (by decide)] at HC
  have H1 := Lib.hid h1
  clear h1 hG
  go_enter Try.func12, Try.ntmps12
  go_wp2_with (go_at_call 18; refine HC.out.mono ?_; rintro e w2 ⟨rfl, hb2⟩; have H2 := Lib.hid (H1.out.grow hb2); clear hb2)
  go_ret2
  exact ⟨rfl, H2.out.below⟩
open Go.Sort in
set_option maxHeartbeats 1600000 in
set_option maxRecDepth 1000000 in
theorem reverse_any {W0 w : World} {K : List (Nat × Obj)} {b : Nat} {cur : Array Value} {L : List Int} (cap : Nat) (h : FKN W0 ((b, .cells cur 3 (0, 0)) :: K) w) (hc : cur.toList.take L.length = icI L) (hm : L.length ≤ 100000) :
    Calls Try.prog 42 #[.slice (some ⟨b, 0, none⟩) L.length cap] w fun e w' => e = .returned (.tuple #[]) ∧ ∃ cur', cur'.size = cur.size ∧ cur'.toList.take L.length = icI L.reverse ∧ FKN W0 ((b, .cells cur' 3 (0, 0)) :: K) w' := by
  have hn : L.length ≤ cur.size := by
    have := congrArg List.length hc
    simp [icI] at this
    omega
  have hct : ∀ t, t < L.length → cur[t]? = some (.int .i64 L.toArray[t]!) := fun t ht => by
    have h2 := icI_get L t ht
    rw [← hc, List.getElem?_take_of_lt ht] at h2
    rw [← Array.getElem?_toList, h2]
    simp [List.getD_eq_getElem?_getD]
  have HF := Lib.hid h
  have Hct := Lib.hid hct
  have Hc := Lib.hid hc
  obtain ⟨n, hn2⟩ : ∃ n, L.length = n := ⟨_, rfl⟩
  rw [hn2] at hn Hct Hc hm ⊢
  have HL := Lib.hid hn2
  have l1 : (n : Int) ≤ 100000 := by omega
  clear h hct hc hn2
  go_enter Try.func42, Try.ntmps42
  go_wp2_with (fail)
  go_loopg [2, 3] n (fun k s2 s3 wr => ∃ (i jn : Nat) (jz : Int) (dk : Array Int) (cc : Array Value), s2 = .int .i64 i ∧ s3 = .int .i64 jz ∧ ((i : Int) < jz → jz = jn ∧ jn < n) ∧ (¬ (i : Int) < jz → ¬ i < jn) ∧ jn - i ≤ k ∧
    dk.size = n ∧ cc.size = cur.size ∧ (∀ t, t < n → cc[t]? = some (.int .i64 dk[t]!)) ∧ FKN W0 ((b, .cells cc 3 (0, 0)) :: K) wr ∧ reverseLoop i jn dk = reverseLoop 0 (n - 1) L.toArray)
  case atStart => exact ⟨0, n - 1, (n : Int) - 1, L.toArray, cur, rfl, rfl, fun h => ⟨by omega, by omega⟩, fun h => by omega, by omega, by simpa using HL.out, rfl, Hct.out, HF.out, rfl⟩
  case round =>
    clear HF Hct
    obtain ⟨i, jn, jz, dk, cc, rfl, rfl, h1, h2, hk, hds, hcs, hcc, hF, heq⟩ := hrel
    by_cases hlt : (i : Int) < jz
    · obtain ⟨rfl, hjn⟩ := h1 hlt
      have hij : i < jn := by omega
      have hq := hF.1.block (List.mem_cons_self ..)
      obtain ⟨x, hx⟩ : ∃ x, dk[i]! = x := ⟨_, rfl⟩
      obtain ⟨y, hy⟩ : ∃ y, dk[jn]! = y := ⟨_, rfl⟩
      have ci := at_cell hq i _ (hcc i (by omega))
      have cj := at_cell hq jn _ (hcc jn (by omega))
      rw [hx] at ci
      rw [hy] at cj
      have HX := Lib.hid hx
      have HY := Lib.hid hy
      have fi := at_free hq i
      have fj := at_free hq jn
      have HF := Lib.hid (((hF.grow (below_drew wr)).set i (.int .i64 y)).set jn (.int .i64 x))
      have Hcc := Lib.hid hcc
      have i1 : (i : Int) < n := by omega
      have i2 : (0 : Int) ≤ i := by omega
      have i3 : ((i : Int)).toNat = i := by omega
      have j1 : (jn : Int) < n := by omega
      have j2 : (0 : Int) ≤ jn := by omega
      have j3 : ((jn : Int)).toNat = jn := by omega
      have Heq := Lib.hid heq
      clear hq hF hcc heq h1 h2 hx hy
      go_wp2_with (fail)
      go_region
      go_wp2
      go_roundg (jn - 1 - (i + 1))
      case measure => omega
      case rel =>
        have he := Heq.out
        rw [reverseLoop, if_pos hij] at he
        refine ⟨i + 1, jn - 1, (jn : Int) - 1, swp dk i jn, (cc.setIfInBounds i (.int .i64 y)).setIfInBounds jn (.int .i64 x), by simp, rfl, fun h => ⟨by omega, by omega⟩, fun h => by omega, Nat.le_refl _, by rw [size_swp]; exact hds, by simp [hcs], fun t ht => ?_, HF.out, he⟩
        rw [Array.getElem?_setIfInBounds, Array.getElem?_setIfInBounds]
        by_cases e1 : jn = t
        · subst e1
          rw [if_pos rfl, if_pos (by simp; omega), swp_right _ _ _ (by omega), HX.out]
        · rw [if_neg e1]
          by_cases e2 : i = t
          · subst e2
            rw [if_pos rfl, if_pos (by omega), swp_left _ _ _ (by omega) (by omega), HY.out]
          · rw [if_neg e2, swp_other _ _ _ _ (by omega) (by omega)]
            exact Hcc.out t ht
    · have hnot := h2 hlt
      rw [reverseLoop, if_neg hnot] at heq
      have hfin : cc.toList.take n = icI L.reverse := by
        have hd : dk = L.reverse.toArray := by
          rw [heq, show n - 1 = L.length - 1 by rw [HL.out], Lib.reverseLoop_reverse_list]
        refine List.ext_getElem? fun t => ?_
        by_cases ht : t < n
        · rw [List.getElem?_take_of_lt ht, Array.getElem?_toList, hcc t ht, icI_get _ t (by simp [HL.out]; exact ht), hd]
          simp [List.getD_eq_getElem?_getD]
        · rw [List.getElem?_eq_none (by simp; omega), List.getElem?_eq_none (by simp [icI, HL.out]; omega)]
      have HFIN := Lib.hid hfin
      have HF := Lib.hid hF
      clear hfin hF heq hcc h1 h2
      go_wp2_with (fail)
      go_end0
      exact ⟨rfl, cc, hcs, HFIN.out, HF.out⟩
end Go.Proofs.Ytplkogjnmjjjgaa
