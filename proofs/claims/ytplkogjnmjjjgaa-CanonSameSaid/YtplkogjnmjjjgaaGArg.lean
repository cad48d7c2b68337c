/- A graph that came in, opened with the sizes of its slices. -/
import Derived.Test.YtplkogjnmjjjgaaGSame3
import Derived.Lib.SmallJoins
namespace Go.Proofs.Ytplkogjnmjjjgaa
open Go.ChangeShapes Go.WideShapes Go.ChangeAt Go.RowKit Go.Maps
set_option linter.unusedVariables false
set_option linter.unusedSimpArgs false

/-- a graph's slices are not too long to be added up -/
structure SmG (g : Gr) : Prop where
  rs : g.rs.length ≤ 2 ^ 47
  ns : g.ns.length ≤ 2 ^ 47
  each : ∀ i, i < g.ns.length → (g.ns.getD i default).ps.length ≤ 2 ^ 47 ∧ (g.ns.getD i default).fs.length ≤ 2 ^ 47 ∧ (g.ns.getD i default).ws.length ≤ 2 ^ 47
theorem slice_sz {H : Type} {enc : TypeId × Value → H} {P : Program} {k : IntKind} {t e : TypeId} (ht : P.underlying t = some (.slice e)) (he : P.underlying e = some (.int k)) (hc : P.cellsOf e = 1) (hby : 0 < P.bytesOf e) {w : World} {c : Value} {fuel : Nat} {x : DataW H × List MemPlace}
    (h : DataW.trod enc P w 0 (fun _ => true) true fuel t [c] = some x) (hw : ∀ n ∈ DataW.weights P t x.1, n ≤ reachBytes) : ∃ a zs cap, c = .slice a zs.length cap ∧ IntRow k w a zs ∧ zs.length ≤ 2 ^ 47 := by
  obtain ⟨a, zs, cap, rfl, hz⟩ := slice_of ht he hc h
  refine ⟨a, zs, cap, rfl, hz, ?_⟩
  have hr := reachBytes_lt
  rcases Go.Deep.open_slice ht h with ⟨hcs, hx⟩ | ⟨ad, l, cp, m, n, D, Pl, hcs, _, hl, hm, hmm, hx, hel⟩
  · simp at hcs
    rw [hcs.2.1]
    simp
  · simp at hcs
    obtain ⟨rfl, rfl, rfl⟩ := hcs
    subst hx
    have := hw _ (by rw [DataW.weights, ht]; exact List.mem_cons_self ..)
    rw [List.length_map, List.length_range] at this
    have h2 := Nat.mul_le_mul_left (zs.length + (List.map (fun j => D (zs.length + j)) (List.range (m - zs.length))).length) hby
    omega
theorem weightsAll_mem {H : Type} {P : Program} {e : TypeId} : ∀ {ds : List (DataW H)} {d : DataW H}, d ∈ ds → ∀ n ∈ d.weights P e, n ∈ DataW.weightsAll P e ds
  | d0 :: ds, d, hd, n, hn => by
    simp only [DataW.weightsAll, List.mem_append]
    rcases List.mem_cons.1 hd with rfl | hd
    · exact .inl hn
    · exact .inr (weightsAll_mem hd n hn)
  | [], d, hd, n, hn => by cases hd
set_option maxRecDepth 100000 in
theorem nrow_sz {H : Type} {enc : TypeId × Value → H} {w : World} {a : Option Addr} {len cap fuel : Nat} {x : DataW H × List MemPlace}
    (h : DataW.trod enc Try.prog w 0 (fun _ => true) true fuel 23 [.slice a len cap] = some x) (hw : ∀ n ∈ DataW.weights Try.prog 23 x.1, n ≤ reachBytes) :
    ∃ ns : List Nd, ns.length = len ∧ NRow w a ns ∧ len ≤ 2 ^ 47 ∧ ∀ i, i < ns.length → (ns.getD i default).ps.length ≤ 2 ^ 47 ∧ (ns.getD i default).fs.length ≤ 2 ^ 47 ∧ (ns.getD i default).ws.length ≤ 2 ^ 47 := by
  have hr := reachBytes_lt
  rcases Go.Deep.open_slice Try.underlying23 h with ⟨hcs, _⟩ | ⟨ad, l, c, m, n, D, Pl, hcs, _, hl, hm, hmm, hx, hel⟩
  · simp at hcs
    obtain ⟨rfl, rfl, rfl⟩ := hcs
    exact ⟨[], rfl, ⟨by simp, 0, 0, .inl rfl, by simp⟩, by simp, by simp⟩
  · simp at hcs
    obtain ⟨rfl, rfl, rfl⟩ := hcs
    have hm' : m = cap := by simpa using hmm
    subst hm'
    have ce : Try.prog.cellsOf 47 = 3 := by kernel_rfl
    have be : Try.prog.bytesOf 47 = 72 := by kernel_rfl
    rw [ce] at hel
    subst hx
    rw [DataW.weights, Try.underlying23] at hw
    dsimp only at hw
    have hlen := hw _ (List.mem_cons_self ..)
    rw [be, List.length_map, List.length_range] at hlen
    have hwe : ∀ i, i < len → ∀ n ∈ DataW.weights Try.prog 47 (D i), n ≤ reachBytes := fun i hi n hn =>
      hw n (List.mem_cons_of_mem _ (List.mem_append_left _ (weightsAll_mem (List.mem_map.2 ⟨i, by simpa using hi, rfl⟩) n hn)))
    have hel2 : ∀ i, i < len → ∃ p : Nd, (SlR .i64 w (ad.add (i * 3)) p.ps ∧ SlR .u64 w ((ad.add (i * 3)).add 1) p.fs ∧ SlR .u64 w ((ad.add (i * 3)).add 2) p.ws) ∧ p.ps.length ≤ 2 ^ 47 ∧ p.fs.length ≤ 2 ^ 47 ∧ p.ws.length ≤ 2 ^ 47 := by
      intro i hi
      obtain ⟨cs', h1, h2⟩ := hel i (by omega)
      obtain ⟨_, hlen, hcell⟩ := World.cells?_some h1
      match cs', hlen with
      | [c0, c1, c2], _ =>
        obtain ⟨y0, y1, y2, n', hx, _, t0, t1, t2⟩ := Go.Deep.trod_struct3 Try.underlying47 h2
        have hD : D i = .agg [y0.1, y1.1, y2.1] := (Prod.mk.inj hx).1
        have hws := hwe i hi
        rw [hD, DataW.weights, Try.underlying47] at hws
        dsimp only at hws
        have e8 : Try.prog.cellsOf 22 = 1 := by kernel_rfl
        have e64 : Try.prog.cellsOf 45 = 1 := by kernel_rfl
        have ei : Try.prog.cellsOf 3 = 1 := by kernel_rfl
        have eu : Try.prog.cellsOf 48 = 1 := by kernel_rfl
        have bi : 0 < Try.prog.bytesOf 3 := by rw [show Try.prog.bytesOf 3 = 8 by kernel_rfl]; omega
        have bu : 0 < Try.prog.bytesOf 48 := by rw [show Try.prog.bytesOf 48 = 8 by kernel_rfl]; omega
        simp only [e8, List.drop_zero, List.take_succ_cons, List.take_zero] at t0
        simp only [e64, List.drop_succ_cons, List.drop_zero, List.take_succ_cons, List.take_zero] at t1
        simp only [e64, List.drop_succ_cons, List.drop_zero, List.take_succ_cons, List.take_zero] at t2
        obtain ⟨ap, zp, cp, rfl, hp, sp⟩ := slice_sz Try.underlying22 Try.underlying3 ei bi t0 (fun n hn => hws n (DataW.weights_mem_each (j := 0) (t := 22) rfl rfl n hn))
        obtain ⟨af, zf, cf, rfl, hf, sf⟩ := slice_sz Try.underlying45 Try.underlying48 eu bu t1 (fun n hn => hws n (DataW.weights_mem_each (j := 1) (t := 45) rfl rfl n hn))
        obtain ⟨aw, zw, cw, rfl, hw2, sw⟩ := slice_sz Try.underlying45 Try.underlying48 eu bu t2 (fun n hn => hws n (DataW.weights_mem_each (j := 2) (t := 45) rfl rfl n hn))
        refine ⟨⟨zp, zf, zw⟩, ⟨⟨ap, cp, ?_, hp⟩, ⟨af, cf, hcell 1 (by omega), hf⟩, ⟨aw, cw, hcell 2 (by omega), hw2⟩⟩, sp, sf, sw⟩
        have := hcell 0 (by omega)
        rwa [Go.Deep.add_add, Nat.add_zero] at this
    by_cases h0 : len = 0
    · subst h0
      exact ⟨[], rfl, ⟨by simp, 0, 0, .inl rfl, by simp⟩, by simp, by simp⟩
    · obtain ⟨b, off, spot⟩ := ad
      obtain ⟨p0, ⟨⟨a0, cp0, c0, _⟩, _⟩, _⟩ := hel2 0 (by omega)
      have hspot : spot = none := by simpa [Addr.add] using World.cell?_spot c0
      subst hspot
      obtain ⟨f, hf⟩ := Go.Deep.choose_lt hel2
      have hget : ∀ i, i < len → ((List.range len).map f).getD i default = f i := fun i hi => by simp [hi]
      refine ⟨(List.range len).map f, by simp, ⟨by simp; omega, b, off, .inr rfl, fun i hi => ?_⟩, by omega, fun i hi => ?_⟩
      · rw [hget i (by simpa using hi)]
        obtain ⟨⟨g0, g1, g2⟩, -⟩ := hf i (by simpa using hi)
        rw [add_off] at g0
        rw [add_off, add_off] at g1 g2
        exact ⟨g0, g1, g2⟩
      · rw [hget i (by simpa using hi)]
        exact (hf i (by simpa using hi)).2
set_option maxRecDepth 100000 in
theorem graph_of {H : Type} {enc : TypeId × Value → H} {w : World} {v : Value} {base : Nat} {d : DataW H} {p : List MemPlace} (hv : Value.okWide Try.prog w .any base 25 v) (h : DataW.Trod enc Try.prog w 0 (fun _ => true) true 25 v d p)
    {ts : List TypeId} {ds : List (DataW H)} (hsz : (DataW.weightsEach Try.prog ts ds).all (· ≤ reachBytes) = true) {j : Nat} (ht : ts[j]? = some 25) (hd : ds[j]? = some d) :
    ∃ (ar an : Option Addr) (g : Gr) (cr cn : Nat), v = .agg #[.slice ar g.rs.length cr, .slice an g.ns.length cn] ∧ GRd w ar an g ∧ SmG g := by
  obtain ⟨c0, c1, y0, y1, m, rfl, rfl, rfl, hy0, hy1⟩ := Go.Joins.open_agg2 Try.underlying25 (by kernel_rfl) (by kernel_rfl) hv h
  have hws : ∀ z ∈ DataW.weightsEach Try.prog [22, 23] [y0.1, y1.1], z ≤ reachBytes := fun z hz => by
    rw [List.all_eq_true] at hsz
    have := hsz z (DataW.weights_mem_each ht hd z (by rw [DataW.weights, Try.underlying25]; exact hz))
    simpa using this
  have bi : 0 < Try.prog.bytesOf 3 := by rw [show Try.prog.bytesOf 3 = 8 by kernel_rfl]; omega
  obtain ⟨ar, rs, cr, rfl, hR, sR⟩ := slice_sz Try.underlying22 Try.underlying3 (by kernel_rfl) bi hy0 (fun n hn => hws n (DataW.weights_mem_each (j := 0) (t := 22) rfl rfl n hn))
  have hsl : ∃ an len cn, c1 = .slice an len cn := by
    rcases Go.Deep.open_slice Try.underlying23 hy1 with ⟨hcs, _⟩ | ⟨ad, l, c, m, n, D, Pl, hcs, _⟩
    · simp at hcs
      exact ⟨_, _, _, hcs⟩
    · simp at hcs
      exact ⟨_, _, _, hcs⟩
  obtain ⟨an, len, cn, rfl⟩ := hsl
  obtain ⟨ns, rfl, hN, sl, sN⟩ := nrow_sz hy1 (fun n hn => hws n (DataW.weights_mem_each (j := 1) (t := 23) rfl rfl n hn))
  exact ⟨ar, an, ⟨rs, ns⟩, cr, cn, rfl, ⟨hR, hN⟩, ⟨sR, sl, sN⟩⟩
end Go.Proofs.Ytplkogjnmjjjgaa
