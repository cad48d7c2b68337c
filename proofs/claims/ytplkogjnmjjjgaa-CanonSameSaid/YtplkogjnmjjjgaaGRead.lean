/- How a graph that came in lies in memory, read off its reading. -/
import Derived.Test.YtplkogjnmjjjgaaIntRow
import Derived.Deep.Strs
namespace Go.Proofs.Ytplkogjnmjjjgaa
open Go.ChangeShapes Go.WideShapes Go.ChangeAt Go.RowKit
set_option linter.unusedVariables false

/-- a node: its pointers, floats (by their bits) and words -/
structure Nd where
  ps : List Int
  fs : List Int
  ws : List Int
instance : Inhabited Nd := ⟨⟨[], [], []⟩⟩
/-- a slice in a cell reads as these numbers -/
def SlR (k : IntKind) (w : World) (p : Addr) (zs : List Int) : Prop := ∃ a cap, w.cell? p = some (.slice a zs.length cap) ∧ IntRow k w a zs
theorem SlR.below {k : IntKind} {w w' : World} {p : Addr} {zs : List Int} (h : SlR k w p zs) (hb : Below w.heap.size w w') : SlR k w' p zs := by
  obtain ⟨a, cap, h1, h2⟩ := h
  exact ⟨a, cap, cellB hb (Nat.le_refl _) h1, h2.below hb⟩
/-- a slice reads as these nodes -/
structure NRow (w : World) (a : Option Addr) (ns : List Nd) : Prop where
  many : ns.length ≤ maxLen
  cell : ∃ b off, (ns = [] ∨ a = some ⟨b, off, none⟩) ∧ ∀ i, i < ns.length → SlR .i64 w ⟨b, off + i * 3, none⟩ (ns.getD i default).ps ∧ SlR .u64 w ⟨b, off + i * 3 + 1, none⟩ (ns.getD i default).fs ∧ SlR .u64 w ⟨b, off + i * 3 + 2, none⟩ (ns.getD i default).ws
theorem NRow.below {w w' : World} {a : Option Addr} {ns : List Nd} (h : NRow w a ns) (hb : Below w.heap.size w w') : NRow w' a ns :=
  ⟨h.many, by
    obtain ⟨b, off, ha, hc⟩ := h.cell
    exact ⟨b, off, ha, fun i hi => ⟨(hc i hi).1.below hb, (hc i hi).2.1.below hb, (hc i hi).2.2.below hb⟩⟩⟩
theorem slice_of {H : Type} {enc : TypeId × Value → H} {P : Program} {k : IntKind} {t e : TypeId} (ht : P.underlying t = some (.slice e)) (he : P.underlying e = some (.int k)) (hc : P.cellsOf e = 1) {w : World} {c : Value} {fuel : Nat} {x : DataW H × List MemPlace}
    (h : DataW.trod enc P w 0 (fun _ => true) true fuel t [c] = some x) : ∃ a zs cap, c = .slice a zs.length cap ∧ IntRow k w a zs := by
  rcases open_ints ht he hc h with ⟨hcs, hx⟩ | ⟨ad, len', cap', zs, hcs, -⟩
  · simp at hcs
    subst hcs
    exact ⟨none, [], 0, rfl, ⟨by simp, by simp, 0, 0, .inl rfl, by simp⟩⟩
  · simp at hcs
    subst hcs
    obtain ⟨zs, rfl, hz⟩ := introw_of ht he hc h
    exact ⟨_, zs, _, rfl, hz⟩
theorem nrow_of {H : Type} {enc : TypeId × Value → H} {w : World} {a : Option Addr} {len cap fuel : Nat} {x : DataW H × List MemPlace}
    (h : DataW.trod enc Try.prog w 0 (fun _ => true) true fuel 23 [.slice a len cap] = some x) : ∃ ns : List Nd, ns.length = len ∧ NRow w a ns := by
  rcases Go.Deep.open_slice Try.underlying23 h with ⟨hcs, _⟩ | ⟨ad, l, c, m, n, D, Pl, hcs, _, hl, hm, hmm, _, hel⟩
  · simp at hcs
    obtain ⟨rfl, rfl, rfl⟩ := hcs
    exact ⟨[], rfl, ⟨by simp, 0, 0, .inl rfl, by simp⟩⟩
  · simp at hcs
    obtain ⟨rfl, rfl, rfl⟩ := hcs
    have hm' : m = cap := by simpa using hmm
    subst hm'
    have ce : Try.prog.cellsOf 47 = 3 := by kernel_rfl
    rw [ce] at hel
    have hel2 : ∀ i, i < len → ∃ p : Nd, SlR .i64 w (ad.add (i * 3)) p.ps ∧ SlR .u64 w ((ad.add (i * 3)).add 1) p.fs ∧ SlR .u64 w ((ad.add (i * 3)).add 2) p.ws := by
      intro i hi
      obtain ⟨cs', h1, h2⟩ := hel i (by omega)
      obtain ⟨_, hlen, hcell⟩ := World.cells?_some h1
      match cs', hlen with
      | [c0, c1, c2], _ =>
        obtain ⟨y0, y1, y2, n', hx, _, t0, t1, t2⟩ := Go.Deep.trod_struct3 Try.underlying47 h2
        have e8 : Try.prog.cellsOf 22 = 1 := by kernel_rfl
        have e64 : Try.prog.cellsOf 45 = 1 := by kernel_rfl
        have ei : Try.prog.cellsOf 3 = 1 := by kernel_rfl
        have eu : Try.prog.cellsOf 48 = 1 := by kernel_rfl
        simp only [e8, List.drop_zero, List.take_succ_cons, List.take_zero] at t0
        simp only [e64, List.drop_succ_cons, List.drop_zero, List.take_succ_cons, List.take_zero] at t1
        simp only [e64, List.drop_succ_cons, List.drop_zero, List.take_succ_cons, List.take_zero] at t2
        obtain ⟨ap, zp, cp, rfl, hp⟩ := slice_of Try.underlying22 Try.underlying3 ei t0
        obtain ⟨af, zf, cf, rfl, hf⟩ := slice_of Try.underlying45 Try.underlying48 eu t1
        obtain ⟨aw, zw, cw, rfl, hw⟩ := slice_of Try.underlying45 Try.underlying48 eu t2
        refine ⟨⟨zp, zf, zw⟩, ⟨ap, cp, ?_, hp⟩, ⟨af, cf, hcell 1 (by omega), hf⟩, ⟨aw, cw, hcell 2 (by omega), hw⟩⟩
        have := hcell 0 (by omega)
        rwa [Go.Deep.add_add, Nat.add_zero] at this
    by_cases h0 : len = 0
    · subst h0
      exact ⟨[], rfl, ⟨by simp, 0, 0, .inl rfl, by simp⟩⟩
    · obtain ⟨b, off, spot⟩ := ad
      obtain ⟨p0, ⟨a0, cp0, c0, _⟩, _⟩ := hel2 0 (by omega)
      have hspot : spot = none := by simpa [Addr.add] using World.cell?_spot c0
      subst hspot
      obtain ⟨f, hf⟩ := Go.Deep.choose_lt hel2
      have hget : ∀ i, i < len → ((List.range len).map f).getD i default = f i := fun i hi => by simp [hi]
      refine ⟨(List.range len).map f, by simp, ⟨by simp; omega, b, off, .inr rfl, fun i hi => ?_⟩⟩
      rw [hget i (by simpa using hi)]
      obtain ⟨g0, g1, g2⟩ := hf i (by simpa using hi)
      rw [add_off] at g0
      rw [add_off, add_off] at g1 g2
      exact ⟨g0, g1, g2⟩
/-- a graph: its roots and its nodes -/
structure Gr where
  rs : List Int
  ns : List Nd
/-- a graph's two slices read as this graph -/
structure GRd (w : World) (ar an : Option Addr) (g : Gr) : Prop where
  roots : IntRow .i64 w ar g.rs
  nodes : NRow w an g.ns
theorem GRd.below {w w' : World} {ar an : Option Addr} {g : Gr} (h : GRd w ar an g) (hb : Below w.heap.size w w') : GRd w' ar an g := ⟨h.roots.below hb, h.nodes.below hb⟩
end Go.Proofs.Ytplkogjnmjjjgaa
