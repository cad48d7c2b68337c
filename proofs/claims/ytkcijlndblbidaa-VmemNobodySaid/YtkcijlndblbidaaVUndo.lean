/- The walk of Need's closure, which unmaps what was mapped. -/
import Derived.Test.YtkcijlndblbidaaVNeedM
namespace Go.Proofs.Ytkcijlndblbidaa
open Go.ChangeShapes Go.WideShapes Go.ChangeAt Go.RowKit
set_option linter.unusedVariables false

/-- a memory beside a box X1 of it and a variable X2 that holds a row of pages l; since W0 of what was there only S0 changed -/
structure NS (W0 : World) (S0 : Nat → Prop) (m X1 X2 words page room t : Nat) (v : VS) (l : List Nat) (a : Option Addr) (cap : Nat) (S : Nat → Prop) (w : World) : Prop where
  vm : Vm S m words page room t v w
  box : w.heap[X1]? = some (.cells #[.pointer (some ⟨m, 0, none⟩)] 26 (0, 0))
  var : w.heap[X2]? = some (.cells #[.slice a l.length cap] 71 (0, 0))
  row : OwnF W0.heap.size 3 (.slice a l.length cap) l.length (fun i => .int .i64 (l.getD i 0 : Nat)) w
  x1 : W0.heap.size ≤ X1
  x2 : W0.heap.size ≤ X2
  out1 : ¬ S X1
  out2 : ¬ S X2
  outr : ∀ ad, a = some ad → ¬ S ad.block
  chg : Chg S0 W0 w
  grew : Grew S0 S W0
section
variable {W0 : World} {S0 S : Nat → Prop} {m X1 X2 words page room t t' : Nat} {v v' : VS} {l : List Nat} {a : Option Addr} {cap : Nat} {w w' : World}
theorem NS.did (h : NS W0 S0 m X1 X2 words page room t v l a cap S w) (hd : VDid S m words page room t' v' w w') : ∃ S', NS W0 S0 m X1 X2 words page room t' v' l a cap S' w' := by
  obtain ⟨S', k1, k2, k3⟩ := hd
  have old : ∀ k, k < w.heap.size → ¬ S k → ¬ S' k := fun k hk hn hs => by
    rcases k3 k hs with a | a
    · exact hn a
    · omega
  have rowlt : ∀ ad, a = some ad → ad.block < w.heap.size := fun ad e => (h.row.lt ad.block (by rw [e]; rfl)).2
  refine ⟨S', k1, k2.keep h.box h.out1, k2.keep h.var h.out2, h.row.from fun g hg => ?_, h.x1, h.x2, old _ (block_lt h.box) h.out1, old _ (block_lt h.var) h.out2, fun ad e => old _ (rowlt ad e) (h.outr ad e), h.chg.then k2 h.grew, h.grew.trans k3 h.chg.size⟩
  obtain ⟨ad, e1, rfl⟩ := own_of_some' hg
  exact k2.2.2.2.2 ad.block (rowlt ad e1) (h.outr ad e1)
theorem NS.like (h : NS W0 S0 m X1 X2 words page room t v l a cap S w) (hl : v.like page (words / page) v') : NS W0 S0 m X1 X2 words page room t v' l a cap S w :=
  ⟨h.vm.like hl, h.box, h.var, h.row, h.x1, h.x2, h.out1, h.out2, h.outr, h.chg, h.grew⟩
theorem NS.grow (h : NS W0 S0 m X1 X2 words page room t v l a cap S w) (c : Below w.heap.size w w') : ∃ S', NS W0 S0 m X1 X2 words page room t v l a cap S' w' := h.did (VDid.of h.vm c)
theorem NS.grow' (h : NS W0 S0 m X1 X2 words page room t v l a cap S w) (c : Below w.heap.size w w') : NS W0 S0 m X1 X2 words page room t v l a cap S w' :=
  ⟨h.vm.grow c, blockB c (Nat.le_refl _) h.box, blockB c (Nat.le_refl _) h.var, h.row.from fun g hg => c.block g (h.row.lt g hg).2, h.x1, h.x2, h.out1, h.out2, h.outr, h.chg.newBelow c, h.grew⟩
theorem NS.cells (h : NS W0 S0 m X1 X2 words page room t v l a cap S w) : w.cell? ⟨X1, 0, none⟩ = some (.pointer (some ⟨m, 0, none⟩)) ∧ w.cell? ⟨X2, 0, none⟩ = some (.slice a l.length cap) := ⟨at_cell h.box 0 _ rfl, at_cell h.var 0 _ rfl⟩
theorem NS.item (h : NS W0 S0 m X1 X2 words page room t v l a cap S w) {j : Nat} (hj : j < l.length) : ∃ g, a = some ⟨g, 0, none⟩ ∧ w.cell? ⟨g, j, none⟩ = some (.int .i64 (l.getD j 0 : Nat)) := by
  obtain ⟨-, -, -, hf, -⟩ := h.row.form
  obtain ⟨g, rfl, -, -⟩ := hf (by omega)
  exact ⟨g, rfl, h.row.cell hj⟩
end
theorem take_get {l : List Nat} {j : Nat} (hj : j < l.length) : l.take (j + 1) = l.take j ++ [l.getD j 0] := by
  rw [List.take_succ_eq_append_getElem hj, List.getD_eq_getElem?_getD, List.getElem?_eq_getElem hj]
  rfl
set_option maxRecDepth 100000 in
set_option maxHeartbeats 1000000 in
theorem undo_any {W0 : World} {S0 S : Nat → Prop} {m X1 X2 words page room t H : Nat} {v : VS} {l : List Nat} {a : Option Addr} {cap : Nat} {w : World} (h : NS W0 S0 m X1 X2 words page room t (withH (mapL page v l) H) l a cap S w)
    (hl : ∀ q, q ∈ l → q < words / page ∧ v.mp q = false) (hn : l.Nodup) (hlen : l.length ≤ 1000000) :
    Calls Try.prog 100 #[.pointer (some ⟨X2, 0, none⟩), .pointer (some ⟨X1, 0, none⟩)] w fun e w' => e = .returned (.tuple #[]) ∧ ∃ S', NS W0 S0 m X1 X2 words page room t (withH v H) l a cap S' w' := by
  obtain ⟨c1, c2⟩ := h.cells
  have Hl := Lib.hid hl
  have Hn := Lib.hid hn
  have HN := Lib.hid h
  clear h hl hn
  go_enter Try.func100, Try.ntmps100
  go_wp2
  clear c1 c2
  go_loopw [2] (fun i wr => ∃ (z : Int) (k : Nat), i = .int .i64 z ∧ z + 1 = k ∧ k ≤ l.length ∧ ∃ S', NS W0 S0 m X1 X2 words page room t (withH (mapL page v (l.take k)) H) l a cap S' wr) (fun i _ => (intOf i + 1).toNat)
  case atStart => exact ⟨_, l.length, rfl, by omega, by omega, S, by rw [List.take_length]; exact HN.out⟩
  case round =>
    clear HN
    obtain ⟨z, k, rfl, hz, hk, S1, hN⟩ := hrel
    by_cases hz0 : 0 ≤ z
    · obtain ⟨j, rfl⟩ : ∃ j : Nat, z = j := ⟨z.toNat, by omega⟩
      obtain rfl : j + 1 = k := by omega
      clear hz hz0
      have hj : j < l.length := by omega
      have htk := take_get hj
      obtain ⟨g, rfl, cj⟩ := hN.item hj
      obtain ⟨c1, c2⟩ := hN.cells
      have hmem : l.getD j 0 ∈ l := by
        rw [List.getD_eq_getElem?_getD, List.getElem?_eq_getElem hj]
        exact List.getElem_mem hj
      obtain ⟨hq, hm⟩ := Hl.out _ hmem
      have hno : l.getD j 0 ∉ l.take j := fun hx => by
        have hnd := Hn.out
        have : (l.take (j + 1)).Nodup := hnd.sublist (List.take_sublist _ _)
        rw [htk, List.nodup_append] at this
        exact this.2.2 _ hx _ (List.mem_singleton.2 rfl) rfl
      rw [htk, mapL_snoc] at hN
      have hu : (mapL page v (l.take j)).mp (l.getD j 0) = false := by rw [mapL_mp, hm]; simpa using hno
      obtain ⟨p, hp⟩ : ∃ p, l.getD j 0 = p := ⟨_, rfl⟩
      rw [hp] at hq hm hno hu hmem htk hN cj
      have Hp := Lib.hid hp
      have hun := fun W S2 (hW : NS W0 S0 m X1 X2 words page room t (withH (mapV page (mapL page v (l.take j)) p) H) l (some ⟨g, 0, none⟩) cap S2 W) => unmap_vm S2 m words page room t _ W hW.vm (p : Int)
      have hmp : (withH (mapV page (mapL page v (l.take j)) p) H).mp p = true := by
        show (if p = p then true else _) = true
        rw [if_pos rfl]
      unfold unmapS unmapE at hun
      simp only [if_neg (show ¬¬(0 ≤ (p : Int) ∧ (p : Int) < ((words / page : Nat) : Int)) from Classical.not_not.2 ⟨Int.natCast_nonneg _, Int.ofNat_lt.2 hq⟩), Int.toNat_natCast, hmp, if_true] at hun
      have Hlk := Lib.hid (undo_step (page := page) (np := words / page) (H := H) hu)
      have Hun := Lib.hid hun
      have HN := Lib.hid hN
      have Hj := Lib.hid hj
      have j1 : (0 : Int) ≤ j := by omega
      have j2 : (j : Int) < l.length := by omega
      have j3 : ((j : Int) : Int).toNat = j := by omega
      have j4 : (j : Int) ≤ 1000000 := by omega
      clear hun hN hq hm hno hu hmem htk hmp hp
      go_wp2
      go_region_held3 (fun w' => w'.cell? ⟨X1, 0, none⟩ = some (.pointer (some ⟨m, 0, none⟩)) ∧ w'.cell? ⟨X2, 0, none⟩ = some (.slice (some ⟨g, 0, none⟩) l.length cap) ∧ w'.cell? ⟨g, j, none⟩ = some (.int .i64 p)) (first | exact ⟨c1, c2, cj⟩ | exact ⟨d1, d2, dj⟩ | go_keep) ((go_at_call 21; refine (Hun.out _ _ (HN.out.grow' (below_drew wr))).mono ?_; rintro e w1 ⟨rfl, hd⟩; obtain ⟨S2, hN2⟩ := (HN.out.grow' (below_drew wr)).did hd; obtain ⟨d1, d2⟩ := hN2.cells; have dj := hN2.row.cell Hj.out; simp only [Hp.out] at dj; have HN2 := Lib.hid (hN2.like Hlk.out); clear hd hN2))
      all_goals
        go_wp2
        go_roundw
        case rel => exact ⟨(j : Int) - 1, j, by go_num, by omega, by omega, _, HN2.out⟩
        case measure => simp [intOf]
    · obtain rfl : k = 0 := by omega
      clear hz
      have HN := Lib.hid hN
      clear hN
      go_wp2
      go_end0
      exact ⟨rfl, S1, HN.out⟩
end Go.Proofs.Ytkcijlndblbidaa
