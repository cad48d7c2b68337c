/- A memory of pages as it lies in memory: a pool and a map beside each other. -/
import Derived.Test.YtkcijlndblbidaaVMath
namespace Go.Proofs.Ytkcijlndblbidaa
open Go.ChangeShapes Go.WideShapes Go.ChangeAt Go.RowKit
set_option linter.unusedVariables false

structure VRaw (S : Nat → Prop) (m b pb words page room : Nat) (s : Fr.PS) (F : Nat → Nat) (w : World) : Prop where
  head : w.heap[m]? = some (.cells #[.pointer (some ⟨b, 0, none⟩), .pointer (some ⟨pb, 0, none⟩), .int .i64 words] 160 (0, 0))
  parts : ∃ S1 S2, Fr.Pl S1 b room page s w ∧ Pg.Mp S2 pb (words / page) F w ∧ Apart S1 S2 ∧ ¬ S1 m ∧ ¬ S2 m ∧ (∀ k, S1 k → S k) ∧ ∀ k, S2 k → S k
  own : S m
  ins : In S w
def RawDid (S : Nat → Prop) (m b pb words page room : Nat) (s : Fr.PS) (F : Nat → Nat) (w w' : World) : Prop := ∃ S', VRaw S' m b pb words page room s F w' ∧ Chg S w w' ∧ Grew S S' w
section
variable {S T : Nat → Prop} {m b pb words page room : Nat} {s s' : Fr.PS} {F F' : Nat → Nat} {w w1 w' : World}
theorem VRaw.keep (h : VRaw S m b pb words page room s F w) (c : Chg T w w') (ap : Apart S T) : VRaw S m b pb words page room s F w' := by
  obtain ⟨hd, ⟨S1, S2, h1, h2, h3, h4, h5, h6, h7⟩, ho, hI⟩ := h
  exact ⟨c.keep hd (fun t => ap _ ho t), ⟨S1, S2, h1.keep c (fun k a t => ap k (h6 k a) t), h2.keep c (fun k a t => ap k (h7 k a) t), h3, h4, h5, h6, h7⟩, ho, hI.mono c.size⟩
theorem VRaw.grow (h : VRaw S m b pb words page room s F w) (c : Below w.heap.size w w') : VRaw S m b pb words page room s F w' :=
  h.keep (T := fun _ => False) (Chg.of c) (fun _ _ h => h)
theorem VRaw.cells (h : VRaw S m b pb words page room s F w) : w.cell? ⟨m, 0, none⟩ = some (.pointer (some ⟨b, 0, none⟩)) ∧ w.cell? ⟨m, 1, none⟩ = some (.pointer (some ⟨pb, 0, none⟩)) ∧ w.cell? ⟨m, 2, none⟩ = some (.int .i64 words) := (three h.head).1
theorem RawDid.of (h : VRaw S m b pb words page room s F w) (c : Below w.heap.size w w') : RawDid S m b pb words page room s F w w' := ⟨S, h.grow c, Chg.of c, Grew.refl _ _⟩
theorem RawDid.then {S' : Nat → Prop} (h : Chg S w w1) (g : Grew S S' w) (k : RawDid S' m b pb words page room s F w1 w') : RawDid S m b pb words page room s F w w' := by
  obtain ⟨S2, h1, h2, h3⟩ := k
  exact ⟨S2, h1, h.then h2 g, g.trans h3 h.size⟩
theorem VRaw.pool (h : VRaw S m b pb words page room s F w) {f : FuncId} {args : Array Value} {R : Ending} (op : ∀ S1, Fr.Pl S1 b room page s w → Calls Try.prog f args w fun e w' => e = R ∧ Fr.PDid S1 b room page s' w w') :
    Calls Try.prog f args w fun e w' => e = R ∧ RawDid S m b pb words page room s' F w w' := by
  obtain ⟨hd, ⟨S1, S2, h1, h2, h3, h4, h5, h6, h7⟩, ho, hI⟩ := h
  refine (op S1 h1).mono fun e w' ⟨he, S1', k1, k2, k3⟩ => ⟨he, fun k => S k ∨ S1' k, ⟨k2.keep hd h4, ⟨S1', S2, k1, h2.keep k2 h3.symm, k3.apart h3 h2.in, fun a => ?_, h5, fun k a => .inr a, fun k a => .inl (h7 k a)⟩, .inl ho, ?_⟩, k2.mono (fun k _ a => h6 k a), ?_⟩
  · rcases k3 m a with a | a
    · exact h4 a
    · have := block_lt hd; omega
  · intro k hk
    rcases hk with a | a
    · have := hI k a; have := k2.size; omega
    · exact k1.in k a
  · intro k hk
    rcases hk with a | a
    · exact .inl a
    · exact (k3 k a).imp (h6 k) id
theorem VRaw.pages (h : VRaw S m b pb words page room s F w) {f : FuncId} {args : Array Value} {R : Ending} (op : ∀ S2, Pg.Mp S2 pb (words / page) F w → Calls Try.prog f args w fun e w' => e = R ∧ Pg.Did S2 pb (words / page) F' w w') :
    Calls Try.prog f args w fun e w' => e = R ∧ RawDid S m b pb words page room s F' w w' := by
  obtain ⟨hd, ⟨S1, S2, h1, h2, h3, h4, h5, h6, h7⟩, ho, hI⟩ := h
  refine (op S2 h2).mono fun e w' ⟨he, S2', k1, k2, k3⟩ => ⟨he, fun k => S k ∨ S2' k, ⟨k2.keep hd h5, ⟨S1, S2', h1.keep k2 h3, k1, (k3.apart h3.symm h1.in).symm, h4, fun a => ?_, fun k a => .inl (h6 k a), fun k a => .inr a⟩, .inl ho, ?_⟩, k2.mono (fun k _ a => h7 k a), ?_⟩
  · rcases k3 m a with a | a
    · exact h5 a
    · have := block_lt hd; omega
  · intro k hk
    rcases hk with a | a
    · have := hI k a; have := k2.size; omega
    · exact k1.in k a
  · intro k hk
    rcases hk with a | a
    · exact .inl a
    · exact (k3 k a).imp (h7 k) id
theorem take_raw (h : VRaw S m b pb words page room s F w) (hk : s.ok room page) (ht : s.times ≤ 1000000000) :
    Calls Try.prog 105 #[.pointer (some ⟨b, 0, none⟩)] w fun e w' => e = .returned (.tuple #[.int .i64 (Fr.takeE room s).1, .int .i64 (Fr.takeE room s).2]) ∧ RawDid S m b pb words page room (Fr.takeT room s) F w w' :=
  h.pool fun S1 h1 => Fr.take_pl S1 b room page s w h1 hk ht
theorem give_raw (h : VRaw S m b pb words page room s F w) (hk : s.ok room page) (f : Int) :
    Calls Try.prog 108 #[.pointer (some ⟨b, 0, none⟩), .int .i64 f] w fun e w' => e = .returned (.int .i64 (Fr.giveE s f)) ∧ RawDid S m b pb words page room (Fr.giveS s f) F w w' :=
  h.pool fun S1 h1 => Fr.give_pl S1 b room page s w h1 hk f
theorem store_raw (h : VRaw S m b pb words page room s F w) (hk : s.ok room page) (f i : Int) (x : Nat) :
    Calls Try.prog 103 #[.pointer (some ⟨b, 0, none⟩), .int .i64 f, .int .i64 i, .int .u64 x] w fun e w' => e = .returned (.int .i64 (Fr.wordE page s f i)) ∧ RawDid S m b pb words page room (Fr.storeS page s f i x) F w w' :=
  h.pool fun S1 h1 => Fr.store_pl S1 b room page s w h1 hk f i x
theorem load_raw (h : VRaw S m b pb words page room s F w) (hk : s.ok room page) (f i : Int) :
    Calls Try.prog 111 #[.pointer (some ⟨b, 0, none⟩), .int .i64 f, .int .i64 i] w fun e w' => e = .returned (.tuple #[.int .u64 (Fr.loadR page s f i), .int .i64 (Fr.wordE page s f i)]) ∧ w = w' := by
  obtain ⟨_, ⟨S1, S2, h1, _⟩, _⟩ := h
  exact Fr.load_pl S1 b room page s w h1 hk f i
theorem page_raw (h : VRaw S m b pb words page room s F w) : Calls Try.prog 101 #[.pointer (some ⟨b, 0, none⟩)] w fun e w' => e = .returned (.int .i64 page) ∧ w = w' := by
  obtain ⟨_, ⟨S1, S2, h1, _⟩, _⟩ := h
  exact Fr.page_pl S1 b room page s w h1
theorem room_raw (h : VRaw S m b pb words page room s F w) : Calls Try.prog 114 #[.pointer (some ⟨b, 0, none⟩)] w fun e w' => e = .returned (.int .i64 room) ∧ w = w' := by
  obtain ⟨_, ⟨S1, S2, h1, _⟩, _⟩ := h
  exact Fr.room_pl S1 b room page s w h1
theorem used_raw (h : VRaw S m b pb words page room s F w) : Calls Try.prog 112 #[.pointer (some ⟨b, 0, none⟩)] w fun e w' => e = .returned (.int .i64 s.used) ∧ w = w' := by
  obtain ⟨_, ⟨S1, S2, h1, _⟩, _⟩ := h
  exact Fr.used_pl S1 b room page s w h1
theorem high_raw (h : VRaw S m b pb words page room s F w) : Calls Try.prog 113 #[.pointer (some ⟨b, 0, none⟩)] w fun e w' => e = .returned (.int .i64 s.high) ∧ w = w' := by
  obtain ⟨_, ⟨S1, S2, h1, _⟩, _⟩ := h
  exact Fr.high_pl S1 b room page s w h1
theorem frame_raw (h : VRaw S m b pb words page room s F w) (p : Int) :
    Calls Try.prog 104 #[.pointer (some ⟨pb, 0, none⟩), .int .i64 p] w fun e w' => e = .returned (.tuple #[.int .i64 (Pg.frameR (words / page) F p).1, .int .i64 (Pg.frameR (words / page) F p).2]) ∧ Below w.heap.size w w' := by
  obtain ⟨_, ⟨S1, S2, _, h2, _⟩, _⟩ := h
  exact Pg.frame_mp S2 pb (words / page) F w h2 p
theorem put_raw (h : VRaw S m b pb words page room s F w) (p f : Int) :
    Calls Try.prog 106 #[.pointer (some ⟨pb, 0, none⟩), .int .i64 p, .int .i64 f] w fun e w' => e = .returned (.int .i64 (Pg.putR (words / page) F p f).1) ∧ RawDid S m b pb words page room s (Pg.putR (words / page) F p f).2 w w' :=
  h.pages fun S2 h2 => Pg.put_mp S2 pb (words / page) F w h2 p f
theorem drop_raw (h : VRaw S m b pb words page room s F w) (p : Int) :
    Calls Try.prog 107 #[.pointer (some ⟨pb, 0, none⟩), .int .i64 p] w fun e w' => e = .returned (.tuple #[.int .i64 (Pg.frameR (words / page) F p).1, .int .i64 (Pg.frameR (words / page) F p).2]) ∧ RawDid S m b pb words page room s (Pg.dropF (words / page) F p) w w' :=
  h.pages fun S2 h2 => Pg.drop_mp S2 pb (words / page) F w h2 p
theorem pmove_raw (h : VRaw S m b pb words page room s F w) (p q : Int) :
    Calls Try.prog 109 #[.pointer (some ⟨pb, 0, none⟩), .int .i64 p, .int .i64 q] w fun e w' => e = .returned (.int .i64 (Pg.moveR (words / page) F p q).1) ∧ RawDid S m b pb words page room s (Pg.moveR (words / page) F p q).2 w w' :=
  h.pages fun S2 h2 => Pg.move_mp S2 pb (words / page) F w h2 p q
end
/-- what sizes a memory may have -/
structure VDim (words page : Nat) : Prop where
  words1 : 1 ≤ words ∧ words ≤ 524288
  whole : words % page = 0
  pow : Fr.isPage page
/-- a memory of so many words, words of a page, and frames, that has what v tells, and took frames at most t times -/
def Vm (S : Nat → Prop) (m words page room t : Nat) (v : VS) (w : World) : Prop :=
  ∃ b pb s F, VRaw S m b pb words page room s F w ∧ s.ok room page ∧ s.times ≤ t ∧ Vr page (words / page) s F v ∧ VDim words page
def VDid (S : Nat → Prop) (m words page room t : Nat) (v : VS) (w w' : World) : Prop := ∃ S', Vm S' m words page room t v w' ∧ Chg S w w' ∧ Grew S S' w
section
variable {S T : Nat → Prop} {m words page room t : Nat} {v : VS} {w w1 w' : World}
theorem Vm.in (h : Vm S m words page room t v w) : In S w := by
  obtain ⟨b, pb, s, F, h, _⟩ := h
  exact h.ins
theorem Vm.own (h : Vm S m words page room t v w) : S m := by
  obtain ⟨b, pb, s, F, h, _⟩ := h
  exact h.own
theorem Vm.dims (h : Vm S m words page room t v w) : (1 ≤ words ∧ words ≤ 524288) ∧ words % page = 0 ∧ (1 ≤ page ∧ page ≤ 256) ∧ (1 ≤ room ∧ room ≤ 4096) ∧ v.used ≤ room ∧ v.high ≤ 4096 := by
  obtain ⟨b, pb, s, F, h, hk, ht, hV, hw, hd, _⟩ := h
  exact ⟨hw, hd, hk.page1, hk.room1, by rw [← hV.used]; exact Fr.used_le hk, by rw [← hV.high]; exact hk.high⟩
theorem Vm.isPage (h : Vm S m words page room t v w) : Fr.isPage page := by
  obtain ⟨b, pb, s, F, h, hk, ht, hV, hw⟩ := h
  exact hw.pow
theorem Vm.keep (h : Vm S m words page room t v w) (c : Chg T w w') (ap : Apart S T) : Vm S m words page room t v w' := by
  obtain ⟨b, pb, s, F, h, k⟩ := h
  exact ⟨b, pb, s, F, h.keep c ap, k⟩
theorem Vm.grow (h : Vm S m words page room t v w) (c : Below w.heap.size w w') : Vm S m words page room t v w' :=
  h.keep (T := fun _ => False) (Chg.of c) (fun _ _ h => h)
theorem Vm.more (h : Vm S m words page room t v w) {t' : Nat} (ht : t ≤ t') : Vm S m words page room t' v w := by
  obtain ⟨b, pb, s, F, h, hk, h1, k⟩ := h
  exact ⟨b, pb, s, F, h, hk, Nat.le_trans h1 ht, k⟩
theorem Vm.like {v' : VS} (h : Vm S m words page room t v w) (hl : v.like page (words / page) v') : Vm S m words page room t v' w := by
  obtain ⟨b, pb, s, F, h, hk, h1, hV, k⟩ := h
  exact ⟨b, pb, s, F, h, hk, h1, hV.like hl, k⟩
theorem VDid.of (h : Vm S m words page room t v w) (c : Below w.heap.size w w') : VDid S m words page room t v w w' := ⟨S, h.grow c, Chg.of c, Grew.refl _ _⟩
theorem VDid.then {S' : Nat → Prop} (h : Chg S w w1) (g : Grew S S' w) (k : VDid S' m words page room t v w1 w') : VDid S m words page room t v w w' := by
  obtain ⟨S2, h1, h2, h3⟩ := k
  exact ⟨S2, h1, h.then h2 g, g.trans h3 h.size⟩
theorem VDid.more (h : VDid S m words page room t v w w') {t' : Nat} (ht : t ≤ t') : VDid S m words page room t' v w w' := by
  obtain ⟨S', h1, h2⟩ := h
  exact ⟨S', h1.more ht, h2⟩
end
end Go.Proofs.Ytkcijlndblbidaa
