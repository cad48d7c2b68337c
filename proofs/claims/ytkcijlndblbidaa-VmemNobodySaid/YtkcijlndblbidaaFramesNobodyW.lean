/- The walks of the example and of the law FramesNobody. -/
import Derived.Test.YtkcijlndblbidaaFramesTake2
namespace Go.Proofs.Ytkcijlndblbidaa.Fr
open Go.ChangeShapes Go.WideShapes Go.ChangeAt Go.RowKit
set_option linter.unusedVariables false

def takeE (room : Nat) (s : PS) : Int × Int := if s.used = room then (0, 14) else (nextF s, 0)
def takeT (room : Nat) (s : PS) : PS := if s.used = room then s else takeS s
theorem used_le {room page : Nat} {s : PS} (hk : s.ok room page) : s.used ≤ room := by
  have := hk.used
  have := hk.few
  omega
theorem take_pl (S : Nat → Prop) (b room page : Nat) (s : PS) (w : World) (hP : Pl S b room page s w) (hk : s.ok room page) (ht : s.times ≤ 1000000000) :
    Calls Try.prog 105 #[.pointer (some ⟨b, 0, none⟩)] w fun e w' => e = .returned (.tuple #[.int .i64 (takeE room s).1, .int .i64 (takeE room s).2]) ∧ PDid S b room page (takeT room s) w w' := by
  unfold takeE takeT
  by_cases h : s.used = room
  · rw [if_pos h, if_pos h]
    exact (take_full S b room page s w hP hk h).mono fun e w' ⟨he, hb⟩ => ⟨he, PDid.of hP hb⟩
  · rw [if_neg h, if_neg h]
    exact take_yes S b room page s w hP hk (by have := used_le hk; omega) ht
theorem takeT_ok {room page : Nat} {s : PS} (hk : s.ok room page) : (takeT room s).ok room page := by
  unfold takeT
  split
  · exact hk
  · exact take_ok hk (by have := used_le hk; omega)
theorem giveS_ok {room page : Nat} {s : PS} (hk : s.ok room page) (f : Int) : (giveS s f).ok room page := by
  unfold giveS
  split
  · rename_i h
    exact (give_ok hk f h).1
  · exact hk
theorem takeT_times (room : Nat) (s : PS) : (takeT room s).times ≤ s.times + 1 := by
  unfold takeT
  split
  · omega
  · show s.times + 1 ≤ s.times + 1
    omega
theorem giveS_times (s : PS) (f : Int) : (giveS s f).times = s.times := by unfold giveS; split <;> rfl
/-- a pool above a base world -/
def PSt (W0 : World) (b room page : Nat) (s : PS) (w : World) : Prop := ∃ S, Pl S b room page s w ∧ Up W0.heap.size S ∧ Below W0.heap.size W0 w
theorem PSt.did {W0 w w' : World} {b room page : Nat} {s' : PS} {S : Nat → Prop} (u : Up W0.heap.size S) (hb : Below W0.heap.size W0 w) (h : PDid S b room page s' w w') : PSt W0 b room page s' w' := by
  obtain ⟨S', h1, h2, h3⟩ := h.up u hb.size
  exact ⟨S', h1, h2, hb.trans h3⟩
theorem PSt.below {W0 w : World} {b room page : Nat} {s : PS} (h : PSt W0 b room page s w) : Below W0.heap.size W0 w := by
  obtain ⟨_, _, _, h⟩ := h; exact h
section
variable {W0 w : World} {b room page : Nat} {s : PS}
theorem PSt.grow (h : PSt W0 b room page s w) {w' : World} (hb : Below w.heap.size w w') : PSt W0 b room page s w' := by
  obtain ⟨S, m, u, k⟩ := h
  exact ⟨S, m.grow hb, u, k.trans (hb.mono k.size)⟩
theorem take_ps (h : PSt W0 b room page s w) (hk : s.ok room page) (ht : s.times ≤ 1000000000) :
    Calls Try.prog 105 #[.pointer (some ⟨b, 0, none⟩)] w fun e w' => e = .returned (.tuple #[.int .i64 (takeE room s).1, .int .i64 (takeE room s).2]) ∧ PSt W0 b room page (takeT room s) w' := by
  obtain ⟨S, m, u, k⟩ := h
  exact (take_pl S b room page s w m hk ht).mono fun e w' ⟨he, hd⟩ => ⟨he, PSt.did u k hd⟩
theorem give_ps (h : PSt W0 b room page s w) (hk : s.ok room page) (f : Int) :
    Calls Try.prog 108 #[.pointer (some ⟨b, 0, none⟩), .int .i64 f] w fun e w' => e = .returned (.int .i64 (giveE s f)) ∧ PSt W0 b room page (giveS s f) w' := by
  obtain ⟨S, m, u, k⟩ := h
  exact (give_pl S b room page s w m hk f).mono fun e w' ⟨he, hd⟩ => ⟨he, PSt.did u k hd⟩
theorem store_ps (h : PSt W0 b room page s w) (hk : s.ok room page) (f i : Int) (x : Nat) :
    Calls Try.prog 103 #[.pointer (some ⟨b, 0, none⟩), .int .i64 f, .int .i64 i, .int .u64 x] w fun e w' => e = .returned (.int .i64 (wordE page s f i)) ∧ PSt W0 b room page (storeS page s f i x) w' := by
  obtain ⟨S, m, u, k⟩ := h
  exact (store_pl S b room page s w m hk f i x).mono fun e w' ⟨he, hd⟩ => ⟨he, PSt.did u k hd⟩
theorem load_ps (h : PSt W0 b room page s w) (hk : s.ok room page) (f i : Int) :
    Calls Try.prog 111 #[.pointer (some ⟨b, 0, none⟩), .int .i64 f, .int .i64 i] w fun e w' => e = .returned (.tuple #[.int .u64 (loadR page s f i), .int .i64 (wordE page s f i)]) ∧ w = w' := by
  obtain ⟨S, m, u, k⟩ := h
  exact load_pl S b room page s w m hk f i
theorem used_ps (h : PSt W0 b room page s w) : Calls Try.prog 112 #[.pointer (some ⟨b, 0, none⟩)] w fun e w' => e = .returned (.int .i64 s.used) ∧ w = w' := by
  obtain ⟨S, m, u, k⟩ := h
  exact used_pl S b room page s w m
theorem high_ps (h : PSt W0 b room page s w) : Calls Try.prog 113 #[.pointer (some ⟨b, 0, none⟩)] w fun e w' => e = .returned (.int .i64 s.high) ∧ w = w' := by
  obtain ⟨S, m, u, k⟩ := h
  exact high_pl S b room page s w m
end
theorem new_ps (r p : Nat) (w : World) (h1 : 1 ≤ r) (h2 : r ≤ 4096) (h3 : isPage p) :
    Calls Try.prog 97 #[.int .i64 r, .int .i64 p] w fun e w' => e = .returned (.tuple #[.pointer (some ⟨w.heap.size, 0, none⟩), .int .i64 0]) ∧ PSt w w.heap.size r p start w' :=
  (new_yes r p w h1 h2 h3).mono fun e w' ⟨he, ⟨S, m, u⟩, hb⟩ => ⟨he, S, m, u, hb⟩
end Go.Proofs.Ytkcijlndblbidaa.Fr
