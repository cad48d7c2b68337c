/- The walk of the reference's Store. -/
import Derived.Test.YtoldbaandkgmkaaFramesRefW
namespace Go.Proofs.Ytoldbaandkgmkaa
open Go.ChangeShapes Go.WideShapes Go.ChangeAt Go.RowKit
set_option linter.unusedVariables false

theorem type_ne {w : World} {g g' : Nat} {c c' : Array Value} {t t' : TypeId} {x x' : Nat × Nat} (h : w.heap[g]? = some (.cells c t x)) (h' : w.heap[g']? = some (.cells c' t' x')) (ht : t ≠ t') : g ≠ g' := by
  rintro rfl
  rw [h] at h'
  simp at h'
  exact ht h'.2.1
theorem own_cur {w : World} {B size n : Nat} {e : TypeId} {v : Value} {xs : List Value} (h : w.ownsRow B e size v n xs) {k : Nat} (hk : v.ownBlock = some k) : ∃ cur, w.heap[k]? = some (.cells cur e (0, 0)) := by
  rcases h.2 with ⟨rfl, _⟩ | ⟨g, cap, cur, rfl, hb, hg, _⟩
  · cases hk
  · simp [Value.ownBlock] at hk
    subst hk
    exact ⟨cur, hg⟩
theorem ftab_array_set (n : Nat) (f : Nat → Value) (j : Nat) (v : Value) : (ftab n f).toArray.setIfInBounds j v = (ftab n fun i => if i = j then v else f i).toArray := by
  rw [← ftab_set]
  simp
theorem frame_word : (66 : Nat) ≠ 29 := by decide
theorem RPool.list_ne {rb room page cL cB : Nat} {aL aB : Option Addr} {fs : List (Nat × Nat)} {s : PS} {w : World} (h : RPool rb room page aL cL aB cB fs s w) {x : Nat} (hx : x < fs.length) : (∀ k, (Value.slice aL fs.length cL).ownBlock = some k → k ≠ fG fs x) ∧ (∀ k, (Value.slice aB s.bk.length cB).ownBlock = some k → k ≠ fG fs x) ∧ rb ≠ fG fs x := by
  obtain ⟨h1, h2⟩ := h.words x hx
  refine ⟨fun k hk => ?_, fun k hk => ?_, by omega⟩
  · obtain ⟨cur, hc⟩ := own_cur h.list hk
    exact type_ne hc h2 frame_word
  · obtain ⟨cur, hc⟩ := h.back.block k hk
    exact type_ne hc h2 word_int.symm
theorem RPool.put {rb room page cL cB : Nat} {aL aB : Option Addr} {fs : List (Nat × Nat)} {s : PS} {w : World} (h : RPool rb room page aL cL aB cB fs s w) (hF : RelP fs s) {x : Nat} (hx : x < fs.length) (i v : Nat) :
    RPool rb room page aL cL aB cB fs (putW s (fF fs x) i v) (w.setCell ⟨fG fs x, i, none⟩ (.int .u64 v)) := by
  obtain ⟨n1, n2, n3⟩ := h.list_ne hx
  refine ⟨?_, own_from h.list fun k hk => far (n1 k hk), h.back.from fun k hk => far (n2 k hk), fun j hj => ⟨(h.words j hj).1, ?_⟩, h.apart⟩
  · rw [far n3]; exact h.head
  · by_cases e : j = x
    · subst e
      unfold WRow
      rw [heap_setCell_same _ (fG fs j) i _ _ _ (h.words j hj).2, ftab_array_set]
      congr 4
      funext q
      show (if q = i then Value.int .u64 v else .int .u64 (s.wd (fF fs j) q)) = .int .u64 ((if fF fs j = fF fs j ∧ q = i then v else s.wd (fF fs j) q : Nat) : Int)
      by_cases hq : q = i
      · rw [if_pos hq, if_pos ⟨rfl, hq⟩]
      · rw [if_neg hq, if_neg (fun h => hq h.2)]
    · have hne : fG fs j ≠ fG fs x := fun k => e (h.apart j x hj hx k)
      have hnf : fF fs j ≠ fF fs x := fun k => e (hF.once j x hj hx k)
      unfold WRow
      rw [far hne]
      have := (h.words j hj).2
      unfold WRow at this
      rw [this]
      congr 4
      funext q
      show Value.int .u64 (s.wd (fF fs j) q) = .int .u64 ((if fF fs j = fF fs x ∧ q = i then v else s.wd (fF fs j) q : Nat) : Int)
      rw [if_neg (fun h => hnf h.1)]
theorem RPool.drew {rb room page cL cB : Nat} {aL aB : Option Addr} {fs : List (Nat × Nat)} {s : PS} {w : World} (h : RPool rb room page aL cL aB cB fs s w) : RPool rb room page aL cL aB cB fs s w.drew :=
  ⟨h.head, own_from h.list fun _ _ => rfl, h.back.from fun _ _ => rfl, h.words, h.apart⟩
set_option maxRecDepth 100000 in
set_option maxHeartbeats 2000000 in
theorem refStore_any (T : Nat → Prop) (rb room page : Nat) (s : PS) (w : World) (hP : Rf T rb room page s w) (hk : s.ok room page) (f i : Int) (v : Nat) :
    Calls Try.prog 16 #[.pointer (some ⟨rb, 0, none⟩), .int .i64 f, .int .i64 i, .int .u64 v] w fun e w' => e = .returned (.int .i64 (wordE page s f i)) ∧ RfDid T rb room page (storeS page s f i v) w w' := by
  have Hload := Lib.hid (refLoad_any T rb room page s w hP hk f i)
  have HP := Lib.hid hP
  unfold storeS
  by_cases h : wordE page s f i = 0
  · obtain ⟨h1, h2, h3⟩ := wordE_zero h
    rw [if_pos h, h]
    rw [h] at Hload
    obtain ⟨aL, cL, aB, cB, fs, hR, hF, ⟨t1, t2, t3, t4⟩, hI⟩ := hP
    have hlen : fs.length ≤ 4096 := by
      have := used_le hk
      have := hk.room1
      have := hF.many
      omega
    obtain ⟨x, hx, hat, hfx⟩ := hF.at h1
    obtain ⟨g, rfl, hg1, hg2⟩ := hR.form (by omega)
    have Hat := Lib.hid (fun W hW => refAt_any rb room page cL cB (some ⟨g, 0, none⟩) aB fs s W hW hlen f x hat)
    obtain ⟨j, rfl⟩ : ∃ j : Nat, i = j := ⟨i.toNat, by omega⟩
    rw [Int.toNat_natCast]
    obtain ⟨-, cx⟩ := hR.cell hx
    have c2 := at_cell hR.head 2 _ rfl
    obtain ⟨hw1, hw2⟩ := hR.words x hx
    obtain ⟨n1, -, n3⟩ := hR.list_ne hx
    have hgw : g ≠ fG fs x := n1 g rfl
    have hput := hR.put hF hx j v
    have hff : fF fs x = f.toNat := by omega
    rw [hff] at hput hw2
    have cj := at_cell hw2 j (.int .u64 (s.wd f.toNat j)) (by
      have := ftab_get page (fun j => Value.int .u64 (s.wd f.toNat j)) j
      rw [if_pos (by omega)] at this
      simpa using this)
    have fj := at_free hw2 j
    have Hres := Lib.hid (show RfDid T rb room page (putW s f.toNat j v) w (w.setCell ⟨fG fs x, j, none⟩ (.int .u64 v)).drew from
      ⟨T, (Rf.grow (w := w.setCell ⟨fG fs x, j, none⟩ (.int .u64 v)) ⟨_, _, _, _, _, hput, ⟨hF.each, hF.all, hF.once, hF.many⟩, ⟨t1, t2, t3, t4⟩, hI.mono (by simp [World.setCell])⟩ (below_drew _)), ((Chg.refl T w).set (p := ⟨fG fs x, j, none⟩) (.inl (t4 x hx)) _).drew, Grew.refl _ _⟩)
    have HR := Lib.hid hR
    have hx0 : (0 : Int) ≤ x := by omega
    have hx2 : (x : Int) < fs.length := by omega
    have hj2 : (j : Int) < page := by omega
    have hj3 : (0 : Int) ≤ j := by omega
    have hgw' : fG fs x ≠ g := fun e => hgw e.symm
    have hrw : rb ≠ fG fs x := n3
    have hrw' : fG fs x ≠ rb := fun e => n3 e.symm
    generalize loadR page s f (j : Int) = ld at *
    generalize (s.wd f.toNat j : Int) = y at *
    generalize fG fs x = gw at *
    clear h h1 h2 h3 hR hF hk t1 t2 t3 t4 hI hat hfx hput hff hw1 hw2 n1 n3
    go_enter Try.func16, Try.ntmps16
    go_wp2_with (go_at_call 17; refine Hload.out.mono ?_; rintro e w1 ⟨rfl, rfl⟩)
    go_region_held3 (fun w' => w'.cell? ⟨rb, 2, none⟩ = some (.slice (some ⟨g, 0, none⟩) fs.length cL) ∧ w'.cell? ⟨g, x * 2 + 1, none⟩ = some (.slice (some ⟨gw, 0, none⟩) page page)) (first | exact ⟨c2, cx⟩ | go_keep | (refine ⟨?_, ?_⟩ <;> (first | (rw [World.cell?_of_block (far (w := w) (p := ⟨gw, j, none⟩) hrw)]; exact c2) | (rw [World.cell?_of_block (far (w := w) (p := ⟨gw, j, none⟩) hgw)]; exact cx)))) ((go_at_call 27; refine (Hat.out _ HR.out.drew).mono ?_; rintro e w1 ⟨rfl, rfl⟩))
    go_wp2
    go_ret
    exact ⟨rfl, Hres.out⟩
  · rw [if_neg h]
    obtain ⟨y, hy⟩ : ∃ y, wordE page s f i = y := ⟨_, rfl⟩
    rw [hy] at Hload h ⊢
    generalize loadR page s f i = ld at *
    clear hy hP hk
    go_enter Try.func16, Try.ntmps16
    go_wp2_with (go_at_call 17; refine Hload.out.mono ?_; rintro e w1 ⟨rfl, rfl⟩)
    go_ret
    exact ⟨rfl, RfDid.of HP.out (Below.refl _ _)⟩
end Go.Proofs.Ytoldbaandkgmkaa
