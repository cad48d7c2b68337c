/- The walk of the law WireReads, for any bytes and any kinds. -/
import Derived.Test.YtkabpiganjjacaaWireM
import Derived.Test.YtkabpiganjjacaaIntRow
namespace Go.Proofs.Ytkabpiganjjacaa
open Go.ChangeShapes Go.WideShapes Go.ChangeAt Go.RowKit

set_option maxHeartbeats 4000000 in
set_option maxRecDepth 100000 in
theorem reads_walk (s : ByteArray) (a : Option Addr) (cap : Nat) (zs : List Int) (w : World) (hs : s.size ≤ maxLen) (hZ : IntRow .u8 w a zs) :
    Calls Try.prog 4 #[.string s, .slice a zs.length cap] w fun e w' => e = .returned (.bool true) ∧ Below w.heap.size w w' := by
  have HZ := Lib.hid hZ
  have hmany := hZ.many
  unfold maxLen at hmany hs
  clear hZ
  by_cases hbig : 3000 < s.size
  · have hl := lives_any w
    go_enter Try.func4, Try.ntmps4
    go_wp2_with (go_at_call 7; refine hl.mono ?_; rintro e w1 ⟨rfl, hb⟩)
    go_ret
    exact ⟨rfl, hb⟩
  by_cases hbig2 : 200 < zs.length
  · have hl := lives_any w
    go_enter Try.func4, Try.ntmps4
    go_wp2_with (go_at_call 7; refine hl.mono ?_; rintro e w1 ⟨rfl, hb⟩)
    go_ret
    exact ⟨rfl, hb⟩
  have hnew := newReader_any s w
  have Hnew := Lib.hid hnew
  clear hnew
  go_enter Try.func4, Try.ntmps4
  go_wp2_with (go_at_call 12; refine Hnew.out.mono ?_; rintro e w0 ⟨rfl, h0, hb0⟩; clear Hnew)
  have Hr0 := Lib.hid h0
  clear h0
  go_loopw [6, 7, 32] (fun at' why i wr => ∃ (p y m : Nat), at' = .int .i64 p ∧ why = .int .i64 y ∧ i = .int .i64 m ∧ p ≤ s.size ∧ m ≤ zs.length ∧ IsR w.heap.size (s.data.toList.drop p) y wr ∧ Below w.heap.size w wr) (fun _ _ i _ => zs.length - (intOf i).toNat)
  case atStart => exact ⟨0, 0, 0, rfl, rfl, rfl, by omega, by omega, by simpa using Hr0.out, hb0⟩
  case round =>
    clear Hr0 hb0
    obtain ⟨p, y, m, rfl, rfl, rfl, hp, hm, hR, hb⟩ := hrel
    by_cases hlt : m < zs.length
    · have hZ2 := HZ.out.below hb
      obtain ⟨b, off, ha, hcell⟩ := hZ2.cell
      obtain rfl : a = some ⟨b, off, none⟩ := by
        rcases ha with rfl | ha
        · simp at hlt
        · exact ha
      have c0 := hcell m hlt
      have hz := bounds_u8 (hZ2.each m hlt)
      clear hcell ha hZ2
      generalize zs.getD m 0 = z at *
      have hll : (s.data.toList.drop p).length = s.size - p := by rw [List.length_drop, size_list]
      have hlen : (s.data.toList.drop p).length ≤ 1000000000 := by omega
      have hsx : (s.extract p s.size).size ≤ 1000000000 := by rw [ByteArray.size_extract]; omega
      obtain ⟨z, rfl⟩ : ∃ q : Nat, z = q := ⟨z.toNat, by omega⟩
      by_cases k0 : z % 4 = 0
      · have kk : (z : Int) % 4 = 0 := by omega
        have hr := rNum_any w.heap.size w.heap.size (s.data.toList.drop p) y wr hR (Nat.le_refl _) hlen
        have hf := fun w => readNum_any (s.extract p s.size) w hsx
        simp only [Lib.extract_to_end] at hf
        have hfit : (Wire.readNum (s.data.toList.drop p)).2.1 ≤ s.size - p := by rw [← hll]; exact (Wire.readNum_fits _).2.1
        generalize Wire.readNum (s.data.toList.drop p) = q at *
        obtain ⟨x, k, e0⟩ := q
        simp only at *
        have Hf := Lib.hid hf
        clear hf hll hR
        by_cases hy : y = 0
        · subst hy
          by_cases he : e0 = 0
          · subst he
            simp only [Wire.got, Wire.left, Wire.note, ne_eq, not_true_eq_false, ↓reduceIte, List.drop_drop] at hr
            have hleft : ∀ w1, IsR w.heap.size (s.data.toList.drop (p + k)) 0 w1 → Calls Try.prog 22 #[.pointer (some ⟨w.heap.size, 0, none⟩)] w1 fun e w' => e = .returned (.int .i64 ((s.size : Int) - ((p : Int) + (k : Int)))) ∧ w1 = w' := fun w1 h1 => by
              have := rLeft_any w.heap.size _ _ w1 h1
              rw [List.length_drop, size_list, show (((s.size - (p + k) : Nat) : Int)) = (s.size : Int) - ((p : Int) + (k : Int)) by omega] at this
              exact this
            have Hr := Lib.hid hr
            have Hl := Lib.hid hleft
            clear hr hleft
            go_wp2_with (first | (go_at_call 13; refine Hr.out.mono ?_; rintro e w1 ⟨rfl, h1⟩; have H1 := Lib.hid h1; clear h1 Hr c0) | (go_at_call 17; refine (floatBits_any _ _).mono ?_; rintro e w2 ⟨rfl, rfl⟩) | (go_at_call 14; refine (Hf.out _).mono ?_; rintro e w2 ⟨rfl, rfl⟩) | (go_at_call 22; refine (Hl.out _ H1.out.1).mono ?_; rintro e w2 ⟨rfl, rfl⟩) | (go_at_call 23; refine (rErr_any _ _ _ _ H1.out.1).mono ?_; rintro e w2 ⟨rfl, rfl⟩))
            go_roundw
            case rel => exact ⟨(p + k), 0, m + 1, by go_num, rfl, by go_num, by omega, by omega, H1.out.1, hb.trans H1.out.2⟩
            case measure => simp [intOf]; omega
          · simp only [Wire.got, Wire.left, Wire.note, ne_eq, not_true_eq_false, he, not_false_eq_true, ↓reduceIte] at hr
            have hleft : ∀ w1, IsR w.heap.size (s.data.toList.drop p) e0 w1 → Calls Try.prog 22 #[.pointer (some ⟨w.heap.size, 0, none⟩)] w1 fun e w' => e = .returned (.int .i64 ((s.size : Int) - (p : Int))) ∧ w1 = w' := fun w1 h1 => by
              have := rLeft_any w.heap.size _ _ w1 h1
              rw [List.length_drop, size_list, show (((s.size - p : Nat) : Int)) = (s.size : Int) - (p : Int) by omega] at this
              exact this
            have Hr := Lib.hid hr
            have Hl := Lib.hid hleft
            clear hr hleft
            go_wp2_with (first | (go_at_call 13; refine Hr.out.mono ?_; rintro e w1 ⟨rfl, h1⟩; have H1 := Lib.hid h1; clear h1 Hr c0) | (go_at_call 17; refine (floatBits_any _ _).mono ?_; rintro e w2 ⟨rfl, rfl⟩) | (go_at_call 14; refine (Hf.out _).mono ?_; rintro e w2 ⟨rfl, rfl⟩) | (go_at_call 22; refine (Hl.out _ H1.out.1).mono ?_; rintro e w2 ⟨rfl, rfl⟩) | (go_at_call 23; refine (rErr_any _ _ _ _ H1.out.1).mono ?_; rintro e w2 ⟨rfl, rfl⟩))
            go_roundw
            case rel => exact ⟨p, e0, m + 1, rfl, rfl, by go_num, by omega, by omega, H1.out.1, hb.trans H1.out.2⟩
            case measure => simp [intOf]; omega
        · simp only [Wire.got, Wire.left, Wire.note, ne_eq, hy, not_false_eq_true, ↓reduceIte] at hr
          have hleft : ∀ w1, IsR w.heap.size (s.data.toList.drop p) y w1 → Calls Try.prog 22 #[.pointer (some ⟨w.heap.size, 0, none⟩)] w1 fun e w' => e = .returned (.int .i64 ((s.size : Int) - (p : Int))) ∧ w1 = w' := fun w1 h1 => by
            have := rLeft_any w.heap.size _ _ w1 h1
            rw [List.length_drop, size_list, show (((s.size - p : Nat) : Int)) = (s.size : Int) - (p : Int) by omega] at this
            exact this
          have Hr := Lib.hid hr
          have Hl := Lib.hid hleft
          clear hr hleft
          go_wp2_with (first | (go_at_call 13; refine Hr.out.mono ?_; rintro e w1 ⟨rfl, h1⟩; have H1 := Lib.hid h1; clear h1 Hr c0) | (go_at_call 17; refine (floatBits_any _ _).mono ?_; rintro e w2 ⟨rfl, rfl⟩) | (go_at_call 14; refine (Hf.out _).mono ?_; rintro e w2 ⟨rfl, rfl⟩) | (go_at_call 22; refine (Hl.out _ H1.out.1).mono ?_; rintro e w2 ⟨rfl, rfl⟩) | (go_at_call 23; refine (rErr_any _ _ _ _ H1.out.1).mono ?_; rintro e w2 ⟨rfl, rfl⟩))
          go_roundw
          case rel => exact ⟨p, y, m + 1, rfl, rfl, by go_num, by omega, by omega, H1.out.1, hb.trans H1.out.2⟩
          case measure => simp [intOf]; omega
      by_cases k1 : z % 4 = 1
      · have kk : (z : Int) % 4 = 1 := by omega
        have hr := rInt_any w.heap.size w.heap.size (s.data.toList.drop p) y wr hR (Nat.le_refl _) hlen
        have hf := fun w => readInt_any (s.extract p s.size) w hsx
        simp only [Lib.extract_to_end] at hf
        have hfit : (Wire.readNum (s.data.toList.drop p)).2.1 ≤ s.size - p := by rw [← hll]; exact (Wire.readNum_fits _).2.1
        generalize Wire.readNum (s.data.toList.drop p) = q at *
        obtain ⟨x, k, e0⟩ := q
        simp only at *
        have Hf := Lib.hid hf
        clear hf hll hR
        by_cases hy : y = 0
        · subst hy
          by_cases he : e0 = 0
          · subst he
            simp only [Wire.got, Wire.left, Wire.note, ne_eq, not_true_eq_false, ↓reduceIte, List.drop_drop] at hr
            generalize Wire.zag x = x at *
            have hleft : ∀ w1, IsR w.heap.size (s.data.toList.drop (p + k)) 0 w1 → Calls Try.prog 22 #[.pointer (some ⟨w.heap.size, 0, none⟩)] w1 fun e w' => e = .returned (.int .i64 ((s.size : Int) - ((p : Int) + (k : Int)))) ∧ w1 = w' := fun w1 h1 => by
              have := rLeft_any w.heap.size _ _ w1 h1
              rw [List.length_drop, size_list, show (((s.size - (p + k) : Nat) : Int)) = (s.size : Int) - ((p : Int) + (k : Int)) by omega] at this
              exact this
            have Hr := Lib.hid hr
            have Hl := Lib.hid hleft
            clear hr hleft
            go_wp2_with (first | (go_at_call 15; refine Hr.out.mono ?_; rintro e w1 ⟨rfl, h1⟩; have H1 := Lib.hid h1; clear h1 Hr c0) | (go_at_call 17; refine (floatBits_any _ _).mono ?_; rintro e w2 ⟨rfl, rfl⟩) | (go_at_call 16; refine (Hf.out _).mono ?_; rintro e w2 ⟨rfl, rfl⟩) | (go_at_call 22; refine (Hl.out _ H1.out.1).mono ?_; rintro e w2 ⟨rfl, rfl⟩) | (go_at_call 23; refine (rErr_any _ _ _ _ H1.out.1).mono ?_; rintro e w2 ⟨rfl, rfl⟩))
            go_roundw
            case rel => exact ⟨(p + k), 0, m + 1, by go_num, rfl, by go_num, by omega, by omega, H1.out.1, hb.trans H1.out.2⟩
            case measure => simp [intOf]; omega
          · simp only [Wire.got, Wire.left, Wire.note, ne_eq, not_true_eq_false, he, not_false_eq_true, ↓reduceIte] at hr
            rw [show Wire.zag 0 = 0 from rfl] at hr
            have hleft : ∀ w1, IsR w.heap.size (s.data.toList.drop p) e0 w1 → Calls Try.prog 22 #[.pointer (some ⟨w.heap.size, 0, none⟩)] w1 fun e w' => e = .returned (.int .i64 ((s.size : Int) - (p : Int))) ∧ w1 = w' := fun w1 h1 => by
              have := rLeft_any w.heap.size _ _ w1 h1
              rw [List.length_drop, size_list, show (((s.size - p : Nat) : Int)) = (s.size : Int) - (p : Int) by omega] at this
              exact this
            have Hr := Lib.hid hr
            have Hl := Lib.hid hleft
            clear hr hleft
            go_wp2_with (first | (go_at_call 15; refine Hr.out.mono ?_; rintro e w1 ⟨rfl, h1⟩; have H1 := Lib.hid h1; clear h1 Hr c0) | (go_at_call 17; refine (floatBits_any _ _).mono ?_; rintro e w2 ⟨rfl, rfl⟩) | (go_at_call 16; refine (Hf.out _).mono ?_; rintro e w2 ⟨rfl, rfl⟩) | (go_at_call 22; refine (Hl.out _ H1.out.1).mono ?_; rintro e w2 ⟨rfl, rfl⟩) | (go_at_call 23; refine (rErr_any _ _ _ _ H1.out.1).mono ?_; rintro e w2 ⟨rfl, rfl⟩))
            go_roundw
            case rel => exact ⟨p, e0, m + 1, rfl, rfl, by go_num, by omega, by omega, H1.out.1, hb.trans H1.out.2⟩
            case measure => simp [intOf]; omega
        · simp only [Wire.got, Wire.left, Wire.note, ne_eq, hy, not_false_eq_true, ↓reduceIte] at hr
          rw [show Wire.zag 0 = 0 from rfl] at hr
          have hleft : ∀ w1, IsR w.heap.size (s.data.toList.drop p) y w1 → Calls Try.prog 22 #[.pointer (some ⟨w.heap.size, 0, none⟩)] w1 fun e w' => e = .returned (.int .i64 ((s.size : Int) - (p : Int))) ∧ w1 = w' := fun w1 h1 => by
            have := rLeft_any w.heap.size _ _ w1 h1
            rw [List.length_drop, size_list, show (((s.size - p : Nat) : Int)) = (s.size : Int) - (p : Int) by omega] at this
            exact this
          have Hr := Lib.hid hr
          have Hl := Lib.hid hleft
          clear hr hleft
          go_wp2_with (first | (go_at_call 15; refine Hr.out.mono ?_; rintro e w1 ⟨rfl, h1⟩; have H1 := Lib.hid h1; clear h1 Hr c0) | (go_at_call 17; refine (floatBits_any _ _).mono ?_; rintro e w2 ⟨rfl, rfl⟩) | (go_at_call 16; refine (Hf.out _).mono ?_; rintro e w2 ⟨rfl, rfl⟩) | (go_at_call 22; refine (Hl.out _ H1.out.1).mono ?_; rintro e w2 ⟨rfl, rfl⟩) | (go_at_call 23; refine (rErr_any _ _ _ _ H1.out.1).mono ?_; rintro e w2 ⟨rfl, rfl⟩))
          go_roundw
          case rel => exact ⟨p, y, m + 1, rfl, rfl, by go_num, by omega, by omega, H1.out.1, hb.trans H1.out.2⟩
          case measure => simp [intOf]; omega
      by_cases k2 : z % 4 = 2
      · have kk : (z : Int) % 4 = 2 := by omega
        have hr := rFloat_any w.heap.size w.heap.size (s.data.toList.drop p) y wr hR (Nat.le_refl _) hlen
        have hf := fun w => readFix_any (s.extract p s.size) w hsx
        simp only [Lib.extract_to_end] at hf
        have hfit : (Wire.readFix (s.data.toList.drop p)).2.1 ≤ s.size - p := by rw [← hll]; exact Wire.readFix_fits _
        generalize Wire.readFix (s.data.toList.drop p) = q at *
        obtain ⟨x, k, e0⟩ := q
        simp only at *
        have Hf := Lib.hid hf
        clear hf hll hR
        by_cases hy : y = 0
        · subst hy
          by_cases he : e0 = 0
          · subst he
            simp only [Wire.got, Wire.left, Wire.note, ne_eq, not_true_eq_false, ↓reduceIte, List.drop_drop] at hr
            have hleft : ∀ w1, IsR w.heap.size (s.data.toList.drop (p + k)) 0 w1 → Calls Try.prog 22 #[.pointer (some ⟨w.heap.size, 0, none⟩)] w1 fun e w' => e = .returned (.int .i64 ((s.size : Int) - ((p : Int) + (k : Int)))) ∧ w1 = w' := fun w1 h1 => by
              have := rLeft_any w.heap.size _ _ w1 h1
              rw [List.length_drop, size_list, show (((s.size - (p + k) : Nat) : Int)) = (s.size : Int) - ((p : Int) + (k : Int)) by omega] at this
              exact this
            have Hr := Lib.hid hr
            have Hl := Lib.hid hleft
            clear hr hleft
            go_wp2_with (first | (go_at_call 18; refine Hr.out.mono ?_; rintro e w1 ⟨rfl, h1⟩; have H1 := Lib.hid h1; clear h1 Hr c0) | (go_at_call 17; refine (floatBits_any _ _).mono ?_; rintro e w2 ⟨rfl, rfl⟩) | (go_at_call 19; refine (Hf.out _).mono ?_; rintro e w2 ⟨rfl, rfl⟩) | (go_at_call 22; refine (Hl.out _ H1.out.1).mono ?_; rintro e w2 ⟨rfl, rfl⟩) | (go_at_call 23; refine (rErr_any _ _ _ _ H1.out.1).mono ?_; rintro e w2 ⟨rfl, rfl⟩))
            go_roundw
            case rel => exact ⟨(p + k), 0, m + 1, by go_num, rfl, by go_num, by omega, by omega, H1.out.1, hb.trans H1.out.2⟩
            case measure => simp [intOf]; omega
          · simp only [Wire.got, Wire.left, Wire.note, ne_eq, not_true_eq_false, he, not_false_eq_true, ↓reduceIte] at hr
            have hleft : ∀ w1, IsR w.heap.size (s.data.toList.drop p) e0 w1 → Calls Try.prog 22 #[.pointer (some ⟨w.heap.size, 0, none⟩)] w1 fun e w' => e = .returned (.int .i64 ((s.size : Int) - (p : Int))) ∧ w1 = w' := fun w1 h1 => by
              have := rLeft_any w.heap.size _ _ w1 h1
              rw [List.length_drop, size_list, show (((s.size - p : Nat) : Int)) = (s.size : Int) - (p : Int) by omega] at this
              exact this
            have Hr := Lib.hid hr
            have Hl := Lib.hid hleft
            clear hr hleft
            go_wp2_with (first | (go_at_call 18; refine Hr.out.mono ?_; rintro e w1 ⟨rfl, h1⟩; have H1 := Lib.hid h1; clear h1 Hr c0) | (go_at_call 17; refine (floatBits_any _ _).mono ?_; rintro e w2 ⟨rfl, rfl⟩) | (go_at_call 19; refine (Hf.out _).mono ?_; rintro e w2 ⟨rfl, rfl⟩) | (go_at_call 22; refine (Hl.out _ H1.out.1).mono ?_; rintro e w2 ⟨rfl, rfl⟩) | (go_at_call 23; refine (rErr_any _ _ _ _ H1.out.1).mono ?_; rintro e w2 ⟨rfl, rfl⟩))
            go_roundw
            case rel => exact ⟨p, e0, m + 1, rfl, rfl, by go_num, by omega, by omega, H1.out.1, hb.trans H1.out.2⟩
            case measure => simp [intOf]; omega
        · simp only [Wire.got, Wire.left, Wire.note, ne_eq, hy, not_false_eq_true, ↓reduceIte] at hr
          have hleft : ∀ w1, IsR w.heap.size (s.data.toList.drop p) y w1 → Calls Try.prog 22 #[.pointer (some ⟨w.heap.size, 0, none⟩)] w1 fun e w' => e = .returned (.int .i64 ((s.size : Int) - (p : Int))) ∧ w1 = w' := fun w1 h1 => by
            have := rLeft_any w.heap.size _ _ w1 h1
            rw [List.length_drop, size_list, show (((s.size - p : Nat) : Int)) = (s.size : Int) - (p : Int) by omega] at this
            exact this
          have Hr := Lib.hid hr
          have Hl := Lib.hid hleft
          clear hr hleft
          go_wp2_with (first | (go_at_call 18; refine Hr.out.mono ?_; rintro e w1 ⟨rfl, h1⟩; have H1 := Lib.hid h1; clear h1 Hr c0) | (go_at_call 17; refine (floatBits_any _ _).mono ?_; rintro e w2 ⟨rfl, rfl⟩) | (go_at_call 19; refine (Hf.out _).mono ?_; rintro e w2 ⟨rfl, rfl⟩) | (go_at_call 22; refine (Hl.out _ H1.out.1).mono ?_; rintro e w2 ⟨rfl, rfl⟩) | (go_at_call 23; refine (rErr_any _ _ _ _ H1.out.1).mono ?_; rintro e w2 ⟨rfl, rfl⟩))
          go_roundw
          case rel => exact ⟨p, y, m + 1, rfl, rfl, by go_num, by omega, by omega, H1.out.1, hb.trans H1.out.2⟩
          case measure => simp [intOf]; omega
      have k3 : z % 4 = 3 := by omega
      have kk : (z : Int) % 4 = 3 := by omega
      have hr := rText_any w.heap.size w.heap.size (s.data.toList.drop p) y wr hR (Nat.le_refl _) hlen
      have hf := fun w => refRead_any (s.extract p s.size) w hsx
      simp only [Lib.extract_to_end] at hf
      have hfit : (Wire.readText (s.data.toList.drop p)).2.1 ≤ s.size - p := by rw [← hll]; exact Wire.readText_fits _
      generalize Wire.readText (s.data.toList.drop p) = q at *
      obtain ⟨x, k, e0⟩ := q
      simp only at *
      have Hf := Lib.hid hf
      clear hf hll hR
      by_cases hy : y = 0
      · subst hy
        by_cases he : e0 = 0
        · subst he
          simp only [Wire.got, Wire.left, Wire.note, ne_eq, not_true_eq_false, ↓reduceIte, List.drop_drop] at hr
          have hleft : ∀ w1, IsR w.heap.size (s.data.toList.drop (p + k)) 0 w1 → Calls Try.prog 22 #[.pointer (some ⟨w.heap.size, 0, none⟩)] w1 fun e w' => e = .returned (.int .i64 ((s.size : Int) - ((p : Int) + (k : Int)))) ∧ w1 = w' := fun w1 h1 => by
            have := rLeft_any w.heap.size _ _ w1 h1
            rw [List.length_drop, size_list, show (((s.size - (p + k) : Nat) : Int)) = (s.size : Int) - ((p : Int) + (k : Int)) by omega] at this
            exact this
          have Hr := Lib.hid hr
          have Hl := Lib.hid hleft
          clear hr hleft
          go_wp2_with (first | (go_at_call 20; refine Hr.out.mono ?_; rintro e w1 ⟨rfl, h1⟩; have H1 := Lib.hid h1; clear h1 Hr c0) | (go_at_call 17; refine (floatBits_any _ _).mono ?_; rintro e w2 ⟨rfl, rfl⟩) | (go_at_call 21; refine (Hf.out _).mono ?_; rintro e w2 ⟨rfl, rfl⟩) | (go_at_call 22; refine (Hl.out _ H1.out.1).mono ?_; rintro e w2 ⟨rfl, rfl⟩) | (go_at_call 23; refine (rErr_any _ _ _ _ H1.out.1).mono ?_; rintro e w2 ⟨rfl, rfl⟩))
          go_roundw
          case rel => exact ⟨(p + k), 0, m + 1, by go_num, rfl, by go_num, by omega, by omega, H1.out.1, hb.trans H1.out.2⟩
          case measure => simp [intOf]; omega
        · simp only [Wire.got, Wire.left, Wire.note, ne_eq, not_true_eq_false, he, not_false_eq_true, ↓reduceIte] at hr
          rw [show str [] = ⟨#[]⟩ from rfl] at hr
          have hleft : ∀ w1, IsR w.heap.size (s.data.toList.drop p) e0 w1 → Calls Try.prog 22 #[.pointer (some ⟨w.heap.size, 0, none⟩)] w1 fun e w' => e = .returned (.int .i64 ((s.size : Int) - (p : Int))) ∧ w1 = w' := fun w1 h1 => by
            have := rLeft_any w.heap.size _ _ w1 h1
            rw [List.length_drop, size_list, show (((s.size - p : Nat) : Int)) = (s.size : Int) - (p : Int) by omega] at this
            exact this
          have Hr := Lib.hid hr
          have Hl := Lib.hid hleft
          clear hr hleft
          go_wp2_with (first | (go_at_call 20; refine Hr.out.mono ?_; rintro e w1 ⟨rfl, h1⟩; have H1 := Lib.hid h1; clear h1 Hr c0) | (go_at_call 17; refine (floatBits_any _ _).mono ?_; rintro e w2 ⟨rfl, rfl⟩) | (go_at_call 21; refine (Hf.out _).mono ?_; rintro e w2 ⟨rfl, rfl⟩) | (go_at_call 22; refine (Hl.out _ H1.out.1).mono ?_; rintro e w2 ⟨rfl, rfl⟩) | (go_at_call 23; refine (rErr_any _ _ _ _ H1.out.1).mono ?_; rintro e w2 ⟨rfl, rfl⟩))
          go_roundw
          case rel => exact ⟨p, e0, m + 1, rfl, rfl, by go_num, by omega, by omega, H1.out.1, hb.trans H1.out.2⟩
          case measure => simp [intOf]; omega
      · simp only [Wire.got, Wire.left, Wire.note, ne_eq, hy, not_false_eq_true, ↓reduceIte] at hr
        rw [show str [] = ⟨#[]⟩ from rfl] at hr
        have hleft : ∀ w1, IsR w.heap.size (s.data.toList.drop p) y w1 → Calls Try.prog 22 #[.pointer (some ⟨w.heap.size, 0, none⟩)] w1 fun e w' => e = .returned (.int .i64 ((s.size : Int) - (p : Int))) ∧ w1 = w' := fun w1 h1 => by
          have := rLeft_any w.heap.size _ _ w1 h1
          rw [List.length_drop, size_list, show (((s.size - p : Nat) : Int)) = (s.size : Int) - (p : Int) by omega] at this
          exact this
        have Hr := Lib.hid hr
        have Hl := Lib.hid hleft
        clear hr hleft
        go_wp2_with (first | (go_at_call 20; refine Hr.out.mono ?_; rintro e w1 ⟨rfl, h1⟩; have H1 := Lib.hid h1; clear h1 Hr c0) | (go_at_call 17; refine (floatBits_any _ _).mono ?_; rintro e w2 ⟨rfl, rfl⟩) | (go_at_call 21; refine (Hf.out _).mono ?_; rintro e w2 ⟨rfl, rfl⟩) | (go_at_call 22; refine (Hl.out _ H1.out.1).mono ?_; rintro e w2 ⟨rfl, rfl⟩) | (go_at_call 23; refine (rErr_any _ _ _ _ H1.out.1).mono ?_; rintro e w2 ⟨rfl, rfl⟩))
        go_roundw
        case rel => exact ⟨p, y, m + 1, rfl, rfl, by go_num, by omega, by omega, H1.out.1, hb.trans H1.out.2⟩
        case measure => simp [intOf]; omega
    · obtain rfl : zs.length = m := by omega
      go_wp2_with (go_at_call 7; refine (lives_any _).mono ?_; rintro e w1 ⟨rfl, hb1⟩)
      go_ret
      exact ⟨rfl, seq hb hb1⟩
end Go.Proofs.Ytkabpiganjjacaa
