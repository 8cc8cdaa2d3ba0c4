import Derived.Test.YtcpicndapmaiaaaDoorBu
namespace Go.Proofs.YtcpicndapmaiaaaDoor
open Go Go.RowKit
/-- What datum.write leaves. -/
def WPost (B b : Nat) (l : List UInt8) (w : World) (e : Ending) (w' : World) : Prop := e = .returned (.tuple #[]) ∧ Bd B b l w' ∧ Kp B b w w'
theorem write_text (k : Int) (hk : k = 1 ∨ k = 2 ∨ k = 4) (s : ByteArray) (c2 c3 : Value) (B b : Nat) (acc : List UInt8) (w : World) (hb : Bd B b acc w) (hB : B ≤ w.heap.size) (hs : s.size ≤ 1048576) (ha : acc.length ≤ 100000000) :
    Calls Tryd.prog 31 #[.pointer (some ⟨b, 0, none⟩), .agg #[.int .i64 k, .string s, c2, c3]] w fun e w' => WPost B b (acc ++ s.toList) w e w' := by
  have HC := Lib.hid (fun o => writeString_any B b acc s (w.alloc o) (hb.alloc o) (by omega) (by simp; omega))
  have HK := Lib.hid (fun o => (Kp.refl B b w).alloc hB o)
  clear hb
  rcases hk with rfl | rfl | rfl
  all_goals
    go_enter Tryd.func31, Tryd.ntmps31
    go_wp2_with (go_at_call 47; refine (HC.out _).mono ?_; rintro e w' ⟨rfl, hb, hk⟩; have HD := Lib.hid hb; have HE := Lib.hid hk; clear hb hk)
    go_end0
    exact ⟨rfl, HD.out, (HK.out _).trans HE.out⟩
/-- The bytes at which a text is escaped, and what is written then. -/
theorem escB_idx (b : UInt8) : (b = 92 ∧ Lib.indexByte [92, 34, 10, 9] b = 0) ∨ (b = 34 ∧ Lib.indexByte [92, 34, 10, 9] b = 1) ∨ (b = 10 ∧ Lib.indexByte [92, 34, 10, 9] b = 2) ∨ (b = 9 ∧ Lib.indexByte [92, 34, 10, 9] b = 3) ∨ (Lib.indexByte [92, 34, 10, 9] b = -1 ∧ escB b = [b]) := by
  by_cases h1 : b = 92
  · subst h1; exact .inl ⟨rfl, rfl⟩
  by_cases h2 : b = 34
  · subst h2; exact .inr (.inl ⟨rfl, rfl⟩)
  by_cases h3 : b = 10
  · subst h3; exact .inr (.inr (.inl ⟨rfl, rfl⟩))
  by_cases h4 : b = 9
  · subst h4; exact .inr (.inr (.inr (.inl ⟨rfl, rfl⟩)))
  refine .inr (.inr (.inr (.inr ⟨?_, ?_⟩)))
  · have hn : b ∉ [92, 34, 10, 9] := by simp [h1, h2, h3, h4]
    have := indexByte_mem b [92, 34, 10, 9]
    have hg := Lib.indexByte_ge [92, 34, 10, 9] b
    have : ¬ 0 ≤ Lib.indexByte [92, 34, 10, 9] b := fun h => hn (this.1 h)
    omega
  · unfold escB; rw [if_neg (by simp [h1, h2]), if_neg h3, if_neg h4]
set_option maxHeartbeats 1000000 in
set_option maxRecDepth 100000 in
theorem write_string (s : ByteArray) (c2 c3 : Value) (B b : Nat) (acc : List UInt8) (w : World) (hb : Bd B b acc w) (hB : B ≤ w.heap.size) (hs : s.size ≤ 1048576) (ha : acc.length ≤ 90000000) :
    Calls Tryd.prog 31 #[.pointer (some ⟨b, 0, none⟩), .agg #[.int .i64 3, .string s, c2, c3]] w fun e w' => WPost B b (acc ++ esc s.toList) w e w' := by
  obtain ⟨W0, hW0, hK0, hbx⟩ : ∃ W0, W0 = w.alloc (.cells #[.int .i64 3, .string s, c2, c3] 37) ∧ Kp B b w W0 ∧ W0.heap[w.heap.size]? = some (.cells #[.int .i64 3, .string s, c2, c3] 37 (0, 0)) := ⟨_, rfl, (Kp.refl B b w).alloc hB _, heap_alloc_new w _⟩
  have hne : w.heap.size ≠ b := by have := hb.lt; omega
  have HBD := Lib.hid (show Bd B b acc W0 by rw [hW0]; exact hb.alloc _)
  have HK := Lib.hid hK0
  have HX := Lib.hid (fun y (h : Kp B b W0 y) => h.blk hbx hne (by decide))
  have HS := Lib.hid (show B ≤ W0.heap.size from Nat.le_trans hB hK0.size)
  have hb0 : W0.cell? ⟨w.heap.size, 0, none⟩ = some (.int .i64 3) := cell_of_row W0 _ 0 _ _ _ hbx
  have HW0 := Lib.hid hW0
  have hs' : s.size ≤ 9223372036854775807 := by omega
  clear hb hK0 hbx hne hW0
  go_enter Tryd.func31, Tryd.ntmps31
  go_upto_region 1 with fail
  rw [← HW0.out]
  go_upto_region 5 with (go_at_call 45; refine (writeByte_any B b acc 34 34 _ rfl HBD.out (by omega) HS.out).mono ?_; rintro e w' ⟨rfl, hb, hk⟩; have HD := Lib.hid hb; have HE := Lib.hid hk; clear hb hk)
  clear hb0
  have hb1 : w'.cell? ⟨w.heap.size, 1, none⟩ = some (.string s) := cell_of_row w' _ 1 _ _ _ (HX.out w' HE.out)
  go_wp2_with fail
  clear hb1
  go_loopw [4, 5, 6, 24] (fun _ _ _ i wr => ∃ k : Nat, k ≤ s.size ∧ i = .int .i64 k ∧ Hid (Bd B b (acc ++ (34 :: (s.toList.take k).flatMap escB)) wr) ∧ Hid (Kp B b W0 wr)) (fun _ _ _ i _ => s.size - (intOf i).toNat)
  case atStart => exact ⟨0, Nat.zero_le _, rfl, by simpa [Hid] using HD.out, HE⟩
  case round =>
    clear HD HE HBD
    obtain ⟨k, hk, rfl, HD, HE⟩ := hrel
    have HL := Lib.hid (show (acc ++ (34 :: (s.toList.take k).flatMap escB)).length ≤ 99000000 from by
      have h1 := flat_len (s.toList.take k)
      have h2 : (s.toList.take k).length ≤ s.size := by rw [← toList_len s]; exact List.length_take_le' _ _
      simp only [List.length_append, List.length_cons]; omega)
    have HSr := Lib.hid (Nat.le_trans HS.out HE.out.size)
    by_cases hlt : k < s.size
    · have hb1 : wr.cell? ⟨w.heap.size, 1, none⟩ = some (.string s) := cell_of_row wr _ 1 _ _ _ (HX.out wr HE.out)
      have HSN := Lib.hid (flat_snoc s k hlt)
      obtain ⟨x, hx⟩ : ∃ x, s[k] = x := ⟨_, rfl⟩
      rw [hx] at HSN
      rcases escB_idx x with ⟨h1, h2⟩ | ⟨h1, h2⟩ | ⟨h1, h2⟩ | ⟨h1, h2⟩ | ⟨h2, h3⟩
      · have hx2 : (s[k].toNat : Int) = (x.toNat : Int) := by rw [hx]
        have HX3 := Lib.hid (show escB x = [92, 92] from by rw [h1]; rfl)
        clear hx h1
        go_wp2_with (go_at_call 46; refine (Tryd.strings_IndexByte _ _ _).mono ?_; rintro e w' ⟨rfl, rfl⟩)
        refine (writeByte_any B b _ 92 92 _ rfl HD.out (by have := HL.out; omega) HSr.out).mono ?_
        rintro e w1 ⟨rfl, hb, hk⟩
        have HD2 := Lib.hid hb
        have HE2 := Lib.hid hk
        clear hb hk
        go_wp2_with fail
        refine (writeByte_any B b _ 92 92 _ rfl HD2.out (by have := HL.out; rw [List.length_append]; simp only [List.length_cons, List.length_nil]; omega) (Nat.le_trans HSr.out HE2.out.size)).mono ?_
        rintro e w2 ⟨rfl, hb, hk⟩
        have HD3 := Lib.hid hb
        have HE3 := Lib.hid hk
        clear hb hk
        go_wp2_with fail
        go_roundw
        case rel => exact ⟨k + 1, by omega, by go_num, Lib.hid (by have := HD3.out; rw [HSN.out, HX3.out]; simpa using this), HE.out.trans (HE2.out.trans HE3.out)⟩
        case measure => simp [intOf]; omega
      · have hx2 : (s[k].toNat : Int) = (x.toNat : Int) := by rw [hx]
        have HX3 := Lib.hid (show escB x = [92, 34] from by rw [h1]; rfl)
        clear hx h1
        go_wp2_with (go_at_call 46; refine (Tryd.strings_IndexByte _ _ _).mono ?_; rintro e w' ⟨rfl, rfl⟩)
        refine (writeByte_any B b _ 92 92 _ rfl HD.out (by have := HL.out; omega) HSr.out).mono ?_
        rintro e w1 ⟨rfl, hb, hk⟩
        have HD2 := Lib.hid hb
        have HE2 := Lib.hid hk
        clear hb hk
        go_wp2_with fail
        refine (writeByte_any B b _ 34 34 _ rfl HD2.out (by have := HL.out; rw [List.length_append]; simp only [List.length_cons, List.length_nil]; omega) (Nat.le_trans HSr.out HE2.out.size)).mono ?_
        rintro e w2 ⟨rfl, hb, hk⟩
        have HD3 := Lib.hid hb
        have HE3 := Lib.hid hk
        clear hb hk
        go_wp2_with fail
        go_roundw
        case rel => exact ⟨k + 1, by omega, by go_num, Lib.hid (by have := HD3.out; rw [HSN.out, HX3.out]; simpa using this), HE.out.trans (HE2.out.trans HE3.out)⟩
        case measure => simp [intOf]; omega
      · have hx2 : (s[k].toNat : Int) = (x.toNat : Int) := by rw [hx]
        have HX3 := Lib.hid (show escB x = [92, 110] from by rw [h1]; rfl)
        clear hx h1
        go_wp2_with (go_at_call 46; refine (Tryd.strings_IndexByte _ _ _).mono ?_; rintro e w' ⟨rfl, rfl⟩)
        refine (writeByte_any B b _ 92 92 _ rfl HD.out (by have := HL.out; omega) HSr.out).mono ?_
        rintro e w1 ⟨rfl, hb, hk⟩
        have HD2 := Lib.hid hb
        have HE2 := Lib.hid hk
        clear hb hk
        go_wp2_with fail
        refine (writeByte_any B b _ 110 110 _ rfl HD2.out (by have := HL.out; rw [List.length_append]; simp only [List.length_cons, List.length_nil]; omega) (Nat.le_trans HSr.out HE2.out.size)).mono ?_
        rintro e w2 ⟨rfl, hb, hk⟩
        have HD3 := Lib.hid hb
        have HE3 := Lib.hid hk
        clear hb hk
        go_wp2_with fail
        go_roundw
        case rel => exact ⟨k + 1, by omega, by go_num, Lib.hid (by have := HD3.out; rw [HSN.out, HX3.out]; simpa using this), HE.out.trans (HE2.out.trans HE3.out)⟩
        case measure => simp [intOf]; omega
      · have hx2 : (s[k].toNat : Int) = (x.toNat : Int) := by rw [hx]
        have HX3 := Lib.hid (show escB x = [92, 116] from by rw [h1]; rfl)
        clear hx h1
        go_wp2_with (go_at_call 46; refine (Tryd.strings_IndexByte _ _ _).mono ?_; rintro e w' ⟨rfl, rfl⟩)
        refine (writeByte_any B b _ 92 92 _ rfl HD.out (by have := HL.out; omega) HSr.out).mono ?_
        rintro e w1 ⟨rfl, hb, hk⟩
        have HD2 := Lib.hid hb
        have HE2 := Lib.hid hk
        clear hb hk
        go_wp2_with fail
        refine (writeByte_any B b _ 116 116 _ rfl HD2.out (by have := HL.out; rw [List.length_append]; simp only [List.length_cons, List.length_nil]; omega) (Nat.le_trans HSr.out HE2.out.size)).mono ?_
        rintro e w2 ⟨rfl, hb, hk⟩
        have HD3 := Lib.hid hb
        have HE3 := Lib.hid hk
        clear hb hk
        go_wp2_with fail
        go_roundw
        case rel => exact ⟨k + 1, by omega, by go_num, Lib.hid (by have := HD3.out; rw [HSN.out, HX3.out]; simpa using this), HE.out.trans (HE2.out.trans HE3.out)⟩
        case measure => simp [intOf]; omega
      · have hx2 : (s[k].toNat : Int) = (x.toNat : Int) := by rw [hx]
        have HX3 := Lib.hid h3
        clear hx h3
        go_wp2_with (first
          | (go_at_call 46; refine (Tryd.strings_IndexByte _ _ _).mono ?_; rintro e w' ⟨rfl, rfl⟩)
          | (go_at_call 45; refine (writeByte_any B b _ _ x _ rfl HD.out (by have := HL.out; omega) HSr.out).mono ?_; rintro e w' ⟨rfl, hb, hk⟩; have HD2 := Lib.hid hb; have HE2 := Lib.hid hk; clear hb hk))
        go_roundw
        case rel => exact ⟨k + 1, by omega, by go_num, Lib.hid (by have := HD2.out; rw [HSN.out, HX3.out]; simpa using this), HE.out.trans HE2.out⟩
        case measure => simp [intOf]; omega
    · have hTk : s.toList.take k = s.toList := List.take_of_length_le (by rw [toList_len]; omega)
      rw [hTk] at HD HL
      clear hTk
      go_wp2_with (go_at_call 45; refine (writeByte_any B b _ 34 34 _ rfl HD.out (by have := HL.out; omega) HSr.out).mono ?_; rintro e w' ⟨rfl, hb, hk⟩; have HD2 := Lib.hid hb; have HE2 := Lib.hid hk; clear hb hk)
      go_end0
      exact ⟨rfl, by have := HD2.out; unfold esc; simpa using this, HK.out.trans (HE.out.trans HE2.out)⟩
end Go.Proofs.YtcpicndapmaiaaaDoor
