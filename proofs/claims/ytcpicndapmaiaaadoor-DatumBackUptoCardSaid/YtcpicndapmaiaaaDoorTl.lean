/- What stands in a printed text: the plain facts by which it is read back. -/
import Derived.Test.YtcpicndapmaiaaaDoorAt
import Derived.Test.YtcpicndapmaiaaaDoorDp
namespace Go.Proofs.YtcpicndapmaiaaaDoor
open Go Go.RowKit
/-- What stands at p and behind it. -/
structure Here (s : ByteArray) (p : Nat) (l : List UInt8) : Prop where
  le : p ≤ s.size
  eq : s.toList.drop p = l
/-- What may stand behind a datum. -/
def Sep (l : List UInt8) : Prop := l = [] ∨ (∃ r, l = 32 :: r) ∨ ∃ r, l = 41 :: r
theorem drop_at0 (l : List UInt8) (p i : Nat) (x : List UInt8) (h : l.drop p = x) (hi : i < x.length) : at0 l (p + i) = x[i] := by
  subst h
  rw [List.getElem_drop]
  exact at0_lt _ _ _
theorem Here.app {s : ByteArray} {p : Nat} {x l : List UInt8} (h : Here s p (x ++ l)) : p + x.length ≤ s.size ∧ (∀ i (hi : i < x.length), at0 s.toList (p + i) = x[i]) ∧ Here s (p + x.length) l := by
  have hl := congrArg List.length h.eq
  rw [List.length_drop, List.length_append, toList_len] at hl
  have hle := h.le
  refine ⟨by omega, fun i hi => ?_, ⟨by omega, ?_⟩⟩
  · rw [drop_at0 _ _ _ _ h.eq (by rw [List.length_append]; omega), List.getElem_append_left hi]
  · rw [← List.drop_drop, h.eq, List.drop_left]
theorem Here.cons {s : ByteArray} {p : Nat} {b : UInt8} {l : List UInt8} (h : Here s p (b :: l)) : p < s.size ∧ at0 s.toList p = b ∧ Here s (p + 1) l := by
  have := Here.app (x := [b]) (l := l) h
  exact ⟨this.1, this.2.1 0 (by simp), this.2.2⟩
theorem Here.nil {s : ByteArray} {p : Nat} (h : Here s p []) : p = s.size := by
  have hl := congrArg List.length h.eq
  rw [List.length_drop, toList_len] at hl
  have := h.le
  simp at hl; omega
theorem toList_ext {a b : ByteArray} (h : a.toList = b.toList) : a = b := by
  rw [ByteArray.toList_eq, ByteArray.toList_eq] at h
  exact ByteArray.ext (Array.toList_inj.1 h)
theorem extract_tl (s : ByteArray) (p q : Nat) : (s.extract p q).toList = (s.toList.take q).drop p := by
  rw [ByteArray.toList_eq, ByteArray.toList_eq, ByteArray.data_extract, Array.toList_extract, List.extract_eq_take_drop, ← List.drop_take]
theorem Here.extract {s : ByteArray} {p : Nat} {x l : List UInt8} (h : Here s p (x ++ l)) : (s.extract p (p + x.length)).toList = x := by
  rw [extract_tl, List.drop_take, h.eq, Nat.add_sub_cancel_left, List.take_left]
theorem Here.toEnd {s : ByteArray} {p : Nat} {l : List UInt8} (h : Here s p l) : (s.extract p s.size).toList = l := by
  rw [extract_tl, List.take_of_length_le (by rw [toList_len]; exact Nat.le_refl _), h.eq]
/-- A property of each byte, by looking at all. -/
theorem byte_all (p : UInt8 → Bool) (h : (List.range 256).all (fun n => p (UInt8.ofNat n)) = true) (b : UInt8) : p b = true := by
  rw [List.all_eq_true] at h
  have := h b.toNat (List.mem_range.2 (UInt8.toNat_lt b))
  simpa using this
theorem inner_ok (b : UInt8) (h : inner b = true) : Lib.indexByte ends b = -1 ∧ b ≠ 35 := by
  have := byte_all (fun b => !inner b || (Lib.indexByte ends b == -1 && b != 35)) (by decide +kernel) b
  rw [h] at this
  simpa using this
theorem dig_inner (b : UInt8) (h : dig b = true) : inner b = true := by unfold inner; rw [h]; rfl
/-- A text that is one piece. -/
structure AtomT (l : List UInt8) : Prop where
  ne : l ≠ []
  ok : ∀ b, b ∈ l → Lib.indexByte ends b = -1
  hash : ∀ i (hi : i < l.length), l[i] = 35 → ∃ h : i + 1 < l.length, l[i + 1] ≠ 40
theorem AtomT.of_inner {l : List UInt8} (hne : l ≠ []) (h : l.all inner = true) : AtomT l := by
  rw [List.all_eq_true] at h
  exact ⟨hne, fun b hb => (inner_ok b (h b hb)).1, fun i hi e => absurd e (inner_ok _ (h _ (List.getElem_mem hi))).2⟩
theorem hasPrefix_no1 (b : UInt8) (r : List UInt8) (h : b ≠ 35) : Lib.hasPrefix (b :: r) [35, 40] = false := by
  have h' : (35 == b) = false := by simpa using fun e => h e.symm
  simp [Lib.hasPrefix, List.isPrefixOf, h']
theorem hasPrefix_no2 (c : UInt8) (r : List UInt8) (h : c ≠ 40) : Lib.hasPrefix (35 :: c :: r) [35, 40] = false := by
  have h' : (40 == c) = false := by simpa using fun e => h e.symm
  simp [Lib.hasPrefix, List.isPrefixOf, h']
theorem sep_stop {s : ByteArray} {p : Nat} {l : List UInt8} (h : Here s p l) (hs : Sep l) : p = s.size ∨ decide (Lib.indexByte ends (at0 s.toList p) < 0) = false := by
  rcases hs with rfl | ⟨r, rfl⟩ | ⟨r, rfl⟩
  · exact .inl h.nil
  · right; rw [h.cons.2.1]; decide
  · right; rw [h.cons.2.1]; decide
theorem Or.more {a b c : Prop} (h : a ∨ b) : a ∨ b ∨ c := h.elim .inl (fun x => .inr (.inl x))
theorem AtomT.piece {s : ByteArray} {p : Nat} {x l : List UInt8} (ha : AtomT x) (h : Here s p (x ++ l)) (hs : Sep l) : Piece s p (p + x.length) := by
  obtain ⟨h1, h2, h3⟩ := h.app
  refine ⟨by omega, h1, fun i hi1 hi2 => ?_, fun i hi1 hi2 => ?_, Or.more (sep_stop h3 hs)⟩
  · obtain ⟨j, rfl⟩ : ∃ j, i = p + j := ⟨i - p, by omega⟩
    rw [h2 j (by omega)]
    exact ha.ok _ (List.getElem_mem _)
  · obtain ⟨j, rfl⟩ : ∃ j, i = p + j := ⟨i - p, by omega⟩
    have hj : j < x.length := by omega
    have hx : x = x.take j ++ x.drop j := (List.take_append_drop j x).symm
    have hh : Here s (p + j) (x.drop j ++ l) := by
      have h' : Here s p (x.take j ++ (x.drop j ++ l)) := by rw [← List.append_assoc, ← hx]; exact h
      have := h'.app.2.2
      rwa [List.length_take, Nat.min_eq_left (by omega)] at this
    have he := hh.toEnd
    rw [ByteArray.toList_eq] at he
    rw [he, List.drop_eq_getElem_cons hj]
    by_cases e : x[j] = 35
    · obtain ⟨h4, h5⟩ := ha.hash j hj e
      rw [List.drop_eq_getElem_cons h4, e]
      exact hasPrefix_no2 _ _ h5
    · exact hasPrefix_no1 _ _ e
theorem all_tail {l : List UInt8} {p : UInt8 → Bool} {b : UInt8} (h : (b :: l).all p = true) : p b = true ∧ l.all p = true := by
  simpa using h
theorem at0_zero (s : ByteArray) (b : UInt8) (l : List UInt8) (h : s.toList = b :: l) : ∃ h0 : 0 < s.size, s[0] = b := by
  have : s.size = l.length + 1 := by rw [← toList_len, h]; rfl
  exact ⟨by omega, by rw [at0_get s 0 (by omega), h]; rfl⟩
theorem tail_toList (s : ByteArray) (b : UInt8) (l : List UInt8) (h : s.toList = b :: l) : (s.extract 1 s.size).toList = l := by
  rw [extract_tl, List.take_of_length_le (by rw [toList_len]; exact Nat.le_refl _), h]; rfl
theorem one_eq (s : ByteArray) (l : List UInt8) (h : s.toList = l) : s = ⟨l.toArray⟩ := toList_ext (by rw [h, ByteArray.toList_eq])
theorem trimLeftB_no (b : UInt8) (l : List UInt8) (h : b ≠ 48) : Lib.trimLeftB (b :: l) 48 = b :: l := by
  unfold Lib.trimLeftB; simp [h]
theorem isEmpty_false_of {l : List UInt8} (h : l ≠ []) : l.isEmpty = false := by cases l with | nil => exact absurd rfl h | cons _ _ => rfl
/-- How a text is parted that begins with neither sign. -/
theorem parts_plain (t : ByteArray) (b : UInt8) (l : List UInt8) (h : t.toList = b :: l) (h1 : b ≠ 45) (h2 : b ≠ 43) : Parts t t false := by
  obtain ⟨h0, h3⟩ := at0_zero t b l h
  exact .inr (.inr (.inr ⟨by rw [h]; rfl, h0, by rw [h3]; exact ne_int (y := 45) h1, by rw [h3]; exact ne_int (y := 43) h2, rfl, rfl⟩))
theorem number_atom (t : ByteArray) (h : numB t.toList = true) (hs : t.size ≤ 100000000) : AtomK t 1 ∧ AtomT t.toList := by
  unfold numB at h
  rw [Bool.and_eq_true] at h
  obtain ⟨h1, h2⟩ := h
  simp only [num1, Bool.not_eq_true', Bool.or_eq_false_iff] at h1
  obtain ⟨⟨h3, h4⟩, h5⟩ := h1
  have h4' : (trimP t.toList).length ≤ 200 := by have := of_decide_eq_false h4; omega
  cases hl : t.toList with
  | nil => rw [hl] at h3; simp [trimP] at h3
  | cons b r =>
    by_cases hb : b = 45
    · subst hb
      rw [hl] at h2 h3 h4' h5
      have e : trimP (45 :: r) = r := rfl
      rw [e] at h2 h3 h4' h5
      cases r with
      | nil => simp at h3
      | cons c r' =>
        have hc : c ≠ 48 := by
          rintro rfl
          simp [at0] at h5
        have hu := tail_toList t 45 (c :: r') hl
        obtain ⟨h0, h6⟩ := at0_zero t 45 (c :: r') hl
        have hus : (t.extract 1 t.size).size ≤ 200 := by rw [← toList_len, hu]; exact h4'
        refine ⟨⟨t.extract 1 t.size, true, t, true, .inr (.inl ⟨by rw [hl]; rfl, h0, by rw [h6]; rfl, rfl, rfl⟩), .inr (.inr ⟨by rw [hu]; rfl, by rw [hu]; exact h2, hus, ?_, .inr ⟨rfl, ?_⟩, rfl⟩), by omega, .inl ⟨rfl, rfl, rfl⟩⟩, ?_⟩
        · have : (t.extract 1 t.size).data.toList = c :: r' := by rw [← ByteArray.toList_eq]; exact hu
          rw [this]; exact trimLeftB_no c r' hc
        · apply toList_ext
          rw [ByteArray.toList_append, hu, hl, ByteArray.toList_eq]; rfl
        · refine AtomT.of_inner (by simp) ?_
          rw [List.all_cons, List.all_eq_true.2 (fun x hx => dig_inner x (List.all_eq_true.1 h2 x hx))]
          decide
    · have e : trimP (b :: r) = b :: r := by
        unfold trimP; split
        · next h => injection h with h _; exact absurd h hb
        · rfl
      rw [hl, e] at h2 h3 h4' h5
      have hd := (all_tail h2).1
      have hb2 : b ≠ 43 := by rintro rfl; exact absurd hd (by decide)
      have hts : t.size = r.length + 1 := by rw [← toList_len, hl]; rfl
      have hat : AtomT (b :: r) := AtomT.of_inner (by simp) (List.all_eq_true.2 (fun x hx => dig_inner x (List.all_eq_true.1 h2 x hx)))
      refine ⟨⟨t, false, t, true, parts_plain t b r hl hb hb2, ?_, hs, .inl ⟨rfl, rfl, rfl⟩⟩, hat⟩
      by_cases h48 : b = 48
      · subst h48
        have hr : r = [] := by
          simp [at0] at h5
          exact List.eq_nil_of_length_eq_zero (by omega)
        subst hr
        have ht := one_eq t _ hl
        exact .inr (.inl ⟨by rw [hl]; rfl, by rw [hl]; exact h2, ht, ht, rfl⟩)
      · have h7 : t.size ≤ 200 := by rw [← toList_len, hl]; exact h4'
        refine .inr (.inr ⟨by rw [hl]; rfl, by rw [hl]; exact h2, h7, ?_, .inl ⟨rfl, rfl⟩, rfl⟩)
        rw [← ByteArray.toList_eq, hl]; exact trimLeftB_no b r h48
theorem bool_atom (t : ByteArray) (h : t.toList = [35, 116] ∨ t.toList = [35, 102]) : AtomK t 2 ∧ AtomT t.toList := by
  have key : ∀ c : UInt8, t.toList = [35, c] → (c = 116 ∨ c = 102) → AtomK t 2 ∧ AtomT t.toList := by
    intro c hl hc
    have hts : t.size = 2 := by rw [← toList_len, hl]; rfl
    refine ⟨⟨t, false, ⟨#[]⟩, false, parts_plain t 35 [c] hl (by decide) (by decide), .inl ⟨.inr (by rw [hl]; rfl), rfl, rfl⟩, by omega, .inr (.inl ⟨rfl, by rw [hl]; rcases hc with rfl | rfl; exact .inl rfl; exact .inr rfl, rfl⟩)⟩, ?_⟩
    rw [hl]
    refine ⟨by simp, fun b hb => ?_, fun i hi e => ?_⟩
    · simp only [List.mem_cons, List.not_mem_nil, or_false] at hb
      rcases hb with rfl | rfl
      · decide
      · rcases hc with rfl | rfl <;> decide
    · match i, hi with
      | 0, _ => exact ⟨by simp, by rcases hc with rfl | rfl <;> decide⟩
      | 1, _ => simp only [List.getElem_cons_succ, List.getElem_cons_zero] at e; rcases hc with rfl | rfl <;> exact absurd e (by decide)
  rcases h with h | h
  · exact key 116 h (.inl rfl)
  · exact key 102 h (.inr rfl)
theorem symbol_atom (t : ByteArray) (h : nameB t.toList = true) (hs : t.size ≤ 100000000) : AtomK t 4 ∧ AtomT t.toList := by
  have hh := h
  simp only [nameB, name1, name2, Bool.and_eq_true, Bool.not_eq_true', Bool.or_eq_false_iff] at h
  obtain ⟨⟨⟨⟨⟨h1, _⟩, _⟩, h4⟩, h5⟩, h6⟩ := h
  cases hl : t.toList with
  | nil => rw [hl] at h1; cases h1
  | cons b r =>
    rw [hl] at h4 h5 h6 hh
    have h4' : dig b = false := h4
    have hat : AtomT (b :: r) := AtomT.of_inner (by simp) h6
    have hb35 : b ≠ 35 := (inner_ok b (all_tail h6).1).2
    have e1 : (t.toList == [35, 116]) = false := by rw [hl]; simp [hb35]
    have e2 : (t.toList == [35, 102]) = false := by rw [hl]; simp [hb35]
    have hts : t.size = r.length + 1 := by rw [← toList_len, hl]; rfl
    refine ⟨?_, hat⟩
    by_cases hb : b = 45 ∨ b = 43
    · have hu := tail_toList t b r hl
      obtain ⟨h0, h6⟩ := at0_zero t b r hl
      have hur : (t.extract 1 t.size).toList.isEmpty = true ∨ (t.extract 1 t.size).toList.all dig = false := by
        rw [hu]
        cases r with
        | nil => exact .inl rfl
        | cons c r' =>
          right
          have hi : (0 : Int) ≤ Lib.indexByte [43, 45] b := by rcases hb with rfl | rfl <;> decide
          have hlen : (1 : Int) < ((b :: c :: r').length : Int) := by simp only [List.length_cons]; omega
          have : dig c = false := by
            simp only [at0, List.getD_cons_zero, List.getD_cons_succ] at h5
            rw [decide_eq_true hi, decide_eq_true hlen] at h5
            simpa using h5
          rw [List.all_cons, this]; rfl
      have hus : (t.extract 1 t.size).size ≤ 100000000 := by
        have : (t.extract 1 t.size).size = r.length := by rw [← toList_len, hu]
        omega
      rcases hb with rfl | rfl
      · exact ⟨t.extract 1 t.size, true, ⟨#[]⟩, false, .inr (.inl ⟨by rw [hl]; rfl, h0, by rw [h6]; rfl, rfl, rfl⟩), .inl ⟨hur, rfl, rfl⟩, hus, .inr (.inr ⟨rfl, e1, e2, by rw [hl]; exact hh, rfl⟩)⟩
      · exact ⟨t.extract 1 t.size, false, ⟨#[]⟩, false, .inr (.inr (.inl ⟨by rw [hl]; rfl, h0, by rw [h6]; rfl, rfl, rfl⟩)), .inl ⟨hur, rfl, rfl⟩, hus, .inr (.inr ⟨rfl, e1, e2, by rw [hl]; exact hh, rfl⟩)⟩
    · refine ⟨t, false, ⟨#[]⟩, false, parts_plain t b r hl (fun e => hb (.inl e)) (fun e => hb (.inr e)), .inl ⟨.inr (by rw [hl, List.all_cons, h4']; rfl), rfl, rfl⟩, hs, .inr (.inr ⟨rfl, e1, e2, by rw [hl]; exact hh, rfl⟩)⟩
/-- Blanks: none, one. -/
theorem blanks0 {s : ByteArray} {p : Nat} {b : UInt8} {l : List UInt8} (h : Here s p (b :: l)) (h1 : b ≠ 32) (h2 : b ≠ 9) (h3 : b ≠ 10) (h4 : b ≠ 13) (h5 : b ≠ 59) : Blanks s p p := by
  obtain ⟨g1, g2, _⟩ := h.cons
  exact ⟨Nat.le_refl _, by omega, fun i hi1 hi2 => by omega, .inr (by rw [g2]; exact ⟨h1, h2, h3, h4, h5⟩)⟩
theorem blanks1 {s : ByteArray} {p : Nat} {b : UInt8} {l : List UInt8} (h : Here s p (32 :: b :: l)) (h1 : b ≠ 32) (h2 : b ≠ 9) (h3 : b ≠ 10) (h4 : b ≠ 13) (h5 : b ≠ 59) : Blanks s p (p + 1) := by
  obtain ⟨g1, g2, g3⟩ := h.cons
  obtain ⟨k1, k2, _⟩ := g3.cons
  have hall : ∀ i, p ≤ i → i < p + 1 → at0 s.toList i = 32 := by
    intro i hi1 hi2
    have e : i = p := by omega
    rw [e]; exact g2
  exact ⟨by omega, by omega, hall, .inr (by rw [k2]; exact ⟨h1, h2, h3, h4, h5⟩)⟩
theorem blanksE (s : ByteArray) : Blanks s s.size s.size := ⟨Nat.le_refl _, Nat.le_refl _, fun i hi1 hi2 => by omega, .inl rfl⟩
end Go.Proofs.YtcpicndapmaiaaaDoor
