/- How a datum's printed text begins, and what its first piece is. -/
import Derived.Test.YtcpicndapmaiaaaDoorTl
import Derived.Test.YtcpicndapmaiaaaDoorPr
namespace Go.Proofs.YtcpicndapmaiaaaDoor
open Go Go.RowKit
theorem leaf_parts {k : Int} {s : ByteArray} {l t : List D} (h : (D.mk k s l t).leaf = true) :
    l = [] ∧ t = [] ∧ ((k = 1 ∧ numB s.toList = true) ∨ (k = 2 ∧ (s.toList = [35, 116] ∨ s.toList = [35, 102])) ∨ k = 3 ∨ (k = 4 ∧ nameB s.toList = true)) := by
  simp only [D.leaf, D.flat, D.kind, D.list, D.tail, D.text, Bool.or_eq_true, Bool.and_eq_true, beq_iff_eq] at h
  have hf : ((l.length : Int) + t.length) = 0 := by
    rcases h with ((h | h) | h) | h
    · exact h.2.1
    · exact h.2.1
    · exact h.2
    · exact h.2.1
  refine ⟨List.eq_nil_of_length_eq_zero (by omega), List.eq_nil_of_length_eq_zero (by omega), ?_⟩
  rcases h with ((h | h) | h) | h
  · exact .inl ⟨h.1, h.2.2⟩
  · exact .inr (.inl ⟨h.1, h.2.2⟩)
  · exact .inr (.inr (.inl h.1))
  · exact .inr (.inr (.inr ⟨h.1, h.2.2⟩))
theorem leaf_atom {k : Int} {s : ByteArray} {l t : List D} (h : (D.mk k s l t).leaf = true) (h3 : k ≠ 3) (hs : s.size ≤ 100000000) : AtomK s k ∧ AtomT s.toList ∧ printD (.mk k s l t) = s.toList := by
  obtain ⟨_, _, hh⟩ := leaf_parts h
  rcases hh with ⟨rfl, g⟩ | ⟨rfl, g⟩ | rfl | ⟨rfl, g⟩
  · exact ⟨(number_atom s g hs).1, (number_atom s g hs).2, by simp [printD]⟩
  · exact ⟨(bool_atom s g).1, (bool_atom s g).2, by simp [printD]⟩
  · exact absurd rfl h3
  · exact ⟨(symbol_atom s g hs).1, (symbol_atom s g hs).2, by simp [printD]⟩
theorem ends_not (b : UInt8) (h : Lib.indexByte ends b = -1) : b ≠ 32 ∧ b ≠ 9 ∧ b ≠ 10 ∧ b ≠ 13 ∧ b ≠ 59 ∧ b ≠ 41 ∧ b ≠ 39 ∧ b ≠ 40 ∧ b ≠ 34 := by
  have := byte_all (fun b => !(Lib.indexByte ends b == -1) || (b != 32 && b != 9 && b != 10 && b != 13 && b != 59 && b != 41 && b != 39 && b != 40 && b != 34)) (by decide +kernel) b
  rw [h] at this
  simpa [and_assoc] using this
/-- The kinds of data that may be. -/
theorem right_cases (n : Nat) {k : Int} {s : ByteArray} {l t : List D} (h : (D.mk k s l t).right n = true) :
    ((D.mk k s l t).leaf = true ∧ k ≠ 3 ∧ k ≠ 5) ∨ (k = 3 ∧ l = [] ∧ t = []) ∨ (∃ m, n = m + 1 ∧ (k = 5 ∨ (k = 6 ∧ t = [])) ∧ s = ⟨#[]⟩ ∧ t.length ≤ 1 ∧ (t ≠ [] → l ≠ []) ∧ (∀ d, d ∈ t → (d.kind == 5) = false) ∧ (∀ x, x ∈ l → x.right m = true) ∧ (∀ x, x ∈ t → x.right m = true)) := by
  by_cases hl : (D.mk k s l t).leaf = true
  · obtain ⟨h1, h2, h3⟩ := leaf_parts hl
    by_cases hk : k = 3
    · exact .inr (.inl ⟨hk, h1, h2⟩)
    · exact .inl ⟨hl, hk, by rcases h3 with h3 | h3 | h3 | h3 <;> omega⟩
  · right; right
    cases n with
    | zero => exact absurd h hl
    | succ m =>
      rw [D.right] at h
      simp only [hl, Bool.false_or, Bool.and_eq_true] at h
      obtain ⟨hs, ht, ha, hb⟩ := h
      rw [List.all_eq_true] at ha hb
      have hs0 : s = ⟨#[]⟩ := by
        apply toList_ext
        have : s.toList = [] := by simpa [D.text] using ht
        rw [this, ByteArray.toList_eq]
      refine ⟨m, rfl, ?_⟩
      simp only [D.shape, show (D.mk k s l t).kind = k from rfl, show (D.mk k s l t).list = l from rfl, show (D.mk k s l t).tail = t from rfl, Bool.or_eq_true, Bool.and_eq_true, beq_iff_eq, Bool.not_eq_true', Bool.or_eq_false_iff, Bool.and_eq_false_iff] at hs
      rcases hs with ⟨rfl, h6⟩ | ⟨rfl, h5, h7⟩
      · have h6 := of_decide_eq_false h6
        have ht0 : t = [] := List.eq_nil_of_length_eq_zero (by omega)
        subst ht0
        exact ⟨.inr ⟨rfl, rfl⟩, hs0, by simp, fun h => absurd rfl h, by simp, ha, hb⟩
      · have h5 := of_decide_eq_false h5
        refine ⟨.inl rfl, hs0, by omega, fun htn => ?_, fun d hd => ?_, ha, hb⟩
        · rintro rfl
          have : 0 < t.length := List.length_pos_iff.2 htn
          rcases h7 with h7 | ⟨h7, _⟩
          · rw [beq_eq_false_iff_ne] at h7; omega
          · simp at h7
        · cases t with
          | nil => simp at hd
          | cons a r =>
            have hr : r = [] := List.eq_nil_of_length_eq_zero (by simp only [List.length_cons] at h5; omega)
            subst hr
            obtain rfl : d = a := by simpa using hd
            rcases h7 with h7 | ⟨_, h7⟩
            · simp at h7
            · exact h7
/-- The first byte of a datum's text is none of these. -/
theorem head_of (n : Nat) (d : D) (h : d.right n = true) (hs : d.text.size ≤ 100000000) : ∃ b r, printD d = b :: r ∧ b ≠ 32 ∧ b ≠ 9 ∧ b ≠ 10 ∧ b ≠ 13 ∧ b ≠ 59 ∧ b ≠ 41 ∧ b ≠ 39 := by
  cases d with
  | mk k s l t =>
    rcases right_cases n h with ⟨h1, h2, _⟩ | ⟨rfl, _, _⟩ | ⟨m, _, hk, _⟩
    · obtain ⟨_, ha, hp⟩ := leaf_atom h1 h2 hs
      rw [hp]
      cases e : s.toList with
      | nil => exact absurd e ha.ne
      | cons b r =>
        obtain ⟨g1, g2, g3, g4, g5, g6, g7, _, _⟩ := ends_not b (ha.ok b (by rw [e]; simp))
        exact ⟨b, r, rfl, g1, g2, g3, g4, g5, g6, g7⟩
    · exact ⟨34, _, by simp [printD, esc]; rfl, by decide, by decide, by decide, by decide, by decide, by decide, by decide⟩
    · rcases hk with rfl | ⟨rfl, _⟩
      · exact ⟨40, _, by simp [printD]; rfl, by decide, by decide, by decide, by decide, by decide, by decide, by decide⟩
      · exact ⟨35, _, by simp [printD]; rfl, by decide, by decide, by decide, by decide, by decide, by decide, by decide⟩
/-- A datum begins with a piece that is no dot. -/
theorem piece_of (n : Nat) (d : D) (h : d.right n = true) (hs : d.text.size ≤ 100000000) (s : ByteArray) (p : Nat) (rest : List UInt8) (hx : Here s p (printD d ++ rest)) (hr : Sep rest) :
    ∃ q, Piece s p q ∧ ((s.extract p q).toList == [46]) = false := by
  have none : ∀ b r, Here s p (b :: r) → (decide (Lib.indexByte ends b < 0) = false ∨ (Lib.indexByte ends b = -1 ∧ Lib.hasPrefix (b :: r) [35, 40] = true)) → ∃ q, Piece s p q ∧ ((s.extract p q).toList == [46]) = false := by
    intro b r hb h
    obtain ⟨h1, h2, _⟩ := hb.cons
    refine ⟨p, ⟨Nat.le_refl _, by omega, fun i h1 h2 => by omega, fun i h1 h2 => by omega, .inr ?_⟩, ?_⟩
    · rw [h2, ← ByteArray.toList_eq, hb.toEnd]; exact h
    · have : (s.extract p p).toList = [] := by rw [extract_tl]; simp
      rw [this]; rfl
  cases d with
  | mk k u l t =>
    rcases right_cases n h with ⟨h1, h2, _⟩ | ⟨rfl, _, _⟩ | ⟨m, _, hk, _⟩
    · obtain ⟨⟨_, _, _, _, _, _, _, hk⟩, ha, hp⟩ := leaf_atom h1 h2 hs
      rw [hp] at hx
      refine ⟨_, ha.piece hx hr, ?_⟩
      rw [hx.extract]
      obtain ⟨_, _, h3⟩ := leaf_parts h1
      rcases h3 with ⟨_, h3⟩ | ⟨_, h3⟩ | h3 | ⟨_, h3⟩
      · cases e : (u.toList == [46]) with
        | false => rfl
        | true =>
          rw [beq_iff_eq] at e
          rw [e] at h3
          exact absurd h3 (by decide)
      · rcases h3 with h3 | h3 <;> rw [h3] <;> rfl
      · exact absurd h3 h2
      · cases e : (u.toList == [46]) with
        | false => rfl
        | true =>
          rw [beq_iff_eq] at e
          rw [e] at h3
          exact absurd h3 (by decide)
    · refine none 34 _ (by have := hx; simp only [printD, esc] at this; exact this) (.inl (by decide))
    · rcases hk with rfl | ⟨rfl, _⟩
      · exact none 40 _ (by have := hx; rw [show printD (D.mk 5 u l t) = [40] ++ (prL l true ++ (prT t ++ [41])) from by simp [printD]] at this; exact this) (.inl (by decide))
      · exact none 35 _ (by have := hx; rw [show printD (D.mk 6 u l t) = [35, 40] ++ (prL l true ++ (prT t ++ [41])) from by simp [printD]] at this; exact this) (.inr ⟨by decide, by simp [Lib.hasPrefix]⟩)
/-- What still stands before the reader of items: k of the list's data are read. -/
def restL (l t : List D) (k : Nat) (rest : List UInt8) : List UInt8 := prL (l.drop k) (k == 0) ++ (prT t ++ 41 :: rest)
theorem restL_more (l t : List D) (k : Nat) (rest : List UInt8) (hk : k < l.length) : ∃ u : List UInt8, (u = [] ∨ u = [32]) ∧ restL l t k rest = u ++ (printD l[k] ++ restL l t (k + 1) rest) := by
  unfold restL
  rw [List.drop_eq_getElem_cons hk, prL]
  refine ⟨if (k == 0) = true then [] else [32], ?_, ?_⟩
  · cases h : (k == 0) <;> simp
  · rw [show ((k + 1 : Nat) == 0) = false from rfl]; simp
theorem restL_end (l t : List D) (rest : List UInt8) : restL l t l.length rest = prT t ++ 41 :: rest := by unfold restL; rw [List.drop_length]; simp [prL]
theorem restL_sep (l t : List D) (k : Nat) (rest : List UInt8) : Sep (restL l t (k + 1) rest) := by
  unfold restL
  rw [show ((k + 1 : Nat) == 0) = false from rfl]
  cases l.drop (k + 1) with
  | nil =>
    cases t with
    | nil => exact .inr (.inr ⟨rest, by simp [prL, prT]⟩)
    | cons d r => exact .inr (.inl ⟨_, by simp [prL, prT]; rfl⟩)
  | cons d r => exact .inr (.inl ⟨_, by simp [prL]; rfl⟩)
end Go.Proofs.YtcpicndapmaiaaaDoor
