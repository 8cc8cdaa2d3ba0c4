import Derived.Test.YtcpicndapmaiaaaDoorDepc
namespace Go.Proofs.YtcpicndapmaiaaaDoor
open Go Go.RowKit
theorem fold_le (f : D → Int) : ∀ (l : List D) (a : Int), a ≤ l.foldl (fun k x => mx k (f x)) a ∧ ∀ d, d ∈ l → f d ≤ l.foldl (fun k x => mx k (f x)) a
  | [], a => ⟨Int.le_refl _, fun d h => by simp at h⟩
  | d :: l, a => by
    obtain ⟨h1, h2⟩ := fold_le f l (mx a (f d))
    have h3 : a ≤ mx a (f d) ∧ f d ≤ mx a (f d) := by unfold mx; split <;> omega
    refine ⟨Int.le_trans h3.1 h1, fun x hx => ?_⟩
    rcases List.mem_cons.1 hx with rfl | hx
    · exact Int.le_trans h3.2 h1
    · exact h2 x hx
theorem fold_lt (f : D → Int) (M : Int) : ∀ (l : List D) (a : Int), a ≤ M → (∀ d, d ∈ l → f d ≤ M) → l.foldl (fun k x => mx k (f x)) a ≤ M
  | [], a, h, _ => h
  | d :: l, a, h, hf => fold_lt f M l _ (show mx a (f d) ≤ M by have := hf d (by simp); unfold mx; split <;> omega) (fun x hx => hf x (List.mem_cons_of_mem _ hx))
theorem leaf_flat (d : D) (h : d.leaf = true) : d.comp = false := by
  simp only [D.leaf, Bool.or_eq_true, Bool.and_eq_true, beq_iff_eq] at h
  simp only [D.comp, Bool.or_eq_false_iff, beq_eq_false_iff_ne]
  omega
theorem right_of_leaf (n : Nat) (d : D) (h : d.leaf = true) : d.right n = true := by
  cases n with
  | zero => exact h
  | succ m => rw [D.right, h]; rfl
theorem right_down : ∀ (n : Nat) (d : D), d.right n = true → ∀ m : Nat, dep n d ≤ m → d.right m = true := by
  intro n
  induction n with
  | zero => intro d h m _; exact right_of_leaf m d h
  | succ n ih =>
    intro d h m hm
    by_cases hl : d.leaf = true
    · exact right_of_leaf m d hl
    · rw [D.right] at h
      simp only [hl, Bool.false_or, Bool.and_eq_true] at h
      obtain ⟨hs, ht, ha, hb⟩ := h
      have hc : d.comp = true := by
        simp only [D.shape, Bool.or_eq_true, Bool.and_eq_true] at hs
        simp only [D.comp, Bool.or_eq_true]
        rcases hs with ⟨h, _⟩ | ⟨h, _⟩
        · exact .inr h
        · exact .inl h
      rw [dep, if_pos hc] at hm
      obtain ⟨f1, f2⟩ := fold_le (dep n) d.tail (d.list.foldl (fun k x => mx k (dep n x)) 0)
      obtain ⟨f3, f4⟩ := fold_le (dep n) d.list 0
      cases m with
      | zero => omega
      | succ m =>
        rw [D.right]
        simp only [hl, Bool.false_or, Bool.and_eq_true]
        refine ⟨hs, ht, ?_, ?_⟩
        · rw [List.all_eq_true] at ha ⊢
          exact fun x hx => ih x (ha x hx) m (by have := f4 x hx; omega)
        · rw [List.all_eq_true] at hb ⊢
          exact fun x hx => ih x (hb x hx) m (by have := f2 x hx; omega)
theorem right_up : ∀ (m : Nat) (d : D), d.right m = true → ∀ n : Nat, m ≤ n → d.right n = true ∧ dep n d ≤ m := by
  intro m
  induction m with
  | zero =>
    intro d h n _
    exact ⟨right_of_leaf n d h, by rw [dep_flat n d (leaf_flat d h)]; omega⟩
  | succ m ih =>
    intro d h n hn
    by_cases hl : d.leaf = true
    · exact ⟨right_of_leaf n d hl, by rw [dep_flat n d (leaf_flat d hl)]; omega⟩
    · obtain ⟨n', rfl⟩ : ∃ n', n = n' + 1 := ⟨n - 1, by omega⟩
      rw [D.right] at h
      simp only [hl, Bool.false_or, Bool.and_eq_true] at h
      obtain ⟨hs, ht, ha, hb⟩ := h
      rw [List.all_eq_true] at ha hb
      constructor
      · rw [D.right]
        simp only [hl, Bool.false_or, Bool.and_eq_true]
        refine ⟨hs, ht, ?_, ?_⟩
        · rw [List.all_eq_true]; exact fun x hx => (ih x (ha x hx) n' (by omega)).1
        · rw [List.all_eq_true]; exact fun x hx => (ih x (hb x hx) n' (by omega)).1
      · rw [dep]
        split
        · have g1 := fold_lt (dep n') m d.list 0 (by omega) fun x hx => (ih x (ha x hx) n' (by omega)).2
          have g2 := fold_lt (dep n') m d.tail _ g1 fun x hx => (ih x (hb x hx) n' (by omega)).2
          omega
        · omega
theorem can_eq (d : D) : (d.right 66 && decide (dep 66 d ≤ 64)) = d.right 64 := by
  cases h : d.right 64 with
  | true =>
    obtain ⟨h1, h2⟩ := right_up 64 d h 66 (by omega)
    rw [h1, decide_eq_true (by simpa using h2)]; rfl
  | false =>
    cases h1 : d.right 66 with
    | false => rfl
    | true =>
      rw [decide_eq_false]
      · rfl
      · intro hd
        have := right_down 66 d h1 64 (by simpa using hd)
        rw [h] at this; cases this
theorem refCan_any (d : D) (w : World) (c0 c1 c2 c3 : Value) (hd : IsD w d c0 c1 c2 c3) (hs : D.Small 1048576 d) :
    Calls Tryd.prog 13 #[.agg #[c0, c1, c2, c3]] w fun e w' => e = .returned (.bool (d.right 64)) ∧ Below w.heap.size w w' := by
  have HB := Lib.hid ((Below.refl w.heap.size w).alloc (Nat.le_refl _) (.cells #[c0, c1, c2, c3] 37))
  have HC := Lib.hid (may_any 66 (by omega) d _ c0 c1 c2 c3 (IsD.below HB.out hd) hs)
  have HD := Lib.hid (fun W hb => depth_any 66 (by omega) d W c0 c1 c2 c3 (IsD.below hb (IsD.below HB.out hd)) hs)
  have HE := Lib.hid (can_eq d)
  obtain ⟨q, hq⟩ : ∃ q, dep 66 d = q := ⟨_, rfl⟩
  rw [hq] at HD HE
  clear hd hs hq
  cases hr : D.right 66 d with
  | true =>
    rw [hr] at HC HE
    clear hr
    go_enter Tryd.func13, Tryd.ntmps13
    go_wp2_with (first
      | (go_at_call 33; refine HC.out.mono ?_; rintro e w' ⟨rfl, hb⟩; have HB1 := Lib.hid hb; obtain ⟨hc, hf⟩ := bcell hb; clear hb)
      | (go_at_call 34; refine (HD.out _ HB1.out).mono ?_; rintro e w' ⟨rfl, hb⟩; have HB2 := Lib.hid hb; clear hb))
    all_goals go_ret
    all_goals exact ⟨ret_bool (by rw [← HE.out]; simp), HB.out.trans ((HB1.out.trans (HB2.out.mono HB1.out.size)).mono (by simp))⟩
  | false =>
    rw [hr] at HC HE
    clear hr
    go_enter Tryd.func13, Tryd.ntmps13
    go_wp2_with (go_at_call 33; refine HC.out.mono ?_; rintro e w' ⟨rfl, hb⟩; have HB1 := Lib.hid hb; obtain ⟨hc, hf⟩ := bcell hb; clear hb)
    go_ret
    exact ⟨ret_bool (by rw [← HE.out]; rfl), HB.out.trans (HB1.out.mono (by simp))⟩
end Go.Proofs.YtcpicndapmaiaaaDoor
