import Derived.Test.YtcpicndapmaiaaaDoorRk
namespace Go.Proofs.YtcpicndapmaiaaaDoor
open Go Go.RowKit
theorem leaf_right (n : Nat) (d : D) (h5 : d.kind ≠ 5) (h6 : d.kind ≠ 6) : d.right n = d.leaf := by
  have hsh : d.shape = false := by
    unfold D.shape
    rw [show (d.kind == 6) = false from beq_eq_false_iff_ne.2 h6, show (d.kind == 5) = false from beq_eq_false_iff_ne.2 h5]; rfl
  cases n with
  | zero => rfl
  | succ m => rw [D.right, hsh]; simp
theorem right_any : ∀ n, n < 999 → RightAt n := by
  intro n
  induction n with
  | zero =>
    intro hn d w c0 c1 c2 c3 hd hs
    cases d with
    | mk k s l t =>
      obtain ⟨h1, h2, h3, h4, h5⟩ := hs.parts
      obtain ⟨A2, n2, A3, n3, rfl, rfl, rfl, rfl, _, _, l2, l3⟩ := hd.form
      by_cases k5 : k = 5
      · subst k5; exact right_comp5 0 hn (fun m h => by cases h) s l t w A2 A3 n2 n3 h1 h2 h3 l2 l3 h4 h5
      by_cases k6 : k = 6
      · subst k6; exact right_comp6 0 hn (fun m h => by cases h) s l t w A2 A3 n2 n3 h1 h2 h3 l2 l3 h4 h5
      rw [leaf_right 0 (.mk k s l t) k5 k6]
      exact right_leaf 0 (by omega) k s l t k5 k6 w A2 A3 n2 n3 h1 h2 h3
  | succ m ih =>
    intro hn d w c0 c1 c2 c3 hd hs
    cases d with
    | mk k s l t =>
      obtain ⟨h1, h2, h3, h4, h5⟩ := hs.parts
      obtain ⟨A2, n2, A3, n3, rfl, rfl, rfl, rfl, _, _, l2, l3⟩ := hd.form
      by_cases k5 : k = 5
      · subst k5; exact right_comp5 (m + 1) hn (fun m' h => by cases h; exact ih (by omega)) s l t w A2 A3 n2 n3 h1 h2 h3 l2 l3 h4 h5
      by_cases k6 : k = 6
      · subst k6; exact right_comp6 (m + 1) hn (fun m' h => by cases h; exact ih (by omega)) s l t w A2 A3 n2 n3 h1 h2 h3 l2 l3 h4 h5
      rw [leaf_right (m + 1) (.mk k s l t) k5 k6]
      exact right_leaf (m + 1) (by omega) k s l t k5 k6 w A2 A3 n2 n3 h1 h2 h3
theorem can_any (d : D) (w : World) (c0 c1 c2 c3 : Value) (hd : IsD w d c0 c1 c2 c3) (hs : D.Small 1048576 d) :
    Calls Tryd.prog 14 #[.agg #[c0, c1, c2, c3]] w fun e w' => e = .returned (.bool (d.right 64)) ∧ Below w.heap.size w w' := by
  have HB := Lib.hid ((Below.refl w.heap.size w).alloc (Nat.le_refl _) (.cells #[c0, c1, c2, c3] 37))
  have HC := Lib.hid (right_any 64 (by omega) d _ c0 c1 c2 c3 (IsD.below HB.out hd) hs)
  clear hd hs
  go_enter Tryd.func14, Tryd.ntmps14
  go_wp2_with (go_at_call 35; refine HC.out.mono ?_; rintro e w' ⟨rfl, hb⟩)
  go_ret
  exact ⟨rfl, HB.out.trans (hb.mono (by simp))⟩
theorem symbol_any (s : ByteArray) (w : World) (hs : s.size ≤ 1048576) :
    Calls Tryd.prog 25 #[.string s] w fun e w' => e = .returned (.bool (nameB s.toList)) ∧ Below w.heap.size w w' := by
  have HR := Lib.hid (show (D.mk 4 s [] []).right 64 = nameB s.toList from by
    rw [leaf_right 64 _ (by simp [D.kind]) (by simp [D.kind])]
    simp [D.leaf, D.kind, D.flat, D.list, D.tail, D.text])
  have HC := Lib.hid (fun W => can_any (D.mk 4 s [] []) W (.int .i64 4) (.string s) (.slice none 0 0) (.slice none 0 0) (by unfold IsD; exact ⟨rfl, rfl, ⟨none, 0, rfl, by simp, by unfold IsL; trivial⟩, ⟨none, 0, rfl, by simp, by unfold IsL; trivial⟩⟩) (.mk _ _ _ _ hs (by simp) (by simp) (by simp) (by simp)))
  clear hs
  go_enter Tryd.func25, Tryd.ntmps25
  go_wp2_with (go_at_call 14; refine (HC.out _).mono ?_; rintro e w' ⟨rfl, hb⟩)
  go_ret
  refine ⟨ret_bool HR.out, ?_⟩
  first | exact hb | exact ((Below.refl _ _).alloc (Nat.le_refl _) _).trans (hb.mono (by simp))
end Go.Proofs.YtcpicndapmaiaaaDoor
