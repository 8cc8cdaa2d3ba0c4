import Derived.Test.YtcpicndapmaiaaaDoorMayc
namespace Go.Proofs.YtcpicndapmaiaaaDoor
open Go Go.RowKit
set_option maxHeartbeats 2000000 in
set_option maxRecDepth 100000 in
theorem may_zero (k : Int) (hk : k = 5 ∨ k = 6) (s : ByteArray) (l t : List D) (w : World) (A2 A3 : Option Addr) (n2 n3 : Nat) (hs : s.size ≤ 1048576) (hl : l.length ≤ 1048576) (ht : t.length ≤ 1048576) :
    Calls Tryd.prog 33 #[.agg #[.int .i64 k, .string s, .slice A2 l.length n2, .slice A3 t.length n3], .int .i64 0] w fun e w' => e = .returned (.bool ((D.mk k s l t).right 0)) ∧ Below w.heap.size w w' := by
  have HB := Lib.hid (fun o => (Below.refl w.heap.size w).alloc (Nat.le_refl _) o)
  have HR := Lib.hid (show (D.mk k s l t).right 0 = false from by rcases hk with rfl | rfl <;> simp [D.right, D.leaf, D.kind])
  rcases hk with rfl | rfl
  all_goals
    go_enter Tryd.func33, Tryd.ntmps33
    go_wp2_with fail
    all_goals (go_ret; exact ⟨ret_bool HR.out.symm, HB.out _⟩)
theorem may_any : ∀ n, n < 999 → MayAt n := by
  intro n
  induction n with
  | zero =>
    intro hn d w c0 c1 c2 c3 hd hs
    cases d with
    | mk k s l t =>
      obtain ⟨h1, h2, h3, h4, h5⟩ := hs.parts
      obtain ⟨A2, n2, A3, n3, rfl, rfl, rfl, rfl, _, _, l2, l3⟩ := hd.form
      by_cases hk : k = 5 ∨ k = 6
      · exact may_zero k hk s l t w A2 A3 n2 n3 h1 h2 h3
      · have k5 : k ≠ 5 := fun h => hk (.inl h)
        have k6 : k ≠ 6 := fun h => hk (.inr h)
        rw [leaf_right 0 (.mk k s l t) k5 k6]
        exact may_leaf 0 (by omega) k s l t k5 k6 w A2 A3 n2 n3 h1 h2 h3
  | succ m ih =>
    intro hn d w c0 c1 c2 c3 hd hs
    cases d with
    | mk k s l t =>
      obtain ⟨h1, h2, h3, h4, h5⟩ := hs.parts
      obtain ⟨A2, n2, A3, n3, rfl, rfl, rfl, rfl, _, _, l2, l3⟩ := hd.form
      by_cases k5 : k = 5
      · subst k5; exact may_comp5 m (by omega) (ih (by omega)) s l t w A2 A3 n2 n3 h1 h2 h3 l2 l3 h4 h5
      by_cases k6 : k = 6
      · subst k6; exact may_comp6 m (by omega) (ih (by omega)) s l t w A2 A3 n2 n3 h1 h2 h3 l2 l3 h4 h5
      rw [leaf_right (m + 1) (.mk k s l t) k5 k6]
      exact may_leaf (m + 1) (by omega) k s l t k5 k6 w A2 A3 n2 n3 h1 h2 h3
end Go.Proofs.YtcpicndapmaiaaaDoor
