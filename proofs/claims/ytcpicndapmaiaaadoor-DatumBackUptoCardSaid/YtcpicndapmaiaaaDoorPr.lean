import Derived.Test.YtcpicndapmaiaaaDoorEs
namespace Go.Proofs.YtcpicndapmaiaaaDoor
open Go Go.RowKit
mutual
/-- A datum's text. -/
def printD : D → List UInt8
  | .mk k s l t => if k = 3 then esc s.toList else if k = 6 then [35, 40] ++ (prL l true ++ (prT t ++ [41])) else if k = 5 then [40] ++ (prL l true ++ (prT t ++ [41])) else s.toList
def prL : List D → Bool → List UInt8
  | [], _ => []
  | d :: ds, first => (if first then [] else [32]) ++ (printD d ++ prL ds false)
def prT : List D → List UInt8
  | [] => []
  | d :: ds => [32, 46, 32] ++ (printD d ++ prT ds)
end
theorem prL_snoc : ∀ (l : List D) (k : Nat) (hk : k < l.length) (b : Bool), prL (l.take (k + 1)) b = prL (l.take k) b ++ ((if k = 0 then (if b then [] else [32]) else [32]) ++ printD l[k])
  | [], k, hk, _ => absurd hk (Nat.not_lt_zero k)
  | d :: ds, 0, _, b => by simp [prL]
  | d :: ds, k + 1, hk, b => by
    have ih := prL_snoc ds k (by simpa using hk) false
    simp only [List.take_succ_cons, prL, List.getElem_cons_succ]
    rw [ih]
    by_cases h : k = 0
    · subst h; simp [prL]
    · simp [h]
theorem prT_snoc : ∀ (l : List D) (k : Nat) (hk : k < l.length), prT (l.take (k + 1)) = prT (l.take k) ++ ([32, 46, 32] ++ printD l[k])
  | [], k, hk => absurd hk (Nat.not_lt_zero k)
  | d :: ds, 0, _ => by simp [prT]
  | d :: ds, k + 1, hk => by
    have ih := prT_snoc ds k (by simpa using hk)
    simp only [List.take_succ_cons, prT, List.getElem_cons_succ]
    rw [ih]; simp
theorem prL_le : ∀ (l : List D) (k : Nat) (b : Bool), (prL (l.take k) b).length ≤ (prL l b).length
  | [], k, b => by simp [prL]
  | d :: ds, 0, b => by simp [prL]
  | d :: ds, k + 1, b => by
    have := prL_le ds k false
    simp only [List.take_succ_cons, prL, List.length_append]; omega
theorem prT_le : ∀ (l : List D) (k : Nat), (prT (l.take k)).length ≤ (prT l).length
  | [], k => by simp [prT]
  | d :: ds, 0 => by simp [prT]
  | d :: ds, k + 1 => by
    have := prT_le ds k
    simp only [List.take_succ_cons, prT, List.length_append]; omega
theorem prL_mem (l : List D) (k : Nat) (hk : k < l.length) : (printD l[k]).length + (prL (l.take k) true).length ≤ (prL l true).length ∧ (prL (l.take (k + 1)) true).length ≤ (prL l true).length := by
  have h1 := prL_le l (k + 1) true
  have h2 := prL_snoc l k hk true
  rw [h2] at h1 ⊢
  simp only [List.length_append] at h1 ⊢
  constructor <;> omega
theorem prT_mem (l : List D) (k : Nat) (hk : k < l.length) : (printD l[k]).length + (prT (l.take k)).length ≤ (prT l).length ∧ (prT (l.take (k + 1))).length ≤ (prT l).length := by
  have h1 := prT_le l (k + 1)
  have h2 := prT_snoc l k hk
  rw [h2] at h1 ⊢
  simp only [List.length_append] at h1 ⊢
  constructor <;> omega
theorem kinds_of_right (n : Nat) (d : D) (h : d.right n = true) : d.leaf = true ∨ (d.kind = 5 ∨ d.kind = 6) ∧ ∃ m, n = m + 1 ∧ (∀ x, x ∈ d.list → x.right m = true) ∧ (∀ x, x ∈ d.tail → x.right m = true) := by
  by_cases hl : d.leaf = true
  · exact .inl hl
  · right
    cases n with
    | zero => exact absurd h hl
    | succ m =>
      rw [D.right] at h
      simp only [hl, Bool.false_or, Bool.and_eq_true] at h
      obtain ⟨hs, ht, ha, hb⟩ := h
      rw [List.all_eq_true] at ha hb
      refine ⟨?_, m, rfl, ha, hb⟩
      simp only [D.shape, Bool.or_eq_true, Bool.and_eq_true, beq_iff_eq] at hs
      omega
theorem leaf_kinds (d : D) (h : d.leaf = true) : d.kind = 1 ∨ d.kind = 2 ∨ d.kind = 3 ∨ d.kind = 4 := by
  simp only [D.leaf, Bool.or_eq_true, Bool.and_eq_true, beq_iff_eq] at h
  omega
def PrintedAt (n : Nat) : Prop := ∀ (d : D) (w : World) (c0 c1 c2 c3 : Value), d.right n = true → IsD w d c0 c1 c2 c3 → D.Small 1048576 d → (printD d).length ≤ 100000000 →
  Calls Tryd.prog 41 #[.agg #[c0, c1, c2, c3]] w fun e w' => ∃ t : ByteArray, e = .returned (.string t) ∧ t.toList = printD d ∧ Below w.heap.size w w'
theorem printed_leaf (k : Int) (hk : k = 1 ∨ k = 2 ∨ k = 3 ∨ k = 4) (s : ByteArray) (l t : List D) (w : World) (A2 A3 : Option Addr) (n2 n3 : Nat) (hs : s.size ≤ 1048576) :
    Calls Tryd.prog 41 #[.agg #[.int .i64 k, .string s, .slice A2 l.length n2, .slice A3 t.length n3]] w fun e w' => ∃ r : ByteArray, e = .returned (.string r) ∧ r.toList = printD (.mk k s l t) ∧ Below w.heap.size w w' := by
  have HB := Lib.hid (fun o => (Below.refl w.heap.size w).alloc (Nat.le_refl _) o)
  rcases hk with rfl | rfl | rfl | rfl
  · go_enter Tryd.func41, Tryd.ntmps41
    go_wp2_with fail
    go_ret
    exact ⟨_, rfl, by simp [printD], HB.out _⟩
  · go_enter Tryd.func41, Tryd.ntmps41
    go_wp2_with fail
    go_ret
    exact ⟨_, rfl, by simp [printD], HB.out _⟩
  · have HC := Lib.hid (fun W => escaped_any s W (by omega))
    go_enter Tryd.func41, Tryd.ntmps41
    go_wp2_with (go_at_call 60; refine (HC.out _).mono ?_; rintro e w' ⟨t, rfl, ht, hb⟩; have HT := Lib.hid ht; have HB1 := Lib.hid hb; clear ht hb)
    go_ret
    exact ⟨_, rfl, by rw [HT.out]; simp [printD], (HB.out _).trans (HB1.out.mono (by simp))⟩
  · go_enter Tryd.func41, Tryd.ntmps41
    go_wp2_with fail
    go_ret
    exact ⟨_, rfl, by simp [printD], HB.out _⟩
end Go.Proofs.YtcpicndapmaiaaaDoor
