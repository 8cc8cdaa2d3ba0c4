/- Which data may be: the walk of datum.right, its closure, and datum.Can. -/
import Derived.Test.YtcpicndapmaiaaaDoorR9
import Derived.Test.YtcpicndapmaiaaaDoorI
namespace Go.Proofs.YtcpicndapmaiaaaDoor
open Go Go.RowKit
namespace D
def flat (d : D) : Bool := (((d.list.length : Int) + d.tail.length) == 0)
def leaf (d : D) : Bool := (d.kind == 1 && (d.flat && numB d.text.toList)) || (d.kind == 2 && (d.flat && (d.text.toList == [35, 116] || d.text.toList == [35, 102]))) || (d.kind == 3 && d.flat) || (d.kind == 4 && (d.flat && nameB d.text.toList))
def shape (d : D) : Bool := (d.kind == 6 && !(decide ((0 : Int) < d.tail.length))) || (d.kind == 5 && !(decide ((1 : Int) < d.tail.length) || (((d.tail.length : Int) == 1) && (((d.list.length : Int) == 0) || ((d.tail.headD default).kind == 5)))))
/-- A datum that may be, so deep at most. -/
def right : Nat → D → Bool
  | 0, d => d.leaf
  | n + 1, d => d.leaf || (d.shape && (d.text.toList.isEmpty && (d.list.all (right n) && d.tail.all (right n))))
/-- All texts and lists are short. -/
inductive Small (M : Nat) : D → Prop where
  | mk (k : Int) (s : ByteArray) (l t : List D) (h1 : s.size ≤ M) (h2 : l.length ≤ M) (h3 : t.length ≤ M) (h4 : ∀ d, d ∈ l → Small M d) (h5 : ∀ d, d ∈ t → Small M d) : Small M (.mk k s l t)
end D
/-- The contract of datum.right at one n. -/
def RightAt (n : Nat) : Prop := ∀ (d : D) (w : World) (c0 c1 c2 c3 : Value), IsD w d c0 c1 c2 c3 → D.Small 1048576 d →
  Calls Tryd.prog 35 #[.agg #[c0, c1, c2, c3], .int .i64 n] w fun e w' => e = .returned (.bool (d.right n)) ∧ Below w.heap.size w w'
theorem wrong_any (n : Nat) (hn : n < 1000) (ih : RightAt n) (d : D) (w : World) (c0 c1 c2 c3 : Value) (B : Nat) (hB : w.cell? ⟨B, 0, none⟩ = some (.int .i64 ((n : Int) + 1))) (hd : IsD w d c0 c1 c2 c3) (hs : D.Small 1048576 d) :
    Calls Tryd.prog 51 #[.agg #[c0, c1, c2, c3], .pointer (some ⟨B, 0, none⟩)] w fun e w' => e = .returned (.bool (!d.right n)) ∧ Below w.heap.size w w' := by
  have hlt : B < w.heap.size := World.block_lt_of_cell? w ⟨B, 0, none⟩ hB
  have HD := Lib.hid hd; have HS := Lib.hid hs; have IH := Lib.hid ih
  clear hd hs ih
  go_enter Tryd.func51, Tryd.ntmps51
  go_wp2_with fail
  refine ((IH.out) d _ c0 c1 c2 c3 (IsD.below ((Below.refl _ _).alloc (Nat.le_refl _) _) HD.out) HS.out).mono ?_
  rintro e w' ⟨rfl, hb⟩
  have HB := Lib.hid hb
  clear hb
  go_wp2
  go_ret
  exact ⟨rfl, ((Below.refl _ _).alloc (Nat.le_refl _) _).trans (HB.out.mono (by simp))⟩

theorem D.Small.parts {M : Nat} {k : Int} {s : ByteArray} {l t : List D} (h : D.Small M (.mk k s l t)) : s.size ≤ M ∧ l.length ≤ M ∧ t.length ≤ M ∧ (∀ d, d ∈ l → D.Small M d) ∧ (∀ d, d ∈ t → D.Small M d) := by
  cases h; exact ⟨‹_›, ‹_›, ‹_›, ‹_›, ‹_›⟩
set_option maxHeartbeats 1000000 in
theorem right_leaf (n : Nat) (hn : n < 1000) (k : Int) (s : ByteArray) (l t : List D) (h5 : k ≠ 5) (h6 : k ≠ 6) (w : World) (A2 A3 : Option Addr) (n2 n3 : Nat) (hs : s.size ≤ 1048576) (hl : l.length ≤ 1048576) (ht : t.length ≤ 1048576) :
    Calls Tryd.prog 35 #[.agg #[.int .i64 k, .string s, .slice A2 l.length n2, .slice A3 t.length n3], .int .i64 n] w fun e w' => e = .returned (.bool ((D.mk k s l t).leaf)) ∧ Below w.heap.size w w' := by
  have HB := Lib.hid ((((Below.refl w.heap.size w).alloc (Nat.le_refl _) (.cells #[.int .i64 k, .string s, .slice A2 l.length n2, .slice A3 t.length n3] 37))).alloc (by simp) (.cells #[.int .i64 n] 3))
  by_cases h1 : k = 1
  · subst h1
    clear h5 h6
    have HL := Lib.hid (show (D.mk 1 s l t).leaf = ((((l.length : Int) + t.length) == 0) && numB s.toList) from by simp [D.leaf, D.kind, D.flat, D.list, D.tail, D.text])
    go_enter Tryd.func35, Tryd.ntmps35
    go_wp2_with (go_at_call 49; refine (numCan_any _ _ (by unfold maxLen; omega)).mono ?_; rintro e w' ⟨rfl, rfl⟩)
    all_goals (go_ret; exact ⟨ret_bool (by rw [HL.out]; simp [*]), HB.out⟩)
  by_cases h2 : k = 2
  · subst h2
    clear h5 h6 h1
    have HL := Lib.hid (show (D.mk 2 s l t).leaf = ((((l.length : Int) + t.length) == 0) && (s.toList == [35, 116] || s.toList == [35, 102])) from by simp [D.leaf, D.kind, D.flat, D.list, D.tail, D.text])
    go_enter Tryd.func35, Tryd.ntmps35
    go_wp2_with fail
    all_goals (go_ret; exact ⟨ret_bool (by rw [HL.out]; try simp [*]), HB.out⟩)
  by_cases h3 : k = 3
  · subst h3
    clear h5 h6 h1 h2
    have HL := Lib.hid (show (D.mk 3 s l t).leaf = (((l.length : Int) + t.length) == 0) from by simp [D.leaf, D.kind, D.flat, D.list, D.tail, D.text])
    go_enter Tryd.func35, Tryd.ntmps35
    go_wp2_with fail
    all_goals (go_ret; exact ⟨ret_bool (by rw [HL.out]; try simp [*]), HB.out⟩)
  by_cases h4 : k = 4
  · subst h4
    clear h5 h6 h1 h2 h3
    have HL := Lib.hid (show (D.mk 4 s l t).leaf = ((((l.length : Int) + t.length) == 0) && nameB s.toList) from by simp [D.leaf, D.kind, D.flat, D.list, D.tail, D.text])
    go_enter Tryd.func35, Tryd.ntmps35
    go_wp2_with (go_at_call 50; refine (name_any _ _ (by unfold maxLen; omega)).mono ?_; rintro e w' ⟨rfl, rfl⟩)
    all_goals (go_ret; exact ⟨ret_bool (by rw [HL.out]; try simp [*]), HB.out⟩)
  have e1 : (k == 1) = false := by simpa using h1
  have e2 : (k == 2) = false := by simpa using h2
  have e3 : (k == 3) = false := by simpa using h3
  have e4 : (k == 4) = false := by simpa using h4
  have e5 : (k == 5) = false := by simpa using h5
  have e6 : (k == 6) = false := by simpa using h6
  have HL := Lib.hid (show (D.mk k s l t).leaf = false from by simp [D.leaf, D.kind, e1, e2, e3, e4])
  clear h1 h2 h3 h4 h5 h6
  go_enter Tryd.func35, Tryd.ntmps35
  go_wp2_with fail
  all_goals (go_ret; exact ⟨ret_bool (by rw [HL.out]), HB.out⟩)
end Go.Proofs.YtcpicndapmaiaaaDoor
