import Derived.Test.YtcpicndapmaiaaaDoorIsn
namespace Go.Proofs.YtcpicndapmaiaaaDoor
open Go Go.RowKit
def MayAt (n : Nat) : Prop := ∀ (d : D) (w : World) (c0 c1 c2 c3 : Value), IsD w d c0 c1 c2 c3 → D.Small 1048576 d →
  Calls Tryd.prog 33 #[.agg #[c0, c1, c2, c3], .int .i64 n] w fun e w' => e = .returned (.bool (d.right n)) ∧ Below w.heap.size w w'
theorem flat_eq (l t : List D) : (((l.length : Int) + t.length) == 0) = (((l.length : Int) == 0) && ((t.length : Int) == 0)) := by
  rw [Bool.eq_iff_iff]; simp only [beq_iff_eq, Bool.and_eq_true]; omega
set_option maxHeartbeats 1000000 in
theorem may_leaf (n : Nat) (hn : n < 1000) (k : Int) (s : ByteArray) (l t : List D) (h5 : k ≠ 5) (h6 : k ≠ 6) (w : World) (A2 A3 : Option Addr) (n2 n3 : Nat) (hs : s.size ≤ 1048576) (hl : l.length ≤ 1048576) (ht : t.length ≤ 1048576) :
    Calls Tryd.prog 33 #[.agg #[.int .i64 k, .string s, .slice A2 l.length n2, .slice A3 t.length n3], .int .i64 n] w fun e w' => e = .returned (.bool ((D.mk k s l t).leaf)) ∧ Below w.heap.size w w' := by
  have HB := Lib.hid (fun o => (Below.refl w.heap.size w).alloc (Nat.le_refl _) o)
  by_cases h1 : k = 1
  · subst h1
    clear h5 h6
    have HL := Lib.hid (show (D.mk 1 s l t).leaf = ((((l.length : Int) == 0) && ((t.length : Int) == 0)) && numB s.toList) from by rw [← flat_eq]; simp [D.leaf, D.kind, D.flat, D.list, D.tail, D.text])
    go_enter Tryd.func33, Tryd.ntmps33
    go_wp2_with (go_at_call 48; refine (refCan09_any _ _ (by unfold maxLen; omega)).mono ?_; rintro e w' ⟨rfl, rfl⟩)
    all_goals (go_ret; exact ⟨ret_bool (by rw [HL.out]; try simp [*]), HB.out _⟩)
  by_cases h2 : k = 2
  · subst h2
    clear h5 h6 h1
    have HL := Lib.hid (show (D.mk 2 s l t).leaf = ((((l.length : Int) == 0) && ((t.length : Int) == 0)) && (s.toList == [35, 116] || s.toList == [35, 102])) from by rw [← flat_eq]; simp [D.leaf, D.kind, D.flat, D.list, D.tail, D.text])
    go_enter Tryd.func33, Tryd.ntmps33
    go_wp2_with fail
    all_goals (go_ret; exact ⟨ret_bool (by rw [HL.out]; try simp [*]), HB.out _⟩)
  by_cases h3 : k = 3
  · subst h3
    clear h5 h6 h1 h2
    have HL := Lib.hid (show (D.mk 3 s l t).leaf = (((l.length : Int) == 0) && ((t.length : Int) == 0)) from by rw [← flat_eq]; simp [D.leaf, D.kind, D.flat, D.list, D.tail, D.text])
    go_enter Tryd.func33, Tryd.ntmps33
    go_wp2_with fail
    all_goals (go_ret; exact ⟨ret_bool (by rw [HL.out]; try simp [*]), HB.out _⟩)
  by_cases h4 : k = 4
  · subst h4
    clear h5 h6 h1 h2 h3
    have HL := Lib.hid (show (D.mk 4 s l t).leaf = ((((l.length : Int) == 0) && ((t.length : Int) == 0)) && nameB s.toList) from by rw [← flat_eq]; simp [D.leaf, D.kind, D.flat, D.list, D.tail, D.text])
    go_enter Tryd.func33, Tryd.ntmps33
    go_wp2_with (go_at_call 27; refine (isName_any _ _ hs).mono ?_; rintro e w' ⟨rfl, hb⟩; have HB1 := Lib.hid hb; clear hb)
    all_goals (go_ret; exact ⟨ret_bool (by rw [HL.out]; try simp [*]), by first | exact HB.out _ | exact (HB.out _).trans (HB1.out.mono (by simp))⟩)
  have e1 : (k == 1) = false := by simpa using h1
  have e2 : (k == 2) = false := by simpa using h2
  have e3 : (k == 3) = false := by simpa using h3
  have e4 : (k == 4) = false := by simpa using h4
  have e5 : (k == 5) = false := by simpa using h5
  have e6 : (k == 6) = false := by simpa using h6
  have e5' : (k != 5) = true := by simpa using h5
  have e6' : (k != 6) = true := by simpa using h6
  have HL := Lib.hid (show (D.mk k s l t).leaf = false from by simp [D.leaf, D.kind, e1, e2, e3, e4])
  clear h1 h2 h3 h4 h5 h6
  go_enter Tryd.func33, Tryd.ntmps33
  go_wp2_with fail
  all_goals (go_ret; exact ⟨ret_bool (by rw [HL.out]), HB.out _⟩)
/-- What may's shape says, at a list or a vector. -/
def shapeM (k : Int) (l t : List D) : Bool := decide ((0 : Int) < t.length) && ((k == 6) || decide ((1 : Int) < t.length) || ((l.length : Int) == 0) || ((t.headD default).kind == 5))
theorem shapeM_eq (k : Int) (s : ByteArray) (l t : List D) (hk : k = 5 ∨ k = 6) : (D.mk k s l t).shape = !shapeM k l t := by
  unfold shapeM D.shape
  rw [show (D.mk k s l t).kind = k from rfl, show (D.mk k s l t).tail = t from rfl, show (D.mk k s l t).list = l from rfl]
  have h0 : (0 : Int) ≤ (t.length : Int) := by omega
  generalize (t.length : Int) = q at h0
  generalize ((l.length : Int) == 0) = b1
  generalize ((t.headD default).kind == 5) = b2
  rcases hk with rfl | rfl
  · by_cases h1 : q = 0
    · subst h1; simp
    · by_cases h2 : q = 1
      · subst h2; simp
      · have a1 : decide ((1 : Int) < q) = true := decide_eq_true (by omega)
        have a2 : decide ((0 : Int) < q) = true := decide_eq_true (by omega)
        simp [a1, a2]
  · simp
end Go.Proofs.YtcpicndapmaiaaaDoor
