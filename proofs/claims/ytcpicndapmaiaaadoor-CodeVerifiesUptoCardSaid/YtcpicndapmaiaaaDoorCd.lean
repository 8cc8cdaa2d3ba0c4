/- A program's code in memory; which instructions may be: code.bounds and the reference's instr. -/
import Derived.Test.YtcpicndapmaiaaaDoorRCan
namespace Go.Proofs.YtcpicndapmaiaaaDoor
open Go Go.RowKit
structure Ins where
  op : Int
  a : Int
  b : Int
instance : Inhabited Ins := ⟨⟨0, 0, 0⟩⟩
structure Cod where
  ins : List Ins
  consts : List D
  names : List ByteArray
/-- A slice's places read as instructions. -/
def IsI (w : World) (A : Option Addr) (l : List Ins) : Prop := ∀ (i : Nat) (hi : i < l.length), ∃ ad, A = some ad ∧ w.cell? (ad.add (i * 3)) = some (.int .i64 l[i].op) ∧ w.cell? ⟨(ad.add (i * 3)).block, (ad.add (i * 3)).off + 1, none⟩ = some (.int .i64 l[i].a) ∧ w.cell? ⟨(ad.add (i * 3)).block, (ad.add (i * 3)).off + 2, none⟩ = some (.int .i64 l[i].b)
def IsS (w : World) (A : Option Addr) (l : List ByteArray) : Prop := ∀ (i : Nat) (hi : i < l.length), ∃ ad, A = some ad ∧ w.cell? (ad.add i) = some (.string l[i])
theorem IsI.below {w w1 : World} (hb : Below w.heap.size w w1) {A : Option Addr} {l : List Ins} (h : IsI w A l) : IsI w1 A l := fun i hi => by
  obtain ⟨ad, e, g0, g1, g2⟩ := h i hi
  exact ⟨ad, e, cell_below hb g0, cell_below hb g1, cell_below hb g2⟩
theorem IsS.below {w w1 : World} (hb : Below w.heap.size w w1) {A : Option Addr} {l : List ByteArray} (h : IsS w A l) : IsS w1 A l := fun i hi => by
  obtain ⟨ad, e, g0⟩ := h i hi
  exact ⟨ad, e, cell_below hb g0⟩
/-- The three slices of code. -/
structure IsC (w : World) (c : Cod) (A1 A2 A3 : Option Addr) : Prop where
  ins : IsI w A1 c.ins
  consts : IsL w c.consts A2 0
  names : IsS w A3 c.names
theorem IsC.below {w w1 : World} (hb : Below w.heap.size w w1) {c : Cod} {A1 A2 A3 : Option Addr} (h : IsC w c A1 A2 A3) : IsC w1 c A1 A2 A3 := ⟨h.ins.below hb, IsL.below hb h.consts, h.names.below hb⟩
structure Cod.Small (c : Cod) : Prop where
  ins : c.ins.length ≤ 1048576
  consts : c.consts.length ≤ 1048576
  names : c.names.length ≤ 1048576
  each : ∀ d, d ∈ c.consts → D.Small 1048576 d
  text : ∀ s, s ∈ c.names → s.size ≤ 1048576

def bndA (ni nc nn op : Int) : Int :=
  if op = 1 then nc else if op = 3 ∨ op = 5 ∨ op = 6 then nn else if op = 2 ∨ op = 4 then 101 else if op = 7 ∨ op = 8 ∨ op = 10 ∨ op = 9 then ni else if op = 12 then 256 else if op = 11 ∨ op = 13 ∨ op = 14 then 1 else 0
def bndB (op : Int) : Int :=
  if op = 2 ∨ op = 4 then 17 else if op = 9 then 34 else if 1 ≤ op ∧ op ≤ 14 then 1 else 0
theorem ops_cases (op : Int) : op = 1 ∨ op = 2 ∨ op = 3 ∨ op = 4 ∨ op = 5 ∨ op = 6 ∨ op = 7 ∨ op = 8 ∨ op = 9 ∨ op = 10 ∨ op = 11 ∨ op = 12 ∨ op = 13 ∨ op = 14 ∨ (op < 1 ∨ 14 < op) := by omega
theorem ret_two {x y x' y' : Int} (h : x = x') (h' : y = y') : Ending.returned (.tuple #[.int .i64 x, .int .i64 y]) = Ending.returned (.tuple #[.int .i64 x', .int .i64 y']) := by rw [h, h']
set_option maxHeartbeats 2000000 in
theorem bounds_any (n1 n2 n3 : Nat) (A1 A2 A3 : Option Addr) (m1 m2 m3 : Nat) (op : Int) (w : World) :
    Calls Tryd.prog 26 #[.agg #[.slice A1 n1 m1, .slice A2 n2 m2, .slice A3 n3 m3], .int .i64 op] w fun e w' => e = .returned (.tuple #[.int .i64 (bndA n1 n2 n3 op), .int .i64 (bndB op)]) ∧ Below w.heap.size w w' := by
  have HB := Lib.hid (fun o => (Below.refl w.heap.size w).alloc (Nat.le_refl _) o)
  rcases ops_cases op with rfl | rfl | rfl | rfl | rfl | rfl | rfl | rfl | rfl | rfl | rfl | rfl | rfl | rfl | h
  iterate 14
    · go_enter Tryd.func26, Tryd.ntmps26
      go_wp2_with fail
      go_ret2
      exact ⟨ret_two (by simp [bndA]) (by simp [bndB]), HB.out _⟩
  have HA := Lib.hid (show bndA n1 n2 n3 op = 0 from by unfold bndA; rw [if_neg (by omega), if_neg (by omega), if_neg (by omega), if_neg (by omega), if_neg (by omega), if_neg (by omega)])
  have HA' := Lib.hid (show bndB op = 0 from by unfold bndB; rw [if_neg (by omega), if_neg (by omega), if_neg (by omega)])
  have e1 : (op == 1) = false := beq_eq_false_iff_ne.2 (by omega)
  have e2 : (op == 2) = false := beq_eq_false_iff_ne.2 (by omega)
  have e3 : (op == 3) = false := beq_eq_false_iff_ne.2 (by omega)
  have e4 : (op == 4) = false := beq_eq_false_iff_ne.2 (by omega)
  have e5 : (op == 5) = false := beq_eq_false_iff_ne.2 (by omega)
  have e6 : (op == 6) = false := beq_eq_false_iff_ne.2 (by omega)
  have e7 : (op == 7) = false := beq_eq_false_iff_ne.2 (by omega)
  have e8 : (op == 8) = false := beq_eq_false_iff_ne.2 (by omega)
  have e9 : (op == 9) = false := beq_eq_false_iff_ne.2 (by omega)
  have e10 : (op == 10) = false := beq_eq_false_iff_ne.2 (by omega)
  have e11 : (op == 11) = false := beq_eq_false_iff_ne.2 (by omega)
  have e12 : (op == 12) = false := beq_eq_false_iff_ne.2 (by omega)
  have e13 : (op == 13) = false := beq_eq_false_iff_ne.2 (by omega)
  have e14 : (op == 14) = false := beq_eq_false_iff_ne.2 (by omega)
  clear h
  go_enter Tryd.func26, Tryd.ntmps26
  go_wp2_with fail
  go_ret2
  exact ⟨ret_two HA.out.symm HA'.out.symm, HB.out _⟩
/-- An instruction that may be, in code of so many instructions, constants, names. -/
def insB (n1 n2 n3 : Int) (x : Ins) : Bool := decide (0 ≤ x.a) && decide (x.a < bndA n1 n2 n3 x.op) && decide (0 ≤ x.b) && decide (x.b < bndB x.op)
set_option maxHeartbeats 4000000 in
set_option maxRecDepth 100000 in
theorem instr_any (n1 n2 n3 : Nat) (A1 A2 A3 : Option Addr) (m1 m2 m3 : Nat) (x : Ins) (w : World) :
    Calls Tryd.prog 28 #[.agg #[.slice A1 n1 m1, .slice A2 n2 m2, .slice A3 n3 m3], .agg #[.int .i64 x.op, .int .i64 x.a, .int .i64 x.b]] w fun e w' => e = .returned (.bool (insB n1 n2 n3 x)) ∧ Below w.heap.size w w' := by
  have HB := Lib.hid (fun o o' => ((Below.refl w.heap.size w).alloc (Nat.le_refl _) o).alloc (by simp) o')
  obtain ⟨op, a, b⟩ := x
  dsimp only
  rcases ops_cases op with rfl | rfl | rfl | rfl | rfl | rfl | rfl | rfl | rfl | rfl | rfl | rfl | rfl | rfl | h
  iterate 14
    · go_enter Tryd.func28, Tryd.ntmps28
      go_wp2_with fail
      all_goals
        go_ret
        refine ⟨ret_bool ?_, HB.out _ _⟩
        rw [Bool.eq_iff_iff]; simp [insB, bndA, bndB]; first | done | omega
  have HA := Lib.hid (show insB n1 n2 n3 ⟨op, a, b⟩ = false from by
    have e : bndB op = 0 := by unfold bndB; rw [if_neg (by omega), if_neg (by omega), if_neg (by omega)]
    unfold insB
    rw [e]; simp)
  have e1 : (op == 1) = false := beq_eq_false_iff_ne.2 (by omega)
  have e2 : (op == 2) = false := beq_eq_false_iff_ne.2 (by omega)
  have e3 : (op == 3) = false := beq_eq_false_iff_ne.2 (by omega)
  have e4 : (op == 4) = false := beq_eq_false_iff_ne.2 (by omega)
  have e5 : (op == 5) = false := beq_eq_false_iff_ne.2 (by omega)
  have e6 : (op == 6) = false := beq_eq_false_iff_ne.2 (by omega)
  have e7 : (op == 7) = false := beq_eq_false_iff_ne.2 (by omega)
  have e8 : (op == 8) = false := beq_eq_false_iff_ne.2 (by omega)
  have e9 : (op == 9) = false := beq_eq_false_iff_ne.2 (by omega)
  have e10 : (op == 10) = false := beq_eq_false_iff_ne.2 (by omega)
  have e11 : (op == 11) = false := beq_eq_false_iff_ne.2 (by omega)
  have e12 : (op == 12) = false := beq_eq_false_iff_ne.2 (by omega)
  have e13 : (op == 13) = false := beq_eq_false_iff_ne.2 (by omega)
  have e14 : (op == 14) = false := beq_eq_false_iff_ne.2 (by omega)
  clear h
  go_enter Tryd.func28, Tryd.ntmps28
  go_wp2_with fail
  go_ret
  exact ⟨ret_bool HA.out.symm, HB.out _ _⟩
end Go.Proofs.YtcpicndapmaiaaaDoor
