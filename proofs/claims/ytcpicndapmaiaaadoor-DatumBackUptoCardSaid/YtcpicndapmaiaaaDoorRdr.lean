/- The reader in memory; peek. -/
import Derived.Test.YtcpicndapmaiaaaDoorNu
import Derived.Test.YtcpicndapmaiaaaDoorE1
import Derived.Deep.QuietTactic
import Derived.BigQuiet
namespace Go.Proofs.YtcpicndapmaiaaaDoor
open Go Go.RowKit
/-- The reader at block b: its text, and where it stands. -/
def Rr (b : Nat) (s : ByteArray) (p : Nat) (w : World) : Prop := w.heap[b]? = some (.cells #[.string s, .int .i64 p] 69 (0, 0))
theorem Rr.cells {b : Nat} {s : ByteArray} {p : Nat} {w : World} (h : Rr b s p w) : w.cell? ⟨b, 0, none⟩ = some (.string s) ∧ w.cell? ⟨b, 1, none⟩ = some (.int .i64 p) ∧ w.frozen? ⟨b, 1, none⟩ = false ∧ b < w.heap.size :=
  ⟨cell_of_row w _ 0 _ _ _ h, cell_of_row w _ 1 _ _ _ h, frozen_of_row w _ 1 _ _ h, (Array.getElem?_eq_some_iff.1 h).1⟩
theorem Rr.below {b : Nat} {s : ByteArray} {p : Nat} {w w' : World} (h : Rr b s p w) (hb : Below w.heap.size w w') : Rr b s p w' := (hb.block b h.cells.2.2.2).trans h
theorem Rr.drewN {b : Nat} {s : ByteArray} {p : Nat} {w : World} (h : Rr b s p w) (n : Nat) : Rr b s p (w.drewN n) := h
theorem Rr.move {b : Nat} {s : ByteArray} {p : Nat} {w : World} (h : Rr b s p w) (q : Nat) : Rr b s q (w.setCell ⟨b, 1, none⟩ (.int .i64 q)) :=
  heap_setCell_same w b 1 _ 69 _ h
theorem Eb.set1 (b : Nat) (w : World) (v : Value) : Eb b w (w.setCell ⟨b, 1, none⟩ v) :=
  ⟨rfl, rfl, rfl, by simp, fun i _ hn => heap_setCell_other _ _ _ _ (by rintro rfl; exact hn rfl)⟩
theorem Eb.drewN (b : Nat) (w : World) (n : Nat) : Eb b w (w.drewN n) := ⟨rfl, rfl, rfl, Nat.le_refl _, fun _ _ _ => rfl⟩
theorem at0_lt (l : List UInt8) (p : Nat) (h : p < l.length) : at0 l p = l[p] := by unfold at0; rw [List.getD_eq_getElem?_getD, List.getElem?_eq_getElem h]; rfl
theorem below_drewN (B : Nat) (w : World) (n : Nat) : Below B w (w.drewN n) := ⟨rfl, rfl, rfl, Nat.le_refl _, fun _ _ => rfl⟩
theorem peek_any (b : Nat) (s : ByteArray) (p : Nat) (w : World) (hr : Rr b s p w) :
    Calls Tryd.prog 54 #[.pointer (some ⟨b, 0, none⟩)] w fun e w' => e = .returned (.int .u8 ((at0 s.toList p).toNat : Int)) ∧ ∃ n, w' = w.drewN n := by
  obtain ⟨h0, h1, h2, h3⟩ := hr.cells
  by_cases hp : p < s.size
  · have HA := Lib.hid (at0_get s p hp)
    have hpz : decide (s.size ≤ p) = false := by simp; omega
    have hpi : (p : Int) < (s.size : Int) := by omega
    clear hr
    go_enter Tryd.func54, Tryd.ntmps54
    go_wp2_with fail
    go_quiet (fail)
    go_wp2_with fail
    go_quiet (fail)
    go_wp2_with fail
    go_ret
    exact ⟨by rw [← HA.out]; rfl, ⟨_, by first | rfl | exact World.drewN_drewN _ _ _⟩⟩
  · have HA := Lib.hid (show at0 s.toList p = 0 from by unfold at0; rw [List.getD_eq_getElem?_getD, List.getElem?_eq_none (by rw [toList_len]; omega)]; rfl)
    have hpz : decide (s.size ≤ p) = true := by simp; omega
    clear hr
    go_enter Tryd.func54, Tryd.ntmps54
    go_wp2_with fail
    go_quiet (fail)
    go_wp2_with fail
    go_ret
    exact ⟨by rw [HA.out]; rfl, _, rfl⟩
end Go.Proofs.YtcpicndapmaiaaaDoor
