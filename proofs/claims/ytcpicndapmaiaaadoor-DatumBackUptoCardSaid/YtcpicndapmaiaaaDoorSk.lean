/- The reader's skip. -/
import Derived.Test.YtcpicndapmaiaaaDoorRdr
namespace Go.Proofs.YtcpicndapmaiaaaDoor
open Go Go.RowKit
def posOf (b : Nat) (w : World) : Nat := match w.cell? ⟨b, 1, none⟩ with | some v => (intOf v).toNat | none => 0
theorem Rr.pos {b : Nat} {s : ByteArray} {p : Nat} {w : World} (h : Rr b s p w) : posOf b w = p := by unfold posOf; rw [h.cells.2.1]; simp [intOf]
/-- From p to q there are blanks alone, and at q there is none. -/
structure Blanks (s : ByteArray) (p q : Nat) : Prop where
  le : p ≤ q
  size : q ≤ s.size
  all : ∀ i, p ≤ i → i < q → at0 s.toList i = 32
  stop : q = s.size ∨ (at0 s.toList q ≠ 32 ∧ at0 s.toList q ≠ 9 ∧ at0 s.toList q ≠ 10 ∧ at0 s.toList q ≠ 13 ∧ at0 s.toList q ≠ 59)
theorem ne_int {x y : UInt8} (h : x ≠ y) : ((x.toNat : Int) == (y.toNat : Int)) = false := by
  rw [beq_eq_false_iff_ne]; intro e; exact h (UInt8.toNat_inj.1 (by omega))
theorem skip_any (b : Nat) (s : ByteArray) (p q : Nat) (w : World) (hr : Rr b s p w) (hs : s.size ≤ 100000000) (hq : Blanks s p q) :
    Calls Tryd.prog 37 #[.pointer (some ⟨b, 0, none⟩)] w fun e w' => e = .returned (.tuple #[]) ∧ Rr b s q w' ∧ Eb b w w' := by
  have HQ := Lib.hid hq
  have HR := Lib.hid hr
  clear hq hr
  go_enter Tryd.func37, Tryd.ntmps37
  go_wp2_with fail
  go_loopw [2, 3] (fun _ _ wr => ∃ i : Nat, p ≤ i ∧ i ≤ q ∧ Hid (Rr b s i wr) ∧ Hid (Eb b w wr)) (fun _ _ wr => s.size - posOf b wr)
  case atStart => exact ⟨p, Nat.le_refl _, HQ.out.le, HR, Eb.refl _ _⟩
  case round =>
    obtain ⟨i, hi1, hi2, HR1, HE1⟩ := hrel
    have HPOS := Lib.hid HR1.out.pos
    obtain ⟨h0, h1, h2, h3⟩ := HR1.out.cells
    have hsz := HQ.out.size
    by_cases hlt : i < q
    · have HA := Lib.hid ((at0_get s i (by omega)).trans (HQ.out.all i hi1 hlt))
      have hsi : (s[i].toNat : Int) = 32 := by rw [HA.out]; rfl
      have hpz : decide (i < s.size) = true := by simp; omega
      have hpi : (i : Int) < (s.size : Int) := by omega
      clear HR
      go_wp2_with fail
      go_quiet (fail)
      go_wp2_with fail
      go_quiet (fail)
      go_wp2_with fail
      have HM := Lib.hid (fun n => (HR1.out.drewN n).move (i + 1))
      rw [show ((i + 1 : Nat) : Int) = (i : Int) + 1 from by omega] at HM
      exact ⟨⟨i + 1, by omega, by omega, HM.out _, HE1.out.trans ((Eb.drewN _ _ _).trans (Eb.set1 _ _ _))⟩, by rw [HPOS.out, (HM.out _ : Rr b s (i + 1) _).pos]; omega⟩
    · have hiq : i = q := by omega
      subst hiq
      by_cases hend : i < s.size
      · have HS := Lib.hid (HQ.out.stop.resolve_left (by omega))
        have HA := Lib.hid (at0_get s i hend)
        have k1 : ((s[i].toNat : Int) == 32) = false := by rw [HA.out]; exact ne_int HS.out.1
        have k2 : ((s[i].toNat : Int) == 9) = false := by rw [HA.out]; exact ne_int HS.out.2.1
        have k3 : ((s[i].toNat : Int) == 10) = false := by rw [HA.out]; exact ne_int HS.out.2.2.1
        have k4 : ((s[i].toNat : Int) == 13) = false := by rw [HA.out]; exact ne_int HS.out.2.2.2.1
        have k5 : ((s[i].toNat : Int) == 59) = false := by rw [HA.out]; exact ne_int HS.out.2.2.2.2
        have hpz : decide (i < s.size) = true := by simp; omega
        have hpi : (i : Int) < (s.size : Int) := by omega
        clear HR
        go_wp2_with fail
        go_quiet (fail)
        go_wp2_with fail
        go_quiet (fail)
        go_wp2_with fail
        exact bodyPost_ret (v := .tuple #[]) (by simp [results, Tryd.results37, go_sem]) rfl ⟨rfl, HR1.out, HE1.out.trans (Eb.drewN _ _ _)⟩
      · have hpz : decide (i < s.size) = false := by simp; omega
        clear HR
        go_wp2_with fail
        go_quiet (fail)
        go_wp2_with fail
        go_end0
        exact ⟨rfl, HR1.out, HE1.out.trans (Eb.drewN _ _ _)⟩
end Go.Proofs.YtcpicndapmaiaaaDoor
