/- The reader's atom. -/
import Derived.Test.YtcpicndapmaiaaaDoorPc
namespace Go.Proofs.YtcpicndapmaiaaaDoor
open Go Go.RowKit
/-- What datum.atom makes of a text. -/
def AtomK (t : ByteArray) (k : Int) : Prop :=
  ∃ u neg r ok, Parts t u neg ∧ NumR u neg r ok ∧ u.size ≤ 100000000 ∧
    ((ok = true ∧ r = t ∧ k = 1) ∨ (ok = false ∧ (t.toList = [35, 116] ∨ t.toList = [35, 102]) ∧ k = 2) ∨ (ok = false ∧ (t.toList == [35, 116]) = false ∧ (t.toList == [35, 102]) = false ∧ nameB t.toList = true ∧ k = 4))
theorem Rr.other {b k i : Nat} {s : ByteArray} {p : Nat} {w : World} {v : Value} (h : Rr b s p w) (hk : k ≠ b) : Rr b s p (w.setCell ⟨k, i, none⟩ v) :=
  (heap_setCell_other w ⟨k, i, none⟩ b v (by exact fun e => hk e.symm)).trans h
theorem Eb.new {b k i : Nat} {w y : World} {v : Value} (h : Eb b w y) (hk : w.heap.size ≤ k) : Eb b w (y.setCell ⟨k, i, none⟩ v) :=
  ⟨h.os, h.tape, h.output, by simpa using h.size, fun j hj hn => (heap_setCell_other y ⟨k, i, none⟩ j v (by intro e; simp only at e; omega)).trans (h.block j hj hn)⟩
theorem atom_any (b : Nat) (s : ByteArray) (p q : Nat) (k : Int) (w : World) (hr : Rr b s p w) (hs : s.size ≤ 100000000) (hq : Piece s p q) (hk : AtomK (s.extract p q) k) :
    Calls Tryd.prog 56 #[.pointer (some ⟨b, 0, none⟩)] w fun e w' => e = .returned (.agg #[.int .i64 k, .string (s.extract p q), .slice none 0 0, .slice none 0 0]) ∧ Rr b s q w' ∧ Eb b w w' := by
  have HQ := Lib.hid hq
  have HP := Lib.hid (fun y (h : Rr b s p y) => piece_any b s p q y h hs hq)
  have hsz : (s.extract p q).size = q - p := by have := hq.size; simp; omega
  obtain ⟨t, ht⟩ : ∃ t, s.extract p q = t := ⟨_, rfl⟩
  rw [ht] at hk hsz HP
  rw [ht]
  obtain ⟨h0, h1, h2, h3⟩ := hr.cells
  have HR := Lib.hid hr
  have hsum : (p : Int) + (t.size : Int) = (q : Int) := by have := hq.le; omega
  have htl : t.size ≤ 100000000 := by have := hq.size; omega
  have HTL := Lib.hid htl
  have HSUM := Lib.hid hsum
  clear hq hr hsz ht htl hsum
  obtain ⟨u, neg, r, ok, k1, k2, k3, k4⟩ := hk
  have HN := Lib.hid (fun w (q : Int) => numeral_any t u neg r ok q w HTL.out k3 k1 k2)
  have HK := Lib.hid k4
  have HNM := Lib.hid (fun w => name_any t w (by unfold maxLen; have := HTL.out; omega))
  clear k1 k2 k3 k4
  go_enter Tryd.func56, Tryd.ntmps56
  go_wp2_with fail
  have HRW := Lib.hid (fun o n => (show Rr b s p ((w.alloc o).drewN n) from (HR.out.below ((Below.refl w.heap.size w).alloc (Nat.le_refl _) o) : Rr b s p (w.alloc o)).drewN n))
  go_quiet ((go_at_call 67; exact Calls.quiet_of (HP.out _ (HRW.out _ _))))
  have hsm := HSUM.out
  have hbw : b ≠ w.heap.size := by omega
  have hw64 : wrap64 (q : Int) = q := by have := HQ.out.size; unfold wrap64; omega
  have HRR := Lib.hid (fun n => (HRW.out (Obj.cells #[.int .i64 0, .string ⟨#[]⟩, .slice none 0 0, .slice none 0 0] 37) n).move q)
  have HEE := Lib.hid (fun n => ((((Eb.refl b w).trans (Eb.of ((Below.refl _ _).alloc (Nat.le_refl _) (Obj.cells #[.int .i64 0, .string ⟨#[]⟩, .slice none 0 0, .slice none 0 0] 37)))).trans (Eb.drewN b _ n)).trans (Eb.set1 b _ (.int .i64 q))))
  have HNE := Lib.hid hbw.symm
  rcases HK.out with ⟨rfl, rfl, rfl⟩ | ⟨rfl, h4 | h4, rfl⟩ | ⟨rfl, h4, h5, h6, rfl⟩
  · clear HK
    go_wp2_with (go_at_call 68; refine (HN.out _ _).mono ?_; rintro e w' ⟨rfl, rfl⟩)
    exact bodyPost_ret (v := .agg #[.int .i64 1, .string r, .slice none 0 0, .slice none 0 0]) (by simp [results, Tryd.results56, go_sem, hbw]) rfl ⟨rfl, ((((HRR.out _).other HNE.out).other HNE.out).other HNE.out).other HNE.out, ((((HEE.out _).new (Nat.le_refl _)).new (Nat.le_refl _)).new (Nat.le_refl _)).new (Nat.le_refl _)⟩
  · clear HK
    have e1 : (t.toList == [35, 116]) = true := by rw [h4]; rfl
    clear h4
    go_wp2_with (go_at_call 68; refine (HN.out _ _).mono ?_; rintro e w' ⟨rfl, rfl⟩)
    exact bodyPost_ret (v := .agg #[.int .i64 2, .string t, .slice none 0 0, .slice none 0 0]) (by simp [results, Tryd.results56, go_sem, hbw]) rfl ⟨rfl, ((((HRR.out _).other HNE.out).other HNE.out).other HNE.out).other HNE.out, ((((HEE.out _).new (Nat.le_refl _)).new (Nat.le_refl _)).new (Nat.le_refl _)).new (Nat.le_refl _)⟩
  · clear HK
    have e1 : (t.toList == [35, 116]) = false := by rw [h4]; rfl
    have e2 : (t.toList == [35, 102]) = true := by rw [h4]; rfl
    clear h4
    go_wp2_with (go_at_call 68; refine (HN.out _ _).mono ?_; rintro e w' ⟨rfl, rfl⟩)
    exact bodyPost_ret (v := .agg #[.int .i64 2, .string t, .slice none 0 0, .slice none 0 0]) (by simp [results, Tryd.results56, go_sem, hbw]) rfl ⟨rfl, ((((HRR.out _).other HNE.out).other HNE.out).other HNE.out).other HNE.out, ((((HEE.out _).new (Nat.le_refl _)).new (Nat.le_refl _)).new (Nat.le_refl _)).new (Nat.le_refl _)⟩
  · clear HK
    go_wp2_with (first
      | (go_at_call 68; refine (HN.out _ _).mono ?_; rintro e w' ⟨rfl, rfl⟩)
      | (go_at_call 50; refine (HNM.out _).mono ?_; rintro e w' ⟨rfl, rfl⟩))
    exact bodyPost_ret (v := .agg #[.int .i64 4, .string t, .slice none 0 0, .slice none 0 0]) (by simp [results, Tryd.results56, go_sem, hbw]) rfl ⟨rfl, ((((HRR.out _).other HNE.out).other HNE.out).other HNE.out).other HNE.out, ((((HEE.out _).new (Nat.le_refl _)).new (Nat.le_refl _)).new (Nat.le_refl _)).new (Nat.le_refl _)⟩
end Go.Proofs.YtcpicndapmaiaaaDoor
