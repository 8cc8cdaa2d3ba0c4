/- A captured row of bytes: its box, and the closure that puts numbers behind it. -/
import Derived.Test.YtcpicndapmaiaaaDoorTx
import Derived.Test.YtcpicndapmaiaaaDoorPt
namespace Go.Proofs.YtcpicndapmaiaaaDoor
open Go Go.RowKit
/-- Nothing that was there has turned but block b. -/
abbrev Eb (b : Nat) (w w' : World) : Prop := w.grownBy w' (some b)
theorem Eb.refl (b : Nat) (w : World) : Eb b w w := ⟨rfl, rfl, rfl, Nat.le_refl _, fun _ _ _ => rfl⟩
theorem Eb.trans {b : Nat} {x y z : World} (h : Eb b x y) (k : Eb b y z) : Eb b x z :=
  ⟨k.os.trans h.os, k.tape.trans h.tape, k.output.trans h.output, Nat.le_trans h.size k.size, fun i hi hn => (k.block i (Nat.lt_of_lt_of_le hi h.size) hn).trans (h.block i hi hn)⟩
theorem Eb.of {b : Nat} {x y : World} (h : Below x.heap.size x y) : Eb b x y := ⟨h.os, h.tape, h.output, h.size, fun i hi _ => h.block i hi⟩
theorem Eb.set (b : Nat) (w : World) (v : Value) : Eb b w (w.setCell ⟨b, 0, none⟩ v) :=
  ⟨rfl, rfl, rfl, by simp, fun i _ hn => heap_setCell_other _ _ _ _ (by rintro rfl; exact hn rfl)⟩
theorem Eb.below {b B : Nat} {x y : World} (h : Eb b x y) (h1 : B ≤ x.heap.size) (h2 : B ≤ b) : Below B x y :=
  ⟨h.os, h.tape, h.output, h.size, fun i hi => h.block i (by omega) (by intro e; injection e with e; omega)⟩
theorem Eb.cell {b : Nat} {x y : World} (h : Eb b x y) {a : Addr} {v : Value} (hn : a.block ≠ b) (hc : x.cell? a = some v) : y.cell? a = some v := by
  have := h.block a.block (World.block_lt_of_cell? x a hc) (by intro e; injection e with e; exact hn e)
  unfold World.cell? at hc ⊢; rw [this]; exact hc
theorem Own.form3 {base : Nat} {w : World} {v : Value} {l : List UInt8} (h : Own base w v l) : ∃ A n c, v = .slice A n c := by
  obtain ⟨A, c, e⟩ := h.form; exact ⟨A, _, c, e⟩
/-- The captured row: box b, at or above B, holds a row of bytes of the call's own. -/
def Bx (B b : Nat) (l : List UInt8) (w : World) : Prop := ∃ v, w.heap[b]? = some (.cells #[v] 27 (0, 0)) ∧ Own B w v l ∧ v.ownBlock ≠ some b ∧ B ≤ b
theorem Bx.lt {B b : Nat} {l : List UInt8} {w : World} (h : Bx B b l w) : b < w.heap.size := by obtain ⟨v, h1, _⟩ := h; exact (Array.getElem?_eq_some_iff.1 h1).1
/-- A new row is laid into the box. -/
theorem Bx.store {B b : Nat} {l m : List UInt8} {w w' : World} {v' : Value} (h : Bx B b l w) (hb : Below w.heap.size w w') (ho : Own w.heap.size w' v' m) (hB : B ≤ w.heap.size) : Bx B b m (w'.setCell ⟨b, 0, none⟩ v') := by
  have hlt := h.lt
  obtain ⟨v, h1, h2, h3, h4⟩ := h
  have hne : v'.ownBlock ≠ some b := by intro e; have := (ho.lt b e).1; omega
  exact ⟨v', heap_setCell_same w' b 0 #[v] 27 v' ((hb.block b hlt).trans h1), World.ownsRow.kept (row := some b) (ho.base_le hB) (Eb.set b w' v') (.inr hne), hne, h4⟩
theorem Bx.below {B b : Nat} {l : List UInt8} {w w' : World} (h : Bx B b l w) (hb : Below w.heap.size w w') : Bx B b l w' := by
  have hlt := h.lt
  obtain ⟨v, h1, h2, h3, h4⟩ := h
  exact ⟨v, (hb.block b hlt).trans h1, h2.below hb, h3, h4⟩
/-- A slice's places read as numbers. -/
def IsN (w : World) (A : Option Addr) (l : List Nat) : Prop := ∀ (i : Nat) (hi : i < l.length), ∃ ad, A = some ad ∧ w.cell? (ad.add i) = some (.int .i64 l[i])
theorem put_flat_snoc (l : List Nat) (k : Nat) (hk : k < l.length) : (l.take (k + 1)).flatMap putB = (l.take k).flatMap putB ++ putB l[k] := by
  rw [List.take_succ_eq_append_getElem hk, List.flatMap_append]; simp
theorem put_flat_len : ∀ (l : List Nat), (∀ n, n ∈ l → n ≤ 4611686018427387904) → (l.flatMap putB).length ≤ 9 * l.length
  | [], _ => by simp
  | n :: l, h => by
    have h1 := putB_len9 n (h n (by simp))
    have h2 := put_flat_len l (fun m hm => h m (by simp [hm]))
    simp only [List.flatMap_cons, List.length_append, List.length_cons]; omega
set_option maxRecDepth 100000 in
theorem puts_any (A : Option Addr) (ns : List Nat) (c B b : Nat) (l : List UInt8) (w : World) (hn : IsN w A ns) (hA : ∀ ad, A = some ad → ad.block ≠ b) (hx : Bx B b l w) (hB : B ≤ w.heap.size)
    (hs : ∀ n, n ∈ ns → n ≤ 4611686018427387904) (hlen : ns.length ≤ 1000) (hl : l.length ≤ 90000000) :
    Calls Tryd.prog 17 #[.slice A ns.length c, .pointer (some ⟨b, 0, none⟩)] w fun e w' => e = .returned (.tuple #[]) ∧ Bx B b (l ++ ns.flatMap putB) w' ∧ Eb b w w' := by
  have HN := Lib.hid hn
  have HX := Lib.hid hx
  have HS := Lib.hid hs
  have HAB := Lib.hid hA
  have HPL := Lib.hid (put_flat_len ns hs)
  clear hn hx hs hA
  go_enter Tryd.func17, Tryd.ntmps17
  go_wp2
  go_loopw [4, 7] (fun _ i wr => ∃ k : Nat, k ≤ ns.length ∧ i = .int .i64 k ∧ Hid (Bx B b (l ++ (ns.take k).flatMap putB) wr) ∧ Hid (Eb b w wr)) (fun _ i _ => ns.length - (intOf i).toNat)
  case atStart => exact ⟨0, Nat.zero_le _, rfl, by simpa [Hid] using HX.out, Eb.refl _ _⟩
  case round =>
    clear HX
    obtain ⟨k, hk, rfl, HX, HE⟩ := hrel
    have HSr := Lib.hid (Nat.le_trans hB HE.out.size)
    by_cases hlt : k < ns.length
    · obtain ⟨ad, rfl, hc⟩ := HN.out k hlt
      replace hc := HE.out.cell (by have := HAB.out ad rfl; unfold Addr.add; split <;> exact this) hc
      have HL := Lib.hid (show (l ++ (ns.take k).flatMap putB).length ≤ 100000000 from by
        have := put_flat_len (ns.take k) (fun n hn => HS.out n (List.mem_of_mem_take hn))
        have h2 : (ns.take k).length ≤ ns.length := List.length_take_le' _ _
        rw [List.length_append]; omega)
      have HSN := Lib.hid (show l ++ (ns.take (k + 1)).flatMap putB = (l ++ (ns.take k).flatMap putB) ++ putB ns[k] from by rw [put_flat_snoc ns k hlt, List.append_assoc])
      obtain ⟨q, hq⟩ : ∃ q, l ++ (ns.take k).flatMap putB = q := ⟨_, rfl⟩
      rw [hq] at HX HL HSN
      clear hq
      have hv : ∃ v, wr.heap[b]? = some (.cells #[v] 27 (0, 0)) ∧ Own B wr v q := by obtain ⟨v, h1, h2, _⟩ := HX.out; exact ⟨v, h1, h2⟩
      obtain ⟨v, hv1, hv2⟩ := hv
      obtain ⟨A', c', rfl⟩ := hv2.form
      have hcb : wr.cell? ⟨b, 0, none⟩ = some (.slice A' q.length c') := cell_of_row wr _ 0 _ _ _ hv1
      have hfb : wr.frozen? ⟨b, 0, none⟩ = false := frozen_of_row wr _ 0 _ _ hv1
      have hbl : b < wr.heap.size := HX.out.lt
      have HC := Lib.hid (put_any _ _ ns[k] wr hv2.rd HL.out (HS.out _ (List.getElem_mem hlt)))
      clear hv1 hv2
      go_wp2_with (go_at_call 18; refine HC.out.mono ?_; rintro e w' ⟨v', rfl, hown, hb⟩; obtain ⟨A2, n2, c2, rfl⟩ := hown.form3; have HO := Lib.hid hown; have HB := Lib.hid hb; obtain ⟨hc2, hf2⟩ := bcell hb; clear hown hb)
      go_roundw
      case rel => exact ⟨k + 1, by omega, by go_num, Lib.hid (by rw [HSN.out]; exact Bx.store HX.out HB.out HO.out HSr.out), HE.out.trans ((Eb.of HB.out).trans (Eb.set b _ _))⟩
      case measure => simp [intOf]; omega
    · have HD := Lib.hid (show Bx B b (l ++ ns.flatMap putB) wr from by have := HX.out; rwa [List.take_of_length_le (by omega)] at this)
      clear HX
      go_wp2
      go_end0
      exact ⟨rfl, HD.out, HE.out⟩
end Go.Proofs.YtcpicndapmaiaaaDoor
