/- A datum in memory: the tree that four cells read as, and that it stays where only new memory is made. -/
import Derived.Below
import Derived.Lib.Hide
namespace Go.Proofs.YtcpicndapmaiaaaDoor
open Go Go.RowKit

inductive D where
  | mk (kind : Int) (text : ByteArray) (list tail : List D)

namespace D
def kind : D → Int | mk k _ _ _ => k
def text : D → ByteArray | mk _ s _ _ => s
def list : D → List D | mk _ _ l _ => l
def tail : D → List D | mk _ _ _ t => t
instance : Inhabited D := ⟨mk 0 ByteArray.empty [] []⟩
end D

/-- The address of field i of the cells at q. -/
def fld (q : Addr) (i : Nat) : Addr := ⟨q.block, q.off + i, none⟩

mutual
/-- Four cells read as a datum. -/
def IsD (w : World) : D → Value → Value → Value → Value → Prop
  | .mk k s l t, c0, c1, c2, c3 => c0 = .int .i64 k ∧ c1 = .string s ∧ (∃ A c, c2 = .slice A l.length c ∧ l.length ≤ c ∧ IsL w l A 0) ∧ (∃ A c, c3 = .slice A t.length c ∧ t.length ≤ c ∧ IsL w t A 0)
/-- The places of a slice from j on read as these data. -/
def IsL (w : World) : List D → Option Addr → Nat → Prop
  | [], _, _ => True
  | d :: ds, A, j => (∃ ad c0 c1 c2 c3, A = some ad ∧ w.cell? (ad.add (j * 4)) = some c0 ∧ w.cell? ⟨(ad.add (j * 4)).block, (ad.add (j * 4)).off + 1, none⟩ = some c1 ∧ w.cell? ⟨(ad.add (j * 4)).block, (ad.add (j * 4)).off + 2, none⟩ = some c2 ∧ w.cell? ⟨(ad.add (j * 4)).block, (ad.add (j * 4)).off + 3, none⟩ = some c3 ∧ IsD w d c0 c1 c2 c3) ∧ IsL w ds A (j + 1)
end

theorem cell_below {w w1 : World} (h : Below w.heap.size w w1) {a : Addr} {v : Value} (hc : w.cell? a = some v) : w1.cell? a = some v :=
  (h.cell (World.block_lt_of_cell? w a hc)).trans hc

mutual
theorem IsD.below {w w1 : World} (hb : Below w.heap.size w w1) : ∀ {d : D} {c0 c1 c2 c3 : Value}, IsD w d c0 c1 c2 c3 → IsD w1 d c0 c1 c2 c3
  | .mk k s l t, c0, c1, c2, c3, h => by
    unfold IsD at h ⊢
    obtain ⟨e0, e1, ⟨A, c, e2, h2, h3⟩, ⟨B, c', e3, h4, h5⟩⟩ := h
    exact ⟨e0, e1, ⟨A, c, e2, h2, IsL.below hb h3⟩, ⟨B, c', e3, h4, IsL.below hb h5⟩⟩
theorem IsL.below {w w1 : World} (hb : Below w.heap.size w w1) : ∀ {l : List D} {A : Option Addr} {j : Nat}, IsL w l A j → IsL w1 l A j
  | [], _, _, _ => by unfold IsL; trivial
  | d :: ds, A, j, h => by
    unfold IsL at h ⊢
    obtain ⟨⟨ad, c0, c1, c2, c3, e, g0, g1, g2, g3, hd⟩, hr⟩ := h
    exact ⟨⟨ad, c0, c1, c2, c3, e, cell_below hb g0, cell_below hb g1, cell_below hb g2, cell_below hb g3, IsD.below hb hd⟩, IsL.below hb hr⟩
end

theorem IsL.get {w : World} : ∀ {l : List D} {A : Option Addr} {j : Nat}, IsL w l A j → ∀ (i : Nat) (hi : i < l.length), ∃ ad c0 c1 c2 c3, A = some ad ∧ w.cell? (ad.add ((j + i) * 4)) = some c0 ∧ w.cell? ⟨(ad.add ((j + i) * 4)).block, (ad.add ((j + i) * 4)).off + 1, none⟩ = some c1 ∧ w.cell? ⟨(ad.add ((j + i) * 4)).block, (ad.add ((j + i) * 4)).off + 2, none⟩ = some c2 ∧ w.cell? ⟨(ad.add ((j + i) * 4)).block, (ad.add ((j + i) * 4)).off + 3, none⟩ = some c3 ∧ IsD w l[i] c0 c1 c2 c3
  | [], _, _, _, i, hi => absurd hi (Nat.not_lt_zero i)
  | d :: ds, A, j, h, 0, _ => by unfold IsL at h; exact h.1
  | d :: ds, A, j, h, i + 1, hi => by
    unfold IsL at h
    have := IsL.get h.2 i (by simpa using hi)
    rw [show j + 1 + i = j + (i + 1) from by omega] at this
    exact this

theorem IsL.get0 {w : World} {l : List D} {A : Option Addr} (h : IsL w l A 0) (i : Nat) (hi : i < l.length) : ∃ ad c0 c1 c2 c3, A = some ad ∧ w.cell? (ad.add (i * 4)) = some c0 ∧ w.cell? ⟨(ad.add (i * 4)).block, (ad.add (i * 4)).off + 1, none⟩ = some c1 ∧ w.cell? ⟨(ad.add (i * 4)).block, (ad.add (i * 4)).off + 2, none⟩ = some c2 ∧ w.cell? ⟨(ad.add (i * 4)).block, (ad.add (i * 4)).off + 3, none⟩ = some c3 ∧ IsD w l[i] c0 c1 c2 c3 := by
  have := h.get i hi; rwa [Nat.zero_add] at this

theorem IsL.of_get {w : World} : ∀ {l : List D} {A : Option Addr} {j : Nat}, (∀ (i : Nat) (hi : i < l.length), ∃ ad c0 c1 c2 c3, A = some ad ∧ w.cell? (ad.add ((j + i) * 4)) = some c0 ∧ w.cell? ⟨(ad.add ((j + i) * 4)).block, (ad.add ((j + i) * 4)).off + 1, none⟩ = some c1 ∧ w.cell? ⟨(ad.add ((j + i) * 4)).block, (ad.add ((j + i) * 4)).off + 2, none⟩ = some c2 ∧ w.cell? ⟨(ad.add ((j + i) * 4)).block, (ad.add ((j + i) * 4)).off + 3, none⟩ = some c3 ∧ IsD w l[i] c0 c1 c2 c3) → IsL w l A j
  | [], _, _, _ => by unfold IsL; trivial
  | d :: ds, A, j, h => by
    unfold IsL
    refine ⟨h 0 (by simp), IsL.of_get fun i hi => ?_⟩
    have := h (i + 1) (by simpa using hi)
    rw [show j + (i + 1) = j + 1 + i from by omega] at this
    exact this

/-- The form of a datum's cells. -/
theorem IsD.form {w : World} {d : D} {c0 c1 c2 c3 : Value} (h : IsD w d c0 c1 c2 c3) :
    ∃ A2 n2 A3 n3, c0 = .int .i64 d.kind ∧ c1 = .string d.text ∧ c2 = .slice A2 d.list.length n2 ∧ c3 = .slice A3 d.tail.length n3 ∧ d.list.length ≤ n2 ∧ d.tail.length ≤ n3 ∧ IsL w d.list A2 0 ∧ IsL w d.tail A3 0 := by
  cases d with
  | mk k s l t =>
    unfold IsD at h
    obtain ⟨e0, e1, ⟨A, c, e2, h2, h3⟩, ⟨B, c', e3, h4, h5⟩⟩ := h
    exact ⟨A, c, B, c', e0, e1, e2, e3, h2, h4, h3, h5⟩

theorem IsD.mk_ {w : World} {d : D} {A2 A3 : Option Addr} {n2 n3 : Nat} (h2 : d.list.length ≤ n2) (h3 : d.tail.length ≤ n3) (l2 : IsL w d.list A2 0) (l3 : IsL w d.tail A3 0) :
    IsD w d (.int .i64 d.kind) (.string d.text) (.slice A2 d.list.length n2) (.slice A3 d.tail.length n3) := by
  cases d with
  | mk k s l t => unfold IsD; exact ⟨rfl, rfl, ⟨A2, n2, rfl, h2, l2⟩, ⟨A3, n3, rfl, h3, l3⟩⟩

/-- The value of a datum. -/
def IsV (w : World) (d : D) (v : Value) : Prop := ∃ c0 c1 c2 c3, v = .agg #[c0, c1, c2, c3] ∧ IsD w d c0 c1 c2 c3
theorem IsV.below {w w1 : World} (hb : Below w.heap.size w w1) {d : D} {v : Value} (h : IsV w d v) : IsV w1 d v := by
  obtain ⟨c0, c1, c2, c3, e, h⟩ := h
  exact ⟨c0, c1, c2, c3, e, IsD.below hb h⟩
end Go.Proofs.YtcpicndapmaiaaaDoor
