/- A datum in memory whose cells lie in blocks of a kind: what leaves these alone leaves it. -/
import Derived.Test.YtcpicndapmaiaaaDoorData
namespace Go.Proofs.YtcpicndapmaiaaaDoor
open Go Go.RowKit
theorem add_block (a : Addr) (i : Nat) : (a.add i).block = a.block := by unfold Addr.add; split <;> rfl
mutual
/-- Four cells read as a datum, and all that it leads to lies in blocks of P. -/
def IsDp (P : Nat → Prop) (w : World) : D → Value → Value → Value → Value → Prop
  | .mk k s l t, c0, c1, c2, c3 => c0 = .int .i64 k ∧ c1 = .string s ∧ (∃ A c, c2 = .slice A l.length c ∧ l.length ≤ c ∧ IsLp P w l A 0) ∧ (∃ A c, c3 = .slice A t.length c ∧ t.length ≤ c ∧ IsLp P w t A 0)
def IsLp (P : Nat → Prop) (w : World) : List D → Option Addr → Nat → Prop
  | [], _, _ => True
  | d :: ds, A, j => (∃ ad c0 c1 c2 c3, A = some ad ∧ P ad.block ∧ w.cell? (ad.add (j * 4)) = some c0 ∧ w.cell? ⟨(ad.add (j * 4)).block, (ad.add (j * 4)).off + 1, none⟩ = some c1 ∧ w.cell? ⟨(ad.add (j * 4)).block, (ad.add (j * 4)).off + 2, none⟩ = some c2 ∧ w.cell? ⟨(ad.add (j * 4)).block, (ad.add (j * 4)).off + 3, none⟩ = some c3 ∧ IsDp P w d c0 c1 c2 c3) ∧ IsLp P w ds A (j + 1)
end
mutual
theorem IsDp.isD {P : Nat → Prop} {w : World} : ∀ {d : D} {c0 c1 c2 c3 : Value}, IsDp P w d c0 c1 c2 c3 → IsD w d c0 c1 c2 c3
  | .mk k s l t, c0, c1, c2, c3, h => by
    unfold IsDp at h; unfold IsD
    obtain ⟨e0, e1, ⟨A, c, e2, h2, h3⟩, ⟨B, c', e3, h4, h5⟩⟩ := h
    exact ⟨e0, e1, ⟨A, c, e2, h2, IsLp.isL h3⟩, ⟨B, c', e3, h4, IsLp.isL h5⟩⟩
theorem IsLp.isL {P : Nat → Prop} {w : World} : ∀ {l : List D} {A : Option Addr} {j : Nat}, IsLp P w l A j → IsL w l A j
  | [], _, _, _ => by unfold IsL; trivial
  | d :: ds, A, j, h => by
    unfold IsLp at h; unfold IsL
    obtain ⟨⟨ad, c0, c1, c2, c3, e, _, g0, g1, g2, g3, hd⟩, hr⟩ := h
    exact ⟨⟨ad, c0, c1, c2, c3, e, g0, g1, g2, g3, IsDp.isD hd⟩, IsLp.isL hr⟩
end
theorem cell_same {w w1 : World} {a : Addr} {v : Value} (h : a.block < w.heap.size → w1.heap[a.block]? = w.heap[a.block]?) (hc : w.cell? a = some v) : w1.cell? a = some v := by
  have := h (World.block_lt_of_cell? w a hc)
  unfold World.cell? at hc ⊢; rw [this]; exact hc
mutual
/-- What leaves the blocks of P alone leaves the datum; and its blocks are there. -/
theorem IsDp.frame {P Q : Nat → Prop} {w w1 : World} (h : ∀ k, P k → k < w.heap.size → Q k ∧ w1.heap[k]? = w.heap[k]?) : ∀ {d : D} {c0 c1 c2 c3 : Value}, IsDp P w d c0 c1 c2 c3 → IsDp Q w1 d c0 c1 c2 c3
  | .mk k s l t, c0, c1, c2, c3, h' => by
    unfold IsDp at h' ⊢
    obtain ⟨e0, e1, ⟨A, c, e2, h2, h3⟩, ⟨B, c', e3, h4, h5⟩⟩ := h'
    exact ⟨e0, e1, ⟨A, c, e2, h2, IsLp.frame h h3⟩, ⟨B, c', e3, h4, IsLp.frame h h5⟩⟩
theorem IsLp.frame {P Q : Nat → Prop} {w w1 : World} (h : ∀ k, P k → k < w.heap.size → Q k ∧ w1.heap[k]? = w.heap[k]?) : ∀ {l : List D} {A : Option Addr} {j : Nat}, IsLp P w l A j → IsLp Q w1 l A j
  | [], _, _, _ => by unfold IsLp; trivial
  | d :: ds, A, j, h' => by
    unfold IsLp at h' ⊢
    obtain ⟨⟨ad, c0, c1, c2, c3, e, hp, g0, g1, g2, g3, hd⟩, hr⟩ := h'
    have hlt := World.block_lt_of_cell? w _ g0
    rw [add_block] at hlt
    have hq := h _ hp hlt
    have hs : ∀ a : Addr, a.block = ad.block → ∀ v, w.cell? a = some v → w1.cell? a = some v := fun a ha v hc => cell_same (fun _ => by rw [ha]; exact hq.2) hc
    exact ⟨⟨ad, c0, c1, c2, c3, e, hq.1, hs _ (by exact add_block _ _) _ g0, hs _ (by exact add_block _ _) _ g1, hs _ (by exact add_block _ _) _ g2, hs _ (by exact add_block _ _) _ g3, IsDp.frame h hd⟩, IsLp.frame h hr⟩
end
theorem IsLp.of_get {P : Nat → Prop} {w : World} : ∀ {l : List D} {A : Option Addr} {j : Nat}, (∀ (i : Nat) (hi : i < l.length), ∃ ad c0 c1 c2 c3, A = some ad ∧ P ad.block ∧ w.cell? (ad.add ((j + i) * 4)) = some c0 ∧ w.cell? ⟨(ad.add ((j + i) * 4)).block, (ad.add ((j + i) * 4)).off + 1, none⟩ = some c1 ∧ w.cell? ⟨(ad.add ((j + i) * 4)).block, (ad.add ((j + i) * 4)).off + 2, none⟩ = some c2 ∧ w.cell? ⟨(ad.add ((j + i) * 4)).block, (ad.add ((j + i) * 4)).off + 3, none⟩ = some c3 ∧ IsDp P w l[i] c0 c1 c2 c3) → IsLp P w l A j
  | [], _, _, _ => by unfold IsLp; trivial
  | d :: ds, A, j, h => by
    unfold IsLp
    refine ⟨h 0 (by simp), IsLp.of_get fun i hi => ?_⟩
    have := h (i + 1) (by simpa using hi)
    rw [show j + (i + 1) = j + 1 + i from by omega] at this
    exact this
/-- A leaf leads nowhere. -/
theorem IsDp.leaf {P : Nat → Prop} {w : World} (k : Int) (s : ByteArray) : IsDp P w (.mk k s [] []) (.int .i64 k) (.string s) (.slice none 0 0) (.slice none 0 0) := by
  unfold IsDp
  exact ⟨rfl, rfl, ⟨none, 0, rfl, Nat.le_refl _, by unfold IsLp; trivial⟩, ⟨none, 0, rfl, Nat.le_refl _, by unfold IsLp; trivial⟩⟩
/-- The four cells of each of a row of data, one behind the other. -/
def cells4 : List (Value × Value × Value × Value) → List Value
  | [] => []
  | x :: xs => [x.1, x.2.1, x.2.2.1, x.2.2.2] ++ cells4 xs
theorem cells4_len : ∀ xs, (cells4 xs).length = xs.length * 4
  | [] => rfl
  | x :: xs => by unfold cells4; rw [List.length_append, cells4_len xs]; simp; omega
theorem cells4_app : ∀ xs ys, cells4 (xs ++ ys) = cells4 xs ++ cells4 ys
  | [], ys => rfl
  | x :: xs, ys => by rw [List.cons_append, cells4, cells4, cells4_app xs ys, List.append_assoc]
theorem cells4_get : ∀ (xs : List (Value × Value × Value × Value)) (i : Nat) (hi : i < xs.length), (cells4 xs)[i * 4]? = some xs[i].1 ∧ (cells4 xs)[i * 4 + 1]? = some xs[i].2.1 ∧ (cells4 xs)[i * 4 + 2]? = some xs[i].2.2.1 ∧ (cells4 xs)[i * 4 + 3]? = some xs[i].2.2.2
  | [], i, hi => absurd hi (Nat.not_lt_zero i)
  | x :: xs, 0, _ => by simp [cells4]
  | x :: xs, i + 1, hi => by
    have ih := cells4_get xs i (by simpa using hi)
    have e : ∀ j, (cells4 (x :: xs))[(i + 1) * 4 + j]? = (cells4 xs)[i * 4 + j]? := fun j => by
      rw [cells4, show (i + 1) * 4 + j = (i * 4 + j) + 4 from by omega, List.getElem?_append_right (by simp)]; simp
    exact ⟨(e 0).trans ih.1, (e 1).trans ih.2.1, (e 2).trans ih.2.2.1, (e 3).trans ih.2.2.2⟩
end Go.Proofs.YtcpicndapmaiaaaDoor
