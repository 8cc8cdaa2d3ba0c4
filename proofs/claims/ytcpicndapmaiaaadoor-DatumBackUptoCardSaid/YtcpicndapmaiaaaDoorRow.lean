/- A row of data of the call's own, and an append onto it. -/
import Derived.Test.YtcpicndapmaiaaaDoorChecked
import Derived.Test.YtcpicndapmaiaaaDoorDp
import Derived.WalkKit
import Derived.Deep.AppendLies
import Derived.Laws.OwnMore
namespace Go.Proofs.YtcpicndapmaiaaaDoor
open Go Go.RowKit
theorem IsDp.form {P : Nat → Prop} {w : World} {d : D} {c0 c1 c2 c3 : Value} (h : IsDp P w d c0 c1 c2 c3) :
    ∃ A2 n2 A3 n3, c0 = .int .i64 d.kind ∧ c1 = .string d.text ∧ c2 = .slice A2 d.list.length n2 ∧ c3 = .slice A3 d.tail.length n3 :=
  let ⟨A2, n2, A3, n3, h1, h2, h3, h4, _⟩ := h.isD.form
  ⟨A2, n2, A3, n3, h1, h2, h3, h4⟩
/-- A slice value v owns its places, from block B on, which read as the data l, which lie in other blocks. -/
def Row (B : Nat) (w : World) (v : Value) (l : List D) : Prop :=
  ∃ xs : List (Value × Value × Value × Value), xs.length = l.length ∧ w.ownsRow B 37 4 v l.length (cells4 xs) ∧
    ∀ (i : Nat) (hi : i < l.length) (hx : i < xs.length), IsDp (fun k => B ≤ k ∧ v.ownBlock ≠ some k) w l[i] xs[i].1 xs[i].2.1 xs[i].2.2.1 xs[i].2.2.2
theorem Row.nil (B : Nat) (w : World) : Row B w (.slice none 0 0) [] := ⟨[], rfl, World.ownsRow_nil w B 37 4, fun i hi => by simp at hi⟩
theorem Row.lt {B : Nat} {w : World} {v : Value} {l : List D} (h : Row B w v l) : ∀ k, v.ownBlock = some k → B ≤ k ∧ k < w.heap.size := by
  obtain ⟨xs, _, h2, _⟩ := h; exact World.ownsRow.lt h2
theorem Row.form {B : Nat} {w : World} {v : Value} {l : List D} (h : Row B w v l) : ∃ A c, v = .slice A l.length c ∧ l.length ≤ c := by
  obtain ⟨xs, h1, h2, _⟩ := h
  rcases h2.2 with ⟨e, h0⟩ | ⟨g, cap, cur, e, _, _, hn, _⟩
  · rw [h0]; exact ⟨none, 0, e, by omega⟩
  · exact ⟨_, cap, e, hn⟩
/-- What turns blocks below B alone leaves the row. -/
theorem Row.frame {B b : Nat} {w w' : World} {v : Value} {l : List D} (h : Row B w v l) (hg : w.grownBy w' (some b)) (hb : b < B) : Row B w' v l := by
  have hlt := h.lt
  obtain ⟨xs, h1, h2, h3⟩ := h
  refine ⟨xs, h1, World.ownsRow.kept h2 hg ?_, fun i hi hx => (h3 i hi hx).frame fun k hk hks => ⟨hk, hg.block k hks (by intro e; injection e with e; omega)⟩⟩
  cases hv : v.ownBlock with
  | none => exact .inl rfl
  | some k => right; intro e; injection e with e; have := (hlt k hv).1; omega
theorem Row.frame0 {B : Nat} {w w' : World} {v : Value} {l : List D} (h : Row B w v l) (hg : w.grownBy w' none) : Row B w' v l := by
  obtain ⟨xs, h1, h2, h3⟩ := h
  refine ⟨xs, h1, World.ownsRow.kept h2 hg (by cases v.ownBlock <;> simp), fun i hi hx => (h3 i hi hx).frame fun k hk hks => ⟨hk, hg.block k hks (by simp)⟩⟩
/-- The row reads as its data. -/
theorem Row.isLp {B : Nat} {w : World} {l : List D} {A : Option Addr} {n c : Nat} (h : Row B w (.slice A n c) l) : IsLp (fun k => B ≤ k) w l A 0 := by
  obtain ⟨xs, h1, h2, h3⟩ := h
  refine IsLp.of_get fun i hi => ?_
  rw [Nat.zero_add]
  have hx : i < xs.length := by omega
  rcases h2.2 with ⟨e, h0⟩ | ⟨g, cap, cur, e, hb, hg, hn, hm, hs, ht⟩
  · omega
  · injection e with e1 e2 e3
    subst e1
    have hc : ∀ j, j < l.length * 4 → w.cell? ⟨g, j, none⟩ = (cells4 xs)[j]? := fun j hj => World.ownsRow.cellAt (cap := cap) (by rw [e2, e3] at h2; exact h2) j hj
    obtain ⟨k0, k1, k2, k3⟩ := cells4_get xs i hx
    have ea : ((⟨g, 0, none⟩ : Addr).add (i * 4)).block = g := add_block _ _
    have eo : ((⟨g, 0, none⟩ : Addr).add (i * 4)).off = i * 4 := by unfold Addr.add; split <;> simp_all
    have es : ((⟨g, 0, none⟩ : Addr).add (i * 4)) = ⟨g, i * 4, none⟩ := by unfold Addr.add; split <;> simp_all
    refine ⟨⟨g, 0, none⟩, xs[i].1, xs[i].2.1, xs[i].2.2.1, xs[i].2.2.2, rfl, hb, ?_, ?_, ?_, ?_, (h3 i hi hx).frame fun k hk hks => ⟨hk.1, rfl⟩⟩
    · rw [es, hc _ (by omega), k0]
    · rw [ea, eo, hc _ (by omega), k1]
    · rw [ea, eo, hc _ (by omega), k2]
    · rw [ea, eo, hc _ (by omega), k3]
theorem info37 : ∃ i z, Tryd.prog.info? 37 = some i ∧ i.zero = some z ∧ z.cells.size = 4 ∧ i.size = 4 ∧ i.bytes = 72 := by
  have h : (Tryd.prog.info? 37).map (fun i => (i.zero.map (fun z => z.cells.size), i.size, i.bytes)) = some (some 4, 4, 72) := by kernel_rfl
  cases e : Tryd.prog.info? 37 with
  | none => rw [e] at h; cases h
  | some i =>
    rw [e] at h
    injection h with h
    injection h with h1 h2
    injection h2 with h2 h3
    cases ez : i.zero with
    | none => rw [ez] at h1; cases h1
    | some z => rw [ez] at h1; injection h1 with h1; exact ⟨i, z, rfl, ez, h1, h2, h3⟩
section
variable {ops : Array Oper} {rest : List Oper} {o : Oper} {a : Act} {Q : Exit → Act → World → Prop} {w : World}
set_option maxRecDepth 100000 in
theorem app4 (hgd : o.guard = none) (s x : Operand) (ho : o.op = .call { callee := .builtin .append, args := #[s, x], argTypes := #[23, 23] })
    (B g0 : Nat) (v : Value) (l : List D) (d : D) (c0 c1 c2 c3 : Value) (hs : a.eval s = v) (hx : a.eval x = .slice (some ⟨g0, 0, none⟩) 1 1) (hr : Row B w v l)
    (hg0 : w.heap[g0]? = some (.cells #[c0, c1, c2, c3] 37 (0, 0))) (hd : IsDp (fun k => B ≤ k ∧ v.ownBlock ≠ some k) w d c0 c1 c2 c3) (hlen : l.length ≤ 1000000000) (hbase : B ≤ w.heap.size)
    (h : ∀ v' w', Row B w' v' (l ++ [d]) → w.grownBy w' v.ownBlock → wpList Tryd.prog ops Q rest (a.put o.dst v') w') : wpList Tryd.prog ops Q (o :: rest) a w := by
  obtain ⟨i, z, hi, hz, hzs, hsz, hby⟩ := info37
  obtain ⟨xs, h1, h2, h3⟩ := hr
  refine wpList_append_lies w hgd s x 23 ho B 37 i z 4 72 Tryd.underlying23 hi hz hsz hby hzs (by omega) v l.length (cells4 xs) hs h2 ⟨g0, 0, none⟩ 1 1 [c0, c1, c2, c3] hx rfl ?_ ?_ (by omega) (by unfold maxLen; omega) (by omega) hbase _ rfl ?_
  · intro j u hj
    have hjl : j < 4 := (List.getElem?_eq_some_iff.1 hj).1
    have : ((⟨g0, 0, none⟩ : Addr).add j) = ⟨g0, j, none⟩ := by unfold Addr.add; split <;> simp_all
    rw [this, cell_of_row w g0 j _ 37 (0, 0) hg0]
    simpa using hj
  · obtain ⟨A2, n2, A3, n3, e0, e1, e2, e3⟩ := hd.form
    intro u hu
    simp only [List.mem_cons, List.not_mem_nil, or_false] at hu
    rcases hu with rfl | rfl | rfl | rfl
    · rw [e0]; rfl
    · rw [e1]; rfl
    · rw [e2]; rfl
    · rw [e3]; rfl
  · intro g cap w' k1 k2 k3 k4
    have hfr : ∀ k, (B ≤ k ∧ v.ownBlock ≠ some k) → k < w.heap.size → (B ≤ k ∧ (Value.slice (some ⟨g, 0, none⟩) (l.length + 1) cap).ownBlock ≠ some k) ∧ w'.heap[k]? = w.heap[k]? := by
      intro k hk hks
      refine ⟨⟨hk.1, ?_⟩, k2.block k hks (fun e => hk.2 e.symm)⟩
      intro e
      have e : g = k := by simpa [Value.ownBlock] using e
      rcases k3 with k3 | k3
      · exact hk.2 (by rw [k3, e])
      · omega
    refine h _ w' ⟨xs ++ [(c0, c1, c2, c3)], by simp [h1], ?_, ?_⟩ k2
    · rw [cells4_app, List.length_append]; exact k1
    · intro i hi hx'
      by_cases hil : i < l.length
      · have hix : i < xs.length := by omega
        simp only [List.getElem_append_left hil, List.getElem_append_left hix]
        exact (h3 i hil hix).frame hfr
      · have e : i = l.length := by simp at hi; omega
        subst e
        simp only [List.getElem_append_right (Nat.le_refl l.length), Nat.sub_self, List.getElem_cons_zero]
        have e2 : (xs ++ [(c0, c1, c2, c3)])[l.length] = (c0, c1, c2, c3) := by
          rw [List.getElem_append_right (by omega)]; simp [h1]
        rw [e2]
        exact hd.frame hfr
end
end Go.Proofs.YtcpicndapmaiaaaDoor
