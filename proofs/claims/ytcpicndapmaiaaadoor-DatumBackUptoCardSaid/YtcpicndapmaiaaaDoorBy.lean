/- Rows of bytes: what is read, what is the call's own, and appends onto it; slices.Clone at bytes. -/
import Derived.Test.YtcpicndapmaiaaaDoorRCan
import Derived.Deep.AppendLies
import Derived.Lib.AppendStr
import Derived.Laws.AppendOwnNone
import Derived.Laws.OwnMore
import Derived.Laws.Slices
import Derived.WideLaws
import Derived.WalkSpells
namespace Go.Proofs.YtcpicndapmaiaaaDoor
open Go Go.RowKit
/-- A length that fits. -/
def Lim (n : Nat) : Prop := n ≤ 1099511627776
theorem Lim.mk_ {n : Nat} (h : n ≤ 1000000000) : Lim n := by unfold Lim; omega
theorem Lim.le {n : Nat} (h : Lim n) : n ≤ 1099511627776 := h
def bc (l : List UInt8) : List Value := l.map fun b => Value.int .u8 (b.toNat : Int)
theorem bc_len (l : List UInt8) : (bc l).length = l.length := by simp [bc]
theorem bc_app (l m : List UInt8) : bc (l ++ m) = bc l ++ bc m := by simp [bc]
theorem bc_str (s : ByteArray) : Lib.strCells s = bc s.toList := by rw [ByteArray.toList_eq]; rfl
/-- A row of bytes of the call's own. -/
def Own (base : Nat) (w : World) (v : Value) (l : List UInt8) : Prop := w.ownsRow base 5 1 v l.length (bc l)
/-- A slice that reads as these bytes. -/
def Rd (w : World) (v : Value) (l : List UInt8) : Prop := ∃ A c, v = .slice A l.length c ∧ l.length ≤ c ∧ (A = none → c = 0) ∧ ∀ (i : Nat) (hi : i < l.length), ∃ ad, A = some ad ∧ w.cell? (ad.add i) = some (.int .u8 (l[i].toNat : Int))
theorem Rd.below {w w1 : World} (hb : Below w.heap.size w w1) {v : Value} {l : List UInt8} (h : Rd w v l) : Rd w1 v l := by
  obtain ⟨A, c, e, h1, h0, h2⟩ := h
  exact ⟨A, c, e, h1, h0, fun i hi => by obtain ⟨ad, e, g⟩ := h2 i hi; exact ⟨ad, e, cell_below hb g⟩⟩
theorem Own.rd {base : Nat} {w : World} {v : Value} {l : List UInt8} (h : Own base w v l) : Rd w v l := by
  have h' := h
  obtain ⟨h1, h2⟩ := h
  rcases h2 with ⟨rfl, h0⟩ | ⟨g, cap, cur, rfl, hb, hh, hn, hm, hs, ht⟩
  · obtain rfl : l = [] := List.eq_nil_of_length_eq_zero h0
    exact ⟨none, 0, rfl, by simp, fun _ => rfl, fun i hi => by simp at hi⟩
  · refine ⟨some ⟨g, 0, none⟩, cap, rfl, hn, fun h => by simp at h, fun i hi => ⟨_, rfl, ?_⟩⟩
    exact World.ownsRow.cells h' (g := g) rfl i _ (by rw [bc, List.getElem?_map, List.getElem?_eq_getElem hi]; rfl)
theorem Own.nil (base : Nat) (w : World) : Own base w (.slice none 0 0) [] := World.ownsRow_nil w base 5 1
theorem Own.below {base : Nat} {w w1 : World} (hb : Below w.heap.size w w1) {v : Value} {l : List UInt8} (h : Own base w v l) : Own base w1 v l :=
  World.ownsRow.kept (row := none) h ⟨hb.os, hb.tape, hb.output, hb.size, fun k hk _ => hb.block k hk⟩ (by cases v.ownBlock <;> simp)
theorem Own.form {base : Nat} {w : World} {v : Value} {l : List UInt8} (h : Own base w v l) : ∃ A c, v = .slice A l.length c := by
  obtain ⟨A, c, e, _⟩ := h.rd; exact ⟨A, c, e⟩
theorem Own.lt {base : Nat} {w : World} {v : Value} {l : List UInt8} (h : Own base w v l) : ∀ k, v.ownBlock = some k → base ≤ k ∧ k < w.heap.size := World.ownsRow.lt h
theorem Own.base_le {base base' : Nat} {w : World} {v : Value} {l : List UInt8} (h : Own base w v l) (hb : base' ≤ base) : Own base' w v l := by
  obtain ⟨h1, h2⟩ := h
  refine ⟨h1, ?_⟩
  rcases h2 with h2 | ⟨g, cap, cur, e, hg, r⟩
  · exact .inl h2
  · exact .inr ⟨g, cap, cur, e, by omega, r⟩
theorem info5 : ∃ i, Tryd.prog.info? 5 = some i ∧ i.zero = some (.int .u8 0) ∧ i.size = 1 ∧ i.bytes = 1 := by
  have h : (Tryd.prog.info? 5).map (fun i => (i.zero, i.size, i.bytes)) = some (some (.int .u8 0), 1, 1) := by kernel_rfl
  cases e : Tryd.prog.info? 5 with
  | none => rw [e] at h; cases h
  | some i =>
    rw [e] at h
    injection h with h
    injection h with h1 h2
    injection h2 with h2 h3
    exact ⟨i, rfl, h1, h2, h3⟩
section
variable {ops : Array Oper} {rest : List Oper} {o : Oper} {a : Act} {Q : Exit → Act → World → Prop} {w : World}

set_option maxRecDepth 100000 in
theorem app_rd (hgd : o.guard = none) (s x : Operand) (ho : o.op = .call { callee := .builtin .append, args := #[s, x], argTypes := #[27, 27] })
    (base : Nat) (v u : Value) (l m : List UInt8) (hs : a.eval s = v) (hx : a.eval x = u) (hown : Own base w v l) (hr : Rd w u m) (hlen : Lim (l.length + m.length)) (hbase : base ≤ w.heap.size)
    (h : ∀ v' w', Own base w' v' (l ++ m) → w.grownBy w' v.ownBlock → wpList Tryd.prog ops Q rest (a.put o.dst v') w') : wpList Tryd.prog ops Q (o :: rest) a w := by
  obtain ⟨i, hi, hz, hsz, hby⟩ := info5
  obtain ⟨A, c, rfl, hc, h0, hcell⟩ := hr
  cases A with
  | none =>
    obtain rfl := h0 rfl
    obtain rfl : m = [] := List.eq_nil_of_length_eq_zero (by omega)
    refine wpList_append_own_none hgd s x 27 ho base 5 i 1 Tryd.underlying27 hi v _ _ hs hown (by simpa using hx) ?_
    exact h v w (by simpa using hown) ⟨rfl, rfl, rfl, Nat.le_refl _, fun _ _ _ => rfl⟩
  | some ad =>
    refine wpList_append_own w hgd s x 27 ho base 5 i (.int .u8 0) 1 1 Tryd.underlying27 hi hz hsz hby rfl (by omega) v _ _ hs hown ad m.length c (bc m) hx (by rw [bc_len]; omega) ?_ ?_ (by have := hlen.le; unfold maxLen; omega) (by have := hlen.le; omega) hbase ?_
    · intro j q hj
      have hjl : j < m.length := by
        have := (List.getElem?_eq_some_iff.1 hj).1; rwa [bc_len] at this
      obtain ⟨ad', e, g⟩ := hcell j hjl
      injection e with e; subst e
      rw [bc, List.getElem?_map, List.getElem?_eq_getElem hjl] at hj
      injection hj with hj
      rw [g, ← hj]
    · intro q hq
      simp only [bc, List.mem_map] at hq
      obtain ⟨b, _, rfl⟩ := hq
      rfl
    · intro v' w' h1 h2 _
      exact h v' w' (by unfold Own; rw [bc_app, List.length_append]; exact h1) h2
theorem app_str (hgd : o.guard = none) (s x : Operand) (ho : o.op = .call { callee := .builtin .append, args := #[s, x], argTypes := #[27, 9] })
    (base : Nat) (v : Value) (l : List UInt8) (t : ByteArray) (hs : a.eval s = v) (hx : a.eval x = .string t) (hown : Own base w v l) (hlen : Lim (l.length + t.size)) (hbase : base ≤ w.heap.size)
    (h : ∀ v' w', Own base w' v' (l ++ t.toList) → w.grownBy w' v.ownBlock → wpList Tryd.prog ops Q rest (a.put o.dst v') w') : wpList Tryd.prog ops Q (o :: rest) a w := by
  obtain ⟨i, hi, hz, hsz, hby⟩ := info5
  refine Lib.wpList_append_own_string w hgd s x 27 9 ho base 5 i Tryd.underlying27 Tryd.underlying9 hi hz hsz hby v _ _ hs hown t hx (by have := hlen.le; unfold maxLen; omega) (by have := hlen.le; omega) hbase ?_
  intro v' w' h1 h2 _
  exact h v' w' (by unfold Own; rw [bc_app, List.length_append, toList_len, ← bc_str]; exact h1) h2
end
/-- A byte at a block of its own reads. -/
theorem Rd.one {w : World} {g : Nat} {b : UInt8} (h : w.cell? ⟨g, 0, none⟩ = some (.int .u8 (b.toNat : Int))) : Rd w (.slice (some ⟨g, 0, none⟩) 1 1) [b] :=
  ⟨some ⟨g, 0, none⟩, 1, rfl, by simp, fun h => by simp at h, fun i hi => ⟨_, rfl, by
    have : i = 0 := by simpa using hi
    subst this; exact h⟩⟩
theorem Own.empty (w : World) (o : Obj) (ho : o = .cells #[] 5 (0, 0)) (base : Nat) (hb : base ≤ w.heap.size) : Own base (w.alloc o) (.slice (some ⟨w.heap.size, 0, none⟩) 0 0) [] := by
  subst ho
  exact World.ownsRow_made w #[] 0 hb (by unfold maxLen; omega) rfl
set_option maxRecDepth 100000 in
theorem clone_any (v : Value) (l : List UInt8) (w : World) (h : Rd w v l) (hl : Lim l.length) :
    Calls Tryd.prog 40 #[v] w fun e w' => ∃ v', e = .returned v' ∧ Own w.heap.size w' v' l ∧ Below w.heap.size w w' := by
  have H := Lib.hid h
  have hq := fun (w : World) (a : Option Addr) (n c : Nat) => Lib.run_eql_slice_nil (P := Tryd.prog) w 27 5 a n c 0 0 Tryd.underlying27
  obtain ⟨A, c, rfl, hc, h0, _⟩ := h
  cases A with
  | none =>
    obtain rfl := h0 rfl
    obtain rfl : l = [] := List.eq_nil_of_length_eq_zero (by omega)
    go_enter Tryd.func40, Tryd.ntmps40
    go_wp2
    go_ret
    exact ⟨_, rfl, Own.nil _ _, Below.refl _ _⟩
  | some ad =>
    clear h0 hc
    have HB := Lib.hid ((Below.refl w.heap.size w).alloc (Nat.le_refl _) (.cells #[] 5))
    have HO := Lib.hid (Own.empty w (.cells #[] 5) rfl w.heap.size (Nat.le_refl _))
    have HR := Lib.hid (Rd.below HB.out H.out)
    go_enter Tryd.func40, Tryd.ntmps40
    go_wp2_with (at_builtin; refine app_rd rfl (.tmp 5) (.tmp 6) rfl w.heap.size _ _ [] l rfl rfl HO.out HR.out (by simpa using hl) (by simp) ?_; intro v' w' hown hg; have HW := Lib.hid hown; have HG := Lib.hid hg; clear hown hg)
    go_ret
    exact ⟨_, rfl, HW.out, HB.out.grown HG.out (by simp) (fun k hk => (HO.out.lt k hk).1)⟩
end Go.Proofs.YtcpicndapmaiaaaDoor
