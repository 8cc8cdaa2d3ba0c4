/- The reference's Encode: its step laws. -/
import Derived.Test.YtcpicndapmaiaaaDoorE5b
import Derived.Deep.RegionHeld3
namespace Go.Proofs.YtcpicndapmaiaaaDoor
open Go Go.RowKit
set_option maxRecDepth 100000 in
theorem step_app {ops : Array Oper} {o : Oper} {a : Act} {w : World} {K : Act → World → Prop} {Q : Exit → Act → World → Prop} {E : Prop} (hgd : o.guard = none) (s x : Operand)
    (ho : o.op = .call { callee := .builtin .append, args := #[s, x], argTypes := #[27, 27] }) (base base' : Nat) (v u : Value) (l m : List UInt8) (hs : a.eval s = v) (hx : a.eval x = u) (hown : Own base w v l) (hu : Own base' w u m) (hm : 0 < m.length)
    (hlen : Lim (l.length + m.length)) (hbase : base ≤ w.heap.size)
    (h : ∀ v' w', Own base w' v' (l ++ m) → w.grownBy w' v.ownBlock → K (a.put o.dst v') w') :
    if Region.wanted o (yielded ops a.tmps) = true then Oper.wp Tryd.prog o a w K Q else E := by
  obtain ⟨i, hi, hz, hsz, hby⟩ := info5
  obtain ⟨g, c, e, _⟩ := World.ownsRow.form hu hm
  obtain ⟨A, c', e', hc, h0, hcell⟩ := hu.rd
  rw [e] at e'
  injection e' with e1 e2 e3
  subst e1 e3
  rw [e] at hx
  refine step_append_lies w hgd s x 27 ho base 5 i (.int .u8 0) 1 1 Tryd.underlying27 hi hz hsz hby rfl (by omega) v l.length (bc l) hs hown ⟨g, 0, none⟩ m.length c (bc m) hx (by rw [bc_len]; omega) ?_ ?_ hm (by have := hlen.le; unfold maxLen; omega) (by have := hlen.le; omega) hbase _ rfl ?_
  · intro j q hj
    have hjl : j < m.length := by
      have := (List.getElem?_eq_some_iff.1 hj).1; rwa [bc_len] at this
    obtain ⟨ad', e, g⟩ := hcell j hjl
    injection e with e; subst e
    rw [bc, List.getElem?_map, List.getElem?_eq_getElem hjl] at hj
    injection hj with hj
    rw [g, ← hj]
  · intro q hq
    simp only [bc, List.mem_map] at hq
    obtain ⟨b, _, rfl⟩ := hq
    rfl
  · intro g' cap w' h1 h2 _ _
    exact h _ w' (by unfold Own; rw [bc_app, List.length_append]; exact h1) h2
theorem refPut_int (v : Value) (l : List UInt8) (z : Int) (w : World) (h : Rd w v l) (hl : l.length ≤ 100000000) (h0 : 0 ≤ z) (hn : z ≤ 4611686018427387904) :
    Calls Tryd.prog 20 #[v, .int .i64 z] w fun e w' => ∃ v', e = .returned v' ∧ Own w.heap.size w' v' (l ++ putB z.toNat) ∧ Below w.heap.size w w' := by
  have := refPut_any v l z.toNat w h hl (by omega)
  rwa [Int.toNat_of_nonneg h0] at this
theorem Rd.nil (w : World) : Rd w (.slice none 0 0) [] := ⟨none, 0, rfl, by simp, fun _ => rfl, fun i hi => by simp at hi⟩
theorem putB_pos (n : Nat) : 0 < (putB n).length := by rw [putB]; split <;> simp
theorem refEnc_bad (c : Cod) (A1 A2 A3 : Option Addr) (m1 m2 m3 : Nat) (w : World) (hc : IsC w c A1 A2 A3) (hs : c.Small) (hk : c.ok = false) :
    Calls Tryd.prog 6 #[.agg #[.slice A1 c.ins.length m1, .slice A2 c.consts.length m2, .slice A3 c.names.length m3]] w fun e w' => e = .returned (.tuple #[.slice none 0 0, .int .i64 130]) ∧ Below w.heap.size w w' := by
  have HB0 := Lib.hid ((Below.refl w.heap.size w).alloc (Nat.le_refl _) (.cells #[.slice A1 c.ins.length m1, .slice A2 c.consts.length m2, .slice A3 c.names.length m3] 26))
  have HC := Lib.hid (refVerify_any c A1 A2 A3 m1 m2 m3 _ (hc.below HB0.out) hs)
  rw [hk] at HC
  clear hc hs hk
  go_enter Tryd.func6, Tryd.ntmps6
  go_wp2_with (go_at_call 8; refine HC.out.mono ?_; rintro e w' ⟨rfl, hb⟩; have HB := Lib.hid hb; simp only [errI]; clear hb)
  exact bodyPost_ret (v := .tuple #[.slice none 0 0, .int .i64 130]) (by simp [results, Tryd.results6, go_sem]) rfl ⟨rfl, HB0.out.trans (HB.out.mono (by simp))⟩
end Go.Proofs.YtcpicndapmaiaaaDoor
