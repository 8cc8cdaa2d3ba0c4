/- The law over codes. -/
import Derived.Test.YtcpicndapmaiaaaDoorHash
import Derived.Deep.RegionHeld3
namespace Go.Proofs.YtcpicndapmaiaaaDoor
open Go Go.RowKit
theorem Rd.bytesIn {w : World} {A : Option Addr} {n c : Nat} {l : List UInt8} (h : Rd w (.slice A n c) l) : n = l.length ∧ Lib.BytesIn w A n (l.map fun b => (b.toNat : Int)) := by
  obtain ⟨A', c', e, hc, h0, hcell⟩ := h
  injection e with e1 e2 e3
  subst e1 e2 e3
  refine ⟨rfl, ?_⟩
  cases A with
  | none =>
    have : l = [] := List.eq_nil_of_length_eq_zero (by have := h0 rfl; omega)
    subst this
    exact Lib.BytesIn.nil _ _ _
  | some ad =>
    refine Lib.BytesIn.of_cells fun i hi => ?_
    obtain ⟨ad', e, g⟩ := hcell i hi
    injection e with e; subst e
    rw [g]; simp [hi]
theorem equal_any (v1 v2 : Value) (l : List UInt8) (w : World) (h1 : Rd w v1 l) (h2 : Rd w v2 l) :
    Calls Tryd.prog 9 #[v1, v2] w fun e w' => e = .returned (.bool true) ∧ w' = w := by
  obtain ⟨A1, c1, rfl, _⟩ := id h1
  obtain ⟨A2, c2, rfl, _⟩ := id h2
  refine (Tryd.bytes_Equal_all A1 A2 _ c1 _ c2 (l.map fun b => (b.toNat : Int)) (l.map fun b => (b.toNat : Int)) w (by simp) (by simp) h1.bytesIn.2 h2.bytesIn.2).mono ?_
  rintro e w' ⟨rfl, rfl⟩
  exact ⟨by simp, rfl⟩
def outB (c : Cod) : List UInt8 := if c.ok then encB c else []
theorem enc_any (c : Cod) (A1 A2 A3 : Option Addr) (m1 m2 m3 : Nat) (w : World) (hc : IsC w c A1 A2 A3) (hs : c.Small) (hf : c.ok = true → c.Fits) :
    Calls Tryd.prog 5 #[.agg #[.slice A1 c.ins.length m1, .slice A2 c.consts.length m2, .slice A3 c.names.length m3]] w fun e w' => ∃ v', e = .returned (.tuple #[v', .int .i64 (errI c.ok)]) ∧ Rd w' v' (outB c) ∧ Below w.heap.size w w' := by
  by_cases hk : c.ok = true
  · have HF := hf hk
    refine (enc_ok c A1 A2 A3 m1 m2 m3 w hc hs hk HF.len HF.each HF.ins).mono ?_
    rintro e w' ⟨v', rfl, ho, hb⟩
    exact ⟨v', by rw [hk]; rfl, by unfold outB; rw [if_pos hk]; exact ho.rd, hb⟩
  · have hk' : c.ok = false := by simpa using hk
    refine (enc_bad c A1 A2 A3 m1 m2 m3 w hc hs hk').mono ?_
    rintro e w' ⟨rfl, hb⟩
    exact ⟨_, by rw [hk']; rfl, by unfold outB; rw [if_neg hk]; exact Rd.nil _, hb⟩
theorem refEnc_any (c : Cod) (A1 A2 A3 : Option Addr) (m1 m2 m3 : Nat) (w : World) (hc : IsC w c A1 A2 A3) (hs : c.Small) (hf : c.ok = true → c.Fits) :
    Calls Tryd.prog 6 #[.agg #[.slice A1 c.ins.length m1, .slice A2 c.consts.length m2, .slice A3 c.names.length m3]] w fun e w' => ∃ v', e = .returned (.tuple #[v', .int .i64 (errI c.ok)]) ∧ Rd w' v' (outB c) ∧ Below w.heap.size w w' := by
  by_cases hk : c.ok = true
  · have HF := hf hk
    refine (refEnc_ok c A1 A2 A3 m1 m2 m3 w hc hs hk HF.len HF.each HF.ins).mono ?_
    rintro e w' ⟨v', rfl, ho, hb⟩
    exact ⟨v', by rw [hk]; rfl, by unfold outB; rw [if_pos hk]; exact ho.rd, hb⟩
  · have hk' : c.ok = false := by simpa using hk
    refine (refEnc_bad c A1 A2 A3 m1 m2 m3 w hc hs hk').mono ?_
    rintro e w' ⟨rfl, hb⟩
    exact ⟨_, by rw [hk']; rfl, by unfold outB; rw [if_neg hk]; exact Rd.nil _, hb⟩
theorem below_drew (B : Nat) (w : World) : Below B w w.drew := ⟨rfl, rfl, rfl, Nat.le_refl _, fun _ _ => rfl⟩
set_option maxRecDepth 100000 in
set_option maxHeartbeats 4000000 in
theorem law_any (c : Cod) (A1 A2 A3 : Option Addr) (m1 m2 m3 : Nat) (w : World) (hc : IsC w c A1 A2 A3) (hs : c.Small) (hf : c.ok = true → c.Fits) (ht : TabAt w) :
    Calls Tryd.prog 3 #[.agg #[.slice A1 c.ins.length m1, .slice A2 c.consts.length m2, .slice A3 c.names.length m3]] w fun e w' => e = .returned (.bool true) ∧ Below w.heap.size w w' := by
  have HB0 := Lib.hid ((Below.refl w.heap.size w).alloc (Nat.le_refl _) (.cells #[.slice A1 c.ins.length m1, .slice A2 c.consts.length m2, .slice A3 c.names.length m3] 26))
  obtain ⟨W, hW, hbx⟩ : ∃ W, W = w.alloc (.cells #[.slice A1 c.ins.length m1, .slice A2 c.consts.length m2, .slice A3 c.names.length m3] 26) ∧ W.heap[w.heap.size]? = some (.cells #[.slice A1 c.ins.length m1, .slice A2 c.consts.length m2, .slice A3 c.names.length m3] 26 (0, 0)) := ⟨_, rfl, heap_alloc_new w _⟩
  rw [← hW] at HB0
  have HBX := Lib.hid (fun y (h : Below W.heap.size W y) => show y.cell? ⟨w.heap.size, 0, none⟩ = some (.slice A1 c.ins.length m1) ∧ y.cell? ⟨w.heap.size, 1, none⟩ = some (.slice A2 c.consts.length m2) ∧ y.cell? ⟨w.heap.size, 2, none⟩ = some (.slice A3 c.names.length m3) from
    ⟨cell_below h (cell_of_row W _ 0 _ _ _ hbx), cell_below h (cell_of_row W _ 1 _ _ _ hbx), cell_below h (cell_of_row W _ 2 _ _ _ hbx)⟩)
  have HI := Lib.hid (hc.below HB0.out)
  have HT := Lib.hid (ht.below HB0.out)
  have HS := Lib.hid hs
  have HF := Lib.hid hf
  have HN := Lib.hid (fun y (h : Below W.heap.size W y) => enc_any c A1 A2 A3 m1 m2 m3 y (HI.out.below h) HS.out HF.out)
  have HR := Lib.hid (fun y (h : Below W.heap.size W y) => refEnc_any c A1 A2 A3 m1 m2 m3 y (HI.out.below h) HS.out HF.out)
  have HV := Lib.hid (fun y (h : Below W.heap.size W y) => verify_any c A1 A2 A3 m1 m2 m3 y (HI.out.below h) HS.out)
  have HW := Lib.hid (fun y (h : Below W.heap.size W y) => refVerify_any c A1 A2 A3 m1 m2 m3 y (HI.out.below h) HS.out)
  have HH := Lib.hid (fun y (h : Below W.heap.size W y) => hash_any c A1 A2 A3 m1 m2 m3 y (HI.out.below h) HS.out HF.out (HT.out.below h))
  have HG := Lib.hid (fun y (h : Below W.heap.size W y) => refHash_any c A1 A2 A3 m1 m2 m3 y (HI.out.below h) HS.out HF.out)
  have HB1 := Lib.hid (Below.refl W.heap.size W)
  obtain ⟨hx0, hx1, hx2⟩ := HBX.out W HB1.out
  have HWE := Lib.hid hW
  clear hc hs hf ht hW hbx
  go_enter Tryd.func3, Tryd.ntmps3
  go_upto_region 1 with fail
  rw [← HWE.out]
  go_upto_region 3 with (first
    | (go_at_call 5; refine (HN.out _ HB1.out).mono ?_; rintro e y1 ⟨v1, rfl, hr, hb⟩; have HR1 := Lib.hid hr; have HB2 := Lib.hid hb; obtain ⟨hx0, hx1, hx2⟩ := HBX.out y1 hb; clear hb hr)
    | (go_at_call 6; refine (HR.out _ HB2.out).mono ?_; rintro e y2 ⟨v2, rfl, hr, hb⟩; have HR2 := Lib.hid hr; have HR3 := Lib.hid (Rd.below hb HR1.out); have HB3 := Lib.hid (HB2.out.trans (hb.mono HB2.out.size)); obtain ⟨hx0, hx1, hx2⟩ := HBX.out y2 HB3.out; clear hb hr))
  have HD3 := Lib.hid (HB3.out.trans (below_drew _ y2))
  clear hx0 hx1 hx2
  obtain ⟨hx0, hx1, hx2⟩ := HBX.out y2 HB3.out
  go_region_held3 (fun y => y.cell? ⟨w.heap.size, 0, none⟩ = some (.slice A1 c.ins.length m1) ∧ y.cell? ⟨w.heap.size, 1, none⟩ = some (.slice A2 c.consts.length m2) ∧ y.cell? ⟨w.heap.size, 2, none⟩ = some (.slice A3 c.names.length m3))
    (first | exact HBX.out _ HB3.out | exact HBX.out _ HD3.out | exact HBX.out _ HB4.out | exact HBX.out _ HB5.out | exact HBX.out _ HB6.out | exact HBX.out _ HB7.out | go_keep)
    (first
      | (go_at_call 7; refine (HV.out _ HD3.out).mono ?_; rintro e y3 ⟨rfl, hb⟩; have HB4 := Lib.hid (HD3.out.trans (hb.mono HD3.out.size)); have HR4 := Lib.hid (Rd.below ((below_drew _ y2).trans hb) HR2.out); have HR5 := Lib.hid (Rd.below ((below_drew _ y2).trans hb) HR3.out); clear hb)
      | (go_at_call 8; refine (HW.out _ HB4.out).mono ?_; rintro e y4 ⟨rfl, hb⟩; have HB5 := Lib.hid (HB4.out.trans (hb.mono HB4.out.size)); have HR6 := Lib.hid (Rd.below hb HR4.out); have HR7 := Lib.hid (Rd.below hb HR5.out); clear hb)
      | (go_at_call 9; refine (equal_any _ _ _ y4 HR7.out HR6.out).mono ?_; rintro e y5 ⟨rfl, rfl⟩)
      | (go_at_call 10; refine (HH.out _ HB5.out).mono ?_; rintro e y6 ⟨rfl, hb⟩; have HB6 := Lib.hid (HB5.out.trans (hb.mono HB5.out.size)); clear hb)
      | (go_at_call 11; refine (HG.out _ HB6.out).mono ?_; rintro e y7 ⟨rfl, hb⟩; have HB7 := Lib.hid (HB6.out.trans (hb.mono HB6.out.size)); clear hb))
  go_wp2_with fail
  go_ret
  exact ⟨rfl, HB0.out.trans (HB7.out.mono HB0.out.size)⟩
end Go.Proofs.YtcpicndapmaiaaaDoor
