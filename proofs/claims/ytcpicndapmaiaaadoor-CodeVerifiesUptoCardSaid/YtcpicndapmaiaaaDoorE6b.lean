/- The reference's Encode at a code that passes. -/
import Derived.Test.YtcpicndapmaiaaaDoorE6
namespace Go.Proofs.YtcpicndapmaiaaaDoor
open Go Go.RowKit
/-- What holds within the statement that writes an instruction. -/
structure Inv (wr : World) (op xa xb : Int) (y : World) : Prop where
  below : Below wr.heap.size wr y
  row : y.heap[wr.heap.size]? = some (.cells #[.int .i64 op, .int .i64 xa, .int .i64 xb] 49 (0, 0))
theorem Inv.cells {wr y : World} {op xa xb : Int} (h : Inv wr op xa xb y) : y.cell? ⟨wr.heap.size, 0, none⟩ = some (.int .i64 op) ∧ y.cell? ⟨wr.heap.size, 1, none⟩ = some (.int .i64 xa) ∧ y.cell? ⟨wr.heap.size, 2, none⟩ = some (.int .i64 xb) :=
  ⟨cell_of_row y _ 0 _ _ _ h.row, cell_of_row y _ 1 _ _ _ h.row, cell_of_row y _ 2 _ _ _ h.row⟩
theorem Inv.lt {wr y : World} {op xa xb : Int} (h : Inv wr op xa xb y) : wr.heap.size < y.heap.size := (Array.getElem?_eq_some_iff.1 h.row).1
theorem Inv.step {wr y z : World} {op xa xb : Int} (h : Inv wr op xa xb y) (hb : Below y.heap.size y z) : Inv wr op xa xb z :=
  ⟨h.below.trans (hb.mono (Nat.le_of_lt h.lt)), (hb.block _ h.lt).trans h.row⟩
theorem Inv.far {wr y z : World} {op xa xb : Int} {b : Nat} {v : Value} {l : List UInt8} (h : Inv wr op xa xb y) (hg : y.grownBy z v.ownBlock) (ho : Own b wr v l) : z.cell? ⟨wr.heap.size, 0, none⟩ = some (.int .i64 op) ∧ z.cell? ⟨wr.heap.size, 1, none⟩ = some (.int .i64 xa) ∧ z.cell? ⟨wr.heap.size, 2, none⟩ = some (.int .i64 xb) := by
  have hr : z.heap[wr.heap.size]? = some (.cells #[.int .i64 op, .int .i64 xa, .int .i64 xb] 49 (0, 0)) := (hg.block _ h.lt (by intro e; have := (ho.lt _ e.symm).2; omega)).trans h.row
  exact ⟨cell_of_row z _ 0 _ _ _ hr, cell_of_row z _ 1 _ _ _ hr, cell_of_row z _ 2 _ _ _ hr⟩
theorem Inv.start (wr : World) (op xa xb : Int) : Inv wr op xa xb (wr.alloc (.cells #[.int .i64 op, .int .i64 xa, .int .i64 xb] 49)).drew :=
  ⟨((Below.refl wr.heap.size wr).alloc (Nat.le_refl _) (.cells #[.int .i64 op, .int .i64 xa, .int .i64 xb] 49)).trans ⟨rfl, rfl, rfl, Nat.le_refl _, fun _ _ => rfl⟩, heap_alloc_new wr _⟩
theorem Inv.put {wr y : World} {op xa xb z : Int} (h : Inv wr op xa xb y) (u : Value) (l : List UInt8) (hr : Rd y u l) (hl : l.length ≤ 100000000) (h0 : 0 ≤ z) (hn : z ≤ 4611686018427387904) :
    Calls Tryd.prog 20 #[u, .int .i64 z] y fun e y' => ∃ u', e = .returned u' ∧ Own wr.heap.size y' u' (l ++ putB z.toNat) ∧ Inv wr op xa xb y' := by
  refine (refPut_int u l z y hr hl h0 hn).mono ?_
  rintro e y' ⟨u', h1, h2, h3⟩
  exact ⟨u', h1, h2.base_le (Nat.le_of_lt h.lt), h.step h3⟩
set_option maxRecDepth 100000 in
set_option maxHeartbeats 4000000 in
theorem refEnc_ok (c : Cod) (A1 A2 A3 : Option Addr) (m1 m2 m3 : Nat) (w : World) (hc : IsC w c A1 A2 A3) (hs : c.Small) (hk : c.ok = true) (hlen : (encB c).length ≤ 90000000) (hpl : ∀ d, d ∈ c.consts → (printD d).length ≤ 90000000) (hin : ∀ x, x ∈ c.ins → 0 ≤ x.op ∧ x.op ≤ 4611686018427387904 ∧ 0 ≤ x.a ∧ x.a ≤ 4611686018427387904 ∧ 0 ≤ x.b ∧ x.b ≤ 4611686018427387904) :
    Calls Tryd.prog 6 #[.agg #[.slice A1 c.ins.length m1, .slice A2 c.consts.length m2, .slice A3 c.names.length m3]] w fun e w' => ∃ v', e = .returned (.tuple #[v', .int .i64 0]) ∧ Own w.heap.size w' v' (encB c) ∧ Below w.heap.size w w' := by
  have HB0 := Lib.hid ((Below.refl w.heap.size w).alloc (Nat.le_refl _) (.cells #[.slice A1 c.ins.length m1, .slice A2 c.consts.length m2, .slice A3 c.names.length m3] 26))
  have HI0 := Lib.hid (hc.below HB0.out)
  have HC := Lib.hid (refVerify_any c A1 A2 A3 m1 m2 m3 _ HI0.out hs)
  have HS := Lib.hid hs
  have HIN := Lib.hid hin
  have HPL := Lib.hid hpl
  rw [hk] at HC
  have HLN := Lib.hid (show (putB c.ins.length).length + ((c.ins.flatMap encI).length + ((putB c.consts.length).length + ((c.consts.flatMap encK).length + ((putB c.names.length).length + (c.names.flatMap textB).length)))) ≤ 90000000 from by simpa [encB] using hlen)
  have HE := Lib.hid (show encB c = putB c.ins.length ++ (c.ins.flatMap encI ++ (putB c.consts.length ++ (c.consts.flatMap encK ++ (putB c.names.length ++ c.names.flatMap textB)))) from rfl)
  have hl1 := hs.ins
  have hl2 := hs.consts
  have hl3 := hs.names
  clear hc hs hk hlen hin hpl
  go_enter Tryd.func6, Tryd.ntmps6
  go_upto_region 4 with (go_at_call 8; refine HC.out.mono ?_; rintro e w' ⟨rfl, hb⟩; have HB := Lib.hid hb; simp only [errI]; have hss : w.heap.size < w'.heap.size := (by have := hb.size; simp at this; omega); clear hb)
  obtain ⟨b, hbb⟩ : ∃ b, w'.heap.size = b := ⟨_, rfl⟩
  have HBX := Lib.hid (fun y (h : Below b w' y) => show y.heap[w.heap.size]? = some (.cells #[.slice A1 c.ins.length m1, .slice A2 c.consts.length m2, .slice A3 c.names.length m3] 26 (0, 0)) from by
    rw [h.block _ (by omega), HB.out.block _ (by simp)]; exact heap_alloc_new w _)
  have HI := Lib.hid (fun y (h : Below b w' y) => HI0.out.below (HB.out.trans ((h.mono (by rw [← hbb]; exact HB.out.size)))))
  have HFIN := Lib.hid (fun y (h : Below b w' y) => HB0.out.trans ((HB.out.trans (h.mono (by rw [← hbb]; exact HB.out.size))).mono (by simp)))
  have hbw : w.heap.size < b := by omega
  have HBS := Lib.hid (fun y (h : Below b w' y) => show b ≤ y.heap.size from by have := h.size; omega)
  have HBR := Lib.hid (Below.refl b w')
  have hb0 : w'.cell? ⟨w.heap.size, 0, none⟩ = some (.slice A1 c.ins.length m1) := cell_of_row w' _ 0 _ _ _ (HBX.out w' HBR.out)
  have HC1 := Lib.hid (refPut_any (.slice none 0 0) [] c.ins.length w' (Rd.nil _) (by simp) (by omega))
  clear hss HC HI0 HB0 
  clear HB
  go_upto_region 5 with (go_at_call 20; refine HC1.out.mono ?_; rintro e w1 ⟨v1, rfl, ho, hb⟩; have HX := Lib.hid (show Own b w1 v1 (putB c.ins.length) from by rw [← hbb]; simpa using ho); have HE1 := Lib.hid (show Below b w' w1 from by rw [← hbb]; exact hb); clear ho hb)
  clear HC1 hb0 hbb HBR
  have hb1 : w1.cell? ⟨w.heap.size, 0, none⟩ = some (.slice A1 c.ins.length m1) := cell_of_row w1 _ 0 _ _ _ (HBX.out w1 HE1.out)
  go_wp2_with fail
  clear hb1
  go_loopw [5, 7, 24] (fun v _ i wr => ∃ k : Nat, k ≤ c.ins.length ∧ i = .int .i64 k ∧ Hid (Own b wr v (putB c.ins.length ++ (c.ins.take k).flatMap encI)) ∧ Hid (Below b w' wr)) (fun _ _ i _ => c.ins.length - (intOf i).toNat)
  case atStart => exact ⟨0, Nat.zero_le _, rfl, by simpa [Hid] using HX.out, HE1⟩
  case round =>
    clear HX HE1
    obtain ⟨k, hk, rfl, HX, HE1⟩ := hrel
    have hbl := HBS.out wr HE1.out
    by_cases hlt : k < c.ins.length
    · have hc := (HI.out wr HE1.out).ins k hlt
      obtain ⟨ad, rfl, g0, g1, g2⟩ := hc
      have HSN := Lib.hid (show putB c.ins.length ++ (c.ins.take (k + 1)).flatMap encI = (putB c.ins.length ++ (c.ins.take k).flatMap encI) ++ encI c.ins[k] from by rw [flat_snocE encI _ k hlt, List.append_assoc])
      have HL := Lib.hid (show (putB c.ins.length ++ (c.ins.take k).flatMap encI).length + (encI c.ins[k]).length ≤ 90000000 from by
        have h1 := flat_take_len encI c.ins (k + 1)
        have h2 := HLN.out
        rw [flat_snocE encI _ k hlt, List.length_append] at h1
        rw [List.length_append]; omega)
      have HQ := Lib.hid (HIN.out _ (List.getElem_mem hlt))
      obtain ⟨q, hq⟩ : ∃ q, putB c.ins.length ++ (c.ins.take k).flatMap encI = q := ⟨_, rfl⟩
      rw [hq] at HX HL HSN
      clear hq
      obtain ⟨x, hx⟩ : ∃ x, c.ins[k] = x := ⟨_, rfl⟩
      rw [hx] at g0 g1 g2 HSN HL HQ
      clear hx
      obtain ⟨op, xa, xb⟩ := x
      dsimp only at g0 g1 g2 HQ
      go_upto_region 8 with fail
      have HV0 := Lib.hid (Inv.start wr op xa xb)
      have HL1 := Lib.hid (putB_len9 op.toNat (by have := HQ.out; omega))
      have HL2 := Lib.hid (putB_len9 xa.toNat (by have := HQ.out; omega))
      go_region_held3 (fun y => y.cell? ⟨wr.heap.size, 0, none⟩ = some (.int .i64 op) ∧ y.cell? ⟨wr.heap.size, 1, none⟩ = some (.int .i64 xa) ∧ y.cell? ⟨wr.heap.size, 2, none⟩ = some (.int .i64 xb))
        (first | exact HV0.out.cells | exact HV1.out.cells | exact HV2.out.cells | exact HV3.out.cells | exact HV4.out | go_keep)
        (first
          | (go_at_call_of 20 (Value.int .i64 op); refine (HV0.out.put (.slice none 0 0) [] (z := op) (Rd.nil _) (by simp) HQ.out.1 HQ.out.2.1).mono ?_; rintro e y1 ⟨u1, rfl, ho, hi⟩; have HO1 := Lib.hid ho; have HV1 := Lib.hid hi; clear ho hi)
          | (go_at_call_of 20 (Value.int .i64 xa); refine (HV1.out.put u1 _ (z := xa) HO1.out.rd (by have := HL1.out; simp; omega) HQ.out.2.2.1 HQ.out.2.2.2.1).mono ?_; rintro e y2 ⟨u2, rfl, ho, hi⟩; have HO2 := Lib.hid ho; have HV2 := Lib.hid hi; clear ho hi)
          | (go_at_call_of 20 (Value.int .i64 xb); refine (HV2.out.put u2 _ (z := xb) HO2.out.rd (by have := HL1.out; have := HL2.out; simp; omega) HQ.out.2.2.2.2.1 HQ.out.2.2.2.2.2).mono ?_; rintro e y3 ⟨u3, rfl, ho, hi⟩; have HO3 := Lib.hid ho; have HV3 := Lib.hid hi; clear ho hi)
          | (refine step_app rfl (.tmp 28) (.tmp 37) rfl b wr.heap.size _ u3 q _ rfl rfl (HX.out.below HV3.out.below) HO3.out (by have := putB_pos op.toNat; simp; omega) (Lim.mk_ (by have := HL.out; simp only [encI, nsI, List.flatMap_cons, List.flatMap_nil, List.append_nil, List.length_append, List.nil_append] at this ⊢; omega)) (by have := HV3.out.lt; omega) ?_; intro v4 y4 ho hg; have HO4 := Lib.hid ho; have HG4 := Lib.hid hg; have HV4 := Lib.hid (HV3.out.far hg HX.out); clear ho hg))
      go_wp2_with fail
      go_roundw
      case rel => exact ⟨k + 1, by omega, by go_num, Lib.hid (by rw [HSN.out]; simpa [encI, nsI] using HO4.out), (HE1.out.trans (HV3.out.below.mono hbl)).grown HG4.out (by have := HV3.out.lt; omega) (fun k hk => (HX.out.lt k hk).1)⟩
      case measure => simp [intOf]; omega
    · have HX1 := Lib.hid (show Own b wr _ (putB c.ins.length ++ c.ins.flatMap encI) from by have := HX.out; rwa [List.take_of_length_le (by omega)] at this)
      have hb1 : wr.cell? ⟨w.heap.size, 1, none⟩ = some (.slice A2 c.consts.length m2) := cell_of_row wr _ 1 _ _ _ (HBX.out wr HE1.out)
      have HP := Lib.hid (refPut_any (.slice none 0 0) [] c.consts.length wr (Rd.nil _) (by simp) (by omega))
      clear HX
      go_wp2_with (first
        | (go_at_call 20; refine HP.out.mono ?_; rintro e w2 ⟨u2, rfl, ho, hb⟩; have HO2 := Lib.hid ho; have HE2 := Lib.hid hb; clear ho hb)
        | (at_builtin; refine app_rd rfl (.tmp 40) (.tmp 44) rfl b _ _ _ _ rfl rfl (HX1.out.below HE2.out) HO2.out.rd (Lim.mk_ (by have := HLN.out; simp only [List.length_append, List.nil_append]; omega)) (Nat.le_trans hbl HE2.out.size) ?_; intro v3 w3 ho hg; have HX3 := Lib.hid (show Own b w3 v3 (putB c.ins.length ++ c.ins.flatMap encI ++ putB c.consts.length) from by simpa using ho); have HE3 := Lib.hid ((HE1.out.trans (HE2.out.mono hbl)).grown hg (Nat.le_trans hbl HE2.out.size) (fun k hk => (HX1.out.lt k hk).1)); clear ho hg
           have hb1 : w3.cell? ⟨w.heap.size, 1, none⟩ = some (.slice A2 c.consts.length m2) := cell_of_row w3 _ 1 _ _ _ (HBX.out w3 HE3.out)))
      clear hb1 HX1 HE1 HP
      obtain ⟨q0, hq0⟩ : ∃ q, putB c.ins.length ++ c.ins.flatMap encI ++ putB c.consts.length = q := ⟨_, rfl⟩
      have HQ0 := Lib.hid hq0
      have HLQ := Lib.hid (show q0.length + (c.consts.flatMap encK).length ≤ 90000000 from by have := HLN.out; rw [← hq0]; simp only [List.length_append]; omega)
      rw [hq0] at HX3
      clear hq0 HE2 HO2 hbl
      obtain ⟨wo, rfl⟩ : ∃ wo : World, wo = w3 := ⟨_, rfl⟩
      go_loopw [5, 9, 49] (fun v _ i wr => ∃ k : Nat, k ≤ c.consts.length ∧ i = .int .i64 k ∧ Hid (Own b wr v (q0 ++ (c.consts.take k).flatMap encK)) ∧ Hid (Below b w' wr)) (fun _ _ i _ => c.consts.length - (intOf i).toNat)
      case atStart => exact ⟨0, Nat.zero_le _, rfl, by simpa [Hid] using HX3.out, HE3⟩
      case round =>
        clear HX3 HE3 hlt
        obtain ⟨k, hk, rfl, HX, HE1⟩ := hrel
        have hbl := HBS.out wr HE1.out
        by_cases hlt : k < c.consts.length
        · obtain ⟨ad, c0, c1, c2, c3, rfl, g0, g1, g2, g3, hx⟩ := IsL.get0 (HI.out wr HE1.out).consts k hlt
          have HD := Lib.hid hx
          obtain ⟨B2, m2', B3, m3', rfl, rfl, rfl, rfl, -⟩ := hx.form
          have HMEM := Lib.hid (List.getElem_mem hlt)
          have HSN := Lib.hid (show q0 ++ (c.consts.take (k + 1)).flatMap encK = (q0 ++ (c.consts.take k).flatMap encK) ++ encK c.consts[k] from by rw [flat_snocE encK _ k hlt, List.append_assoc])
          have HL := Lib.hid (show (q0 ++ (c.consts.take k).flatMap encK).length + (encK c.consts[k]).length ≤ 90000000 from by
            have h1 := flat_take_len encK c.consts (k + 1)
            have h2 := HLQ.out
            rw [flat_snocE encK _ k hlt, List.length_append] at h1
            rw [List.length_append]; omega)
          obtain ⟨q, hq⟩ : ∃ q, q0 ++ (c.consts.take k).flatMap encK = q := ⟨_, rfl⟩
          rw [hq] at HX HL HSN
          clear hq
          have HA := Lib.hid (fun o => ((Below.refl wr.heap.size wr).alloc (Nat.le_refl _) o))
          have HPR := Lib.hid (fun o => refPrint_any c.consts[k] (wr.alloc o) _ _ _ _ (HD.out.below (HA.out o)) (HS.out.each _ HMEM.out) (by have := HPL.out _ HMEM.out; omega))
          have HPO := Lib.hid (show (printOr c.consts[k]).length ≤ 90000000 from by have := HL.out; unfold encK textL at this; rw [List.length_append] at this; omega)
          clear hx
          go_wp2_with (first
            | (go_at_call 22; refine (HPR.out _).mono ?_; rintro e w4 ⟨t, rfl, ht, hb⟩; have HT := Lib.hid ht; have HB4 := Lib.hid ((HA.out _).trans (hb.mono (HA.out _).size)); have hts := (by have := HPO.out; rw [← ht, toList_len] at this; exact Nat.le_trans this (by decide) : t.size ≤ 100000000); clear hb ht)
            | (go_at_call 21; refine (refText_any (.slice none 0 0) [] t w4 (Rd.nil _) (by simp) hts).mono ?_; rintro e w5 ⟨u5, rfl, ho, hb⟩; have HO5 := Lib.hid (show Own wr.heap.size w5 u5 (encK c.consts[k]) from by unfold encK; rw [← HT.out, ← textB_eq]; exact (by simpa using ho : Own w4.heap.size w5 u5 (textB t)).base_le HB4.out.size); have HB5 := Lib.hid (HB4.out.trans (hb.mono HB4.out.size)); clear hb ho)
            | (at_builtin; refine app_rd rfl (.tmp 53) (.tmp 56) rfl b _ _ q _ rfl rfl (HX.out.below HB5.out) HO5.out.rd (Lim.mk_ (by have := HL.out; omega)) (Nat.le_trans hbl HB5.out.size) ?_; intro v6 w6 ho hg; have HX6 := Lib.hid ho; have HE6 := Lib.hid ((HE1.out.trans (HB5.out.mono hbl)).grown hg (Nat.le_trans hbl HB5.out.size) (fun k hk => (HX.out.lt k hk).1)); clear ho hg))
          go_roundw
          case rel => exact ⟨k + 1, by omega, by go_num, Lib.hid (by rw [HSN.out]; exact HX6.out), HE6⟩
          case measure => simp [intOf]; omega
        · have HX1 := Lib.hid (show Own b wr _ (q0 ++ c.consts.flatMap encK) from by have := HX.out; rwa [List.take_of_length_le (by omega)] at this)
          have hb1 : wr.cell? ⟨w.heap.size, 2, none⟩ = some (.slice A3 c.names.length m3) := cell_of_row wr _ 2 _ _ _ (HBX.out wr HE1.out)
          have HP := Lib.hid (refPut_any (.slice none 0 0) [] c.names.length wr (Rd.nil _) (by simp) (by omega))
          clear HX
          go_wp2_with (first
            | (go_at_call 20; refine HP.out.mono ?_; rintro e w2 ⟨u2, rfl, ho, hb⟩; have HO2 := Lib.hid ho; have HE2 := Lib.hid hb; clear ho hb)
            | (at_builtin; refine app_rd rfl (.tmp 59) (.tmp 63) rfl b _ _ _ _ rfl rfl (HX1.out.below HE2.out) HO2.out.rd (Lim.mk_ (by have := HLN.out; have := HLQ.out; simp only [List.length_append, List.nil_append]; omega)) (Nat.le_trans hbl HE2.out.size) ?_; intro v3 w3 ho hg; have HX3 := Lib.hid (show Own b w3 v3 (q0 ++ c.consts.flatMap encK ++ putB c.names.length) from by simpa using ho); have HE3 := Lib.hid ((HE1.out.trans (HE2.out.mono hbl)).grown hg (Nat.le_trans hbl HE2.out.size) (fun k hk => (HX1.out.lt k hk).1)); clear ho hg
               have hb1 : w3.cell? ⟨w.heap.size, 2, none⟩ = some (.slice A3 c.names.length m3) := cell_of_row w3 _ 2 _ _ _ (HBX.out w3 HE3.out)))
          clear hb1 HX1 HE1 HP
          obtain ⟨q1, hq1⟩ : ∃ q, q0 ++ c.consts.flatMap encK ++ putB c.names.length = q := ⟨_, rfl⟩
          have HQ1 := Lib.hid (show encB c = q1 ++ c.names.flatMap textB from by rw [HE.out, ← hq1, ← HQ0.out]; simp only [List.append_assoc])
          have HLQ1 := Lib.hid (show q1.length + (c.names.flatMap textB).length ≤ 90000000 from by have := HLN.out; rw [← hq1, ← HQ0.out]; simp only [List.length_append]; omega)
          rw [hq1] at HX3
          clear hq1 HE2 HO2 hbl
          obtain ⟨wo3, rfl⟩ : ∃ wo : World, wo = w3 := ⟨_, rfl⟩
          go_loopw [5, 11, 68] (fun v _ i wr => ∃ k : Nat, k ≤ c.names.length ∧ i = .int .i64 k ∧ Hid (Own b wr v (q1 ++ (c.names.take k).flatMap textB)) ∧ Hid (Below b w' wr)) (fun _ _ i _ => c.names.length - (intOf i).toNat)
          case atStart => exact ⟨0, Nat.zero_le _, rfl, by simpa [Hid] using HX3.out, HE3⟩
          case round =>
            clear HX3 HE3 hlt
            obtain ⟨k, hk, rfl, HX, HE1⟩ := hrel
            have hbl := HBS.out wr HE1.out
            by_cases hlt : k < c.names.length
            · obtain ⟨ad, rfl, g0⟩ := (HI.out wr HE1.out).names k hlt
              have HMEM := Lib.hid (List.getElem_mem hlt)
              have HSN := Lib.hid (show q1 ++ (c.names.take (k + 1)).flatMap textB = (q1 ++ (c.names.take k).flatMap textB) ++ textB c.names[k] from by rw [flat_snocE textB _ k hlt, List.append_assoc])
              have HL := Lib.hid (show (q1 ++ (c.names.take k).flatMap textB).length + (textB c.names[k]).length ≤ 90000000 from by
                have h1 := flat_take_len textB c.names (k + 1)
                have h2 := HLQ1.out
                rw [flat_snocE textB _ k hlt, List.length_append] at h1
                rw [List.length_append]; omega)
              obtain ⟨q, hq⟩ : ∃ q, q1 ++ (c.names.take k).flatMap textB = q := ⟨_, rfl⟩
              rw [hq] at HX HL HSN
              clear hq
              have HTX := Lib.hid (refText_any (.slice none 0 0) [] c.names[k] wr (Rd.nil _) (by simp) (by have := HS.out.text _ HMEM.out; omega))
              go_wp2_with (first
                | (go_at_call 21; refine HTX.out.mono ?_; rintro e w5 ⟨u5, rfl, ho, hb⟩; have HO5 := Lib.hid (by simpa using ho : Own wr.heap.size w5 u5 (textB c.names[k])); have HB5 := Lib.hid hb; clear hb ho)
                | (at_builtin; refine app_rd rfl (.tmp 72) (.tmp 74) rfl b _ _ q _ rfl rfl (HX.out.below HB5.out) HO5.out.rd (Lim.mk_ (by have := HL.out; omega)) (Nat.le_trans hbl HB5.out.size) ?_; intro v6 w6 ho hg; have HX6 := Lib.hid ho; have HE6 := Lib.hid ((HE1.out.trans (HB5.out.mono hbl)).grown hg (Nat.le_trans hbl HB5.out.size) (fun k hk => (HX.out.lt k hk).1)); clear ho hg))
              go_roundw
              case rel => exact ⟨k + 1, by omega, by go_num, Lib.hid (by rw [HSN.out]; exact HX6.out), HE6⟩
              case measure => simp [intOf]; omega
            · have HV1 := Lib.hid (show Own w.heap.size wr _ (encB c) from by have := HX.out; rw [List.take_of_length_le (by omega), ← HQ1.out] at this; exact this.base_le (by omega))
              clear HX
              go_wp2_with fail
              refine bodyPost_ret (v := .tuple #[_, .int .i64 0]) (by simp [results, Tryd.results6, go_sem]) rfl ⟨_, rfl, HV1.out, HFIN.out wr HE1.out⟩
end Go.Proofs.YtcpicndapmaiaaaDoor
