/- code.Encode at a code that passes. -/
import Derived.Test.YtcpicndapmaiaaaDoorE5
namespace Go.Proofs.YtcpicndapmaiaaaDoor
open Go Go.RowKit
set_option maxRecDepth 100000 in
set_option maxHeartbeats 4000000 in
theorem enc_ok (c : Cod) (A1 A2 A3 : Option Addr) (m1 m2 m3 : Nat) (w : World) (hc : IsC w c A1 A2 A3) (hs : c.Small) (hk : c.ok = true) (hlen : (encB c).length ≤ 90000000) (hpl : ∀ d, d ∈ c.consts → (printD d).length ≤ 90000000) (hin : ∀ x, x ∈ c.ins → 0 ≤ x.op ∧ x.op ≤ 4611686018427387904 ∧ 0 ≤ x.a ∧ x.a ≤ 4611686018427387904 ∧ 0 ≤ x.b ∧ x.b ≤ 4611686018427387904) :
    Calls Tryd.prog 5 #[.agg #[.slice A1 c.ins.length m1, .slice A2 c.consts.length m2, .slice A3 c.names.length m3]] w fun e w' => ∃ v', e = .returned (.tuple #[v', .int .i64 0]) ∧ Own w.heap.size w' v' (encB c) ∧ Below w.heap.size w w' := by
  have HB0 := Lib.hid ((Below.refl w.heap.size w).alloc (Nat.le_refl _) (.cells #[.slice A1 c.ins.length m1, .slice A2 c.consts.length m2, .slice A3 c.names.length m3] 26))
  have HI0 := Lib.hid (hc.below HB0.out)
  have HC := Lib.hid (verify_any c A1 A2 A3 m1 m2 m3 _ HI0.out hs)
  have HS := Lib.hid hs
  have HIN := Lib.hid hin
  have HPL := Lib.hid hpl
  rw [hk] at HC
  have HLN := Lib.hid (show (putB c.ins.length).length + ((c.ins.flatMap encI).length + ((putB c.consts.length).length + ((c.consts.flatMap encK).length + ((putB c.names.length).length + (c.names.flatMap textB).length)))) ≤ 90000000 from by simpa [encB] using hlen)
  have HE := Lib.hid (show encB c = putB c.ins.length ++ (c.ins.flatMap encI ++ (putB c.consts.length ++ (c.consts.flatMap encK ++ (putB c.names.length ++ c.names.flatMap textB)))) from rfl)
  have hl1 := hs.ins
  have hl2 := hs.consts
  have hl3 := hs.names
  clear hc hs hk hlen hin hpl
  go_enter Tryd.func5, Tryd.ntmps5
  go_upto_region 5 with (go_at_call 7; refine HC.out.mono ?_; rintro e w' ⟨rfl, hb⟩; have HB := Lib.hid hb; simp only [errI]; have hss : w.heap.size < w'.heap.size := (by have := hb.size; simp at this; omega); clear hb)
  obtain ⟨W0, hW0⟩ : ∃ W0, w'.alloc (.cells #[.slice none 0 0] 27) = W0 := ⟨_, rfl⟩
  obtain ⟨b, hbb⟩ : ∃ b, w'.heap.size = b := ⟨_, rfl⟩
  rw [hW0, hbb]
  have HX0 := Lib.hid (show Bx b b [] W0 from ⟨.slice none 0 0, by rw [← hW0, ← hbb]; exact heap_alloc_new w' _, Own.nil _ _, by simp [Value.ownBlock], Nat.le_refl _⟩)
  have HW := Lib.hid (fun y (h : Eb b W0 y) => show Below w'.heap.size w' y from ((Below.refl _ _).alloc (Nat.le_refl _) (.cells #[.slice none 0 0] 27) : Below w'.heap.size w' (w'.alloc (.cells #[.slice none 0 0] 27))).trans (by rw [hW0]; exact Eb.below h (by rw [← hW0]; simp) (by omega)))
  have HBS := Lib.hid (fun y (h : Eb b W0 y) => show b < y.heap.size from by have h1 := h.size; rw [← hW0] at h1; simp at h1; omega)
  have HBX := Lib.hid (fun y (h : Eb b W0 y) => show y.heap[w.heap.size]? = some (.cells #[.slice A1 c.ins.length m1, .slice A2 c.consts.length m2, .slice A3 c.names.length m3] 26 (0, 0)) from by
    rw [(HW.out y h).block _ hss, HB.out.block _ (by simp)]; exact heap_alloc_new w _)
  have HI := Lib.hid (fun y (h : Eb b W0 y) => HI0.out.below (HB.out.trans ((HW.out y h).mono HB.out.size)))
  have HFIN := Lib.hid (fun y (h : Eb b W0 y) => HB0.out.trans ((HB.out.trans ((HW.out y h).mono HB.out.size)).mono (by simp)))
  have hbw : w.heap.size < b := by omega
  have HBW := Lib.hid hbw
  have HEB := Lib.hid (Eb.refl b W0)
  clear hW0 hss HC HI0 HB0 hbb
  clear HB
  have hb0 : W0.cell? ⟨w.heap.size, 0, none⟩ = some (.slice A1 c.ins.length m1) := cell_of_row W0 _ 0 _ _ _ (HBX.out W0 HEB.out)
  have hlt0 : w.heap.size < W0.heap.size := by have := HBS.out W0 HEB.out; omega
  go_wp2_with fail
  refine (put1 c.ins.length b [] W0 HX0.out (by have := HS.out.ins; omega) (by simp)).mono ?_
  rintro e w1 ⟨rfl, hx, he⟩
  have HX := Lib.hid (show Bx b b (putB c.ins.length) w1 from hx)
  have HE1 := Lib.hid he
  clear hx he hb0 hlt0 HX0 HEB
  have hb1 : w1.cell? ⟨w.heap.size, 0, none⟩ = some (.slice A1 c.ins.length m1) := cell_of_row w1 _ 0 _ _ _ (HBX.out w1 HE1.out)
  go_wp2_with fail
  clear hb1
  go_loopw [8, 28] (fun _ i wr => ∃ k : Nat, k ≤ c.ins.length ∧ i = .int .i64 k ∧ Hid (Bx b b (putB c.ins.length ++ (c.ins.take k).flatMap encI) wr) ∧ Hid (Eb b W0 wr)) (fun _ i _ => c.ins.length - (intOf i).toNat)
  case atStart => exact ⟨0, Nat.zero_le _, rfl, by simpa [Hid] using HX.out, HE1⟩
  case round =>
    clear HX HE1
    obtain ⟨k, hk, rfl, HX, HE1⟩ := hrel
    by_cases hlt : k < c.ins.length
    · have hc := (HI.out wr HE1.out).ins k hlt
      obtain ⟨ad, rfl, g0, g1, g2⟩ := hc
      have hq := HIN.out _ (List.getElem_mem hlt)
      have HSN := Lib.hid (show putB c.ins.length ++ (c.ins.take (k + 1)).flatMap encI = (putB c.ins.length ++ (c.ins.take k).flatMap encI) ++ encI c.ins[k] from by rw [flat_snocE encI _ k hlt, List.append_assoc])
      have HL := Lib.hid (show (putB c.ins.length ++ (c.ins.take k).flatMap encI).length ≤ 90000000 from by
        have h1 := flat_take_len encI c.ins k
        have h2 := HLN.out
        rw [List.length_append]; omega)
      have hbl := HBS.out wr HE1.out
      have HC1 := Lib.hid (fun o => by have := put3 c.ins[k] b _ (wr.alloc o) (HX.out.alloc o) hq HL.out; rw [World.size_alloc] at this; exact this)
      clear hq
      go_wp2_with fail
      refine (HC1.out _).mono ?_
      rintro e w2 ⟨rfl, hx, he⟩
      have HX2 := Lib.hid hx
      have HE2 := Lib.hid he
      clear hx he
      go_wp2_with fail
      go_roundw
      case rel => exact ⟨k + 1, by omega, by go_num, Lib.hid (by rw [HSN.out]; exact HX2.out), (HE1.out.alloc _).trans HE2.out⟩
      case measure => simp [intOf]; omega
    · have HX1 := Lib.hid (show Bx b b (putB c.ins.length ++ c.ins.flatMap encI) wr from by have := HX.out; rwa [List.take_of_length_le (by omega)] at this)
      have hb1 : wr.cell? ⟨w.heap.size, 1, none⟩ = some (.slice A2 c.consts.length m2) := cell_of_row wr _ 1 _ _ _ (HBX.out wr HE1.out)
      have hbl := HBS.out wr HE1.out
      have hwl : w.heap.size < wr.heap.size := by omega
      clear HX
      go_wp2_with fail
      refine (put1 c.consts.length b _ wr HX1.out (by have := HS.out.consts; omega) (by have := HLN.out; rw [List.length_append]; omega)).mono ?_
      rintro e w2 ⟨rfl, hx, he⟩
      have HX2 := Lib.hid hx
      have HE2 := Lib.hid (HE1.out.trans he)
      clear hx he HE1 HX1 hb1 hbl hwl
      have hb1 : w2.cell? ⟨w.heap.size, 1, none⟩ = some (.slice A2 c.consts.length m2) := cell_of_row w2 _ 1 _ _ _ (HBX.out w2 HE2.out)
      go_wp2_with fail
      clear hb1
      obtain ⟨q0, hq0⟩ : ∃ q, putB c.ins.length ++ c.ins.flatMap encI ++ putB c.consts.length = q := ⟨_, rfl⟩
      have HQ0 := Lib.hid hq0
      have HLQ := Lib.hid (show q0.length + (c.consts.flatMap encK).length ≤ 90000000 from by have := HLN.out; rw [← hq0]; simp only [List.length_append]; omega)
      rw [hq0] at HX2
      clear hq0
      obtain ⟨wo, rfl⟩ : ∃ wo : World, wo = w2 := ⟨_, rfl⟩
      go_loopw [10, 51] (fun _ i wr => ∃ k : Nat, k ≤ c.consts.length ∧ i = .int .i64 k ∧ Hid (Bx b b (q0 ++ (c.consts.take k).flatMap encK) wr) ∧ Hid (Eb b W0 wr)) (fun _ i _ => c.consts.length - (intOf i).toNat)
      case atStart => exact ⟨0, Nat.zero_le _, rfl, by simpa [Hid] using HX2.out, HE2⟩
      case round =>
        clear HX2 HE2 hlt
        obtain ⟨k, hk, rfl, HX, HE1⟩ := hrel
        have hbl := HBS.out wr HE1.out
        by_cases hlt : k < c.consts.length
        · obtain ⟨ad, c0, c1, c2, c3, rfl, g0, g1, g2, g3, hx⟩ := IsL.get0 (HI.out wr HE1.out).consts k hlt
          have HD := Lib.hid hx
          obtain ⟨B2, m2', B3, m3', rfl, rfl, rfl, rfl, -⟩ := hx.form
          have HMEM := Lib.hid (List.getElem_mem hlt)
          have HSN := Lib.hid (show q0 ++ (c.consts.take (k + 1)).flatMap encK = (q0 ++ (c.consts.take k).flatMap encK) ++ encK c.consts[k] from by rw [flat_snocE encK _ k hlt, List.append_assoc])
          have HL := Lib.hid (show (q0 ++ (c.consts.take k).flatMap encK).length + (encK c.consts[k]).length ≤ 90000000 from by
            have h1 := flat_take_len encK c.consts (k + 1)
            have h2 := HLQ.out
            rw [flat_snocE encK _ k hlt, List.length_append] at h1
            rw [List.length_append]; omega)
          obtain ⟨q, hq⟩ : ∃ q, q0 ++ (c.consts.take k).flatMap encK = q := ⟨_, rfl⟩
          rw [hq] at HX HL HSN
          clear hq
          obtain ⟨v, hv1, hv2⟩ : ∃ v, wr.heap[b]? = some (.cells #[v] 27 (0, 0)) ∧ Own b wr v q := by obtain ⟨v, h1, h2, _⟩ := HX.out; exact ⟨v, h1, h2⟩
          obtain ⟨A', n', c', rfl⟩ := hv2.form3
          have hcb : wr.cell? ⟨b, 0, none⟩ = some (.slice A' n' c') := cell_of_row wr _ 0 _ _ _ hv1
          have hfb : wr.frozen? ⟨b, 0, none⟩ = false := frozen_of_row wr _ 0 _ _ hv1
          have HRD := Lib.hid hv2.rd
          have HPR := Lib.hid (fun y (h : Below wr.heap.size wr y) => print_any c.consts[k] y _ _ _ _ (HD.out.below h) (HS.out.each _ HMEM.out) (HPL.out _ HMEM.out))
          have HTX := Lib.hid (fun y (t : ByteArray) (h : Below wr.heap.size wr y) (ht : t.toList = printOr c.consts[k]) => text_any _ q t y (Rd.below h HRD.out) (by have := HL.out; omega) (by have := HL.out; rw [← toList_len, ht]; unfold encK textL at this; rw [List.length_append] at this; omega))
          have HA := Lib.hid (fun o => show Below wr.heap.size wr (wr.alloc o).drew from ((Below.refl wr.heap.size wr).alloc (Nat.le_refl _) o).trans ⟨rfl, rfl, rfl, Nat.le_refl _, fun _ _ => rfl⟩)
          clear hv1 hv2 hx
          go_upto_region 16 with fail
          go_region_with (first
            | (go_at_call 12; refine (HPR.out _ (HA.out _)).mono ?_; rintro e w3 ⟨t, rfl, ht, hb⟩; have HT := Lib.hid ht; have HB3 := Lib.hid hb; obtain ⟨hc3, hf3⟩ := bcell hb; have hz3 : b < w3.heap.size := (Nat.lt_of_lt_of_le hbl (Nat.le_trans (HA.out _).size hb.size)); clear hb ht)
            | (go_at_call 19; refine (HTX.out _ _ ((HA.out _).trans (HB3.out.mono (by simp))) HT.out).mono ?_; rintro e w4 ⟨v4, rfl, ho, hb⟩; obtain ⟨A4, n4, c4, rfl⟩ := ho.form3; have HB4 := Lib.hid ((HA.out (.cells #[Value.int .i64 c.consts[k].kind, .string c.consts[k].text, .slice B2 c.consts[k].list.length m2', .slice B3 c.consts[k].tail.length m3'] 37)).trans ((HB3.out.trans (hb.mono HB3.out.size)).mono (HA.out _).size)); have HO4 := Lib.hid (show Own wr.heap.size w4 _ (q ++ encK c.consts[k]) from by unfold encK; rw [← HT.out, ← textB_eq]; exact ho.base_le (Nat.le_trans (HA.out (.cells #[Value.int .i64 c.consts[k].kind, .string c.consts[k].text, .slice B2 c.consts[k].list.length m2', .slice B3 c.consts[k].tail.length m3'] 37)).size HB3.out.size)); obtain ⟨hc4, hf4⟩ := bcell hb; have hz4 : b < w4.heap.size := Nat.lt_of_lt_of_le hz3 hb.size; clear hb ho))
          all_goals go_wp2_with fail
          all_goals go_roundw
          all_goals first
            | exact ⟨⟨k + 1, by omega, by go_num, Lib.hid (by rw [HSN.out]; exact Bx.store HX.out HB4.out HO4.out (by omega)), HE1.out.trans ((Eb.of HB4.out).trans (Eb.set b _ _))⟩, by simp [intOf]; omega⟩
            | exact ⟨k + 1, by omega, by go_num, Lib.hid (by rw [HSN.out]; exact Bx.store HX.out HB4.out HO4.out (by omega)), HE1.out.trans ((Eb.of HB4.out).trans (Eb.set b _ _))⟩
            | (simp [intOf]; omega)
        · have HX1 := Lib.hid (show Bx b b (q0 ++ c.consts.flatMap encK) wr from by have := HX.out; rwa [List.take_of_length_le (by omega)] at this)
          have hb1 : wr.cell? ⟨w.heap.size, 2, none⟩ = some (.slice A3 c.names.length m3) := cell_of_row wr _ 2 _ _ _ (HBX.out wr HE1.out)
          have hwl : w.heap.size < wr.heap.size := by omega
          clear HX
          go_wp2_with fail
          refine (put1 c.names.length b _ wr HX1.out (by omega) (by have := HLQ.out; rw [List.length_append]; omega)).mono ?_
          rintro e w3 ⟨rfl, hx, he⟩
          have HX3 := Lib.hid hx
          have HE3 := Lib.hid (HE1.out.trans he)
          clear hx he HE1 HX1 hb1 hbl hwl
          have hb1 : w3.cell? ⟨w.heap.size, 2, none⟩ = some (.slice A3 c.names.length m3) := cell_of_row w3 _ 2 _ _ _ (HBX.out w3 HE3.out)
          go_wp2_with fail
          clear hb1
          obtain ⟨q1, hq1⟩ : ∃ q, q0 ++ c.consts.flatMap encK ++ putB c.names.length = q := ⟨_, rfl⟩
          have HQ1 := Lib.hid (show encB c = q1 ++ c.names.flatMap textB from by rw [HE.out, ← hq1, ← HQ0.out]; simp only [List.append_assoc])
          have HLQ1 := Lib.hid (show q1.length + (c.names.flatMap textB).length ≤ 90000000 from by have := HLN.out; rw [← hq1, ← HQ0.out]; simp only [List.length_append]; omega)
          rw [hq1] at HX3
          clear hq1
          obtain ⟨wo3, rfl⟩ : ∃ wo : World, wo = w3 := ⟨_, rfl⟩
          go_loopw [12, 69] (fun _ i wr => ∃ k : Nat, k ≤ c.names.length ∧ i = .int .i64 k ∧ Hid (Bx b b (q1 ++ (c.names.take k).flatMap textB) wr) ∧ Hid (Eb b W0 wr)) (fun _ i _ => c.names.length - (intOf i).toNat)
          case atStart => exact ⟨0, Nat.zero_le _, rfl, by simpa [Hid] using HX3.out, HE3⟩
          case round =>
            clear HX3 HE3 hlt
            obtain ⟨k, hk, rfl, HX, HE1⟩ := hrel
            have hbl := HBS.out wr HE1.out
            obtain ⟨v, hv1, hv2⟩ : ∃ v, wr.heap[b]? = some (.cells #[v] 27 (0, 0)) ∧ Own b wr v (q1 ++ (c.names.take k).flatMap textB) := by obtain ⟨v, h1, h2, _⟩ := HX.out; exact ⟨v, h1, h2⟩
            obtain ⟨A', n', c', rfl⟩ := hv2.form3
            have hcb : wr.cell? ⟨b, 0, none⟩ = some (.slice A' n' c') := cell_of_row wr _ 0 _ _ _ hv1
            have hfb : wr.frozen? ⟨b, 0, none⟩ = false := frozen_of_row wr _ 0 _ _ hv1
            have HV := Lib.hid hv2
            clear hv1 hv2
            by_cases hlt : k < c.names.length
            · obtain ⟨ad, rfl, g0⟩ := (HI.out wr HE1.out).names k hlt
              have HMEM := Lib.hid (List.getElem_mem hlt)
              have HSN := Lib.hid (show q1 ++ (c.names.take (k + 1)).flatMap textB = (q1 ++ (c.names.take k).flatMap textB) ++ textB c.names[k] from by rw [flat_snocE textB _ k hlt, List.append_assoc])
              have HL := Lib.hid (show (q1 ++ (c.names.take k).flatMap textB).length ≤ 90000000 from by
                have h1 := flat_take_len textB c.names k
                have h2 := HLQ1.out
                rw [List.length_append]; omega)
              obtain ⟨q, hq⟩ : ∃ q, q1 ++ (c.names.take k).flatMap textB = q := ⟨_, rfl⟩
              rw [hq] at HX HL HSN HV
              clear hq
              have HTX := Lib.hid (text_any _ q c.names[k] wr HV.out.rd (by have := HL.out; omega) (by have := HS.out.text _ HMEM.out; omega))
              go_wp2_with (go_at_call 19; refine HTX.out.mono ?_; rintro e w4 ⟨v4, rfl, ho, hb⟩; obtain ⟨A4, n4, c4, rfl⟩ := ho.form3; have HO4 := Lib.hid ho; have HB4 := Lib.hid hb; obtain ⟨hc4, hf4⟩ := bcell hb; have hz4 : b < w4.heap.size := Nat.lt_of_lt_of_le hbl hb.size; clear hb ho)
              go_roundw
              case rel => exact ⟨k + 1, by omega, by go_num, Lib.hid (by rw [HSN.out]; exact Bx.store HX.out HB4.out HO4.out (by omega)), HE1.out.trans ((Eb.of HB4.out).trans (Eb.set b _ _))⟩
              case measure => simp [intOf]; omega
            · have HV1 := Lib.hid (show Own w.heap.size wr (.slice A' n' c') (encB c) from by have := HV.out; rw [List.take_of_length_le (by omega), ← HQ1.out] at this; exact this.base_le (by omega))
              clear HX HV
              go_wp2_with fail
              exact bodyPost_ret (v := .tuple #[.slice A' n' c', .int .i64 0]) (by simp [results, Tryd.results5, go_sem]) rfl ⟨_, rfl, HV1.out, HFIN.out wr HE1.out⟩
end Go.Proofs.YtcpicndapmaiaaaDoor
