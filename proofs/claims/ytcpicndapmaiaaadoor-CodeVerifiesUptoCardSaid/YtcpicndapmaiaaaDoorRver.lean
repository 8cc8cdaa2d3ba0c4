import Derived.Test.YtcpicndapmaiaaaDoorVer
namespace Go.Proofs.YtcpicndapmaiaaaDoor
open Go Go.RowKit
set_option maxHeartbeats 4000000 in
set_option maxRecDepth 100000 in
theorem refVerify_any (c : Cod) (A1 A2 A3 : Option Addr) (m1 m2 m3 : Nat) (w : World) (hc : IsC w c A1 A2 A3) (hs : c.Small) :
    Calls Tryd.prog 8 #[.agg #[.slice A1 c.ins.length m1, .slice A2 c.consts.length m2, .slice A3 c.names.length m3]] w fun e w' => e = .returned (.int .i64 (errI c.ok)) ∧ Below w.heap.size w w' := by
  obtain ⟨hs1, hs2, hs3, hs4, hs5⟩ := hs
  obtain ⟨hi, hk, hn⟩ := hc
  obtain ⟨ins, consts, names⟩ := c
  dsimp only at *
  have HR := Lib.hid (show errI (Cod.ok ⟨ins, consts, names⟩) = errI (!(decide ((ins.length : Int) < 1) || decide (20000 < (ins.length : Int)) || (consts.any fun d => !d.right 64)) && (names.all fun s => nameB s.toList) && (ins.all fun x => insB ins.length consts.length names.length x) && lastB ins) from rfl)
  obtain ⟨W0, hW0, hbW0, hbx, hsz⟩ : ∃ W0, W0 = w.alloc (.cells #[.slice A1 ins.length m1, .slice A2 consts.length m2, .slice A3 names.length m3] 26) ∧ Below w.heap.size w W0 ∧ W0.heap[w.heap.size]? = some (.cells #[.slice A1 ins.length m1, .slice A2 consts.length m2, .slice A3 names.length m3] 26 (0, 0)) ∧ W0.heap.size = w.heap.size + 1 := ⟨_, rfl, (Below.refl w.heap.size w).alloc (Nat.le_refl _) _, heap_alloc_new w _, by simp⟩
  have hb0 : W0.cell? ⟨w.heap.size, 0, none⟩ = some (.slice A1 ins.length m1) := cell_of_row W0 _ 0 _ _ _ hbx
  have hb1 : W0.cell? ⟨w.heap.size, 1, none⟩ = some (.slice A2 consts.length m2) := cell_of_row W0 _ 1 _ _ _ hbx
  have hb2 : W0.cell? ⟨w.heap.size, 2, none⟩ = some (.slice A3 names.length m3) := cell_of_row W0 _ 2 _ _ _ hbx
  have hsz' : w.heap.size < W0.heap.size := by omega
  have HI := Lib.hid (hi.below hbW0)
  have HK := Lib.hid (IsL.below hbW0 hk)
  have HN := Lib.hid (hn.below hbW0)
  have HW := Lib.hid hbW0
  have HW0 := Lib.hid hW0
  have HS4 := Lib.hid hs4
  have HS5 := Lib.hid hs5
  clear hbW0 hW0 hsz hbx hi hk hn hs4 hs5
  go_enter Tryd.func8, Tryd.ntmps8
  go_upto_region 1 with fail
  rw [← HW0.out]
  go_cut [19] (fun v wc => W0 = wc ∧ v = .bool (decide ((ins.length : Int) < 1) || decide (20000 < (ins.length : Int))))
  case first =>
    go_wp2_with fail
    all_goals go_meet
    all_goals (refine ⟨rfl, congrArg Value.bool ?_⟩; first | done | (simp [*]; done) | skip)
  case rest =>
    obtain ⟨rfl, rfl⟩ := hcut
    cases h1 : (decide ((ins.length : Int) < 1) || decide (20000 < (ins.length : Int))) with
    | true =>
      go_wp2
      go_ret
      exact ⟨ret_int (by rw [HR.out, h1]; rfl), HW.out⟩
    | false =>
      rw [h1] at HR
      have hlen : 1 ≤ ins.length ∧ ins.length ≤ 20000 := by
        simp only [Bool.or_eq_false_iff, decide_eq_false_iff_not] at h1; omega
      obtain ⟨hl1, hl2⟩ := hlen
      clear h1
      go_wp2
      go_loopw [4, 23] (fun _ i wr => ∃ k : Nat, k ≤ consts.length ∧ i = .int .i64 k ∧ Hid ((consts.take k).all (D.right 64) = true) ∧ Hid (Below W0.heap.size W0 wr)) (fun _ i _ => consts.length - (intOf i).toNat)
      case atStart => exact ⟨0, Nat.zero_le _, rfl, by simp [Hid], Below.refl _ _⟩
      case round =>
        obtain ⟨k, hk, rfl, hall, HB⟩ := hrel
        by_cases hlt : k < consts.length
        · obtain ⟨ad, c0, c1, c2, c3, rfl, g0, g1, g2, g3, hx⟩ := (IsL.below HB.out HK.out).get0 k hlt
          obtain ⟨B2, p2, B3, p3, rfl, rfl, rfl, rfl, -⟩ := hx.form
          have HC := Lib.hid (fun o => refCan_any consts[k] (wr.alloc o) _ _ _ _ (IsD.below ((Below.refl wr.heap.size wr).alloc (Nat.le_refl _) o) hx) (HS4.out _ (List.getElem_mem hlt)))
          clear hx
          cases hq : D.right 64 consts[k] with
          | true =>
            have HA := Lib.hid (take_all_snoc _ consts k hlt hall.out hq)
            rw [hq] at HC
            clear hq hall
            go_wp2_with (go_at_call 13; refine (HC.out _).mono ?_; rintro e w' ⟨rfl, hb⟩; have HB2 := Lib.hid hb; clear hb)
            go_roundw
            case rel => exact ⟨k + 1, by omega, by go_num, HA, HB.out.trans (((Below.refl wr.heap.size wr).alloc (Nat.le_refl _) _).trans (HB2.out.mono (by simp)) |>.mono HB.out.size)⟩
            case measure => simp [intOf]; omega
          | false =>
            have HA := Lib.hid (show (consts.any fun d => !d.right 64) = true from by rw [List.any_eq_true]; exact ⟨consts[k], List.getElem_mem hlt, by rw [hq]; rfl⟩)
            rw [hq] at HC
            clear hq hall
            go_wp2_with (go_at_call 13; refine (HC.out _).mono ?_; rintro e w' ⟨rfl, hb⟩; have HB2 := Lib.hid hb; clear hb)
            go_ret
            exact ⟨ret_int (by rw [HR.out, HA.out]; rfl), HW.out.trans ((HB.out.trans (((Below.refl wr.heap.size wr).alloc (Nat.le_refl _) _).trans (HB2.out.mono (by simp)) |>.mono HB.out.size)).mono HW.out.size)⟩
        · have HKA := Lib.hid (show (consts.any fun d => !d.right 64) = false from by
            have := hall.out; rw [List.take_of_length_le (by omega), allNot] at this; simpa using this)
          have HR1 := Lib.hid (show errI (Cod.ok ⟨ins, consts, names⟩) = errI ((names.all fun s => nameB s.toList) && (ins.all fun x => insB ins.length consts.length names.length x) && lastB ins) from by rw [HR.out, HKA.out]; rfl)
          obtain ⟨hc, hf⟩ := bcell HB.out
          clear hall HKA HR
          go_wp2
          clear hc hf
          obtain ⟨wo, rfl⟩ : ∃ wo : World, wo = wr := ⟨_, rfl⟩
          go_loopw [6, 34] (fun _ i wr => ∃ k : Nat, k ≤ names.length ∧ i = .int .i64 k ∧ Hid ((names.take k).all (fun s => nameB s.toList) = true) ∧ Hid (Below W0.heap.size W0 wr)) (fun _ i _ => names.length - (intOf i).toNat)
          case atStart => exact ⟨0, Nat.zero_le _, rfl, by simp [Hid], HB⟩
          case round =>
            clear HB
            obtain ⟨k, hk, rfl, hall, HB⟩ := hrel
            by_cases hlt : k < names.length
            · obtain ⟨ad, rfl, g0⟩ := (HN.out.below HB.out) k hlt
              have HC := Lib.hid (isName_any names[k] wr (HS5.out _ (List.getElem_mem hlt)))
              cases hq : nameB names[k].toList with
              | true =>
                have HA := Lib.hid (names_snoc _ names k hlt hall.out hq)
                rw [hq] at HC
                clear hq hall
                go_wp2_with (go_at_call 27; refine HC.out.mono ?_; rintro e w' ⟨rfl, hb⟩; have HB1 := Lib.hid hb; clear hb)
                go_roundw
                case rel => exact ⟨k + 1, by omega, by go_num, HA, HB.out.trans (HB1.out.mono HB.out.size)⟩
                case measure => simp [intOf]; omega
              | false =>
                have HA := Lib.hid (all_false_g (fun s : ByteArray => nameB s.toList) names k hlt hq)
                rw [hq] at HC
                clear hq hall
                go_wp2_with (go_at_call 27; refine HC.out.mono ?_; rintro e w' ⟨rfl, hb⟩; have HB1 := Lib.hid hb; clear hb)
                go_ret
                exact ⟨ret_int (by rw [HR1.out, HA.out]; simp [errI]), HW.out.trans ((HB.out.trans (HB1.out.mono HB.out.size)).mono HW.out.size)⟩
            · have HNA := Lib.hid (show names.all (fun s => nameB s.toList) = true from by have := hall.out; rwa [List.take_of_length_le (by omega)] at this)
              have HR2 := Lib.hid (show errI (Cod.ok ⟨ins, consts, names⟩) = errI ((ins.all fun x => insB ins.length consts.length names.length x) && lastB ins) from by rw [HR1.out, HNA.out]; rfl)
              obtain ⟨hc, hf⟩ := bcell HB.out
              clear hall HNA HR1
              go_wp2
              clear hc hf
              obtain ⟨wo2, rfl⟩ : ∃ wo : World, wo = wr := ⟨_, rfl⟩
              go_loopw [8, 45] (fun _ i wr => ∃ k : Nat, k ≤ ins.length ∧ i = .int .i64 k ∧ Hid ((ins.take k).all (fun x => insB ins.length consts.length names.length x) = true) ∧ Hid (Below W0.heap.size W0 wr)) (fun _ i _ => ins.length - (intOf i).toNat)
              case atStart => exact ⟨0, Nat.zero_le _, rfl, by simp [Hid], HB⟩
              case round =>
                clear HB
                obtain ⟨k, hk, rfl, hall, HB⟩ := hrel
                by_cases hlt : k < ins.length
                · obtain ⟨ad, rfl, g0, g1, g2⟩ := (HI.out.below HB.out) k hlt
                  obtain ⟨x, hx⟩ : ∃ x, ins[k] = x := ⟨_, rfl⟩
                  rw [hx] at g0 g1 g2
                  have HX := Lib.hid hx
                  clear hx
                  obtain ⟨hc, hf⟩ := bcell HB.out
                  have hz : w.heap.size < wr.heap.size := Nat.lt_of_lt_of_le hsz' HB.out.size
                  have HC := Lib.hid (fun W B1 B2 B3 q1 q2 q3 => instr_any ins.length consts.length names.length B1 B2 B3 q1 q2 q3 x W)
                  obtain ⟨q, hq⟩ : ∃ q, insB ins.length consts.length names.length x = q := ⟨_, rfl⟩
                  have HQ := Lib.hid hq
                  rw [hq] at HC
                  clear hq
                  cases q with
                  | true =>
                    have HA := Lib.hid (ins_snoc (fun x => insB ins.length consts.length names.length x) ins k hlt hall.out (by rw [HX.out]; exact HQ.out))
                    clear hall HX HQ
                    go_wp2_with (go_at_call 28; refine (HC.out _ _ _ _ _ _ _).mono ?_; rintro e w' ⟨rfl, hb⟩; have HB1 := Lib.hid hb; clear hb)
                    go_roundw
                    case rel => exact ⟨k + 1, by omega, by go_num, HA, HB.out.trans ((((Below.refl wr.heap.size wr).alloc (Nat.le_refl _) _).trans (HB1.out.mono (by simp))).mono HB.out.size)⟩
                    case measure => simp [intOf]; omega
                  | false =>
                    have HA := Lib.hid (all_false_g (fun x => insB ins.length consts.length names.length x) ins k hlt (by rw [HX.out]; exact HQ.out))
                    clear hall HX HQ
                    go_wp2_with (go_at_call 28; refine (HC.out _ _ _ _ _ _ _).mono ?_; rintro e w' ⟨rfl, hb⟩; have HB1 := Lib.hid hb; clear hb)
                    go_ret
                    exact ⟨ret_int (by rw [HR2.out, HA.out]; rfl), HW.out.trans ((HB.out.trans ((((Below.refl wr.heap.size wr).alloc (Nat.le_refl _) _).trans (HB1.out.mono (by simp))).mono HB.out.size)).mono HW.out.size)⟩
                · have HIA := Lib.hid (show ins.all (fun x => insB ins.length consts.length names.length x) = true from by have := hall.out; rwa [List.take_of_length_le (by omega)] at this)
                  have HR3 := Lib.hid (show errI (Cod.ok ⟨ins, consts, names⟩) = errI (lastB ins) from by rw [HR2.out, HIA.out]; rfl)
                  have hlast : ins.getLastD default = ins[ins.length - 1]'(by omega) := by
                    rw [List.getLastD_eq_getLast?, List.getLast?_eq_getElem?, List.getElem?_eq_getElem (by omega)]; rfl
                  obtain ⟨ad, rfl, g0, g1, g2⟩ := (HI.out.below HB.out) (ins.length - 1) (by omega)
                  have hlb : lastB ins = ((((ins.getLastD default).op == 14) || ((ins.getLastD default).op == 13)) || ((ins.getLastD default).op == 7) || ((ins.getLastD default).op == 12)) := rfl
                  rw [hlast] at hlb
                  have HLB := Lib.hid hlb
                  clear hlb hlast hall HIA HR2
                  generalize ins[ins.length - 1]'(by omega) = x at g0 g1 g2 HLB
                  obtain ⟨op, a, b⟩ := x
                  dsimp only at g0 g1 g2 HLB
                  obtain ⟨hc, hf⟩ := bcell HB.out
                  have hz : w.heap.size < wr.heap.size := Nat.lt_of_lt_of_le hsz' HB.out.size
                  have HWf := Lib.hid (HW.out.trans (HB.out.mono HW.out.size))
                  clear HB
                  by_cases h1 : op = 14 ∨ op = 13 ∨ op = 7 ∨ op = 12
                  · have HL2 := Lib.hid (show lastB ins = true from by rw [HLB.out]; rcases h1 with rfl | rfl | rfl | rfl <;> rfl)
                    clear HLB
                    rcases h1 with rfl | rfl | rfl | rfl
                    all_goals
                      go_wp2_with fail
                      go_ret
                      exact ⟨ret_int (by rw [HR3.out, HL2.out]; rfl), HWf.out⟩
                  · have e14 : (op == 14) = false := beq_eq_false_iff_ne.2 (by omega)
                    have e13 : (op == 13) = false := beq_eq_false_iff_ne.2 (by omega)
                    have e7 : (op == 7) = false := beq_eq_false_iff_ne.2 (by omega)
                    have e12 : (op == 12) = false := beq_eq_false_iff_ne.2 (by omega)
                    have n14 : (op != 14) = true := bne_iff_ne.2 (by omega)
                    have n13 : (op != 13) = true := bne_iff_ne.2 (by omega)
                    have n7 : (op != 7) = true := bne_iff_ne.2 (by omega)
                    have n12 : (op != 12) = true := bne_iff_ne.2 (by omega)
                    have HL2 := Lib.hid (show lastB ins = false from by rw [HLB.out, e14, e13, e7, e12]; rfl)
                    clear h1 HLB
                    go_wp2_with fail
                    go_ret
                    exact ⟨ret_int (by rw [HR3.out, HL2.out]; rfl), HWf.out⟩
end Go.Proofs.YtcpicndapmaiaaaDoor
