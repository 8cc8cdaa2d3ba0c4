import Derived.Test.YtcpicndapmaiaaaDoorCd
namespace Go.Proofs.YtcpicndapmaiaaaDoor
open Go Go.RowKit
def lastB (l : List Ins) : Bool := (((l.getLastD default).op == 14) || ((l.getLastD default).op == 13)) || ((l.getLastD default).op == 7) || ((l.getLastD default).op == 12)
def Cod.ok (c : Cod) : Bool := !(decide ((c.ins.length : Int) < 1) || decide (20000 < (c.ins.length : Int)) || (c.consts.any fun d => !d.right 64)) && (c.names.all fun s => nameB s.toList) && (c.ins.all fun x => insB c.ins.length c.consts.length c.names.length x) && lastB c.ins
def errI (b : Bool) : Int := if b then 0 else 130
theorem wrongV_any (d : D) (w : World) (c0 c1 c2 c3 : Value) (hd : IsD w d c0 c1 c2 c3) (hs : D.Small 1048576 d) :
    Calls Tryd.prog 23 #[.agg #[c0, c1, c2, c3]] w fun e w' => e = .returned (.bool (!d.right 64)) ∧ Below w.heap.size w w' := by
  have HB := Lib.hid ((Below.refl w.heap.size w).alloc (Nat.le_refl _) (.cells #[c0, c1, c2, c3] 37))
  have HC := Lib.hid (can_any d _ c0 c1 c2 c3 (IsD.below HB.out hd) hs)
  clear hd hs
  go_enter Tryd.func23, Tryd.ntmps23
  go_wp2_with (go_at_call 14; refine HC.out.mono ?_; rintro e w' ⟨rfl, hb⟩)
  go_ret
  exact ⟨rfl, HB.out.trans (hb.mono (by simp))⟩
theorem e23 : ∀ args w, (callFunc 23 args).run Tryd.prog w = .ok (.enter 23 args) w := enters_of Tryd.func23 (by kernel_rfl) rfl
theorem predV (l : List D) (hs : ∀ d, d ∈ l → D.Small 1048576 d) (W : World) : Pred 23 #[] (fun d => !d.right 64) l W :=
  fun d hd W' c0 c1 c2 c3 hb hv => wrongV_any d W' c0 c1 c2 c3 hv (hs d hd)
theorem names_snoc (p : ByteArray → Bool) (l : List ByteArray) (k : Nat) (hk : k < l.length) (h : (l.take k).all p = true) (h' : p l[k] = true) : (l.take (k + 1)).all p = true := by
  rw [List.take_succ_eq_append_getElem hk, List.all_append, h]; simp [h']
theorem ins_snoc (p : Ins → Bool) (l : List Ins) (k : Nat) (hk : k < l.length) (h : (l.take k).all p = true) (h' : p l[k] = true) : (l.take (k + 1)).all p = true := by
  rw [List.take_succ_eq_append_getElem hk, List.all_append, h]; simp [h']
theorem all_false_g {α : Type} (p : α → Bool) (l : List α) (k : Nat) (hk : k < l.length) (h : p l[k] = false) : l.all p = false := by
  rw [List.all_eq_false]; exact ⟨l[k], List.getElem_mem hk, by simp [h]⟩
set_option maxHeartbeats 4000000 in
set_option maxRecDepth 100000 in
theorem verify_any (c : Cod) (A1 A2 A3 : Option Addr) (m1 m2 m3 : Nat) (w : World) (hc : IsC w c A1 A2 A3) (hs : c.Small) :
    Calls Tryd.prog 7 #[.agg #[.slice A1 c.ins.length m1, .slice A2 c.consts.length m2, .slice A3 c.names.length m3]] w fun e w' => e = .returned (.int .i64 (errI c.ok)) ∧ Below w.heap.size w w' := by
  obtain ⟨hs1, hs2, hs3, hs4, hs5⟩ := hs
  obtain ⟨hi, hk, hn⟩ := hc
  obtain ⟨ins, consts, names⟩ := c
  dsimp only at *
  have HR := Lib.hid (show errI (Cod.ok ⟨ins, consts, names⟩) = errI (!(decide ((ins.length : Int) < 1) || decide (20000 < (ins.length : Int)) || (consts.any fun d => !d.right 64)) && (names.all fun s => nameB s.toList) && (ins.all fun x => insB ins.length consts.length names.length x) && lastB ins) from rfl)
  obtain ⟨W0, hW0, hbW0, hbx, hsz⟩ : ∃ W0, W0 = w.alloc (.cells #[.slice A1 ins.length m1, .slice A2 consts.length m2, .slice A3 names.length m3] 26) ∧ Below w.heap.size w W0 ∧ W0.heap[w.heap.size]? = some (.cells #[.slice A1 ins.length m1, .slice A2 consts.length m2, .slice A3 names.length m3] 26 (0, 0)) ∧ W0.heap.size = w.heap.size + 1 := ⟨_, rfl, (Below.refl w.heap.size w).alloc (Nat.le_refl _) _, heap_alloc_new w _, by simp⟩
  have hb0 : W0.cell? ⟨w.heap.size, 0, none⟩ = some (.slice A1 ins.length m1) := cell_of_row W0 _ 0 _ _ _ hbx
  have hb1 : W0.cell? ⟨w.heap.size, 1, none⟩ = some (.slice A2 consts.length m2) := cell_of_row W0 _ 1 _ _ _ hbx
  have hb2 : W0.cell? ⟨w.heap.size, 2, none⟩ = some (.slice A3 names.length m3) := cell_of_row W0 _ 2 _ _ _ hbx
  have hsz' : w.heap.size < W0.heap.size := by omega
  have HI := Lib.hid (hi.below hbW0)
  have HK := Lib.hid (IsL.below hbW0 hk)
  have HN := Lib.hid (hn.below hbW0)
  have HW := Lib.hid hbW0
  have HW0 := Lib.hid hW0
  have HS4 := Lib.hid hs4
  have HS5 := Lib.hid hs5
  clear hbW0 hW0 hsz hbx hi hk hn hs4 hs5
  obtain ⟨a0, ha0⟩ : ∃ b, (consts.any fun d => !d.right 64) = b := ⟨_, rfl⟩
  have HC := Lib.hid (show ∀ W m, Below W0.heap.size W0 W → Calls Tryd.prog 24 #[.slice A2 consts.length m, .func (.func 23) #[] #[]] W fun e w' => e = .returned (.bool a0) ∧ Below W.heap.size W w' from fun W m hb => by
    rw [← ha0]
    exact containsFunc_any consts A2 m 23 #[] (fun d => !d.right 64) W e23 (IsL.below hb HK.out) (by unfold maxLen; omega) (predV consts HS4.out W))
  rw [ha0] at HR
  clear ha0
  go_enter Tryd.func7, Tryd.ntmps7
  go_upto_region 1 with fail
  rw [← HW0.out]
  go_upto_region 3 with fail
  go_cut [26] (fun v wc => Hid (Below W0.heap.size W0 wc) ∧ v = .bool (decide ((ins.length : Int) < 1) || decide (20000 < (ins.length : Int)) || a0))
  case first =>
    go_wp2_with (go_at_call 24; refine (HC.out _ _ (Below.refl _ _)).mono ?_; rintro e w' ⟨rfl, hb⟩; have HB1 := Lib.hid hb; clear hb)
    all_goals go_meet
    all_goals (refine ⟨by first | exact HB1.out | exact Below.refl _ _, congrArg Value.bool ?_⟩; first | done | (simp [*]; done) | skip)
  case rest =>
    obtain ⟨HB, rfl⟩ := hcut
    obtain ⟨hc, hf⟩ := bcell HB.out
    cases h1 : (decide ((ins.length : Int) < 1) || decide (20000 < (ins.length : Int)) || a0) with
    | true =>
      go_wp2
      go_ret
      exact ⟨ret_int (by rw [HR.out, h1]; rfl), HW.out.trans (HB.out.mono HW.out.size)⟩
    | false =>
      rw [h1] at HR
      have hlen : 1 ≤ ins.length ∧ ins.length ≤ 20000 := by
        simp only [Bool.or_eq_false_iff, decide_eq_false_iff_not] at h1; omega
      obtain ⟨hl1, hl2⟩ := hlen
      clear h1 HC a0 HK
      go_wp2
      clear hc hf
      obtain ⟨wo, rfl⟩ : ∃ wo : World, wo = wc := ⟨_, rfl⟩
      go_loopw [6, 30] (fun _ i wr => ∃ k : Nat, k ≤ names.length ∧ i = .int .i64 k ∧ Hid ((names.take k).all (fun s => nameB s.toList) = true) ∧ Hid (Below W0.heap.size W0 wr)) (fun _ i _ => names.length - (intOf i).toNat)
      case atStart => exact ⟨0, Nat.zero_le _, rfl, by simp [Hid], HB⟩
      case round =>
        clear HB
        obtain ⟨k, hk, rfl, hall, HB⟩ := hrel
        by_cases hlt : k < names.length
        · obtain ⟨ad, rfl, g0⟩ := (HN.out.below HB.out) k hlt
          have HC := Lib.hid (symbol_any names[k] wr (HS5.out _ (List.getElem_mem hlt)))
          cases hq : nameB names[k].toList with
          | true =>
            have HA := Lib.hid (names_snoc _ names k hlt hall.out hq)
            rw [hq] at HC
            clear hq hall
            go_wp2_with (go_at_call 25; refine HC.out.mono ?_; rintro e w' ⟨rfl, hb⟩; have HB1 := Lib.hid hb; clear hb)
            go_roundw
            case rel => exact ⟨k + 1, by omega, by go_num, HA, HB.out.trans (HB1.out.mono HB.out.size)⟩
            case measure => simp [intOf]; omega
          | false =>
            have HA := Lib.hid (all_false_g (fun s : ByteArray => nameB s.toList) names k hlt hq)
            rw [hq] at HC
            clear hq hall
            go_wp2_with (go_at_call 25; refine HC.out.mono ?_; rintro e w' ⟨rfl, hb⟩; have HB1 := Lib.hid hb; clear hb)
            go_ret
            exact ⟨ret_int (by rw [HR.out, HA.out]; simp [errI]), HW.out.trans ((HB.out.trans (HB1.out.mono HB.out.size)).mono HW.out.size)⟩
        · have HNA := Lib.hid (show names.all (fun s => nameB s.toList) = true from by have := hall.out; rwa [List.take_of_length_le (by omega)] at this)
          have HR2 := Lib.hid (show errI (Cod.ok ⟨ins, consts, names⟩) = errI ((ins.all fun x => insB ins.length consts.length names.length x) && lastB ins) from by rw [HR.out, HNA.out]; rfl)
          obtain ⟨hc, hf⟩ := bcell HB.out
          clear hall HNA HR
          go_wp2
          clear hc hf
          obtain ⟨wo2, rfl⟩ : ∃ wo : World, wo = wr := ⟨_, rfl⟩
          go_loopw [8, 9, 10, 41] (fun _ _ _ i wr => ∃ k : Nat, k ≤ ins.length ∧ i = .int .i64 k ∧ Hid ((ins.take k).all (fun x => insB ins.length consts.length names.length x) = true) ∧ Hid (Below W0.heap.size W0 wr)) (fun _ _ _ i _ => ins.length - (intOf i).toNat)
          case atStart => exact ⟨0, Nat.zero_le _, rfl, by simp [Hid], HB⟩
          case round =>
            clear HB
            obtain ⟨k, hk, rfl, hall, HB⟩ := hrel
            by_cases hlt : k < ins.length
            · obtain ⟨ad, rfl, g0, g1, g2⟩ := (HI.out.below HB.out) k hlt
              obtain ⟨x, hx⟩ : ∃ x, ins[k] = x := ⟨_, rfl⟩
              rw [hx] at g0 g1 g2
              have HX := Lib.hid hx
              clear hx
              obtain ⟨hc, hf⟩ := bcell HB.out
              have hz : w.heap.size < wr.heap.size := Nat.lt_of_lt_of_le hsz' HB.out.size
              have HIB := Lib.hid (show insB ins.length consts.length names.length x = (!(decide (x.a < 0) || decide (bndA ins.length consts.length names.length x.op ≤ x.a) || decide (x.b < 0) || decide (bndB x.op ≤ x.b))) from by
                rw [Bool.eq_iff_iff]; simp [insB])
              obtain ⟨q, hq⟩ : ∃ q, insB ins.length consts.length names.length x = q := ⟨_, rfl⟩
              rw [hq] at HIB
              have HQ := Lib.hid hq
              clear hq
              go_upto_region 15 with (go_at_call 26; refine (bounds_any _ _ _ _ _ _ _ _ _ _ _).mono ?_; rintro e w' ⟨rfl, hb⟩; obtain ⟨hc', hf'⟩ := bcell hb; have HB1 := Lib.hid hb; clear hb)
              clear hc hf
              have hbnd := bndA ins.length consts.length names.length x.op
              obtain ⟨y1, hy1⟩ : ∃ y, bndA ins.length consts.length names.length x.op = y := ⟨_, rfl⟩
              obtain ⟨y2, hy2⟩ : ∃ y, bndB x.op = y := ⟨_, rfl⟩
              rw [hy1, hy2] at HIB ⊢
              clear hy1 hy2 hbnd
              have HB2 := Lib.hid (HB.out.trans ((((Below.refl wr.heap.size wr).alloc (Nat.le_refl _) _).trans (HB1.out.mono (by simp))).mono HB.out.size))
              go_cut [71] (fun v wq => w' = wq ∧ v = .bool (!q))
              case first =>
                go_wp2_with fail
                all_goals go_meet
                all_goals (refine ⟨rfl, congrArg Value.bool ?_⟩; rw [HIB.out, Bool.not_not]; first | done | (simp [*]; done) | skip)
                all_goals go_goals
              case rest =>
                obtain ⟨rfl, rfl⟩ := hcut
                clear hc' hf' HB HB1 HIB
                cases q with
                | true =>
                  have HA := Lib.hid (ins_snoc (fun x => insB ins.length consts.length names.length x) ins k hlt hall.out (by rw [HX.out]; exact HQ.out))
                  clear hall HX HQ
                  go_wp2
                  go_roundw
                  case rel => exact ⟨k + 1, by omega, by go_num, HA, HB2⟩
                  case measure => simp [intOf]; omega
                | false =>
                  have HA := Lib.hid (all_false_g (fun x => insB ins.length consts.length names.length x) ins k hlt (by rw [HX.out]; exact HQ.out))
                  clear hall HX HQ
                  go_wp2
                  go_ret
                  exact ⟨ret_int (by rw [HR2.out, HA.out]; rfl), HW.out.trans (HB2.out.mono HW.out.size)⟩
            · have HIA := Lib.hid (show ins.all (fun x => insB ins.length consts.length names.length x) = true from by have := hall.out; rwa [List.take_of_length_le (by omega)] at this)
              have HR3 := Lib.hid (show errI (Cod.ok ⟨ins, consts, names⟩) = errI (lastB ins) from by rw [HR2.out, HIA.out]; rfl)
              have hlast : ins.getLastD default = ins[ins.length - 1]'(by omega) := by
                rw [List.getLastD_eq_getLast?, List.getLast?_eq_getElem?, List.getElem?_eq_getElem (by omega)]; rfl
              have hok : insB ins.length consts.length names.length (ins[ins.length - 1]'(by omega)) = true := by
                have := HIA.out; rw [List.all_eq_true] at this; exact this _ (List.getElem_mem _)
              obtain ⟨ad, rfl, g0, g1, g2⟩ := (HI.out.below HB.out) (ins.length - 1) (by omega)
              have hlb : lastB ins = ((((ins.getLastD default).op == 14) || ((ins.getLastD default).op == 13)) || ((ins.getLastD default).op == 7) || ((ins.getLastD default).op == 12)) := rfl
              rw [hlast] at hlb
              have HLB := Lib.hid hlb
              clear hlb
              generalize ins[ins.length - 1]'(by omega) = x at g0 g1 g2 HLB hok
              obtain ⟨hc, hf⟩ := bcell HB.out
              have hz : w.heap.size < wr.heap.size := Nat.lt_of_lt_of_le hsz' HB.out.size
              have HWf := Lib.hid (fun o => HW.out.trans (((HB.out.trans (((Below.refl wr.heap.size wr).alloc (Nat.le_refl _) o).mono HB.out.size))).mono HW.out.size))
              obtain ⟨op, a, b⟩ := x
              dsimp only at g0 g1 g2 HLB
              have h14 : op = 14 ∨ op = 13 → a = 0 ∧ b = 0 := by
                intro h
                have hok' := hok
                simp only [insB, Bool.and_eq_true, decide_eq_true_eq] at hok'
                have e1 : bndA ins.length consts.length names.length op = 1 := by unfold bndA; rw [if_neg (by omega), if_neg (by omega), if_neg (by omega), if_neg (by omega), if_neg (by omega), if_pos (by omega)]
                have e2 : bndB op = 1 := by unfold bndB; rw [if_neg (by omega), if_neg (by omega), if_pos (by omega)]
                rw [e1, e2] at hok'
                omega
              clear hall HIA HR2 hok hlast HB
              by_cases h1 : op = 14 ∨ op = 13
              · obtain ⟨rfl, rfl⟩ := h14 h1
                have HL2 := Lib.hid (show lastB ins = true from by rw [HLB.out]; rcases h1 with rfl | rfl <;> rfl)
                clear h14 HLB
                rcases h1 with rfl | rfl
                all_goals
                  go_wp2_with fail
                  go_ret
                  exact ⟨ret_int (by rw [HR3.out, HL2.out]; rfl), HWf.out _⟩
              · have e14 : (op == 14) = false := beq_eq_false_iff_ne.2 (by omega)
                have e13 : (op == 13) = false := beq_eq_false_iff_ne.2 (by omega)
                have HL2 := Lib.hid (show lastB ins = ((op == 7) || (op == 12)) from by rw [HLB.out, e14, e13]; rfl)
                clear h14 h1 HLB
                cases e7 : (op == 7) <;> cases e12 : (op == 12)
                all_goals
                  rw [e7, e12] at HL2
                  go_wp2_with fail
                  go_ret
                  exact ⟨ret_int (by rw [HR3.out, HL2.out]; rfl), HWf.out _⟩
end Go.Proofs.YtcpicndapmaiaaaDoor
