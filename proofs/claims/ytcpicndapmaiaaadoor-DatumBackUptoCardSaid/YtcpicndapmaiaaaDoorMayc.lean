import Derived.Test.YtcpicndapmaiaaaDoorMay
namespace Go.Proofs.YtcpicndapmaiaaaDoor
open Go Go.RowKit
theorem take_all_snoc (p : D → Bool) (l : List D) (k : Nat) (hk : k < l.length) (h : (l.take k).all p = true) (h' : p l[k] = true) : (l.take (k + 1)).all p = true := by
  rw [List.take_succ_eq_append_getElem hk, List.all_append, h]; simp [h']
theorem all_of_take' (p : D → Bool) (l : List D) (k : Nat) (hk : l.length ≤ k) (h : (l.take k).all p = true) : l.all p = true := by
  rwa [List.take_of_length_le hk] at h
theorem all_false_at' (p : D → Bool) (l : List D) (k : Nat) (hk : k < l.length) (h : p l[k] = false) : l.all p = false := by
  rw [List.all_eq_false]; exact ⟨l[k], List.getElem_mem hk, by simp [h]⟩
theorem cell_alloc2 {w : World} {a : Addr} {v : Value} (h : w.cell? a = some v) : ∀ o, (w.alloc o).cell? a = some v := fun o => cell_below ((Below.refl w.heap.size w).alloc (Nat.le_refl _) o) h
set_option maxHeartbeats 2000000 in
set_option maxRecDepth 100000 in
theorem may_comp5 (m : Nat) (hm : m < 999) (ih : MayAt m) (s : ByteArray) (l t : List D) (w : World) (A2 A3 : Option Addr) (n2 n3 : Nat) (hs : s.size ≤ 1048576) (hl : l.length ≤ 1048576) (ht : t.length ≤ 1048576)
    (h2 : IsL w l A2 0) (h3 : IsL w t A3 0) (hsl : ∀ d, d ∈ l → D.Small 1048576 d) (hst : ∀ d, d ∈ t → D.Small 1048576 d) :
    Calls Tryd.prog 33 #[.agg #[.int .i64 5, .string s, .slice A2 l.length n2, .slice A3 t.length n3], .int .i64 ((m : Int) + 1)] w fun e w' => e = .returned (.bool ((D.mk 5 s l t).right (m + 1))) ∧ Below w.heap.size w w' := by
  have HB := Lib.hid (fun o => (Below.refl w.heap.size w).alloc (Nat.le_refl _) o)
  have hlf : (D.mk 5 s l t).leaf = false := by simp [D.leaf, D.kind]
  have hsm := shapeM_eq 5 s l t (by simp)
  have HR := Lib.hid (show (D.mk 5 s l t).right (m + 1) = (!shapeM 5 l t && (s.toList.isEmpty && (l.all (D.right m) && t.all (D.right m)))) from by
    simp only [D.right, hlf, hsm, Bool.false_or]; rfl)
  clear hlf hsm
  cases he : s.toList.isEmpty with
  | false =>
    have HR' := Lib.hid (show (D.mk 5 s l t).right (m + 1) = false from by rw [HR.out, he]; simp)
    clear ih h2 h3 hsl hst
    go_enter Tryd.func33, Tryd.ntmps33
    go_wp2_with fail
    all_goals (go_ret; exact ⟨ret_bool HR'.out.symm, HB.out _⟩)
  | true =>
    have HR' := Lib.hid (show (D.mk 5 s l t).right (m + 1) = (!shapeM 5 l t && (l.all (D.right m) && t.all (D.right m))) from by rw [HR.out, he]; simp)
    clear HR
    have IH := Lib.hid ih
    have H2 := Lib.hid h2
    have H3 := Lib.hid h3
    have HSL := Lib.hid hsl
    have HST := Lib.hid hst
    clear ih h2 h3 hsl hst
    obtain ⟨W0, hW0, hbW0, hbx, hsz⟩ : ∃ W0, W0 = w.alloc (.cells #[.int .i64 5, .string s, .slice A2 l.length n2, .slice A3 t.length n3] 37) ∧ Below w.heap.size w W0 ∧ W0.heap[w.heap.size]? = some (.cells #[.int .i64 5, .string s, .slice A2 l.length n2, .slice A3 t.length n3] 37 (0, 0)) ∧ W0.heap.size = w.heap.size + 1 := ⟨_, rfl, HB.out _, heap_alloc_new w _, by simp⟩
    have hb0 : W0.cell? ⟨w.heap.size, 0, none⟩ = some (.int .i64 5) := cell_of_row W0 _ 0 _ _ _ hbx
    have hb1 : W0.cell? ⟨w.heap.size, 1, none⟩ = some (.string s) := cell_of_row W0 _ 1 _ _ _ hbx
    have hb2 : W0.cell? ⟨w.heap.size, 2, none⟩ = some (.slice A2 l.length n2) := cell_of_row W0 _ 2 _ _ _ hbx
    have hb3 : W0.cell? ⟨w.heap.size, 3, none⟩ = some (.slice A3 t.length n3) := cell_of_row W0 _ 3 _ _ _ hbx
    have HW := Lib.hid hbW0
    have HW0 := Lib.hid hW0
    have HSZ := Lib.hid hsz
    clear hbW0 hW0 hsz hbx
    go_enter Tryd.func33, Tryd.ntmps33
    go_upto_region 1 with fail
    rw [← HW0.out]
    go_cut [0, 5] (fun _ v wc => W0 = wc ∧ ∃ b, v = .bool b)
    case first =>
      go_wp2_with fail
      all_goals go_meet
      all_goals exact ⟨rfl, _, rfl⟩
    obtain ⟨rfl, b5, rfl⟩ := hcut
    go_upto_region 13 with fail
    go_cut [0, 99] (fun _ v wc => W0 = wc ∧ v = .bool (shapeM 5 l t))
    case first =>
      by_cases hp : 0 < t.length
      · obtain ⟨ad, c0, c1, c2, c3, rfl, g0, _, _, _, hx⟩ := H3.out.get0 0 hp
        obtain ⟨_, _, _, _, rfl, -⟩ := hx.form
        rw [Nat.zero_mul, show ad.add 0 = ad from by simp [Addr.add]] at g0
        replace g0 := cell_below HW.out g0
        have hd : t.headD default = t[0] := by cases t with | nil => simp at hp | cons a r => rfl
        have hsm : shapeM 5 l t = (decide ((0 : Int) < t.length) && (((5 : Int) == 6) || decide ((1 : Int) < t.length) || ((l.length : Int) == 0) || (t[0].kind == 5))) := by unfold shapeM; rw [hd]
        generalize t[0].kind = kx at g0 hsm
        have HSM := Lib.hid hsm
        clear hsm hd hx
        go_wp2_with fail
        all_goals go_meet
        all_goals (refine ⟨rfl, congrArg Value.bool ?_⟩; rw [HSM.out]; first | done | (simp [*]; done) | skip)
      · have HSM := Lib.hid (show shapeM 5 l t = false from by unfold shapeM; rw [show decide ((0 : Int) < ↑t.length) = false from decide_eq_false (by omega)]; rfl)
        have hp' : (t.length : Int) ≤ 0 := by omega
        clear hp
        go_wp2_with fail
        all_goals go_meet
        all_goals exact ⟨rfl, congrArg Value.bool HSM.out.symm⟩
    case rest =>
      obtain ⟨rfl, rfl⟩ := hcut
      cases hsm : shapeM 5 l t with
      | true =>
        go_wp2
        go_ret
        exact ⟨ret_bool (by rw [HR'.out, hsm]; rfl), HW.out⟩
      | false =>
        have HR2 := Lib.hid (show (D.mk 5 s l t).right (m + 1) = (l.all (D.right m) && t.all (D.right m)) from by rw [HR'.out, hsm]; rfl)
        clear HR' hsm
        go_wp2
        go_loopw [7, 103] (fun _ i wr => ∃ k : Nat, k ≤ l.length ∧ i = .int .i64 k ∧ Hid ((l.take k).all (D.right m) = true) ∧ Hid (Below W0.heap.size W0 wr)) (fun _ i _ => l.length - (intOf i).toNat)
        case atStart => exact ⟨0, Nat.zero_le _, rfl, by simp [Hid], Below.refl _ _⟩
        case round =>
          obtain ⟨k, hk, rfl, hall, HB1⟩ := hrel
          by_cases hlt : k < l.length
          · obtain ⟨ad, c0, c1, c2, c3, rfl, g0, g1, g2, g3, hx⟩ := (IsL.below HB1.out (IsL.below HW.out H2.out)).get0 k hlt
            obtain ⟨B2, m2, B3, m3, rfl, rfl, rfl, rfl, -⟩ := hx.form
            have HC := Lib.hid (fun o => IH.out l[k] (wr.alloc o) _ _ _ _ (IsD.below ((Below.refl wr.heap.size wr).alloc (Nat.le_refl _) o) hx) (HSL.out _ (List.getElem_mem hlt)))
            clear hx
            cases hq : D.right m l[k] with
            | true =>
              have HA := Lib.hid (take_all_snoc _ l k hlt hall.out hq)
              rw [hq] at HC
              clear hq hall
              go_wp2_with (go_at_call 33; refine (HC.out _).mono ?_; rintro e w' ⟨rfl, hb⟩; have HB2 := Lib.hid hb; clear hb)
              go_roundw
              case rel => exact ⟨k + 1, by omega, by go_num, HA, HB1.out.trans (((Below.refl wr.heap.size wr).alloc (Nat.le_refl _) _).trans (HB2.out.mono (by simp)) |>.mono HB1.out.size)⟩
              case measure => simp [intOf]; omega
            | false =>
              have HA := Lib.hid (all_false_at' _ l k hlt hq)
              rw [hq] at HC
              clear hq hall
              go_wp2_with (go_at_call 33; refine (HC.out _).mono ?_; rintro e w' ⟨rfl, hb⟩; have HB2 := Lib.hid hb; clear hb)
              go_ret
              exact ⟨ret_bool (by rw [HR2.out, HA.out]; rfl), HW.out.trans ((HB1.out.trans (((Below.refl wr.heap.size wr).alloc (Nat.le_refl _) _).trans (HB2.out.mono (by simp)) |>.mono HB1.out.size)).mono HW.out.size)⟩
          · have HL := Lib.hid (all_of_take' _ l k (by omega) hall.out)
            obtain ⟨hc, hf⟩ := bcell HB1.out
            have hsz : w.heap.size < W0.heap.size := by rw [HSZ.out]; omega
            clear hall
            go_wp2
            clear hc hf
            obtain ⟨wo, rfl⟩ : ∃ wo : World, wo = wr := ⟨_, rfl⟩
            have HWo := Lib.hid (HW.out.trans (HB1.out.mono HW.out.size))
            have H3o := Lib.hid (IsL.below HB1.out (IsL.below HW.out H3.out))
            have HR3 := Lib.hid (show (D.mk 5 s l t).right (m + 1) = t.all (D.right m) from by rw [HR2.out, HL.out]; rfl)
            clear HR2 HL HB1 HSZ HW0 hsz
            go_loopw [9, 116] (fun _ i wq => ∃ k : Nat, k ≤ t.length ∧ i = .int .i64 k ∧ Hid ((t.take k).all (D.right m) = true) ∧ Hid (Below wo.heap.size wo wq)) (fun _ i _ => t.length - (intOf i).toNat)
            case atStart => exact ⟨0, Nat.zero_le _, rfl, by simp [Hid], Below.refl _ _⟩
            case round =>
              obtain ⟨k, hk, rfl, hall, HB1⟩ := hrel
              by_cases hlt : k < t.length
              · obtain ⟨ad, c0, c1, c2, c3, rfl, g0, g1, g2, g3, hx⟩ := (IsL.below HB1.out H3o.out).get0 k hlt
                obtain ⟨B2, m2, B3, m3, rfl, rfl, rfl, rfl, -⟩ := hx.form
                have HC := Lib.hid (fun o => IH.out t[k] (wr.alloc o) _ _ _ _ (IsD.below ((Below.refl wr.heap.size wr).alloc (Nat.le_refl _) o) hx) (HST.out _ (List.getElem_mem hlt)))
                clear hx
                cases hq : D.right m t[k] with
                | true =>
                  have HA := Lib.hid (take_all_snoc _ t k hlt hall.out hq)
                  rw [hq] at HC
                  clear hq hall
                  go_wp2_with (go_at_call 33; refine (HC.out _).mono ?_; rintro e w' ⟨rfl, hb⟩; have HB2 := Lib.hid hb; clear hb)
                  go_roundw
                  case rel => exact ⟨k + 1, by omega, by go_num, HA, HB1.out.trans (((Below.refl wr.heap.size wr).alloc (Nat.le_refl _) _).trans (HB2.out.mono (by simp)) |>.mono HB1.out.size)⟩
                  case measure => simp [intOf]; omega
                | false =>
                  have HA := Lib.hid (all_false_at' _ t k hlt hq)
                  rw [hq] at HC
                  clear hq hall
                  go_wp2_with (go_at_call 33; refine (HC.out _).mono ?_; rintro e w' ⟨rfl, hb⟩; have HB2 := Lib.hid hb; clear hb)
                  go_ret
                  exact ⟨ret_bool (by rw [HR3.out, HA.out]), HWo.out.trans ((HB1.out.trans (((Below.refl wr.heap.size wr).alloc (Nat.le_refl _) _).trans (HB2.out.mono (by simp)) |>.mono HB1.out.size)).mono HWo.out.size)⟩
              · have HA := Lib.hid (all_of_take' _ t k (by omega) hall.out)
                clear hall
                go_wp2
                go_ret
                exact ⟨ret_bool (by rw [HR3.out, HA.out]), HWo.out.trans (HB1.out.mono HWo.out.size)⟩
set_option maxHeartbeats 2000000 in
set_option maxRecDepth 100000 in
theorem may_comp6 (m : Nat) (hm : m < 999) (ih : MayAt m) (s : ByteArray) (l t : List D) (w : World) (A2 A3 : Option Addr) (n2 n3 : Nat) (hs : s.size ≤ 1048576) (hl : l.length ≤ 1048576) (ht : t.length ≤ 1048576)
    (h2 : IsL w l A2 0) (h3 : IsL w t A3 0) (hsl : ∀ d, d ∈ l → D.Small 1048576 d) (hst : ∀ d, d ∈ t → D.Small 1048576 d) :
    Calls Tryd.prog 33 #[.agg #[.int .i64 6, .string s, .slice A2 l.length n2, .slice A3 t.length n3], .int .i64 ((m : Int) + 1)] w fun e w' => e = .returned (.bool ((D.mk 6 s l t).right (m + 1))) ∧ Below w.heap.size w w' := by
  have HB := Lib.hid (fun o => (Below.refl w.heap.size w).alloc (Nat.le_refl _) o)
  have hlf : (D.mk 6 s l t).leaf = false := by simp [D.leaf, D.kind]
  have hsm := shapeM_eq 6 s l t (by simp)
  have HR := Lib.hid (show (D.mk 6 s l t).right (m + 1) = (!shapeM 6 l t && (s.toList.isEmpty && (l.all (D.right m) && t.all (D.right m)))) from by
    simp only [D.right, hlf, hsm, Bool.false_or]; rfl)
  clear hlf hsm
  cases he : s.toList.isEmpty with
  | false =>
    have HR' := Lib.hid (show (D.mk 6 s l t).right (m + 1) = false from by rw [HR.out, he]; simp)
    clear ih h2 h3 hsl hst
    go_enter Tryd.func33, Tryd.ntmps33
    go_wp2_with fail
    all_goals (go_ret; exact ⟨ret_bool HR'.out.symm, HB.out _⟩)
  | true =>
    have HR' := Lib.hid (show (D.mk 6 s l t).right (m + 1) = (!shapeM 6 l t && (l.all (D.right m) && t.all (D.right m))) from by rw [HR.out, he]; simp)
    clear HR
    have IH := Lib.hid ih
    have H2 := Lib.hid h2
    have H3 := Lib.hid h3
    have HSL := Lib.hid hsl
    have HST := Lib.hid hst
    clear ih h2 h3 hsl hst
    obtain ⟨W0, hW0, hbW0, hbx, hsz⟩ : ∃ W0, W0 = w.alloc (.cells #[.int .i64 6, .string s, .slice A2 l.length n2, .slice A3 t.length n3] 37) ∧ Below w.heap.size w W0 ∧ W0.heap[w.heap.size]? = some (.cells #[.int .i64 6, .string s, .slice A2 l.length n2, .slice A3 t.length n3] 37 (0, 0)) ∧ W0.heap.size = w.heap.size + 1 := ⟨_, rfl, HB.out _, heap_alloc_new w _, by simp⟩
    have hb0 : W0.cell? ⟨w.heap.size, 0, none⟩ = some (.int .i64 6) := cell_of_row W0 _ 0 _ _ _ hbx
    have hb1 : W0.cell? ⟨w.heap.size, 1, none⟩ = some (.string s) := cell_of_row W0 _ 1 _ _ _ hbx
    have hb2 : W0.cell? ⟨w.heap.size, 2, none⟩ = some (.slice A2 l.length n2) := cell_of_row W0 _ 2 _ _ _ hbx
    have hb3 : W0.cell? ⟨w.heap.size, 3, none⟩ = some (.slice A3 t.length n3) := cell_of_row W0 _ 3 _ _ _ hbx
    have HW := Lib.hid hbW0
    have HW0 := Lib.hid hW0
    have HSZ := Lib.hid hsz
    clear hbW0 hW0 hsz hbx
    go_enter Tryd.func33, Tryd.ntmps33
    go_upto_region 1 with fail
    rw [← HW0.out]
    go_cut [0, 5] (fun _ v wc => W0 = wc ∧ ∃ b, v = .bool b)
    case first =>
      go_wp2_with fail
      all_goals go_meet
      all_goals exact ⟨rfl, _, rfl⟩
    obtain ⟨rfl, b5, rfl⟩ := hcut
    go_upto_region 13 with fail
    go_cut [0, 99] (fun _ v wc => W0 = wc ∧ v = .bool (shapeM 6 l t))
    case first =>
      by_cases hp : 0 < t.length
      · obtain ⟨ad, c0, c1, c2, c3, rfl, g0, _, _, _, hx⟩ := H3.out.get0 0 hp
        obtain ⟨_, _, _, _, rfl, -⟩ := hx.form
        rw [Nat.zero_mul, show ad.add 0 = ad from by simp [Addr.add]] at g0
        replace g0 := cell_below HW.out g0
        have hd : t.headD default = t[0] := by cases t with | nil => simp at hp | cons a r => rfl
        have hsm : shapeM 6 l t = (decide ((0 : Int) < t.length) && (((6 : Int) == 6) || decide ((1 : Int) < t.length) || ((l.length : Int) == 0) || (t[0].kind == 5))) := by unfold shapeM; rw [hd]
        generalize t[0].kind = kx at g0 hsm
        have HSM := Lib.hid hsm
        clear hsm hd hx
        go_wp2_with fail
        all_goals go_meet
        all_goals (refine ⟨rfl, congrArg Value.bool ?_⟩; rw [HSM.out]; first | done | (simp [*]; done) | skip)
      · have HSM := Lib.hid (show shapeM 6 l t = false from by unfold shapeM; rw [show decide ((0 : Int) < ↑t.length) = false from decide_eq_false (by omega)]; rfl)
        have hp' : (t.length : Int) ≤ 0 := by omega
        clear hp
        go_wp2_with fail
        all_goals go_meet
        all_goals exact ⟨rfl, congrArg Value.bool HSM.out.symm⟩
    case rest =>
      obtain ⟨rfl, rfl⟩ := hcut
      cases hsm : shapeM 6 l t with
      | true =>
        go_wp2
        go_ret
        exact ⟨ret_bool (by rw [HR'.out, hsm]; rfl), HW.out⟩
      | false =>
        have HR2 := Lib.hid (show (D.mk 6 s l t).right (m + 1) = (l.all (D.right m) && t.all (D.right m)) from by rw [HR'.out, hsm]; rfl)
        clear HR' hsm
        go_wp2
        go_loopw [7, 103] (fun _ i wr => ∃ k : Nat, k ≤ l.length ∧ i = .int .i64 k ∧ Hid ((l.take k).all (D.right m) = true) ∧ Hid (Below W0.heap.size W0 wr)) (fun _ i _ => l.length - (intOf i).toNat)
        case atStart => exact ⟨0, Nat.zero_le _, rfl, by simp [Hid], Below.refl _ _⟩
        case round =>
          obtain ⟨k, hk, rfl, hall, HB1⟩ := hrel
          by_cases hlt : k < l.length
          · obtain ⟨ad, c0, c1, c2, c3, rfl, g0, g1, g2, g3, hx⟩ := (IsL.below HB1.out (IsL.below HW.out H2.out)).get0 k hlt
            obtain ⟨B2, m2, B3, m3, rfl, rfl, rfl, rfl, -⟩ := hx.form
            have HC := Lib.hid (fun o => IH.out l[k] (wr.alloc o) _ _ _ _ (IsD.below ((Below.refl wr.heap.size wr).alloc (Nat.le_refl _) o) hx) (HSL.out _ (List.getElem_mem hlt)))
            clear hx
            cases hq : D.right m l[k] with
            | true =>
              have HA := Lib.hid (take_all_snoc _ l k hlt hall.out hq)
              rw [hq] at HC
              clear hq hall
              go_wp2_with (go_at_call 33; refine (HC.out _).mono ?_; rintro e w' ⟨rfl, hb⟩; have HB2 := Lib.hid hb; clear hb)
              go_roundw
              case rel => exact ⟨k + 1, by omega, by go_num, HA, HB1.out.trans (((Below.refl wr.heap.size wr).alloc (Nat.le_refl _) _).trans (HB2.out.mono (by simp)) |>.mono HB1.out.size)⟩
              case measure => simp [intOf]; omega
            | false =>
              have HA := Lib.hid (all_false_at' _ l k hlt hq)
              rw [hq] at HC
              clear hq hall
              go_wp2_with (go_at_call 33; refine (HC.out _).mono ?_; rintro e w' ⟨rfl, hb⟩; have HB2 := Lib.hid hb; clear hb)
              go_ret
              exact ⟨ret_bool (by rw [HR2.out, HA.out]; rfl), HW.out.trans ((HB1.out.trans (((Below.refl wr.heap.size wr).alloc (Nat.le_refl _) _).trans (HB2.out.mono (by simp)) |>.mono HB1.out.size)).mono HW.out.size)⟩
          · have HL := Lib.hid (all_of_take' _ l k (by omega) hall.out)
            obtain ⟨hc, hf⟩ := bcell HB1.out
            have hsz : w.heap.size < W0.heap.size := by rw [HSZ.out]; omega
            clear hall
            go_wp2
            clear hc hf
            obtain ⟨wo, rfl⟩ : ∃ wo : World, wo = wr := ⟨_, rfl⟩
            have HWo := Lib.hid (HW.out.trans (HB1.out.mono HW.out.size))
            have H3o := Lib.hid (IsL.below HB1.out (IsL.below HW.out H3.out))
            have HR3 := Lib.hid (show (D.mk 6 s l t).right (m + 1) = t.all (D.right m) from by rw [HR2.out, HL.out]; rfl)
            clear HR2 HL HB1 HSZ HW0 hsz
            go_loopw [9, 116] (fun _ i wq => ∃ k : Nat, k ≤ t.length ∧ i = .int .i64 k ∧ Hid ((t.take k).all (D.right m) = true) ∧ Hid (Below wo.heap.size wo wq)) (fun _ i _ => t.length - (intOf i).toNat)
            case atStart => exact ⟨0, Nat.zero_le _, rfl, by simp [Hid], Below.refl _ _⟩
            case round =>
              obtain ⟨k, hk, rfl, hall, HB1⟩ := hrel
              by_cases hlt : k < t.length
              · obtain ⟨ad, c0, c1, c2, c3, rfl, g0, g1, g2, g3, hx⟩ := (IsL.below HB1.out H3o.out).get0 k hlt
                obtain ⟨B2, m2, B3, m3, rfl, rfl, rfl, rfl, -⟩ := hx.form
                have HC := Lib.hid (fun o => IH.out t[k] (wr.alloc o) _ _ _ _ (IsD.below ((Below.refl wr.heap.size wr).alloc (Nat.le_refl _) o) hx) (HST.out _ (List.getElem_mem hlt)))
                clear hx
                cases hq : D.right m t[k] with
                | true =>
                  have HA := Lib.hid (take_all_snoc _ t k hlt hall.out hq)
                  rw [hq] at HC
                  clear hq hall
                  go_wp2_with (go_at_call 33; refine (HC.out _).mono ?_; rintro e w' ⟨rfl, hb⟩; have HB2 := Lib.hid hb; clear hb)
                  go_roundw
                  case rel => exact ⟨k + 1, by omega, by go_num, HA, HB1.out.trans (((Below.refl wr.heap.size wr).alloc (Nat.le_refl _) _).trans (HB2.out.mono (by simp)) |>.mono HB1.out.size)⟩
                  case measure => simp [intOf]; omega
                | false =>
                  have HA := Lib.hid (all_false_at' _ t k hlt hq)
                  rw [hq] at HC
                  clear hq hall
                  go_wp2_with (go_at_call 33; refine (HC.out _).mono ?_; rintro e w' ⟨rfl, hb⟩; have HB2 := Lib.hid hb; clear hb)
                  go_ret
                  exact ⟨ret_bool (by rw [HR3.out, HA.out]), HWo.out.trans ((HB1.out.trans (((Below.refl wr.heap.size wr).alloc (Nat.le_refl _) _).trans (HB2.out.mono (by simp)) |>.mono HB1.out.size)).mono HWo.out.size)⟩
              · have HA := Lib.hid (all_of_take' _ t k (by omega) hall.out)
                clear hall
                go_wp2
                go_ret
                exact ⟨ret_bool (by rw [HR3.out, HA.out]), HWo.out.trans (HB1.out.mono HWo.out.size)⟩
end Go.Proofs.YtcpicndapmaiaaaDoor
