/- The law DatumBack over a datum in memory. -/
import Derived.Test.YtcpicndapmaiaaaDoorRe
import Derived.Test.YtcpicndapmaiaaaDoorSame
import Derived.Deep.RegionHeld3
namespace Go.Proofs.YtcpicndapmaiaaaDoor
open Go Go.RowKit
set_option maxHeartbeats 1000000 in
set_option maxRecDepth 100000 in
theorem law_back (d : D) (w : World) (c0 c1 c2 c3 : Value) (hd : IsD w d c0 c1 c2 c3) (hs : D.Small 1048576 d) (hlen : (printD d).length ≤ 90000000) :
    Calls Tryd.prog 4 #[.agg #[c0, c1, c2, c3]] w fun e w' => e = .returned (.bool true) ∧ Below w.heap.size w w' := by
  obtain ⟨A2, n2, A3, n3, rfl, rfl, rfl, rfl, -⟩ := id hd.form
  obtain ⟨C, hC⟩ : ∃ C : Obj, C = .cells #[.int .i64 d.kind, .string d.text, .slice A2 d.list.length n2, .slice A3 d.tail.length n3] 37 := ⟨_, rfl⟩
  have hb0 := (Below.refl w.heap.size w).alloc (Nat.le_refl _) C
  have hbx : (w.alloc C).heap[w.heap.size]? = some (.cells #[.int .i64 d.kind, .string d.text, .slice A2 d.list.length n2, .slice A3 d.tail.length n3] 37 (0, 0)) := by rw [heap_alloc_new, hC]
  obtain ⟨W0, hW0⟩ : ∃ W0, W0 = w.alloc C := ⟨_, rfl⟩
  rw [← hW0] at hb0 hbx
  have hlt : w.heap.size < W0.heap.size := by rw [hW0]; simp
  have HB0 := Lib.hid hb0
  have HBX := Lib.hid (fun y (h : Below W0.heap.size W0 y) => (h.block w.heap.size hlt).trans hbx)
  have HD := Lib.hid (fun y (h : Below W0.heap.size W0 y) => IsD.below (w1 := y) ((hb0.trans (h.mono hb0.size))) hd)
  have HPR := Lib.hid (print_any d W0 _ _ _ _ (IsD.below hb0 hd) hs hlen)
  have HRC := Lib.hid (fun y (h : Below W0.heap.size W0 y) => refCan_any d y _ _ _ _ (HD.out y h) hs)
  have HCA := Lib.hid (fun y (h : Below W0.heap.size W0 y) => can_any d y _ _ _ _ (HD.out y h) hs)
  have HS := Lib.hid (sameDatum_any hs (Nat.le_refl _))
  have HRE := Lib.hid (fun (h : d.right 64 = true) (t : ByteArray) y ht hz => read_any d t y h hs ht hz)
  have HLEN := Lib.hid hlen
  have HW0 := Lib.hid (hW0.trans (by rw [hC]))
  have hc0 := cell_of_row W0 _ 0 _ _ _ hbx
  have hc1 := cell_of_row W0 _ 1 _ _ _ hbx
  have hc2 := cell_of_row W0 _ 2 _ _ _ hbx
  have hc3 := cell_of_row W0 _ 3 _ _ _ hbx
  clear hd hs hlen hb0 hbx hW0 hC C
  cases hr : d.right 64 with
  | false =>
    have HPO := Lib.hid (show printOr d = [] from by unfold printOr; rw [if_neg (by rw [hr]; simp)])
    rw [hr] at HRC HCA
    clear hr
    go_enter Tryd.func4, Tryd.ntmps4
    go_upto_region 1 with fail
    rw [← HW0.out]
    go_wp2_with fail
    refine HPR.out.mono ?_
    rintro e w1 ⟨t, rfl, ht, hb⟩
    have HT := Lib.hid (show t.toList = [] from ht.trans HPO.out)
    have he1 : t.toList.isEmpty = true := by rw [HT.out]; rfl
    have he2 : (t.toList == []) = true := by rw [HT.out]; rfl
    have HB1 := Lib.hid hb
    obtain ⟨hc, hf⟩ := bcell hb
    clear ht hb
    go_wp2_with fail
    refine (HRC.out _ HB1.out).mono ?_
    rintro e w2 ⟨rfl, hb⟩
    have HB2 := Lib.hid (HB1.out.trans (hb.mono HB1.out.size))
    clear hb hc hf
    have hx := HBX.out w2 HB2.out
    have hd0 := cell_of_row w2 _ 0 _ _ _ hx
    have hd1 := cell_of_row w2 _ 1 _ _ _ hx
    have hd2 := cell_of_row w2 _ 2 _ _ _ hx
    have hd3 := cell_of_row w2 _ 3 _ _ _ hx
    clear hx
    go_wp2_with fail
    refine (HCA.out _ HB2.out).mono ?_
    rintro e w3 ⟨rfl, hb⟩
    go_wp2_with fail
    go_ret
    exact ⟨rfl, HB0.out.trans ((HB2.out.trans (hb.mono HB2.out.size)).mono HB0.out.size)⟩
  | true =>
    have HPO := Lib.hid (show printOr d = printD d from by unfold printOr; rw [if_pos hr])
    have HRE2 := Lib.hid (HRE.out hr)
    rw [hr] at HRC HCA
    clear hr HRE
    go_enter Tryd.func4, Tryd.ntmps4
    go_upto_region 1 with fail
    rw [← HW0.out]
    go_wp2_with fail
    refine HPR.out.mono ?_
    rintro e w1 ⟨t, rfl, ht, hb⟩
    have HT := Lib.hid (ht.trans HPO.out)
    have HB1 := Lib.hid hb
    obtain ⟨hc, hf⟩ := bcell hb
    clear ht hb
    go_wp2_with fail
    refine (HRC.out _ HB1.out).mono ?_
    rintro e w2 ⟨rfl, hb⟩
    have HB2 := Lib.hid (HB1.out.trans (hb.mono HB1.out.size))
    clear hb hc hf
    go_wp2_with fail
    refine (HRE2.out t w2 HT.out (by rw [← toList_len, HT.out]; exact Nat.le_trans HLEN.out (by omega))).mono ?_
    rintro e w3 ⟨A, m, rfl, hl, hb⟩
    have HB3 := Lib.hid (HB2.out.trans (hb.mono HB2.out.size))
    obtain ⟨ad, e0, e1, e2, e3, rfl, g0, g1, g2, g3, hd⟩ := hl.get0 0 (by simp)
    rw [Nat.zero_mul, show ad.add 0 = ad from by simp [Addr.add]] at g0 g1 g2 g3
    simp only [List.getElem_cons_zero] at hd
    obtain ⟨B2, k2, B3, k3, rfl, rfl, rfl, rfl, -⟩ := id hd.form
    have hx := HBX.out w3 HB3.out
    have HC3 := Lib.hid (And.intro g0 (And.intro g1 (And.intro g2 (And.intro g3 (And.intro (cell_of_row w3 _ 0 _ _ _ hx) (And.intro (cell_of_row w3 _ 1 _ _ _ hx) (And.intro (cell_of_row w3 _ 2 _ _ _ hx) (cell_of_row w3 _ 3 _ _ _ hx))))))))
    have HSM := Lib.hid (HS.out w3.drew _ _ _ _ _ _ _ _ (IsD.below (below_drew _ _) hd) (IsD.below (below_drew _ _) (HD.out w3 HB3.out)))
    clear hl hb g0 g1 g2 g3 hd hx
    go_wp2_with fail
    go_region_held3 (fun y => y.cell? ad = some (.int .i64 d.kind) ∧ y.cell? ⟨ad.block, ad.off + 1, none⟩ = some (.string d.text) ∧ y.cell? ⟨ad.block, ad.off + 2, none⟩ = some (.slice B2 d.list.length k2) ∧ y.cell? ⟨ad.block, ad.off + 3, none⟩ = some (.slice B3 d.tail.length k3) ∧ y.cell? ⟨w.heap.size, 0, none⟩ = some (.int .i64 d.kind) ∧ y.cell? ⟨w.heap.size, 1, none⟩ = some (.string d.text) ∧ y.cell? ⟨w.heap.size, 2, none⟩ = some (.slice A2 d.list.length n2) ∧ y.cell? ⟨w.heap.size, 3, none⟩ = some (.slice A3 d.tail.length n3))
      (first | exact HC3.out | exact HC4.out | go_keep)
      (first | (go_at_call 16; refine HSM.out.mono ?_; rintro e w4 ⟨rfl, hb⟩
                have HB4 := Lib.hid hb
                have HC4 := Lib.hid (And.intro (cell_below hb HC3.out.1) (And.intro (cell_below hb HC3.out.2.1) (And.intro (cell_below hb HC3.out.2.2.1) (And.intro (cell_below hb HC3.out.2.2.2.1) (And.intro (cell_below hb HC3.out.2.2.2.2.1) (And.intro (cell_below hb HC3.out.2.2.2.2.2.1) (And.intro (cell_below hb HC3.out.2.2.2.2.2.2.1) (cell_below hb HC3.out.2.2.2.2.2.2.2))))))))
                clear hb))
    go_wp2_with fail
    go_ret
    exact ⟨rfl, HB0.out.trans ((HB3.out.trans (((below_drew _ w3).trans HB4.out).mono HB3.out.size)).mono HB0.out.size)⟩
end Go.Proofs.YtcpicndapmaiaaaDoor
