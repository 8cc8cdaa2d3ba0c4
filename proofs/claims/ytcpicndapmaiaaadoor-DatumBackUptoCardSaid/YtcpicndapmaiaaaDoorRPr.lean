import Derived.Test.YtcpicndapmaiaaaDoorPrc
namespace Go.Proofs.YtcpicndapmaiaaaDoor
open Go Go.RowKit
def printOr (d : D) : List UInt8 := if d.right 64 = true then printD d else []
theorem refPrint_any (d : D) (w : World) (c0 c1 c2 c3 : Value) (hd : IsD w d c0 c1 c2 c3) (hs : D.Small 1048576 d) (hlen : (printD d).length ≤ 100000000) :
    Calls Tryd.prog 22 #[.agg #[c0, c1, c2, c3]] w fun e w' => ∃ t : ByteArray, e = .returned (.string t) ∧ t.toList = printOr d ∧ Below w.heap.size w w' := by
  have HB := Lib.hid ((Below.refl w.heap.size w).alloc (Nat.le_refl _) (.cells #[c0, c1, c2, c3] 37))
  have HC := Lib.hid (refCan_any d _ c0 c1 c2 c3 (IsD.below HB.out hd) hs)
  have HD := Lib.hid (fun W hb hr => printed_any 64 d W c0 c1 c2 c3 hr (IsD.below hb (IsD.below HB.out hd)) hs hlen)
  clear hd hs
  cases hr : D.right 64 d with
  | true =>
    have HP := Lib.hid (show printOr d = printD d from by unfold printOr; rw [if_pos hr])
    have HRR := Lib.hid hr
    rw [hr] at HC
    clear hr
    go_enter Tryd.func22, Tryd.ntmps22
    go_wp2_with (first
      | (go_at_call 13; refine HC.out.mono ?_; rintro e w' ⟨rfl, hb⟩; have HB1 := Lib.hid hb; obtain ⟨hc, hf⟩ := bcell hb; clear hb)
      | (go_at_call 41; refine (HD.out _ HB1.out HRR.out).mono ?_; rintro e w' ⟨t, rfl, ht, hb⟩; have HT := Lib.hid ht; have HB2 := Lib.hid hb; clear hb ht))
    go_ret
    exact ⟨_, rfl, by rw [HT.out, HP.out], HB.out.trans ((HB1.out.trans (HB2.out.mono HB1.out.size)).mono (by simp))⟩
  | false =>
    have HP := Lib.hid (show printOr d = [] from by unfold printOr; rw [if_neg (by rw [hr]; simp)])
    rw [hr] at HC
    clear hr
    go_enter Tryd.func22, Tryd.ntmps22
    go_wp2_with (go_at_call 13; refine HC.out.mono ?_; rintro e w' ⟨rfl, hb⟩; have HB1 := Lib.hid hb; obtain ⟨hc, hf⟩ := bcell hb; clear hb)
    go_ret
    exact ⟨_, rfl, by rw [HP.out]; simp [ByteArray.toList_eq], HB.out.trans (HB1.out.mono (by simp))⟩
end Go.Proofs.YtcpicndapmaiaaaDoor
