import Derived.Test.YtcpicndapmaiaaaDoorWrc
import Derived.Test.YtcpicndapmaiaaaDoorRPr
namespace Go.Proofs.YtcpicndapmaiaaaDoor
open Go Go.RowKit
theorem print_any (d : D) (w : World) (c0 c1 c2 c3 : Value) (hd : IsD w d c0 c1 c2 c3) (hs : D.Small 1048576 d) (hlen : (printD d).length ≤ 90000000) :
    Calls Tryd.prog 12 #[.agg #[c0, c1, c2, c3]] w fun e w' => ∃ t : ByteArray, e = .returned (.string t) ∧ t.toList = printOr d ∧ Below w.heap.size w w' := by
  have HB := Lib.hid ((Below.refl w.heap.size w).alloc (Nat.le_refl _) (.cells #[c0, c1, c2, c3] 37))
  have HD0 := Lib.hid (IsD.below HB.out hd)
  have HC := Lib.hid (can_any d _ c0 c1 c2 c3 HD0.out hs)
  have HS := Lib.hid hs
  have HL := Lib.hid hlen
  clear hd hs hlen
  cases hr : D.right 64 d with
  | true =>
    have HP := Lib.hid (show printOr d = printD d from by unfold printOr; rw [if_pos hr])
    have HRR := Lib.hid hr
    rw [hr] at HC
    clear hr
    go_enter Tryd.func12, Tryd.ntmps12
    go_wp2_with (go_at_call 14; refine HC.out.mono ?_; rintro e w' ⟨rfl, hb⟩; have HB1 := Lib.hid hb; obtain ⟨hc, hf⟩ := bcell hb; have hss : w.heap.size < w'.heap.size := (by have := hb.size; simp at this; omega); clear hb)
    refine (write_any 64 d _ _ c0 c1 c2 c3 w'.heap.size w'.heap.size [] HRR.out (HD0.out.below HB1.out) ((Below.refl _ _).alloc (Nat.le_refl _) _) (Nat.le_refl _) HS.out (Lib.IsBuilderF.of (Lib.fresh_isBuilder 59 5 w')) (by simp) (by simpa using HL.out)).mono ?_
    rintro e w2 ⟨rfl, hb, hk⟩
    have HD2 := Lib.hid hb
    have HK2 := Lib.hid hk
    clear hb hk
    go_wp2_with fail
    refine (Tryd.Builder_String_any_k w'.heap.size w'.heap.size (printD d) w2 HD2.out (by have := HK2.out.size; simp at this; omega)).mono ?_
    rintro e w3 ⟨rfl, h1, h2, h3⟩
    have HB3 := Lib.hid h2
    clear h1 h2 h3
    go_wp2_with fail
    go_ret
    exact ⟨_, rfl, by rw [HP.out, ByteArray.toList_eq], HB.out.trans ((HB1.out.trans ((((Below.refl _ _).alloc (Nat.le_refl _) _).trans (HK2.out.below.trans HB3.out)).mono (by have := HB1.out.size; omega))).mono (by simp))⟩
  | false =>
    have HP := Lib.hid (show printOr d = [] from by unfold printOr; rw [if_neg (by rw [hr]; simp)])
    rw [hr] at HC
    clear hr
    go_enter Tryd.func12, Tryd.ntmps12
    go_wp2_with (go_at_call 14; refine HC.out.mono ?_; rintro e w' ⟨rfl, hb⟩; have HB1 := Lib.hid hb; obtain ⟨hc, hf⟩ := bcell hb; clear hb)
    go_ret
    exact ⟨_, rfl, by rw [HP.out]; simp [ByteArray.toList_eq], HB.out.trans (HB1.out.mono (by simp))⟩
end Go.Proofs.YtcpicndapmaiaaaDoor
