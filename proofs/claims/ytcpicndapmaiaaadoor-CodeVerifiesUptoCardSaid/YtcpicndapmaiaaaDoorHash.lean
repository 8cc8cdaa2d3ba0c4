/- code.Hash and the reference's. -/
import Derived.Test.YtcpicndapmaiaaaDoorSum
namespace Go.Proofs.YtcpicndapmaiaaaDoor
open Go Go.RowKit
theorem TabAt.below {w w' : World} (h : TabAt w) (hb : Below w.heap.size w w') : TabAt w' := fun i hi => cell_below hb (h i hi)
/-- What both encoders want of a code. -/
structure Cod.Fits (c : Cod) : Prop where
  small : c.Small
  len : (encB c).length ≤ 90000000
  each : ∀ d, d ∈ c.consts → (printD d).length ≤ 90000000
  ins : ∀ x, x ∈ c.ins → 0 ≤ x.op ∧ x.op ≤ 4611686018427387904 ∧ 0 ≤ x.a ∧ x.a ≤ 4611686018427387904 ∧ 0 ≤ x.b ∧ x.b ≤ 4611686018427387904
def hashC (c : Cod) : Int := if c.ok then ((crc (encB c) ^^^ 4294967295 : Nat) : Int) else 0
theorem hash_any (c : Cod) (A1 A2 A3 : Option Addr) (m1 m2 m3 : Nat) (w : World) (hc : IsC w c A1 A2 A3) (hs : c.Small) (hf : c.ok = true → c.Fits) (ht : TabAt w) :
    Calls Tryd.prog 10 #[.agg #[.slice A1 c.ins.length m1, .slice A2 c.consts.length m2, .slice A3 c.names.length m3]] w fun e w' => e = .returned (.int .u32 (hashC c)) ∧ Below w.heap.size w w' := by
  have HB0 := Lib.hid ((Below.refl w.heap.size w).alloc (Nat.le_refl _) (.cells #[.slice A1 c.ins.length m1, .slice A2 c.consts.length m2, .slice A3 c.names.length m3] 26))
  have HI := Lib.hid (hc.below HB0.out)
  have HT := Lib.hid (ht.below HB0.out)
  have HS := Lib.hid hs
  clear hc ht hs
  by_cases hk : c.ok = true
  · have HF := Lib.hid (hf hk)
    have HH := Lib.hid (show hashC c = ((crc (encB c) ^^^ 4294967295 : Nat) : Int) from by unfold hashC; rw [if_pos hk])
    have HC := Lib.hid (enc_ok c A1 A2 A3 m1 m2 m3 _ HI.out HS.out hk HF.out.len HF.out.each HF.out.ins)
    clear hf hk
    go_enter Tryd.func10, Tryd.ntmps10
    go_wp2_with (first
      | (go_at_call 5; refine HC.out.mono ?_; rintro e w' ⟨v', rfl, ho, hb⟩; have HO := Lib.hid ho; have HB := Lib.hid hb; clear ho hb)
      | (go_at_call 29; refine (sum_any _ (encB c) _ HO.out.rd (HT.out.below HB.out) (by have := HF.out.len; omega)).mono ?_; rintro e w2 ⟨rfl, rfl⟩))
    go_ret
    exact ⟨by rw [HH.out]; rfl, HB0.out.trans (HB.out.mono (by simp))⟩
  · have hk' : c.ok = false := by simpa using hk
    have HH := Lib.hid (show hashC c = 0 from by unfold hashC; rw [if_neg hk])
    have HC := Lib.hid (enc_bad c A1 A2 A3 m1 m2 m3 _ HI.out HS.out hk')
    clear hf hk hk'
    go_enter Tryd.func10, Tryd.ntmps10
    go_wp2_with (go_at_call 5; refine HC.out.mono ?_; rintro e w' ⟨rfl, hb⟩; have HB := Lib.hid hb; clear hb)
    go_ret
    exact ⟨by rw [HH.out]; rfl, HB0.out.trans (HB.out.mono (by simp))⟩
theorem refHash_any (c : Cod) (A1 A2 A3 : Option Addr) (m1 m2 m3 : Nat) (w : World) (hc : IsC w c A1 A2 A3) (hs : c.Small) (hf : c.ok = true → c.Fits) :
    Calls Tryd.prog 11 #[.agg #[.slice A1 c.ins.length m1, .slice A2 c.consts.length m2, .slice A3 c.names.length m3]] w fun e w' => e = .returned (.int .u32 (hashC c)) ∧ Below w.heap.size w w' := by
  have HB0 := Lib.hid ((Below.refl w.heap.size w).alloc (Nat.le_refl _) (.cells #[.slice A1 c.ins.length m1, .slice A2 c.consts.length m2, .slice A3 c.names.length m3] 26))
  have HI := Lib.hid (hc.below HB0.out)
  have HS := Lib.hid hs
  clear hc hs
  by_cases hk : c.ok = true
  · have HF := Lib.hid (hf hk)
    have HH := Lib.hid (show hashC c = ((crc (encB c) ^^^ 4294967295 : Nat) : Int) from by unfold hashC; rw [if_pos hk])
    have HC := Lib.hid (refEnc_ok c A1 A2 A3 m1 m2 m3 _ HI.out HS.out hk HF.out.len HF.out.each HF.out.ins)
    clear hf hk
    go_enter Tryd.func11, Tryd.ntmps11
    go_wp2_with (first
      | (go_at_call 6; refine HC.out.mono ?_; rintro e w' ⟨v', rfl, ho, hb⟩; have HO := Lib.hid ho; have HB := Lib.hid hb; clear ho hb)
      | (go_at_call 30; refine (refSum_any _ (encB c) _ HO.out.rd (by have := HF.out.len; omega)).mono ?_; rintro e w2 ⟨rfl, rfl⟩))
    go_ret
    exact ⟨by rw [HH.out]; rfl, HB0.out.trans (HB.out.mono (by simp))⟩
  · have hk' : c.ok = false := by simpa using hk
    have HH := Lib.hid (show hashC c = 0 from by unfold hashC; rw [if_neg hk])
    have HC := Lib.hid (refEnc_bad c A1 A2 A3 m1 m2 m3 _ HI.out HS.out hk')
    clear hf hk hk'
    go_enter Tryd.func11, Tryd.ntmps11
    go_wp2_with (go_at_call 6; refine HC.out.mono ?_; rintro e w' ⟨rfl, hb⟩; have HB := Lib.hid hb; clear hb)
    go_ret
    exact ⟨by rw [HH.out]; rfl, HB0.out.trans (HB.out.mono (by simp))⟩
end Go.Proofs.YtcpicndapmaiaaaDoor
