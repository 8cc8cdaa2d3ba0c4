/- The reader's piece. -/
import Derived.Test.YtcpicndapmaiaaaDoorSk
namespace Go.Proofs.YtcpicndapmaiaaaDoor
open Go Go.RowKit
def ends : List UInt8 := [32, 9, 10, 13, 40, 41, 34, 39, 59]
/-- From p to q there is one piece, and at q it ends. -/
structure Piece (s : ByteArray) (p q : Nat) : Prop where
  le : p ≤ q
  size : q ≤ s.size
  all : ∀ i, p ≤ i → i < q → Lib.indexByte ends (at0 s.toList i) = -1
  vec : ∀ i, p ≤ i → i < q → Lib.hasPrefix (s.extract i s.size).data.toList [35, 40] = false
  stop : q = s.size ∨ decide (Lib.indexByte ends (at0 s.toList q) < 0) = false ∨ (Lib.indexByte ends (at0 s.toList q) = -1 ∧ Lib.hasPrefix (s.extract q s.size).data.toList [35, 40] = true)
theorem piece_any (b : Nat) (s : ByteArray) (p q : Nat) (w : World) (hr : Rr b s p w) (hs : s.size ≤ 100000000) (hq : Piece s p q) :
    Calls Tryd.prog 67 #[.pointer (some ⟨b, 0, none⟩)] w fun e w' => e = .returned (.string (s.extract p q)) ∧ ∃ n, w' = w.drewN n := by
  have HQ := Lib.hid hq
  have hpq := hq.le
  have hqs := hq.size
  obtain ⟨h0, h1, h2, h3⟩ := hr.cells
  clear hq hr
  go_enter Tryd.func67, Tryd.ntmps67
  go_wp2_with fail
  go_loop [3] (fun v => ∃ i : Nat, p ≤ i ∧ i ≤ q ∧ v = .int .i64 i) (fun v => s.size - (intOf v).toNat)
  case atStart => exact ⟨p, Nat.le_refl _, hpq, rfl⟩
  case round =>
    obtain ⟨i, hi1, hi2, rfl⟩ := hrel
    by_cases hlt : i < q
    · have HA := Lib.hid (at0_get s i (by omega))
      have HI := Lib.hid (show Lib.indexByte [32, 9, 10, 13, 40, 41, 34, 39, 59] s[i] = -1 from by rw [HA.out]; exact HQ.out.all i hi1 hlt)
      have HV := Lib.hid (HQ.out.vec i hi1 hlt)
      have hpz : decide (i < s.size) = true := by simp; omega
      have hpi : (i : Int) < (s.size : Int) := by omega
      have HX := Lib.hid (show ∀ w, Calls Tryd.prog 46 #[.string ⟨#[32, 9, 10, 13, 40, 41, 34, 39, 59]⟩, .int .u8 (s[i].toNat : Int)] w fun e w' => e = .returned (.int .i64 (-1)) ∧ w' = w from fun w => by
        have := Tryd.strings_IndexByte ⟨#[32, 9, 10, 13, 40, 41, 34, 39, 59]⟩ (s[i].toNat : Int) w
        rw [show ((s[i].toNat : Int).toNat.toUInt8) = s[i] from by simp] at this
        have h2 := HI.out
        simp only at this
        rw [h2] at this; exact this)
      have HY := Lib.hid (show ∀ w, Calls Tryd.prog 53 #[.string (s.extract i s.size), .string ⟨#[35, 40]⟩] w fun e w' => e = .returned (.bool false) ∧ w' = w from fun w => by
        have := Tryd.strings_HasPrefix (s.extract i s.size) ⟨#[35, 40]⟩ w
        rw [HV.out] at this; exact this)
      go_wp2_with (first
        | (go_at_call 46; refine (HX.out _).mono ?_; rintro e w' ⟨rfl, rfl⟩)
        | (go_at_call 53; refine (HY.out _).mono ?_; rintro e w' ⟨rfl, rfl⟩))
      go_round
      case rel => exact ⟨i + 1, by omega, by omega, by go_num⟩
      case measure => simp [intOf]; omega
    · have hiq : i = q := by omega
      subst hiq
      by_cases hend : i < s.size
      · have HA := Lib.hid (at0_get s i hend)
        have hpz : decide (i < s.size) = true := by simp; omega
        have hpi : (i : Int) < (s.size : Int) := by omega
        rcases HQ.out.stop.resolve_left (by omega) with hst | ⟨hi1', hv⟩
        · obtain ⟨z, hz⟩ : ∃ z, Lib.indexByte ends (at0 s.toList i) = z := ⟨_, rfl⟩
          have hzn : ¬ z < 0 := by rw [hz] at hst; simpa using hst
          have HX := Lib.hid (show ∀ w, Calls Tryd.prog 46 #[.string ⟨#[32, 9, 10, 13, 40, 41, 34, 39, 59]⟩, .int .u8 (s[i].toNat : Int)] w fun e w' => e = .returned (.int .i64 z) ∧ w' = w from fun w => by
            have := Tryd.strings_IndexByte ⟨#[32, 9, 10, 13, 40, 41, 34, 39, 59]⟩ (s[i].toNat : Int) w
            rw [show ((s[i].toNat : Int).toNat.toUInt8) = s[i] from by simp] at this
            have h2 : Lib.indexByte [32, 9, 10, 13, 40, 41, 34, 39, 59] s[i] = z := by rw [HA.out]; exact hz
            simp only at this
            rw [h2] at this; exact this)
          have hzd : decide (z < 0) = false := by simpa using hzn
          clear hz hst
          go_wp2_with (go_at_call 46; refine (HX.out _).mono ?_; rintro e w' ⟨rfl, rfl⟩)
          go_quiet (fail)
          go_wp2_with fail
          go_ret
          exact ⟨rfl, _, rfl⟩
        · have HI := Lib.hid (show Lib.indexByte [32, 9, 10, 13, 40, 41, 34, 39, 59] s[i] = -1 from by rw [HA.out]; exact hi1')
          have HV := Lib.hid hv
          have HX := Lib.hid (show ∀ w, Calls Tryd.prog 46 #[.string ⟨#[32, 9, 10, 13, 40, 41, 34, 39, 59]⟩, .int .u8 (s[i].toNat : Int)] w fun e w' => e = .returned (.int .i64 (-1)) ∧ w' = w from fun w => by
            have := Tryd.strings_IndexByte ⟨#[32, 9, 10, 13, 40, 41, 34, 39, 59]⟩ (s[i].toNat : Int) w
            rw [show ((s[i].toNat : Int).toNat.toUInt8) = s[i] from by simp] at this
            have h2 := HI.out
            simp only at this
            rw [h2] at this; exact this)
          have HY := Lib.hid (show ∀ w, Calls Tryd.prog 53 #[.string (s.extract i s.size), .string ⟨#[35, 40]⟩] w fun e w' => e = .returned (.bool true) ∧ w' = w from fun w => by
            have := Tryd.strings_HasPrefix (s.extract i s.size) ⟨#[35, 40]⟩ w
            rw [HV.out] at this; exact this)
          clear hi1' hv
          go_wp2_with (first
            | (go_at_call 46; refine (HX.out _).mono ?_; rintro e w' ⟨rfl, rfl⟩)
            | (go_at_call 53; refine (HY.out _).mono ?_; rintro e w' ⟨rfl, rfl⟩))
          go_quiet (fail)
          go_wp2_with fail
          go_ret
          exact ⟨rfl, _, rfl⟩
      · have hpz : decide (i < s.size) = false := by simp; omega
        go_wp2_with fail
        go_quiet (fail)
        go_wp2_with fail
        go_ret
        exact ⟨rfl, _, rfl⟩
end Go.Proofs.YtcpicndapmaiaaaDoor
