/- Reading numbers: the walks of datum.digits and datum.numeral. -/
import Derived.Test.YtcpicndapmaiaaaDoorPt
namespace Go.Proofs.YtcpicndapmaiaaaDoor
open Go Go.RowKit
theorem dig_cmp (b : UInt8) : dig b = true ∧ ¬ ((b.toNat : Int) < 48) ∧ ¬ (57 < (b.toNat : Int)) ∨ dig b = false ∧ ((b.toNat : Int) < 48) ∨ dig b = false ∧ ¬ ((b.toNat : Int) < 48) ∧ (57 < (b.toNat : Int)) := by
  unfold dig
  by_cases h1 : 48 ≤ b.toNat
  · by_cases h2 : b.toNat ≤ 57
    · left; simp [h1, h2]; omega
    · right; right; simp [h1, h2]; omega
  · right; left; simp [h1]; omega
theorem digits_any (s : ByteArray) (w : World) (hs : s.size ≤ 100000000) : Calls Tryd.prog 73 #[.string s] w fun e w' => e = .returned (.bool (s.toList.all dig)) ∧ w' = w := by
  go_enter Tryd.func73, Tryd.ntmps73
  go_wp2_with fail
  go_loop [3, 6] (fun _ i => ∃ k : Nat, k ≤ s.size ∧ i = .int .i64 k ∧ Hid ((s.toList.take k).all dig = true)) (fun _ i => s.size - (intOf i).toNat)
  case atStart => exact ⟨0, Nat.zero_le _, rfl, by simp [Hid]⟩
  case round =>
    obtain ⟨k, hk, rfl, HA⟩ := hrel
    by_cases hlt : k < s.size
    · have HT := Lib.hid (take_snoc s k hlt)
      have HG := Lib.hid (at0_get s k hlt)
      rcases dig_cmp s[k] with ⟨hd, h1, h2⟩ | ⟨hd, h1⟩ | ⟨hd, h1, h2⟩
      · have HD := Lib.hid hd
        clear hd
        go_wp2_with fail
        go_round
        case rel => exact ⟨k + 1, by omega, by go_num, Lib.hid (by rw [HT.out, List.all_append, HA.out]; simp [HD.out])⟩
        case measure => simp [intOf]; omega
      · have HF := Lib.hid (show s.toList.all dig = false from by rw [List.all_eq_false]; exact ⟨s[k], by rw [HG.out]; unfold at0; rw [List.getD_eq_getElem?_getD, List.getElem?_eq_getElem (by rw [toList_len]; exact hlt)]; exact List.getElem_mem _, by rw [hd]; simp⟩)
        clear hd
        go_wp2_with fail
        go_ret
        exact ⟨by rw [HF.out]; rfl, rfl⟩
      · have HF := Lib.hid (show s.toList.all dig = false from by rw [List.all_eq_false]; exact ⟨s[k], by rw [HG.out]; unfold at0; rw [List.getD_eq_getElem?_getD, List.getElem?_eq_getElem (by rw [toList_len]; exact hlt)]; exact List.getElem_mem _, by rw [hd]; simp⟩)
        clear hd
        go_wp2_with fail
        go_ret
        exact ⟨by rw [HF.out]; rfl, rfl⟩
    · have HF := Lib.hid (show s.toList.all dig = true from by have := HA.out; rwa [List.take_of_length_le (by rw [toList_len]; omega)] at this)
      go_wp2_with fail
      go_ret
      exact ⟨by rw [HF.out]; rfl, rfl⟩
/-- The text behind a sign. -/
def strip : List UInt8 → List UInt8
  | b :: r => if b = 45 ∨ b = 43 then r else b :: r
  | [] => []
def numO (l : List UInt8) : Bool := !(strip l).isEmpty && (strip l).all dig
/-- How datum.numeral parts a text: what stands behind the sign, and whether it is a minus. -/
def Parts (s u : ByteArray) (neg : Bool) : Prop :=
  (s.toList.isEmpty = true ∧ u = s ∧ neg = false) ∨ (s.toList.isEmpty = false ∧ ∃ h : 0 < s.size, (s[0].toNat : Int) = 45 ∧ u = s.extract 1 s.size ∧ neg = true) ∨
  (s.toList.isEmpty = false ∧ ∃ h : 0 < s.size, (s[0].toNat : Int) = 43 ∧ u = s.extract 1 s.size ∧ neg = false) ∨ (s.toList.isEmpty = false ∧ ∃ h : 0 < s.size, ((s[0].toNat : Int) == 45) = false ∧ ((s[0].toNat : Int) == 43) = false ∧ u = s ∧ neg = false)
def NumR (u : ByteArray) (neg : Bool) (r : ByteArray) (ok : Bool) : Prop :=
  ((u.toList.isEmpty = true ∨ u.toList.all dig = false) ∧ r = ⟨#[]⟩ ∧ ok = false) ∨
  (u.toList.isEmpty = false ∧ u.toList.all dig = true ∧ u = ⟨#[48]⟩ ∧ r = ⟨#[48]⟩ ∧ ok = true) ∨
  (u.toList.isEmpty = false ∧ u.toList.all dig = true ∧ u.size ≤ 200 ∧ Lib.trimLeftB u.data.toList 48 = u.data.toList ∧ (neg = false ∧ r = u ∨ neg = true ∧ r = ⟨#[45]⟩ ++ u) ∧ ok = true)
set_option maxRecDepth 100000 in
set_option maxHeartbeats 2000000 in
theorem numeral_any (s u : ByteArray) (neg : Bool) (r : ByteArray) (ok : Bool) (q : Int) (w : World) (hs : s.size ≤ 100000000) (hu : u.size ≤ 100000000) (hp : Parts s u neg) (hr : NumR u neg r ok) :
    Calls Tryd.prog 68 #[.string s, .int .i64 q] w fun e w' => e = .returned (.tuple #[.string r, .bool ok]) ∧ w' = w := by
  have HR := Lib.hid hr
  have HDG := Lib.hid (fun w => digits_any u w hu)
  clear hr
  rcases HR.out with ⟨h1 | h1, rfl, rfl⟩ | ⟨h1, h2, h3, rfl, rfl⟩ | ⟨h1, h2, h3, h4, ⟨h5, h6⟩ | ⟨h5, h6⟩, rfl⟩
  · rcases hp with ⟨he, rfl, rfl⟩ | ⟨he, h0, h, hue, rfl⟩ | ⟨he, h0, h, hue, rfl⟩ | ⟨he, h0, h, h', rfl, rfl⟩
    · clear HR
      go_enter Tryd.func68, Tryd.ntmps68
      go_wp2_with (go_at_call 73; refine (HDG.out _).mono ?_; rintro e w' ⟨rfl, rfl⟩)
      all_goals exact bodyPost_ret (v := .tuple #[.string ⟨#[]⟩, .bool false]) (by simp [results, Tryd.results68, go_sem]) rfl ⟨rfl, rfl⟩
    · have HU := Lib.hid hue
      clear hue HR
      go_enter Tryd.func68, Tryd.ntmps68
      go_upto_region 6 with fail
      rw [← HU.out]
      clear HU he h
      go_wp2_with (go_at_call 73; refine (HDG.out _).mono ?_; rintro e w' ⟨rfl, rfl⟩)
      all_goals exact bodyPost_ret (v := .tuple #[.string ⟨#[]⟩, .bool false]) (by simp [results, Tryd.results68, go_sem]) rfl ⟨rfl, rfl⟩
    · have HU := Lib.hid hue
      clear hue HR
      go_enter Tryd.func68, Tryd.ntmps68
      go_upto_region 6 with fail
      rw [← HU.out]
      clear HU he h
      go_wp2_with (go_at_call 73; refine (HDG.out _).mono ?_; rintro e w' ⟨rfl, rfl⟩)
      all_goals exact bodyPost_ret (v := .tuple #[.string ⟨#[]⟩, .bool false]) (by simp [results, Tryd.results68, go_sem]) rfl ⟨rfl, rfl⟩
    · clear HR
      go_enter Tryd.func68, Tryd.ntmps68
      go_wp2_with (go_at_call 73; refine (HDG.out _).mono ?_; rintro e w' ⟨rfl, rfl⟩)
      all_goals exact bodyPost_ret (v := .tuple #[.string ⟨#[]⟩, .bool false]) (by simp [results, Tryd.results68, go_sem]) rfl ⟨rfl, rfl⟩
  · rcases hp with ⟨he, rfl, rfl⟩ | ⟨he, h0, h, hue, rfl⟩ | ⟨he, h0, h, hue, rfl⟩ | ⟨he, h0, h, h', rfl, rfl⟩
    · clear HR
      go_enter Tryd.func68, Tryd.ntmps68
      go_wp2_with (go_at_call 73; refine (HDG.out _).mono ?_; rintro e w' ⟨rfl, rfl⟩)
      all_goals exact bodyPost_ret (v := .tuple #[.string ⟨#[]⟩, .bool false]) (by simp [results, Tryd.results68, go_sem]) rfl ⟨rfl, rfl⟩
    · have HU := Lib.hid hue
      clear hue HR
      go_enter Tryd.func68, Tryd.ntmps68
      go_upto_region 6 with fail
      rw [← HU.out]
      clear HU he h
      go_wp2_with (go_at_call 73; refine (HDG.out _).mono ?_; rintro e w' ⟨rfl, rfl⟩)
      all_goals exact bodyPost_ret (v := .tuple #[.string ⟨#[]⟩, .bool false]) (by simp [results, Tryd.results68, go_sem]) rfl ⟨rfl, rfl⟩
    · have HU := Lib.hid hue
      clear hue HR
      go_enter Tryd.func68, Tryd.ntmps68
      go_upto_region 6 with fail
      rw [← HU.out]
      clear HU he h
      go_wp2_with (go_at_call 73; refine (HDG.out _).mono ?_; rintro e w' ⟨rfl, rfl⟩)
      all_goals exact bodyPost_ret (v := .tuple #[.string ⟨#[]⟩, .bool false]) (by simp [results, Tryd.results68, go_sem]) rfl ⟨rfl, rfl⟩
    · clear HR
      go_enter Tryd.func68, Tryd.ntmps68
      go_wp2_with (go_at_call 73; refine (HDG.out _).mono ?_; rintro e w' ⟨rfl, rfl⟩)
      all_goals exact bodyPost_ret (v := .tuple #[.string ⟨#[]⟩, .bool false]) (by simp [results, Tryd.results68, go_sem]) rfl ⟨rfl, rfl⟩
  · have HTL := Lib.hid (show ∀ w, Calls Tryd.prog 74 #[.string u, .string ⟨#[48]⟩] w fun e w' => e = .returned (.string ⟨#[]⟩) ∧ w' = w from fun w => by
      subst h3; exact Tryd.strings_TrimLeft_one ⟨#[48]⟩ 48 (by decide) w)
    clear h3
    rcases hp with ⟨he, rfl, rfl⟩ | ⟨he, h0, h, hue, rfl⟩ | ⟨he, h0, h, hue, rfl⟩ | ⟨he, h0, h, h', rfl, rfl⟩
    · clear HR; rw [he] at h1; cases h1
    · have HU := Lib.hid hue
      clear hue HR
      go_enter Tryd.func68, Tryd.ntmps68
      go_upto_region 6 with fail
      rw [← HU.out]
      clear HU he h
      go_wp2_with (first
          | (go_at_call 73; refine (HDG.out _).mono ?_; rintro e w' ⟨rfl, rfl⟩)
          | (go_at_call 74; refine (HTL.out _).mono ?_; rintro e w' ⟨rfl, rfl⟩))
      all_goals exact bodyPost_ret (v := .tuple #[.string ⟨#[48]⟩, .bool true]) (by simp [results, Tryd.results68, go_sem]) rfl ⟨rfl, rfl⟩
    · have HU := Lib.hid hue
      clear hue HR
      go_enter Tryd.func68, Tryd.ntmps68
      go_upto_region 6 with fail
      rw [← HU.out]
      clear HU he h
      go_wp2_with (first
          | (go_at_call 73; refine (HDG.out _).mono ?_; rintro e w' ⟨rfl, rfl⟩)
          | (go_at_call 74; refine (HTL.out _).mono ?_; rintro e w' ⟨rfl, rfl⟩))
      all_goals exact bodyPost_ret (v := .tuple #[.string ⟨#[48]⟩, .bool true]) (by simp [results, Tryd.results68, go_sem]) rfl ⟨rfl, rfl⟩
    · clear HR
      go_enter Tryd.func68, Tryd.ntmps68
      go_wp2_with (first
          | (go_at_call 73; refine (HDG.out _).mono ?_; rintro e w' ⟨rfl, rfl⟩)
          | (go_at_call 74; refine (HTL.out _).mono ?_; rintro e w' ⟨rfl, rfl⟩))
      all_goals exact bodyPost_ret (v := .tuple #[.string ⟨#[48]⟩, .bool true]) (by simp [results, Tryd.results68, go_sem]) rfl ⟨rfl, rfl⟩
  · have HTL := Lib.hid (show ∀ w, Calls Tryd.prog 74 #[.string u, .string ⟨#[48]⟩] w fun e w' => e = .returned (.string u) ∧ w' = w from fun w => by
      have := Tryd.strings_TrimLeft_one u 48 (by decide) w
      rw [h4] at this; exact this)
    clear h4
    rw [h6]
    clear h6
    rcases hp with ⟨he, rfl, rfl⟩ | ⟨he, h0, h, hue, rfl⟩ | ⟨he, h0, h, hue, rfl⟩ | ⟨he, h0, h, h', rfl, rfl⟩
    · clear HR; rw [he] at h1; cases h1
    · cases h5
    · have HU := Lib.hid hue
      clear hue HR h5
      go_enter Tryd.func68, Tryd.ntmps68
      go_upto_region 6 with fail
      rw [← HU.out]
      clear HU he h
      go_wp2_with (first
          | (go_at_call 73; refine (HDG.out _).mono ?_; rintro e w' ⟨rfl, rfl⟩)
          | (go_at_call 74; refine (HTL.out _).mono ?_; rintro e w' ⟨rfl, rfl⟩))
      all_goals exact bodyPost_ret (v := .tuple #[.string u, .bool true]) (by simp [results, Tryd.results68, go_sem]) rfl ⟨rfl, rfl⟩
    · clear HR h5
      go_enter Tryd.func68, Tryd.ntmps68
      go_wp2_with (first
          | (go_at_call 73; refine (HDG.out _).mono ?_; rintro e w' ⟨rfl, rfl⟩)
          | (go_at_call 74; refine (HTL.out _).mono ?_; rintro e w' ⟨rfl, rfl⟩))
      all_goals exact bodyPost_ret (v := .tuple #[.string u, .bool true]) (by simp [results, Tryd.results68, go_sem]) rfl ⟨rfl, rfl⟩
  · have HTL := Lib.hid (show ∀ w, Calls Tryd.prog 74 #[.string u, .string ⟨#[48]⟩] w fun e w' => e = .returned (.string u) ∧ w' = w from fun w => by
      have := Tryd.strings_TrimLeft_one u 48 (by decide) w
      rw [h4] at this; exact this)
    clear h4
    rw [h6]
    clear h6
    rcases hp with ⟨he, rfl, rfl⟩ | ⟨he, h0, h, hue, rfl⟩ | ⟨he, h0, h, hue, rfl⟩ | ⟨he, h0, h, h', rfl, rfl⟩
    · cases h5
    · have HU := Lib.hid hue
      clear hue HR h5
      go_enter Tryd.func68, Tryd.ntmps68
      go_upto_region 6 with fail
      rw [← HU.out]
      clear HU he h
      go_wp2_with (first
          | (go_at_call 73; refine (HDG.out _).mono ?_; rintro e w' ⟨rfl, rfl⟩)
          | (go_at_call 74; refine (HTL.out _).mono ?_; rintro e w' ⟨rfl, rfl⟩))
      all_goals exact bodyPost_ret (v := .tuple #[.string (⟨#[45]⟩ ++ u), .bool true]) (by simp [results, Tryd.results68, go_sem]) rfl ⟨rfl, rfl⟩
    · cases h5
    · cases h5
end Go.Proofs.YtcpicndapmaiaaaDoor
