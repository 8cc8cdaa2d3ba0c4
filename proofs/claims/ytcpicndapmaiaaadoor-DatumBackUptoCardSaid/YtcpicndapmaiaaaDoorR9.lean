import Derived.Test.YtcpicndapmaiaaaDoorNames
namespace Go.Proofs.YtcpicndapmaiaaaDoor
open Go Go.RowKit
theorem toList_eq' (s : ByteArray) : s.toList = s.data.toList := by rw [ByteArray.toList_eq]
theorem extract_toList (s : ByteArray) (k : Nat) : (s.extract k s.size).toList = s.toList.drop k := by
  rw [toList_eq', toList_eq', ByteArray.data_extract]
  simp
  rw [List.take_of_length_le (by simp)]
theorem toList_cons (s : ByteArray) (h : 0 < s.size) : s.toList = s[0] :: s.toList.drop 1 := by
  have hl := toList_len s
  rw [at0_get s 0 h]
  cases e : s.toList with
  | nil => rw [e] at hl; simp at hl; omega
  | cons a l => rfl
theorem trimP_cons (s : ByteArray) (h : 0 < s.size) (h1 : s[0] = 45) : trimP s.toList = (s.extract 1 s.size).toList ∧ trimP s.toList ≠ s.toList := by
  rw [extract_toList]
  have e := toList_cons s h
  rw [h1] at e
  generalize s.toList.drop 1 = r at e ⊢
  rw [e]
  exact ⟨rfl, fun h => by have := congrArg List.length h; simp [trimP] at this⟩
theorem trimP_same (s : ByteArray) (h : ∀ hp : 0 < s.size, s[0] ≠ 45) : trimP s.toList = s.toList := by
  by_cases hp : 0 < s.size
  · have e := toList_cons s hp
    have hne := h hp
    generalize s.toList.drop 1 = r at e
    rw [e]
    unfold trimP
    split
    · next e' => injection e' with e1 _; exact absurd e1 hne
    · rfl
  · have : s.toList = [] := List.eq_nil_of_length_eq_zero (by rw [toList_len]; omega)
    rw [this]; rfl
theorem numB_zero (l : List UInt8) (h : trimP l ≠ l) (h0 : trimP l = [48]) : numB l = false := by
  unfold numB num1
  rw [h0] at h ⊢
  have : (([48] : List UInt8) == l) = false := by simpa using h
  simp [this, at0]
def num2 (d : List UInt8) : Bool := decide ((d.length : Int) < 1) || decide ((200 : Int) < d.length) || ((((at0 d 0).toNat : Int) == 48) && decide ((1 : Int) < d.length))
theorem numB_two (l : List UInt8) (h : trimP l ≠ l → trimP l ≠ [48]) : numB l = (!num2 (trimP l) && (trimP l).all dig) := by
  unfold numB
  congr 2
  unfold num1 num2
  by_cases e : trimP l = l
  · rw [e]
    cases l with
    | nil => rfl
    | cons a r =>
      have h1 : decide (((a :: r).length : Int) < 1) = false := decide_eq_false (by simp only [List.length_cons]; omega)
      rw [h1]; simp
  · have h2 := h e
    have e' : (trimP l == l) = false := by simpa using e
    rw [e']
    generalize trimP l = d at h2
    cases d with
    | nil => rfl
    | cons a r =>
      have h3 : ((a :: r).length : Int) = r.length + 1 := by simp
      cases r with
      | nil =>
        have ha : ((a.toNat : Int) == 48) = false := by
          rw [beq_eq_false_iff_ne]; intro hh; exact h2 (by rw [UInt8.toNat_inj.1 (show a.toNat = (48 : UInt8).toNat by simp; omega)])
        simp [at0, ha]
      | cons b r =>
        have h1 : decide (((a :: b :: r).length : Int) < 1) = false := decide_eq_false (by simp only [List.length_cons]; omega)
        have h2 : decide ((1 : Int) < ((a :: b :: r).length : Int)) = true := decide_eq_true (by simp only [List.length_cons]; omega)
        rw [h1, h2]; simp
theorem refTail (t : ByteArray) (b : Bool) (hb : b = (!num2 t.toList && t.toList.all dig)) : num2 t.toList = true → b = false := fun h => by rw [hb, h]; rfl
set_option maxHeartbeats 400000 in
theorem refCan09_any (s : ByteArray) (w : World) (hs : s.size ≤ maxLen) : Calls Tryd.prog 48 #[.string s] w fun e w' => e = .returned (.bool (numB s.toList)) ∧ w = w' := by
  unfold maxLen at hs
  go_enter Tryd.func48, Tryd.ntmps48
  go_upto_region 1 with fail
  go_cut [11] (fun v wc => w = wc ∧ ∃ b, v = .bool b ∧ Hid (b = true → ∃ h : 0 < s.size, s[0] = 45) ∧ Hid (b = false → ∀ h : 0 < s.size, s[0] ≠ 45))
  case first =>
    by_cases h0 : 0 < s.size
    · go_wp2_with fail
      go_meet
      exact ⟨rfl, _, rfl, fun h => ⟨h0, UInt8.toNat_inj.1 (by simp at h ⊢; omega)⟩, fun h _ e => by rw [e] at h; simp at h⟩
    · go_wp2_with fail
      all_goals go_meet
      exact ⟨rfl, _, rfl, fun h => by simp at h, fun h h' => absurd h' (by omega)⟩
  case rest =>
    obtain ⟨rfl, b, rfl, HT, HF⟩ := hcut
    go_upto_if 11 with fail
    go_cut [0] (fun v wc => w = wc ∧ ∃ t : ByteArray, v = .string t ∧ t.size ≤ 9223372036854775807 ∧ Hid (numB s.toList = (!num2 t.toList && t.toList.all dig)))
    case first =>
      cases b with
      | true =>
        obtain ⟨h0, h1⟩ := HT.out rfl
        have HC := Lib.hid (trimP_cons s h0 h1)
        have hx : (s.extract 1 s.size).size ≤ 9223372036854775807 := by simp; omega
        clear HT HF h1
        by_cases hz : (s.extract 1 s.size).toList = [48]
        · have HZ := Lib.hid (numB_zero s.toList HC.out.2 (HC.out.1.trans hz))
          go_wp2_with fail
          go_ret
          exact ⟨ret_bool HZ.out.symm, rfl⟩
        · have HZ := Lib.hid (numB_two s.toList fun _ => by rw [HC.out.1]; exact hz)
          have hz' : ((s.extract 1 s.size).toList == [48]) = false := by simpa using hz
          clear hz
          go_wp2_with fail
          go_meet
          exact ⟨rfl, _, rfl, hx, by rw [HC.out.1] at HZ; exact HZ⟩
      | false =>
        have HC := Lib.hid (trimP_same s (HF.out rfl))
        have HZ := Lib.hid (numB_two s.toList fun h => absurd HC.out h)
        clear HT HF
        go_wp2_with fail
        go_meet
        exact ⟨rfl, _, rfl, by omega, by rw [HC.out] at HZ; exact HZ⟩
    case rest =>
      obtain ⟨rfl, t, rfl, ht, HR⟩ := hcut
      go_upto_region 5 with fail
      go_cut [33] (fun v wc => w = wc ∧ v = .bool (num2 t.toList))
      case first =>
        have HN := Lib.hid (show num2 t.toList = (decide ((t.size : Int) < 1) || decide ((200 : Int) < t.size) || ((((at0 t.toList 0).toNat : Int) == 48) && decide ((1 : Int) < t.size))) from by simp only [num2, toList_len])
        by_cases h0 : t.size = 0
        · have he : decide ((t.size : Int) < 1) = true := decide_eq_true (by omega)
          clear h0
          go_wp2_with fail
          all_goals go_meet
          all_goals (refine ⟨rfl, congrArg Value.bool ?_⟩; rw [HN.out]; try simp [*])
        · have he : decide ((t.size : Int) < 1) = false := decide_eq_false (by omega)
          have hp : 0 < t.size := by omega
          clear h0
          have HN' := Lib.hid (HN.out.trans (by rw [← at0_get t 0 hp]))
          go_wp2_with fail
          all_goals go_meet
          all_goals (refine ⟨rfl, congrArg Value.bool ?_⟩; rw [HN'.out]; try simp [*])
      case rest =>
        obtain ⟨rfl, rfl⟩ := hcut
        cases h1 : num2 t.toList with
        | true =>
          go_wp2
          go_ret
          exact ⟨ret_bool (by rw [HR.out, h1]; rfl), rfl⟩
        | false =>
          go_wp2
          go_loop [3] (fun i => ∃ k : Nat, k ≤ t.size ∧ i = .int .i64 k ∧ Hid ((t.toList.take k).all dig = true)) (fun i => t.size - (intOf i).toNat)
          case atStart => exact ⟨0, Nat.zero_le _, rfl, by simp [Hid]⟩
          case round =>
            obtain ⟨k, hk, rfl, hall⟩ := hrel
            by_cases hlt : k < t.size
            · have HA := Lib.hid (all_take_more t dig k hlt hall.out)
              have HF := Lib.hid (all_false_at t dig k hlt)
              have hd : dig t[k] = (decide (48 ≤ t[k].toNat) && decide (t[k].toNat ≤ 57)) := rfl
              have HD := Lib.hid hd
              clear hd hall
              go_wp2
              · go_ret
                exact ⟨ret_bool (by rw [HR.out, HF.out (by rw [HD.out]; simp; omega)]; simp), rfl⟩
              · go_round
                case rel => exact ⟨k + 1, by omega, by go_num, HA.out (by rw [HD.out]; simp; omega)⟩
                case measure => simp [intOf]; omega
              · go_ret
                exact ⟨ret_bool (by rw [HR.out, HF.out (by rw [HD.out]; simp; omega)]; simp), rfl⟩
            · have HS := Lib.hid (all_of_take t dig k (by omega) hall.out)
              clear hall
              go_wp2
              go_ret
              exact ⟨ret_bool (by rw [HR.out, h1, HS.out]; rfl), rfl⟩
end Go.Proofs.YtcpicndapmaiaaaDoor
