import Derived.Test.YtcpicndapmaiaaaDoorPa
namespace Go.Proofs.YtcpicndapmaiaaaDoor
open Go Go.RowKit
theorem name2_eq (l : List UInt8) : name2 l = (((((at0 l 0).toNat : Int) == 43) || (((at0 l 0).toNat : Int) == 45)) && decide ((1 : Int) < l.length) && dig (at0 l 1)) := by
  unfold name2
  congr 2
  generalize at0 l 0 = b
  have h := indexByte_mem b [43, 45]
  rw [Bool.eq_iff_iff, decide_eq_true_eq, h]
  simp
  constructor
  · rintro (rfl | rfl) <;> simp
  · rintro (e | e)
    · left; exact UInt8.toNat_inj.1 (by simp; omega)
    · right; exact UInt8.toNat_inj.1 (by simp; omega)
theorem nameB_eq (l : List UInt8) : nameB l = (!(name1 l || name2 l) && l.all inner) := by
  unfold nameB; cases name1 l <;> cases name2 l <;> rfl
set_option maxHeartbeats 400000 in
theorem isName_any (s : ByteArray) (w : World) (hs : s.size ≤ 1048576) : Calls Tryd.prog 27 #[.string s] w fun e w' => e = .returned (.bool (nameB s.toList)) ∧ Below w.heap.size w w' := by
  by_cases h0 : s.size = 0
  · have he : s.toList = [] := List.eq_nil_of_length_eq_zero (by rw [toList_len, h0])
    go_enter Tryd.func27, Tryd.ntmps27
    go_wp2_with fail
    go_ret
    exact ⟨ret_bool (by simp [nameB, name1, he]), Below.refl _ _⟩
  have he : s.toList.isEmpty = false := by rw [empty_iff]; simpa using h0
  have hp : 0 < s.size := by omega
  clear h0
  have HN := Lib.hid (show name1 s.toList = (decide ((64 : Int) < ↑s.size) || s.toList == [46] || dig s[0]) from by
    rw [at0_get s 0 hp]; simp only [name1, he, toList_len, Bool.false_or])
  have HN2 := Lib.hid (show name2 s.toList = ((((s[0].toNat : Int) == 43) || ((s[0].toNat : Int) == 45)) && decide ((1 : Int) < ↑s.size) && dig (at0 s.toList 1)) from by
    rw [at0_get s 0 hp, name2_eq]; simp only [toList_len])
  have HR := Lib.hid (nameB_eq s.toList)
  go_enter Tryd.func27, Tryd.ntmps27
  go_upto_region 1 with fail
  go_cut [39] (fun v wc => w = wc ∧ v = .bool (name1 s.toList || name2 s.toList))
  case first =>
    by_cases h2 : 1 < s.size
    · have hk := at0_get s 1 h2
      have HN3 := Lib.hid (HN2.out.trans (by rw [← hk]))
      clear hk
      go_wp2_with (go_at_call 43; refine (refDigit_any _ _).mono ?_; rintro e w' ⟨rfl, rfl⟩)
      all_goals go_meet
      all_goals (refine ⟨rfl, congrArg Value.bool ?_⟩; rw [HN.out, HN3.out]; first | done | (simp [*]; done) | skip)
      all_goals go_goals
    · have h2' : decide ((1 : Int) < ↑s.size) = false := decide_eq_false (by omega)
      clear h2
      go_wp2_with (go_at_call 43; refine (refDigit_any _ _).mono ?_; rintro e w' ⟨rfl, rfl⟩)
      all_goals go_meet
      all_goals (refine ⟨rfl, congrArg Value.bool ?_⟩; rw [HN.out, HN2.out]; first | done | (simp [*]; done) | skip)
      all_goals go_goals
  case rest =>
    obtain ⟨rfl, rfl⟩ := hcut
    cases h1 : (name1 s.toList || name2 s.toList) with
    | true =>
      go_wp2
      go_ret
      exact ⟨ret_bool (by rw [HR.out, h1]; rfl), Below.refl _ _⟩
    | false =>
      go_wp2
      go_loopw [3] (fun i wr => ∃ k : Nat, k ≤ s.size ∧ i = .int .i64 k ∧ Hid ((s.toList.take k).all inner = true) ∧ Hid (Below w.heap.size w wr)) (fun i _ => s.size - (intOf i).toNat)
      case atStart => exact ⟨0, Nat.zero_le _, rfl, by simp [Hid], Below.refl _ _⟩
      case round =>
        obtain ⟨k, hk, rfl, hall, HB⟩ := hrel
        by_cases hlt : k < s.size
        · have HP := Lib.hid (part_any s[k] wr)
          cases hi : inner s[k] with
          | true =>
            have HS := Lib.hid (all_take_more s inner k hlt hall.out hi)
            rw [hi] at HP
            clear hi hall
            go_wp2_with (go_at_call 44; refine HP.out.mono ?_; rintro e w' ⟨rfl, hb⟩; have HB1 := Lib.hid hb; clear hb)
            go_roundw
            case rel => exact ⟨k + 1, by omega, by go_num, HS, HB.out.trans (HB1.out.mono HB.out.size)⟩
            case measure => simp [intOf]; omega
          | false =>
            have HS := Lib.hid (all_false_at s inner k hlt hi)
            rw [hi] at HP
            clear hi hall
            go_wp2_with (go_at_call 44; refine HP.out.mono ?_; rintro e w' ⟨rfl, hb⟩; have HB1 := Lib.hid hb; clear hb)
            go_ret
            exact ⟨ret_bool (by rw [HR.out, HS.out]; simp), HB.out.trans (HB1.out.mono HB.out.size)⟩
        · have HS := Lib.hid (all_of_take s inner k (by omega) hall.out)
          clear hall
          go_wp2
          go_ret
          exact ⟨ret_bool (by rw [HR.out, h1, HS.out]; rfl), HB.out⟩
end Go.Proofs.YtcpicndapmaiaaaDoor
