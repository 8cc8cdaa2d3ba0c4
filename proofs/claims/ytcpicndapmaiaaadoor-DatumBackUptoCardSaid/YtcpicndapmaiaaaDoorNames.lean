/- Which texts are names and numbers: the walks of datum.name, number.Can and the references' own. -/
import Derived.Test.YtcpicndapmaiaaaDoorShelf
import Derived.Test.YtcpicndapmaiaaaDoorData
import Derived.WalkKit
import Derived.Outline
import Derived.Deep.DeepCutAuto
import Derived.Deep.LoopGhost
namespace Go.Proofs.YtcpicndapmaiaaaDoor
open Go Go.RowKit
theorem ret_bool {x y : Bool} (h : x = y) : Ending.returned (.bool x) = Ending.returned (.bool y) := by rw [h]
theorem ret_int {k : IntKind} {x y : Int} (h : x = y) : Ending.returned (.int k x) = Ending.returned (.int k y) := by rw [h]
def dig (b : UInt8) : Bool := decide (48 ≤ b.toNat) && decide (b.toNat ≤ 57)
theorem digit_any (b : UInt8) (w : World) : Calls Tryd.prog 64 #[.int .u8 b.toNat] w fun e w' => e = .returned (.bool (dig b)) ∧ w = w' := by
  go_enter Tryd.func64, Tryd.ntmps64
  go_wp2
  all_goals
    go_ret
    refine ⟨ret_bool ?_, rfl⟩
    rw [Bool.eq_iff_iff]; simp [dig]; omega
def punct : List UInt8 := [33, 36, 37, 38, 42, 47, 58, 60, 61, 62, 63, 94, 95, 126, 43, 45, 46, 64]
def inner (b : UInt8) : Bool := dig b || (decide (97 ≤ b.toNat) && decide (b.toNat ≤ 122)) || (decide (65 ≤ b.toNat) && decide (b.toNat ≤ 90)) || decide ((0 : Int) ≤ Lib.indexByte [33, 36, 37, 38, 42, 47, 58, 60, 61, 62, 63, 94, 95, 126, 43, 45, 46, 64] b)
theorem inner_any (b : UInt8) (w : World) : Calls Tryd.prog 65 #[.int .u8 b.toNat] w fun e w' => e = .returned (.bool (inner b)) ∧ w = w' := by
  have hd := digit_any b
  obtain ⟨x, hx⟩ : ∃ x, dig b = x := ⟨_, rfl⟩
  rw [hx] at hd
  have Hd := Lib.hid hd; clear hd
  have Hx := Lib.hid hx; clear hx
  cases x
  all_goals
    go_enter Tryd.func65, Tryd.ntmps65
    go_wp2_with (first | (go_at_call 64; refine (Hd.out _).mono ?_; rintro e w' ⟨rfl, rfl⟩) | (go_at_call 46; refine (Tryd.strings_IndexByte _ _ _).mono ?_; rintro e w' ⟨rfl, rfl⟩))
    all_goals
      go_ret
      refine ⟨ret_bool ?_, rfl⟩
      rw [Bool.eq_iff_iff]; simp [inner, Hx.out]; try omega



def at0 (l : List UInt8) (i : Nat) : UInt8 := l.getD i 0
def name1 (l : List UInt8) : Bool := l.isEmpty || decide ((64 : Int) < l.length) || (l == [46]) || dig (at0 l 0)
def name2 (l : List UInt8) : Bool := decide ((0 : Int) ≤ Lib.indexByte [43, 45] (at0 l 0)) && decide ((1 : Int) < l.length) && dig (at0 l 1)
def nameB (l : List UInt8) : Bool := !name1 l && !name2 l && l.all inner
theorem toList_len (s : ByteArray) : s.toList.length = s.size := by rw [ByteArray.toList_eq]; exact Array.length_toList
theorem at0_get (s : ByteArray) (i : Nat) (h : i < s.size) : s[i] = at0 s.toList i := by
  unfold at0; rw [ByteArray.toList_eq, List.getD_eq_getElem?_getD, List.getElem?_eq_getElem (by simpa using h)]; rfl
theorem take_snoc (s : ByteArray) (k : Nat) (h : k < s.size) : s.toList.take (k + 1) = s.toList.take k ++ [s[k]] := by
  rw [List.take_succ_eq_append_getElem (by rw [toList_len]; exact h)]
  congr 2
  rw [at0_get s k h]; unfold at0
  rw [List.getD_eq_getElem?_getD, List.getElem?_eq_getElem (by rw [toList_len]; exact h)]; rfl
theorem name_any (s : ByteArray) (w : World) (hs : s.size ≤ maxLen) : Calls Tryd.prog 50 #[.string s] w fun e w' => e = .returned (.bool (nameB s.toList)) ∧ w = w' := by
  unfold maxLen at hs
  by_cases h0 : s.size = 0
  · have he : s.toList = [] := List.eq_nil_of_length_eq_zero (by rw [toList_len, h0])
    go_enter Tryd.func50, Tryd.ntmps50
    go_wp2_with fail
    go_ret
    simp [nameB, name1, he]
  have he : s.toList.isEmpty = false := by
    have := toList_len s
    cases h : s.toList with
    | nil => rw [h] at this; simp at this; omega
    | cons a l => rfl
  have hp : 0 < s.size := by omega
  clear h0
  have HN := Lib.hid (show name1 s.toList = (decide ((64 : Int) < ↑s.size) || s.toList == [46] || dig s[0]) from by
    rw [at0_get s 0 hp]; simp only [name1, he, toList_len, Bool.false_or])
  have HN2 := Lib.hid (show name2 s.toList = (decide ((0 : Int) ≤ Lib.indexByte [43, 45] s[0]) && decide ((1 : Int) < ↑s.size) && dig (at0 s.toList 1)) from by
    rw [at0_get s 0 hp]; simp only [name2, toList_len])
  go_enter Tryd.func50, Tryd.ntmps50
  go_upto_region 1 with fail
  go_cut [19] (fun v wc => w = wc ∧ v = .bool (name1 s.toList))
  case first =>
    go_wp2_with (first | (go_at_call 64; refine (digit_any _ _).mono ?_; rintro e w' ⟨rfl, rfl⟩))
    all_goals go_meet
    all_goals (refine ⟨rfl, congrArg Value.bool ?_⟩; rw [HN.out]; try simp [*])
  case rest =>
    obtain ⟨rfl, rfl⟩ := hcut
    cases h1 : name1 s.toList with
    | true =>
      go_wp2
      go_ret
      simp [nameB, h1]
    | false =>
      go_upto_region 3 with fail
      go_cut [33] (fun v wc => w = wc ∧ v = .bool (name2 s.toList))
      case first =>
        by_cases h2 : 1 < s.size
        · have hk := at0_get s 1 h2
          have HN3 := Lib.hid (HN2.out.trans (by rw [← hk]))
          clear hk
          go_wp2_with (first | (go_at_call 64; refine (digit_any _ _).mono ?_; rintro e w' ⟨rfl, rfl⟩) | (go_at_call 46; refine (Tryd.strings_IndexByte _ _ _).mono ?_; rintro e w' ⟨rfl, rfl⟩))
          all_goals go_meet
          all_goals (refine ⟨rfl, congrArg Value.bool ?_⟩; rw [HN3.out]; try simp [*]; try (intros; omega))
        · have h2' : decide ((1 : Int) < ↑s.size) = false := decide_eq_false (by omega)
          clear h2
          go_wp2_with (first | (go_at_call 64; refine (digit_any _ _).mono ?_; rintro e w' ⟨rfl, rfl⟩) | (go_at_call 46; refine (Tryd.strings_IndexByte _ _ _).mono ?_; rintro e w' ⟨rfl, rfl⟩))
          all_goals go_meet
          all_goals (refine ⟨rfl, congrArg Value.bool ?_⟩; rw [HN2.out]; try simp [*])
      case rest =>
        obtain ⟨rfl, rfl⟩ := hcut
        cases h2 : name2 s.toList with
        | true =>
          go_wp2
          go_ret
          simp [nameB, h1, h2]
        | false =>
          go_wp2
          go_loop [3, 36] (fun _ i => ∃ k : Nat, k ≤ s.size ∧ i = .int .i64 k ∧ Hid ((s.toList.take k).all inner = true)) (fun _ i => s.size - (intOf i).toNat)
          case atStart => exact ⟨0, Nat.zero_le _, rfl, by simp [Hid]⟩
          case round =>
            obtain ⟨k, hk, rfl, hall⟩ := hrel
            by_cases hlt : k < s.size
            · have hts := take_snoc s k hlt
              cases hi : inner s[k] with
              | true =>
                have Hi := inner_any s[k]
                rw [hi] at Hi
                have HI := Lib.hid Hi
                have HS := Lib.hid (show (s.toList.take (k + 1)).all inner = true by rw [hts]; simp [hi]; simpa using hall.out)
                clear Hi hi hts hall
                go_wp2_with (go_at_call 65; refine (HI.out _).mono ?_; rintro e w' ⟨rfl, rfl⟩)
                go_round
                case rel => exact ⟨k + 1, by omega, by go_num, HS⟩
                case measure => simp [intOf]; omega
              | false =>
                have Hi := inner_any s[k]
                rw [hi] at Hi
                have HI := Lib.hid Hi
                have HS := Lib.hid (show s.toList.all inner = false by
                  rw [List.all_eq_false]; exact ⟨s[k], by rw [at0_get s k hlt]; unfold at0; rw [List.getD_eq_getElem?_getD, List.getElem?_eq_getElem (by rw [toList_len]; exact hlt)]; simp, by simp [hi]⟩)
                clear Hi hi hts hall
                go_wp2_with (go_at_call 65; refine (HI.out _).mono ?_; rintro e w' ⟨rfl, rfl⟩)
                go_ret
                simp [nameB, HS.out]
            · have HS := Lib.hid (show s.toList.all inner = true by
                have : s.toList.take k = s.toList := List.take_of_length_le (by rw [toList_len]; omega)
                rw [← this]; exact hall.out)
              clear hall
              go_wp2
              go_ret
              simp [nameB, HS.out, h1, h2]

/-- A list of bytes without a minus ahead. -/
def trimP : List UInt8 → List UInt8
  | 45 :: r => r
  | l => l
theorem trimP_eq (l : List UInt8) : Lib.trimPrefix l [45] = trimP l := by
  unfold Lib.trimPrefix trimP Lib.hasPrefix
  split
  · next h => cases l with
    | nil => simp at h
    | cons a r => simp at h; subst h; rfl
  · next h => cases l with
    | nil => rfl
    | cons a r =>
      simp at h
      split
      · next e => injection e with e1 e2; exact absurd e1.symm h
      · rfl
theorem all_of_take (s : ByteArray) (p : UInt8 → Bool) (k : Nat) (hk : s.size ≤ k) (h : (s.toList.take k).all p = true) : s.toList.all p = true := by
  rwa [List.take_of_length_le (by rw [toList_len]; exact hk)] at h
theorem all_false_at (s : ByteArray) (p : UInt8 → Bool) (k : Nat) (hk : k < s.size) (h : p s[k] = false) : s.toList.all p = false := by
  rw [List.all_eq_false]; exact ⟨s[k], by rw [at0_get s k hk]; unfold at0; rw [List.getD_eq_getElem?_getD, List.getElem?_eq_getElem (by rw [toList_len]; exact hk)]; simp, by simp [h]⟩
theorem all_take_more (s : ByteArray) (p : UInt8 → Bool) (k : Nat) (hk : k < s.size) (h : (s.toList.take k).all p = true) (h' : p s[k] = true) : (s.toList.take (k + 1)).all p = true := by
  rw [take_snoc s k hk, List.all_append, h]; simp [h']
theorem empty_iff (s : ByteArray) : s.toList.isEmpty = decide (s.size = 0) := by
  have := toList_len s
  cases h : s.toList with
  | nil => rw [h] at this; simp at this; simp [← this]
  | cons a l => rw [h] at this; simp only [List.length_cons] at this; exact (decide_eq_false (by omega)).symm
theorem trimPrefix_any (s : ByteArray) (w : World) : Calls Tryd.prog 63 #[.string s, .string ⟨#[45]⟩] w fun e w' => ∃ t : ByteArray, e = .returned (.string t) ∧ t.toList = trimP s.toList ∧ w = w' := by
  refine (Tryd.strings_TrimPrefix s ⟨#[45]⟩ w).mono ?_
  rintro e w' ⟨rfl, rfl⟩
  exact ⟨_, rfl, by rw [ByteArray.toList_eq, ByteArray.toList_eq]; exact trimP_eq _, rfl⟩
def num1 (d l : List UInt8) : Bool := d.isEmpty || decide ((200 : Int) < d.length) || ((((at0 d 0).toNat : Int) == 48) && (decide ((1 : Int) < d.length) || (!(d == l))))
def numB (l : List UInt8) : Bool := !num1 (trimP l) l && (trimP l).all dig
theorem trimP_len (l : List UInt8) : (trimP l).length ≤ l.length := by
  unfold trimP; split <;> simp
theorem numCan_any (s : ByteArray) (w : World) (hs : s.size ≤ maxLen) : Calls Tryd.prog 49 #[.string s] w fun e w' => e = .returned (.bool (numB s.toList)) ∧ w = w' := by
  unfold maxLen at hs
  go_enter Tryd.func49, Tryd.ntmps49
  go_upto_region 2 with (go_at_call 63; refine (trimPrefix_any _ _).mono ?_; rintro e w' ⟨t, rfl, ht, rfl⟩; have HT := Lib.hid ht; clear ht)
  have hts : t.size ≤ 9223372036854775807 := by
    have h1 : t.toList.length ≤ s.toList.length := by rw [HT.out]; exact trimP_len _
    rw [toList_len t, toList_len s] at h1; exact Nat.le_trans h1 hs
  have HN := Lib.hid (show num1 t.toList s.toList = (t.toList.isEmpty || decide ((200 : Int) < ↑t.size) || ((((at0 t.toList 0).toNat : Int) == 48) && (decide ((1 : Int) < ↑t.size) || (!(t.toList == s.toList))))) from by
    simp only [num1, toList_len])
  have HR := Lib.hid (show numB s.toList = (!num1 t.toList s.toList && t.toList.all dig) from by rw [HT.out]; rfl)
  clear HT
  go_cut [7] (fun v wc => w = wc ∧ v = .bool (num1 t.toList s.toList))
  case first =>
    by_cases h0 : t.size = 0
    · have he : t.toList.isEmpty = true := by rw [empty_iff]; simpa using h0
      clear h0
      go_wp2_with fail
      all_goals go_meet
      all_goals (refine ⟨rfl, congrArg Value.bool ?_⟩; rw [HN.out]; try simp [*])
    · have he : t.toList.isEmpty = false := by rw [empty_iff]; simpa using h0
      have hp : 0 < t.size := by omega
      clear h0
      have HN' := Lib.hid (HN.out.trans (by rw [← at0_get t 0 hp]))
      go_wp2_with fail
      all_goals go_meet
      all_goals (refine ⟨rfl, congrArg Value.bool ?_⟩; rw [HN'.out]; try simp [*])
  case rest =>
    obtain ⟨rfl, rfl⟩ := hcut
    cases h1 : num1 t.toList s.toList with
    | true =>
      go_wp2
      go_ret
      exact ⟨ret_bool (by rw [HR.out, h1]; rfl), rfl⟩
    | false =>
      go_wp2
      go_loop [4, 32] (fun _ i => ∃ k : Nat, k ≤ t.size ∧ i = .int .i64 k ∧ Hid ((t.toList.take k).all dig = true)) (fun _ i => t.size - (intOf i).toNat)
      case atStart => exact ⟨0, Nat.zero_le _, rfl, by simp [Hid]⟩
      case round =>
        obtain ⟨k, hk, rfl, hall⟩ := hrel
        by_cases hlt : k < t.size
        · have HA := Lib.hid (all_take_more t dig k hlt hall.out)
          have HF := Lib.hid (all_false_at t dig k hlt)
          have hd : dig t[k] = (decide (48 ≤ t[k].toNat) && decide (t[k].toNat ≤ 57)) := rfl
          have HD := Lib.hid hd
          clear hd hall
          go_wp2
          · go_ret
            exact ⟨ret_bool (by rw [HR.out, HF.out (by rw [HD.out]; simp; omega)]; simp), rfl⟩
          · go_round
            case rel => exact ⟨k + 1, by omega, by go_num, HA.out (by rw [HD.out]; simp; omega)⟩
            case measure => simp [intOf]; omega
          · go_ret
            exact ⟨ret_bool (by rw [HR.out, HF.out (by rw [HD.out]; simp; omega)]; simp), rfl⟩
        · have HS := Lib.hid (all_of_take t dig k (by omega) hall.out)
          clear hall
          go_wp2
          go_ret
          exact ⟨ret_bool (by rw [HR.out, h1, HS.out]; rfl), rfl⟩
end Go.Proofs.YtcpicndapmaiaaaDoor
