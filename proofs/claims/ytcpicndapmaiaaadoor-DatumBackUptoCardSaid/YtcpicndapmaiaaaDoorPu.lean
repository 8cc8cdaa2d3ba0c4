import Derived.Test.YtcpicndapmaiaaaDoorBy
import Derived.Laws.BitsAllLaws
namespace Go.Proofs.YtcpicndapmaiaaaDoor
open Go Go.RowKit
/-- A number in groups of seven bits, the lowest first. -/
def putB (n : Nat) : List UInt8 := if h : n < 128 then [n.toUInt8] else (n % 128 + 128).toUInt8 :: putB (n / 128)
termination_by n
decreasing_by omega
theorem putB_len : ∀ (k n : Nat), n < 128 ^ (k + 1) → (putB n).length ≤ k + 1
  | 0, n, h => by rw [putB, dif_pos (by omega)]; simp
  | k + 1, n, h => by
    rw [putB]
    split
    · simp
    · have := putB_len k (n / 128) (by rw [Nat.div_lt_iff_lt_mul (by omega)]; rw [Nat.pow_succ] at h; exact h)
      simp; omega
theorem putB_len9 (n : Nat) (h : n ≤ 4611686018427387904) : (putB n).length ≤ 9 := putB_len 8 n (Nat.lt_of_le_of_lt h (by decide))
theorem max0 (n : Int) (h : 0 ≤ n) : mx n 0 = n := by unfold mx; rw [if_neg (by omega)]
set_option maxRecDepth 10000 in
theorem or128 : ∀ a : Fin 256, a.1 ||| 128 = a.1 % 128 + 128 := by decide
theorem bits128 (q : Nat) : Go.bits .or .u8 ((q : Int) % 256) 128 = (((q % 128 + 128).toUInt8).toNat : Int) := by
  have h1 := u8_or_nat (q % 256) 128 (by omega) (by omega)
  have h2 := or128 ⟨q % 256, by omega⟩
  simp only at h2
  rw [h2] at h1
  have e : ((q : Int) % 256) = ((q % 256 : Nat) : Int) := by omega
  rw [e]
  refine h1.trans ?_
  rw [Nat.toUInt8_eq, UInt8.toNat_ofNat']
  omega
theorem byte128 (q : Nat) (h : q < 128) : ((q : Int) % 256) = (((q).toUInt8).toNat : Int) := by
  rw [Nat.toUInt8_eq, UInt8.toNat_ofNat']
  omega
set_option maxRecDepth 100000 in
theorem put_any (v : Value) (l : List UInt8) (n : Nat) (w : World) (h : Rd w v l) (hl : l.length ≤ 100000000) (hn : n ≤ 4611686018427387904) :
    Calls Tryd.prog 18 #[v, .int .i64 n] w fun e w' => ∃ v', e = .returned v' ∧ Own w.heap.size w' v' (l ++ putB n) ∧ Below w.heap.size w w' := by
  have HC := Lib.hid (clone_any v l w h (Lim.mk_ (by omega)))
  have HX := hmx
  have hm := max0 n (by omega)
  clear h
  go_enter Tryd.func18, Tryd.ntmps18
  go_wp2_with (go_at_call 40; refine HC.out.mono ?_; rintro e w' ⟨v', rfl, hown, hb⟩; have HO := Lib.hid hown; have HB := Lib.hid hb; clear hown hb)
  clear HC hm
  go_loopw [1, 5] (fun i u wr => ∃ (q : Nat) (pre : List UInt8), i = .int .i64 q ∧ Hid (q ≤ n) ∧ Hid (putB n = pre ++ putB q) ∧ Hid (Own w.heap.size wr u (l ++ pre)) ∧ Hid (Below w.heap.size w wr)) (fun i _ _ => (intOf i).toNat)
  case atStart => exact ⟨n, [], rfl, Nat.le_refl _, by simp [Hid], by simpa [Hid] using HO.out, HB⟩
  case round =>
    clear HO HB
    obtain ⟨q, pre, rfl, HQ, HP, HO, HB⟩ := hrel
    have hq := HQ.out
    have HPL := Lib.hid (show pre.length ≤ 9 from by have := putB_len9 n hn; rw [HP.out, List.length_append] at this; omega)
    have hq2 : (q : Int) ≤ 4611686018427387904 := by omega
    by_cases hlt : 127 < q
    · have hb := bits128 q
      obtain ⟨b, hbb⟩ : ∃ b, (q % 128 + 128).toUInt8 = b := ⟨_, rfl⟩
      rw [hbb] at hb
      have HP2 := Lib.hid (show putB n = (pre ++ [b]) ++ putB (q / 128) from by rw [HP.out, putB, dif_neg (by omega), hbb]; simp)
      have HR := Lib.hid (Rd.one (w := wr.alloc (.cells #[.int .u8 (b.toNat : Int)] 5)) (g := wr.heap.size) (b := b) (by simp))
      have HO2 := Lib.hid (Own.below ((Below.refl wr.heap.size wr).alloc (Nat.le_refl _) (.cells #[.int .u8 (b.toNat : Int)] 5)) HO.out)
      have HS := Lib.hid HB.out.size
      clear hbb
      go_wp2_with (at_builtin; refine app_rd rfl (.tmp 14) (.tmp 18) rfl w.heap.size _ _ (l ++ pre) [b] rfl rfl HO2.out HR.out (Lim.mk_ (by have := HPL.out; simp; omega)) (by have := HS.out; simp; omega) ?_; intro v'' w' hown hg; have HO3 := Lib.hid hown; have HG := Lib.hid hg; clear hown hg)
      go_roundw
      case rel => exact ⟨q / 128, pre ++ [b], by go_num, Nat.le_trans (Nat.div_le_self _ _) HQ.out, HP2, by rw [← List.append_assoc]; exact HO3.out, (((HB.out.alloc (by have := HS.out; omega) _)).grown HG.out (by have := HS.out; simp; omega) (fun k hk => (HO2.out.lt k hk).1))⟩
      case measure => simp [intOf]; omega
    · have hb := byte128 q (by omega)
      obtain ⟨b, hbb⟩ : ∃ b, q.toUInt8 = b := ⟨_, rfl⟩
      rw [hbb] at hb
      have hb2 : (q : Int) = (b.toNat : Int) := by rw [← hb]; omega
      have HP2 := Lib.hid (show putB n = pre ++ [b] from by rw [HP.out, putB, dif_pos (by omega), hbb])
      have HR := Lib.hid (Rd.one (w := wr.alloc (.cells #[.int .u8 (b.toNat : Int)] 5)) (g := wr.heap.size) (b := b) (by simp))
      have HO2 := Lib.hid (Own.below ((Below.refl wr.heap.size wr).alloc (Nat.le_refl _) (.cells #[.int .u8 (b.toNat : Int)] 5)) HO.out)
      have HS := Lib.hid HB.out.size
      clear hbb
      go_wp2_with (at_builtin; refine app_rd rfl (.tmp 20) (.tmp 23) rfl w.heap.size _ _ (l ++ pre) [b] rfl rfl HO2.out HR.out (Lim.mk_ (by have := HPL.out; simp; omega)) (by have := HS.out; simp; omega) ?_; intro v'' w' hown hg; have HO3 := Lib.hid hown; have HG := Lib.hid hg; clear hown hg)
      go_ret
      exact ⟨_, rfl, by rw [HP2.out, ← List.append_assoc]; exact HO3.out, (((HB.out.alloc (by have := HS.out; omega) _)).grown HG.out (by have := HS.out; simp; omega) (fun k hk => (HO2.out.lt k hk).1))⟩
end Go.Proofs.YtcpicndapmaiaaaDoor
