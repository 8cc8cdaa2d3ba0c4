import Derived.Test.YtcpicndapmaiaaaDoorPu
namespace Go.Proofs.YtcpicndapmaiaaaDoor
open Go Go.RowKit
def textB (s : ByteArray) : List UInt8 := putB s.size ++ s.toList
theorem text_any (v : Value) (l : List UInt8) (s : ByteArray) (w : World) (h : Rd w v l) (hl : l.length ≤ 100000000) (hs : s.size ≤ 100000000) :
    Calls Tryd.prog 19 #[v, .string s] w fun e w' => ∃ v', e = .returned v' ∧ Own w.heap.size w' v' (l ++ textB s) ∧ Below w.heap.size w w' := by
  have HC := Lib.hid (put_any v l s.size w h hl (by omega))
  have HPL := Lib.hid (putB_len9 s.size (by omega))
  clear h
  go_enter Tryd.func19, Tryd.ntmps19
  go_wp2_with (first
    | (go_at_call 18; refine HC.out.mono ?_; rintro e w' ⟨v', rfl, hown, hb⟩; have HO := Lib.hid hown; have HB := Lib.hid hb; clear hown hb)
    | (at_builtin; refine app_str rfl (.tmp 8) (.tmp 9) rfl w.heap.size _ (l ++ putB s.size) s rfl rfl HO.out (Lim.mk_ (by have := HPL.out; simp; omega)) HB.out.size ?_; intro v'' w' hown hg; have HO3 := Lib.hid hown; have HG := Lib.hid hg; clear hown hg))
  go_ret
  exact ⟨_, rfl, by unfold textB; rw [← List.append_assoc]; exact HO3.out, HB.out.grown HG.out HB.out.size (fun k hk => (HO.out.lt k hk).1)⟩
theorem rem128 (q : Nat) : ((q : Int) % 128 + 128) % 256 = (((q % 128 + 128).toUInt8).toNat : Int) := by
  rw [Nat.toUInt8_eq, UInt8.toNat_ofNat']
  omega
set_option maxRecDepth 100000 in
theorem refPut_any (v : Value) (l : List UInt8) (n : Nat) (w : World) (h : Rd w v l) (hl : l.length ≤ 100000000) (hn : n ≤ 4611686018427387904) :
    Calls Tryd.prog 20 #[v, .int .i64 n] w fun e w' => ∃ v', e = .returned v' ∧ Own w.heap.size w' v' (l ++ putB n) ∧ Below w.heap.size w w' := by
  have HX := hmx
  have hm := max0 n (by omega)
  have HB0 := Lib.hid ((Below.refl w.heap.size w).alloc (Nat.le_refl _) (.cells #[] 5))
  have HO0 := Lib.hid (Own.empty w (.cells #[] 5) rfl w.heap.size (Nat.le_refl _))
  have HR0 := Lib.hid (Rd.below HB0.out h)
  clear h
  go_enter Tryd.func20, Tryd.ntmps20
  go_wp2_with (at_builtin; refine app_rd rfl (.tmp 6) (.tmp 7) rfl w.heap.size _ _ [] l rfl rfl HO0.out HR0.out (Lim.mk_ (by simp; omega)) (by simp) ?_; intro v' w' hown hg; have HO := Lib.hid hown; have HB := Lib.hid (HB0.out.grown hg (by simp) (fun k hk => (HO0.out.lt k hk).1)); clear hown hg)
  clear HO0 HR0 hm
  go_loopw [1, 5] (fun i u wr => ∃ (q : Nat) (pre : List UInt8), i = .int .i64 q ∧ Hid (q ≤ n) ∧ Hid (putB n = pre ++ putB q) ∧ Hid (Own w.heap.size wr u (l ++ pre)) ∧ Hid (Below w.heap.size w wr)) (fun i _ _ => (intOf i).toNat)
  case atStart => exact ⟨n, [], rfl, Nat.le_refl _, by simp [Hid], by simpa [Hid] using HO.out, HB⟩
  case round =>
    clear HO HB
    obtain ⟨q, pre, rfl, HQ, HP, HO, HB⟩ := hrel
    have hq := HQ.out
    have HPL := Lib.hid (show pre.length ≤ 9 from by have := putB_len9 n hn; rw [HP.out, List.length_append] at this; omega)
    have hq2 : (q : Int) ≤ 4611686018427387904 := by omega
    by_cases hlt : 128 ≤ q
    · have hb := rem128 q
      obtain ⟨b, hbb⟩ : ∃ b, (q % 128 + 128).toUInt8 = b := ⟨_, rfl⟩
      rw [hbb] at hb
      have HP2 := Lib.hid (show putB n = (pre ++ [b]) ++ putB (q / 128) from by rw [HP.out, putB, dif_neg (by omega), hbb]; simp)
      have hb2 : (q : Int) % 128 + 128 = (b.toNat : Int) := by rw [← hb]; omega
      have HR := Lib.hid (Rd.one (w := wr.alloc (.cells #[.int .u8 (b.toNat : Int)] 5)) (g := wr.heap.size) (b := b) (by simp))
      have HO2 := Lib.hid (Own.below ((Below.refl wr.heap.size wr).alloc (Nat.le_refl _) (.cells #[.int .u8 (b.toNat : Int)] 5)) HO.out)
      have HS := Lib.hid HB.out.size
      clear hbb
      go_wp2_with (at_builtin; refine app_rd rfl (.tmp 13) (.tmp 18) rfl w.heap.size _ _ (l ++ pre) [b] rfl rfl HO2.out HR.out (Lim.mk_ (by have := HPL.out; simp; omega)) (by have := HS.out; simp; omega) ?_; intro v'' w' hown hg; have HO3 := Lib.hid hown; have HG := Lib.hid hg; clear hown hg)
      go_roundw
      case rel => exact ⟨q / 128, pre ++ [b], by go_num, Nat.le_trans (Nat.div_le_self _ _) HQ.out, HP2, by rw [← List.append_assoc]; exact HO3.out, (((HB.out.alloc (by have := HS.out; omega) _)).grown HG.out (by have := HS.out; simp; omega) (fun k hk => (HO2.out.lt k hk).1))⟩
      case measure => simp [intOf]; omega
    · have hb := byte128 q (by omega)
      obtain ⟨b, hbb⟩ : ∃ b, q.toUInt8 = b := ⟨_, rfl⟩
      rw [hbb] at hb
      have hb2 : (q : Int) = (b.toNat : Int) := by rw [← hb]; omega
      have HP2 := Lib.hid (show putB n = pre ++ [b] from by rw [HP.out, putB, dif_pos (by omega), hbb])
      have HR := Lib.hid (Rd.one (w := wr.alloc (.cells #[.int .u8 (b.toNat : Int)] 5)) (g := wr.heap.size) (b := b) (by simp))
      have HO2 := Lib.hid (Own.below ((Below.refl wr.heap.size wr).alloc (Nat.le_refl _) (.cells #[.int .u8 (b.toNat : Int)] 5)) HO.out)
      have HS := Lib.hid HB.out.size
      clear hbb
      go_wp2_with (at_builtin; refine app_rd rfl (.tmp 22) (.tmp 25) rfl w.heap.size _ _ (l ++ pre) [b] rfl rfl HO2.out HR.out (Lim.mk_ (by have := HPL.out; simp; omega)) (by have := HS.out; simp; omega) ?_; intro v'' w' hown hg; have HO3 := Lib.hid hown; have HG := Lib.hid hg; clear hown hg)
      go_ret
      exact ⟨_, rfl, by rw [HP2.out, ← List.append_assoc]; exact HO3.out, (((HB.out.alloc (by have := HS.out; omega) _)).grown HG.out (by have := HS.out; simp; omega) (fun k hk => (HO2.out.lt k hk).1))⟩
theorem refText_any (v : Value) (l : List UInt8) (s : ByteArray) (w : World) (h : Rd w v l) (hl : l.length ≤ 100000000) (hs : s.size ≤ 100000000) :
    Calls Tryd.prog 21 #[v, .string s] w fun e w' => ∃ v', e = .returned v' ∧ Own w.heap.size w' v' (l ++ textB s) ∧ Below w.heap.size w w' := by
  have HC := Lib.hid (refPut_any v l s.size w h hl (by omega))
  have HPL := Lib.hid (putB_len9 s.size (by omega))
  clear h
  go_enter Tryd.func21, Tryd.ntmps21
  go_wp2_with (first
    | (go_at_call 20; refine HC.out.mono ?_; rintro e w' ⟨v', rfl, hown, hb⟩; have HO := Lib.hid hown; have HB := Lib.hid hb; clear hown hb)
    | (at_builtin; refine app_str rfl (.tmp 8) (.tmp 9) rfl w.heap.size _ (l ++ putB s.size) s rfl rfl HO.out (Lim.mk_ (by have := HPL.out; simp; omega)) HB.out.size ?_; intro v'' w' hown hg; have HO3 := Lib.hid hown; have HG := Lib.hid hg; clear hown hg))
  go_ret
  exact ⟨_, rfl, by unfold textB; rw [← List.append_assoc]; exact HO3.out, HB.out.grown HG.out HB.out.size (fun k hk => (HO.out.lt k hk).1)⟩
end Go.Proofs.YtcpicndapmaiaaaDoor
