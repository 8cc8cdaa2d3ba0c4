import Derived.Test.YtcpicndapmaiaaaDoorWl
namespace Go.Proofs.YtcpicndapmaiaaaDoor
open Go Go.RowKit
def WriteAt (n : Nat) : Prop := ∀ (d : D) (w0 w : World) (c0 c1 c2 c3 : Value) (B b : Nat) (acc : List UInt8), d.right n = true → IsD w0 d c0 c1 c2 c3 → Below w0.heap.size w0 w → w0.heap.size ≤ B → D.Small 1048576 d → Bd B b acc w → B ≤ w.heap.size → acc.length + (printD d).length ≤ 90000000 →
  Calls Tryd.prog 31 #[.pointer (some ⟨b, 0, none⟩), .agg #[c0, c1, c2, c3]] w fun e w' => WPost B b (acc ++ printD d) w e w'
theorem dot3 : (⟨#[32, 46, 32]⟩ : ByteArray).toList = [32, 46, 32] := by simp [ByteArray.toList_eq]
set_option maxHeartbeats 4000000 in
set_option maxRecDepth 100000 in
theorem write_comp5 (m : Nat) (ih : WriteAt m) (s : ByteArray) (l t : List D) (w0 w : World) (A2 A3 : Option Addr) (n2 n3 : Nat) (B b : Nat) (acc : List UInt8) (hl : l.length ≤ 1048576) (ht : t.length ≤ 1048576)
    (h2 : IsL w0 l A2 0) (h3 : IsL w0 t A3 0) (hw0 : Below w0.heap.size w0 w) (hw0B : w0.heap.size ≤ B) (hsl : ∀ d, d ∈ l → D.Small 1048576 d) (hst : ∀ d, d ∈ t → D.Small 1048576 d) (hrl : ∀ d, d ∈ l → d.right m = true) (hrt : ∀ d, d ∈ t → d.right m = true) (hb : Bd B b acc w) (hB : B ≤ w.heap.size) (hlen : acc.length + (printD (.mk 5 s l t)).length ≤ 90000000) :
    Calls Tryd.prog 31 #[.pointer (some ⟨b, 0, none⟩), .agg #[.int .i64 5, .string s, .slice A2 l.length n2, .slice A3 t.length n3]] w fun e w' => WPost B b (acc ++ printD (.mk 5 s l t)) w e w' := by
  have HR := Lib.hid (printD5 s l t)
  have hln : acc.length + (prL l true).length + (prT t).length ≤ 89999998 := by rw [printD5] at hlen; simp only [List.length_append, List.length_cons, List.length_nil] at hlen; omega
  have HLN := Lib.hid hln
  have IH := Lib.hid ih
  have HSL := Lib.hid hsl
  have HST := Lib.hid hst
  have HRL := Lib.hid hrl
  have HRT := Lib.hid hrt
  obtain ⟨W0, hW0, hK0, hbx⟩ : ∃ W0, W0 = w.alloc (.cells #[.int .i64 5, .string s, .slice A2 l.length n2, .slice A3 t.length n3] 37) ∧ Kp B b w W0 ∧ W0.heap[w.heap.size]? = some (.cells #[.int .i64 5, .string s, .slice A2 l.length n2, .slice A3 t.length n3] 37 (0, 0)) := ⟨_, rfl, (Kp.refl B b w).alloc hB _, heap_alloc_new w _⟩
  have hne : w.heap.size ≠ b := by have := hb.lt; omega
  have HBD := Lib.hid (show Bd B b acc W0 by rw [hW0]; exact hb.alloc _)
  have HK := Lib.hid hK0
  have HX := Lib.hid (fun y (h : Kp B b W0 y) => h.blk hbx hne (by decide))
  have HS := Lib.hid (show B ≤ W0.heap.size from Nat.le_trans hB hK0.size)
  have HSB := Lib.hid (show b < W0.heap.size from by have h1 := hb.lt; have h2 := hK0.size; omega)
  have HBW := Lib.hid (fun y (h : Kp B b W0 y) => hw0.trans ((hK0.below.mono hw0B).trans (h.below.mono hw0B)))
  have H2 := Lib.hid h2
  have H3 := Lib.hid h3
  have HW0 := Lib.hid hW0
  have HWB := Lib.hid hw0B
  have hb0 : W0.cell? ⟨w.heap.size, 0, none⟩ = some (.int .i64 5) := cell_of_row W0 _ 0 _ _ _ hbx
  clear hb hK0 hbx hne hW0 ih h2 h3 hsl hst hrl hrt hlen hln hw0 hw0B
  go_enter Tryd.func31, Tryd.ntmps31
  go_upto_region 1 with fail
  rw [← HW0.out]
  go_upto_region 20 with (go_at_call 45; refine (writeByte_any B b acc 40 40 _ rfl HBD.out (by have := HLN.out; omega) HS.out).mono ?_; rintro e w' ⟨rfl, hb, hk⟩; have HD := Lib.hid hb; have HE := Lib.hid hk; clear hb hk)
  clear hb0
  have hb2 : w'.cell? ⟨w.heap.size, 2, none⟩ = some (.slice A2 l.length n2) := cell_of_row w' _ 2 _ _ _ (HX.out w' HE.out)
  go_wp2_with fail
  clear hb2
  go_loopw [7, 8, 56] (fun _ _ i wr => ∃ k : Nat, k ≤ l.length ∧ i = .int .i64 k ∧ Hid (Bd B b (acc ++ ([40] ++ prL (l.take k) true)) wr) ∧ Hid (Kp B b W0 wr)) (fun _ _ i _ => l.length - (intOf i).toNat)
  case atStart => exact ⟨0, Nat.zero_le _, rfl, by simpa [Hid, prL] using HD.out, HE⟩
  case round =>
    clear HD HE HBD
    obtain ⟨k, hk, rfl, HD, HE⟩ := hrel
    have HL := Lib.hid (show (acc ++ ([40] ++ prL (l.take k) true)).length ≤ 90000000 from by
      have h1 := prL_le l k true
      have h2 := HLN.out
      simp only [List.length_append, List.length_cons, List.length_nil]; omega)
    have HSr := Lib.hid (Nat.le_trans HS.out HE.out.size)
    have HSb := Lib.hid (Nat.lt_of_lt_of_le HSB.out HE.out.size)
    by_cases hlt : k < l.length
    · obtain ⟨ad, c0, c1, c2, c3, rfl, g0, g1, g2, g3, hx⟩ := H2.out.get0 k hlt
      obtain ⟨B2, m2, B3, m3, rfl, rfl, rfl, rfl, -⟩ := hx.form
      replace g0 := cell_below (HBW.out wr HE.out) g0
      replace g1 := cell_below (HBW.out wr HE.out) g1
      replace g2 := cell_below (HBW.out wr HE.out) g2
      replace g3 := cell_below (HBW.out wr HE.out) g3
      have HSN := Lib.hid (prL_snoc l k hlt true)
      have hlk : acc.length + ([40] ++ prL (l.take k) true).length + (if k = 0 then 0 else 1) + (printD l[k]).length ≤ 90000000 := by
        have h2 := HLN.out
        have h1 := prL_snoc l k hlt true
        have h3 := prL_le l (k + 1) true
        rw [h1] at h3
        by_cases hk0 : k = 0
        · simp only [hk0, if_true, List.length_append, List.length_cons, List.length_nil] at h3 ⊢; omega
        · simp only [hk0, if_false, List.length_append, List.length_cons, List.length_nil] at h3 ⊢; omega
      have HLK := Lib.hid hlk
      have HMEM := Lib.hid (List.getElem_mem hlt)
      have HC := Lib.hid (fun y acc' (hy : Kp B b W0 y) (hbd : Bd B b acc' y) (hacc : acc'.length + (printD l[k]).length ≤ 90000000) => IH.out l[k] w0 y _ _ _ _ B b acc' (HRL.out _ HMEM.out) hx (HBW.out y hy) HWB.out (HSL.out _ HMEM.out) hbd (Nat.le_trans HS.out hy.size) hacc)
      clear hx hlk
      by_cases hk0 : k = 0
      · have HPOST := Lib.hid (show acc ++ ([40] ++ prL (l.take (k + 1)) true) = (acc ++ ([40] ++ prL (l.take k) true)) ++ printD l[k] from by rw [HSN.out, if_pos hk0]; simp)
        have HLK2 := Lib.hid (show (acc ++ ([40] ++ prL (l.take k) true)).length + (printD l[k]).length ≤ 90000000 from by have := HLK.out; rw [if_pos hk0] at this; rw [List.length_append]; omega)
        have hk0' : (k : Int) ≤ 0 := by omega
        clear hk0
        go_wp2_with fail
        refine (HC.out _ _ (HE.out.alloc HSr.out _) (HD.out.alloc _) HLK2.out).mono ?_
        rintro e w' ⟨rfl, hb, hk2⟩
        have HD2 := Lib.hid hb
        have HE2 := Lib.hid hk2
        clear hb hk2
        go_wp2_with fail
        go_roundw
        case rel => exact ⟨k + 1, by omega, by go_num, Lib.hid (by rw [HPOST.out]; exact HD2.out), (HE.out.alloc HSr.out _).trans HE2.out⟩
        case measure => simp [intOf]; omega
      · have HPOST := Lib.hid (show acc ++ ([40] ++ prL (l.take (k + 1)) true) = ((acc ++ ([40] ++ prL (l.take k) true)) ++ [32]) ++ printD l[k] from by rw [HSN.out, if_neg hk0]; simp)
        have HLK2 := Lib.hid (show ((acc ++ ([40] ++ prL (l.take k) true)) ++ [32]).length + (printD l[k]).length ≤ 90000000 from by have := HLK.out; rw [if_neg hk0] at this; rw [List.length_append, List.length_append]; simp only [List.length_cons, List.length_nil]; omega)
        have hkp : 0 < k := by omega
        clear hk0
        go_wp2_with fail
        refine (writeByte_any B b _ 32 32 _ rfl (HD.out.alloc _) (by have := HL.out; omega) (HE.out.alloc HSr.out (.cells #[Value.int .i64 l[k].kind, .string l[k].text, .slice B2 l[k].list.length m2, .slice B3 l[k].tail.length m3] 37) |> fun h => Nat.le_trans HS.out h.size)).mono ?_
        rintro e w' ⟨rfl, hb, hk2⟩
        have HD2 := Lib.hid hb
        have HE2 := Lib.hid hk2
        have hxb := hk2.blk (heap_alloc_new wr (.cells #[Value.int .i64 l[k].kind, .string l[k].text, .slice B2 l[k].list.length m2, .slice B3 l[k].tail.length m3] 37)) (by have := HSb.out; have := HE.out.size; omega) (by decide)
        have hx0 : w'.cell? ⟨wr.heap.size, 0, none⟩ = some (.int .i64 l[k].kind) := cell_of_row w' _ 0 _ _ _ hxb
        have hx1 : w'.cell? ⟨wr.heap.size, 1, none⟩ = some (.string l[k].text) := cell_of_row w' _ 1 _ _ _ hxb
        have hx2 : w'.cell? ⟨wr.heap.size, 2, none⟩ = some (.slice B2 l[k].list.length m2) := cell_of_row w' _ 2 _ _ _ hxb
        have hx3 : w'.cell? ⟨wr.heap.size, 3, none⟩ = some (.slice B3 l[k].tail.length m3) := cell_of_row w' _ 3 _ _ _ hxb
        clear hb hk2 hxb
        go_wp2_with fail
        refine (HC.out _ _ ((HE.out.alloc HSr.out _).trans HE2.out) HD2.out HLK2.out).mono ?_
        rintro e w2 ⟨rfl, hb, hk2⟩
        have HD3 := Lib.hid hb
        have HE3 := Lib.hid hk2
        clear hb hk2
        go_wp2_with fail
        go_roundw
        case rel => exact ⟨k + 1, by omega, by go_num, Lib.hid (by rw [HPOST.out]; exact HD3.out), ((HE.out.alloc HSr.out _).trans HE2.out).trans HE3.out⟩
        case measure => simp [intOf]; omega
    · have HD1 := Lib.hid (show Bd B b (acc ++ ([40] ++ prL l true)) wr from by have := HD.out; rwa [List.take_of_length_le (by omega)] at this)
      have hb3 : wr.cell? ⟨w.heap.size, 3, none⟩ = some (.slice A3 t.length n3) := cell_of_row wr _ 3 _ _ _ (HX.out wr HE.out)
      clear HD HL
      go_wp2_with fail
      clear hb3
      obtain ⟨wo, rfl⟩ : ∃ wo : World, wo = wr := ⟨_, rfl⟩
      go_loopw [10, 72] (fun _ i wr => ∃ k : Nat, k ≤ t.length ∧ i = .int .i64 k ∧ Hid (Bd B b (acc ++ ([40] ++ (prL l true ++ prT (t.take k)))) wr) ∧ Hid (Kp B b W0 wr)) (fun _ i _ => t.length - (intOf i).toNat)
      case atStart => exact ⟨0, Nat.zero_le _, rfl, by simpa [Hid, prT] using HD1.out, HE⟩
      case round =>
        clear HD1 HE HSr HSb
        obtain ⟨k, hk, rfl, HD, HE⟩ := hrel
        have HL := Lib.hid (show (acc ++ ([40] ++ (prL l true ++ prT (t.take k)))).length ≤ 90000000 from by
          have h1 := prT_le t k
          have h2 := HLN.out
          simp only [List.length_append, List.length_cons, List.length_nil]; omega)
        have HSr := Lib.hid (Nat.le_trans HS.out HE.out.size)
        have HSb := Lib.hid (Nat.lt_of_lt_of_le HSB.out HE.out.size)
        by_cases hlt : k < t.length
        · obtain ⟨ad, c0, c1, c2, c3, rfl, g0, g1, g2, g3, hx⟩ := H3.out.get0 k hlt
          obtain ⟨B2, m2, B3, m3, rfl, rfl, rfl, rfl, -⟩ := hx.form
          replace g0 := cell_below (HBW.out wr HE.out) g0
          replace g1 := cell_below (HBW.out wr HE.out) g1
          replace g2 := cell_below (HBW.out wr HE.out) g2
          replace g3 := cell_below (HBW.out wr HE.out) g3
          have HPOST := Lib.hid (show acc ++ ([40] ++ (prL l true ++ prT (t.take (k + 1)))) = ((acc ++ ([40] ++ (prL l true ++ prT (t.take k)))) ++ [32, 46, 32]) ++ printD t[k] from by rw [prT_snoc t k hlt]; simp)
          have HLK2 := Lib.hid (show ((acc ++ ([40] ++ (prL l true ++ prT (t.take k)))) ++ [32, 46, 32]).length + (printD t[k]).length ≤ 90000000 from by
            have h2 := HLN.out
            have h1 := prT_snoc t k hlt
            have h3 := prT_le t (k + 1)
            rw [h1] at h3
            simp only [List.length_append, List.length_cons, List.length_nil] at h3 ⊢; omega)
          have HMEM := Lib.hid (List.getElem_mem hlt)
          have HC := Lib.hid (fun y acc' (hy : Kp B b W0 y) (hbd : Bd B b acc' y) (hacc : acc'.length + (printD t[k]).length ≤ 90000000) => IH.out t[k] w0 y _ _ _ _ B b acc' (HRT.out _ HMEM.out) hx (HBW.out y hy) HWB.out (HST.out _ HMEM.out) hbd (Nat.le_trans HS.out hy.size) hacc)
          clear hx
          go_wp2_with fail
          refine (writeString_any B b _ ⟨#[32, 46, 32]⟩ _ (HD.out.alloc _) (by have := HL.out; have e : (⟨#[32, 46, 32]⟩ : ByteArray).size = 3 := rfl; omega) (HE.out.alloc HSr.out (.cells #[Value.int .i64 t[k].kind, .string t[k].text, .slice B2 t[k].list.length m2, .slice B3 t[k].tail.length m3] 37) |> fun h => Nat.le_trans HS.out h.size)).mono ?_
          rintro e w' ⟨rfl, hb, hk2⟩
          rw [dot3] at hb
          have HD2 := Lib.hid hb
          have HE2 := Lib.hid hk2
          have hxb := hk2.blk (heap_alloc_new wr (.cells #[Value.int .i64 t[k].kind, .string t[k].text, .slice B2 t[k].list.length m2, .slice B3 t[k].tail.length m3] 37)) (by have := HSb.out; have := HE.out.size; omega) (by decide)
          have hx0 : w'.cell? ⟨wr.heap.size, 0, none⟩ = some (.int .i64 t[k].kind) := cell_of_row w' _ 0 _ _ _ hxb
          have hx1 : w'.cell? ⟨wr.heap.size, 1, none⟩ = some (.string t[k].text) := cell_of_row w' _ 1 _ _ _ hxb
          have hx2 : w'.cell? ⟨wr.heap.size, 2, none⟩ = some (.slice B2 t[k].list.length m2) := cell_of_row w' _ 2 _ _ _ hxb
          have hx3 : w'.cell? ⟨wr.heap.size, 3, none⟩ = some (.slice B3 t[k].tail.length m3) := cell_of_row w' _ 3 _ _ _ hxb
          clear hb hk2 hxb
          go_wp2_with fail
          refine (HC.out _ _ ((HE.out.alloc HSr.out _).trans HE2.out) HD2.out HLK2.out).mono ?_
          rintro e w2 ⟨rfl, hb, hk2⟩
          have HD3 := Lib.hid hb
          have HE3 := Lib.hid hk2
          clear hb hk2
          go_wp2_with fail
          go_roundw
          case rel => exact ⟨k + 1, by omega, by go_num, Lib.hid (by rw [HPOST.out]; exact HD3.out), ((HE.out.alloc HSr.out _).trans HE2.out).trans HE3.out⟩
          case measure => simp [intOf]; omega
        · have HD1 := Lib.hid (show Bd B b (acc ++ ([40] ++ (prL l true ++ prT t))) wr from by have := HD.out; rwa [List.take_of_length_le (by omega)] at this)
          go_wp2_with (go_at_call 45; refine (writeByte_any B b _ 41 41 _ rfl HD1.out (by have h1 := HLN.out; simp only [List.length_append, List.length_cons, List.length_nil]; omega) HSr.out).mono ?_; rintro e w' ⟨rfl, hb, hk⟩; have HD2 := Lib.hid hb; have HE2 := Lib.hid hk; clear hb hk)
          go_end0
          exact ⟨rfl, by rw [HR.out]; simpa using HD2.out, HK.out.trans (HE.out.trans HE2.out)⟩
set_option maxHeartbeats 4000000 in
set_option maxRecDepth 100000 in
theorem write_comp6 (m : Nat) (ih : WriteAt m) (s : ByteArray) (l t : List D) (w0 w : World) (A2 A3 : Option Addr) (n2 n3 : Nat) (B b : Nat) (acc : List UInt8) (hl : l.length ≤ 1048576) (ht : t.length ≤ 1048576)
    (h2 : IsL w0 l A2 0) (h3 : IsL w0 t A3 0) (hw0 : Below w0.heap.size w0 w) (hw0B : w0.heap.size ≤ B) (hsl : ∀ d, d ∈ l → D.Small 1048576 d) (hst : ∀ d, d ∈ t → D.Small 1048576 d) (hrl : ∀ d, d ∈ l → d.right m = true) (hrt : ∀ d, d ∈ t → d.right m = true) (hb : Bd B b acc w) (hB : B ≤ w.heap.size) (hlen : acc.length + (printD (.mk 6 s l t)).length ≤ 90000000) :
    Calls Tryd.prog 31 #[.pointer (some ⟨b, 0, none⟩), .agg #[.int .i64 6, .string s, .slice A2 l.length n2, .slice A3 t.length n3]] w fun e w' => WPost B b (acc ++ printD (.mk 6 s l t)) w e w' := by
  have HR := Lib.hid (printD6 s l t)
  have hln : acc.length + (prL l true).length + (prT t).length ≤ 89999998 := by rw [printD6] at hlen; simp only [List.length_append, List.length_cons, List.length_nil] at hlen; omega
  have HLN := Lib.hid hln
  have IH := Lib.hid ih
  have HSL := Lib.hid hsl
  have HST := Lib.hid hst
  have HRL := Lib.hid hrl
  have HRT := Lib.hid hrt
  obtain ⟨W0, hW0, hK0, hbx⟩ : ∃ W0, W0 = w.alloc (.cells #[.int .i64 6, .string s, .slice A2 l.length n2, .slice A3 t.length n3] 37) ∧ Kp B b w W0 ∧ W0.heap[w.heap.size]? = some (.cells #[.int .i64 6, .string s, .slice A2 l.length n2, .slice A3 t.length n3] 37 (0, 0)) := ⟨_, rfl, (Kp.refl B b w).alloc hB _, heap_alloc_new w _⟩
  have hne : w.heap.size ≠ b := by have := hb.lt; omega
  have HBD := Lib.hid (show Bd B b acc W0 by rw [hW0]; exact hb.alloc _)
  have HK := Lib.hid hK0
  have HX := Lib.hid (fun y (h : Kp B b W0 y) => h.blk hbx hne (by decide))
  have HS := Lib.hid (show B ≤ W0.heap.size from Nat.le_trans hB hK0.size)
  have HSB := Lib.hid (show b < W0.heap.size from by have h1 := hb.lt; have h2 := hK0.size; omega)
  have HBW := Lib.hid (fun y (h : Kp B b W0 y) => hw0.trans ((hK0.below.mono hw0B).trans (h.below.mono hw0B)))
  have H2 := Lib.hid h2
  have H3 := Lib.hid h3
  have HW0 := Lib.hid hW0
  have HWB := Lib.hid hw0B
  have hb0 : W0.cell? ⟨w.heap.size, 0, none⟩ = some (.int .i64 6) := cell_of_row W0 _ 0 _ _ _ hbx
  clear hb hK0 hbx hne hW0 ih h2 h3 hsl hst hrl hrt hlen hln hw0 hw0B
  go_enter Tryd.func31, Tryd.ntmps31
  go_upto_region 1 with fail
  rw [← HW0.out]
  go_wp2_with fail
  refine (writeByte_any B b acc 35 35 _ rfl HBD.out (by have := HLN.out; omega) HS.out).mono ?_
  rintro e w1 ⟨rfl, hb, hk⟩
  have HD1 := Lib.hid hb
  have HE1 := Lib.hid hk
  clear hb hk
  go_upto_region 20 with (go_at_call 45; refine (writeByte_any B b (acc ++ [35]) 40 40 _ rfl HD1.out (by have := HLN.out; rw [List.length_append]; simp only [List.length_cons, List.length_nil]; omega) (Nat.le_trans HS.out HE1.out.size)).mono ?_; rintro e w' ⟨rfl, hb, hk⟩; have HD := Lib.hid hb; have HE := Lib.hid (HE1.out.trans hk); clear hb hk)
  clear HD1 HE1
  clear hb0
  have hb2 : w'.cell? ⟨w.heap.size, 2, none⟩ = some (.slice A2 l.length n2) := cell_of_row w' _ 2 _ _ _ (HX.out w' HE.out)
  go_wp2_with fail
  clear hb2
  go_loopw [7, 8, 56] (fun _ _ i wr => ∃ k : Nat, k ≤ l.length ∧ i = .int .i64 k ∧ Hid (Bd B b (acc ++ ([35, 40] ++ prL (l.take k) true)) wr) ∧ Hid (Kp B b W0 wr)) (fun _ _ i _ => l.length - (intOf i).toNat)
  case atStart => exact ⟨0, Nat.zero_le _, rfl, by simpa [Hid, prL] using HD.out, HE⟩
  case round =>
    clear HD HE HBD
    obtain ⟨k, hk, rfl, HD, HE⟩ := hrel
    have HL := Lib.hid (show (acc ++ ([35, 40] ++ prL (l.take k) true)).length ≤ 90000000 from by
      have h1 := prL_le l k true
      have h2 := HLN.out
      simp only [List.length_append, List.length_cons, List.length_nil]; omega)
    have HSr := Lib.hid (Nat.le_trans HS.out HE.out.size)
    have HSb := Lib.hid (Nat.lt_of_lt_of_le HSB.out HE.out.size)
    by_cases hlt : k < l.length
    · obtain ⟨ad, c0, c1, c2, c3, rfl, g0, g1, g2, g3, hx⟩ := H2.out.get0 k hlt
      obtain ⟨B2, m2, B3, m3, rfl, rfl, rfl, rfl, -⟩ := hx.form
      replace g0 := cell_below (HBW.out wr HE.out) g0
      replace g1 := cell_below (HBW.out wr HE.out) g1
      replace g2 := cell_below (HBW.out wr HE.out) g2
      replace g3 := cell_below (HBW.out wr HE.out) g3
      have HSN := Lib.hid (prL_snoc l k hlt true)
      have hlk : acc.length + ([35, 40] ++ prL (l.take k) true).length + (if k = 0 then 0 else 1) + (printD l[k]).length ≤ 90000000 := by
        have h2 := HLN.out
        have h1 := prL_snoc l k hlt true
        have h3 := prL_le l (k + 1) true
        rw [h1] at h3
        by_cases hk0 : k = 0
        · simp only [hk0, if_true, List.length_append, List.length_cons, List.length_nil] at h3 ⊢; omega
        · simp only [hk0, if_false, List.length_append, List.length_cons, List.length_nil] at h3 ⊢; omega
      have HLK := Lib.hid hlk
      have HMEM := Lib.hid (List.getElem_mem hlt)
      have HC := Lib.hid (fun y acc' (hy : Kp B b W0 y) (hbd : Bd B b acc' y) (hacc : acc'.length + (printD l[k]).length ≤ 90000000) => IH.out l[k] w0 y _ _ _ _ B b acc' (HRL.out _ HMEM.out) hx (HBW.out y hy) HWB.out (HSL.out _ HMEM.out) hbd (Nat.le_trans HS.out hy.size) hacc)
      clear hx hlk
      by_cases hk0 : k = 0
      · have HPOST := Lib.hid (show acc ++ ([35, 40] ++ prL (l.take (k + 1)) true) = (acc ++ ([35, 40] ++ prL (l.take k) true)) ++ printD l[k] from by rw [HSN.out, if_pos hk0]; simp)
        have HLK2 := Lib.hid (show (acc ++ ([35, 40] ++ prL (l.take k) true)).length + (printD l[k]).length ≤ 90000000 from by have := HLK.out; rw [if_pos hk0] at this; rw [List.length_append]; omega)
        have hk0' : (k : Int) ≤ 0 := by omega
        clear hk0
        go_wp2_with fail
        refine (HC.out _ _ (HE.out.alloc HSr.out _) (HD.out.alloc _) HLK2.out).mono ?_
        rintro e w' ⟨rfl, hb, hk2⟩
        have HD2 := Lib.hid hb
        have HE2 := Lib.hid hk2
        clear hb hk2
        go_wp2_with fail
        go_roundw
        case rel => exact ⟨k + 1, by omega, by go_num, Lib.hid (by rw [HPOST.out]; exact HD2.out), (HE.out.alloc HSr.out _).trans HE2.out⟩
        case measure => simp [intOf]; omega
      · have HPOST := Lib.hid (show acc ++ ([35, 40] ++ prL (l.take (k + 1)) true) = ((acc ++ ([35, 40] ++ prL (l.take k) true)) ++ [32]) ++ printD l[k] from by rw [HSN.out, if_neg hk0]; simp)
        have HLK2 := Lib.hid (show ((acc ++ ([35, 40] ++ prL (l.take k) true)) ++ [32]).length + (printD l[k]).length ≤ 90000000 from by have := HLK.out; rw [if_neg hk0] at this; rw [List.length_append, List.length_append]; simp only [List.length_cons, List.length_nil]; omega)
        have hkp : 0 < k := by omega
        clear hk0
        go_wp2_with fail
        refine (writeByte_any B b _ 32 32 _ rfl (HD.out.alloc _) (by have := HL.out; omega) (HE.out.alloc HSr.out (.cells #[Value.int .i64 l[k].kind, .string l[k].text, .slice B2 l[k].list.length m2, .slice B3 l[k].tail.length m3] 37) |> fun h => Nat.le_trans HS.out h.size)).mono ?_
        rintro e w' ⟨rfl, hb, hk2⟩
        have HD2 := Lib.hid hb
        have HE2 := Lib.hid hk2
        have hxb := hk2.blk (heap_alloc_new wr (.cells #[Value.int .i64 l[k].kind, .string l[k].text, .slice B2 l[k].list.length m2, .slice B3 l[k].tail.length m3] 37)) (by have := HSb.out; have := HE.out.size; omega) (by decide)
        have hx0 : w'.cell? ⟨wr.heap.size, 0, none⟩ = some (.int .i64 l[k].kind) := cell_of_row w' _ 0 _ _ _ hxb
        have hx1 : w'.cell? ⟨wr.heap.size, 1, none⟩ = some (.string l[k].text) := cell_of_row w' _ 1 _ _ _ hxb
        have hx2 : w'.cell? ⟨wr.heap.size, 2, none⟩ = some (.slice B2 l[k].list.length m2) := cell_of_row w' _ 2 _ _ _ hxb
        have hx3 : w'.cell? ⟨wr.heap.size, 3, none⟩ = some (.slice B3 l[k].tail.length m3) := cell_of_row w' _ 3 _ _ _ hxb
        clear hb hk2 hxb
        go_wp2_with fail
        refine (HC.out _ _ ((HE.out.alloc HSr.out _).trans HE2.out) HD2.out HLK2.out).mono ?_
        rintro e w2 ⟨rfl, hb, hk2⟩
        have HD3 := Lib.hid hb
        have HE3 := Lib.hid hk2
        clear hb hk2
        go_wp2_with fail
        go_roundw
        case rel => exact ⟨k + 1, by omega, by go_num, Lib.hid (by rw [HPOST.out]; exact HD3.out), ((HE.out.alloc HSr.out _).trans HE2.out).trans HE3.out⟩
        case measure => simp [intOf]; omega
    · have HD1 := Lib.hid (show Bd B b (acc ++ ([35, 40] ++ prL l true)) wr from by have := HD.out; rwa [List.take_of_length_le (by omega)] at this)
      have hb3 : wr.cell? ⟨w.heap.size, 3, none⟩ = some (.slice A3 t.length n3) := cell_of_row wr _ 3 _ _ _ (HX.out wr HE.out)
      clear HD HL
      go_wp2_with fail
      clear hb3
      obtain ⟨wo, rfl⟩ : ∃ wo : World, wo = wr := ⟨_, rfl⟩
      go_loopw [10, 72] (fun _ i wr => ∃ k : Nat, k ≤ t.length ∧ i = .int .i64 k ∧ Hid (Bd B b (acc ++ ([35, 40] ++ (prL l true ++ prT (t.take k)))) wr) ∧ Hid (Kp B b W0 wr)) (fun _ i _ => t.length - (intOf i).toNat)
      case atStart => exact ⟨0, Nat.zero_le _, rfl, by simpa [Hid, prT] using HD1.out, HE⟩
      case round =>
        clear HD1 HE HSr HSb
        obtain ⟨k, hk, rfl, HD, HE⟩ := hrel
        have HL := Lib.hid (show (acc ++ ([35, 40] ++ (prL l true ++ prT (t.take k)))).length ≤ 90000000 from by
          have h1 := prT_le t k
          have h2 := HLN.out
          simp only [List.length_append, List.length_cons, List.length_nil]; omega)
        have HSr := Lib.hid (Nat.le_trans HS.out HE.out.size)
        have HSb := Lib.hid (Nat.lt_of_lt_of_le HSB.out HE.out.size)
        by_cases hlt : k < t.length
        · obtain ⟨ad, c0, c1, c2, c3, rfl, g0, g1, g2, g3, hx⟩ := H3.out.get0 k hlt
          obtain ⟨B2, m2, B3, m3, rfl, rfl, rfl, rfl, -⟩ := hx.form
          replace g0 := cell_below (HBW.out wr HE.out) g0
          replace g1 := cell_below (HBW.out wr HE.out) g1
          replace g2 := cell_below (HBW.out wr HE.out) g2
          replace g3 := cell_below (HBW.out wr HE.out) g3
          have HPOST := Lib.hid (show acc ++ ([35, 40] ++ (prL l true ++ prT (t.take (k + 1)))) = ((acc ++ ([35, 40] ++ (prL l true ++ prT (t.take k)))) ++ [32, 46, 32]) ++ printD t[k] from by rw [prT_snoc t k hlt]; simp)
          have HLK2 := Lib.hid (show ((acc ++ ([35, 40] ++ (prL l true ++ prT (t.take k)))) ++ [32, 46, 32]).length + (printD t[k]).length ≤ 90000000 from by
            have h2 := HLN.out
            have h1 := prT_snoc t k hlt
            have h3 := prT_le t (k + 1)
            rw [h1] at h3
            simp only [List.length_append, List.length_cons, List.length_nil] at h3 ⊢; omega)
          have HMEM := Lib.hid (List.getElem_mem hlt)
          have HC := Lib.hid (fun y acc' (hy : Kp B b W0 y) (hbd : Bd B b acc' y) (hacc : acc'.length + (printD t[k]).length ≤ 90000000) => IH.out t[k] w0 y _ _ _ _ B b acc' (HRT.out _ HMEM.out) hx (HBW.out y hy) HWB.out (HST.out _ HMEM.out) hbd (Nat.le_trans HS.out hy.size) hacc)
          clear hx
          go_wp2_with fail
          refine (writeString_any B b _ ⟨#[32, 46, 32]⟩ _ (HD.out.alloc _) (by have := HL.out; have e : (⟨#[32, 46, 32]⟩ : ByteArray).size = 3 := rfl; omega) (HE.out.alloc HSr.out (.cells #[Value.int .i64 t[k].kind, .string t[k].text, .slice B2 t[k].list.length m2, .slice B3 t[k].tail.length m3] 37) |> fun h => Nat.le_trans HS.out h.size)).mono ?_
          rintro e w' ⟨rfl, hb, hk2⟩
          rw [dot3] at hb
          have HD2 := Lib.hid hb
          have HE2 := Lib.hid hk2
          have hxb := hk2.blk (heap_alloc_new wr (.cells #[Value.int .i64 t[k].kind, .string t[k].text, .slice B2 t[k].list.length m2, .slice B3 t[k].tail.length m3] 37)) (by have := HSb.out; have := HE.out.size; omega) (by decide)
          have hx0 : w'.cell? ⟨wr.heap.size, 0, none⟩ = some (.int .i64 t[k].kind) := cell_of_row w' _ 0 _ _ _ hxb
          have hx1 : w'.cell? ⟨wr.heap.size, 1, none⟩ = some (.string t[k].text) := cell_of_row w' _ 1 _ _ _ hxb
          have hx2 : w'.cell? ⟨wr.heap.size, 2, none⟩ = some (.slice B2 t[k].list.length m2) := cell_of_row w' _ 2 _ _ _ hxb
          have hx3 : w'.cell? ⟨wr.heap.size, 3, none⟩ = some (.slice B3 t[k].tail.length m3) := cell_of_row w' _ 3 _ _ _ hxb
          clear hb hk2 hxb
          go_wp2_with fail
          refine (HC.out _ _ ((HE.out.alloc HSr.out _).trans HE2.out) HD2.out HLK2.out).mono ?_
          rintro e w2 ⟨rfl, hb, hk2⟩
          have HD3 := Lib.hid hb
          have HE3 := Lib.hid hk2
          clear hb hk2
          go_wp2_with fail
          go_roundw
          case rel => exact ⟨k + 1, by omega, by go_num, Lib.hid (by rw [HPOST.out]; exact HD3.out), ((HE.out.alloc HSr.out _).trans HE2.out).trans HE3.out⟩
          case measure => simp [intOf]; omega
        · have HD1 := Lib.hid (show Bd B b (acc ++ ([35, 40] ++ (prL l true ++ prT t))) wr from by have := HD.out; rwa [List.take_of_length_le (by omega)] at this)
          go_wp2_with (go_at_call 45; refine (writeByte_any B b _ 41 41 _ rfl HD1.out (by have h1 := HLN.out; simp only [List.length_append, List.length_cons, List.length_nil]; omega) HSr.out).mono ?_; rintro e w' ⟨rfl, hb, hk⟩; have HD2 := Lib.hid hb; have HE2 := Lib.hid hk; clear hb hk)
          go_end0
          exact ⟨rfl, by rw [HR.out]; simpa using HD2.out, HK.out.trans (HE.out.trans HE2.out)⟩
theorem write_leaf (k : Int) (hk : k = 1 ∨ k = 2 ∨ k = 3 ∨ k = 4) (s : ByteArray) (l t : List D) (w : World) (A2 A3 : Option Addr) (n2 n3 : Nat) (B b : Nat) (acc : List UInt8) (hb : Bd B b acc w) (hB : B ≤ w.heap.size) (hs : s.size ≤ 1048576) (ha : acc.length ≤ 90000000) :
    Calls Tryd.prog 31 #[.pointer (some ⟨b, 0, none⟩), .agg #[.int .i64 k, .string s, .slice A2 l.length n2, .slice A3 t.length n3]] w fun e w' => WPost B b (acc ++ printD (.mk k s l t)) w e w' := by
  rcases hk with rfl | rfl | rfl | rfl
  · simpa [printD] using write_text 1 (by simp) s (.slice A2 l.length n2) (.slice A3 t.length n3) B b acc w hb hB hs (by omega)
  · simpa [printD] using write_text 2 (by simp) s (.slice A2 l.length n2) (.slice A3 t.length n3) B b acc w hb hB hs (by omega)
  · simpa [printD] using write_string s (.slice A2 l.length n2) (.slice A3 t.length n3) B b acc w hb hB hs ha
  · simpa [printD] using write_text 4 (by simp) s (.slice A2 l.length n2) (.slice A3 t.length n3) B b acc w hb hB hs (by omega)
theorem write_any : ∀ n, WriteAt n := by
  intro n
  induction n with
  | zero =>
    intro d w0 w c0 c1 c2 c3 B b acc hr hd hw0 hw0B hs hb hB hlen
    obtain ⟨A2, n2, A3, n3, rfl, rfl, rfl, rfl, _, _, l2, l3⟩ := hd.form
    rcases kinds_of_right 0 d hr with h | ⟨_, m, h, _⟩
    · cases d with
      | mk k s l t => exact write_leaf k (leaf_kinds _ h) s l t w A2 A3 n2 n3 B b acc hb hB hs.parts.1 (by omega)
    · cases h
  | succ n ih =>
    intro d w0 w c0 c1 c2 c3 B b acc hr hd hw0 hw0B hs hb hB hlen
    obtain ⟨A2, n2, A3, n3, rfl, rfl, rfl, rfl, _, _, l2, l3⟩ := hd.form
    cases d with
    | mk k s l t =>
      obtain ⟨h1, h2, h3, h4, h5⟩ := hs.parts
      rcases kinds_of_right (n + 1) (.mk k s l t) hr with h | ⟨hk, m, hm, ha, hb'⟩
      · exact write_leaf k (leaf_kinds _ h) s l t w A2 A3 n2 n3 B b acc hb hB h1 (by omega)
      · cases hm
        rcases hk with hk | hk
        · have hk' : k = 5 := hk
          subst hk'; exact write_comp5 n ih s l t w0 w A2 A3 n2 n3 B b acc h2 h3 l2 l3 hw0 hw0B h4 h5 ha hb' hb hB hlen
        · have hk' : k = 6 := hk
          subst hk'; exact write_comp6 n ih s l t w0 w A2 A3 n2 n3 B b acc h2 h3 l2 l3 hw0 hw0B h4 h5 ha hb' hb hB hlen
end Go.Proofs.YtcpicndapmaiaaaDoor
