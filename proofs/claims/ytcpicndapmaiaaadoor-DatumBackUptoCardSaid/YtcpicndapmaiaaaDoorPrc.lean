import Derived.Test.YtcpicndapmaiaaaDoorPr
namespace Go.Proofs.YtcpicndapmaiaaaDoor
open Go Go.RowKit
theorem ByteArray.toList_append (a b : ByteArray) : (a ++ b).toList = a.toList ++ b.toList := by
  rw [ByteArray.toList_eq, ByteArray.toList_eq, ByteArray.toList_eq, ByteArray.data_append, Array.toList_append]
theorem printD5 (s : ByteArray) (l t : List D) : printD (.mk 5 s l t) = [40] ++ (prL l true ++ (prT t ++ [41])) := by simp [printD]
set_option maxHeartbeats 2000000 in
set_option maxRecDepth 100000 in
theorem printed_comp5 (m : Nat) (ih : PrintedAt m) (s : ByteArray) (l t : List D) (w : World) (A2 A3 : Option Addr) (n2 n3 : Nat) (hl : l.length ≤ 1048576) (ht : t.length ≤ 1048576)
    (h2 : IsL w l A2 0) (h3 : IsL w t A3 0) (hsl : ∀ d, d ∈ l → D.Small 1048576 d) (hst : ∀ d, d ∈ t → D.Small 1048576 d) (hrl : ∀ d, d ∈ l → d.right m = true) (hrt : ∀ d, d ∈ t → d.right m = true) (hlen : (printD (.mk 5 s l t)).length ≤ 100000000) :
    Calls Tryd.prog 41 #[.agg #[.int .i64 5, .string s, .slice A2 l.length n2, .slice A3 t.length n3]] w fun e w' => ∃ r : ByteArray, e = .returned (.string r) ∧ r.toList = printD (.mk 5 s l t) ∧ Below w.heap.size w w' := by
  have HR := Lib.hid (printD5 s l t)
  have hln : (prL l true).length + (prT t).length ≤ 99999998 := by rw [printD5] at hlen; simp only [List.length_append, List.length_cons, List.length_nil] at hlen; omega
  have HLN := Lib.hid hln
  have IH := Lib.hid ih
  have H2 := Lib.hid h2
  have H3 := Lib.hid h3
  have HSL := Lib.hid hsl
  have HST := Lib.hid hst
  have HRL := Lib.hid hrl
  have HRT := Lib.hid hrt
  clear ih h2 h3 hsl hst hrl hrt hlen hln
  obtain ⟨W0, hW0, hbW0, hbx, hsz⟩ : ∃ W0, W0 = w.alloc (.cells #[.int .i64 5, .string s, .slice A2 l.length n2, .slice A3 t.length n3] 37) ∧ Below w.heap.size w W0 ∧ W0.heap[w.heap.size]? = some (.cells #[.int .i64 5, .string s, .slice A2 l.length n2, .slice A3 t.length n3] 37 (0, 0)) ∧ W0.heap.size = w.heap.size + 1 := ⟨_, rfl, (Below.refl w.heap.size w).alloc (Nat.le_refl _) _, heap_alloc_new w _, by simp⟩
  have hb0 : W0.cell? ⟨w.heap.size, 0, none⟩ = some (.int .i64 5) := cell_of_row W0 _ 0 _ _ _ hbx
  have hb2 : W0.cell? ⟨w.heap.size, 2, none⟩ = some (.slice A2 l.length n2) := cell_of_row W0 _ 2 _ _ _ hbx
  have hb3 : W0.cell? ⟨w.heap.size, 3, none⟩ = some (.slice A3 t.length n3) := cell_of_row W0 _ 3 _ _ _ hbx
  have HW := Lib.hid hbW0
  have HW0 := Lib.hid hW0
  have HSZ := Lib.hid hsz
  clear hbW0 hW0 hsz hbx
  go_enter Tryd.func41, Tryd.ntmps41
  go_upto_region 1 with fail
  rw [← HW0.out]
  go_wp2_with fail
  go_loopw [3, 4, 5, 27] (fun v _ _ i wr => ∃ (k : Nat) (q : ByteArray), k ≤ l.length ∧ i = .int .i64 k ∧ v = .string q ∧ Hid (q.toList = [40] ++ prL (l.take k) true) ∧ Hid (Below W0.heap.size W0 wr)) (fun _ _ _ i _ => l.length - (intOf i).toNat)
  case atStart => exact ⟨0, _, Nat.zero_le _, rfl, rfl, by simp [Hid, prL, ByteArray.toList_eq], Below.refl _ _⟩
  case round =>
    obtain ⟨k, q, hk, rfl, rfl, HQ, HB1⟩ := hrel
    have hqs : q.size ≤ 100000000 := by
      have h1 := prL_le l k true
      have h2 := HLN.out
      rw [← toList_len q, HQ.out]; simp only [List.length_append, List.length_cons, List.length_nil]; omega
    by_cases hlt : k < l.length
    · obtain ⟨ad, c0, c1, c2, c3, rfl, g0, g1, g2, g3, hx⟩ := (IsL.below HB1.out (IsL.below HW.out H2.out)).get0 k hlt
      obtain ⟨B2, m2, B3, m3, rfl, rfl, rfl, rfl, -⟩ := hx.form
      have hml := prL_mem l k hlt
      have HC := Lib.hid (fun o => IH.out l[k] (wr.alloc o) _ _ _ _ (HRL.out _ (List.getElem_mem hlt)) (IsD.below ((Below.refl wr.heap.size wr).alloc (Nat.le_refl _) o) hx) (HSL.out _ (List.getElem_mem hlt)) (by have := HLN.out; omega))
      have HSN := Lib.hid (prL_snoc l k hlt true)
      have HPL := Lib.hid (show (printD l[k]).length ≤ 100000000 from by have := HLN.out; omega)
      clear hx hml
      by_cases hk0 : k = 0
      · subst hk0
        rw [Nat.zero_mul, show ad.add 0 = ad from by simp [Addr.add]] at g0 g1 g2 g3
        go_wp2_with (go_at_call 41; refine (HC.out _).mono ?_; rintro e w' ⟨t', rfl, ht', hb⟩; have HT := Lib.hid ht'; have htl : t'.size ≤ 100000000 := (by rw [← toList_len, ht']; exact HPL.out); have HB2 := Lib.hid hb; clear hb ht')
        go_roundw
        case rel => exact ⟨1, _, by omega, by go_num, rfl, Lib.hid (by rw [HSN.out, ByteArray.toList_append, HQ.out, HT.out]; simp [prL]), HB1.out.trans (((Below.refl wr.heap.size wr).alloc (Nat.le_refl _) _).trans (HB2.out.mono (by simp)) |>.mono HB1.out.size)⟩
        case measure => simp [intOf]; omega
      · have hkp : 0 < k := by omega
        clear hk0
        go_wp2_with (go_at_call 41; refine (HC.out _).mono ?_; rintro e w' ⟨t', rfl, ht', hb⟩; have HT := Lib.hid ht'; have htl : t'.size ≤ 100000000 := (by rw [← toList_len, ht']; exact HPL.out); have HB2 := Lib.hid hb; clear hb ht')
        go_roundw
        case rel => exact ⟨k + 1, _, by omega, by go_num, rfl, Lib.hid (by rw [HSN.out, ByteArray.toList_append, ByteArray.toList_append, HQ.out, HT.out, if_neg (by omega)]; simp [ByteArray.toList_eq]), HB1.out.trans (((Below.refl wr.heap.size wr).alloc (Nat.le_refl _) _).trans (HB2.out.mono (by simp)) |>.mono HB1.out.size)⟩
        case measure => simp [intOf]; omega
    · have HQ1 := Lib.hid (show q.toList = [40] ++ prL l true from by rw [HQ.out, List.take_of_length_le (by omega)])
      obtain ⟨hc, hf⟩ := bcell HB1.out
      have hsz : w.heap.size < W0.heap.size := by rw [HSZ.out]; omega
      clear HQ
      go_wp2
      clear hc hf
      obtain ⟨wo, rfl⟩ : ∃ wo : World, wo = wr := ⟨_, rfl⟩
      have HWo := Lib.hid (HW.out.trans (HB1.out.mono HW.out.size))
      have H3o := Lib.hid (IsL.below HB1.out (IsL.below HW.out H3.out))
      clear HB1 HSZ HW0 hsz
      go_loopw [3, 7, 44] (fun v _ i wq => ∃ (k : Nat) (q' : ByteArray), k ≤ t.length ∧ i = .int .i64 k ∧ v = .string q' ∧ Hid (q'.toList = ([40] ++ prL l true) ++ prT (t.take k)) ∧ Hid (Below wo.heap.size wo wq)) (fun _ _ i _ => t.length - (intOf i).toNat)
      case atStart => exact ⟨0, q, Nat.zero_le _, rfl, rfl, by simp [Hid, prT]; simpa using HQ1.out, Below.refl _ _⟩
      case round =>
        clear HQ1
        obtain ⟨k, q', hk, rfl, rfl, HQ, HB1⟩ := hrel
        have hqs' : q'.size ≤ 100000000 := by
          have h1 := prT_le t k
          have h2 := HLN.out
          rw [← toList_len q', HQ.out]; simp only [List.length_append, List.length_cons, List.length_nil]; omega
        by_cases hlt : k < t.length
        · obtain ⟨ad, c0, c1, c2, c3, rfl, g0, g1, g2, g3, hx⟩ := (IsL.below HB1.out H3o.out).get0 k hlt
          obtain ⟨B2, m2, B3, m3, rfl, rfl, rfl, rfl, -⟩ := hx.form
          have hml := prT_mem t k hlt
          have HC := Lib.hid (fun o => IH.out t[k] (wr.alloc o) _ _ _ _ (HRT.out _ (List.getElem_mem hlt)) (IsD.below ((Below.refl wr.heap.size wr).alloc (Nat.le_refl _) o) hx) (HST.out _ (List.getElem_mem hlt)) (by have := HLN.out; omega))
          have HSN := Lib.hid (prT_snoc t k hlt)
          have HPL := Lib.hid (show (printD t[k]).length ≤ 100000000 from by have := HLN.out; omega)
          clear hx hml
          go_wp2_with (go_at_call 41; refine (HC.out _).mono ?_; rintro e w' ⟨t', rfl, ht', hb⟩; have HT := Lib.hid ht'; have htl : t'.size ≤ 100000000 := (by rw [← toList_len, ht']; exact HPL.out); have HB2 := Lib.hid hb; clear hb ht')
          go_roundw
          case rel => exact ⟨k + 1, _, by omega, by go_num, rfl, Lib.hid (by rw [HSN.out, ByteArray.toList_append, ByteArray.toList_append, HQ.out, HT.out]; simp [ByteArray.toList_eq]), HB1.out.trans (((Below.refl wr.heap.size wr).alloc (Nat.le_refl _) _).trans (HB2.out.mono (by simp)) |>.mono HB1.out.size)⟩
          case measure => simp [intOf]; omega
        · have HA := Lib.hid (show q'.toList = ([40] ++ prL l true) ++ prT t from by rw [HQ.out, List.take_of_length_le (by omega)])
          clear HQ
          go_wp2
          go_ret
          exact ⟨_, rfl, by rw [HR.out, ByteArray.toList_append, HA.out]; simp [ByteArray.toList_eq], HWo.out.trans (HB1.out.mono HWo.out.size)⟩
theorem printD6 (s : ByteArray) (l t : List D) : printD (.mk 6 s l t) = [35, 40] ++ (prL l true ++ (prT t ++ [41])) := by simp [printD]
set_option maxHeartbeats 2000000 in
set_option maxRecDepth 100000 in
theorem printed_comp6 (m : Nat) (ih : PrintedAt m) (s : ByteArray) (l t : List D) (w : World) (A2 A3 : Option Addr) (n2 n3 : Nat) (hl : l.length ≤ 1048576) (ht : t.length ≤ 1048576)
    (h2 : IsL w l A2 0) (h3 : IsL w t A3 0) (hsl : ∀ d, d ∈ l → D.Small 1048576 d) (hst : ∀ d, d ∈ t → D.Small 1048576 d) (hrl : ∀ d, d ∈ l → d.right m = true) (hrt : ∀ d, d ∈ t → d.right m = true) (hlen : (printD (.mk 6 s l t)).length ≤ 100000000) :
    Calls Tryd.prog 41 #[.agg #[.int .i64 6, .string s, .slice A2 l.length n2, .slice A3 t.length n3]] w fun e w' => ∃ r : ByteArray, e = .returned (.string r) ∧ r.toList = printD (.mk 6 s l t) ∧ Below w.heap.size w w' := by
  have HR := Lib.hid (printD6 s l t)
  have hln : (prL l true).length + (prT t).length ≤ 99999998 := by rw [printD6] at hlen; simp only [List.length_append, List.length_cons, List.length_nil] at hlen; omega
  have HLN := Lib.hid hln
  have IH := Lib.hid ih
  have H2 := Lib.hid h2
  have H3 := Lib.hid h3
  have HSL := Lib.hid hsl
  have HST := Lib.hid hst
  have HRL := Lib.hid hrl
  have HRT := Lib.hid hrt
  clear ih h2 h3 hsl hst hrl hrt hlen hln
  obtain ⟨W0, hW0, hbW0, hbx, hsz⟩ : ∃ W0, W0 = w.alloc (.cells #[.int .i64 6, .string s, .slice A2 l.length n2, .slice A3 t.length n3] 37) ∧ Below w.heap.size w W0 ∧ W0.heap[w.heap.size]? = some (.cells #[.int .i64 6, .string s, .slice A2 l.length n2, .slice A3 t.length n3] 37 (0, 0)) ∧ W0.heap.size = w.heap.size + 1 := ⟨_, rfl, (Below.refl w.heap.size w).alloc (Nat.le_refl _) _, heap_alloc_new w _, by simp⟩
  have hb0 : W0.cell? ⟨w.heap.size, 0, none⟩ = some (.int .i64 6) := cell_of_row W0 _ 0 _ _ _ hbx
  have hb2 : W0.cell? ⟨w.heap.size, 2, none⟩ = some (.slice A2 l.length n2) := cell_of_row W0 _ 2 _ _ _ hbx
  have hb3 : W0.cell? ⟨w.heap.size, 3, none⟩ = some (.slice A3 t.length n3) := cell_of_row W0 _ 3 _ _ _ hbx
  have HW := Lib.hid hbW0
  have HW0 := Lib.hid hW0
  have HSZ := Lib.hid hsz
  clear hbW0 hW0 hsz hbx
  go_enter Tryd.func41, Tryd.ntmps41
  go_upto_region 1 with fail
  rw [← HW0.out]
  go_wp2_with fail
  go_loopw [3, 4, 5, 27] (fun v _ _ i wr => ∃ (k : Nat) (q : ByteArray), k ≤ l.length ∧ i = .int .i64 k ∧ v = .string q ∧ Hid (q.toList = [35, 40] ++ prL (l.take k) true) ∧ Hid (Below W0.heap.size W0 wr)) (fun _ _ _ i _ => l.length - (intOf i).toNat)
  case atStart => exact ⟨0, _, Nat.zero_le _, rfl, rfl, by simp [Hid, prL, ByteArray.toList_eq], Below.refl _ _⟩
  case round =>
    obtain ⟨k, q, hk, rfl, rfl, HQ, HB1⟩ := hrel
    have hqs : q.size ≤ 100000000 := by
      have h1 := prL_le l k true
      have h2 := HLN.out
      rw [← toList_len q, HQ.out]; simp only [List.length_append, List.length_cons, List.length_nil]; omega
    by_cases hlt : k < l.length
    · obtain ⟨ad, c0, c1, c2, c3, rfl, g0, g1, g2, g3, hx⟩ := (IsL.below HB1.out (IsL.below HW.out H2.out)).get0 k hlt
      obtain ⟨B2, m2, B3, m3, rfl, rfl, rfl, rfl, -⟩ := hx.form
      have hml := prL_mem l k hlt
      have HC := Lib.hid (fun o => IH.out l[k] (wr.alloc o) _ _ _ _ (HRL.out _ (List.getElem_mem hlt)) (IsD.below ((Below.refl wr.heap.size wr).alloc (Nat.le_refl _) o) hx) (HSL.out _ (List.getElem_mem hlt)) (by have := HLN.out; omega))
      have HSN := Lib.hid (prL_snoc l k hlt true)
      have HPL := Lib.hid (show (printD l[k]).length ≤ 100000000 from by have := HLN.out; omega)
      clear hx hml
      by_cases hk0 : k = 0
      · subst hk0
        rw [Nat.zero_mul, show ad.add 0 = ad from by simp [Addr.add]] at g0 g1 g2 g3
        go_wp2_with (go_at_call 41; refine (HC.out _).mono ?_; rintro e w' ⟨t', rfl, ht', hb⟩; have HT := Lib.hid ht'; have htl : t'.size ≤ 100000000 := (by rw [← toList_len, ht']; exact HPL.out); have HB2 := Lib.hid hb; clear hb ht')
        go_roundw
        case rel => exact ⟨1, _, by omega, by go_num, rfl, Lib.hid (by rw [HSN.out, ByteArray.toList_append, HQ.out, HT.out]; simp [prL]), HB1.out.trans (((Below.refl wr.heap.size wr).alloc (Nat.le_refl _) _).trans (HB2.out.mono (by simp)) |>.mono HB1.out.size)⟩
        case measure => simp [intOf]; omega
      · have hkp : 0 < k := by omega
        clear hk0
        go_wp2_with (go_at_call 41; refine (HC.out _).mono ?_; rintro e w' ⟨t', rfl, ht', hb⟩; have HT := Lib.hid ht'; have htl : t'.size ≤ 100000000 := (by rw [← toList_len, ht']; exact HPL.out); have HB2 := Lib.hid hb; clear hb ht')
        go_roundw
        case rel => exact ⟨k + 1, _, by omega, by go_num, rfl, Lib.hid (by rw [HSN.out, ByteArray.toList_append, ByteArray.toList_append, HQ.out, HT.out, if_neg (by omega)]; simp [ByteArray.toList_eq]), HB1.out.trans (((Below.refl wr.heap.size wr).alloc (Nat.le_refl _) _).trans (HB2.out.mono (by simp)) |>.mono HB1.out.size)⟩
        case measure => simp [intOf]; omega
    · have HQ1 := Lib.hid (show q.toList = [35, 40] ++ prL l true from by rw [HQ.out, List.take_of_length_le (by omega)])
      obtain ⟨hc, hf⟩ := bcell HB1.out
      have hsz : w.heap.size < W0.heap.size := by rw [HSZ.out]; omega
      clear HQ
      go_wp2
      clear hc hf
      obtain ⟨wo, rfl⟩ : ∃ wo : World, wo = wr := ⟨_, rfl⟩
      have HWo := Lib.hid (HW.out.trans (HB1.out.mono HW.out.size))
      have H3o := Lib.hid (IsL.below HB1.out (IsL.below HW.out H3.out))
      clear HB1 HSZ HW0 hsz
      go_loopw [3, 7, 44] (fun v _ i wq => ∃ (k : Nat) (q' : ByteArray), k ≤ t.length ∧ i = .int .i64 k ∧ v = .string q' ∧ Hid (q'.toList = ([35, 40] ++ prL l true) ++ prT (t.take k)) ∧ Hid (Below wo.heap.size wo wq)) (fun _ _ i _ => t.length - (intOf i).toNat)
      case atStart => exact ⟨0, q, Nat.zero_le _, rfl, rfl, by simp [Hid, prT]; simpa using HQ1.out, Below.refl _ _⟩
      case round =>
        clear HQ1
        obtain ⟨k, q', hk, rfl, rfl, HQ, HB1⟩ := hrel
        have hqs' : q'.size ≤ 100000000 := by
          have h1 := prT_le t k
          have h2 := HLN.out
          rw [← toList_len q', HQ.out]; simp only [List.length_append, List.length_cons, List.length_nil]; omega
        by_cases hlt : k < t.length
        · obtain ⟨ad, c0, c1, c2, c3, rfl, g0, g1, g2, g3, hx⟩ := (IsL.below HB1.out H3o.out).get0 k hlt
          obtain ⟨B2, m2, B3, m3, rfl, rfl, rfl, rfl, -⟩ := hx.form
          have hml := prT_mem t k hlt
          have HC := Lib.hid (fun o => IH.out t[k] (wr.alloc o) _ _ _ _ (HRT.out _ (List.getElem_mem hlt)) (IsD.below ((Below.refl wr.heap.size wr).alloc (Nat.le_refl _) o) hx) (HST.out _ (List.getElem_mem hlt)) (by have := HLN.out; omega))
          have HSN := Lib.hid (prT_snoc t k hlt)
          have HPL := Lib.hid (show (printD t[k]).length ≤ 100000000 from by have := HLN.out; omega)
          clear hx hml
          go_wp2_with (go_at_call 41; refine (HC.out _).mono ?_; rintro e w' ⟨t', rfl, ht', hb⟩; have HT := Lib.hid ht'; have htl : t'.size ≤ 100000000 := (by rw [← toList_len, ht']; exact HPL.out); have HB2 := Lib.hid hb; clear hb ht')
          go_roundw
          case rel => exact ⟨k + 1, _, by omega, by go_num, rfl, Lib.hid (by rw [HSN.out, ByteArray.toList_append, ByteArray.toList_append, HQ.out, HT.out]; simp [ByteArray.toList_eq]), HB1.out.trans (((Below.refl wr.heap.size wr).alloc (Nat.le_refl _) _).trans (HB2.out.mono (by simp)) |>.mono HB1.out.size)⟩
          case measure => simp [intOf]; omega
        · have HA := Lib.hid (show q'.toList = ([35, 40] ++ prL l true) ++ prT t from by rw [HQ.out, List.take_of_length_le (by omega)])
          clear HQ
          go_wp2
          go_ret
          exact ⟨_, rfl, by rw [HR.out, ByteArray.toList_append, HA.out]; simp [ByteArray.toList_eq], HWo.out.trans (HB1.out.mono HWo.out.size)⟩
theorem printed_any : ∀ n, PrintedAt n := by
  intro n
  induction n with
  | zero =>
    intro d w c0 c1 c2 c3 hr hd hs hlen
    obtain ⟨A2, n2, A3, n3, rfl, rfl, rfl, rfl, _, _, l2, l3⟩ := hd.form
    rcases kinds_of_right 0 d hr with h | ⟨_, m, h, _⟩
    · cases d with
      | mk k s l t => exact printed_leaf k (leaf_kinds _ h) s l t w A2 A3 n2 n3 hs.parts.1
    · cases h
  | succ n ih =>
    intro d w c0 c1 c2 c3 hr hd hs hlen
    obtain ⟨A2, n2, A3, n3, rfl, rfl, rfl, rfl, _, _, l2, l3⟩ := hd.form
    cases d with
    | mk k s l t =>
      obtain ⟨h1, h2, h3, h4, h5⟩ := hs.parts
      rcases kinds_of_right (n + 1) (.mk k s l t) hr with h | ⟨hk, m, hm, ha, hb⟩
      · exact printed_leaf k (leaf_kinds _ h) s l t w A2 A3 n2 n3 h1
      · cases hm
        rcases hk with hk | hk
        · have hk' : k = 5 := hk
          subst hk'; exact printed_comp5 n ih s l t w A2 A3 n2 n3 h2 h3 l2 l3 h4 h5 ha hb hlen
        · have hk' : k = 6 := hk
          subst hk'; exact printed_comp6 n ih s l t w A2 A3 n2 n3 h2 h3 l2 l3 h4 h5 ha hb hlen
end Go.Proofs.YtcpicndapmaiaaaDoor
