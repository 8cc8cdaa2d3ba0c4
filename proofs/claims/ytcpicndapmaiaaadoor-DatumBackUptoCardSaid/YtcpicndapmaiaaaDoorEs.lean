import Derived.Test.YtcpicndapmaiaaaDoorTx
import Derived.Laws.IdiomStrings
import Derived.Laws.BytesArg
namespace Go.Proofs.YtcpicndapmaiaaaDoor
open Go Go.RowKit
def escB (b : UInt8) : List UInt8 := if b = 34 ∨ b = 92 then [92, b] else if b = 10 then [92, 110] else if b = 9 then [92, 116] else [b]
def esc (l : List UInt8) : List UInt8 := 34 :: (l.flatMap escB ++ [34])
theorem escB_len (b : UInt8) : (escB b).length ≤ 2 ∧ 1 ≤ (escB b).length := by unfold escB; split <;> (try split) <;> (try split) <;> simp
theorem flat_len (l : List UInt8) : (l.flatMap escB).length ≤ 2 * l.length := by
  induction l with
  | nil => simp
  | cons a r ih => have := escB_len a; simp only [List.flatMap_cons, List.length_append, List.length_cons]; omega
theorem flat_snoc (s : ByteArray) (k : Nat) (h : k < s.size) : (s.toList.take (k + 1)).flatMap escB = (s.toList.take k).flatMap escB ++ escB s[k] := by
  rw [take_snoc s k h]; simp
theorem own_text {base : Nat} {w : World} {v : Value} {l : List UInt8} (h : Own base w v l) : (convert 27 9 v).run Tryd.prog w = .ok (.string ⟨l.toArray⟩) w := by
  have h' := h
  obtain ⟨h1, h2⟩ := h
  rcases h2 with ⟨rfl, h0⟩ | ⟨g, cap, cur, rfl, hb, hh, hn, hm, hs, ht⟩
  · obtain rfl : l = [] := List.eq_nil_of_length_eq_zero h0
    exact run_convert_bytes_nil w 27 5 Tryd.underlying27 Tryd.underlying5 0 0 9 Tryd.underlying9
  · refine run_convert_bytes_back w 27 9 5 ⟨g, 0, none⟩ cap l Tryd.underlying27 Tryd.underlying5 Tryd.underlying9 fun j hj => ?_
    exact World.ownsRow.cells h' (g := g) rfl j _ (by rw [bc, List.getElem?_map, List.getElem?_eq_getElem hj]; rfl)
/-- Two bytes of a literal read. -/
theorem Rd.two {w : World} {g : Nat} {b c : UInt8} (h : w.cell? ⟨g, 0, none⟩ = some (.int .u8 (b.toNat : Int))) (h' : w.cell? ⟨g, 1, none⟩ = some (.int .u8 (c.toNat : Int))) : Rd w (.slice (some ⟨g, 0, none⟩) 2 2) [b, c] :=
  ⟨some ⟨g, 0, none⟩, 2, rfl, by simp, fun h => by simp at h, fun i hi => ⟨_, rfl, by
    rcases i with _ | _ | i
    · exact h
    · exact h'
    · simp at hi; omega⟩⟩
theorem ret_str {x y : ByteArray} (h : x = y) : Ending.returned (.string x) = Ending.returned (.string y) := by rw [h]
set_option maxHeartbeats 1000000 in
set_option maxRecDepth 100000 in
theorem escaped_any (s : ByteArray) (w : World) (hs : s.size ≤ 100000000) : Calls Tryd.prog 60 #[.string s] w fun e w' => ∃ t : ByteArray, e = .returned (.string t) ∧ t.toList = esc s.toList ∧ Below w.heap.size w w' := by
  have hs' : s.size ≤ 9223372036854775807 := by omega
  go_enter Tryd.func60, Tryd.ntmps60
  go_wp2_with fail
  go_loopw [3, 4] (fun v i wr => ∃ k : Nat, k ≤ s.size ∧ i = .int .i64 k ∧ Hid (Own w.heap.size wr v ((s.toList.take k).flatMap escB)) ∧ Hid (Below w.heap.size w wr)) (fun _ i _ => s.size - (intOf i).toNat)
  case atStart => exact ⟨0, Nat.zero_le _, rfl, by simpa [Hid] using Own.nil w.heap.size w, Below.refl _ _⟩
  case round =>
    obtain ⟨k, hk, rfl, HO, HB⟩ := hrel
    have HS := Lib.hid HB.out.size
    have HL := Lib.hid (show ((s.toList.take k).flatMap escB).length ≤ 2 * s.size from by
      have h1 := flat_len (s.toList.take k)
      have h2 : (s.toList.take k).length ≤ k := List.length_take_le _ _
      omega)
    by_cases hlt : k < s.size
    · by_cases h1 : s[k] = 34
      · have HE := Lib.hid (show escB s[k] = [92, 34] from by rw [h1]; rfl)
        have e1 : ((s[k].toNat : Int) == 34) = true := by rw [h1]; rfl
        have e2 : (s[k].toNat : Int) = 34 := by rw [h1]; rfl
        clear h1
        have HR := Lib.hid (Rd.two (w := wr.alloc (.cells #[.int .u8 92, .int .u8 34] 5)) (g := wr.heap.size) (b := 92) (c := 34) (by simp) (by simp))
        have HO2 := Lib.hid (Own.below ((Below.refl wr.heap.size wr).alloc (Nat.le_refl _) (.cells #[.int .u8 92, .int .u8 34] 5)) HO.out)
        go_wp2_with (at_builtin; refine app_rd rfl (.tmp 23) (.tmp 27) rfl w.heap.size _ _ ((s.toList.take k).flatMap escB) [92, 34] rfl rfl HO2.out HR.out (Lim.mk_ (by have := HL.out; simp only [List.length_cons, List.length_nil]; omega)) (by have := HS.out; simp; omega) ?_; intro v'' w' hown hg; have HO3 := Lib.hid hown; have HG := Lib.hid hg; clear hown hg)
        go_roundw
        case rel => exact ⟨k + 1, by omega, by go_num, by rw [flat_snoc s k hlt, HE.out]; exact HO3.out, (((HB.out.alloc (by have := HS.out; omega) _)).grown HG.out (by have := HS.out; simp; omega) (fun q hq => (HO2.out.lt q hq).1))⟩
        case measure => simp [intOf]; omega
      by_cases h2 : s[k] = 92
      · have HE := Lib.hid (show escB s[k] = [92, 92] from by rw [h2]; rfl)
        have e1 : ((s[k].toNat : Int) == 34) = false := by rw [h2]; rfl
        have e2 : (s[k].toNat : Int) = 92 := by rw [h2]; rfl
        clear h1 h2
        have HR := Lib.hid (Rd.two (w := wr.alloc (.cells #[.int .u8 92, .int .u8 92] 5)) (g := wr.heap.size) (b := 92) (c := 92) (by simp) (by simp))
        have HO2 := Lib.hid (Own.below ((Below.refl wr.heap.size wr).alloc (Nat.le_refl _) (.cells #[.int .u8 92, .int .u8 92] 5)) HO.out)
        go_wp2_with (at_builtin; refine app_rd rfl (.tmp 23) (.tmp 27) rfl w.heap.size _ _ ((s.toList.take k).flatMap escB) [92, 92] rfl rfl HO2.out HR.out (Lim.mk_ (by have := HL.out; simp only [List.length_cons, List.length_nil]; omega)) (by have := HS.out; simp; omega) ?_; intro v'' w' hown hg; have HO3 := Lib.hid hown; have HG := Lib.hid hg; clear hown hg)
        go_roundw
        case rel => exact ⟨k + 1, by omega, by go_num, by rw [flat_snoc s k hlt, HE.out]; exact HO3.out, (((HB.out.alloc (by have := HS.out; omega) _)).grown HG.out (by have := HS.out; simp; omega) (fun q hq => (HO2.out.lt q hq).1))⟩
        case measure => simp [intOf]; omega
      have e1 : ((s[k].toNat : Int) == 34) = false := beq_eq_false_iff_ne.2 fun h => h1 (UInt8.toNat_inj.1 (by simp; omega))
      have e2 : ((s[k].toNat : Int) == 92) = false := beq_eq_false_iff_ne.2 fun h => h2 (UInt8.toNat_inj.1 (by simp; omega))
      by_cases h3 : s[k] = 10
      · have HE := Lib.hid (show escB s[k] = [92, 110] from by rw [h3]; rfl)
        have e3 : ((s[k].toNat : Int) == 10) = true := by rw [h3]; rfl
        clear h1 h2 h3
        have HR := Lib.hid (Rd.two (w := wr.alloc (.cells #[.int .u8 92, .int .u8 110] 5)) (g := wr.heap.size) (b := 92) (c := 110) (by simp) (by simp))
        have HO2 := Lib.hid (Own.below ((Below.refl wr.heap.size wr).alloc (Nat.le_refl _) (.cells #[.int .u8 92, .int .u8 110] 5)) HO.out)
        go_wp2_with (at_builtin; refine app_rd rfl (.tmp 31) (.tmp 32) rfl w.heap.size _ _ ((s.toList.take k).flatMap escB) [92, 110] rfl rfl HO2.out HR.out (Lim.mk_ (by have := HL.out; simp only [List.length_cons, List.length_nil]; omega)) (by have := HS.out; simp; omega) ?_; intro v'' w' hown hg; have HO3 := Lib.hid hown; have HG := Lib.hid hg; clear hown hg)
        go_roundw
        case rel => exact ⟨k + 1, by omega, by go_num, by rw [flat_snoc s k hlt, HE.out]; exact HO3.out, (((HB.out.alloc (by have := HS.out; omega) _)).grown HG.out (by have := HS.out; simp; omega) (fun q hq => (HO2.out.lt q hq).1))⟩
        case measure => simp [intOf]; omega
      have e3 : ((s[k].toNat : Int) == 10) = false := beq_eq_false_iff_ne.2 fun h => h3 (UInt8.toNat_inj.1 (by simp; omega))
      by_cases h4 : s[k] = 9
      · have HE := Lib.hid (show escB s[k] = [92, 116] from by rw [h4]; rfl)
        have e4 : ((s[k].toNat : Int) == 9) = true := by rw [h4]; rfl
        clear h1 h2 h3 h4
        have HR := Lib.hid (Rd.two (w := wr.alloc (.cells #[.int .u8 92, .int .u8 116] 5)) (g := wr.heap.size) (b := 92) (c := 116) (by simp) (by simp))
        have HO2 := Lib.hid (Own.below ((Below.refl wr.heap.size wr).alloc (Nat.le_refl _) (.cells #[.int .u8 92, .int .u8 116] 5)) HO.out)
        go_wp2_with (at_builtin; refine app_rd rfl (.tmp 36) (.tmp 37) rfl w.heap.size _ _ ((s.toList.take k).flatMap escB) [92, 116] rfl rfl HO2.out HR.out (Lim.mk_ (by have := HL.out; simp only [List.length_cons, List.length_nil]; omega)) (by have := HS.out; simp; omega) ?_; intro v'' w' hown hg; have HO3 := Lib.hid hown; have HG := Lib.hid hg; clear hown hg)
        go_roundw
        case rel => exact ⟨k + 1, by omega, by go_num, by rw [flat_snoc s k hlt, HE.out]; exact HO3.out, (((HB.out.alloc (by have := HS.out; omega) _)).grown HG.out (by have := HS.out; simp; omega) (fun q hq => (HO2.out.lt q hq).1))⟩
        case measure => simp [intOf]; omega
      have e4 : ((s[k].toNat : Int) == 9) = false := beq_eq_false_iff_ne.2 fun h => h4 (UInt8.toNat_inj.1 (by simp; omega))
      have HE := Lib.hid (show escB s[k] = [s[k]] from by unfold escB; rw [if_neg (by simp [h1, h2]), if_neg h3, if_neg h4])
      clear h1 h2 h3 h4
      have HR := Lib.hid (Rd.one (w := wr.alloc (.cells #[.int .u8 (s[k].toNat : Int)] 5)) (g := wr.heap.size) (b := s[k]) (by simp))
      have HO2 := Lib.hid (Own.below ((Below.refl wr.heap.size wr).alloc (Nat.le_refl _) (.cells #[.int .u8 (s[k].toNat : Int)] 5)) HO.out)
      go_wp2_with (at_builtin; refine app_rd rfl (.tmp 14) (.tmp 18) rfl w.heap.size _ _ ((s.toList.take k).flatMap escB) [s[k]] rfl rfl HO2.out HR.out (Lim.mk_ (by have := HL.out; simp only [List.length_cons, List.length_nil]; omega)) (by have := HS.out; simp; omega) ?_; intro v'' w' hown hg; have HO3 := Lib.hid hown; have HG := Lib.hid hg; clear hown hg)
      go_roundw
      case rel => exact ⟨k + 1, by omega, by go_num, by rw [flat_snoc s k hlt, HE.out]; exact HO3.out, (((HB.out.alloc (by have := HS.out; omega) _)).grown HG.out (by have := HS.out; simp; omega) (fun q hq => (HO2.out.lt q hq).1))⟩
      case measure => simp [intOf]; omega
    · have hT := own_text HO.out
      have hTk : s.toList.take k = s.toList := List.take_of_length_le (by rw [toList_len]; omega)
      rw [hTk] at hT HL
      obtain ⟨t, ht⟩ : ∃ t : ByteArray, (⟨((s.toList.flatMap escB)).toArray⟩ : ByteArray) = t := ⟨_, rfl⟩
      have htl : t.toList = s.toList.flatMap escB := by rw [← ht, ByteArray.toList_eq]
      have hts : t.size ≤ 2 * s.size := by rw [← toList_len t, htl]; exact HL.out
      rw [ht] at hT
      have HT := Lib.hid htl
      clear hTk ht htl
      go_wp2_with fail
      go_ret
      exact ⟨_, rfl, by unfold esc; rw [← HT.out]; simp [ByteArray.toList_eq], HB.out⟩
end Go.Proofs.YtcpicndapmaiaaaDoor
