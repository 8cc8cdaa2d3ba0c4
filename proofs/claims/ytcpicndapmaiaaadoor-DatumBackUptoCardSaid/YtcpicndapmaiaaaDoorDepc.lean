import Derived.Test.YtcpicndapmaiaaaDoorMayd
namespace Go.Proofs.YtcpicndapmaiaaaDoor
open Go Go.RowKit
def mx (a b : Int) : Int := if a < b then b else a
def D.comp (d : D) : Bool := (d.kind == 5) || (d.kind == 6)
def dep : Nat → D → Int
  | 0, _ => 0
  | n + 1, d => if d.comp then 1 + d.tail.foldl (fun k x => mx k (dep n x)) (d.list.foldl (fun k x => mx k (dep n x)) 0) else 0
theorem mx_bd {a b M : Int} (h0 : 0 ≤ a) (h1 : a ≤ M) (h2 : 0 ≤ b) (h3 : b ≤ M) : 0 ≤ mx a b ∧ mx a b ≤ M := by unfold mx; split <;> omega
theorem fold_bd (f : D → Int) (M : Int) (hf : ∀ d, 0 ≤ f d ∧ f d ≤ M) : ∀ (l : List D) (a : Int), 0 ≤ a → a ≤ M → 0 ≤ l.foldl (fun k x => mx k (f x)) a ∧ l.foldl (fun k x => mx k (f x)) a ≤ M
  | [], a, h0, h1 => ⟨h0, h1⟩
  | d :: l, a, h0, h1 => fold_bd f M hf l _ (mx_bd h0 h1 (hf d).1 (hf d).2).1 (mx_bd h0 h1 (hf d).1 (hf d).2).2
theorem dep_bd : ∀ (n : Nat) (d : D), 0 ≤ dep n d ∧ dep n d ≤ n
  | 0, d => by simp [dep]
  | n + 1, d => by
    rw [dep]
    split
    · have h1 := fold_bd (dep n) n (dep_bd n) d.list 0 (by omega) (by omega)
      have h2 := fold_bd (dep n) n (dep_bd n) d.tail _ h1.1 h1.2
      omega
    · omega
def DepAt (n : Nat) : Prop := ∀ (d : D) (w : World) (c0 c1 c2 c3 : Value), IsD w d c0 c1 c2 c3 → D.Small 1048576 d →
  Calls Tryd.prog 34 #[.agg #[c0, c1, c2, c3], .int .i64 n] w fun e w' => e = .returned (.int .i64 (dep n d)) ∧ Below w.heap.size w w'
theorem fold_snoc (f : D → Int) (l : List D) (k : Nat) (hk : k < l.length) (a : Int) : (l.take (k + 1)).foldl (fun k x => mx k (f x)) a = mx ((l.take k).foldl (fun k x => mx k (f x)) a) (f l[k]) := by
  rw [List.take_succ_eq_append_getElem hk, List.foldl_append]; rfl
theorem dep_flat (n : Nat) (d : D) (h : d.comp = false) : dep n d = 0 := by
  cases n with
  | zero => rfl
  | succ m => rw [dep, h]; rfl
theorem hmx (ats : Array TypeId) (ty : TypeId) (x y : Int) : Builtin.max_ ats ty #[.int .i64 x, .int .i64 y] = pure (.int .i64 (mx x y)) := by
  simp only [Builtin.max_, List.foldlM_cons, List.foldlM_nil, Builtin.max2, mx]; rfl
set_option maxHeartbeats 1000000 in
theorem depth_flat (n : Nat) (hn : n < 1000) (k : Int) (s : ByteArray) (l t : List D) (h : n = 0 ∨ (k ≠ 5 ∧ k ≠ 6)) (w : World) (A2 A3 : Option Addr) (n2 n3 : Nat) :
    Calls Tryd.prog 34 #[.agg #[.int .i64 k, .string s, .slice A2 l.length n2, .slice A3 t.length n3], .int .i64 n] w fun e w' => e = .returned (.int .i64 0) ∧ Below w.heap.size w w' := by
  have HB := Lib.hid (fun o => (Below.refl w.heap.size w).alloc (Nat.le_refl _) o)
  by_cases hk : k ≠ 5 ∧ k ≠ 6
  · have e5 : (k != 5) = true := by simpa using hk.1
    have e6 : (k != 6) = true := by simpa using hk.2
    clear h hk
    go_enter Tryd.func34, Tryd.ntmps34
    go_wp2_with fail
    go_ret
    exact ⟨rfl, HB.out _⟩
  · obtain rfl : n = 0 := h.resolve_right hk
    clear h
    cases e5 : (k != 5) <;> cases e6 : (k != 6)
    all_goals
      go_enter Tryd.func34, Tryd.ntmps34
      go_wp2_with fail
      go_ret
      exact ⟨rfl, HB.out _⟩
set_option maxHeartbeats 2000000 in
set_option maxRecDepth 100000 in
theorem depth_comp5 (m : Nat) (hm : m < 999) (ih : DepAt m) (s : ByteArray) (l t : List D) (w : World) (A2 A3 : Option Addr) (n2 n3 : Nat) (hl : l.length ≤ 1048576) (ht : t.length ≤ 1048576)
    (h2 : IsL w l A2 0) (h3 : IsL w t A3 0) (hsl : ∀ d, d ∈ l → D.Small 1048576 d) (hst : ∀ d, d ∈ t → D.Small 1048576 d) :
    Calls Tryd.prog 34 #[.agg #[.int .i64 5, .string s, .slice A2 l.length n2, .slice A3 t.length n3], .int .i64 ((m : Int) + 1)] w fun e w' => e = .returned (.int .i64 (dep (m + 1) (D.mk 5 s l t))) ∧ Below w.heap.size w w' := by
  have HR := Lib.hid (show dep (m + 1) (D.mk 5 s l t) = 1 + t.foldl (fun k x => mx k (dep m x)) (l.foldl (fun k x => mx k (dep m x)) 0) from by rw [dep]; rfl)
  have IH := Lib.hid ih
  have H2 := Lib.hid h2
  have H3 := Lib.hid h3
  have HSL := Lib.hid hsl
  have HST := Lib.hid hst
  have HX := hmx
  clear ih h2 h3 hsl hst
  obtain ⟨W0, hW0, hbW0, hbx, hsz⟩ : ∃ W0, W0 = w.alloc (.cells #[.int .i64 5, .string s, .slice A2 l.length n2, .slice A3 t.length n3] 37) ∧ Below w.heap.size w W0 ∧ W0.heap[w.heap.size]? = some (.cells #[.int .i64 5, .string s, .slice A2 l.length n2, .slice A3 t.length n3] 37 (0, 0)) ∧ W0.heap.size = w.heap.size + 1 := ⟨_, rfl, (Below.refl w.heap.size w).alloc (Nat.le_refl _) _, heap_alloc_new w _, by simp⟩
  have hb0 : W0.cell? ⟨w.heap.size, 0, none⟩ = some (.int .i64 5) := cell_of_row W0 _ 0 _ _ _ hbx
  have hb2 : W0.cell? ⟨w.heap.size, 2, none⟩ = some (.slice A2 l.length n2) := cell_of_row W0 _ 2 _ _ _ hbx
  have hb3 : W0.cell? ⟨w.heap.size, 3, none⟩ = some (.slice A3 t.length n3) := cell_of_row W0 _ 3 _ _ _ hbx
  have HW := Lib.hid hbW0
  have HW0 := Lib.hid hW0
  have HSZ := Lib.hid hsz
  clear hbW0 hW0 hsz hbx
  go_enter Tryd.func34, Tryd.ntmps34
  go_upto_region 1 with fail
  rw [← HW0.out]
  go_wp2_with fail
  go_loopw [5, 7, 25] (fun v _ i wr => ∃ k : Nat, ∃ q : Int, k ≤ l.length ∧ i = .int .i64 k ∧ v = .int .i64 q ∧ Hid (q = (l.take k).foldl (fun k x => mx k (dep m x)) 0) ∧ Hid (Below W0.heap.size W0 wr)) (fun _ _ i _ => l.length - (intOf i).toNat)
  case atStart => exact ⟨0, 0, Nat.zero_le _, rfl, rfl, by simp [Hid], Below.refl _ _⟩
  case round =>
    obtain ⟨k, q, hk, rfl, rfl, HQ, HB1⟩ := hrel
    by_cases hlt : k < l.length
    · obtain ⟨ad, c0, c1, c2, c3, rfl, g0, g1, g2, g3, hx⟩ := (IsL.below HB1.out (IsL.below HW.out H2.out)).get0 k hlt
      obtain ⟨B2, m2, B3, m3, rfl, rfl, rfl, rfl, -⟩ := hx.form
      have HC := Lib.hid (fun o => IH.out l[k] (wr.alloc o) _ _ _ _ (IsD.below ((Below.refl wr.heap.size wr).alloc (Nat.le_refl _) o) hx) (HSL.out _ (List.getElem_mem hlt)))
      clear hx
      go_wp2_with (go_at_call 34; refine (HC.out _).mono ?_; rintro e w' ⟨rfl, hb⟩; have HB2 := Lib.hid hb; clear hb)
      go_roundw
      case rel => exact ⟨k + 1, _, by omega, by go_num, rfl, by rw [HQ.out]; exact (fold_snoc (dep m) l k hlt 0).symm, HB1.out.trans (((Below.refl wr.heap.size wr).alloc (Nat.le_refl _) _).trans (HB2.out.mono (by simp)) |>.mono HB1.out.size)⟩
      case measure => simp [intOf]; omega
    · have HL := Lib.hid (show q = l.foldl (fun k x => mx k (dep m x)) 0 from by rw [HQ.out, List.take_of_length_le (by omega)])
      obtain ⟨hc, hf⟩ := bcell HB1.out
      have hsz : w.heap.size < W0.heap.size := by rw [HSZ.out]; omega
      clear HQ
      go_wp2
      clear hc hf
      obtain ⟨wo, rfl⟩ : ∃ wo : World, wo = wr := ⟨_, rfl⟩
      have HWo := Lib.hid (HW.out.trans (HB1.out.mono HW.out.size))
      have H3o := Lib.hid (IsL.below HB1.out (IsL.below HW.out H3.out))
      have HR3 := Lib.hid (show dep (m + 1) (D.mk 5 s l t) = 1 + t.foldl (fun k x => mx k (dep m x)) q from by rw [HR.out, HL.out])
      have HBD := Lib.hid (show 0 ≤ q ∧ q ≤ m from by rw [HL.out]; exact fold_bd (dep m) m (dep_bd m) l 0 (by omega) (by omega))
      clear HR HL HB1 HSZ HW0 hsz
      go_loopw [5, 9, 39] (fun v _ i wq => ∃ k : Nat, ∃ q' : Int, k ≤ t.length ∧ i = .int .i64 k ∧ v = .int .i64 q' ∧ Hid (q' = (t.take k).foldl (fun k x => mx k (dep m x)) q) ∧ Hid (Below wo.heap.size wo wq)) (fun _ _ i _ => t.length - (intOf i).toNat)
      case atStart => exact ⟨0, q, Nat.zero_le _, rfl, rfl, by simp [Hid], Below.refl _ _⟩
      case round =>
        obtain ⟨k, q', hk, rfl, rfl, HQ, HB1⟩ := hrel
        by_cases hlt : k < t.length
        · obtain ⟨ad, c0, c1, c2, c3, rfl, g0, g1, g2, g3, hx⟩ := (IsL.below HB1.out H3o.out).get0 k hlt
          obtain ⟨B2, m2, B3, m3, rfl, rfl, rfl, rfl, -⟩ := hx.form
          have HC := Lib.hid (fun o => IH.out t[k] (wr.alloc o) _ _ _ _ (IsD.below ((Below.refl wr.heap.size wr).alloc (Nat.le_refl _) o) hx) (HST.out _ (List.getElem_mem hlt)))
          clear hx
          go_wp2_with (go_at_call 34; refine (HC.out _).mono ?_; rintro e w' ⟨rfl, hb⟩; have HB2 := Lib.hid hb; clear hb)
          go_roundw
          case rel => exact ⟨k + 1, _, by omega, by go_num, rfl, by rw [HQ.out]; exact (fold_snoc (dep m) t k hlt q).symm, HB1.out.trans (((Below.refl wr.heap.size wr).alloc (Nat.le_refl _) _).trans (HB2.out.mono (by simp)) |>.mono HB1.out.size)⟩
          case measure => simp [intOf]; omega
        · have hqe : q' = t.foldl (fun k x => mx k (dep m x)) q := by rw [HQ.out, List.take_of_length_le (by omega)]
          have HR4 := Lib.hid (show dep (m + 1) (D.mk 5 s l t) = 1 + q' from by rw [HR3.out, ← hqe])
          have hbd : 0 ≤ q' ∧ q' ≤ m := by rw [hqe]; exact fold_bd (dep m) m (dep_bd m) t q HBD.out.1 HBD.out.2
          obtain ⟨hq0, hq1⟩ := hbd
          clear HQ hqe
          go_wp2
          go_ret
          exact ⟨ret_int HR4.out.symm, HWo.out.trans (HB1.out.mono HWo.out.size)⟩
set_option maxHeartbeats 2000000 in
set_option maxRecDepth 100000 in
theorem depth_comp6 (m : Nat) (hm : m < 999) (ih : DepAt m) (s : ByteArray) (l t : List D) (w : World) (A2 A3 : Option Addr) (n2 n3 : Nat) (hl : l.length ≤ 1048576) (ht : t.length ≤ 1048576)
    (h2 : IsL w l A2 0) (h3 : IsL w t A3 0) (hsl : ∀ d, d ∈ l → D.Small 1048576 d) (hst : ∀ d, d ∈ t → D.Small 1048576 d) :
    Calls Tryd.prog 34 #[.agg #[.int .i64 6, .string s, .slice A2 l.length n2, .slice A3 t.length n3], .int .i64 ((m : Int) + 1)] w fun e w' => e = .returned (.int .i64 (dep (m + 1) (D.mk 6 s l t))) ∧ Below w.heap.size w w' := by
  have HR := Lib.hid (show dep (m + 1) (D.mk 6 s l t) = 1 + t.foldl (fun k x => mx k (dep m x)) (l.foldl (fun k x => mx k (dep m x)) 0) from by rw [dep]; rfl)
  have IH := Lib.hid ih
  have H2 := Lib.hid h2
  have H3 := Lib.hid h3
  have HSL := Lib.hid hsl
  have HST := Lib.hid hst
  have HX := hmx
  clear ih h2 h3 hsl hst
  obtain ⟨W0, hW0, hbW0, hbx, hsz⟩ : ∃ W0, W0 = w.alloc (.cells #[.int .i64 6, .string s, .slice A2 l.length n2, .slice A3 t.length n3] 37) ∧ Below w.heap.size w W0 ∧ W0.heap[w.heap.size]? = some (.cells #[.int .i64 6, .string s, .slice A2 l.length n2, .slice A3 t.length n3] 37 (0, 0)) ∧ W0.heap.size = w.heap.size + 1 := ⟨_, rfl, (Below.refl w.heap.size w).alloc (Nat.le_refl _) _, heap_alloc_new w _, by simp⟩
  have hb0 : W0.cell? ⟨w.heap.size, 0, none⟩ = some (.int .i64 6) := cell_of_row W0 _ 0 _ _ _ hbx
  have hb2 : W0.cell? ⟨w.heap.size, 2, none⟩ = some (.slice A2 l.length n2) := cell_of_row W0 _ 2 _ _ _ hbx
  have hb3 : W0.cell? ⟨w.heap.size, 3, none⟩ = some (.slice A3 t.length n3) := cell_of_row W0 _ 3 _ _ _ hbx
  have HW := Lib.hid hbW0
  have HW0 := Lib.hid hW0
  have HSZ := Lib.hid hsz
  clear hbW0 hW0 hsz hbx
  go_enter Tryd.func34, Tryd.ntmps34
  go_upto_region 1 with fail
  rw [← HW0.out]
  go_wp2_with fail
  go_loopw [5, 7, 25] (fun v _ i wr => ∃ k : Nat, ∃ q : Int, k ≤ l.length ∧ i = .int .i64 k ∧ v = .int .i64 q ∧ Hid (q = (l.take k).foldl (fun k x => mx k (dep m x)) 0) ∧ Hid (Below W0.heap.size W0 wr)) (fun _ _ i _ => l.length - (intOf i).toNat)
  case atStart => exact ⟨0, 0, Nat.zero_le _, rfl, rfl, by simp [Hid], Below.refl _ _⟩
  case round =>
    obtain ⟨k, q, hk, rfl, rfl, HQ, HB1⟩ := hrel
    by_cases hlt : k < l.length
    · obtain ⟨ad, c0, c1, c2, c3, rfl, g0, g1, g2, g3, hx⟩ := (IsL.below HB1.out (IsL.below HW.out H2.out)).get0 k hlt
      obtain ⟨B2, m2, B3, m3, rfl, rfl, rfl, rfl, -⟩ := hx.form
      have HC := Lib.hid (fun o => IH.out l[k] (wr.alloc o) _ _ _ _ (IsD.below ((Below.refl wr.heap.size wr).alloc (Nat.le_refl _) o) hx) (HSL.out _ (List.getElem_mem hlt)))
      clear hx
      go_wp2_with (go_at_call 34; refine (HC.out _).mono ?_; rintro e w' ⟨rfl, hb⟩; have HB2 := Lib.hid hb; clear hb)
      go_roundw
      case rel => exact ⟨k + 1, _, by omega, by go_num, rfl, by rw [HQ.out]; exact (fold_snoc (dep m) l k hlt 0).symm, HB1.out.trans (((Below.refl wr.heap.size wr).alloc (Nat.le_refl _) _).trans (HB2.out.mono (by simp)) |>.mono HB1.out.size)⟩
      case measure => simp [intOf]; omega
    · have HL := Lib.hid (show q = l.foldl (fun k x => mx k (dep m x)) 0 from by rw [HQ.out, List.take_of_length_le (by omega)])
      obtain ⟨hc, hf⟩ := bcell HB1.out
      have hsz : w.heap.size < W0.heap.size := by rw [HSZ.out]; omega
      clear HQ
      go_wp2
      clear hc hf
      obtain ⟨wo, rfl⟩ : ∃ wo : World, wo = wr := ⟨_, rfl⟩
      have HWo := Lib.hid (HW.out.trans (HB1.out.mono HW.out.size))
      have H3o := Lib.hid (IsL.below HB1.out (IsL.below HW.out H3.out))
      have HR3 := Lib.hid (show dep (m + 1) (D.mk 6 s l t) = 1 + t.foldl (fun k x => mx k (dep m x)) q from by rw [HR.out, HL.out])
      have HBD := Lib.hid (show 0 ≤ q ∧ q ≤ m from by rw [HL.out]; exact fold_bd (dep m) m (dep_bd m) l 0 (by omega) (by omega))
      clear HR HL HB1 HSZ HW0 hsz
      go_loopw [5, 9, 39] (fun v _ i wq => ∃ k : Nat, ∃ q' : Int, k ≤ t.length ∧ i = .int .i64 k ∧ v = .int .i64 q' ∧ Hid (q' = (t.take k).foldl (fun k x => mx k (dep m x)) q) ∧ Hid (Below wo.heap.size wo wq)) (fun _ _ i _ => t.length - (intOf i).toNat)
      case atStart => exact ⟨0, q, Nat.zero_le _, rfl, rfl, by simp [Hid], Below.refl _ _⟩
      case round =>
        obtain ⟨k, q', hk, rfl, rfl, HQ, HB1⟩ := hrel
        by_cases hlt : k < t.length
        · obtain ⟨ad, c0, c1, c2, c3, rfl, g0, g1, g2, g3, hx⟩ := (IsL.below HB1.out H3o.out).get0 k hlt
          obtain ⟨B2, m2, B3, m3, rfl, rfl, rfl, rfl, -⟩ := hx.form
          have HC := Lib.hid (fun o => IH.out t[k] (wr.alloc o) _ _ _ _ (IsD.below ((Below.refl wr.heap.size wr).alloc (Nat.le_refl _) o) hx) (HST.out _ (List.getElem_mem hlt)))
          clear hx
          go_wp2_with (go_at_call 34; refine (HC.out _).mono ?_; rintro e w' ⟨rfl, hb⟩; have HB2 := Lib.hid hb; clear hb)
          go_roundw
          case rel => exact ⟨k + 1, _, by omega, by go_num, rfl, by rw [HQ.out]; exact (fold_snoc (dep m) t k hlt q).symm, HB1.out.trans (((Below.refl wr.heap.size wr).alloc (Nat.le_refl _) _).trans (HB2.out.mono (by simp)) |>.mono HB1.out.size)⟩
          case measure => simp [intOf]; omega
        · have hqe : q' = t.foldl (fun k x => mx k (dep m x)) q := by rw [HQ.out, List.take_of_length_le (by omega)]
          have HR4 := Lib.hid (show dep (m + 1) (D.mk 6 s l t) = 1 + q' from by rw [HR3.out, ← hqe])
          have hbd : 0 ≤ q' ∧ q' ≤ m := by rw [hqe]; exact fold_bd (dep m) m (dep_bd m) t q HBD.out.1 HBD.out.2
          obtain ⟨hq0, hq1⟩ := hbd
          clear HQ hqe
          go_wp2
          go_ret
          exact ⟨ret_int HR4.out.symm, HWo.out.trans (HB1.out.mono HWo.out.size)⟩
theorem depth_any : ∀ n, n < 999 → DepAt n := by
  intro n
  induction n with
  | zero =>
    intro hn d w c0 c1 c2 c3 hd hs
    obtain ⟨A2, n2, A3, n3, rfl, rfl, rfl, rfl, _, _, l2, l3⟩ := hd.form
    exact depth_flat 0 (by omega) _ _ _ _ (.inl rfl) w A2 A3 n2 n3
  | succ m ih =>
    intro hn d w c0 c1 c2 c3 hd hs
    cases d with
    | mk k s l t =>
      obtain ⟨h1, h2, h3, h4, h5⟩ := hs.parts
      obtain ⟨A2, n2, A3, n3, rfl, rfl, rfl, rfl, _, _, l2, l3⟩ := hd.form
      by_cases k5 : k = 5
      · subst k5; exact depth_comp5 m (by omega) (ih (by omega)) s l t w A2 A3 n2 n3 h2 h3 l2 l3 h4 h5
      by_cases k6 : k = 6
      · subst k6; exact depth_comp6 m (by omega) (ih (by omega)) s l t w A2 A3 n2 n3 h2 h3 l2 l3 h4 h5
      rw [dep_flat (m + 1) (.mk k s l t) (by simp [D.comp, D.kind, k5, k6])]
      exact depth_flat (m + 1) (by omega) k s l t (.inr ⟨k5, k6⟩) w A2 A3 n2 n3
end Go.Proofs.YtcpicndapmaiaaaDoor
