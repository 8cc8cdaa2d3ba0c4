import Derived.Test.YtcpicndapmaiaaaDoorRj
namespace Go.Proofs.YtcpicndapmaiaaaDoor
open Go Go.RowKit
theorem shape5 (s : ByteArray) (l t : List D) : (D.mk 5 s l t).shape = !(decide ((1 : Int) < t.length) || (((t.length : Int) == 1) && (((l.length : Int) == 0) || ((t.headD default).kind == 5)))) := by
  simp only [D.shape]
  rw [show (D.mk 5 s l t).kind = 5 from rfl, show (D.mk 5 s l t).tail = t from rfl, show (D.mk 5 s l t).list = l from rfl, show ((5 : Int) == 6) = false from rfl, show ((5 : Int) == 5) = true from rfl]; simp only [Bool.false_and, Bool.true_and, Bool.false_or]
set_option maxHeartbeats 2000000 in
theorem right_comp5 (n : Nat) (hn : n < 999) (ih : ∀ m, n = m + 1 → RightAt m) (s : ByteArray) (l t : List D) (w : World) (A2 A3 : Option Addr) (n2 n3 : Nat) (hs : s.size ≤ 1048576) (hl : l.length ≤ 1048576) (ht : t.length ≤ 1048576)
    (h2 : IsL w l A2 0) (h3 : IsL w t A3 0) (hsl : ∀ d, d ∈ l → D.Small 1048576 d) (hst : ∀ d, d ∈ t → D.Small 1048576 d) :
    Calls Tryd.prog 35 #[.agg #[.int .i64 5, .string s, .slice A2 l.length n2, .slice A3 t.length n3], .int .i64 n] w fun e w' => e = .returned (.bool ((D.mk 5 s l t).right n)) ∧ Below w.heap.size w w' := by
  have hb0 := (((Below.refl w.heap.size w).alloc (Nat.le_refl _) (.cells #[.int .i64 5, .string s, .slice A2 l.length n2, .slice A3 t.length n3] 37))).alloc (by simp) (.cells #[.int .i64 n] 3)
  have HB := Lib.hid hb0
  have H2 := Lib.hid (IsL.below hb0 h2)
  have H3 := Lib.hid (IsL.below hb0 h3)
  have H3w := Lib.hid h3
  clear hb0 h2 h3
  have HLF := Lib.hid (show (D.mk 5 s l t).leaf = false from by simp [D.leaf, D.kind])
  have hsh := shape5 s l t
  cases e1 : decide ((1 : Int) < ↑t.length) with
  | true =>
    rw [e1] at hsh
    have HR := Lib.hid (show (D.mk 5 s l t).right n = false from by cases n <;> simp [D.right, HLF.out, hsh])
    clear ih HLF hsh
    go_enter Tryd.func35, Tryd.ntmps35
    go_wp2_with fail
    go_ret
    exact ⟨ret_bool HR.out.symm, HB.out⟩
  | false =>
    cases e2 : ((t.length : Int) == 1) with
    | false =>
      rw [e1, e2] at hsh
      have HSH := Lib.hid hsh
      clear hsh
      cases n with
      | zero =>
        have HR := Lib.hid (show (D.mk 5 s l t).right 0 = false from HLF.out)
        clear ih
        go_enter Tryd.func35, Tryd.ntmps35
        go_wp2_with fail
        all_goals (go_ret; exact ⟨ret_bool HR.out.symm, HB.out⟩)
      | succ m =>
        have HR := Lib.hid (show (D.mk 5 s l t).right (m + 1) = (s.toList.isEmpty && (l.all (D.right m) && t.all (D.right m))) from by simp only [D.right, HLF.out, HSH.out, Bool.false_or, Bool.true_and]; rfl)
        have HP := Lib.hid (fun W B => pred_wrong m (by omega) (ih m rfl) l hsl W B)
        have HP' := Lib.hid (fun W B => pred_wrong m (by omega) (ih m rfl) t hst W B)
        obtain ⟨a1, ha1⟩ : ∃ b, (l.any fun d => !D.right m d) = b := ⟨_, rfl⟩
        obtain ⟨a2, ha2⟩ : ∃ b, (t.any fun d => !D.right m d) = b := ⟨_, rfl⟩
        have HC := Lib.hid (fun W c lb h1 h2 => by have := containsFunc_any l A2 c 51 lb (fun d => !D.right m d) W e51 h1 (by unfold maxLen; omega) h2; rw [ha1] at this; exact this)
        have HC' := Lib.hid (fun W c lb h1 h2 => by have := containsFunc_any t A3 c 51 lb (fun d => !D.right m d) W e51 h1 (by unfold maxLen; omega) h2; rw [ha2] at this; exact this)
        rw [allNot, allNot, ha1, ha2] at HR
        clear ha1 ha2
        clear ih hsl hst HLF HSH
        go_enter Tryd.func35, Tryd.ntmps35
        go_wp2_with (first
          | (go_at_call_of 24 (Value.slice A2 (List.length l) n2); refine (HC.out _ _ _ H2.out (HP.out _ _ (by simp))).mono ?_; rintro e w' ⟨rfl, hb⟩; have HB1 := Lib.hid hb; obtain ⟨hc, hf⟩ := bcell hb; have hz := hb.size; clear hb)
          | (go_at_call_of 24 (Value.slice A3 (List.length t) n3); refine (HC'.out _ _ _ (IsL.below HB1.out H3.out) (HP'.out _ _ ((hc _ _ (by simp)).trans (by simp)))).mono ?_; rintro e w' ⟨rfl, hb⟩; have HB2 := Lib.hid hb; clear hb))
        all_goals go_ret
        all_goals (refine ⟨ret_bool ?_, by first | exact HB.out | exact HB.out.trans (HB1.out.mono (by simp; omega)) | exact (HB.out.trans (HB1.out.mono (by simp; omega))).trans (HB2.out.mono (by have := HB1.out.size; simp at this; omega))⟩; rw [HR.out]; first | done | (simp [*]; done) | (cases a1 <;> cases a2 <;> simp_all; done))
    | true =>
      have ht1 : t.length = 1 := by rw [beq_iff_eq] at e2; omega
      obtain ⟨ad, c0, c1, c2, c3, rfl, g0, _, _, _, hx⟩ := H3w.out.get0 0 (by omega)
      obtain ⟨_, _, _, _, rfl, -⟩ := hx.form
      have hd : t.headD default = t[0] := by cases t with | nil => simp at ht1 | cons a r => rfl
      rw [e1, e2, hd] at hsh
      rw [Nat.zero_mul, show ad.add 0 = ad from by simp [Addr.add]] at g0
      have hpos : 0 < t.length := by omega
      generalize t[0].kind = kx at g0 hsh
      have g0' : ∀ o1 o2, ((w.alloc o1).alloc o2).cell? ad = some (.int .i64 kx) := fun o1 o2 => cell_below (Below.alloc (Below.alloc (Below.refl w.heap.size w) (Nat.le_refl _) o1) (by simp) o2) g0
      clear hx hd ht1
      cases e3 : ((l.length : Int) == 0) with
      | true =>
        rw [e3] at hsh
        have HR := Lib.hid (show (D.mk 5 s l t).right n = false from by cases n <;> simp [D.right, HLF.out, hsh])
        clear ih HLF hsh
        go_enter Tryd.func35, Tryd.ntmps35
        go_wp2_with fail
        go_ret
        exact ⟨ret_bool HR.out.symm, HB.out⟩
      | false =>
        cases e4 : (kx == 5) with
        | true =>
          rw [e3, e4] at hsh
          have HR := Lib.hid (show (D.mk 5 s l t).right n = false from by cases n <;> simp [D.right, HLF.out, hsh])
          clear ih HLF hsh
          go_enter Tryd.func35, Tryd.ntmps35
          go_wp2_with fail
          go_ret
          exact ⟨ret_bool HR.out.symm, HB.out⟩
        | false =>
          rw [e3, e4] at hsh
          have HSH := Lib.hid hsh
          clear hsh
          cases n with
          | zero =>
            have HR := Lib.hid (show (D.mk 5 s l t).right 0 = false from HLF.out)
            clear ih
            go_enter Tryd.func35, Tryd.ntmps35
            go_wp2_with fail
            all_goals (go_ret; exact ⟨ret_bool HR.out.symm, HB.out⟩)
          | succ m =>
            have HR := Lib.hid (show (D.mk 5 s l t).right (m + 1) = (s.toList.isEmpty && (l.all (D.right m) && t.all (D.right m))) from by simp only [D.right, HLF.out, HSH.out, Bool.false_or, Bool.true_and]; rfl)
            have HP := Lib.hid (fun W B => pred_wrong m (by omega) (ih m rfl) l hsl W B)
            have HP' := Lib.hid (fun W B => pred_wrong m (by omega) (ih m rfl) t hst W B)
            obtain ⟨a1, ha1⟩ : ∃ b, (l.any fun d => !D.right m d) = b := ⟨_, rfl⟩
            obtain ⟨a2, ha2⟩ : ∃ b, (t.any fun d => !D.right m d) = b := ⟨_, rfl⟩
            have HC := Lib.hid (fun W c lb h1 h2 => by have := containsFunc_any l A2 c 51 lb (fun d => !D.right m d) W e51 h1 (by unfold maxLen; omega) h2; rw [ha1] at this; exact this)
            have HC' := Lib.hid (fun W c lb h1 h2 => by have := containsFunc_any t (some ad) c 51 lb (fun d => !D.right m d) W e51 h1 (by unfold maxLen; omega) h2; rw [ha2] at this; exact this)
            rw [allNot, allNot, ha1, ha2] at HR
            clear ha1 ha2
            clear ih hsl hst HLF HSH
            go_enter Tryd.func35, Tryd.ntmps35
            go_wp2_with (first
              | (go_at_call_of 24 (Value.slice A2 (List.length l) n2); refine (HC.out _ _ _ H2.out (HP.out _ _ (by simp))).mono ?_; rintro e w' ⟨rfl, hb⟩; have HB1 := Lib.hid hb; obtain ⟨hc, hf⟩ := bcell hb; have hz := hb.size; clear hb)
              | (go_at_call_of 24 (Value.slice (some ad) (List.length t) n3); refine (HC'.out _ _ _ (IsL.below HB1.out H3.out) (HP'.out _ _ ((hc _ _ (by simp)).trans (by simp)))).mono ?_; rintro e w' ⟨rfl, hb⟩; have HB2 := Lib.hid hb; clear hb))
            all_goals go_ret
            all_goals (refine ⟨ret_bool ?_, by first | exact HB.out | exact HB.out.trans (HB1.out.mono (by simp; omega)) | exact (HB.out.trans (HB1.out.mono (by simp; omega))).trans (HB2.out.mono (by have := HB1.out.size; simp at this; omega))⟩; rw [HR.out]; first | done | (simp [*]; done) | (cases a1 <;> cases a2 <;> simp_all; done))
end Go.Proofs.YtcpicndapmaiaaaDoor
