import Derived.Test.YtcpicndapmaiaaaDoorRi
import Derived.Deep.RegionWith
namespace Go.Proofs.YtcpicndapmaiaaaDoor
open Go Go.RowKit
theorem bcell {W w1 : World} (hb : Below W.heap.size W w1) : (∀ b o, b < W.heap.size → w1.cell? ⟨b, o, none⟩ = W.cell? ⟨b, o, none⟩) ∧ (∀ b o, b < W.heap.size → w1.frozen? ⟨b, o, none⟩ = W.frozen? ⟨b, o, none⟩) :=
  ⟨fun b o h => hb.cell (p := ⟨b, o, none⟩) h, fun b o h => hb.frozen (p := ⟨b, o, none⟩) h⟩
theorem e51 : ∀ args w, (callFunc 51 args).run Tryd.prog w = .ok (.enter 51 args) w := enters_of Tryd.func51 (by kernel_rfl) rfl
theorem pred_wrong (m : Nat) (hm : m < 999) (ih : RightAt m) (l : List D) (hs : ∀ d, d ∈ l → D.Small 1048576 d) (W : World) (B : Nat) (hB : W.cell? ⟨B, 0, none⟩ = some (.int .i64 ((m : Int) + 1))) : Pred 51 #[.pointer (some ⟨B, 0, none⟩)] (fun d => !d.right m) l W := by
  intro d hd W' c0 c1 c2 c3 hb hv
  have hlt : B < W.heap.size := World.block_lt_of_cell? W ⟨B, 0, none⟩ hB
  exact wrong_any m (by omega) ih d W' c0 c1 c2 c3 B ((hb.cell (p := ⟨B, 0, none⟩) hlt).trans hB) hv (hs d hd)
theorem allNot (p : D → Bool) (l : List D) : l.all p = !(l.any fun d => !p d) := by
  induction l with
  | nil => rfl
  | cons a r ih => simp [ih]
set_option maxHeartbeats 1000000 in
theorem right_comp6 (n : Nat) (hn : n < 999) (ih : ∀ m, n = m + 1 → RightAt m) (s : ByteArray) (l t : List D) (w : World) (A2 A3 : Option Addr) (n2 n3 : Nat) (hs : s.size ≤ 1048576) (hl : l.length ≤ 1048576) (ht : t.length ≤ 1048576)
    (h2 : IsL w l A2 0) (h3 : IsL w t A3 0) (hsl : ∀ d, d ∈ l → D.Small 1048576 d) (hst : ∀ d, d ∈ t → D.Small 1048576 d) :
    Calls Tryd.prog 35 #[.agg #[.int .i64 6, .string s, .slice A2 l.length n2, .slice A3 t.length n3], .int .i64 n] w fun e w' => e = .returned (.bool ((D.mk 6 s l t).right n)) ∧ Below w.heap.size w w' := by
  have hb0 := (((Below.refl w.heap.size w).alloc (Nat.le_refl _) (.cells #[.int .i64 6, .string s, .slice A2 l.length n2, .slice A3 t.length n3] 37))).alloc (by simp) (.cells #[.int .i64 n] 3)
  have HB := Lib.hid hb0
  have H2 := Lib.hid (IsL.below hb0 h2)
  have H3 := Lib.hid (IsL.below hb0 h3)
  clear hb0 h2 h3
  by_cases hp : 0 < t.length
  · have HR := Lib.hid (show (D.mk 6 s l t).right n = false from by cases n <;> simp [D.right, D.leaf, D.shape, D.kind, D.tail, hp])
    clear ih
    go_enter Tryd.func35, Tryd.ntmps35
    go_wp2_with fail
    go_ret
    exact ⟨ret_bool HR.out.symm, HB.out⟩
  · have hp' : decide ((0 : Int) < ↑t.length) = false := decide_eq_false (by omega)
    have HSH := Lib.hid (show (D.mk 6 s l t).shape = true from by simp [D.shape, D.kind, D.tail]; simpa using hp)
    have HLF := Lib.hid (show (D.mk 6 s l t).leaf = false from by simp [D.leaf, D.kind])
    clear hp
    cases n with
    | zero =>
      have HR := Lib.hid (show (D.mk 6 s l t).right 0 = false from HLF.out)
      clear ih
      go_enter Tryd.func35, Tryd.ntmps35
      go_wp2_with fail
      all_goals (go_ret; exact ⟨ret_bool HR.out.symm, HB.out⟩)
    | succ m =>
      have HR := Lib.hid (show (D.mk 6 s l t).right (m + 1) = (s.toList.isEmpty && (l.all (D.right m) && t.all (D.right m))) from by simp only [D.right, HLF.out, HSH.out, Bool.false_or, Bool.true_and]; rfl)
      have HP := Lib.hid (fun W B => pred_wrong m (by omega) (ih m rfl) l hsl W B)
      have HP' := Lib.hid (fun W B => pred_wrong m (by omega) (ih m rfl) t hst W B)
      obtain ⟨a1, ha1⟩ : ∃ b, (l.any fun d => !D.right m d) = b := ⟨_, rfl⟩
      obtain ⟨a2, ha2⟩ : ∃ b, (t.any fun d => !D.right m d) = b := ⟨_, rfl⟩
      have HC := Lib.hid (fun W c lb h1 h2 => by have := containsFunc_any l A2 c 51 lb (fun d => !D.right m d) W e51 h1 (by unfold maxLen; omega) h2; rw [ha1] at this; exact this)
      have HC' := Lib.hid (fun W c lb h1 h2 => by have := containsFunc_any t A3 c 51 lb (fun d => !D.right m d) W e51 h1 (by unfold maxLen; omega) h2; rw [ha2] at this; exact this)
      rw [allNot, allNot, ha1, ha2] at HR
      clear ha1 ha2
      clear ih hsl hst HLF HSH
      go_enter Tryd.func35, Tryd.ntmps35
      go_wp2_with (first
        | (go_at_call_of 24 (Value.slice A2 (List.length l) n2); refine (HC.out _ _ _ H2.out (HP.out _ _ (by simp))).mono ?_; rintro e w' ⟨rfl, hb⟩; have HB1 := Lib.hid hb; obtain ⟨hc, hf⟩ := bcell hb; have hz := hb.size; clear hb)
        | (go_at_call_of 24 (Value.slice A3 (List.length t) n3); refine (HC'.out _ _ _ (IsL.below HB1.out H3.out) (HP'.out _ _ ((hc _ _ (by simp)).trans (by simp)))).mono ?_; rintro e w' ⟨rfl, hb⟩; have HB2 := Lib.hid hb; clear hb))
      all_goals go_ret
      all_goals (refine ⟨ret_bool ?_, by first | exact HB.out | exact HB.out.trans (HB1.out.mono (by simp; omega)) | exact (HB.out.trans (HB1.out.mono (by simp; omega))).trans (HB2.out.mono (by have := HB1.out.size; simp at this; omega))⟩; rw [HR.out]; first | done | (simp [*]; done) | (cases a1 <;> cases a2 <;> simp_all; done))
end Go.Proofs.YtcpicndapmaiaaaDoor
