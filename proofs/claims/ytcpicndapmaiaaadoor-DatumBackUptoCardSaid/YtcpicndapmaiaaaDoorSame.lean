/- Two places that read as one datum are the same: the walks of slices.EqualFunc, SameData and SameDatum. -/
import Derived.Test.YtcpicndapmaiaaaDoorChecked
import Derived.Test.YtcpicndapmaiaaaDoorRj
import Derived.WalkKit
import Derived.Outline
import Derived.Deep.DeepCutAuto
import Derived.Deep.LoopGhost
namespace Go.Proofs.YtcpicndapmaiaaaDoor
open Go Go.RowKit
/-- SameDatum says yes of two readings of one datum. -/
def SameAt (d : D) : Prop := ∀ (w : World) (c0 c1 c2 c3 e0 e1 e2 e3 : Value), IsD w d c0 c1 c2 c3 → IsD w d e0 e1 e2 e3 →
  Calls Tryd.prog 16 #[.agg #[c0, c1, c2, c3], .agg #[e0, e1, e2, e3]] w fun e w' => e = .returned (.bool true) ∧ Below w.heap.size w w'
theorem equalFunc_any (l : List D) (A B : Option Addr) (c c' : Nat) (w : World) (hl : IsL w l A 0) (hl' : IsL w l B 0) (hn : l.length ≤ 1048576) (hp : ∀ d, d ∈ l → SameAt d) :
    Calls Tryd.prog 59 #[.slice A l.length c, .slice B l.length c', .func (.func 16) #[] #[]] w fun e w' => e = .returned (.bool true) ∧ Below w.heap.size w w' := by
  have HL := Lib.hid hl; have HL' := Lib.hid hl'; have HP := Lib.hid hp
  clear hl hl' hp
  go_enter Tryd.func59, Tryd.ntmps59
  go_wp2
  go_loopw [7, 8, 9, 17] (fun _ _ _ i wr => ∃ k : Nat, k ≤ l.length ∧ i = .int .i64 k ∧ Hid (Below w.heap.size w wr)) (fun _ _ _ i _ => l.length - (intOf i).toNat)
  case atStart => exact ⟨0, Nat.zero_le _, rfl, Below.refl _ _⟩
  case round =>
    obtain ⟨k, hk, rfl, HB⟩ := hrel
    by_cases hlt : k < l.length
    · obtain ⟨ad, c0, c1, c2, c3, rfl, g0, g1, g2, g3, hd⟩ := (IsL.below HB.out HL.out).get0 k hlt
      obtain ⟨ad', e0, e1, e2, e3, rfl, f0, f1, f2, f3, hd'⟩ := (IsL.below HB.out HL'.out).get0 k hlt
      obtain ⟨X2, m2, X3, m3, rfl, rfl, rfl, rfl, -⟩ := id hd.form
      obtain ⟨Y2, k2, Y3, k3, rfl, rfl, rfl, rfl, -⟩ := id hd'.form
      have HB2 := Lib.hid (fun o o' => ((Below.refl wr.heap.size wr).alloc (Nat.le_refl _) o).alloc (by simp) o')
      have HC := Lib.hid (fun o o' => HP.out l[k] (List.getElem_mem hlt) ((wr.alloc o).alloc o') _ _ _ _ _ _ _ _ (IsD.below (HB2.out o o') hd) (IsD.below (HB2.out o o') hd'))
      clear hd hd'
      have j0 := fun o => cell_below ((Below.refl wr.heap.size wr).alloc (Nat.le_refl _) o) f0
      have j1 := fun o => cell_below ((Below.refl wr.heap.size wr).alloc (Nat.le_refl _) o) f1
      have j2 := fun o => cell_below ((Below.refl wr.heap.size wr).alloc (Nat.le_refl _) o) f2
      have j3 := fun o => cell_below ((Below.refl wr.heap.size wr).alloc (Nat.le_refl _) o) f3
      go_wp2_with (go_at_call 16; refine (HC.out _ _).mono ?_; rintro e w' ⟨rfl, hb'⟩)
      go_roundw
      case rel => exact ⟨k + 1, by omega, by go_num, HB.out.trans ((HB2.out _ _).trans (hb'.mono (by simp; omega)) |>.mono HB.out.size)⟩
      case measure => simp [intOf]; omega
    · go_wp2
      go_ret
      exact ⟨rfl, HB.out⟩
theorem sameData_any (l : List D) (A B : Option Addr) (c c' : Nat) (w : World) (hl : IsL w l A 0) (hl' : IsL w l B 0) (hn : l.length ≤ 1048576) (hp : ∀ d, d ∈ l → SameAt d) :
    Calls Tryd.prog 39 #[.slice A l.length c, .slice B l.length c'] w fun e w' => e = .returned (.bool true) ∧ Below w.heap.size w w' := by
  have HC := Lib.hid (equalFunc_any l A B c c' w hl hl' hn hp)
  clear hl hl' hp
  go_enter Tryd.func39, Tryd.ntmps39
  go_wp2_with (go_at_call 59; refine HC.out.mono ?_; rintro e w' ⟨rfl, hb⟩)
  go_ret
  exact ⟨rfl, hb⟩
theorem sameDatum_any {M : Nat} {d : D} (hs : D.Small M d) (hM : M ≤ 1048576) : SameAt d := by
  induction hs with
  | mk k s l t h1 h2 h3 h4 h5 ih4 ih5 =>
    intro w c0 c1 c2 c3 e0 e1 e2 e3 hd hd'
    unfold IsD at hd hd'
    obtain ⟨rfl, rfl, ⟨A, c, rfl, g2, g3⟩, ⟨B, c', rfl, g4, g5⟩⟩ := hd
    obtain ⟨rfl, rfl, ⟨A', f, rfl, f2, f3⟩, ⟨B', f', rfl, f4, f5⟩⟩ := hd'
    have HB2 := Lib.hid (fun o o' => ((Below.refl w.heap.size w).alloc (Nat.le_refl _) o).alloc (by simp) o')
    have HC := Lib.hid (fun o o' => sameData_any l A A' c f ((w.alloc o).alloc o') (IsL.below (HB2.out o o') g3) (IsL.below (HB2.out o o') f3) (by omega) ih4)
    have HT := Lib.hid (fun W (hb : Below w.heap.size w W) => sameData_any t B B' c' f' W (IsL.below hb g5) (IsL.below hb f5) (by omega) ih5)
    clear g3 g5 f3 f5 ih4 ih5 h4 h5
    go_enter Tryd.func16, Tryd.ntmps16
    go_wp2_with fail
    refine (HC.out _ _).mono ?_
    rintro e w1 ⟨rfl, hb⟩
    have HB1 := Lib.hid ((HB2.out _ _).trans (hb.mono (by simp; omega)))
    obtain ⟨hc, hf⟩ := bcell hb
    clear hb
    go_wp2_with fail
    refine (HT.out _ HB1.out).mono ?_
    rintro e w2 ⟨rfl, hb⟩
    go_wp2_with fail
    go_ret
    exact ⟨rfl, HB1.out.trans (hb.mono HB1.out.size)⟩
end Go.Proofs.YtcpicndapmaiaaaDoor
