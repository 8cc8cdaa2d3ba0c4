import Derived.Test.YtcpicndapmaiaaaDoorNames
import Derived.WalkKit
import Derived.Outline
import Derived.Deep.DeepCutAuto
import Derived.Deep.LoopGhost
namespace Go.Proofs.YtcpicndapmaiaaaDoor
open Go Go.RowKit
/-- The first place at which p holds; -1: there is none. -/
def idxD (p : D → Bool) : List D → Int → Int
  | [], _ => -1
  | d :: ds, i => if p d then i else idxD p ds (i + 1)
theorem idxD_none (p : D → Bool) : ∀ (l : List D) (i : Int), (∀ d, d ∈ l → p d = false) → idxD p l i = -1
  | [], _, _ => rfl
  | d :: ds, i, h => by rw [idxD, if_neg (by simp [h d]), idxD_none p ds (i + 1) fun x hx => h x (List.mem_cons_of_mem _ hx)]
theorem idxD_hit (p : D → Bool) : ∀ (l : List D) (i : Int) (k : Nat) (hk : k < l.length), (∀ j (hj : j < k), p (l[j]'(by omega)) = false) → p l[k] = true → idxD p l i = i + k
  | [], _, k, hk, _, _ => absurd hk (Nat.not_lt_zero k)
  | d :: ds, i, 0, _, _, h => by rw [idxD, if_pos (by simpa using h)]; simp
  | d :: ds, i, k + 1, hk, h0, h => by
    have h1 := h0 0 (by omega)
    rw [idxD, if_neg (by simpa using h1), idxD_hit p ds (i + 1) k (by simpa using hk) (fun j hj => by simpa using h0 (j + 1) (by omega)) (by simpa using h)]
    simp; omega

theorem idxD_ge (p : D → Bool) : ∀ (l : List D) (i : Int), 0 ≤ i → l.any p = true → 0 ≤ idxD p l i
  | [], _, _, h => by simp at h
  | d :: ds, i, hi, h => by
    rw [idxD]
    by_cases hd : p d = true
    · rw [if_pos hd]; exact hi
    · rw [if_neg hd]; exact idxD_ge p ds (i + 1) (by omega) (by simpa [hd] using h)
/-- What a predicate's call gives, wherever all that lay in w lies unturned. -/
def Pred (g : Nat) (lb : Array Value) (p : D → Bool) (l : List D) (w : World) : Prop :=
  ∀ (d : D), d ∈ l → ∀ (W : World) (c0 c1 c2 c3 : Value), Below w.heap.size w W → IsD W d c0 c1 c2 c3 → Calls Tryd.prog g (#[.agg #[c0, c1, c2, c3]] ++ lb) W fun e w' => e = .returned (.bool (p d)) ∧ Below W.heap.size W w'


set_option maxHeartbeats 400000 in
theorem indexFunc_any (l : List D) (A : Option Addr) (c : Nat) (g : Nat) (lb : Array Value) (p : D → Bool) (w : World) (eg : ∀ args w, (callFunc g args).run Tryd.prog w = .ok (.enter g args) w)
    (hl : IsL w l A 0) (hn : l.length ≤ maxLen) (hp : Pred g lb p l w) :
    Calls Tryd.prog 42 #[.slice A l.length c, .func (.func g) #[] lb] w fun e w' => e = .returned (.int .i64 (idxD p l 0)) ∧ Below w.heap.size w w' := by
  unfold maxLen at hn
  have HL := Lib.hid hl; have HP := Lib.hid hp
  clear hl hp
  go_enter Tryd.func42, Tryd.ntmps42
  go_wp2
  go_loopw [5, 8] (fun _ i wr => ∃ k : Nat, k ≤ l.length ∧ i = .int .i64 k ∧ Hid (Below w.heap.size w wr) ∧ Hid (∀ j (hj : j < k) (hl : j < l.length), p l[j] = false)) (fun _ i _ => l.length - (intOf i).toNat)
  case atStart => exact ⟨0, Nat.zero_le _, rfl, Below.refl _ _, fun j hj => absurd hj (Nat.not_lt_zero j)⟩
  case round =>
    obtain ⟨k, hk, rfl, HB, HN⟩ := hrel
    by_cases hlt : k < l.length
    · obtain ⟨ad, c0, c1, c2, c3, rfl, g0, g1, g2, g3, hd⟩ := (IsL.below HB.out HL.out).get0 k hlt
      have HC := Lib.hid (HP.out l[k] (List.getElem_mem hlt) wr c0 c1 c2 c3 HB.out hd)
      clear hd
      cases hq : p l[k] with
      | true =>
        have HC' := Lib.hid (by have := HC.out; rw [hq] at this; exact this)
        have HR := Lib.hid (show idxD p l 0 = k by rw [idxD_hit p l 0 k hlt (fun j hj => HN.out j hj (by omega)) hq]; omega)
        clear HC hq
        go_wp2_with (go_at_fn g; refine HC'.out.mono ?_; rintro e w' ⟨rfl, hb'⟩)
        go_ret
        exact ⟨ret_int HR.out.symm, HB.out.trans (hb'.mono HB.out.size)⟩
      | false =>
        have HC' := Lib.hid (by have := HC.out; rw [hq] at this; exact this)
        have HQ := Lib.hid hq
        clear HC hq
        go_wp2_with (go_at_fn g; refine HC'.out.mono ?_; rintro e w' ⟨rfl, hb'⟩)
        go_roundw
        case rel => exact ⟨k + 1, by omega, by go_num, HB.out.trans (hb'.mono HB.out.size), fun j hj hl => by
          by_cases e : j = k
          · subst e; exact HQ.out
          · exact HN.out j (by omega) hl⟩
        case measure => simp [intOf]; omega
    · have HR := Lib.hid (show idxD p l 0 = -1 from idxD_none p l 0 fun d hd => by
        obtain ⟨j, hj, rfl⟩ := List.getElem_of_mem hd
        exact HN.out j (by omega) hj)
      go_wp2
      go_ret
      exact ⟨ret_int HR.out.symm, HB.out⟩

theorem containsFunc_any (l : List D) (A : Option Addr) (c : Nat) (g : Nat) (lb : Array Value) (p : D → Bool) (w : World) (eg : ∀ args w, (callFunc g args).run Tryd.prog w = .ok (.enter g args) w)
    (hl : IsL w l A 0) (hn : l.length ≤ maxLen) (hp : Pred g lb p l w) :
    Calls Tryd.prog 24 #[.slice A l.length c, .func (.func g) #[] lb] w fun e w' => e = .returned (.bool (l.any p)) ∧ Below w.heap.size w w' := by
  have HC := Lib.hid (indexFunc_any l A c g lb p w eg hl hn hp)
  have HR := Lib.hid (show decide (0 ≤ idxD p l 0) = l.any p from by
    cases h : l.any p with
    | true =>
      simpa using idxD_ge p l 0 (Int.le_refl 0) h
    | false =>
      rw [List.any_eq_false] at h
      rw [idxD_none p l 0 (fun d hd => by simpa using h d hd)]; rfl)
  clear hl hn hp eg
  go_enter Tryd.func24, Tryd.ntmps24
  go_wp2_with (go_at_call 42; refine HC.out.mono ?_; rintro e w' ⟨rfl, hb⟩)
  go_ret
  exact ⟨ret_bool (by first | rfl | exact HR.out), hb⟩
end Go.Proofs.YtcpicndapmaiaaaDoor
