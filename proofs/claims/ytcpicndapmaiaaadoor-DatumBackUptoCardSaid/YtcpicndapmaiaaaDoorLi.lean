/- A list's datum, where nothing stands behind its dot that is a list: the walk of datum.list. -/
import Derived.Test.YtcpicndapmaiaaaDoorRow
import Derived.Test.YtcpicndapmaiaaaDoorRk
import Derived.Deep.QuietTactic
import Derived.BigQuiet
namespace Go.Proofs.YtcpicndapmaiaaaDoor
open Go Go.RowKit
theorem list_any (l t : List D) (A B : Option Addr) (c c' : Nat) (w : World) (h : IsL w t B 0) (ht : t.length ≤ 1) (hl : l.length ≤ 100000000) (hk : ∀ d, d ∈ t → (d.kind == 5) = false) :
    Calls Tryd.prog 57 #[.slice A l.length c, .slice B t.length c'] w fun e w' => e = .returned (.agg #[.int .i64 5, .string ⟨#[]⟩, .slice A l.length c, .slice B t.length c']) ∧ Below w.heap.size w w' := by
  have HB := Lib.hid (fun o => (Below.refl w.heap.size w).alloc (Nat.le_refl _) o)
  cases t with
  | nil =>
    clear h hk ht
    go_enter Tryd.func57, Tryd.ntmps57
    go_wp2_with fail
    exact bodyPost_ret (v := .agg #[.int .i64 5, .string ⟨#[]⟩, .slice A l.length c, .slice B 0 c']) (by simp [results, Tryd.results57, go_sem]) rfl ⟨rfl, HB.out _⟩
  | cons d r =>
    have hr : r = [] := by cases r with | nil => rfl | cons a b => simp at ht
    subst hr
    obtain ⟨ad, c0, c1, c2, c3, rfl, g0, _, _, _, hx⟩ := h.get0 0 (by simp)
    obtain ⟨_, _, _, _, rfl, -⟩ := hx.form
    rw [Nat.zero_mul, show ad.add 0 = ad from by simp [Addr.add]] at g0
    have hk' : (d.kind == 5) = false := hk d (by simp)
    simp only [List.getElem_cons_zero] at g0
    generalize d.kind = kx at g0 hk'
    have g0' : ∀ o1, (w.alloc o1).cell? ad = some (.int .i64 kx) := fun o1 => cell_below (Below.alloc (Below.refl w.heap.size w) (Nat.le_refl _) o1) g0
    clear hx hk ht
    go_enter Tryd.func57, Tryd.ntmps57
    go_wp2_with fail
    exact bodyPost_ret (v := .agg #[.int .i64 5, .string ⟨#[]⟩, .slice A l.length c, .slice (some ad) 1 c']) (by simp [results, Tryd.results57, go_sem]) rfl ⟨rfl, HB.out _⟩
end Go.Proofs.YtcpicndapmaiaaaDoor
