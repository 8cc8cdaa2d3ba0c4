/- datum.Read of a printed text. -/
import Derived.Test.YtcpicndapmaiaaaDoorDb
import Derived.Recover
import Derived.Deep.RegionHeld3
import Derived.Deep.RegionWith
import Derived.Deep.RegionLaw
namespace Go.Proofs.YtcpicndapmaiaaaDoor
open Go Go.RowKit
theorem catch_idle (p q : Value) (w : World) :
    CallsD Tryd.prog 36 #[p, q] .returning w fun e u' w' => e = .returned (.tuple #[]) ∧ u' = .returning ∧ w' = w := by
  refine callsD_of_wpS Tryd.func36 rfl fun c₀ cs hu => ?_
  apply wpS_seq
  apply wpS_region
  simp [wpOpsS, go_sem, recoverD, hu, Tryd.ntmps36, Exit.thenS]
  apply wpS_seq
  apply wpS_region
  simp [wpOpsS, go_sem, recoverD, hu, Tryd.ntmps36, Exit.thenS]
  refine wpS_cond (t := false) (by simp [Act.eval]) ?_
  simp only [Bool.false_eq_true, if_false]
  refine wpS_of_wp (wp_skip ?_)
  cases c₀
  simp_all [bodyPostS, results, Tryd.results36]
/-- What datum.Read of a datum's text hands back. -/
def RePost (d : D) (w : World) (e : Ending) (w' : World) : Prop := ∃ A c, e = .returned (.tuple #[.slice A 1 c, .nilIface]) ∧ IsL w' [d] A 0 ∧ Below w.heap.size w w'
/-- Where datum.Read stands. -/
inductive Rst (w : World) (d : D) (s : ByteArray) (wr : World) : Prop where
  | start (rr : Rr (w.heap.size + 1 + 1) s 0 wr) (hl : wr.heap[w.heap.size]? = some (.cells #[.slice none 0 0] 23 (0, 0))) (he : wr.heap[w.heap.size + 1]? = some (.cells #[.nilIface] 41 (0, 0))) (hb : Below w.heap.size w wr)
  | done (A : Option Addr) (c : Nat) (rr : Rr (w.heap.size + 1 + 1) s s.size wr) (hl : wr.heap[w.heap.size]? = some (.cells #[.slice A 1 c] 23 (0, 0))) (hd : IsLp (fun k => w.heap.size + 1 + 1 < k) wr [d] A 0) (he : wr.heap[w.heap.size + 1]? = some (.cells #[.nilIface] 41 (0, 0))) (hb : Below w.heap.size w wr)
theorem Rst.eb {w : World} {d : D} {s : ByteArray} {x y : World} {p q : Nat} (h : Rst w d s x) (he : Eb (w.heap.size + 1 + 1) x y) (hp : Rr (w.heap.size + 1 + 1) s p x) (hr : Rr (w.heap.size + 1 + 1) s q y) (hpq : p = q) : Rst w d s y := by
  subst hpq
  have hlt := hp.cells.2.2.2
  have hk : ∀ k, k < w.heap.size + 1 + 1 → y.heap[k]? = x.heap[k]? := fun k hk => he.block k (by omega) (by intro e; injection e with e; omega)
  have hbel : Below w.heap.size w x → Below w.heap.size w y := fun hb => ⟨he.os.trans hb.os, he.tape.trans hb.tape, he.output.trans hb.output, Nat.le_trans hb.size he.size, fun i hi => (hk i (by omega)).trans (hb.block i hi)⟩
  rcases h with ⟨rr, h1, h2, h3⟩ | ⟨A, c, rr, h1, hd, h2, h3⟩
  · have : p = 0 := by have h4 := rr.pos; have h5 := hp.pos; omega
    subst this
    exact .start hr ((hk _ (by omega)).trans h1) ((hk _ (by omega)).trans h2) (hbel h3)
  · have : p = s.size := by have h4 := rr.pos; have h5 := hp.pos; omega
    subst this
    exact .done A c hr ((hk _ (by omega)).trans h1) (hd.frame fun k hk1 hks => ⟨hk1, he.block k hks (by intro e; injection e with e; omega)⟩) ((hk _ (by omega)).trans h2) (hbel h3)
section
variable {ops : Array Oper} {o : Oper} {a : Act} {w : World} {K : Act → World → Prop} {Q : Exit → Act → World → Prop} {E : Prop}
set_option maxRecDepth 100000 in
/-- Onto nil a datum of no kind is laid. -/
theorem step_zero (hgd : o.guard = none) (s x : Operand) (ho : o.op = .call { callee := .builtin .append, args := #[s, x], argTypes := #[23, 23] }) (g0 : Nat) (hs : a.eval s = .slice none 0 0) (hx : a.eval x = .slice (some ⟨g0, 0, none⟩) 1 1)
    (hg0 : w.heap[g0]? = some (.cells #[.int .i64 0, .string ⟨#[]⟩, .slice none 0 0, .slice none 0 0] 37 (0, 0)))
    (h : ∀ g cap w', w'.ownsRow w.heap.size 37 4 (.slice (some ⟨g, 0, none⟩) 1 cap) 1 [.int .i64 0, .string ⟨#[]⟩, .slice none 0 0, .slice none 0 0] → w.grownBy w' none → w.heap.size ≤ g → g < w'.heap.size → K (a.put o.dst (.slice (some ⟨g, 0, none⟩) 1 cap)) w') :
    if Region.wanted o (yielded ops a.tmps) = true then Oper.wp Tryd.prog o a w K Q else E := by
  obtain ⟨i, z, hi, hz, hzs, hsz, hby⟩ := info37
  refine step_append_lies w hgd s x 23 ho w.heap.size 37 i z 4 72 Tryd.underlying23 hi hz hsz hby hzs (by omega) (.slice none 0 0) 0 [] hs (World.ownsRow_nil w w.heap.size 37 4) ⟨g0, 0, none⟩ 1 1 _ hx (show [Value.int .i64 0, .string ⟨#[]⟩, .slice none 0 0, .slice none 0 0].length = 1 * 4 from rfl) ?_ ?_ (by omega) (by unfold maxLen; omega) (by omega) (Nat.le_refl _) _ rfl ?_
  · intro j u hj
    have hjl : j < 4 := (List.getElem?_eq_some_iff.1 hj).1
    have : ((⟨g0, 0, none⟩ : Addr).add j) = ⟨g0, j, none⟩ := by unfold Addr.add; split <;> simp_all
    rw [this, cell_of_row w g0 j _ 37 (0, 0) hg0]
    simpa using hj
  · intro u hu
    simp only [List.mem_cons, List.not_mem_nil, or_false] at hu
    rcases hu with rfl | rfl | rfl | rfl <;> rfl
  · intro g cap w' k1 k2 k3 k4
    refine h g cap w' (by simpa using k1) k2 ?_ k4
    rcases k3 with k3 | k3
    · cases k3
    · omega
end
/-- The four places of a row of one datum. -/
theorem own1_cells {w : World} {B g cap : Nat} {a0 a1 a2 a3 : Value} (h : w.ownsRow B 37 4 (.slice (some ⟨g, 0, none⟩) 1 cap) 1 [a0, a1, a2, a3]) :
    w.cell? ⟨g, 0, none⟩ = some a0 ∧ w.cell? ⟨g, 1, none⟩ = some a1 ∧ w.cell? ⟨g, 2, none⟩ = some a2 ∧ w.cell? ⟨g, 3, none⟩ = some a3 ∧ w.frozen? ⟨g, 0, none⟩ = false ∧ w.frozen? ⟨g, 1, none⟩ = false ∧ w.frozen? ⟨g, 2, none⟩ = false ∧ w.frozen? ⟨g, 3, none⟩ = false :=
  ⟨World.ownsRow.cellAt h 0 (by omega), World.ownsRow.cellAt h 1 (by omega), World.ownsRow.cellAt h 2 (by omega), World.ownsRow.cellAt h 3 (by omega), World.ownsRow.frozenAt h 0, World.ownsRow.frozenAt h 1, World.ownsRow.frozenAt h 2, World.ownsRow.frozenAt h 3⟩
abbrev zs4 : List Value := [.int .i64 0, .string ⟨#[]⟩, .slice none 0 0, .slice none 0 0]
theorem below_drew (B : Nat) (w : World) : Below B w w.drew := ⟨rfl, rfl, rfl, Nat.le_refl _, fun _ _ => rfl⟩
theorem Eb.setAt (g i : Nat) (w : World) (v : Value) : Eb g w (w.setCell ⟨g, i, none⟩ v) :=
  ⟨rfl, rfl, rfl, by simp, fun k _ hn => heap_setCell_other _ _ _ _ (by rintro rfl; exact hn rfl)⟩
/-- All that is told of the world ahead of the last stores. -/
structure Ahead (w : World) (d : D) (s : ByteArray) (H g cap : Nat) (c0 c1 c2 c3 : Value) (X : World) : Prop where
  rr : Rr (w.heap.size + 1 + 1) s s.size X
  hl : X.heap[w.heap.size]? = some (.cells #[.slice none 0 0] 23 (0, 0))
  he : X.heap[w.heap.size + 1]? = some (.cells #[.nilIface] 41 (0, 0))
  hb : Below w.heap.size w X
  own : X.ownsRow H 37 4 (.slice (some ⟨g, 0, none⟩) 1 cap) 1 zs4
  hd : IsDp (fun k => w.heap.size + 1 + 1 < k ∧ k ≠ g) X d c0 c1 c2 c3
  hg : w.heap.size + 1 + 1 < g
/-- What is told of the world behind the reader of the datum. -/
structure After (w : World) (d : D) (s : ByteArray) (c0 c1 c2 c3 : Value) (X : World) : Prop where
  rr : Rr (w.heap.size + 1 + 1) s s.size X
  hl : X.heap[w.heap.size]? = some (.cells #[.slice none 0 0] 23 (0, 0))
  he : X.heap[w.heap.size + 1]? = some (.cells #[.nilIface] 41 (0, 0))
  hb : Below w.heap.size w X
  hd : IsDp (fun k => w.heap.size + 1 + 1 < k) X d c0 c1 c2 c3
theorem After.cells {w : World} {d : D} {s : ByteArray} {c0 c1 c2 c3 : Value} {X : World} (h : After w d s c0 c1 c2 c3 X) : X.cell? ⟨w.heap.size, 0, none⟩ = some (.slice none 0 0) ∧ w.heap.size < X.heap.size :=
  ⟨cell_of_row X _ 0 _ _ _ h.hl, (Array.getElem?_eq_some_iff.1 h.hl).1⟩
/-- .. and ahead of it. -/
structure Fore (w : World) (X : World) : Prop where
  hl : X.heap[w.heap.size]? = some (.cells #[.slice none 0 0] 23 (0, 0))
  he : X.heap[w.heap.size + 1]? = some (.cells #[.nilIface] 41 (0, 0))
  hb : Below w.heap.size w X
  sz : w.heap.size + 1 + 1 < X.heap.size
theorem Fore.alloc {w x : World} (h : Fore w x) (o : Obj) : Fore w (x.alloc o).drew := by
  have hb := (Below.refl x.heap.size x).alloc (Nat.le_refl _) o
  have hz := h.sz
  exact ⟨(hb.block _ (by omega)).trans h.hl, (hb.block _ (by omega)).trans h.he, h.hb.trans ((hb.mono h.hb.size).trans (below_drew _ _)), by simp; omega⟩
theorem After.of {w x w4 : World} {d : D} {s : ByteArray} {c0 c1 c2 c3 : Value} (h : Fore w x) (hd : IsDp (fun k => x.heap.size ≤ k) w4 d c0 c1 c2 c3) (hr : Rr (w.heap.size + 1 + 1) s s.size w4) (he : Eb (w.heap.size + 1 + 1) x w4) : After w d s c0 c1 c2 c3 w4 := by
  have hz := h.sz
  have hk : ∀ k, k < w.heap.size + 1 + 1 → w4.heap[k]? = x.heap[k]? := fun k hk => he.block k (by omega) (by intro e; injection e with e; omega)
  exact ⟨hr, (hk _ (by omega)).trans h.hl, (hk _ (by omega)).trans h.he, h.hb.trans (he.below h.hb.size (by omega)), hd.frame fun k h1 h2 => ⟨by omega, rfl⟩⟩
theorem after_zero {w x w4 : World} (o : Obj) (h : Fore w x) (he : Eb (w.heap.size + 1 + 1) (x.alloc o).drew w4) : w4.heap[x.heap.size]? = some o := by
  have hz := h.sz
  exact (he.block x.heap.size (by simp) (by intro e; injection e with e; omega)).trans (heap_alloc_new x o)
theorem Ahead.of {w : World} {d : D} {s : ByteArray} {g cap : Nat} {c0 c1 c2 c3 : Value} {w4 V y : World} (h : After w d s c0 c1 c2 c3 w4) (hV : Below w4.heap.size w4 V) (hgr : V.grownBy y none) (hge : V.heap.size ≤ g) (hown : y.ownsRow V.heap.size 37 4 (.slice (some ⟨g, 0, none⟩) 1 cap) 1 zs4) : Ahead w d s V.heap.size g cap c0 c1 c2 c3 y := by
  obtain ⟨rr, hl, he, hb, hd⟩ := h
  have hlt := rr.cells.2.2.2
  have hs := hV.size
  have hk : ∀ k, k < w4.heap.size → y.heap[k]? = w4.heap[k]? := fun k h => (hgr.block k (by omega) (by simp)).trans (hV.block k h)
  refine ⟨(hk _ hlt).trans rr, (hk _ (by omega)).trans hl, (hk _ (by omega)).trans he, hb.trans ⟨hgr.os.trans hV.os, hgr.tape.trans hV.tape, hgr.output.trans hV.output, Nat.le_trans hs hgr.size, fun i hi => hk i (Nat.lt_of_lt_of_le hi hb.size)⟩, hown, hd.frame fun k h1 h2 => ⟨⟨h1, by omega⟩, hk k h2⟩, by omega⟩
theorem Ahead.cells {w : World} {d : D} {s : ByteArray} {H g cap : Nat} {c0 c1 c2 c3 : Value} {X : World} (h : Ahead w d s H g cap c0 c1 c2 c3 X) : X.cell? ⟨w.heap.size, 0, none⟩ = some (.slice none 0 0) ∧ X.frozen? ⟨w.heap.size, 0, none⟩ = false ∧ w.heap.size < X.heap.size ∧ g ≠ w.heap.size :=
  ⟨cell_of_row X _ 0 _ _ _ h.hl, frozen_of_row X _ 0 _ _ h.hl, (Array.getElem?_eq_some_iff.1 h.hl).1, by have := h.hg; omega⟩
def Both (p q : World → Prop) (w : World) : Prop := p w ∧ q w
theorem Rst.core {w : World} {d : D} {s : ByteArray} {H g cap : Nat} {c0 c1 c2 c3 : Value} {X Z : World} (h : Ahead w d s H g cap c0 c1 c2 c3 X)
    (hR : Z.heap[w.heap.size]? = some (.cells #[.slice (some ⟨g, 0, none⟩) 1 cap] 23 (0, 0))) (ha : ∀ k, k ≠ g → k ≠ w.heap.size → Z.heap[k]? = X.heap[k]?) (o4 : Z.ownsRow H 37 4 (.slice (some ⟨g, 0, none⟩) 1 cap) 1 [c0, c1, c2, c3]) (hB : Below w.heap.size w Z) :
    Both (Rst w d s) (Rr (w.heap.size + 1 + 1) s s.size) Z := by
  have hg := h.hg
  have hdd : IsDp (fun k => w.heap.size + 1 + 1 < k) Z d c0 c1 c2 c3 := h.hd.frame fun k hk hks => ⟨hk.1, ha k hk.2 (by omega)⟩
  obtain ⟨k0, k1, k2, k3, _⟩ := own1_cells (a0 := c0) (a1 := c1) (a2 := c2) (a3 := c3) o4
  have hrr : Rr (w.heap.size + 1 + 1) s s.size Z := (ha _ (by omega) (by omega)).trans h.rr
  refine ⟨.done (some ⟨g, 0, none⟩) cap hrr hR ?_ ((ha _ (by omega) (by omega)).trans h.he) hB, hrr⟩
  unfold IsLp
  exact ⟨⟨⟨g, 0, none⟩, c0, c1, c2, c3, rfl, (show w.heap.size + 1 + 1 < g from by omega), k0, k1, k2, k3, hdd⟩, by unfold IsLp; trivial⟩
theorem set4 {H g cap : Nat} {X : World} (c0 c1 c2 c3 : Value) (h : X.ownsRow H 37 4 (.slice (some ⟨g, 0, none⟩) 1 cap) 1 zs4) :
    ∃ Y, Y = (((X.setCell ⟨g, 0, none⟩ c0).setCell ⟨g, 1, none⟩ c1).setCell ⟨g, 2, none⟩ c2).setCell ⟨g, 3, none⟩ c3 ∧ Y.ownsRow H 37 4 (.slice (some ⟨g, 0, none⟩) 1 cap) 1 [c0, c1, c2, c3] ∧ Eb g X Y := by
  obtain ⟨o1, _⟩ := World.ownsRow.stored h 0 c0
  obtain ⟨o2, _⟩ := World.ownsRow.stored o1 1 c1
  obtain ⟨o3, _⟩ := World.ownsRow.stored o2 2 c2
  obtain ⟨o4, _⟩ := World.ownsRow.stored o3 3 c3
  exact ⟨_, rfl, o4, (((Eb.setAt g 0 X c0).trans (Eb.setAt g 1 _ c1)).trans (Eb.setAt g 2 _ c2)).trans (Eb.setAt g 3 _ c3)⟩
theorem Eb.size_of {g : Nat} {X Y : World} {i : Nat} {v : Value} (h : Y = X.setCell ⟨g, i, none⟩ v) : Y.heap.size = X.heap.size := by rw [h]; simp
theorem Rst.fin {w : World} {d : D} {s : ByteArray} {H g cap : Nat} {c0 c1 c2 c3 : Value} {X : World} (h : Ahead w d s H g cap c0 c1 c2 c3 X) :
    Both (Rst w d s) (Rr (w.heap.size + 1 + 1) s s.size) (((((X.setCell ⟨g, 0, none⟩ c0).setCell ⟨g, 1, none⟩ c1).setCell ⟨g, 2, none⟩ c2).setCell ⟨g, 3, none⟩ c3).setCell ⟨w.heap.size, 0, none⟩ (.slice (some ⟨g, 0, none⟩) 1 cap)) := by
  have hg := h.hg
  have hRX : w.heap.size < X.heap.size := (Array.getElem?_eq_some_iff.1 h.hl).1
  obtain ⟨Y, hY, o4, e1⟩ := set4 c0 c1 c2 c3 h.own
  have hz : Y.heap.size = X.heap.size := by rw [hY]; simp
  rw [← hY]
  have e2 := Eb.setAt w.heap.size 0 Y (.slice (some ⟨g, 0, none⟩) 1 cap)
  have ho : ∀ k, k < X.heap.size → k ≠ g → Y.heap[k]? = X.heap[k]? := fun k hk hkg => e1.block k hk (by intro e; injection e with e; exact hkg e)
  refine Rst.core h ?_ ?_ ?_ ?_
  · exact heap_setCell_same Y w.heap.size 0 #[.slice none 0 0] 23 _ ((ho _ hRX (by omega)).trans h.hl)
  · intro k h1 h2
    refine (heap_setCell_other _ _ _ _ (by rintro rfl; exact h2 rfl)).trans ?_
    by_cases hk : k < X.heap.size
    · exact ho k hk h1
    · rw [Array.getElem?_eq_none (by omega), Array.getElem?_eq_none (by omega)]
  · exact World.ownsRow.kept o4 e2 (by right; intro e; have e : g = w.heap.size := by simpa [Value.ownBlock] using e
                                       omega)
  · exact h.hb.trans ((e1.below h.hb.size (by omega)).trans (e2.below (by have := h.hb.size; omega) (Nat.le_refl _)))
theorem Rst.fin2 {w : World} {d : D} {s : ByteArray} {H g cap : Nat} {c0 c1 c2 c3 : Value} {X : World} (h : Ahead w d s H g cap c0 c1 c2 c3 X) :
    Both (Rst w d s) (Rr (w.heap.size + 1 + 1) s s.size) (((((X.setCell ⟨w.heap.size, 0, none⟩ (.slice (some ⟨g, 0, none⟩) 1 cap)).setCell ⟨g, 0, none⟩ c0).setCell ⟨g, 1, none⟩ c1).setCell ⟨g, 2, none⟩ c2).setCell ⟨g, 3, none⟩ c3) := by
  have hg := h.hg
  have hRX : w.heap.size < X.heap.size := (Array.getElem?_eq_some_iff.1 h.hl).1
  have e2 := Eb.setAt w.heap.size 0 X (.slice (some ⟨g, 0, none⟩) 1 cap)
  have hl2 := heap_setCell_same X w.heap.size 0 #[.slice none 0 0] 23 (.slice (some ⟨g, 0, none⟩) 1 cap) h.hl
  have ho2 : ∀ k, k ≠ w.heap.size → (X.setCell ⟨w.heap.size, 0, none⟩ (.slice (some ⟨g, 0, none⟩) 1 cap)).heap[k]? = X.heap[k]? := fun k hk => heap_setCell_other _ _ _ _ (by rintro rfl; exact hk rfl)
  have o0 := World.ownsRow.kept h.own e2 (by right; intro e; have e : g = w.heap.size := by simpa [Value.ownBlock] using e
                                             omega)
  obtain ⟨X1, hX1⟩ : ∃ X1, X1 = X.setCell ⟨w.heap.size, 0, none⟩ (.slice (some ⟨g, 0, none⟩) 1 cap) := ⟨_, rfl⟩
  have hz1 : X1.heap.size = X.heap.size := by rw [hX1]; simp
  rw [← hX1] at hl2 ho2 o0 e2 ⊢
  obtain ⟨Y, hY, o4, e1⟩ := set4 c0 c1 c2 c3 o0
  have hz : Y.heap.size = X1.heap.size := by rw [hY]; simp
  rw [← hY]
  have ho : ∀ k, k < X1.heap.size → k ≠ g → Y.heap[k]? = X1.heap[k]? := fun k hk hkg => e1.block k hk (by intro e; injection e with e; exact hkg e)
  refine Rst.core h ?_ ?_ o4 ?_
  · exact (ho _ (by omega) (by omega)).trans hl2
  · intro k h1 h2
    by_cases hk : k < X.heap.size
    · exact (ho k (by omega) h1).trans (ho2 k h2)
    · rw [Array.getElem?_eq_none (by omega), Array.getElem?_eq_none (by omega)]
  · exact h.hb.trans ((e2.below h.hb.size (Nat.le_refl _)).trans (e1.below (by have := h.hb.size; omega) (by omega)))
/-- What the region leaves in which datum.Read takes a datum in. -/
def ReQ (w : World) (d : D) (s : ByteArray) (u18 u19 : Value) (e : Exit) (a' : Act) (w' : World) : Prop :=
  e = .normal ∧ Both (Rst w d s) (Rr (w.heap.size + 1 + 1) s s.size) w' ∧ ∃ v20 v21 v22 v23 v24 v25 v26 : Value, a' = ⟨#[.string s, undef, .pointer (some ⟨w.heap.size, 0, none⟩), .pointer (some ⟨w.heap.size + 1, 0, none⟩), .pointer (some ⟨w.heap.size + 1 + 1, 0, none⟩), .func (.func 36) #[] #[.pointer (some ⟨w.heap.size, 0, none⟩), .pointer (some ⟨w.heap.size + 1, 0, none⟩)], .string s, .agg #[.string s, .int .i64 0], .pointer (some ⟨w.heap.size + 1 + 1, 0, none⟩), .pointer (some ⟨w.heap.size + 1 + 1, 0, none⟩), .tuple #[], .pointer (some ⟨w.heap.size + 1 + 1, 0, none⟩), .pointer (some ⟨w.heap.size + 1 + 1, 0, none⟩), .pointer (some ⟨w.heap.size + 1 + 1, 1, none⟩), .int .i64 0, .string s, .int .i64 s.size, .bool true, u18, u19, v20, v21, v22, v23, v24, v25, v26, undef], [{ target := .fn (.func 36) #[.pointer (some ⟨w.heap.size, 0, none⟩), .pointer (some ⟨w.heap.size + 1, 0, none⟩)], args := #[] }]⟩
theorem ReQ.mk_ {w : World} {d : D} {s : ByteArray} {u18 u19 v20 v21 v22 v23 v24 v25 v26 : Value} {X : World} (h : Both (Rst w d s) (Rr (w.heap.size + 1 + 1) s s.size) X) : NoPanic (ReQ w d s u18 u19) .normal ⟨#[.string s, undef, .pointer (some ⟨w.heap.size, 0, none⟩), .pointer (some ⟨w.heap.size + 1, 0, none⟩), .pointer (some ⟨w.heap.size + 1 + 1, 0, none⟩), .func (.func 36) #[] #[.pointer (some ⟨w.heap.size, 0, none⟩), .pointer (some ⟨w.heap.size + 1, 0, none⟩)], .string s, .agg #[.string s, .int .i64 0], .pointer (some ⟨w.heap.size + 1 + 1, 0, none⟩), .pointer (some ⟨w.heap.size + 1 + 1, 0, none⟩), .tuple #[], .pointer (some ⟨w.heap.size + 1 + 1, 0, none⟩), .pointer (some ⟨w.heap.size + 1 + 1, 0, none⟩), .pointer (some ⟨w.heap.size + 1 + 1, 1, none⟩), .int .i64 0, .string s, .int .i64 s.size, .bool true, u18, u19, v20, v21, v22, v23, v24, v25, v26, undef], [{ target := .fn (.func 36) #[.pointer (some ⟨w.heap.size, 0, none⟩), .pointer (some ⟨w.heap.size + 1, 0, none⟩)], args := #[] }]⟩ X :=
  NoPanic.normal ⟨rfl, h, v20, v21, v22, v23, v24, v25, v26, rfl⟩
set_option maxHeartbeats 2000000 in
set_option maxRecDepth 100000 in
theorem read_any (d : D) (s : ByteArray) (w : World) (hd : d.right 64 = true) (hsm : D.Small 1048576 d) (ht : s.toList = printD d) (hs : s.size ≤ 100000000) :
    Calls Tryd.prog 15 #[.string s] w fun e w' => RePost d w e w' := by
  have hmf : ∀ (fn : Fn) (first cap : Array Value) (w : World), (Instr.makeFunc fn first cap).run Tryd.prog w = .ok (.func fn first cap) w := fun _ _ _ _ => rfl
  have hx : Here s 0 (printD d ++ []) := ⟨Nat.zero_le _, by rw [List.drop_zero, List.append_nil]; exact ht⟩
  have hdt : d.text.size ≤ 100000000 := by
    have := hsm; cases d with
    | mk a1 a2 a3 a4 => have := this.parts.1; simp only [D.text]; omega
  obtain ⟨c, r', hc, n1, n2, n3, n4, n5, _, _⟩ := head_of 64 d hd hdt
  have hpos : 0 < s.size := by have := hx; rw [hc] at this; exact (Here.cons this).1
  have hlen : (printD d).length = s.size := by rw [← ht, toList_len]
  have HSK := Lib.hid (fun y (h : Rr (w.heap.size + 1 + 1) s 0 y) => skip_any (w.heap.size + 1 + 1) s 0 0 y h hs (by have := hx; rw [hc] at this; exact blanks0 this n1 n2 n3 n4 n5))
  have HSE := Lib.hid (fun y (h : Rr (w.heap.size + 1 + 1) s s.size y) => skip_any (w.heap.size + 1 + 1) s s.size s.size y h hs (blanksE s))
  have HDD := Lib.hid (fun y (h : Rr (w.heap.size + 1 + 1) s 0 y) => by have := rdatum_any 64 (Nat.le_refl _) d (w.heap.size + 1 + 1) s 0 [] 0 y hd hsm h hs hx (.inl rfl) (by omega) (by omega); rw [hlen, Nat.zero_add] at this; exact this)
  obtain ⟨W0, hW0⟩ : ∃ W0, W0 = ((w.alloc (.cells #[.slice none 0 0] 23)).alloc (.cells #[.nilIface] 41)).alloc (.cells #[.string s, .int .i64 0] 69) := ⟨_, rfl⟩
  have HW0 := Lib.hid hW0
  have hb1 := (Below.refl w.heap.size w).alloc (Nat.le_refl _) (.cells #[.slice none 0 0] 23)
  have hb2 := hb1.alloc (by simp) (.cells #[.nilIface] 41)
  have hb3 := hb2.alloc (by simp; omega) (.cells #[.string s, .int .i64 0] 69)
  have hrr : Rr (w.heap.size + 1 + 1) s 0 W0 := by
    rw [hW0]
    have := heap_alloc_new ((w.alloc (.cells #[.slice none 0 0] 23)).alloc (.cells #[.nilIface] 41)) (.cells #[.string s, .int .i64 0] 69)
    have e : ((w.alloc (.cells #[.slice none 0 0] 23)).alloc (.cells #[.nilIface] 41)).heap.size = w.heap.size + 1 + 1 := by simp
    rw [e] at this; exact this
  have HRR := Lib.hid hrr
  have HR0 := Lib.hid (show Rst w d s W0 from by
    rw [hW0] at hrr ⊢
    refine .start hrr ?_ ?_ hb3
    · have := heap_alloc_new w (.cells #[.slice none 0 0] 23)
      exact ((((Below.refl _ (w.alloc (.cells #[.slice none 0 0] 23))).alloc (Nat.le_refl _) (.cells #[.nilIface] 41)).alloc (by simp) (.cells #[.string s, .int .i64 0] 69)).block _ (by simp)).trans this
    · have := heap_alloc_new (w.alloc (.cells #[.slice none 0 0] 23)) (.cells #[.nilIface] 41)
      have e : (w.alloc (.cells #[.slice none 0 0] 23)).heap.size = w.heap.size + 1 := by simp
      rw [e] at this
      have h2 := (((Below.refl _ ((w.alloc (.cells #[.slice none 0 0] 23)).alloc (.cells #[.nilIface] 41))).alloc (Nat.le_refl _) (.cells #[.string s, .int .i64 0] 69)).block (w.heap.size + 1) (by simp)).trans this
      exact h2)
  clear hrr hx hc hdt n1 n2 n3 n4 n5 hlen hd hsm ht hW0 hb1 hb2 hb3
  go_enter_defers Tryd.func15, Tryd.ntmps15
  go_wp2_with fail
  rw [← HW0.out]
  refine (HSK.out _ HRR.out).mono ?_
  rintro e w1 ⟨rfl, hr1, he1⟩
  have HR1 := Lib.hid (HR0.out.eb he1 HRR.out hr1 rfl)
  clear hr1 he1
  go_wp2_with fail
  go_loopw [18] (fun _ wr => Hid (Rst w d s wr)) (fun _ wr => s.size - posOf (w.heap.size + 1 + 1) wr)
  case atStart => exact HR1
  case round =>
    rcases hrel.out with ⟨rr, hl, he, hb⟩ | ⟨A, c, rr, hl, hd, he, hb⟩
    · have HPOS := Lib.hid rr.pos
      have HRR := Lib.hid rr
      obtain ⟨f0, f1, f2, f3⟩ := rr.cells
      replace f1 : wr.cell? ⟨w.heap.size + 1 + 1, 1, none⟩ = some (.int .i64 0) := f1
      have cl := cell_of_row wr _ 0 _ _ _ hl
      have zl := frozen_of_row wr _ 0 _ _ hl
      have hpi : (0 : Int) < (s.size : Int) := by omega
      have HL := Lib.hid hl
      have HE := Lib.hid he
      have HB := Lib.hid hb
      have HF := Lib.hid (show Fore w wr.drew from ⟨hl, he, hb.trans (below_drew _ _), f3⟩)
      have HF' := Lib.hid (show Fore w wr from ⟨hl, he, hb, f3⟩)
      have HRD := Lib.hid (show Rr (w.heap.size + 1 + 1) s 0 wr.drew from rr)
      have HRA := Lib.hid (fun o => (show Rr (w.heap.size + 1 + 1) s 0 (wr.alloc o).drew from (rr.below ((Below.refl wr.heap.size wr).alloc (Nat.le_refl _) o) : Rr (w.heap.size + 1 + 1) s 0 (wr.alloc o))))
      have hzw : w.heap.size < wr.heap.size := by omega
      have hca : ∀ o, (wr.alloc o).cell? ⟨w.heap.size, 0, none⟩ = some (.slice none 0 0) := fun o => cell_below ((Below.refl wr.heap.size wr).alloc (Nat.le_refl _) o) cl
      clear rr hl he hb
      go_upto_region 6 with fail
      refine Code.wp_mono (Q := ReQ w d s u18 u19) ?himp ?hreg
      case hreg =>
       refine wp_region_noPanic ?_
       go_region_law (first
        | (refine step_zero rfl (.tmp 20) (.tmp 24) rfl _ rfl rfl (heap_alloc_new w4 _) ?_; intro g cap y hown hgr hge hgl
           have HAH := Lib.hid (Ahead.of HA4.out ((Below.refl w4.heap.size w4).alloc (Nat.le_refl _) _) hgr hge hown)
           obtain ⟨k0, k1, k2, k3, z0, z1, z2, z3⟩ := own1_cells hown
           obtain ⟨cl', zl', hRl, hgR⟩ := HAH.out.cells
           clear hown hgr hge)
        | (refine step_zero rfl (.tmp 20) (.tmp 24) rfl _ rfl rfl HG4.out ?_; intro g cap y hown hgr hge hgl
           have HAH := Lib.hid (Ahead.of HA4.out (Below.refl _ _) hgr hge hown)
           obtain ⟨k0, k1, k2, k3, z0, z1, z2, z3⟩ := own1_cells hown
           obtain ⟨cl', zl', hRl, hgR⟩ := HAH.out.cells
           clear hown hgr hge)
        | (go_simp; go_at_call 38; refine (HDD.out _ HRD.out).mono ?_; rintro e w4 ⟨c0, c1, c2, c3, rfl, hd, hr4, he4⟩
           obtain ⟨X2, m2, X3, m3, rfl, rfl, rfl, rfl⟩ := hd.form
           have HA4 := Lib.hid (After.of HF.out hd hr4 he4)
           obtain ⟨cl4, hz4⟩ := HA4.out.cells
           clear hd hr4 he4)
        | (go_simp; go_at_call 38; refine (HDD.out _ (HRA.out _)).mono ?_; rintro e w4 ⟨c0, c1, c2, c3, rfl, hd, hr4, he4⟩
           obtain ⟨X2, m2, X3, m3, rfl, rfl, rfl, rfl⟩ := hd.form
           have HA4 := Lib.hid (After.of (HF'.out.alloc _) hd hr4 he4)
           obtain ⟨cl4, hz4⟩ := HA4.out.cells
           have HG4 := Lib.hid (after_zero _ HF'.out he4)
           clear hd hr4 he4))
       all_goals first | with_reducible exact ReQ.mk_ (Rst.fin HAH.out) | with_reducible exact ReQ.mk_ (Rst.fin2 HAH.out)
      case himp =>
       rintro e a' wc ⟨rfl, hcut', v20, v21, v22, v23, v24, v25, v26, rfl⟩
       have hcut := Lib.hid hcut'
       clear hcut'
       clear cl zl hca
       go_wp2_with fail
       refine (HSE.out _ hcut.out.2).mono ?_
       rintro e w5 ⟨rfl, hr5, he5⟩
       have HR5 := Lib.hid hr5
       have HX5 := Lib.hid (hcut.out.1.eb he5 hcut.out.2 hr5 rfl)
       clear hr5 he5
       go_wp2_with fail
       refine ⟨?_, by rw [HPOS.out, HR5.out.pos]; omega⟩
       repeat apply Exists.intro
       exact ⟨HX5, rfl⟩
    · obtain ⟨f0, f1, f2, f3⟩ := rr.cells
      have cl := cell_of_row wr _ 0 _ _ _ hl
      have zl := frozen_of_row wr _ 0 _ _ hl
      have ce := cell_of_row wr _ 0 _ _ _ he
      have ze := frozen_of_row wr _ 0 _ _ he
      have hpi : decide (s.size < s.size) = false := by simp
      have HD := Lib.hid hd
      have HL := Lib.hid hl
      have HE := Lib.hid he
      have HB := Lib.hid hb
      clear rr hl he hb hd
      go_wp2_with fail
      refine leaves_cons (f := 36) (args := #[.pointer (some ⟨w.heap.size, 0, none⟩), .pointer (some ⟨w.heap.size + 1, 0, none⟩)]) (by simp) (by simp [go_sem]) ?_
      refine (catch_idle _ _ _).mono ?_
      rintro e u' w'' ⟨rfl, rfl, rfl⟩
      have d0 : ((wr.setCell ⟨w.heap.size, 0, none⟩ (.slice A 1 c)).setCell ⟨w.heap.size + 1, 0, none⟩ .nilIface).cell? ⟨w.heap.size, 0, none⟩ = some (.slice A 1 c) := by go_simp
      have d1 : ((wr.setCell ⟨w.heap.size, 0, none⟩ (.slice A 1 c)).setCell ⟨w.heap.size + 1, 0, none⟩ .nilIface).cell? ⟨w.heap.size + 1, 0, none⟩ = some .nilIface := by go_simp
      simp [Leaves, settle, results, Tryd.results15, go_sem, d0, d1]
      refine ⟨A, c, rfl, (HD.out.frame (Q := fun _ => True) fun k hk hks => ⟨trivial, ?_⟩).isL, ?_⟩
      · exact (heap_setCell_other _ _ _ _ (by intro e; simp only at e; omega)).trans (heap_setCell_other _ _ _ _ (by intro e; simp only at e; omega))
      · have hz := HB.out.size
        exact HB.out.trans (((Eb.setAt w.heap.size 0 wr _).below hz (Nat.le_refl _)).trans ((Eb.setAt (w.heap.size + 1) 0 _ _).below (by simp; exact hz) (Nat.le_succ _)))
end Go.Proofs.YtcpicndapmaiaaaDoor
