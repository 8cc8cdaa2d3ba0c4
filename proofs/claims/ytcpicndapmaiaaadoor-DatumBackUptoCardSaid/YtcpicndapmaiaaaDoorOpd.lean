/- The argument's reading, opened: a datum in memory; how long its text can be. -/
import Derived.Test.YtcpicndapmaiaaaDoorPrc
import Derived.Test.YtcpicndapmaiaaaDoorBulk
import Derived.Lib.SmallJoins
import Derived.Deep.Strs
namespace Go.Proofs.YtcpicndapmaiaaaDoor
open Go Go.RowKit Go.ChangeShapes Go.WideShapes Go.Deep
theorem exists_list {α : Type} {p : Nat → α → Prop} : ∀ (n : Nat), (∀ i, i < n → ∃ x, p i x) → ∃ l : List α, l.length = n ∧ ∀ i (hi : i < l.length), p i l[i]
  | 0, _ => ⟨[], rfl, fun i hi => absurd hi (Nat.not_lt_zero i)⟩
  | n + 1, h => by
    obtain ⟨l, hl, hp⟩ := exists_list n (fun i hi => h i (by omega))
    obtain ⟨x, hx⟩ := h n (by omega)
    refine ⟨l ++ [x], by simp [hl], fun i hi => ?_⟩
    by_cases hin : i < l.length
    · rw [List.getElem_append_left hin]; exact hp i hin
    · have : i = n := by simp at hi; omega
      subst this
      rw [List.getElem_append_right (by omega)]
      simpa using hx
/-- A row of data, each of which is what it should be at its own weight. -/
theorem bulk_map {H : Type} (f : Nat → DataW H) (n i : Nat) (hi : i < n) : Rows.uptoBulk (f i) ≤ Rows.uptoBulkAll ((List.range n).map f) :=
  bulks.part_le (List.mem_map.2 ⟨i, List.mem_range.2 hi, rfl⟩)
theorem prL_bulk {H : Type} : ∀ (l : List D) (f : Nat → DataW H) (b : Bool), (∀ i (hi : i < l.length), (printD l[i]).length + 3 ≤ 8 * Rows.uptoBulk (f i)) → (prL l b).length ≤ 8 * Rows.uptoBulkAll ((List.range l.length).map f)
  | [], _, _, _ => by simp [prL]
  | d :: ds, f, b, h => by
    have h0 := h 0 (by simp)
    have h1 := prL_bulk ds (fun i => f (i + 1)) false (fun i hi => h (i + 1) (by simpa using hi))
    rw [List.length_cons, List.range_succ_eq_map]
    simp only [List.map_cons, List.map_map, Rows.uptoBulkAll, prL, List.length_append]
    simp only [List.getElem_cons_zero] at h0
    have h2 : (List.map (f ∘ Nat.succ) (List.range ds.length)) = (List.map (fun i => f (i + 1)) (List.range ds.length)) := rfl
    rw [h2]
    have h3 : (if b = true then ([] : List UInt8) else [32]).length ≤ 1 := by cases b <;> simp
    omega
theorem prT_bulk {H : Type} : ∀ (l : List D) (f : Nat → DataW H), (∀ i (hi : i < l.length), (printD l[i]).length + 3 ≤ 8 * Rows.uptoBulk (f i)) → (prT l).length ≤ 8 * Rows.uptoBulkAll ((List.range l.length).map f)
  | [], _, _ => by simp [prT]
  | d :: ds, f, h => by
    have h0 := h 0 (by simp)
    have h1 := prT_bulk ds (fun i => f (i + 1)) (fun i hi => h (i + 1) (by simpa using hi))
    rw [List.length_cons, List.range_succ_eq_map]
    simp only [List.map_cons, List.map_map, Rows.uptoBulkAll, prT, List.length_append, List.length_cons, List.length_nil]
    simp only [List.getElem_cons_zero] at h0
    have h2 : (List.map (f ∘ Nat.succ) (List.range ds.length)) = (List.map (fun i => f (i + 1)) (List.range ds.length)) := rfl
    rw [h2]
    omega
theorem printD_mk_len (k : Int) (s : ByteArray) (l t : List D) : (printD (.mk k s l t)).length ≤ 3 + 2 * s.size + (prL l true).length + (prT t).length := by
  unfold printD
  have h1 := flat_len s.toList
  have h2 := toList_len s
  split
  · unfold esc; simp only [List.length_cons, List.length_append, List.length_nil]; omega
  · split
    · simp only [List.length_cons, List.length_append, List.length_nil]; omega
    · split
      · simp only [List.length_cons, List.length_append, List.length_nil]; omega
      · omega
theorem list4 {α : Type} (cs : List α) (h : cs.length = 4) : ∃ c0 c1 c2 c3, cs = [c0, c1, c2, c3] := by
  rcases cs with _ | ⟨a, _ | ⟨b, _ | ⟨c, _ | ⟨d, _ | ⟨e, r⟩⟩⟩⟩⟩ <;> simp at h
  exact ⟨_, _, _, _, rfl⟩
def DatumAt (H : Type) (enc : TypeId × Value → H) (w : World) (spare : Nat → Bool) (held : Bool) (N : Nat) : Prop := ∀ (d0 : DataW H) (fuel : Nat) (cs : List Value) (ps : List MemPlace), Rows.uptoBulk d0 ≤ N →
  DataW.trod enc Tryd.prog w 0 spare held fuel 37 cs = some (d0, ps) → ∃ d c0 c1 c2 c3, cs = [c0, c1, c2, c3] ∧ IsD w d c0 c1 c2 c3 ∧ (∀ M, Rows.uptoBulk d0 ≤ M → D.Small M d) ∧ (printD d).length + 3 ≤ 8 * Rows.uptoBulk d0
theorem open_list {H : Type} {enc : TypeId × Value → H} {w : World} {spare : Nat → Bool} {held : Bool} {N : Nat} (ih : DatumAt H enc w spare held N) {fuel : Nat} {cs : List Value} {x : DataW H × List MemPlace} (hN : Rows.uptoBulk x.1 ≤ N + 1)
    (h : DataW.trod enc Tryd.prog w 0 spare held fuel 23 cs = some x) :
    ∃ l A c, cs = [.slice A l.length c] ∧ l.length ≤ c ∧ IsL w l A 0 ∧ l.length ≤ Rows.uptoBulk x.1 ∧ (∀ d, d ∈ l → ∀ M, Rows.uptoBulk x.1 ≤ M → D.Small M d) ∧ (∀ b, (prL l b).length ≤ 8 * Rows.uptoBulk x.1) ∧ (prT l).length ≤ 8 * Rows.uptoBulk x.1 ∧ (∀ d, d ∈ l → (printD d).length + 3 ≤ 8 * Rows.uptoBulk x.1) := by
  rcases open_slice Tryd.underlying23 h with ⟨rfl, rfl⟩ | ⟨a, len, cap, m, n, Df, Pl, rfl, hb, hl, hm, hmm, rfl, hx⟩
  · exact ⟨[], none, 0, rfl, Nat.le_refl _, by unfold IsL; trivial, by simp, by simp, by simp [prL], by simp [prT], by simp⟩
  · have hlm : len ≤ m := by rw [hmm]; split <;> omega
    simp only [Rows.uptoBulk] at hN ⊢
    obtain ⟨l, hll, hp⟩ := exists_list (α := D) (p := fun i d => (∃ c0 c1 c2 c3, w.cells? 0 (a.add (i * 4)) 4 = some [c0, c1, c2, c3] ∧ IsD w d c0 c1 c2 c3) ∧ (∀ M, Rows.uptoBulk (Df i) ≤ M → D.Small M d) ∧ (printD d).length + 3 ≤ 8 * Rows.uptoBulk (Df i)) len (fun i hi => by
      obtain ⟨cs', h1, h2⟩ := hx i (by omega)
      rw [show Tryd.prog.cellsOf 37 = 4 from by kernel_rfl] at h1
      have := bulk_map Df len i hi
      obtain ⟨d, c0, c1, c2, c3, rfl, g1, g2, g3⟩ := ih (Df i) n cs' _ (by omega) h2
      exact ⟨d, ⟨c0, c1, c2, c3, h1, g1⟩, g2, g3⟩)
    subst hll
    have hmem : ∀ d, d ∈ l → ∃ i, ∃ hi : i < l.length, l[i] = d := fun d hd => List.getElem_of_mem hd
    refine ⟨l, some a, cap, rfl, hl, ?_, ?_, ?_, ?_, ?_, ?_⟩
    · refine IsL.of_get fun i hi => ?_
      obtain ⟨⟨c0, c1, c2, c3, h1, h2⟩, _⟩ := hp i hi
      obtain ⟨_, _, hc⟩ := World.cells?_some h1
      rw [Nat.zero_add]
      exact ⟨a, c0, c1, c2, c3, rfl, hc 0 (by omega), hc 1 (by omega), hc 2 (by omega), hc 3 (by omega), h2⟩
    · have := bulks.length_le ((List.range l.length).map Df); simp at this; omega
    · intro d hd M hM
      obtain ⟨i, hi, rfl⟩ := hmem d hd
      exact (hp i hi).2.1 M (by have := bulk_map Df l.length i hi; omega)
    · intro b
      have := prL_bulk l Df b (fun i hi => (hp i hi).2.2)
      omega
    · have := prT_bulk l Df (fun i hi => (hp i hi).2.2)
      omega
    · intro d hd
      obtain ⟨i, hi, rfl⟩ := hmem d hd
      have := (hp i hi).2.2
      have := bulk_map Df l.length i hi
      omega
theorem open_datum (H : Type) (enc : TypeId × Value → H) (w : World) (spare : Nat → Bool) (held : Bool) : ∀ N, DatumAt H enc w spare held N := by
  intro N
  induction N with
  | zero => intro d0 fuel cs ps hN h; have := bulks.one_le d0; omega
  | succ N ih =>
    intro d0 fuel cs ps hN h
    obtain ⟨y0, y1, y2, y3, n, hx, hl, h0, h1, h2, h3⟩ := Joins.trod_struct4 Tryd.underlying37 h
    injection hx with hx1 hx2
    subst hx1
    rw [show Tryd.prog.cellsOf 37 = 4 from by kernel_rfl] at hl
    obtain ⟨c0, c1, c2, c3, rfl⟩ := list4 cs hl
    simp only [Rows.uptoBulk, Rows.uptoBulkAll] at hN ⊢
    rw [show Tryd.prog.cellsOf 3 = 1 from by kernel_rfl] at h0
    rw [show Tryd.prog.cellsOf 9 = 1 from by kernel_rfl] at h1
    rw [show Tryd.prog.cellsOf 23 = 1 from by kernel_rfl] at h2 h3
    obtain ⟨k, e0, rfl, _⟩ := DataW.trod_int Tryd.underlying3 h0
    obtain ⟨s, e1, rfl, _⟩ := DataW.trod_string Tryd.underlying9 h1
    obtain ⟨l, A2, n2, e2, g1, g2, g3, g4, g5, g6, _⟩ := open_list ih (by omega) h2
    obtain ⟨t, A3, n3, e3, k1, k2, k3, k4, k5, k6, _⟩ := open_list ih (by omega) h3
    simp at e0 e1 e2 e3
    subst e0 e1 e2 e3
    simp only [Rows.uptoBulk] at hN ⊢
    have hsz : s.data.toList.length = s.size := by simp
    rw [hsz] at hN ⊢
    refine ⟨.mk k s l t, _, _, _, _, rfl, ?_, ?_, ?_⟩
    · unfold IsD; exact ⟨rfl, rfl, ⟨A2, n2, rfl, g1, g2⟩, ⟨A3, n3, rfl, k1, k2⟩⟩
    · intro M hM
      exact .mk k s l t (by omega) (by omega) (by omega) (fun d hd => g4 d hd M (by omega)) (fun d hd => k4 d hd M (by omega))
    · have h1 := printD_mk_len k s l t
      have h2 := g5 true
      omega
set_option maxRecDepth 100000 in
/-- THE ARGUMENT OPENED: a datum in memory, small, and with a text that fits. -/
theorem open_dat {H : Type} {enc : TypeId × Value → H} {w : World} {r : Reach} {base : Nat} {spare : Nat → Bool} {held : Bool} {v : Value} {d0 : DataW H} {p : List MemPlace} (hv : Value.okWide Tryd.prog w r base 37 v) (h : DataW.Trod enc Tryd.prog w 0 spare held 37 v d0 p) (hb : Rows.uptoBulk d0 ≤ 1048576) :
    ∃ d c0 c1 c2 c3, v = .agg #[c0, c1, c2, c3] ∧ IsD w d c0 c1 c2 c3 ∧ D.Small 1048576 d ∧ (printD d).length ≤ 90000000 := by
  obtain ⟨v0, v1, v2, v3, y0, y1, y2, y3, n, rfl, rfl, rfl, h0, h1, h2, h3⟩ := Joins.open_agg4 Tryd.underlying37 (by kernel_rfl) (by kernel_rfl) hv h
  simp only [Rows.uptoBulk, Rows.uptoBulkAll] at hb
  obtain ⟨k, e0, rfl, _⟩ := DataW.trod_int Tryd.underlying3 h0
  obtain ⟨s, e1, rfl, _⟩ := DataW.trod_string Tryd.underlying9 h1
  obtain ⟨l, A2, n2, e2, g1, g2, g3, g4, g5, g6, _⟩ := open_list (open_datum H enc w spare held 1048576) (by omega) h2
  obtain ⟨t, A3, n3, e3, k1, k2, k3, k4, k5, k6, _⟩ := open_list (open_datum H enc w spare held 1048576) (by omega) h3
  simp at e0 e1 e2 e3
  subst e0 e1 e2 e3
  simp only [Rows.uptoBulk] at hb
  have hsz : s.data.toList.length = s.size := by simp
  rw [hsz] at hb
  refine ⟨.mk k s l t, _, _, _, _, rfl, ?_, ?_, ?_⟩
  · unfold IsD; exact ⟨rfl, rfl, ⟨A2, n2, rfl, g1, g2⟩, ⟨A3, n3, rfl, k1, k2⟩⟩
  · exact .mk k s l t (by omega) (by omega) (by omega) (fun d hd => g4 d hd _ (by omega)) (fun d hd => k4 d hd _ (by omega))
  · have h1 := printD_mk_len k s l t
    have h2 := g5 true
    omega
end Go.Proofs.YtcpicndapmaiaaaDoor
