/- A code, opened. -/
import Derived.Test.YtcpicndapmaiaaaDoorOpen
namespace Go.Proofs.YtcpicndapmaiaaaDoor
open Go Go.RowKit Go.ChangeShapes Go.WideShapes Go.Deep
theorem flat_bulk {H α : Type} (g : α → List UInt8) (c : Nat) : ∀ (l : List α) (f : Nat → DataW H), (∀ i (hi : i < l.length), (g l[i]).length ≤ c * Rows.uptoBulk (f i)) → (l.flatMap g).length ≤ c * Rows.uptoBulkAll ((List.range l.length).map f)
  | [], _, _ => by simp
  | d :: ds, f, h => by
    have h0 := h 0 (by simp)
    have h1 := flat_bulk g c ds (fun i => f (i + 1)) (fun i hi => h (i + 1) (by simpa using hi))
    rw [List.length_cons, List.range_succ_eq_map]
    simp only [List.map_cons, List.map_map, Rows.uptoBulkAll, List.flatMap_cons, List.length_append]
    simp only [List.getElem_cons_zero] at h0
    have h2 : (List.map (f ∘ Nat.succ) (List.range ds.length)) = (List.map (fun i => f (i + 1)) (List.range ds.length)) := rfl
    rw [h2, Nat.mul_add]
    omega
theorem open_ins {H : Type} {enc : TypeId × Value → H} {w : World} {spare : Nat → Bool} {held : Bool} {fuel : Nat} {cs : List Value} {x : DataW H × List MemPlace}
    (h : DataW.trod enc Tryd.prog w 0 spare held fuel 22 cs = some x) :
    ∃ l A c, cs = [.slice A l.length c] ∧ IsI w A l ∧ l.length ≤ Rows.uptoBulk x.1 := by
  rcases open_slice Tryd.underlying22 h with ⟨rfl, rfl⟩ | ⟨a, len, cap, m, n, Df, Pl, rfl, hb, hl, hm, hmm, rfl, hx⟩
  · exact ⟨[], none, 0, rfl, fun i hi => absurd hi (Nat.not_lt_zero i), by simp⟩
  · have hlm : len ≤ m := by rw [hmm]; split <;> omega
    simp only [Rows.uptoBulk]
    obtain ⟨l, hll, hp⟩ := exists_list (α := Ins) (p := fun i x => w.cells? 0 (a.add (i * 3)) 3 = some [.int .i64 x.op, .int .i64 x.a, .int .i64 x.b]) len (fun i hi => by
      obtain ⟨cs', h1, h2⟩ := hx i (by omega)
      rw [show Tryd.prog.cellsOf 49 = 3 from by kernel_rfl] at h1
      obtain ⟨y0, y1, y2, n', hx, hl', k0, k1, k2⟩ := trod_struct3 Tryd.underlying49 h2
      rw [show Tryd.prog.cellsOf 49 = 3 from by kernel_rfl] at hl'
      obtain ⟨c0, c1, c2, rfl⟩ := list3 cs' hl'
      rw [show Tryd.prog.cellsOf 3 = 1 from by kernel_rfl] at k0 k1 k2
      obtain ⟨z0, e0, _⟩ := DataW.trod_int Tryd.underlying3 k0
      obtain ⟨z1, e1, _⟩ := DataW.trod_int Tryd.underlying3 k1
      obtain ⟨z2, e2, _⟩ := DataW.trod_int Tryd.underlying3 k2
      simp at e0 e1 e2
      subst e0 e1 e2
      exact ⟨⟨z0, z1, z2⟩, h1⟩)
    subst hll
    refine ⟨l, some a, cap, rfl, ?_, ?_⟩
    · intro i hi
      obtain ⟨_, _, hc⟩ := World.cells?_some (hp i hi)
      exact ⟨a, rfl, hc 0 (by omega), hc 1 (by omega), hc 2 (by omega)⟩
    · have := bulks.length_le ((List.range l.length).map Df); simp at this; omega
theorem open_names {H : Type} {enc : TypeId × Value → H} {w : World} {spare : Nat → Bool} {held : Bool} {fuel : Nat} {cs : List Value} {x : DataW H × List MemPlace}
    (h : DataW.trod enc Tryd.prog w 0 spare held fuel 24 cs = some x) :
    ∃ l A c, cs = [.slice A l.length c] ∧ IsS w A l ∧ l.length ≤ Rows.uptoBulk x.1 ∧ (∀ s, s ∈ l → s.size ≤ Rows.uptoBulk x.1) ∧ (l.flatMap textB).length ≤ 10 * Rows.uptoBulk x.1 := by
  rcases open_strs Tryd.underlying24 Tryd.underlying9 (by kernel_rfl) h with ⟨rfl, rfl⟩ | ⟨a, len, cap, m, Sx, rfl, hb, hl, hm, hmm, rfl, hx⟩
  · exact ⟨[], none, 0, rfl, fun i hi => absurd hi (Nat.not_lt_zero i), by simp, by simp, by simp⟩
  · have hlm : len ≤ m := by rw [hmm]; split <;> omega
    simp only [Rows.uptoBulk]
    have hbk : ∀ i, Rows.uptoBulk (DataW.lit (H := H) (.string (Sx i).data.toList)) = (Sx i).size + 1 := fun i => by rw [bulks.string_eq]; simp
    obtain ⟨l, hll, hp⟩ := exists_list (α := ByteArray) (p := fun i x => x = Sx i) len (fun i _ => ⟨Sx i, rfl⟩)
    subst hll
    have hle := bulks.length_le ((List.range l.length).map fun i => DataW.lit (H := H) (.string (Sx i).data.toList))
    simp only [List.length_map, List.length_range] at hle
    have hmax : ∀ i, i < l.length → (Sx i).size + 1 ≤ Rows.uptoBulkAll ((List.range l.length).map fun i => DataW.lit (H := H) (.string (Sx i).data.toList)) := fun i hi => by
      have := bulk_map (fun i => DataW.lit (H := H) (.string (Sx i).data.toList)) l.length i hi
      rw [hbk] at this; exact this
    refine ⟨l, some a, cap, rfl, ?_, by omega, ?_, ?_⟩
    · intro i hi
      rw [hp i hi]
      exact ⟨a, rfl, (hx i (by omega)).1⟩
    · intro s hs
      obtain ⟨i, hi, rfl⟩ := List.getElem_of_mem hs
      rw [hp i hi]; have := hmax i hi; omega
    · have := flat_bulk textB 10 l (fun i => DataW.lit (H := H) (.string (Sx i).data.toList)) (fun i hi => by
        rw [hp i hi, hbk]
        have h1 := (hx i (by omega)).2
        have h2 := putB_len 9 (Sx i).size (Nat.lt_of_le_of_lt h1 (by decide))
        unfold textB; rw [List.length_append, toList_len]; omega)
      omega
theorem bndB_op (op : Int) (h : 0 < bndB op) : 1 ≤ op ∧ op ≤ 14 := by
  unfold bndB at h; split at h
  · omega
  · split at h
    · omega
    · split at h
      · assumption
      · omega
theorem bnd_le (op : Int) : bndB op ≤ 34 := by unfold bndB; split <;> (try split) <;> (try split) <;> omega
theorem bndA_le (n1 n2 n3 : Int) (op : Int) (h1 : n1 ≤ 1048576) (h2 : n2 ≤ 1048576) (h3 : n3 ≤ 1048576) : bndA n1 n2 n3 op ≤ 1048576 := by
  unfold bndA; repeat (first | omega | split)
theorem ins_fit (c : Cod) (hs : c.Small) (hk : c.ok = true) : ∀ x, x ∈ c.ins → 0 ≤ x.op ∧ x.op ≤ 4611686018427387904 ∧ 0 ≤ x.a ∧ x.a ≤ 4611686018427387904 ∧ 0 ≤ x.b ∧ x.b ≤ 4611686018427387904 := by
  intro x hx
  unfold Cod.ok at hk
  simp only [Bool.and_eq_true] at hk
  have h := List.all_eq_true.1 hk.1.2 x hx
  unfold insB at h
  simp only [Bool.and_eq_true, decide_eq_true_eq] at h
  obtain ⟨⟨⟨h1, h2⟩, h3⟩, h4⟩ := h
  have h5 := bndB_op x.op (by omega)
  have h6 := bnd_le x.op
  have h7 := bndA_le c.ins.length c.consts.length c.names.length x.op (by have := hs.ins; omega) (by have := hs.consts; omega) (by have := hs.names; omega)
  omega
theorem encI_len (x : Ins) (h : 0 ≤ x.op ∧ x.op ≤ 4611686018427387904 ∧ 0 ≤ x.a ∧ x.a ≤ 4611686018427387904 ∧ 0 ≤ x.b ∧ x.b ≤ 4611686018427387904) : (encI x).length ≤ 27 := by
  obtain ⟨h1, h2, h3, h4, h5, h6⟩ := h
  have k1 := putB_len9 x.op.toNat (by omega)
  have k2 := putB_len9 x.a.toNat (by omega)
  have k3 := putB_len9 x.b.toNat (by omega)
  unfold encI nsI
  simp only [List.flatMap_cons, List.flatMap_nil, List.append_nil, List.length_append]; omega
theorem flat_len_le {α : Type} (g : α → List UInt8) (c : Nat) : ∀ (l : List α), (∀ x, x ∈ l → (g x).length ≤ c) → (l.flatMap g).length ≤ c * l.length
  | [], _ => by simp
  | x :: l, h => by
    have h1 := h x (by simp)
    have h2 := flat_len_le g c l (fun y hy => h y (by simp [hy]))
    simp only [List.flatMap_cons, List.length_append, List.length_cons, Nat.mul_add]; omega
theorem encK_len (d : D) (n : Nat) (h : (printD d).length ≤ n) (hn : n ≤ 4611686018427387904) : (encK d).length ≤ 9 + n := by
  have h1 : (printOr d).length ≤ n := by
    unfold printOr; split
    · exact h
    · exact Nat.zero_le _
  have h2 := putB_len9 (printOr d).length (by omega)
  unfold encK textL; rw [List.length_append]; omega
theorem prL_flat (l : List D) : (l.flatMap fun d => printD d).length ≤ (prL l false).length := by
  induction l with
  | nil => simp
  | cons d l ih => simp only [prL, List.flatMap_cons, List.length_append, Bool.false_eq_true, if_false, List.length_cons, List.length_nil]; omega
theorem encK_flat (l : List D) (h : ∀ d, d ∈ l → (printD d).length ≤ 4611686018427387904) : (l.flatMap encK).length ≤ 9 * l.length + (l.flatMap fun d => printD d).length := by
  induction l with
  | nil => simp
  | cons d l ih =>
    have h1 := encK_len d (printD d).length (Nat.le_refl _) (h d (by simp))
    have h2 := ih (fun e he => h e (by simp [he]))
    simp only [List.flatMap_cons, List.length_append, List.length_cons]; omega
set_option maxRecDepth 100000 in
/-- THE ARGUMENT OPENED: a code in memory, small, and with an encoding that fits. -/
theorem open_code {H : Type} {enc : TypeId × Value → H} {w : World} {r : Reach} {base : Nat} {spare : Nat → Bool} {held : Bool} {v : Value} {d : DataW H} {p : List MemPlace} (hv : Value.okWide Tryd.prog w r base 26 v) (h : DataW.Trod enc Tryd.prog w 0 spare held 26 v d p) (hb : Rows.uptoBulk d ≤ 1048576) :
    ∃ c A1 A2 A3 m1 m2 m3, v = .agg #[.slice A1 c.ins.length m1, .slice A2 c.consts.length m2, .slice A3 c.names.length m3] ∧ IsC w c A1 A2 A3 ∧ c.Small ∧ (c.ok = true → c.Fits) := by
  obtain ⟨v0, v1, v2, y0, y1, y2, n, rfl, rfl, rfl, h0, h1, h2⟩ := Joins.open_agg3 Tryd.underlying26 (by kernel_rfl) (by kernel_rfl) hv h
  simp only [Rows.uptoBulk, Rows.uptoBulkAll] at hb
  obtain ⟨l1, A1, m1, e1, i1, b1⟩ := open_ins h0
  obtain ⟨l2, A2, m2, e2, _, i2, b2, s2, p2, _, q2⟩ := open_list (open_datum H enc w spare held 1048576) (by omega) h1
  obtain ⟨l3, A3, m3, e3, i3, b3, s3, f3⟩ := open_names h2
  simp at e1 e2 e3
  subst e1 e2 e3
  have hs : Cod.Small ⟨l1, l2, l3⟩ := ⟨by dsimp only; omega, by dsimp only; omega, by dsimp only; omega, fun d hd => s2 d hd _ (by omega), fun s hs => by have := s3 s hs; omega⟩
  refine ⟨⟨l1, l2, l3⟩, A1, A2, A3, m1, m2, m3, rfl, ⟨i1, i2, i3⟩, hs, fun hk => ⟨hs, ?_, fun d hd => by have := q2 d hd; omega, ins_fit _ hs hk⟩⟩
  have hi := ins_fit _ hs hk
  have k1 := flat_len_le encI 27 l1 (fun x hx => encI_len x (hi x hx))
  have k2 := encK_flat l2 (fun d hd => by have := q2 d hd; omega)
  have k3 := prL_flat l2
  have k4 := p2 false
  have k5 := putB_len9 l1.length (by omega)
  have k6 := putB_len9 l2.length (by omega)
  have k7 := putB_len9 l3.length (by omega)
  unfold encB
  simp only [List.length_append]
  omega
end Go.Proofs.YtcpicndapmaiaaaDoor
