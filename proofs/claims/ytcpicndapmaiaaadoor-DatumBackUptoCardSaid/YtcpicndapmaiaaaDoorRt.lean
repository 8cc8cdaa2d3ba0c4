/- The reader's text. -/
import Derived.Test.YtcpicndapmaiaaaDoorTl
import Derived.Test.YtcpicndapmaiaaaDoorWl
import Derived.IntWalk
namespace Go.Proofs.YtcpicndapmaiaaaDoor
open Go Go.RowKit
theorem quiet_add {P : Program} {f : FuncId} {args : Array Value} {w : World} {a n : Nat} {v : Value}
    (h : Calls P f args (w.drewN (a + n)) fun e w' => e = .returned v ∧ ∃ m, w' = (w.drewN (a + n)).drewN m) :
    Calls P f args (w.drewN (a + n)) fun e w'' => e = .returned v ∧ ∃ m, w'' = w.drewN (a + m) :=
  h.mono fun _ _ ⟨he, m, hm⟩ => ⟨he, n + m, by rw [hm, World.drewN_drewN, Nat.add_assoc]⟩
theorem quiet_add_same {P : Program} {f : FuncId} {args : Array Value} {w : World} {a n : Nat} {v : Value}
    (h : Calls P f args (w.drewN (a + n)) fun e w' => e = .returned v ∧ w' = w.drewN (a + n)) :
    Calls P f args (w.drewN (a + n)) fun e w'' => e = .returned v ∧ ∃ m, w'' = w.drewN (a + m) :=
  h.mono fun _ _ ⟨he, hm⟩ => ⟨he, n, hm⟩
theorem Bd.keep {B b : Nat} {l : List UInt8} {w w' : World} (h : Bd B b l w) (hk : ∀ k, B ≤ k → k < w.heap.size → w'.heap[k]? = w.heap[k]?) : Bd B b l w' := by
  have key : ∀ {p : Value}, Lib.BuilderAtF 59 5 B b p (bc l) w → Lib.BuilderAtF 59 5 B b p (bc l) w' := by
    rintro p ⟨hB, v, hv, hown, hne⟩
    have hlt := (Array.getElem?_eq_some_iff.1 hv).1
    refine ⟨hB, v, (hk b hB hlt).trans hv, ⟨hown.1, ?_⟩, hne⟩
    rcases hown.2 with hn | ⟨g, cap, cur, fz, rfl, hb, hgg, rest⟩
    · exact .inl hn
    · exact .inr ⟨g, cap, cur, fz, rfl, hb, (hk g hb (Array.getElem?_eq_some_iff.1 hgg).1).trans hgg, rest⟩
  exact h.elim (fun x => .inl (key x)) (fun x => .inr (key x))
/-- Where the reader of a text stands: the builder, the result's variable, the reader. -/
structure Tst (w0 : World) (b R : Nat) (s : ByteArray) (acc : List UInt8) (pos : Nat) (w : World) : Prop where
  rr : Rr b s pos w
  bd : Bd (R + 1) (R + 1) acc w
  res : w.heap[R]? = some (.cells #[.int .i64 0, .string ⟨#[]⟩, .slice none 0 0, .slice none 0 0] 37 (0, 0))
  eb : Eb b w0 w
  lt : b < R
  sz : R + 1 < w.heap.size
  r0 : w0.heap.size ≤ R
theorem Tst.drewN {w0 : World} {b R : Nat} {s : ByteArray} {acc : List UInt8} {pos : Nat} {w : World} (h : Tst w0 b R s acc pos w) (n : Nat) : Tst w0 b R s acc pos (w.drewN n) :=
  ⟨h.rr, h.bd.keep (fun _ _ _ => rfl), h.res, h.eb.trans (Eb.drewN _ _ _), h.lt, h.sz, h.r0⟩
theorem Tst.move {w0 : World} {b R : Nat} {s : ByteArray} {acc : List UInt8} {pos : Nat} {w : World} (h : Tst w0 b R s acc pos w) (q : Nat) : Tst w0 b R s acc q (w.setCell ⟨b, 1, none⟩ (.int .i64 q)) := by
  have hl := h.lt
  have ho : ∀ k, k ≠ b → (w.setCell ⟨b, 1, none⟩ (.int .i64 q)).heap[k]? = w.heap[k]? := fun k hk => heap_setCell_other _ _ _ _ (by rintro rfl; exact hk rfl)
  exact ⟨h.rr.move q, h.bd.keep (fun k hk _ => ho k (by omega)), (ho R (by omega)).trans h.res, h.eb.trans (Eb.set1 _ _ _), h.lt, by simpa using h.sz, h.r0⟩
theorem Tst.wrote {w0 : World} {b R : Nat} {s : ByteArray} {acc acc' : List UInt8} {pos : Nat} {w w' : World} (h : Tst w0 b R s acc pos w) (hb : Bd (R + 1) (R + 1) acc' w') (hk : Kp (R + 1) (R + 1) w w') : Tst w0 b R s acc' pos w' := by
  have hl := h.lt
  have hs := h.sz
  have ho : ∀ k, k < R + 1 → w'.heap[k]? = w.heap[k]? := fun k hk' => hk.below.block k hk'
  have hr := h.rr.cells.2.2.2
  have h0 := h.r0
  exact ⟨(ho b (by omega)).trans h.rr, hb, (ho R (by omega)).trans h.res, ⟨hk.below.os.trans h.eb.os, hk.below.tape.trans h.eb.tape, hk.below.output.trans h.eb.output, Nat.le_trans h.eb.size hk.size, fun i hi hn => (ho i (by omega)).trans (h.eb.block i hi hn)⟩, h.lt, Nat.lt_of_lt_of_le h.sz hk.size, h.r0⟩
theorem escB_cases (c : UInt8) : (c = 92 ∧ escB c = [92, 92]) ∨ (c = 34 ∧ escB c = [92, 34]) ∨ (c = 10 ∧ escB c = [92, 110]) ∨ (c = 9 ∧ escB c = [92, 116]) ∨ (c ≠ 92 ∧ c ≠ 34 ∧ escB c = [c]) := by
  by_cases h1 : c = 92
  · subst h1; exact .inl ⟨rfl, rfl⟩
  by_cases h2 : c = 34
  · subst h2; exact .inr (.inl ⟨rfl, rfl⟩)
  by_cases h3 : c = 10
  · subst h3; exact .inr (.inr (.inl ⟨rfl, rfl⟩))
  by_cases h4 : c = 9
  · subst h4; exact .inr (.inr (.inr (.inl ⟨rfl, rfl⟩)))
  · exact .inr (.inr (.inr (.inr ⟨h1, h2, by unfold escB; rw [if_neg (by simp [h1, h2]), if_neg h3, if_neg h4]⟩)))
theorem Tst.start {b : Nat} {s : ByteArray} {p : Nat} {w : World} (hr : Rr b s p w) (q : Nat) :
    Tst w b w.heap.size s [] q (((w.setCell ⟨b, 1, none⟩ (.int .i64 q)).alloc (.cells #[.int .i64 0, .string ⟨#[]⟩, .slice none 0 0, .slice none 0 0] 37)).alloc (.cells #[.pointer none, .slice none 0 0] 59)) := by
  have hlt := hr.cells.2.2.2
  obtain ⟨w1, hw1⟩ : ∃ w1, w.setCell ⟨b, 1, none⟩ (.int .i64 q) = w1 := ⟨_, rfl⟩
  have h1 : Rr b s q w1 := by rw [← hw1]; exact hr.move q
  have e1 : Eb b w w1 := by rw [← hw1]; exact Eb.set1 b w _
  have z1 : w1.heap.size = w.heap.size := by rw [← hw1]; simp
  rw [hw1]
  have hb2 := (Below.refl w1.heap.size w1).alloc (Nat.le_refl _) (.cells #[.int .i64 0, .string ⟨#[]⟩, .slice none 0 0, .slice none 0 0] 37)
  have hb3 := hb2.alloc (by simp) (.cells #[.pointer none, .slice none 0 0] 59)
  have z2 : (w1.alloc (.cells #[.int .i64 0, .string ⟨#[]⟩, .slice none 0 0, .slice none 0 0] 37)).heap.size = w.heap.size + 1 := by simp [z1]
  refine ⟨h1.below hb3, ?_, ?_, e1.trans (Eb.of hb3), hlt, by simp [z1], Nat.le_refl _⟩
  · have := Lib.IsBuilderF.of (Lib.fresh_isBuilder 59 5 (w1.alloc (.cells #[.int .i64 0, .string ⟨#[]⟩, .slice none 0 0, .slice none 0 0] 37)))
    rw [z2] at this
    exact this
  · have h2 := heap_alloc_new w1 (.cells #[.int .i64 0, .string ⟨#[]⟩, .slice none 0 0, .slice none 0 0] 37)
    rw [z1] at h2
    exact (((Below.refl _ (w1.alloc (.cells #[.int .i64 0, .string ⟨#[]⟩, .slice none 0 0, .slice none 0 0] 37))).alloc (Nat.le_refl _) (.cells #[.pointer none, .slice none 0 0] 59)).block _ (by rw [z2]; omega)).trans h2
set_option maxHeartbeats 2000000 in
set_option maxRecDepth 100000 in
theorem rtext_any (b : Nat) (s : ByteArray) (p : Nat) (x rest : List UInt8) (w : World) (hr : Rr b s p w) (hs : s.size ≤ 100000000) (hx : Here s p (esc x ++ rest)) :
    Calls Tryd.prog 55 #[.pointer (some ⟨b, 0, none⟩)] w fun e w' => e = .returned (.agg #[.int .i64 3, .string ⟨x.toArray⟩, .slice none 0 0, .slice none 0 0]) ∧ Rr b s (p + (esc x).length) w' ∧ Eb b w w' := by
  obtain ⟨h0, h1, h2, h3⟩ := hr.cells
  have HX := Lib.hid (show Here s (p + 1) (x.flatMap escB ++ 34 :: rest) from by
    have := (Here.cons (l := x.flatMap escB ++ [34] ++ rest) hx).2.2
    simpa using this)
  have hps := (Here.cons (l := x.flatMap escB ++ [34] ++ rest) hx).1
  have HST := Lib.hid (Tst.start hr (p + 1))
  rw [show ((p + 1 : Nat) : Int) = (p : Int) + 1 from by omega] at HST
  have HEND := Lib.hid (show ∀ pe, Here s pe (34 :: rest) → pe + 1 = p + (esc x).length from fun pe he => by
    have h1 := congrArg List.length he.eq
    have h2 := congrArg List.length hx.eq
    rw [List.length_drop, toList_len] at h1 h2
    have h3 := he.le
    have h4 := hx.le
    simp only [List.length_append, List.length_cons] at h1 h2
    omega)
  have HLX := Lib.hid (show x.length ≤ 100000000 from by
    have h2 := congrArg List.length hx.eq
    rw [List.length_drop, toList_len] at h2
    have h3 : x.length ≤ (x.flatMap escB).length := by
      clear hx h2 HX HEND
      induction x with
      | nil => simp
      | cons a r ih => have := (escB_len a).2; simp only [List.flatMap_cons, List.length_append, List.length_cons]; omega
    simp only [esc, List.length_append, List.length_cons] at h2
    omega)
  clear hr hx
  go_enter Tryd.func55, Tryd.ntmps55
  go_wp2_with fail
  go_loopw [5, 6] (fun _ _ wr => ∃ k pos, k ≤ x.length ∧ Hid (Tst w b w.heap.size s (x.take k) pos wr) ∧ Hid (Here s pos ((x.drop k).flatMap escB ++ 34 :: rest))) (fun _ _ wr => s.size - posOf b wr)
  case atStart => exact ⟨0, p + 1, Nat.zero_le _, by rw [List.take_zero]; exact HST, HX⟩
  case round =>
    clear HX HST h0 h1 h2
    obtain ⟨k, pos, hk, HT, HX⟩ := hrel
    obtain ⟨h0, h1, h2, _⟩ := HT.out.rr.cells
    have HPOS := Lib.hid HT.out.rr.pos
    by_cases hlt : k < x.length
    · --WAYS
      obtain ⟨c, hc⟩ : ∃ c, x[k] = c := ⟨_, rfl⟩
      have HTK := Lib.hid (show x.take (k + 1) = x.take k ++ [c] from by rw [List.take_succ_eq_append_getElem hlt, hc])
      have hx1 := HX.out
      rw [List.drop_eq_getElem_cons hlt, hc, List.flatMap_cons, List.append_assoc] at hx1
      have hkl : (x.take k).length ≤ 100000000 := by have := HLX.out; have := List.length_take_le' k x; omega
      rcases escB_cases c with ⟨rfl, h4⟩ | ⟨rfl, h4⟩ | ⟨rfl, h4⟩ | ⟨rfl, h4⟩ | ⟨h4, h5, h6⟩
      · rw [h4] at hx1
        obtain ⟨g1, g2, g3⟩ := Here.cons (l := 92 :: _) hx1
        obtain ⟨g4, g5, g6⟩ := Here.cons g3
        have HX6 := Lib.hid g6
        have HA := Lib.hid ((at0_get s pos g1).trans g2)
        have HA2 := Lib.hid ((at0_get s (pos + 1) g4).trans g5)
        have hsi : (s[pos].toNat : Int) = 92 := by rw [HA.out]; rfl
        have hpi : (pos : Int) < (s.size : Int) := by omega
        have hpz : decide (pos < s.size) = true := by simpa using g1
        have hpi2 : (pos : Int) + 1 < (s.size : Int) := by omega
        have hpz2 : decide ((s.size : Int) ≤ (pos : Int) + 1) = false := by rw [decide_eq_false_iff_not]; omega
        have HIX := Lib.hid (show ∀ w, Calls Tryd.prog 46 #[.string ⟨#[92, 34, 110, 116]⟩, .int .u8 (s[pos + 1].toNat : Int)] w fun e w' => e = .returned (.int .i64 0) ∧ w' = w from fun w => by
          have := Tryd.strings_IndexByte ⟨#[92, 34, 110, 116]⟩ (s[pos + 1].toNat : Int) w
          rw [HA2.out] at this ⊢
          exact this)
        have HWB := Lib.hid (fun n (q : Int) (hq : q = ((92 : UInt8).toNat : Int)) => writeByte_any (w.heap.size + 1) (w.heap.size + 1) (x.take k) q 92 (wr.drewN n) hq (HT.out.drewN n).bd hkl (Nat.le_of_lt (HT.out.drewN n).sz))
        have HT0 := Lib.hid (fun n => HT.out.drewN n)
        clear hx1 g2 g3 g5 g6 h4 hc
        have hwr : IntKind.i64.wrap ((pos : Int) + 1) = (pos : Int) + 1 := IntWalk.i64_in _ (by omega)
        have hw0 : (0 : Int) ≤ (pos : Int) + 1 := by omega
        have hwn : ((pos : Int) + 1).toNat = pos + 1 := by omega
        go_wp2_with fail
        go_quiet (fail)
        go_wp2_with fail
        go_quiet (fail)
        go_wp2_with fail
        go_quiet (fail)
        go_wp2_with fail
        go_quiet ((go_at_call 46; first | exact Calls.quiet_of_same (HIX.out _) | exact quiet_add_same (HIX.out _)))
        clear hwr
        go_wp2_with fail
        refine (HWB.out _ _ rfl).mono ?_
        rintro e w1 ⟨rfl, g1, g2⟩
        have HT1 := Lib.hid ((HT0.out _).wrote g1 g2)
        clear g1 g2 h0 h1 h2
        obtain ⟨h0, h1, h2, _⟩ := HT1.out.rr.cells
        have HMV := Lib.hid ((HT1.out.move (pos + 1)).move (pos + 1 + 1))
        rw [show ((pos + 1 + 1 : Nat) : Int) = (pos : Int) + 1 + 1 from by omega, show ((pos + 1 : Nat) : Int) = (pos : Int) + 1 from by omega] at HMV
        go_wp2_with fail
        exact ⟨⟨k + 1, pos + 1 + 1, hlt, by rw [HTK.out]; exact HMV, HX6⟩, by rw [HPOS.out, HMV.out.rr.pos]; omega⟩
      · rw [h4] at hx1
        obtain ⟨g1, g2, g3⟩ := Here.cons (l := 34 :: _) hx1
        obtain ⟨g4, g5, g6⟩ := Here.cons g3
        have HX6 := Lib.hid g6
        have HA := Lib.hid ((at0_get s pos g1).trans g2)
        have HA2 := Lib.hid ((at0_get s (pos + 1) g4).trans g5)
        have hsi : (s[pos].toNat : Int) = 92 := by rw [HA.out]; rfl
        have hpi : (pos : Int) < (s.size : Int) := by omega
        have hpz : decide (pos < s.size) = true := by simpa using g1
        have hpi2 : (pos : Int) + 1 < (s.size : Int) := by omega
        have hpz2 : decide ((s.size : Int) ≤ (pos : Int) + 1) = false := by rw [decide_eq_false_iff_not]; omega
        have HIX := Lib.hid (show ∀ w, Calls Tryd.prog 46 #[.string ⟨#[92, 34, 110, 116]⟩, .int .u8 (s[pos + 1].toNat : Int)] w fun e w' => e = .returned (.int .i64 1) ∧ w' = w from fun w => by
          have := Tryd.strings_IndexByte ⟨#[92, 34, 110, 116]⟩ (s[pos + 1].toNat : Int) w
          rw [HA2.out] at this ⊢
          exact this)
        have HWB := Lib.hid (fun n (q : Int) (hq : q = ((34 : UInt8).toNat : Int)) => writeByte_any (w.heap.size + 1) (w.heap.size + 1) (x.take k) q 34 (wr.drewN n) hq (HT.out.drewN n).bd hkl (Nat.le_of_lt (HT.out.drewN n).sz))
        have HT0 := Lib.hid (fun n => HT.out.drewN n)
        clear hx1 g2 g3 g5 g6 h4 hc
        have hwr : IntKind.i64.wrap ((pos : Int) + 1) = (pos : Int) + 1 := IntWalk.i64_in _ (by omega)
        have hw0 : (0 : Int) ≤ (pos : Int) + 1 := by omega
        have hwn : ((pos : Int) + 1).toNat = pos + 1 := by omega
        go_wp2_with fail
        go_quiet (fail)
        go_wp2_with fail
        go_quiet (fail)
        go_wp2_with fail
        go_quiet (fail)
        go_wp2_with fail
        go_quiet ((go_at_call 46; first | exact Calls.quiet_of_same (HIX.out _) | exact quiet_add_same (HIX.out _)))
        clear hwr
        go_wp2_with fail
        refine (HWB.out _ _ rfl).mono ?_
        rintro e w1 ⟨rfl, g1, g2⟩
        have HT1 := Lib.hid ((HT0.out _).wrote g1 g2)
        clear g1 g2 h0 h1 h2
        obtain ⟨h0, h1, h2, _⟩ := HT1.out.rr.cells
        have HMV := Lib.hid ((HT1.out.move (pos + 1)).move (pos + 1 + 1))
        rw [show ((pos + 1 + 1 : Nat) : Int) = (pos : Int) + 1 + 1 from by omega, show ((pos + 1 : Nat) : Int) = (pos : Int) + 1 from by omega] at HMV
        go_wp2_with fail
        exact ⟨⟨k + 1, pos + 1 + 1, hlt, by rw [HTK.out]; exact HMV, HX6⟩, by rw [HPOS.out, HMV.out.rr.pos]; omega⟩
      · rw [h4] at hx1
        obtain ⟨g1, g2, g3⟩ := Here.cons (l := 110 :: _) hx1
        obtain ⟨g4, g5, g6⟩ := Here.cons g3
        have HX6 := Lib.hid g6
        have HA := Lib.hid ((at0_get s pos g1).trans g2)
        have HA2 := Lib.hid ((at0_get s (pos + 1) g4).trans g5)
        have hsi : (s[pos].toNat : Int) = 92 := by rw [HA.out]; rfl
        have hpi : (pos : Int) < (s.size : Int) := by omega
        have hpz : decide (pos < s.size) = true := by simpa using g1
        have hpi2 : (pos : Int) + 1 < (s.size : Int) := by omega
        have hpz2 : decide ((s.size : Int) ≤ (pos : Int) + 1) = false := by rw [decide_eq_false_iff_not]; omega
        have HIX := Lib.hid (show ∀ w, Calls Tryd.prog 46 #[.string ⟨#[92, 34, 110, 116]⟩, .int .u8 (s[pos + 1].toNat : Int)] w fun e w' => e = .returned (.int .i64 2) ∧ w' = w from fun w => by
          have := Tryd.strings_IndexByte ⟨#[92, 34, 110, 116]⟩ (s[pos + 1].toNat : Int) w
          rw [HA2.out] at this ⊢
          exact this)
        have HWB := Lib.hid (fun n (q : Int) (hq : q = ((10 : UInt8).toNat : Int)) => writeByte_any (w.heap.size + 1) (w.heap.size + 1) (x.take k) q 10 (wr.drewN n) hq (HT.out.drewN n).bd hkl (Nat.le_of_lt (HT.out.drewN n).sz))
        have HT0 := Lib.hid (fun n => HT.out.drewN n)
        clear hx1 g2 g3 g5 g6 h4 hc
        have hwr : IntKind.i64.wrap ((pos : Int) + 1) = (pos : Int) + 1 := IntWalk.i64_in _ (by omega)
        have hw0 : (0 : Int) ≤ (pos : Int) + 1 := by omega
        have hwn : ((pos : Int) + 1).toNat = pos + 1 := by omega
        go_wp2_with fail
        go_quiet (fail)
        go_wp2_with fail
        go_quiet (fail)
        go_wp2_with fail
        go_quiet (fail)
        go_wp2_with fail
        go_quiet ((go_at_call 46; first | exact Calls.quiet_of_same (HIX.out _) | exact quiet_add_same (HIX.out _)))
        clear hwr
        go_wp2_with fail
        refine (HWB.out _ _ rfl).mono ?_
        rintro e w1 ⟨rfl, g1, g2⟩
        have HT1 := Lib.hid ((HT0.out _).wrote g1 g2)
        clear g1 g2 h0 h1 h2
        obtain ⟨h0, h1, h2, _⟩ := HT1.out.rr.cells
        have HMV := Lib.hid ((HT1.out.move (pos + 1)).move (pos + 1 + 1))
        rw [show ((pos + 1 + 1 : Nat) : Int) = (pos : Int) + 1 + 1 from by omega, show ((pos + 1 : Nat) : Int) = (pos : Int) + 1 from by omega] at HMV
        go_wp2_with fail
        exact ⟨⟨k + 1, pos + 1 + 1, hlt, by rw [HTK.out]; exact HMV, HX6⟩, by rw [HPOS.out, HMV.out.rr.pos]; omega⟩
      · rw [h4] at hx1
        obtain ⟨g1, g2, g3⟩ := Here.cons (l := 116 :: _) hx1
        obtain ⟨g4, g5, g6⟩ := Here.cons g3
        have HX6 := Lib.hid g6
        have HA := Lib.hid ((at0_get s pos g1).trans g2)
        have HA2 := Lib.hid ((at0_get s (pos + 1) g4).trans g5)
        have hsi : (s[pos].toNat : Int) = 92 := by rw [HA.out]; rfl
        have hpi : (pos : Int) < (s.size : Int) := by omega
        have hpz : decide (pos < s.size) = true := by simpa using g1
        have hpi2 : (pos : Int) + 1 < (s.size : Int) := by omega
        have hpz2 : decide ((s.size : Int) ≤ (pos : Int) + 1) = false := by rw [decide_eq_false_iff_not]; omega
        have HIX := Lib.hid (show ∀ w, Calls Tryd.prog 46 #[.string ⟨#[92, 34, 110, 116]⟩, .int .u8 (s[pos + 1].toNat : Int)] w fun e w' => e = .returned (.int .i64 3) ∧ w' = w from fun w => by
          have := Tryd.strings_IndexByte ⟨#[92, 34, 110, 116]⟩ (s[pos + 1].toNat : Int) w
          rw [HA2.out] at this ⊢
          exact this)
        have HWB := Lib.hid (fun n (q : Int) (hq : q = ((9 : UInt8).toNat : Int)) => writeByte_any (w.heap.size + 1) (w.heap.size + 1) (x.take k) q 9 (wr.drewN n) hq (HT.out.drewN n).bd hkl (Nat.le_of_lt (HT.out.drewN n).sz))
        have HT0 := Lib.hid (fun n => HT.out.drewN n)
        clear hx1 g2 g3 g5 g6 h4 hc
        have hwr : IntKind.i64.wrap ((pos : Int) + 1) = (pos : Int) + 1 := IntWalk.i64_in _ (by omega)
        have hw0 : (0 : Int) ≤ (pos : Int) + 1 := by omega
        have hwn : ((pos : Int) + 1).toNat = pos + 1 := by omega
        go_wp2_with fail
        go_quiet (fail)
        go_wp2_with fail
        go_quiet (fail)
        go_wp2_with fail
        go_quiet (fail)
        go_wp2_with fail
        go_quiet ((go_at_call 46; first | exact Calls.quiet_of_same (HIX.out _) | exact quiet_add_same (HIX.out _)))
        clear hwr
        go_wp2_with fail
        refine (HWB.out _ _ rfl).mono ?_
        rintro e w1 ⟨rfl, g1, g2⟩
        have HT1 := Lib.hid ((HT0.out _).wrote g1 g2)
        clear g1 g2 h0 h1 h2
        obtain ⟨h0, h1, h2, _⟩ := HT1.out.rr.cells
        have HMV := Lib.hid ((HT1.out.move (pos + 1)).move (pos + 1 + 1))
        rw [show ((pos + 1 + 1 : Nat) : Int) = (pos : Int) + 1 + 1 from by omega, show ((pos + 1 : Nat) : Int) = (pos : Int) + 1 from by omega] at HMV
        go_wp2_with fail
        exact ⟨⟨k + 1, pos + 1 + 1, hlt, by rw [HTK.out]; exact HMV, HX6⟩, by rw [HPOS.out, HMV.out.rr.pos]; omega⟩
      · rw [h6] at hx1
        obtain ⟨g1, g2, g3⟩ := Here.cons (l := _) hx1
        have HX6 := Lib.hid g3
        have HA := Lib.hid ((at0_get s pos g1).trans g2)
        have k1 : ((s[pos].toNat : Int) == 34) = false := by rw [HA.out]; exact ne_int (y := 34) h5
        have k2 : ((s[pos].toNat : Int) != 92) = true := by rw [HA.out, bne, show ((c.toNat : Int) == 92) = false from ne_int (y := 92) h4]; rfl
        have hpi : (pos : Int) < (s.size : Int) := by omega
        have hpz : decide (pos < s.size) = true := by simpa using g1
        have HWB := Lib.hid (fun n (q : Int) (hq : q = ((c : UInt8).toNat : Int)) => writeByte_any (w.heap.size + 1) (w.heap.size + 1) (x.take k) q c (wr.drewN n) hq (HT.out.drewN n).bd hkl (Nat.le_of_lt (HT.out.drewN n).sz))
        have HT0 := Lib.hid (fun n => HT.out.drewN n)
        clear hx1 g2 g3 h4 h5 h6 hc
        go_wp2_with fail
        go_quiet (fail)
        go_wp2_with fail
        go_quiet (fail)
        go_wp2_with fail
        refine (HWB.out _ _ (by rw [HA.out])).mono ?_
        rintro e w1 ⟨rfl, g1, g2⟩
        have HT1 := Lib.hid ((HT0.out _).wrote g1 g2)
        clear g1 g2 h0 h1 h2
        obtain ⟨h0, h1, h2, _⟩ := HT1.out.rr.cells
        have HMV := Lib.hid (HT1.out.move (pos + 1))
        rw [show ((pos + 1 : Nat) : Int) = (pos : Int) + 1 from by omega] at HMV
        go_wp2_with fail
        exact ⟨⟨k + 1, pos + 1, hlt, by rw [HTK.out]; exact HMV, HX6⟩, by rw [HPOS.out, HMV.out.rr.pos]; omega⟩
    · have hx1 := HX.out
      rw [List.drop_of_length_le (by omega)] at hx1
      have hx2 : Here s pos (34 :: rest) := hx1
      have HQ := Lib.hid (HEND.out pos hx2)
      have hpi : (pos : Int) < (s.size : Int) := by have := hx2.cons.1; omega
      have hpz : decide (pos < s.size) = true := by have := hx2.cons.1; simpa using this
      have hps2 : pos < s.size := hx2.cons.1
      have HA := Lib.hid ((at0_get s pos hps2).trans hx2.cons.2.1)
      have hsi : (s[pos].toNat : Int) = 34 := by rw [HA.out]; rfl
      have HTK := Lib.hid (show x.take k = x from List.take_of_length_le (by omega))
      have HT' := Lib.hid (show Tst w b w.heap.size s x pos wr from by have := HT.out; rw [HTK.out] at this; exact this)
      have HM := Lib.hid (fun n => (HT'.out.drewN n).move (pos + 1))
      rw [show ((pos + 1 : Nat) : Int) = (pos : Int) + 1 from by omega] at HM
      clear hx1 hx2
      go_wp2_with fail
      go_quiet (fail)
      go_wp2_with fail
      go_quiet (fail)
      go_wp2_with fail
      refine (Tryd.Builder_String_any_k (w.heap.size + 1) (w.heap.size + 1) x _ (HM.out _).bd (Nat.le_of_lt (HM.out _).sz)).mono ?_
      rintro e w3 ⟨rfl, g1, g2, g3⟩
      have HW3 := Lib.hid ((HM.out _).wrote (acc' := x) g1 ⟨g2, g3⟩)
      clear g1 g2 g3 h0 h1 h2
      have c0 := cell_of_row w3 _ 0 _ _ _ HW3.out.res
      have c1 := cell_of_row w3 _ 1 _ _ _ HW3.out.res
      have c2 := cell_of_row w3 _ 2 _ _ _ HW3.out.res
      have c3 := cell_of_row w3 _ 3 _ _ _ HW3.out.res
      have z0 := frozen_of_row w3 _ 0 _ _ HW3.out.res
      have z1 := frozen_of_row w3 _ 1 _ _ HW3.out.res
      have z2 := frozen_of_row w3 _ 2 _ _ HW3.out.res
      have z3 := frozen_of_row w3 _ 3 _ _ HW3.out.res
      have hlt3 : w.heap.size < w3.heap.size := by have := HW3.out.sz; omega
      go_wp2_with fail
      have hne : w.heap.size ≠ b := by omega
      exact bodyPost_ret (v := .agg #[.int .i64 3, .string ⟨x.toArray⟩, .slice none 0 0, .slice none 0 0]) (by simp [results, Tryd.results55, go_sem, c0, c1, c2, c3]) rfl ⟨rfl, by rw [← HQ.out]; exact ((((HW3.out.rr).other hne).other hne).other hne).other hne, ((((HW3.out.eb).new (Nat.le_refl _)).new (Nat.le_refl _)).new (Nat.le_refl _)).new (Nat.le_refl _)⟩
end Go.Proofs.YtcpicndapmaiaaaDoor
