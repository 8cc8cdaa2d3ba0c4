/- The reader's datum. -/
import Derived.Test.YtcpicndapmaiaaaDoorIt
namespace Go.Proofs.YtcpicndapmaiaaaDoor
open Go Go.RowKit
abbrev Zero37 : Obj := .cells #[.int .i64 0, .string ⟨#[]⟩, .slice none 0 0, .slice none 0 0] 37
/-- The result's variable gets the datum. -/
theorem DaPost.of {d : D} {b : Nat} {s : ByteArray} {q : Nat} {w w5 : World} {v0 v1 v2 v3 : Value} (hb : b < w.heap.size) (hd : IsDp (fun k => w.heap.size + 1 ≤ k) w5 d v0 v1 v2 v3) (hr : Rr b s q w5) (he : Eb b w w5) :
    DaPost d b s q w (.returned (.agg #[v0, v1, v2, v3])) ((((w5.setCell ⟨w.heap.size, 0, none⟩ v0).setCell ⟨w.heap.size, 1, none⟩ v1).setCell ⟨w.heap.size, 2, none⟩ v2).setCell ⟨w.heap.size, 3, none⟩ v3) := by
  have hne : w.heap.size ≠ b := by omega
  refine ⟨v0, v1, v2, v3, rfl, hd.frame fun k hk hks => ⟨by omega, ?_⟩, (((hr.other hne).other hne).other hne).other hne, (((he.new (Nat.le_refl _)).new (Nat.le_refl _)).new (Nat.le_refl _)).new (Nat.le_refl _)⟩
  have ho : ∀ (y : World) (i : Nat) (v : Value), (y.setCell ⟨w.heap.size, i, none⟩ v).heap[k]? = y.heap[k]? := fun y i v => heap_setCell_other _ _ _ _ (by intro e; simp only at e; omega)
  rw [ho, ho, ho, ho]
/-- The result's variable, as it is before it is laid. -/
structure Res0 (R : Nat) (w : World) : Prop where
  c0 : w.cell? ⟨R, 0, none⟩ = some (.int .i64 0)
  c1 : w.cell? ⟨R, 1, none⟩ = some (.string ⟨#[]⟩)
  c2 : w.cell? ⟨R, 2, none⟩ = some (.slice none 0 0)
  c3 : w.cell? ⟨R, 3, none⟩ = some (.slice none 0 0)
  z0 : w.frozen? ⟨R, 0, none⟩ = false
  z1 : w.frozen? ⟨R, 1, none⟩ = false
  z2 : w.frozen? ⟨R, 2, none⟩ = false
  z3 : w.frozen? ⟨R, 3, none⟩ = false
  lt : R < w.heap.size
theorem Res0.of {R : Nat} {w : World} (h : w.heap[R]? = some Zero37) : Res0 R w :=
  ⟨cell_of_row w _ 0 _ _ _ h, cell_of_row w _ 1 _ _ _ h, cell_of_row w _ 2 _ _ _ h, cell_of_row w _ 3 _ _ _ h, frozen_of_row w _ 0 _ _ h, frozen_of_row w _ 1 _ _ h, frozen_of_row w _ 2 _ _ h, frozen_of_row w _ 3 _ _ h, (Array.getElem?_eq_some_iff.1 h).1⟩
set_option maxHeartbeats 1000000 in
set_option maxRecDepth 100000 in
theorem rdatum_atom (k : Int) (u : ByteArray) (cc : UInt8) (r' rest : List UInt8) (b : Nat) (s : ByteArray) (p : Nat) (dp : Int) (w : World) (hr : Rr b s p w) (hs : s.size ≤ 100000000) (hx : Here s p (cc :: r')) (n1 : cc ≠ 32) (n2 : cc ≠ 9) (n3 : cc ≠ 10) (n4 : cc ≠ 13) (n5 : cc ≠ 59) (n6 : cc ≠ 34) (n7 : cc ≠ 40) (n8 : cc ≠ 39)
    (hxu : Here s p (u.toList ++ rest)) (hsep : Sep rest) (hk : AtomK u k) (ht : AtomT u.toList) (hv : Lib.hasPrefix (cc :: r') [35, 40] = false) :
    Calls Tryd.prog 38 #[.pointer (some ⟨b, 0, none⟩), .int .i64 dp] w fun e w' => DaPost (.mk k u [] []) b s (p + u.toList.length) w e w' := by
  obtain ⟨vb, hvb⟩ : ∃ vb, vb = false := ⟨_, rfl⟩
  rw [← hvb] at hv
  have hext : s.extract p (p + u.toList.length) = u := toList_ext hxu.extract
  have HAT := Lib.hid (fun y (h : Rr b s p y) => (show Calls Tryd.prog 56 #[.pointer (some ⟨b, 0, none⟩)] y fun e w' => e = .returned (.agg #[.int .i64 k, .string u, .slice none 0 0, .slice none 0 0]) ∧ Rr b s (p + u.toList.length) w' ∧ Eb b y w' from by have := atom_any b s p (p + u.toList.length) k y h hs (ht.piece hxu hsep) (by rw [hext]; exact hk); rw [hext] at this; exact this))
  obtain ⟨h0', h1', h2', h3'⟩ := hr.cells
  have HB := Lib.hid h3'
  have hps : p < s.size := hx.cons.1
  have hat : at0 s.toList p = cc := hx.cons.2.1
  have HAL := Lib.hid (fun o => (Below.refl w.heap.size w).alloc (Nat.le_refl _) o)
  have HRA := Lib.hid (fun o => hr.below (HAL.out o))
  have HSK := Lib.hid (fun o => skip_any b s p p (w.alloc o) (HRA.out o) hs (blanks0 hx n1 n2 n3 n4 n5))
  have HPK := Lib.hid (fun y (h : Rr b s p y) => (show Calls Tryd.prog 54 #[.pointer (some ⟨b, 0, none⟩)] y fun e w' => e = .returned (.int .u8 (cc.toNat : Int)) ∧ ∃ n, w' = y.drewN n from by have := peek_any b s p y h; rw [hat] at this; exact this))
  have hvv : Lib.hasPrefix (s.extract p s.size).data.toList [35, 40] = vb := by rw [← ByteArray.toList_eq, hx.toEnd]; exact hv
  have HVP := Lib.hid (show ∀ w, Calls Tryd.prog 53 #[.string (s.extract p s.size), .string ⟨#[35, 40]⟩] w fun e w' => e = .returned (.bool vb) ∧ w' = w from fun w => by
    have := Tryd.strings_HasPrefix (s.extract p s.size) ⟨#[35, 40]⟩ w
    rw [hvv] at this; exact this)
  have HNEW := Lib.hid (fun o => heap_alloc_new w o)
  have hpz : decide (s.size ≤ p) = false := by simp; omega
  have hpi : (p : Int) ≤ (s.size : Int) := by omega
  have hpn : p ≤ s.size := by omega
  have k6 : ((cc.toNat : Int) == 34) = false := ne_int (y := 34) n6
  have k7 : ((cc.toNat : Int) != 40) = true := by rw [bne, show ((cc.toNat : Int) == 40) = false from ne_int (y := 40) n7]; rfl
  have k8 : ((cc.toNat : Int) != 39) = true := by rw [bne, show ((cc.toNat : Int) == 39) = false from ne_int (y := 39) n8]; rfl
  clear n6 n7 n8
  subst hvb
  clear hext hxu hsep hk ht hx hat hvv hv hr n1 n2 n3 n4 n5 h0' h1' h2' h3'
  go_enter Tryd.func38, Tryd.ntmps38
  go_wp2_with fail
  refine (HSK.out _).mono ?_
  rintro e w1 ⟨rfl, hr1, he1⟩
  have HR1 := Lib.hid hr1
  have HE1 := Lib.hid ((Eb.of (HAL.out _)).trans he1)
  have HZ1 := Lib.hid (he1.size)
  have HN1 := Lib.hid ((he1.block w.heap.size (by simp) (by intro e; injection e with e; have := HB.out; omega)).trans (HNEW.out _))
  obtain ⟨f0, f1, f2, f3⟩ := hr1.cells
  clear hr1 he1
  go_wp2_with fail
  go_quiet (fail)
  go_wp2_with fail
  go_quiet ((go_at_call 53; first | exact Calls.quiet_of_same (HVP.out _) | exact quiet_add_same (HVP.out _)))
  go_wp2_with fail
  refine (HPK.out _ (HR1.out.drewN _)).mono ?_
  rintro e w2 ⟨rfl, m2, rfl⟩
  go_wp2_with fail
  refine (HAT.out _ (HR1.out.drewN _)).mono ?_
  rintro e w3 ⟨rfl, hr3, he3⟩
  have HR3 := Lib.hid hr3
  have HE3 := Lib.hid (HE1.out.trans ((Eb.drewN b w1 _).trans he3))
  have HN3 := Lib.hid (Res0.of ((he3.block w.heap.size (by have := HZ1.out; simp at this ⊢; omega) (by intro e; injection e with e; have := HB.out; omega)).trans HN1.out))
  obtain ⟨c0, c1, c2, c3, z0, z1, z2, z3, zl⟩ := HN3.out
  clear hr3 he3 f0 f1 f2 f3
  go_wp2_with fail
  exact bodyPost_ret (v := .agg #[.int .i64 k, .string u, .slice none 0 0, .slice none 0 0]) (by simp [results, Tryd.results38, go_sem, c0, c1, c2, c3]) rfl (DaPost.of HB.out (IsDp.leaf k u) HR3.out HE3.out)
set_option maxHeartbeats 1000000 in
set_option maxRecDepth 100000 in
theorem rdatum_string (u : ByteArray) (rest : List UInt8) (b : Nat) (s : ByteArray) (p : Nat) (dp : Int) (w : World) (hr : Rr b s p w) (hs : s.size ≤ 100000000) (hxu : Here s p (esc u.toList ++ rest)) :
    Calls Tryd.prog 38 #[.pointer (some ⟨b, 0, none⟩), .int .i64 dp] w fun e w' => DaPost (.mk 3 u [] []) b s (p + (esc u.toList).length) w e w' := by
  obtain ⟨vb, hvb⟩ : ∃ vb, vb = false := ⟨_, rfl⟩
  obtain ⟨r', hx⟩ : ∃ r', Here s p (34 :: r') := ⟨_, hxu⟩
  obtain ⟨cc, hcc⟩ : ∃ cc : UInt8, cc = 34 := ⟨_, rfl⟩
  rw [← hcc] at hx
  have n1 : cc ≠ 32 := by rw [hcc]; decide
  have n2 : cc ≠ 9 := by rw [hcc]; decide
  have n3 : cc ≠ 10 := by rw [hcc]; decide
  have n4 : cc ≠ 13 := by rw [hcc]; decide
  have n5 : cc ≠ 59 := by rw [hcc]; decide
  have hv : Lib.hasPrefix (cc :: r') [35, 40] = vb := by rw [hvb]; exact hasPrefix_no1 _ _ (by rw [hcc]; decide)
  have hu : (⟨u.toList.toArray⟩ : ByteArray) = u := (one_eq u _ rfl).symm
  have HAT := Lib.hid (fun y (h : Rr b s p y) => (show Calls Tryd.prog 55 #[.pointer (some ⟨b, 0, none⟩)] y fun e w' => e = .returned (.agg #[.int .i64 3, .string u, .slice none 0 0, .slice none 0 0]) ∧ Rr b s (p + (esc u.toList).length) w' ∧ Eb b y w' from by have := rtext_any b s p u.toList rest y h hs hxu; rw [hu] at this; exact this))
  obtain ⟨h0', h1', h2', h3'⟩ := hr.cells
  have HB := Lib.hid h3'
  have hps : p < s.size := hx.cons.1
  have hat : at0 s.toList p = cc := hx.cons.2.1
  have HAL := Lib.hid (fun o => (Below.refl w.heap.size w).alloc (Nat.le_refl _) o)
  have HRA := Lib.hid (fun o => hr.below (HAL.out o))
  have HSK := Lib.hid (fun o => skip_any b s p p (w.alloc o) (HRA.out o) hs (blanks0 hx n1 n2 n3 n4 n5))
  have HPK := Lib.hid (fun y (h : Rr b s p y) => (show Calls Tryd.prog 54 #[.pointer (some ⟨b, 0, none⟩)] y fun e w' => e = .returned (.int .u8 (cc.toNat : Int)) ∧ ∃ n, w' = y.drewN n from by have := peek_any b s p y h; rw [hat] at this; exact this))
  have hvv : Lib.hasPrefix (s.extract p s.size).data.toList [35, 40] = vb := by rw [← ByteArray.toList_eq, hx.toEnd]; exact hv
  have HVP := Lib.hid (show ∀ w, Calls Tryd.prog 53 #[.string (s.extract p s.size), .string ⟨#[35, 40]⟩] w fun e w' => e = .returned (.bool vb) ∧ w' = w from fun w => by
    have := Tryd.strings_HasPrefix (s.extract p s.size) ⟨#[35, 40]⟩ w
    rw [hvv] at this; exact this)
  have HNEW := Lib.hid (fun o => heap_alloc_new w o)
  have hpz : decide (s.size ≤ p) = false := by simp; omega
  have hpi : (p : Int) ≤ (s.size : Int) := by omega
  have hpn : p ≤ s.size := by omega
  subst hcc hvb
  clear hu hxu hx hat hvv hv hr n1 n2 n3 n4 n5 h0' h1' h2' h3'
  go_enter Tryd.func38, Tryd.ntmps38
  go_wp2_with fail
  refine (HSK.out _).mono ?_
  rintro e w1 ⟨rfl, hr1, he1⟩
  have HR1 := Lib.hid hr1
  have HE1 := Lib.hid ((Eb.of (HAL.out _)).trans he1)
  have HZ1 := Lib.hid (he1.size)
  have HN1 := Lib.hid ((he1.block w.heap.size (by simp) (by intro e; injection e with e; have := HB.out; omega)).trans (HNEW.out _))
  obtain ⟨f0, f1, f2, f3⟩ := hr1.cells
  clear hr1 he1
  go_wp2_with fail
  go_quiet (fail)
  go_wp2_with fail
  go_quiet ((go_at_call 53; first | exact Calls.quiet_of_same (HVP.out _) | exact quiet_add_same (HVP.out _)))
  go_wp2_with fail
  refine (HPK.out _ (HR1.out.drewN _)).mono ?_
  rintro e w2 ⟨rfl, m2, rfl⟩
  go_wp2_with fail
  refine (HAT.out _ (HR1.out.drewN _)).mono ?_
  rintro e w3 ⟨rfl, hr3, he3⟩
  have HR3 := Lib.hid hr3
  have HE3 := Lib.hid (HE1.out.trans ((Eb.drewN b w1 _).trans he3))
  have HN3 := Lib.hid (Res0.of ((he3.block w.heap.size (by have := HZ1.out; simp at this ⊢; omega) (by intro e; injection e with e; have := HB.out; omega)).trans HN1.out))
  obtain ⟨c0, c1, c2, c3, z0, z1, z2, z3, zl⟩ := HN3.out
  clear hr3 he3 f0 f1 f2 f3
  go_wp2_with fail
  exact bodyPost_ret (v := .agg #[.int .i64 3, .string u, .slice none 0 0, .slice none 0 0]) (by simp [results, Tryd.results38, go_sem, c0, c1, c2, c3]) rfl (DaPost.of HB.out (IsDp.leaf 3 u) HR3.out HE3.out)
set_option maxHeartbeats 1000000 in
set_option maxRecDepth 100000 in
theorem rdatum_list (n : Nat) (hn : n < 64) (ih : RDatum n) (l t : List D) (rest : List UInt8) (b : Nat) (s : ByteArray) (p : Nat) (dp : Int) (w : World) (hr : Rr b s p w) (hs : s.size ≤ 100000000) (hxu : Here s p (40 :: restL l t 0 rest))
    (hl : ∀ d, d ∈ l → d.right n = true ∧ D.Small 1048576 d) (ht : ∀ d, d ∈ t → d.right n = true ∧ D.Small 1048576 d) (ht1 : t.length ≤ 1) (htl : t ≠ [] → l ≠ []) (htk : ∀ d, d ∈ t → (d.kind == 5) = false) (hll : l.length ≤ 1048576) (hdp : dp + (n + 1 : Nat) = 64) (h0 : 0 ≤ dp) :
    Calls Tryd.prog 38 #[.pointer (some ⟨b, 0, none⟩), .int .i64 dp] w fun e w' => DaPost (.mk 5 ⟨#[]⟩ l t) b s (p + 1 + (restL l t 0 []).length) w e w' := by
  obtain ⟨vb, hvb⟩ : ∃ vb, vb = false := ⟨_, rfl⟩
  obtain ⟨r', hr', hx⟩ : ∃ r', r' = restL l t 0 rest ∧ Here s p (40 :: r') := ⟨_, rfl, hxu⟩
  obtain ⟨cc, hcc⟩ : ∃ cc : UInt8, cc = 40 := ⟨_, rfl⟩
  rw [← hcc] at hx
  have n1 : cc ≠ 32 := by rw [hcc]; decide
  have n2 : cc ≠ 9 := by rw [hcc]; decide
  have n3 : cc ≠ 10 := by rw [hcc]; decide
  have n4 : cc ≠ 13 := by rw [hcc]; decide
  have n5 : cc ≠ 59 := by rw [hcc]; decide
  have hv : Lib.hasPrefix (cc :: r') [35, 40] = vb := by rw [hvb, hcc]; exact hasPrefix_no1 _ _ (by decide)
  have hx1 : Here s (p + 1) (restL l t 0 rest) := hxu.cons.2.2
  have HIT := Lib.hid (fun y (h : Rr b s (p + 1) y) => items_any n hn ih l t false b s (p + 1) rest (dp + 1) y h hs hx1 hl ht ht1 (fun h => ⟨htl h, rfl⟩) hll (by omega) (by omega))
  have HTK := Lib.hid (fun B c c' A y (h : IsL y t B 0) => list_any l t A B c c' y h ht1 (by omega) htk)
  have hdz : dp ≤ 63 := by omega
  obtain ⟨h0', h1', h2', h3'⟩ := hr.cells
  have HB := Lib.hid h3'
  have hps : p < s.size := hx.cons.1
  have hat : at0 s.toList p = cc := hx.cons.2.1
  have HAL := Lib.hid (fun o => (Below.refl w.heap.size w).alloc (Nat.le_refl _) o)
  have HRA := Lib.hid (fun o => hr.below (HAL.out o))
  have HSK := Lib.hid (fun o => skip_any b s p p (w.alloc o) (HRA.out o) hs (blanks0 hx n1 n2 n3 n4 n5))
  have HPK := Lib.hid (fun y (h : Rr b s p y) => (show Calls Tryd.prog 54 #[.pointer (some ⟨b, 0, none⟩)] y fun e w' => e = .returned (.int .u8 (cc.toNat : Int)) ∧ ∃ n, w' = y.drewN n from by have := peek_any b s p y h; rw [hat] at this; exact this))
  have hvv : Lib.hasPrefix (s.extract p s.size).data.toList [35, 40] = vb := by rw [← ByteArray.toList_eq, hx.toEnd]; exact hv
  have HVP := Lib.hid (show ∀ w, Calls Tryd.prog 53 #[.string (s.extract p s.size), .string ⟨#[35, 40]⟩] w fun e w' => e = .returned (.bool vb) ∧ w' = w from fun w => by
    have := Tryd.strings_HasPrefix (s.extract p s.size) ⟨#[35, 40]⟩ w
    rw [hvv] at this; exact this)
  have HNEW := Lib.hid (fun o => heap_alloc_new w o)
  have hpz : decide (s.size ≤ p) = false := by simp; omega
  have hpi : (p : Int) ≤ (s.size : Int) := by omega
  have hpn : p ≤ s.size := by omega
  subst hcc hvb
  clear hl ht ht1 htl htk hxu hx hx1 hdp ih hr' hat hvv hv hr n1 n2 n3 n4 n5 h0' h1' h2' h3'
  go_enter Tryd.func38, Tryd.ntmps38
  go_wp2_with fail
  refine (HSK.out _).mono ?_
  rintro e w1 ⟨rfl, hr1, he1⟩
  have HR1 := Lib.hid hr1
  have HE1 := Lib.hid ((Eb.of (HAL.out _)).trans he1)
  have HZ1 := Lib.hid (he1.size)
  have HN1 := Lib.hid ((he1.block w.heap.size (by simp) (by intro e; injection e with e; have := HB.out; omega)).trans (HNEW.out _))
  obtain ⟨f0, f1, f2, f3⟩ := hr1.cells
  clear hr1 he1
  go_wp2_with fail
  go_quiet (fail)
  go_wp2_with fail
  go_quiet ((go_at_call 53; first | exact Calls.quiet_of_same (HVP.out _) | exact quiet_add_same (HVP.out _)))
  go_wp2_with fail
  refine (HPK.out _ (HR1.out.drewN _)).mono ?_
  rintro e w2 ⟨rfl, m2, rfl⟩
  go_wp2_with fail
  have HMV := Lib.hid (fun n => (HR1.out.drewN n).move (p + 1))
  have HEV := Lib.hid (fun n => (HE1.out.trans (Eb.drewN b w1 n)).trans (Eb.set1 b (w1.drewN n) (.int .i64 ((p + 1 : Nat) : Int))))
  have HNV := Lib.hid (fun n => (heap_setCell_other (w1.drewN n) ⟨b, 1, none⟩ w.heap.size (.int .i64 ((p + 1 : Nat) : Int)) (by have := HB.out; intro e; simp only at e; omega)).trans HN1.out)
  have HZV := Lib.hid (fun n => (show w.heap.size + 1 ≤ ((w1.drewN n).setCell ⟨b, 1, none⟩ (.int .i64 ((p + 1 : Nat) : Int))).heap.size from by have := HZ1.out; simp at this ⊢; omega))
  rw [show ((p + 1 : Nat) : Int) = (p : Int) + 1 from by omega] at HMV HEV HNV HZV
  refine (HIT.out _ (HMV.out _)).mono ?_
  rintro e w3 ⟨A, m, B, m', rfl, g1, g2, g3, g4, hr3, he3⟩
  have HR3 := Lib.hid hr3
  have HE3 := Lib.hid ((HEV.out _).trans he3)
  have HN3 := Lib.hid ((he3.block w.heap.size (by have := HZV.out 0; simp at this ⊢; omega) (by intro e; injection e with e; have := HB.out; omega)).trans (HNV.out _))
  have HL3 := Lib.hid (IsLp.frame (w1 := w3) (Q := fun k => w.heap.size + 1 ≤ k) (fun k hk _ => ⟨Nat.le_trans (HZV.out _) hk, rfl⟩) g3)
  have HT3 := Lib.hid (IsLp.frame (w1 := w3) (Q := fun k => w.heap.size + 1 ≤ k) (fun k hk _ => ⟨Nat.le_trans (HZV.out _) hk, rfl⟩) g4)
  have HC := Lib.hid (And.intro g1 g2)
  clear hr3 he3 f0 f1 f2 f3 g1 g2 g3 g4
  go_wp2_with fail
  refine (HTK.out B m m' A w3 HT3.out.isL).mono ?_
  rintro e w4 ⟨rfl, hb4⟩
  have HB4 := Lib.hid hb4
  have HN4 := Lib.hid (Res0.of ((hb4.block w.heap.size (Array.getElem?_eq_some_iff.1 HN3.out).1).trans HN3.out))
  have HD4 := Lib.hid (show IsDp (fun k => w.heap.size + 1 ≤ k) w4 (.mk 5 ⟨#[]⟩ l t) (.int .i64 5) (.string ⟨#[]⟩) (.slice A l.length m) (.slice B t.length m') from by
    have hf : ∀ k, (w.heap.size + 1 ≤ k) → k < w3.heap.size → (w.heap.size + 1 ≤ k) ∧ w4.heap[k]? = w3.heap[k]? := fun k hk hks => ⟨hk, hb4.block k hks⟩
    unfold IsDp
    exact ⟨rfl, rfl, ⟨A, m, rfl, HC.out.1, HL3.out.frame hf⟩, ⟨B, m', rfl, HC.out.2, HT3.out.frame hf⟩⟩)
  obtain ⟨c0, c1, c2, c3, z0, z1, z2, z3, zl⟩ := HN4.out
  clear hb4
  go_wp2_with fail
  exact bodyPost_ret (v := .agg #[.int .i64 5, .string ⟨#[]⟩, .slice A l.length m, .slice B t.length m']) (by simp [results, Tryd.results38, go_sem, c0, c1, c2, c3]) rfl (DaPost.of HB.out HD4.out (HR3.out.below HB4.out) (HE3.out.trans (Eb.of HB4.out)))
set_option maxHeartbeats 1000000 in
set_option maxRecDepth 100000 in
theorem rdatum_vector (n : Nat) (hn : n < 64) (ih : RDatum n) (l t : List D) (rest : List UInt8) (b : Nat) (s : ByteArray) (p : Nat) (dp : Int) (w : World) (hr : Rr b s p w) (hs : s.size ≤ 100000000) (hxu : Here s p (35 :: 40 :: restL l t 0 rest))
    (hl : ∀ d, d ∈ l → d.right n = true ∧ D.Small 1048576 d) (ht : ∀ d, d ∈ t → d.right n = true ∧ D.Small 1048576 d) (ht1 : t.length ≤ 1) (htl : t ≠ [] → l ≠ []) (ht0 : t = []) (htk : ∀ d, d ∈ t → (d.kind == 5) = false) (hll : l.length ≤ 1048576) (hdp : dp + (n + 1 : Nat) = 64) (h0 : 0 ≤ dp) :
    Calls Tryd.prog 38 #[.pointer (some ⟨b, 0, none⟩), .int .i64 dp] w fun e w' => DaPost (.mk 6 ⟨#[]⟩ l t) b s (p + 2 + (restL l t 0 []).length) w e w' := by
  obtain ⟨vb, hvb⟩ : ∃ vb, vb = true := ⟨_, rfl⟩
  obtain ⟨r', hr', hx⟩ : ∃ r', r' = 40 :: restL l t 0 rest ∧ Here s p (35 :: r') := ⟨_, rfl, hxu⟩
  obtain ⟨cc, hcc⟩ : ∃ cc : UInt8, cc = 35 := ⟨_, rfl⟩
  rw [← hcc] at hx
  have n1 : cc ≠ 32 := by rw [hcc]; decide
  have n2 : cc ≠ 9 := by rw [hcc]; decide
  have n3 : cc ≠ 10 := by rw [hcc]; decide
  have n4 : cc ≠ 13 := by rw [hcc]; decide
  have n5 : cc ≠ 59 := by rw [hcc]; decide
  have hv : Lib.hasPrefix (cc :: r') [35, 40] = vb := by rw [hvb, hcc, hr']; simp [Lib.hasPrefix]
  have hx1 : Here s (p + 2) (restL l t 0 rest) := hxu.cons.2.2.cons.2.2
  have HIT := Lib.hid (fun y (h : Rr b s (p + 2) y) => items_any n hn ih l t true b s (p + 2) rest (dp + 1) y h hs hx1 hl ht ht1 (fun h => ⟨htl h, absurd ht0 h⟩) hll (by omega) (by omega))
  have HT0 := Lib.hid ht0
  have HTK := Lib.hid (fun B c c' A y (h : IsL y t B 0) => list_any l t A B c c' y h ht1 (by omega) htk)
  have hdz : dp ≤ 63 := by omega
  obtain ⟨h0', h1', h2', h3'⟩ := hr.cells
  have HB := Lib.hid h3'
  have hps : p < s.size := hx.cons.1
  have hat : at0 s.toList p = cc := hx.cons.2.1
  have HAL := Lib.hid (fun o => (Below.refl w.heap.size w).alloc (Nat.le_refl _) o)
  have HRA := Lib.hid (fun o => hr.below (HAL.out o))
  have HSK := Lib.hid (fun o => skip_any b s p p (w.alloc o) (HRA.out o) hs (blanks0 hx n1 n2 n3 n4 n5))
  have HPK := Lib.hid (fun y (h : Rr b s p y) => (show Calls Tryd.prog 54 #[.pointer (some ⟨b, 0, none⟩)] y fun e w' => e = .returned (.int .u8 (cc.toNat : Int)) ∧ ∃ n, w' = y.drewN n from by have := peek_any b s p y h; rw [hat] at this; exact this))
  have hvv : Lib.hasPrefix (s.extract p s.size).data.toList [35, 40] = vb := by rw [← ByteArray.toList_eq, hx.toEnd]; exact hv
  have HVP := Lib.hid (show ∀ w, Calls Tryd.prog 53 #[.string (s.extract p s.size), .string ⟨#[35, 40]⟩] w fun e w' => e = .returned (.bool vb) ∧ w' = w from fun w => by
    have := Tryd.strings_HasPrefix (s.extract p s.size) ⟨#[35, 40]⟩ w
    rw [hvv] at this; exact this)
  have HNEW := Lib.hid (fun o => heap_alloc_new w o)
  have hpz : decide (s.size ≤ p) = false := by simp; omega
  have hpi : (p : Int) ≤ (s.size : Int) := by omega
  have hpn : p ≤ s.size := by omega
  subst hcc hvb
  clear hl ht ht1 htl htk hxu hx hx1 hdp ih hr' ht0 hat hvv hv hr n1 n2 n3 n4 n5 h0' h1' h2' h3'
  go_enter Tryd.func38, Tryd.ntmps38
  go_wp2_with fail
  refine (HSK.out _).mono ?_
  rintro e w1 ⟨rfl, hr1, he1⟩
  have HR1 := Lib.hid hr1
  have HE1 := Lib.hid ((Eb.of (HAL.out _)).trans he1)
  have HZ1 := Lib.hid (he1.size)
  have HN1 := Lib.hid ((he1.block w.heap.size (by simp) (by intro e; injection e with e; have := HB.out; omega)).trans (HNEW.out _))
  obtain ⟨f0, f1, f2, f3⟩ := hr1.cells
  clear hr1 he1
  go_wp2_with fail
  go_quiet (fail)
  go_wp2_with fail
  go_quiet ((go_at_call 53; first | exact Calls.quiet_of_same (HVP.out _) | exact quiet_add_same (HVP.out _)))
  go_wp2_with fail
  refine (HPK.out _ (HR1.out.drewN _)).mono ?_
  rintro e w2 ⟨rfl, m2, rfl⟩
  go_wp2_with fail
  have HMV := Lib.hid (fun n => ((HR1.out.drewN n).move (p + 1)).move (p + 2))
  have HEV := Lib.hid (fun n => ((HE1.out.trans (Eb.drewN b w1 n)).trans (Eb.set1 b (w1.drewN n) (.int .i64 ((p + 1 : Nat) : Int)))).trans (Eb.set1 b ((w1.drewN n).setCell ⟨b, 1, none⟩ (.int .i64 ((p + 1 : Nat) : Int))) (.int .i64 ((p + 2 : Nat) : Int))))
  have HNV := Lib.hid (fun n => (heap_setCell_other ((w1.drewN n).setCell ⟨b, 1, none⟩ (.int .i64 ((p + 1 : Nat) : Int))) ⟨b, 1, none⟩ w.heap.size (.int .i64 ((p + 2 : Nat) : Int)) (by have := HB.out; intro e; simp only at e; omega)).trans ((heap_setCell_other (w1.drewN n) ⟨b, 1, none⟩ w.heap.size (.int .i64 ((p + 1 : Nat) : Int)) (by have := HB.out; intro e; simp only at e; omega)).trans HN1.out))
  have HZV := Lib.hid (fun n => (show w.heap.size + 1 ≤ (((w1.drewN n).setCell ⟨b, 1, none⟩ (.int .i64 ((p + 1 : Nat) : Int))).setCell ⟨b, 1, none⟩ (.int .i64 ((p + 2 : Nat) : Int))).heap.size from by have := HZ1.out; simp at this ⊢; omega))
  rw [show ((p + 1 : Nat) : Int) = (p : Int) + 1 from by omega, show ((p + 2 : Nat) : Int) = (p : Int) + 1 + 1 from by omega] at HMV HEV HNV HZV
  refine (HIT.out _ (HMV.out _)).mono ?_
  rintro e w3 ⟨A, m, B, m', rfl, g1, g2, g3, g4, hr3, he3⟩
  have HR3 := Lib.hid hr3
  have HE3 := Lib.hid ((HEV.out _).trans he3)
  have HN3 := Lib.hid ((he3.block w.heap.size (by have := HZV.out 0; simp at this ⊢; omega) (by intro e; injection e with e; have := HB.out; omega)).trans (HNV.out _))
  have HL3 := Lib.hid (IsLp.frame (w1 := w3) (Q := fun k => w.heap.size + 1 ≤ k) (fun k hk _ => ⟨Nat.le_trans (HZV.out _) hk, rfl⟩) g3)
  have HT3 := Lib.hid (IsLp.frame (w1 := w3) (Q := fun k => w.heap.size + 1 ≤ k) (fun k hk _ => ⟨Nat.le_trans (HZV.out _) hk, rfl⟩) g4)
  have HC := Lib.hid (And.intro g1 g2)
  clear hr3 he3 f0 f1 f2 f3 g1 g2 g3 g4
  have HN4 := Lib.hid (Res0.of HN3.out)
  have HD4 := Lib.hid (show IsDp (fun k => w.heap.size + 1 ≤ k) w3 (.mk 6 ⟨#[]⟩ l t) (.int .i64 6) (.string ⟨#[]⟩) (.slice A l.length m) (.slice none 0 0) from by
    unfold IsDp
    refine ⟨rfl, rfl, ⟨A, m, rfl, HC.out.1, HL3.out⟩, ⟨none, 0, ?_, ?_, ?_⟩⟩
    · rw [HT0.out]; rfl
    · rw [HT0.out]; exact Nat.le_refl _
    · rw [HT0.out]; unfold IsLp; trivial)
  obtain ⟨c0, c1, c2, c3, z0, z1, z2, z3, zl⟩ := HN4.out
  go_wp2_with fail
  exact bodyPost_ret (v := .agg #[.int .i64 6, .string ⟨#[]⟩, .slice A l.length m, .slice none 0 0]) (by simp [results, Tryd.results38, go_sem, c0, c1, c2, c3]) rfl (DaPost.of HB.out HD4.out HR3.out HE3.out)
end Go.Proofs.YtcpicndapmaiaaaDoor
