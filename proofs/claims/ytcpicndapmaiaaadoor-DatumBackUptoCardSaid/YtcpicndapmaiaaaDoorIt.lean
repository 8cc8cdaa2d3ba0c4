/- The reader's items. -/
import Derived.Test.YtcpicndapmaiaaaDoorHd
import Derived.Test.YtcpicndapmaiaaaDoorRt
import Derived.Test.YtcpicndapmaiaaaDoorLi
namespace Go.Proofs.YtcpicndapmaiaaaDoor
open Go Go.RowKit
/-- What a reader of a datum hands back. -/
def DaPost (d : D) (b : Nat) (s : ByteArray) (q : Nat) (w : World) (e : Ending) (w' : World) : Prop :=
  ∃ c0 c1 c2 c3, e = .returned (.agg #[c0, c1, c2, c3]) ∧ IsDp (fun k => w.heap.size ≤ k) w' d c0 c1 c2 c3 ∧ Rr b s q w' ∧ Eb b w w'
/-- The contract of the reader's datum, for data that may be so deep. -/
def RDatum (n : Nat) : Prop := ∀ (d : D) (b : Nat) (s : ByteArray) (p : Nat) (rest : List UInt8) (dp : Int) (w : World), d.right n = true → D.Small 1048576 d → Rr b s p w → s.size ≤ 100000000 → Here s p (printD d ++ rest) → Sep rest → dp + n = 64 → 0 ≤ dp →
  Calls Tryd.prog 38 #[.pointer (some ⟨b, 0, none⟩), .int .i64 dp] w fun e w' => DaPost d b s (p + (printD d).length) w e w'
/-- Where the reader of items stands. -/
inductive Ist (b H : Nat) (s : ByteArray) (l t : List D) (rest : List UInt8) (v8 v9 v10 : Value) (wr : World) : Prop where
  | list (k p : Nat) (hk : k ≤ l.length) (h8 : Row H wr v8 (l.take k)) (h9 : v9 = .slice none 0 0) (h10 : v10 = .bool false) (rr : Rr b s p wr) (hx : Here s p (restL l t k rest))
  | dot (d : D) (p : Nat) (ht : t = [d]) (h8 : Row H wr v8 l) (h9 : v9 = .slice none 0 0) (h10 : v10 = .bool true) (rr : Rr b s p wr) (hx : Here s p (32 :: (printD d ++ 41 :: rest)))
  | tail (d : D) (p : Nat) (ht : t = [d]) (h8 : Row H wr v8 l) (h9 : Row H wr v9 t) (h10 : v10 = .bool true) (rr : Rr b s p wr) (hx : Here s p (41 :: rest))
theorem Here.len {s : ByteArray} {p : Nat} {l : List UInt8} (h : Here s p l) : p + l.length = s.size := by
  have hl := congrArg List.length h.eq
  rw [List.length_drop, toList_len] at hl
  have := h.le
  omega
theorem blanks_u {s : ByteArray} {p : Nat} {u r : List UInt8} {b : UInt8} (hu : u = [] ∨ u = [32]) (h : Here s p (u ++ b :: r)) (h1 : b ≠ 32) (h2 : b ≠ 9) (h3 : b ≠ 10) (h4 : b ≠ 13) (h5 : b ≠ 59) : Blanks s p (p + u.length) := by
  rcases hu with rfl | rfl
  · exact blanks0 h h1 h2 h3 h4 h5
  · exact blanks1 h h1 h2 h3 h4 h5
/-- What an append onto a row of the call's own leaves. -/
theorem app_left {b H : Nat} {s : ByteArray} {q : Nat} {w w4 w6 : World} {o : Obj} {v : Value} {l : List D} (hr : Rr b s q w4) (he : Eb b w w4) (hb : b < H) (hH : H = w.heap.size) (hrow : Row H w4 v l) (hg : (w4.alloc o).grownBy w6 v.ownBlock) : Rr b s q w6 ∧ Eb b w w6 := by
  have ho := (Below.refl w4.heap.size w4).alloc (Nat.le_refl _) o
  have hs := he.size
  have hk : ∀ i, i < H → w6.heap[i]? = w4.heap[i]? := fun i hi => (hg.block i (by simp; omega) (fun e => by have := (hrow.lt i e.symm).1; omega)).trans (ho.block i (by omega))
  refine ⟨(hk b hb).trans hr, ⟨hg.os.trans he.os, hg.tape.trans he.tape, hg.output.trans he.output, Nat.le_trans hs (Nat.le_trans ho.size hg.size), fun i hi hn => (hk i (by omega)).trans (he.block i hi hn)⟩⟩
/-- What a reader of items hands back. -/
def ItPost (b : Nat) (s : ByteArray) (l t : List D) (q : Nat) (w : World) (e : Ending) (w' : World) : Prop :=
  ∃ A c B c', e = .returned (.tuple #[.slice A l.length c, .slice B t.length c']) ∧ l.length ≤ c ∧ t.length ≤ c' ∧ IsLp (fun k => w.heap.size ≤ k) w' l A 0 ∧ IsLp (fun k => w.heap.size ≤ k) w' t B 0 ∧ Rr b s q w' ∧ Eb b w w'
theorem ItPost.of {b : Nat} {s : ByteArray} {l t : List D} {q : Nat} {w w' : World} {v8 v9 : Value} (h8 : Row w.heap.size w' v8 l) (h9 : Row w.heap.size w' v9 t) (hr : Rr b s q w') (he : Eb b w w') : ItPost b s l t q w (.returned (.tuple #[v8, v9])) w' := by
  obtain ⟨A, c, rfl, hc⟩ := h8.form
  obtain ⟨B, c', rfl, hc'⟩ := h9.form
  exact ⟨A, c, B, c', rfl, hc, hc', h8.isLp, h9.isLp, hr, he⟩
set_option maxHeartbeats 4000000 in
set_option maxRecDepth 100000 in
theorem items_any (n : Nat) (hn : n < 64) (ih : RDatum n) (l t : List D) (vec : Bool) (b : Nat) (s : ByteArray) (p : Nat) (rest : List UInt8) (dp : Int) (w : World) (hr : Rr b s p w) (hs : s.size ≤ 100000000) (hx : Here s p (restL l t 0 rest))
    (hl : ∀ d, d ∈ l → d.right n = true ∧ D.Small 1048576 d) (ht : ∀ d, d ∈ t → d.right n = true ∧ D.Small 1048576 d) (ht1 : t.length ≤ 1) (htl : t ≠ [] → l ≠ [] ∧ vec = false) (hll : l.length ≤ 1048576) (hdp : dp + n = 64) (h0 : 0 ≤ dp) :
    Calls Tryd.prog 58 #[.pointer (some ⟨b, 0, none⟩), .int .i64 dp, .bool vec] w fun e w' => ItPost b s l t (p + (restL l t 0 []).length) w e w' := by
  have HR := Lib.hid hr
  have HX := Lib.hid hx
  have HL := Lib.hid hl
  have HT := Lib.hid ht
  have HTL := Lib.hid htl
  have HDP := Lib.hid hdp
  have HB := Lib.hid hr.cells.2.2.2
  have HIH := Lib.hid ih
  have HQ := Lib.hid (show ∀ pe, Here s pe (41 :: rest) → pe + 1 = p + (restL l t 0 []).length from fun pe he => by
    have h1 := he.len
    have h2 := hx.len
    have h3 : (restL l t 0 rest).length = (restL l t 0 []).length + rest.length := by unfold restL; simp only [List.length_append, List.length_cons, List.length_nil]; omega
    simp only [List.length_cons] at h1
    omega)
  clear hr hx hl ht htl hdp ih
  go_enter Tryd.func58, Tryd.ntmps58
  go_wp2_with fail
  go_loopw [8, 9, 10] (fun v8 v9 v10 wr => Hid (Ist b w.heap.size s l t rest v8 v9 v10 wr) ∧ Hid (Eb b w wr)) (fun _ _ _ wr => s.size - posOf b wr)
  case atStart => exact ⟨.list 0 p (Nat.zero_le _) (by rw [List.take_zero]; exact Row.nil _ _) rfl rfl HR.out HX.out, Eb.refl _ _⟩
  case round =>
    clear HR HX
    obtain ⟨HI, HE⟩ := hrel
    have HBw := Lib.hid (show b < w.heap.size from HB.out)
    rcases HI.out with ⟨k, p1, hk, h8, rfl, rfl, rr, hx⟩ | ⟨d, p1, rfl, h8, rfl, rfl, rr, hx⟩ | ⟨d, p1, rfl, h8, h9, rfl, rr, hx⟩
    · have HPOS := Lib.hid rr.pos
      have HR8 := Lib.hid h8
      clear h8
      by_cases hlt : k < l.length
      · -- one more of the list's data
        obtain ⟨u, hu, he⟩ := restL_more l t k rest hlt
        rw [he] at hx
        obtain ⟨hrd, hsm⟩ := HL.out l[k] (List.getElem_mem hlt)
        have hdt : l[k].text.size ≤ 100000000 := by
          have := hsm; cases hlk : l[k] with
          | mk a1 a2 a3 a4 => rw [hlk] at this; have := this.parts.1; simp only [D.text]; omega
        have hx2 : Here s (p1 + u.length) (printD l[k] ++ restL l t (k + 1) rest) := hx.app.2.2
        obtain ⟨c, r', hc, n1, n2, n3, n4, n5, n6, _⟩ := head_of n l[k] hrd hdt
        have hbl : Blanks s p1 (p1 + u.length) := by rw [hc] at hx; exact blanks_u hu hx n1 n2 n3 n4 n5
        have hat : at0 s.toList (p1 + u.length) = c ∧ p1 + u.length < s.size := by rw [hc] at hx2; exact ⟨(Here.cons hx2).2.1, (Here.cons hx2).1⟩
        obtain ⟨q, hq, hqd⟩ := piece_of n l[k] hrd hdt s _ _ hx2 (restL_sep l t k rest)
        obtain ⟨p2, hp2⟩ : ∃ p2, p1 + u.length = p2 := ⟨_, rfl⟩
        rw [hp2] at hx2 hbl hat hq hqd
        have h41 : ((c.toNat : Int) == 41) = false := ne_int (y := 41) n6
        have hlen : (printD l[k]).length = r'.length + 1 := by rw [hc]; rfl
        have hx3 : Here s (p2 + (printD l[k]).length) (restL l t (k + 1) rest) := hx2.app.2.2
        obtain ⟨z, hz⟩ : ∃ z, s.extract p2 q = z := ⟨_, rfl⟩
        rw [hz] at hqd
        have HSK := Lib.hid (skip_any b s p1 p2 wr rr hs hbl)
        have HPK := Lib.hid (fun y (h : Rr b s p2 y) => by have := peek_any b s p2 y h; rw [hat.1] at this; exact this)
        have HPC := Lib.hid (fun y (h : Rr b s p2 y) => by have := piece_any b s p2 q y h hs hq; rw [hz] at this; exact this)
        have HDD := Lib.hid (fun y (h : Rr b s p2 y) => HIH.out l[k] b s p2 (restL l t (k + 1) rest) dp y hrd hsm h hs hx2 (restL_sep l t k rest) HDP.out h0)
        have hpz : decide (s.size ≤ p2) = false := by have := hat.2; simp; omega
        have HX3 := Lib.hid hx3
        have HLEN := Lib.hid (show p1 < p2 + (printD l[k]).length ∧ p2 < s.size ∧ p1 ≤ p2 from ⟨by rw [hlen]; omega, hat.2, hbl.le⟩)
        clear he hx hrd hsm hdt hx2 hc n1 n2 n3 n4 n5 n6 hbl hat hq hz hlen hx3 hu hp2
        have HROW := Lib.hid (fun y (h : Eb b wr y) => HR8.out.frame h HBw.out)
        have HTK := Lib.hid (show l.take (k + 1) = l.take k ++ [l[k]] from List.take_succ_eq_append_getElem hlt)
        have HLK := Lib.hid (show (l.take k).length ≤ 1000000000 from by have := List.length_take_le' k l; omega)
        go_wp2_with fail
        refine HSK.out.mono ?_
        rintro e w1 ⟨rfl, hr1, he1⟩
        have HR1 := Lib.hid hr1
        have HE1 := Lib.hid he1
        obtain ⟨f0, f1, f2, f3⟩ := hr1.cells
        clear hr1 he1
        go_wp2_with fail
        go_quiet (fail)
        go_wp2_with fail
        refine (HPK.out _ (HR1.out.drewN _)).mono ?_
        rintro e w2 ⟨rfl, m2, rfl⟩
        go_wp2_with fail
        refine (HPC.out _ (HR1.out.drewN _)).mono ?_
        rintro e w3 ⟨rfl, m3, rfl⟩
        go_wp2_with fail
        refine (HDD.out _ (HR1.out.drewN _)).mono ?_
        rintro e w4 ⟨c0, c1, c2, c3, rfl, hd, hr4, he4⟩
        obtain ⟨X2, m2, X3, m3, rfl, rfl, rfl, rfl⟩ := hd.form
        have HE4 := Lib.hid (HE1.out.trans ((Eb.drewN b w1 _).trans he4))
        have HR4 := Lib.hid hr4
        have HD5 := Lib.hid (fun o => hd.frame (w1 := w4.alloc o) (Q := fun k => w.heap.size ≤ k ∧ u8.ownBlock ≠ some k) (fun k hk hks => ⟨⟨Nat.le_trans (Nat.le_trans HE.out.size HE1.out.size) hk, fun e => by
          have h1 := (HR8.out.lt k e).2
          have h2 : w1.heap.size ≤ k := hk
          have h3 := HE1.out.size
          omega⟩, ((Below.refl w4.heap.size w4).alloc (Nat.le_refl _) o).block k hks⟩))
        have HROW5 := Lib.hid (fun o => (HROW.out w4 HE4.out).frame0 (w' := w4.alloc o) (World.grownBy_alloc w4 o none))
        have HG5 := Lib.hid (fun o => heap_alloc_new w4 o)
        have HSZ5 := Lib.hid (Nat.le_trans HE.out.size HE4.out.size)
        clear hd hr4 he4 f0 f1 f2 f3
        go_wp2_with (at_builtin; refine app4 rfl _ _ rfl w.heap.size _ _ (l.take k) l[k] _ _ _ _ rfl rfl (HROW5.out _) (HG5.out _) (HD5.out _) HLK.out (Nat.le_trans HSZ5.out (by simp)) ?_; intro v' w6 hrow hg; have HROW6 := Lib.hid hrow; have HG6 := Lib.hid hg; clear hrow hg)
        have HA6 := Lib.hid (app_left HR4.out (HE.out.trans HE4.out) HBw.out rfl (HROW.out w4 HE4.out) HG6.out)
        exact ⟨⟨.list (k + 1) _ hlt (by rw [HTK.out]; exact HROW6.out) rfl rfl HA6.out.1 HX3.out, HA6.out.2⟩, by rw [HPOS.out, HA6.out.1.pos]; have := HLEN.out; omega⟩
      · have hkl : k = l.length := by omega
        subst hkl
        rw [restL_end] at hx
        have HROW := Lib.hid (fun y (h : Eb b wr y) => by have := HR8.out.frame h HBw.out; rw [List.take_length] at this; exact this)
        cases t with
        | nil =>
          -- the end of the list, no dot
          have hx1 : Here s p1 (41 :: rest) := hx
          have hbl := blanks0 hx1 (by decide) (by decide) (by decide) (by decide) (by decide)
          have hp1 := hx1.cons.1
          have hat := hx1.cons.2.1
          have HSK := Lib.hid (skip_any b s p1 p1 wr rr hs hbl)
          have HPK := Lib.hid (fun y (h : Rr b s p1 y) => (show Calls Tryd.prog 54 #[.pointer (some ⟨b, 0, none⟩)] y fun e w' => e = .returned (.int .u8 41) ∧ ∃ n, w' = y.drewN n from by have := peek_any b s p1 y h; rw [hat] at this; exact this))
          have HP := Lib.hid (HQ.out p1 hx1)
          have hpz : decide (s.size ≤ p1) = false := by simp; omega
          clear hx hx1 hbl hat
          go_wp2_with fail
          refine HSK.out.mono ?_
          rintro e w1 ⟨rfl, hr1, he1⟩
          have HR1 := Lib.hid hr1
          have HE1 := Lib.hid he1
          obtain ⟨f0, f1, f2, f3⟩ := hr1.cells
          clear hr1 he1
          go_wp2_with fail
          go_quiet (fail)
          go_wp2_with fail
          refine (HPK.out _ (HR1.out.drewN _)).mono ?_
          rintro e w2 ⟨rfl, m2, rfl⟩
          have HMV := Lib.hid (fun n => (HR1.out.drewN n).move (p1 + 1))
          have HEV := Lib.hid (fun n => (HE1.out.trans (Eb.drewN b w1 n)).trans (Eb.set1 b (w1.drewN n) (.int .i64 ((p1 + 1 : Nat) : Int))))
          rw [show ((p1 + 1 : Nat) : Int) = (p1 : Int) + 1 from by omega] at HMV HEV
          go_wp2_with fail
          exact bodyPost_ret (v := .tuple #[u8, .slice none 0 0]) (by simp [results, Tryd.results58, go_sem]) rfl (ItPost.of (HROW.out _ (HEV.out _)) (Row.nil _ _) (by rw [← HP.out]; exact HMV.out _) (HE.out.trans (HEV.out _)))
        | cons d t' =>
          -- the dot
          have ht' : t' = [] := List.eq_nil_of_length_eq_zero (by simp only [List.length_cons] at ht1; omega)
          subst ht'
          obtain ⟨hln, rfl⟩ := HTL.out (by simp)
          have hx1 : Here s p1 (32 :: 46 :: 32 :: (printD d ++ 41 :: rest)) := by simpa [prT] using hx
          have hbl := blanks1 hx1 (by decide) (by decide) (by decide) (by decide) (by decide)
          obtain ⟨q1, q2, hx2⟩ := hx1.cons
          obtain ⟨q3, q4, hx3⟩ := hx2.cons
          obtain ⟨q5, q6, hx4⟩ := hx3.cons
          have hpc : Piece s (p1 + 1) (p1 + 1 + 1) := ⟨by omega, by omega, fun i h1 h2 => by
            have e : i = p1 + 1 := by omega
            rw [e, q4]; decide, fun i h1 h2 => by
            have e : i = p1 + 1 := by omega
            rw [e, ← ByteArray.toList_eq, hx2.toEnd]; exact hasPrefix_no1 46 _ (by decide), .inr (.inl (by rw [q6]; decide))⟩
          have hz : (s.extract (p1 + 1) (p1 + 1 + 1)).toList = [46] := Here.extract (x := [46]) (l := 32 :: (printD d ++ 41 :: rest)) hx2
          obtain ⟨z, hze⟩ : ∃ z, s.extract (p1 + 1) (p1 + 1 + 1) = z := ⟨_, rfl⟩
          rw [hze] at hz
          have hz2 : (z.toList == [46]) = true := by rw [hz]; rfl
          have HSK := Lib.hid (skip_any b s p1 (p1 + 1) wr rr hs hbl)
          have HPK := Lib.hid (fun y (h : Rr b s (p1 + 1) y) => (show Calls Tryd.prog 54 #[.pointer (some ⟨b, 0, none⟩)] y fun e w' => e = .returned (.int .u8 46) ∧ ∃ n, w' = y.drewN n from by have := peek_any b s (p1 + 1) y h; rw [q4] at this; exact this))
          have HPC := Lib.hid (fun y (h : Rr b s (p1 + 1) y) => by have := piece_any b s (p1 + 1) (p1 + 1 + 1) y h hs hpc; rw [hze] at this; exact this)
          have HX3 := Lib.hid hx3
          obtain ⟨p2, hp2⟩ : ∃ p2, p1 + 1 = p2 := ⟨_, rfl⟩
          rw [hp2] at HSK HPK HPC HX3 q3
          have HP2 := Lib.hid hp2
          have hpz : decide (s.size ≤ p2) = false := by simp; omega
          obtain ⟨A8, n8, rfl, _⟩ := HR8.out.form
          have hl0 : ((l.length : Int) == 0) = false := by
            rw [beq_eq_false_iff_ne]; intro e; exact hln (List.eq_nil_of_length_eq_zero (by omega))
          rw [List.take_length] at HROW ⊢
          clear hx hx1 hbl q1 q2 hx2 q4 hx3 q5 q6 hx4 hpc hz hze hp2 ht1 hln
          go_wp2_with fail
          refine HSK.out.mono ?_
          rintro e w1 ⟨rfl, hr1, he1⟩
          have HR1 := Lib.hid hr1
          have HE1 := Lib.hid he1
          obtain ⟨f0, f1, f2, f3⟩ := hr1.cells
          clear hr1 he1
          go_wp2_with fail
          go_quiet (fail)
          go_wp2_with fail
          refine (HPK.out _ (HR1.out.drewN _)).mono ?_
          rintro e w2 ⟨rfl, m2, rfl⟩
          go_wp2_with fail
          refine (HPC.out _ (HR1.out.drewN _)).mono ?_
          rintro e w3 ⟨rfl, m3, rfl⟩
          have HMV := Lib.hid (fun n => (HR1.out.drewN n).move (p2 + 1))
          have HEV := Lib.hid (fun n => (HE1.out.trans (Eb.drewN b w1 n)).trans (Eb.set1 b (w1.drewN n) (.int .i64 ((p2 + 1 : Nat) : Int))))
          rw [show ((p2 + 1 : Nat) : Int) = (p2 : Int) + 1 from by omega] at HMV HEV
          go_wp2_with fail
          exact ⟨⟨.dot d (p2 + 1) rfl (HROW.out _ (HEV.out _)) rfl rfl (HMV.out _) HX3.out, HE.out.trans (HEV.out _)⟩, by rw [HPOS.out, (HMV.out _ : Rr b s (p2 + 1) _).pos]; have := HP2.out; omega⟩
    · -- what stands behind the dot
      have HPOS := Lib.hid rr.pos
      have HR8 := Lib.hid h8
      clear h8
      obtain ⟨hrd, hsm⟩ := HT.out d (by simp)
      have hdt : d.text.size ≤ 100000000 := by
        have := hsm; cases d with
        | mk a1 a2 a3 a4 => have := this.parts.1; simp only [D.text]; omega
      have hx2 : Here s (p1 + 1) (printD d ++ 41 :: rest) := hx.cons.2.2
      have hsep : Sep (41 :: rest) := .inr (.inr ⟨rest, rfl⟩)
      obtain ⟨c, r', hc, n1, n2, n3, n4, n5, n6, _⟩ := head_of n d hrd hdt
      have hbl : Blanks s p1 (p1 + 1) := by rw [hc] at hx; exact blanks1 hx n1 n2 n3 n4 n5
      have hat : at0 s.toList (p1 + 1) = c ∧ p1 + 1 < s.size := by rw [hc] at hx2; exact ⟨(Here.cons hx2).2.1, (Here.cons hx2).1⟩
      obtain ⟨q, hq, hqd⟩ := piece_of n d hrd hdt s _ _ hx2 hsep
      obtain ⟨p2, hp2⟩ : ∃ p2, p1 + 1 = p2 := ⟨_, rfl⟩
      rw [hp2] at hx2 hbl hat hq hqd
      have h41 : ((c.toNat : Int) == 41) = false := ne_int (y := 41) n6
      have hlen : (printD d).length = r'.length + 1 := by rw [hc]; rfl
      have hx3 : Here s (p2 + (printD d).length) (41 :: rest) := hx2.app.2.2
      obtain ⟨z, hz⟩ : ∃ z, s.extract p2 q = z := ⟨_, rfl⟩
      rw [hz] at hqd
      have HSK := Lib.hid (skip_any b s p1 p2 wr rr hs hbl)
      have HPK := Lib.hid (fun y (h : Rr b s p2 y) => by have := peek_any b s p2 y h; rw [hat.1] at this; exact this)
      have HPC := Lib.hid (fun y (h : Rr b s p2 y) => by have := piece_any b s p2 q y h hs hq; rw [hz] at this; exact this)
      have HDD := Lib.hid (fun y (h : Rr b s p2 y) => HIH.out d b s p2 (41 :: rest) dp y hrd hsm h hs hx2 hsep HDP.out h0)
      have hpz : decide (s.size ≤ p2) = false := by have := hat.2; simp; omega
      have HX3 := Lib.hid hx3
      have HLEN := Lib.hid (show p1 < p2 + (printD d).length ∧ p2 < s.size ∧ p1 ≤ p2 from ⟨by rw [hlen]; omega, hat.2, hbl.le⟩)
      clear hx hrd hsm hdt hx2 hc n1 n2 n3 n4 n5 n6 hbl hat hq hz hlen hx3 hp2 hsep ht1
      have HROW := Lib.hid (fun y (h : Eb b wr y) => HR8.out.frame h HBw.out)
      go_wp2_with fail
      refine HSK.out.mono ?_
      rintro e w1 ⟨rfl, hr1, he1⟩
      have HR1 := Lib.hid hr1
      have HE1 := Lib.hid he1
      obtain ⟨f0, f1, f2, f3⟩ := hr1.cells
      clear hr1 he1
      go_wp2_with fail
      go_quiet (fail)
      go_wp2_with fail
      refine (HPK.out _ (HR1.out.drewN _)).mono ?_
      rintro e w2 ⟨rfl, m2, rfl⟩
      go_wp2_with fail
      refine (HPC.out _ (HR1.out.drewN _)).mono ?_
      rintro e w3 ⟨rfl, m3, rfl⟩
      go_wp2_with fail
      refine (HDD.out _ (HR1.out.drewN _)).mono ?_
      rintro e w4 ⟨c0, c1, c2, c3, rfl, hd, hr4, he4⟩
      obtain ⟨X2, m2, X3, m3, rfl, rfl, rfl, rfl⟩ := hd.form
      have HE4 := Lib.hid (HE1.out.trans ((Eb.drewN b w1 _).trans he4))
      have HR4 := Lib.hid hr4
      have HD5 := Lib.hid (fun o => hd.frame (w1 := w4.alloc o) (Q := fun k => w.heap.size ≤ k ∧ (Value.slice none 0 0).ownBlock ≠ some k) (fun k hk hks => ⟨⟨Nat.le_trans (Nat.le_trans HE.out.size HE1.out.size) hk, fun e => by cases e⟩, ((Below.refl w4.heap.size w4).alloc (Nat.le_refl _) o).block k hks⟩))
      have HG5 := Lib.hid (fun o => heap_alloc_new w4 o)
      have HSZ5 := Lib.hid (Nat.le_trans HE.out.size HE4.out.size)
      clear hd hr4 he4 f0 f1 f2 f3
      go_wp2_with (at_builtin; refine app4 rfl _ _ rfl w.heap.size _ _ [] d _ _ _ _ rfl rfl (Row.nil _ _) (HG5.out _) (HD5.out _) (by simp) (Nat.le_trans HSZ5.out (by simp)) ?_; intro v' w6 hrow hg; have HROW6 := Lib.hid hrow; have HG6 := Lib.hid hg; clear hrow hg)
      have HA6 := Lib.hid (app_left HR4.out (HE.out.trans HE4.out) HBw.out rfl (Row.nil w.heap.size w4) HG6.out)
      have HR86 := Lib.hid (((HROW.out w4 HE4.out).frame0 (World.grownBy_alloc w4 _ none)).frame0 HG6.out)
      exact ⟨⟨.tail d _ rfl HR86.out HROW6.out rfl HA6.out.1 HX3.out, HA6.out.2⟩, by rw [HPOS.out, HA6.out.1.pos]; have := HLEN.out; omega⟩
    · -- the end behind a dot
      have HPOS := Lib.hid rr.pos
      have HR8 := Lib.hid h8
      have HR9 := Lib.hid h9
      obtain ⟨A9, n9, rfl, _⟩ := h9.form
      clear h8 h9
      have hbl := blanks0 hx (by decide) (by decide) (by decide) (by decide) (by decide)
      have hp1 := hx.cons.1
      have hat := hx.cons.2.1
      have HSK := Lib.hid (skip_any b s p1 p1 wr rr hs hbl)
      have HPK := Lib.hid (fun y (h : Rr b s p1 y) => (show Calls Tryd.prog 54 #[.pointer (some ⟨b, 0, none⟩)] y fun e w' => e = .returned (.int .u8 41) ∧ ∃ n, w' = y.drewN n from by have := peek_any b s p1 y h; rw [hat] at this; exact this))
      have HP := Lib.hid (HQ.out p1 hx)
      have hpz : decide (s.size ≤ p1) = false := by simp; omega
      clear hx hbl hat ht1
      have HROW := Lib.hid (fun y (h : Eb b wr y) => HR8.out.frame h HBw.out)
      have HROW9 := Lib.hid (fun y (h : Eb b wr y) => HR9.out.frame h HBw.out)
      go_wp2_with fail
      refine HSK.out.mono ?_
      rintro e w1 ⟨rfl, hr1, he1⟩
      have HR1 := Lib.hid hr1
      have HE1 := Lib.hid he1
      obtain ⟨f0, f1, f2, f3⟩ := hr1.cells
      clear hr1 he1
      go_wp2_with fail
      go_quiet (fail)
      go_wp2_with fail
      refine (HPK.out _ (HR1.out.drewN _)).mono ?_
      rintro e w2 ⟨rfl, m2, rfl⟩
      have HMV := Lib.hid (fun n => (HR1.out.drewN n).move (p1 + 1))
      have HEV := Lib.hid (fun n => (HE1.out.trans (Eb.drewN b w1 n)).trans (Eb.set1 b (w1.drewN n) (.int .i64 ((p1 + 1 : Nat) : Int))))
      rw [show ((p1 + 1 : Nat) : Int) = (p1 : Int) + 1 from by omega] at HMV HEV
      go_wp2_with fail
      exact bodyPost_ret (v := .tuple #[u8, .slice A9 1 n9]) (by simp [results, Tryd.results58, go_sem]) rfl (ItPost.of (HROW.out _ (HEV.out _)) (HROW9.out _ (HEV.out _)) (by rw [← HP.out]; exact HMV.out _) (HE.out.trans (HEV.out _)))
end Go.Proofs.YtcpicndapmaiaaaDoor
