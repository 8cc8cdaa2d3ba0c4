/- code.Encode. -/
import Derived.Test.YtcpicndapmaiaaaDoorE1
namespace Go.Proofs.YtcpicndapmaiaaaDoor
open Go Go.RowKit
def textL (l : List UInt8) : List UInt8 := putB l.length ++ l
theorem textB_eq (s : ByteArray) : textB s = textL s.toList := by unfold textB textL; rw [toList_len]
def nsI (x : Ins) : List Nat := [x.op.toNat, x.a.toNat, x.b.toNat]
def encI (x : Ins) : List UInt8 := (nsI x).flatMap putB
def encK (d : D) : List UInt8 := textL (printOr d)
def encB (c : Cod) : List UInt8 := putB c.ins.length ++ (c.ins.flatMap encI ++ (putB c.consts.length ++ (c.consts.flatMap encK ++ (putB c.names.length ++ c.names.flatMap textB))))
theorem flat_snocE {α : Type} (f : α → List UInt8) (l : List α) (k : Nat) (hk : k < l.length) : (l.take (k + 1)).flatMap f = (l.take k).flatMap f ++ f l[k] := by
  rw [List.take_succ_eq_append_getElem hk, List.flatMap_append]; simp
theorem flat_take_len {α : Type} (f : α → List UInt8) (l : List α) (k : Nat) : ((l.take k).flatMap f).length ≤ (l.flatMap f).length := by
  have h : l.flatMap f = (l.take k).flatMap f ++ (l.drop k).flatMap f := by rw [← List.flatMap_append, List.take_append_drop]
  rw [h, List.length_append]; omega
theorem IsN.of (w : World) (l : List Nat) (cs : Array Value) (h : cs = (l.map fun (n : Nat) => Value.int .i64 n).toArray) (T : TypeId) : IsN (w.alloc (.cells cs T)) (some ⟨w.heap.size, 0, none⟩) l := by
  subst h
  intro i hi
  refine ⟨_, rfl, ?_⟩
  have e : (⟨w.heap.size, 0, none⟩ : Addr).add i = ⟨w.heap.size, i, none⟩ := by unfold Addr.add; split <;> simp_all
  rw [e]
  exact cell_of_row _ _ i _ _ _ (heap_alloc_new w _) |>.trans (by simp [hi])
theorem Bx.alloc {B b : Nat} {l : List UInt8} {w : World} (h : Bx B b l w) (o : Obj) : Bx B b l (w.alloc o) := h.below ((Below.refl _ _).alloc (Nat.le_refl _) o)
theorem Eb.alloc {b : Nat} {x y : World} (h : Eb b x y) (o : Obj) : Eb b x (y.alloc o) := h.trans (Eb.of ((Below.refl _ _).alloc (Nat.le_refl _) o))
theorem enc_bad (c : Cod) (A1 A2 A3 : Option Addr) (m1 m2 m3 : Nat) (w : World) (hc : IsC w c A1 A2 A3) (hs : c.Small) (hk : c.ok = false) :
    Calls Tryd.prog 5 #[.agg #[.slice A1 c.ins.length m1, .slice A2 c.consts.length m2, .slice A3 c.names.length m3]] w fun e w' => e = .returned (.tuple #[.slice none 0 0, .int .i64 130]) ∧ Below w.heap.size w w' := by
  have HB0 := Lib.hid ((Below.refl w.heap.size w).alloc (Nat.le_refl _) (.cells #[.slice A1 c.ins.length m1, .slice A2 c.consts.length m2, .slice A3 c.names.length m3] 26))
  have HC := Lib.hid (verify_any c A1 A2 A3 m1 m2 m3 _ (hc.below HB0.out) hs)
  rw [hk] at HC
  clear hc hs hk
  go_enter Tryd.func5, Tryd.ntmps5
  go_wp2_with (go_at_call 7; refine HC.out.mono ?_; rintro e w' ⟨rfl, hb⟩; have HB := Lib.hid hb; simp only [errI]; clear hb)
  exact bodyPost_ret (v := .tuple #[.slice none 0 0, .int .i64 130]) (by simp [results, Tryd.results5, go_sem]) rfl ⟨rfl, HB0.out.trans (HB.out.mono (by simp))⟩
theorem puts_here (ns : List Nat) (cs : Array Value) (h : cs = (ns.map fun (n : Nat) => Value.int .i64 n).toArray) (b : Nat) (l : List UInt8) (y : World) (hx : Bx b b l y)
    (hs : ∀ n, n ∈ ns → n ≤ 4611686018427387904) (hlen : ns.length ≤ 1000) (hl : l.length ≤ 90000000) :
    Calls Tryd.prog 17 #[.slice (some ⟨y.heap.size, 0, none⟩) ns.length ns.length, .pointer (some ⟨b, 0, none⟩)] (y.alloc (.cells cs 3)) fun e w' => e = .returned (.tuple #[]) ∧ Bx b b (l ++ ns.flatMap putB) w' ∧ Eb b y w' := by
  have hlt := hx.lt
  refine (puts_any (some ⟨y.heap.size, 0, none⟩) ns ns.length b b l (y.alloc (.cells cs 3)) (IsN.of y ns cs h 3) (by rintro ad e; injection e with e; subst e; simp; omega) (hx.alloc _) (by simp; omega) hs hlen hl).mono ?_
  rintro e w' ⟨h1, h2, h3⟩
  exact ⟨h1, h2, ((Eb.refl b y).alloc _).trans h3⟩
theorem put1 (n : Nat) (b : Nat) (l : List UInt8) (y : World) (hx : Bx b b l y) (hn : n ≤ 4611686018427387904) (hl : l.length ≤ 90000000) :
    Calls Tryd.prog 17 #[.slice (some ⟨y.heap.size, 0, none⟩) 1 1, .pointer (some ⟨b, 0, none⟩)] (y.alloc (.cells #[.int .i64 n] 3)) fun e w' => e = .returned (.tuple #[]) ∧ Bx b b (l ++ putB n) w' ∧ Eb b y w' := by
  have := puts_here [n] #[.int .i64 n] rfl b l y hx (by simpa using hn) (by simp) hl
  simpa using this
theorem put3 (x : Ins) (b : Nat) (l : List UInt8) (y : World) (hx : Bx b b l y) (hn : 0 ≤ x.op ∧ x.op ≤ 4611686018427387904 ∧ 0 ≤ x.a ∧ x.a ≤ 4611686018427387904 ∧ 0 ≤ x.b ∧ x.b ≤ 4611686018427387904) (hl : l.length ≤ 90000000) :
    Calls Tryd.prog 17 #[.slice (some ⟨y.heap.size, 0, none⟩) 3 3, .pointer (some ⟨b, 0, none⟩)] (y.alloc (.cells #[.int .i64 x.op, .int .i64 x.a, .int .i64 x.b] 3)) fun e w' => e = .returned (.tuple #[]) ∧ Bx b b (l ++ encI x) w' ∧ Eb b y w' := by
  obtain ⟨h1, h2, h3, h4, h5, h6⟩ := hn
  have := puts_here (nsI x) #[.int .i64 x.op, .int .i64 x.a, .int .i64 x.b] (by simp [nsI, Int.toNat_of_nonneg h1, Int.toNat_of_nonneg h3, Int.toNat_of_nonneg h5]) b l y hx (by simp only [nsI, List.mem_cons, List.not_mem_nil, or_false]; rintro n (rfl | rfl | rfl) <;> omega) (by simp [nsI]) hl
  exact this
end Go.Proofs.YtcpicndapmaiaaaDoor
