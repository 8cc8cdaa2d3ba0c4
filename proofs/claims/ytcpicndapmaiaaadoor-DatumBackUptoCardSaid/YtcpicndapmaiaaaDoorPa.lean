import Derived.Test.YtcpicndapmaiaaaDoorRl
import Derived.Lib.SlBytesConst
namespace Go.Proofs.YtcpicndapmaiaaaDoor
open Go Go.RowKit
theorem refDigit_any (b : UInt8) (w : World) : Calls Tryd.prog 43 #[.int .u8 b.toNat] w fun e w' => e = .returned (.bool (dig b)) ∧ w = w' := by
  go_enter Tryd.func43, Tryd.ntmps43
  go_wp2
  all_goals
    go_ret
    refine ⟨ret_bool ?_, rfl⟩
    rw [Bool.eq_iff_iff]; simp [dig]; omega
def puncts : List UInt8 := [33, 36, 37, 38, 42, 47, 58, 60, 61, 62, 63, 94, 95, 126, 43, 45, 46, 64]
theorem indexByte_mem (b : UInt8) : ∀ l : List UInt8, (0 ≤ Lib.indexByte l b) ↔ b ∈ l
  | [] => by simp [Lib.indexByte]
  | a :: l => by
    have ih := indexByte_mem b l
    have hg := Lib.indexByte_ge l b
    unfold Lib.indexByte
    by_cases h : a = b
    · simp [h]
    · have h' : (a == b) = false := by simpa using h
      rw [h']
      by_cases h1 : Lib.indexByte l b = -1
      · rw [h1]; simp
        rw [h1] at ih
        have : b ∉ l := fun hm => by have := ih.2 hm; omega
        exact ⟨fun e => h e.symm, this⟩
      · have h1' : (Lib.indexByte l b == -1) = false := by simpa using h1
        rw [h1']; simp
        constructor
        · intro _; exact .inr (ih.1 (by omega))
        · rintro (e | e)
          · exact absurd e.symm h
          · have := ih.2 e; omega
theorem inner_eq (b : UInt8) : inner b = (dig b || (decide (97 ≤ b.toNat) && decide (b.toNat ≤ 122)) || (decide (65 ≤ b.toNat) && decide (b.toNat ≤ 90)) || decide (b ∈ puncts)) := by
  unfold inner
  congr 1
  rw [Bool.eq_iff_iff, decide_eq_true_eq, decide_eq_true_eq]
  exact indexByte_mem b puncts
theorem puncts_cell (w : World) (k : Nat) (h : k < 18) : (w.alloc (.cells #[Value.int IntKind.u8 33, Value.int IntKind.u8 36, Value.int IntKind.u8 37, Value.int IntKind.u8 38, Value.int IntKind.u8 42, Value.int IntKind.u8 47, Value.int IntKind.u8 58, Value.int IntKind.u8 60, Value.int IntKind.u8 61, Value.int IntKind.u8 62, Value.int IntKind.u8 63, Value.int IntKind.u8 94, Value.int IntKind.u8 95, Value.int IntKind.u8 126, Value.int IntKind.u8 43, Value.int IntKind.u8 45, Value.int IntKind.u8 46, Value.int IntKind.u8 64] 5 (18, 19))).cell? ⟨w.heap.size, k, none⟩ = some (.int .u8 ((puncts.getD k 0).toNat : Int)) := by
  have e : (w.alloc (.cells #[Value.int IntKind.u8 33, Value.int IntKind.u8 36, Value.int IntKind.u8 37, Value.int IntKind.u8 38, Value.int IntKind.u8 42, Value.int IntKind.u8 47, Value.int IntKind.u8 58, Value.int IntKind.u8 60, Value.int IntKind.u8 61, Value.int IntKind.u8 62, Value.int IntKind.u8 63, Value.int IntKind.u8 94, Value.int IntKind.u8 95, Value.int IntKind.u8 126, Value.int IntKind.u8 43, Value.int IntKind.u8 45, Value.int IntKind.u8 46, Value.int IntKind.u8 64] 5 (18, 19))).cell? ⟨w.heap.size, k, none⟩ = (puncts.map fun b => Value.int .u8 (b.toNat : Int)).toArray[k]? := by
    rw [Go.cell_of_row (w.alloc _) w.heap.size k _ 5 (18, 19) (heap_alloc_new w _)]; rfl
  rw [e]
  simp only [List.getElem?_toArray, List.getElem?_map]
  rw [List.getElem?_eq_getElem (show k < puncts.length from h), List.getD_eq_getElem?_getD, List.getElem?_eq_getElem (show k < puncts.length from h)]
  rfl
theorem puncts_mem (b : UInt8) : b ∈ puncts ↔ ∃ k, k < 18 ∧ puncts.getD k 0 = b := by
  constructor
  · intro h
    obtain ⟨k, hk, e⟩ := List.getElem_of_mem h
    exact ⟨k, hk, by rw [List.getD_eq_getElem?_getD, List.getElem?_eq_getElem hk]; exact e⟩
  · rintro ⟨k, hk, rfl⟩
    rw [List.getD_eq_getElem?_getD, List.getElem?_eq_getElem (show k < puncts.length from hk)]
    exact List.getElem_mem _
def early (b : UInt8) : Bool := dig b || (decide (97 ≤ b.toNat) && decide (b.toNat ≤ 122)) || (decide (65 ≤ b.toNat) && decide (b.toNat ≤ 90))
set_option maxRecDepth 100000 in
theorem part_any (b : UInt8) (w : World) : Calls Tryd.prog 44 #[.int .u8 b.toNat] w fun e w' => e = .returned (.bool (inner b)) ∧ Below w.heap.size w w' := by
  have HI := Lib.hid (show inner b = (early b || decide (b ∈ puncts)) from inner_eq b)
  go_enter Tryd.func44, Tryd.ntmps44
  go_upto_region 1 with fail
  go_cut [22] (fun v wc => w = wc ∧ v = .bool (early b))
  case first =>
    have hd := refDigit_any b
    obtain ⟨x, hx⟩ : ∃ x, dig b = x := ⟨_, rfl⟩
    rw [hx] at hd
    have Hd := Lib.hid hd; clear hd
    have Hx := Lib.hid hx; clear hx
    cases x
    all_goals
      go_wp2_with (go_at_call 43; refine (Hd.out _).mono ?_; rintro e w' ⟨rfl, rfl⟩)
      all_goals
        go_meet
        refine ⟨rfl, congrArg Value.bool ?_⟩
        rw [Bool.eq_iff_iff]; simp [early, Hx.out]; try omega
  case rest =>
    obtain ⟨rfl, rfl⟩ := hcut
    cases he : early b with
    | true =>
      go_wp2
      go_ret
      exact ⟨ret_bool (by rw [HI.out, he]; rfl), Below.refl _ _⟩
    | false =>
      have HR := Lib.hid (show inner b = decide (b ∈ puncts) by rw [HI.out, he]; rfl)
      clear HI he
      have kc := fun (w : World) (C : Array Value) (n c : Nat) => Lib.run_convert_bytes_const (P := Tryd.prog) w 27 5 C n c Tryd.underlying27 Tryd.underlying5
      go_wp2
      go_loop [4, 26] (fun _ i => ∃ k : Nat, k ≤ 18 ∧ i = .int .i64 k ∧ Hid (∀ j, j < k → puncts.getD j 0 ≠ b)) (fun _ i => 18 - (intOf i).toNat)
      case atStart => exact ⟨0, Nat.zero_le _, rfl, fun j hj => absurd hj (Nat.not_lt_zero j)⟩
      case round =>
        obtain ⟨k, hk, rfl, HN⟩ := hrel
        by_cases hlt : k < 18
        · have hc := puncts_cell w k hlt
          obtain ⟨x, hx⟩ : ∃ x, puncts.getD k 0 = x := ⟨_, rfl⟩
          rw [hx] at hc
          have HX := Lib.hid hx
          clear hx
          by_cases hxb : x = b
          · subst hxb
            have HM := Lib.hid (show decide (x ∈ puncts) = true from decide_eq_true ((puncts_mem x).2 ⟨k, hlt, HX.out⟩))
            go_wp2
            go_ret
            exact ⟨ret_bool (by rw [HR.out, HM.out]), (Below.refl _ _).alloc (Nat.le_refl _) _⟩
          · have hne : ((x.toNat : Int) == (b.toNat : Int)) = false := by
              rw [beq_eq_false_iff_ne]; intro h; exact hxb (UInt8.toNat_inj.1 (by omega))
            have HNE := Lib.hid hxb
            clear hxb
            go_wp2
            go_round
            case rel => exact ⟨k + 1, by omega, by go_num, fun j hj => by
              by_cases e : j = k
              · subst e; rw [HX.out]; exact HNE.out
              · exact HN.out j (by omega)⟩
            case measure => simp [intOf]; omega
        · have HM := Lib.hid (show decide (b ∈ puncts) = false from decide_eq_false (fun h => by
            obtain ⟨j, hj, e⟩ := (puncts_mem b).1 h
            exact HN.out j (by omega) e))
          go_wp2
          go_ret
          exact ⟨ret_bool (by rw [HR.out, HM.out]), (Below.refl _ _).alloc (Nat.le_refl _) _⟩
end Go.Proofs.YtcpicndapmaiaaaDoor
