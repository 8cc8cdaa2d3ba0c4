/- The checksum of bytes by halves, and bit by bit. -/
import Derived.Test.YtcpicndapmaiaaaDoorE6b
import Derived.Laws.BitsAllLaws
namespace Go.Proofs.YtcpicndapmaiaaaDoor
open Go Go.RowKit
def tab : List Nat := [0, 498536548, 997073096, 651767980, 1994146192, 1802195444, 1303535960, 1342533948, 3988292384, 4027552580, 3604390888, 3412177804, 2607071920, 2262029012, 2685067896, 3183342108]
/-- One bit of the register. -/
def bit1 (c : Nat) : Nat := if c % 2 = 1 then (c / 2) ^^^ 3988292384 else c / 2
/-- Four bits of the register by the table. -/
def tv (i : Nat) : Nat := tab.getD i 0
def half1 (c : Nat) : Nat := tv (c % 16) ^^^ (c / 16)
theorem xor_div2 (a b : Nat) : (a ^^^ b) / 2 = a / 2 ^^^ b / 2 := Nat.xor_div_two
theorem bit_xor (a b : Nat) : bit1 (a ^^^ b) = bit1 a ^^^ bit1 b := by
  unfold bit1
  have h : (a ^^^ b) % 2 = (a % 2 + b % 2) % 2 := by
    have := Nat.xor_mod_two_pow (a := a) (b := b) (n := 1)
    simp at this
    rw [this]
    have ha : a % 2 = 0 ∨ a % 2 = 1 := by omega
    have hb : b % 2 = 0 ∨ b % 2 = 1 := by omega
    rcases ha with ha | ha <;> rcases hb with hb | hb <;> simp [ha, hb]
  have ha : a % 2 = 0 ∨ a % 2 = 1 := by omega
  have hb : b % 2 = 0 ∨ b % 2 = 1 := by omega
  rw [h, xor_div2]
  rcases ha with ha | ha <;> rcases hb with hb | hb <;> simp [ha, hb]
  · rw [Nat.xor_assoc]
  · rw [Nat.xor_assoc, Nat.xor_assoc, Nat.xor_comm (b / 2)]
  · rw [Nat.xor_assoc, ← Nat.xor_assoc 3988292384, Nat.xor_comm 3988292384 (b / 2), Nat.xor_assoc (b / 2), Nat.xor_self, Nat.xor_zero]
def bit4 (c : Nat) : Nat := bit1 (bit1 (bit1 (bit1 c)))
theorem bit4_xor (a b : Nat) : bit4 (a ^^^ b) = bit4 a ^^^ bit4 b := by unfold bit4; rw [bit_xor, bit_xor, bit_xor, bit_xor]
theorem bit_even (q : Nat) : bit1 (2 * q) = q := by unfold bit1; rw [if_neg (by omega)]; omega
theorem bit4_16 (q : Nat) : bit4 (16 * q) = q := by
  unfold bit4
  rw [show 16 * q = 2 * (2 * (2 * (2 * q))) from by omega, bit_even, bit_even, bit_even, bit_even]
theorem bit4_low : ∀ r, r < 16 → bit4 r = tab.getD r 0 := by decide
theorem split16 (c : Nat) : c = (16 * (c / 16)) ^^^ (c % 16) := by
  apply Nat.eq_of_testBit_eq
  intro i
  have h1 : (16 * (c / 16)).testBit i = (decide (4 ≤ i) && c.testBit i) := by
    rw [show 16 * (c / 16) = 2 ^ 4 * (c / 2 ^ 4) from by simp, Nat.testBit_two_pow_mul, Nat.testBit_div_two_pow]
    by_cases h : 4 ≤ i
    · simp [h, show i - 4 + 4 = i from by omega]
    · simp [h]
  have h2 : (c % 16).testBit i = (decide (i < 4) && c.testBit i) := by
    rw [show (16 : Nat) = 2 ^ 4 from rfl, Nat.testBit_mod_two_pow]
  rw [Nat.testBit_xor, h1, h2]
  by_cases h : 4 ≤ i
  · have h' : ¬ i < 4 := by omega
    simp [h, h']
  · have h' : i < 4 := by omega
    simp [h, h']
theorem bit4_half (c : Nat) : bit4 c = half1 c := by
  have h := split16 c
  have h2 : bit4 c = bit4 ((16 * (c / 16)) ^^^ (c % 16)) := by rw [← h]
  rw [h2, bit4_xor, bit4_16, bit4_low _ (by omega), Nat.xor_comm]; rfl
theorem tv_lt : ∀ r, r < 16 → tv r < 2 ^ 32 := by decide
theorem half_lt (c : Nat) (h : c < 4294967296) : half1 c < 4294967296 := by
  have h1 : tv (c % 16) < 2 ^ 32 := tv_lt _ (by omega)
  exact Nat.xor_lt_two_pow (n := 32) h1 (by omega)
theorem bit_lt (c : Nat) (h : c < 4294967296) : bit1 c < 4294967296 := by
  unfold bit1; split
  · exact Nat.xor_lt_two_pow (n := 32) (by omega) (by decide)
  · omega
theorem byte_lt (c : Nat) (b : UInt8) (h : c < 4294967296) : c ^^^ b.toNat < 4294967296 := Nat.xor_lt_two_pow (n := 32) h (by have := b.toNat_lt; omega)
/-- The register behind these bytes. -/
def crc (l : List UInt8) : Nat := l.foldl (fun c b => half1 (half1 (c ^^^ b.toNat))) 4294967295
theorem crc_snoc (l : List UInt8) (k : Nat) (hk : k < l.length) : crc (l.take (k + 1)) = half1 (half1 (crc (l.take k) ^^^ l[k].toNat)) := by
  unfold crc; rw [List.take_succ_eq_append_getElem hk, List.foldl_append]; rfl
theorem crc_lt (l : List UInt8) : crc l < 4294967296 := by
  suffices h : ∀ (l : List UInt8) (c : Nat), c < 4294967296 → l.foldl (fun c b => half1 (half1 (c ^^^ b.toNat))) c < 4294967296 from h l _ (by decide)
  intro l
  induction l with
  | nil => intro c h; exact h
  | cons b l ih => intro c h; exact ih _ (half_lt _ (half_lt _ (byte_lt c b h)))
/-- The table lies in the program's own variable. -/
def TabAt (w : World) : Prop := ∀ i, i < 16 → w.cell? ⟨0, i, none⟩ = some (.int .u32 (tv i : Nat))
theorem low16 (c : Nat) (h : c < 4294967296) : bits .and .u32 (c : Int) 15 = ((c % 16 : Nat) : Int) := by
  have h1 := u32_and_nat c 15 h (by omega)
  rw [Nat.and_two_pow_sub_one_eq_mod c 4] at h1
  exact h1
theorem half_bits (c : Nat) (h : c < 4294967296) : bits .xor .u32 ((tv (c % 16) : Nat) : Int) ((c : Int) / 16) = ((half1 c : Nat) : Int) := by
  have h1 := u32_xor_nat (tv (c % 16)) (c / 16) (tv_lt _ (by omega)) (by omega)
  have e : ((c / 16 : Nat) : Int) = (c : Int) / 16 := by omega
  rw [e] at h1; exact h1
theorem sum_any (v : Value) (l : List UInt8) (w : World) (hr : Rd w v l) (ht : TabAt w) (hl : l.length ≤ 1000000000) :
    Calls Tryd.prog 29 #[v] w fun e w' => e = .returned (.int .u32 ((crc l ^^^ 4294967295 : Nat) : Int)) ∧ w' = w := by
  obtain ⟨A, cap, rfl, hc, h0, hcell⟩ := hr
  have HC := Lib.hid hcell
  have HT := Lib.hid ht
  have hfin : bits .xor .u32 IntKind.u32.max ((crc l : Nat) : Int) = ((crc l ^^^ 4294967295 : Nat) : Int) := by
    rw [Nat.xor_comm]; exact u32_xor_nat 4294967295 (crc l) (by omega) (crc_lt l)
  have HF := Lib.hid hfin
  clear hcell ht hfin h0
  go_enter Tryd.func29, Tryd.ntmps29
  go_wp2
  go_loop [3, 5, 8] (fun c' _ i => ∃ k : Nat, k ≤ l.length ∧ i = .int .i64 k ∧ c' = .int .u32 (crc (l.take k) : Nat)) (fun _ _ i => l.length - (intOf i).toNat)
  case atStart => exact ⟨0, Nat.zero_le _, rfl, rfl⟩
  case round =>
    obtain ⟨k, hk, rfl, rfl⟩ := hrel
    by_cases hlt : k < l.length
    · obtain ⟨ad, rfl, hx⟩ := HC.out k hlt
      have HSN := Lib.hid (crc_snoc l k hlt)
      have hcl := crc_lt (l.take k)
      obtain ⟨c, hcc⟩ : ∃ c, crc (l.take k) = c := ⟨_, rfl⟩
      obtain ⟨b, hb⟩ : ∃ b, l[k] = b := ⟨_, rfl⟩
      rw [hcc] at hcl HSN
      rw [hb] at hx HSN
      have h1 := u32_xor_nat c b.toNat hcl (by have := b.toNat_lt; omega)
      have l1 := byte_lt c b hcl
      obtain ⟨c1, hc1⟩ : ∃ c1, c ^^^ b.toNat = c1 := ⟨_, rfl⟩
      rw [hc1] at h1 l1 HSN
      have hm : ((b.toNat : Nat) : Int) % 4294967296 = (b.toNat : Int) := by have := b.toNat_lt; omega
      have h2 := low16 c1 l1
      have h3 := HT.out (c1 % 16) (by omega)
      have l3 : ((c1 % 16 : Nat) : Int) < 16 := by omega
      have l3' : (0 : Int) ≤ ((c1 % 16 : Nat) : Int) := by omega
      have h4 := half_bits c1 l1
      have k1 := half_lt c1 l1
      obtain ⟨c2, hc2⟩ : ∃ c2, half1 c1 = c2 := ⟨_, rfl⟩
      rw [hc2] at h4 k1 HSN
      have h5 := low16 c2 k1
      have h6 := HT.out (c2 % 16) (by omega)
      have m3 : ((c2 % 16 : Nat) : Int) < 16 := by omega
      have m3' : (0 : Int) ≤ ((c2 % 16 : Nat) : Int) := by omega
      have h7 := half_bits c2 k1
      obtain ⟨i2, hi2⟩ : ∃ i2, c2 % 16 = i2 := ⟨_, rfl⟩
      rw [hi2] at h5 h6 h7 m3 m3'
      obtain ⟨i1, hi1⟩ : ∃ i1, c1 % 16 = i1 := ⟨_, rfl⟩
      rw [hi1] at h2 h3 h4 l3 l3'
      rw [hcc]
      clear hcc hb hc1 hc2 hi1 hi2 k1 l1 hcl
      go_wp2
      go_round
      case rel => exact ⟨k + 1, by omega, by go_num, by rw [HSN.out]⟩
      case measure => simp [intOf]; omega
    · have HD := Lib.hid (show crc (l.take k) = crc l from by rw [List.take_of_length_le (by omega)])
      rw [HD.out]
      have hfin := HF.out
      go_wp2
      go_ret
      exact ⟨rfl, rfl⟩
theorem bit_and (c : Nat) (h : c < 4294967296) : bits .and .u32 (c : Int) 1 = ((c % 2 : Nat) : Int) := by
  have h1 := u32_and_nat c 1 h (by omega)
  rw [Nat.and_two_pow_sub_one_eq_mod c 1] at h1
  exact h1
def bitN : Nat → Nat → Nat
  | 0, c => c
  | n + 1, c => bit1 (bitN n c)
theorem bitN_lt (c : Nat) (h : c < 4294967296) : ∀ n, bitN n c < 4294967296
  | 0 => h
  | n + 1 => bit_lt _ (bitN_lt c h n)
theorem bitN8 (c : Nat) : bitN 8 c = half1 (half1 c) := by
  rw [← bit4_half, ← bit4_half]; rfl
theorem bit_poly (c : Nat) (h : c < 4294967296) : bits .xor .u32 ((c : Int) / 2) 3988292384 = (((c / 2) ^^^ 3988292384 : Nat) : Int) := by
  have h1 := u32_xor_nat (c / 2) 3988292384 (by omega) (by omega)
  have e : ((c / 2 : Nat) : Int) = (c : Int) / 2 := by omega
  rw [e] at h1; exact h1
theorem refSum_any (v : Value) (l : List UInt8) (w : World) (hr : Rd w v l) (hl : l.length ≤ 1000000000) :
    Calls Tryd.prog 30 #[v] w fun e w' => e = .returned (.int .u32 ((crc l ^^^ 4294967295 : Nat) : Int)) ∧ w' = w := by
  obtain ⟨A, cap, rfl, hc, h0, hcell⟩ := hr
  have HC := Lib.hid hcell
  have hfin : bits .xor .u32 ((crc l : Nat) : Int) 4294967295 = ((crc l ^^^ 4294967295 : Nat) : Int) := u32_xor_nat (crc l) 4294967295 (crc_lt l) (by omega)
  have HF := Lib.hid hfin
  clear hcell hfin h0
  go_enter Tryd.func30, Tryd.ntmps30
  go_wp2
  go_loop [3, 5, 6, 9, 17] (fun c' _ _ i _ => ∃ k : Nat, k ≤ l.length ∧ i = .int .i64 k ∧ c' = .int .u32 (crc (l.take k) : Nat)) (fun _ _ _ i _ => l.length - (intOf i).toNat)
  case atStart => exact ⟨0, Nat.zero_le _, rfl, rfl⟩
  case round =>
    obtain ⟨k, hk, rfl, rfl⟩ := hrel
    by_cases hlt : k < l.length
    · obtain ⟨ad, rfl, hx⟩ := HC.out k hlt
      have HSN := Lib.hid (crc_snoc l k hlt)
      have hcl := crc_lt (l.take k)
      obtain ⟨c, hcc⟩ : ∃ c, crc (l.take k) = c := ⟨_, rfl⟩
      obtain ⟨b, hb⟩ : ∃ b, l[k] = b := ⟨_, rfl⟩
      rw [hcc] at hcl HSN
      rw [hb] at hx HSN
      have h1 := u32_xor_nat c b.toNat hcl (by have := b.toNat_lt; omega)
      have l1 := byte_lt c b hcl
      obtain ⟨c1, hc1⟩ : ∃ c1, c ^^^ b.toNat = c1 := ⟨_, rfl⟩
      rw [hc1] at h1 l1 HSN
      have hm : ((b.toNat : Nat) : Int) % 4294967296 = (b.toNat : Int) := by have := b.toNat_lt; omega
      have HLT := Lib.hid (bitN_lt c1 l1)
      rw [hcc]
      clear hcc hb hc1 hcl l1
      go_wp2
      clear h1 hm hx
      go_loop [3, 6, 17] (fun c' _ i => ∃ j : Nat, j ≤ 8 ∧ i = .int .i64 j ∧ c' = .int .u32 (bitN j c1 : Nat)) (fun _ _ i => 8 - (intOf i).toNat)
      case atStart => exact ⟨0, by omega, rfl, rfl⟩
      case round =>
        obtain ⟨j, hj, rfl, rfl⟩ := hrel
        have hjl := HLT.out j
        have HNX := Lib.hid (show bitN (j + 1) c1 = bit1 (bitN j c1) from rfl)
        have HEND := Lib.hid (show ¬ j < 8 → bitN j c1 = half1 (half1 c1) from fun h => by rw [← bitN8, show j = 8 from by omega])
        obtain ⟨d, hd⟩ : ∃ d, bitN j c1 = d := ⟨_, rfl⟩
        rw [hd] at hjl HNX HEND ⊢
        clear hd
        by_cases hj8 : j < 8
        · have h2 := bit_and d hjl
          have h3 := bit_poly d hjl
          rcases (show d % 2 = 1 ∨ d % 2 = 0 from by omega) with hd | hd
          · have HB := Lib.hid (show bit1 d = (d / 2) ^^^ 3988292384 from by unfold bit1; rw [if_pos hd])
            rw [hd] at h2
            obtain ⟨e, he⟩ : ∃ e, (d / 2) ^^^ 3988292384 = e := ⟨_, rfl⟩
            rw [he] at h3 HB
            clear hd he hjl
            go_wp2
            go_round
            case rel => exact ⟨j + 1, by omega, by go_num, by rw [HNX.out, HB.out]⟩
            case measure => simp [intOf]; omega
          · have HB := Lib.hid (show bit1 d = d / 2 from by unfold bit1; rw [if_neg (by omega)])
            rw [hd] at h2
            clear hd hjl h3
            go_wp2
            go_round
            case rel => exact ⟨j + 1, by omega, by go_num, by rw [HNX.out, HB.out]; simp⟩
            case measure => simp [intOf]; omega
        · have HX := Lib.hid (HEND.out hj8)
          clear HEND HNX hjl
          go_wp2
          go_round
          case rel => exact ⟨k + 1, by omega, by go_num, by rw [HSN.out, HX.out]⟩
          case measure => simp [intOf]; omega
    · have HD := Lib.hid (show crc (l.take k) = crc l from by rw [List.take_of_length_le (by omega)])
      rw [HD.out]
      have hfin := HF.out
      go_wp2
      go_ret
      exact ⟨rfl, rfl⟩
end Go.Proofs.YtcpicndapmaiaaaDoor
