/- Answers without branches (package ct), by words of 64 bits. No condition. -/
import Derived.Test.YtlnjfcnhgndocaaBa
import Derived.Test.YtlnjfcnhgndocaaRows
import Derived.Laws.BitsAllLaws
namespace Go.Proofs.Ytlnjfcnhgndocaa
open Go.RowKit

abbrev W64 := BitVec 64
/-- A word as an unsigned, as a signed number. -/
abbrev U (x : W64) : Value := .int .u64 (x.toNat : Int)
abbrev I (x : W64) : Value := .int .i64 x.toInt

theorem xor_w (a b : W64) : bits .xor .u64 (a.toNat : Int) (b.toNat : Int) = ((a ^^^ b).toNat : Int) := by rw [u64_xor_nat _ _ a.isLt b.isLt, BitVec.toNat_xor]
theorem or_w (a b : W64) : bits .or .u64 (a.toNat : Int) (b.toNat : Int) = ((a ||| b).toNat : Int) := by rw [u64_or_nat _ _ a.isLt b.isLt, BitVec.toNat_or]
theorem and_w (a b : W64) : bits .and .u64 (a.toNat : Int) (b.toNat : Int) = ((a &&& b).toNat : Int) := by rw [u64_and_nat _ _ a.isLt b.isLt, BitVec.toNat_and]
theorem andNot_w (a b : W64) : bits .andNot .u64 (a.toNat : Int) (b.toNat : Int) = ((a &&& ~~~b).toNat : Int) := by rw [u64_andNot_nat _ _ a.isLt b.isLt, BitVec.toNat_and, BitVec.toNat_not]
theorem xor_lit (a b : W64) (n : Int) (h : (b.toNat : Int) = n) : bits .xor .u64 (a.toNat : Int) n = ((a ^^^ b).toNat : Int) := by rw [← h, xor_w]
theorem and_lit (a b : W64) (n : Int) (h : (b.toNat : Int) = n) : bits .and .u64 (a.toNat : Int) n = ((a &&& b).toNat : Int) := by rw [← h, and_w]
theorem neg_w (a : W64) : IntKind.u64.wrap (-(a.toNat : Int)) = ((-a).toNat : Int) := by
  rw [IntKind.wrap_u64, BitVec.toNat_neg]
  have := a.isLt
  omega
theorem not_w (a : W64) : bits .xor .u64 IntKind.u64.max (a.toNat : Int) = ((~~~a).toNat : Int) := by
  have h : IntKind.u64.max = ((BitVec.allOnes 64).toNat : Int) := by decide
  rw [h, xor_w, BitVec.allOnes_xor]
theorem sub_w (a b : W64) : IntKind.u64.wrap ((a.toNat : Int) - (b.toNat : Int)) = ((a - b).toNat : Int) := by
  rw [IntKind.wrap_u64, BitVec.toNat_sub]
  have := a.isLt
  have := b.isLt
  omega
theorem shr_w (a : W64) : (a.toNat : Int) / 9223372036854775808 = ((a >>> 63).toNat : Int) := by
  rw [BitVec.toNat_ushiftRight, Nat.shiftRight_eq_div_pow]
  omega
theorem of_i (a : W64) : IntKind.u64.wrap a.toInt = (a.toNat : Int) := by
  rw [IntKind.wrap_u64, BitVec.toInt_eq_toNat_cond]
  have := a.isLt
  split <;> omega
theorem to_i (a : W64) : IntKind.i64.wrap (a.toNat : Int) = a.toInt := by
  rw [BitVec.toInt_eq_toNat_cond]
  have := a.isLt
  unfold IntKind.wrap
  simp [IntKind.signed, IntKind.bits]
  split <;> split <;> omega

theorem shr63 (x : W64) : x >>> 63 = if x.msb then 1 else 0 := by
  apply BitVec.eq_of_toNat_eq
  rw [BitVec.toNat_ushiftRight, Nat.shiftRight_eq_div_pow, BitVec.msb_eq_decide]
  have := x.isLt
  by_cases h : 2 ^ (64 - 1) ≤ x.toNat
  · simp [h]; omega
  · simp [h]; omega

theorem same_val (a b : W64) : ((a ^^^ b) ||| (-(a ^^^ b))) >>> 63 ^^^ 1 = if a = b then 1 else 0 := by
  rw [shr63]
  by_cases h : a = b
  · subst h; simp
  · have h1 : a ^^^ b ≠ 0 := fun e => h (BitVec.xor_eq_zero_iff.1 e)
    obtain ⟨d, hd⟩ : ∃ d, a ^^^ b = d := ⟨_, rfl⟩
    rw [hd] at h1 ⊢
    have h2 : (d ||| -d).msb = true := by
      rw [BitVec.msb_or, BitVec.msb_eq_decide, BitVec.msb_eq_decide, BitVec.toNat_neg]
      have h3 : d.toNat ≠ 0 := fun e => h1 (BitVec.eq_of_toNat_eq e)
      have := d.isLt
      simp
      omega
    simp [h2, h]

theorem pick_val (c a b : W64) : (a &&& -(c &&& 1)) ||| (b &&& ~~~(-(c &&& 1))) = if c.getLsbD 0 then a else b := by
  have hb : c.getLsbD 0 = decide (c.toNat % 2 = 1) := by rw [← BitVec.testBit_toNat, Nat.testBit_zero]
  rw [hb]
  by_cases hc : c.toNat % 2 = 1
  · have h : c &&& 1 = 1 := by
      apply BitVec.eq_of_toNat_eq
      rw [BitVec.toNat_and]
      show c.toNat &&& 1 = 1
      rw [Nat.and_one_is_mod, hc]
    have h2 : -(1 : W64) = BitVec.allOnes 64 := by decide
    rw [h, h2]
    simp only [hc, decide_true, if_true, BitVec.and_allOnes, BitVec.not_allOnes, BitVec.and_zero, BitVec.or_zero]
  · have h : c &&& 1 = 0 := by
      apply BitVec.eq_of_toNat_eq
      rw [BitVec.toNat_and]
      show c.toNat &&& 1 = 0
      rw [Nat.and_one_is_mod]
      omega
    rw [h]
    simp only [hc, decide_false, Bool.false_eq_true, if_false]
    show a &&& 0#64 ||| b &&& BitVec.allOnes 64 = b
    rw [BitVec.and_zero, BitVec.and_allOnes, BitVec.zero_or]

theorem less_val (a b : W64) : ((~~~a &&& b) ||| ((~~~a ||| b) &&& (a - b))) >>> 63 = if a.ult b then 1 else 0 := by
  rw [shr63]
  have ha := a.isLt
  have hb := b.isLt
  have e : (((~~~a &&& b) ||| ((~~~a ||| b) &&& (a - b))).msb = true) = (a.ult b = true) := by
    simp only [BitVec.msb_or, BitVec.msb_and, BitVec.msb_not]
    rw [BitVec.msb_eq_decide (x := a), BitVec.msb_eq_decide (x := b), BitVec.msb_eq_decide (x := a - b), BitVec.toNat_sub]
    unfold BitVec.ult
    by_cases h1 : 2 ^ (64 - 1) ≤ a.toNat <;> by_cases h2 : 2 ^ (64 - 1) ≤ b.toNat <;> simp [h1, h2] <;> omega
  simp only [e]

theorem xor_top (r : Nat) (h : r < 9223372036854775808) : r ^^^ 9223372036854775808 = 2 ^ 63 + r := by
  have e : (9223372036854775808 : Nat) = 2 ^ 63 := rfl
  rw [e]
  apply Nat.eq_of_testBit_eq
  intro i
  rw [Nat.testBit_xor, Nat.testBit_two_pow]
  rcases Nat.lt_trichotomy i 63 with h1 | h1 | h1
  · rw [Nat.testBit_two_pow_add_gt h1]
    have : ¬ 63 = i := by omega
    simp [this]
  · subst h1
    rw [Nat.testBit_two_pow_add_eq]
    simp
  · have h2 : 2 ^ 63 + r < 2 ^ i := Nat.lt_of_lt_of_le (by omega : 2 ^ 63 + r < 2 ^ 64) (Nat.pow_le_pow_right (by decide) h1)
    have h3 : r < 2 ^ i := by omega
    rw [Nat.testBit_lt_two_pow h2, Nat.testBit_lt_two_pow h3]
    have : ¬ 63 = i := by omega
    simp [this]

theorem turn_val (a : W64) : (a ^^^ 9223372036854775808#64).toNat = if a.toNat < 9223372036854775808 then a.toNat + 9223372036854775808 else a.toNat - 9223372036854775808 := by
  rw [BitVec.toNat_xor]
  show a.toNat ^^^ 9223372036854775808 = _
  have ha := a.isLt
  split
  · rename_i h
    rw [xor_top _ h]
    omega
  · rename_i h
    obtain ⟨r, hr⟩ : ∃ r, a.toNat = 2 ^ 63 + r := ⟨a.toNat - 2 ^ 63, by omega⟩
    have h2 := xor_top r (by omega)
    rw [hr, ← h2, Nat.xor_assoc, Nat.xor_self, Nat.xor_zero, h2]
    omega

theorem below_val (a b : W64) : (a ^^^ 9223372036854775808#64).ult (b ^^^ 9223372036854775808#64) = a.slt b := by
  unfold BitVec.ult BitVec.slt
  rw [turn_val, turn_val, BitVec.toInt_eq_toNat_cond, BitVec.toInt_eq_toNat_cond]
  have := a.isLt
  have := b.isLt
  congr 1
  apply propext
  split <;> split <;> split <;> split <;> omega

def Reads (w : World) (v : Value) (e : Ending) (w' : World) : Prop := e = .returned v ∧ w = w'

theorem one_w : ((1 : W64).toNat : Int) = 1 := rfl

theorem ct_same (a b r : W64) (hr : Hid (r = if a = b then 1 else 0)) (w : World) : Calls Try.prog 42 #[U a, U b] w (Reads w (U r)) := by
  go_enter Try.func42, Try.ntmps42
  go_wp2_with fail
  go_ret
  refine ⟨congrArg (fun n => Ending.returned (Value.int .u64 n)) ?_, rfl⟩
  rw [hr.out, ← same_val]
  simp only [xor_w, neg_w, or_w]
  exact (congrArg (fun n => bits .xor .u64 n 1) (shr_w _)).trans (xor_lit _ 1 1 rfl)
theorem ct_pick (c a b r : W64) (hr : Hid (r = if c.getLsbD 0 then a else b)) (w : World) : Calls Try.prog 44 #[U c, U a, U b] w (Reads w (U r)) := by
  go_enter Try.func44, Try.ntmps44
  go_wp2_with fail
  go_ret
  refine ⟨congrArg (fun n => Ending.returned (Value.int .u64 n)) ?_, rfl⟩
  rw [hr.out, ← pick_val]
  simp only [and_lit _ 1 1 rfl, neg_w, and_w, andNot_w, or_w]
theorem ct_less (a b r : W64) (hr : Hid (r = if a.ult b then 1 else 0)) (w : World) : Calls Try.prog 52 #[U a, U b] w (Reads w (U r)) := by
  have hsg : IntKind.u64.signed = false := rfl
  go_enter Try.func52, Try.ntmps52
  go_wp2_with fail
  go_ret
  refine ⟨congrArg (fun n => Ending.returned (Value.int .u64 n)) ?_, rfl⟩
  rw [hr.out, ← less_val]
  simp only [not_w, sub_w, and_w, or_w]
  exact shr_w _
theorem ct_below (a b r : W64) (hr : Hid (r = if a.slt b then 1 else 0)) (w : World) : Calls Try.prog 45 #[I a, I b] w (Reads w (U r)) := by
  have e1 := of_i a
  have e2 := of_i b
  have e3 := xor_lit a 9223372036854775808#64 9223372036854775808 rfl
  have e4 := xor_lit b 9223372036854775808#64 9223372036854775808 rfl
  go_enter Try.func45, Try.ntmps45
  go_wp2_with fail
  refine (ct_less (a ^^^ 9223372036854775808#64) (b ^^^ 9223372036854775808#64) r (Lib.hid (by rw [hr.out, below_val])) w).mono ?_
  rintro e w1 ⟨rfl, rfl⟩
  go_wp2_with fail
  go_ret
  exact ⟨rfl, rfl⟩

end Go.Proofs.Ytlnjfcnhgndocaa
