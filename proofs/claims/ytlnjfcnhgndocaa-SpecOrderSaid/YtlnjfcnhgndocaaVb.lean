/- What an operation makes (vm.made), by words of 64 bits. No condition. -/
import Derived.Test.YtlnjfcnhgndocaaVa
namespace Go.Proofs.Ytlnjfcnhgndocaa
open Go.RowKit

/-- An operation: its code, registers, number. -/
structure Op1 where
  code : Int
  d : Int
  a : Int
  b : Int
  c : Int
  n : W64

def Op1.made (o : Op1) (a b c : W64) : W64 :=
  if o.code = 1 then o.n else if o.code = 2 then a + b else if o.code = 3 then a - b else if o.code = 4 then a * b else if o.code = 5 then a &&& b else if o.code = 6 then a ||| b else if o.code = 7 then a ^^^ b
  else if o.code = 8 then (if a.slt b then 1 else 0) else if o.code = 9 then (if a = b then 1 else 0) else if o.code = 10 then (if a = 0 then c else b) else a.sshiftRight (b.toNat % 64)

theorem wrap_i (n : Int) : wrap64 n = n.bmod (2 ^ 64) := by
  unfold wrap64 Int.bmod
  have : ((2 ^ 64 : Nat) : Int) = 18446744073709551616 := by decide
  simp only [this]
  split <;> omega
theorem add_i (a b : W64) : wrap64 (a.toInt + b.toInt) = (a + b).toInt := by rw [wrap_i, BitVec.toInt_add]
theorem sub_i (a b : W64) : wrap64 (a.toInt - b.toInt) = (a - b).toInt := by rw [wrap_i, BitVec.toInt_sub]
theorem mul_i (a b : W64) : wrap64 (a.toInt * b.toInt) = (a * b).toInt := by rw [wrap_i, BitVec.toInt_mul]
theorem bits_i (x : W64) : IntKind.i64.wrap ((x.toNat : Nat) : Int) = x.toInt := to_i x
theorem and_i (a b : W64) : bits .and .i64 a.toInt b.toInt = (a &&& b).toInt := by
  show IntKind.i64.wrap ((BitVec.ofInt 64 a.toInt &&& BitVec.ofInt 64 b.toInt).toNat : Int) = _
  rw [BitVec.ofInt_toInt, BitVec.ofInt_toInt, to_i]
theorem or_i (a b : W64) : bits .or .i64 a.toInt b.toInt = (a ||| b).toInt := by
  show IntKind.i64.wrap ((BitVec.ofInt 64 a.toInt ||| BitVec.ofInt 64 b.toInt).toNat : Int) = _
  rw [BitVec.ofInt_toInt, BitVec.ofInt_toInt, to_i]
theorem xor_i (a b : W64) : bits .xor .i64 a.toInt b.toInt = (a ^^^ b).toInt := by
  show IntKind.i64.wrap ((BitVec.ofInt 64 a.toInt ^^^ BitVec.ofInt 64 b.toInt).toNat : Int) = _
  rw [BitVec.ofInt_toInt, BitVec.ofInt_toInt, to_i]

/-- It answers so, and nothing that was there has turned. -/
def Tells (w : World) (v : Value) (e : Ending) (w' : World) : Prop := e = .returned v ∧ Mod w w' Nob

theorem lit_ite (p : Prop) [Decidable p] : (if p then (1 : W64) else 0).getLsbD 0 = decide p := by by_cases h : p <;> simp [h]

set_option maxRecDepth 100000 in
set_option maxHeartbeats 1000000 in
theorem made_8 (d ra rb rc : Int) (n a b c : W64) (w : World) : Calls Try.prog 29 #[.agg #[.int .i64 8, .int .i64 d, .int .i64 ra, .int .i64 rb, .int .i64 rc, I n], I a, I b, I c] w (Tells w (I (if a.slt b then 1 else 0))) := by
  have e1 := of_i a
  have e2 := of_i b
  have e3 := of_i c
  have hm := (Mod.refl w Nob).alloc (.cells #[.int .i64 8, .int .i64 d, .int .i64 ra, .int .i64 rb, .int .i64 rc, I n] 41)
  obtain ⟨r8, h8⟩ : ∃ r8 : W64, Hid (r8 = if a.slt b then 1 else 0) := ⟨_, rfl⟩
  rw [← h8.out]
  have t8 := to_i r8
  go_enter Try.func29, Try.ntmps29
  go_wp2_with fail
  refine (ct_below a b r8 h8 _).mono ?_
  rintro e w' ⟨rfl, rfl⟩
  go_wp2_with fail
  go_ret
  exact ⟨rfl, hm⟩

set_option maxRecDepth 100000 in
set_option maxHeartbeats 1000000 in
theorem made_9 (d ra rb rc : Int) (n a b c : W64) (w : World) : Calls Try.prog 29 #[.agg #[.int .i64 9, .int .i64 d, .int .i64 ra, .int .i64 rb, .int .i64 rc, I n], I a, I b, I c] w (Tells w (I (if a = b then 1 else 0))) := by
  have e1 := of_i a
  have e2 := of_i b
  have e3 := of_i c
  have hm := (Mod.refl w Nob).alloc (.cells #[.int .i64 9, .int .i64 d, .int .i64 ra, .int .i64 rb, .int .i64 rc, I n] 41)
  obtain ⟨r8, h8⟩ : ∃ r8 : W64, Hid (r8 = if a = b then 1 else 0) := ⟨_, rfl⟩
  rw [← h8.out]
  have t8 := to_i r8
  go_enter Try.func29, Try.ntmps29
  go_wp2_with fail
  refine (ct_same a b r8 h8 _).mono ?_
  rintro e w' ⟨rfl, rfl⟩
  go_wp2_with fail
  go_ret
  exact ⟨rfl, hm⟩

set_option maxRecDepth 100000 in
set_option maxHeartbeats 1000000 in
theorem made_10 (d ra rb rc : Int) (n a b c : W64) (w : World) : Calls Try.prog 29 #[.agg #[.int .i64 10, .int .i64 d, .int .i64 ra, .int .i64 rb, .int .i64 rc, I n], I a, I b, I c] w (Tells w (I (if a = 0 then c else b))) := by
  have e1 := of_i a
  have e2 := of_i b
  have e3 := of_i c
  have hm := (Mod.refl w Nob).alloc (.cells #[.int .i64 10, .int .i64 d, .int .i64 ra, .int .i64 rb, .int .i64 rc, I n] 41)
  obtain ⟨s9, k9⟩ : ∃ s9 : W64, Hid (s9 = if a = 0 then 1 else 0) := ⟨_, rfl⟩
  obtain ⟨r8, h8⟩ : ∃ r8 : W64, Hid (r8 = if a = 0 then c else b) := ⟨_, rfl⟩
  have h10 : Hid (r8 = if s9.getLsbD 0 then c else b) := by
    rw [h8.out, k9.out, lit_ite]
    by_cases h : a = 0 <;> simp [h, Hid]
  rw [← h8.out]
  have t8 := to_i r8
  go_enter Try.func29, Try.ntmps29
  go_wp2_with fail
  refine (ct_same a 0 s9 k9 _).mono ?_
  rintro e w' ⟨rfl, rfl⟩
  go_wp2_with fail
  refine (ct_pick s9 c b r8 h10 _).mono ?_
  rintro e w' ⟨rfl, rfl⟩
  go_wp2_with fail
  go_ret
  exact ⟨rfl, hm⟩

set_option maxRecDepth 100000 in
set_option maxHeartbeats 2000000 in
theorem made_else (o : Op1) (a b c : W64) (w : World) (x8 : (o.code == 8) = false) (x9 : (o.code == 9) = false) (x10 : (o.code == 10) = false) : Calls Try.prog 29 #[.agg #[.int .i64 o.code, .int .i64 o.d, .int .i64 o.a, .int .i64 o.b, .int .i64 o.c, I o.n], I a, I b, I c] w (Tells w (I (o.made a b c))) := by
  have e2 := of_i b
  obtain ⟨s, hs⟩ : ∃ s : Nat, b.toNat % 64 = s := ⟨_, rfl⟩
  have hs0 : s < 64 := by omega
  have e4 : bits BinOp.and IntKind.u64 ((b.toNat : Nat) : Int) 63 = (s : Int) := by
    rw [and_lit b 63 63 rfl, BitVec.toNat_and]
    show ((b.toNat &&& 63 : Nat) : Int) = _
    rw [Nat.and_two_pow_sub_one_eq_mod b.toNat 6, ← hs]
  have hs1 : (0 : Int) ≤ (s : Int) := by omega
  have hsh : (a.sshiftRight s).toInt = a.toInt / 2 ^ s := by rw [BitVec.toInt_sshiftRight, Int.shiftRight_eq_div_pow]; rfl
  have HS := Lib.hid hsh
  have HT := Lib.hid hs
  have hmin : min s 64 = s := by omega
  clear hsh hs
  obtain ⟨r, hr⟩ : ∃ r, Hid (r = o.made a b c) := ⟨_, rfl⟩
  rw [← hr.out]
  have hm := (Mod.refl w Nob).alloc (.cells #[.int .i64 o.code, .int .i64 o.d, .int .i64 o.a, .int .i64 o.b, .int .i64 o.c, I o.n] 41)
  go_enter Try.func29, Try.ntmps29
  go_wp2_with fail
  all_goals go_ret
  all_goals refine ⟨congrArg (fun n => Ending.returned (Value.int .i64 n)) ?_, hm⟩
  all_goals rw [hr.out]
  all_goals unfold Op1.made
  all_goals simp only [beq_iff_eq, beq_eq_false_iff_ne, ne_eq] at *
  all_goals simp only [*, if_true, if_false, add_i, sub_i, mul_i, and_i, or_i, xor_i, HS.out, HT.out, Int.reduceEq]

theorem made_any (o : Op1) (a b c : W64) (w : World) : Calls Try.prog 29 #[.agg #[.int .i64 o.code, .int .i64 o.d, .int .i64 o.a, .int .i64 o.b, .int .i64 o.c, I o.n], I a, I b, I c] w (Tells w (I (o.made a b c))) := by
  by_cases h8 : o.code = 8
  · have e : o.made a b c = if a.slt b then 1 else 0 := by simp [Op1.made, h8]
    rw [e, h8]
    exact made_8 o.d o.a o.b o.c o.n a b c w
  by_cases h9 : o.code = 9
  · have e : o.made a b c = if a = b then 1 else 0 := by simp [Op1.made, h9]
    rw [e, h9]
    exact made_9 o.d o.a o.b o.c o.n a b c w
  by_cases h10 : o.code = 10
  · have e : o.made a b c = if a = 0 then c else b := by simp [Op1.made, h10]
    rw [e, h10]
    exact made_10 o.d o.a o.b o.c o.n a b c w
  exact made_else o a b c w (by simpa using h8) (by simpa using h9) (by simpa using h10)

end Go.Proofs.Ytlnjfcnhgndocaa
