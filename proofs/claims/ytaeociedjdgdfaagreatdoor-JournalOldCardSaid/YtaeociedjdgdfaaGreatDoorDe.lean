/- Words of 64 bits; sums and products with what is carried; poly.plus. No condition. -/
import Derived.Test.YtaeociedjdgdfaaGreatDoorDs
import Derived.Test.YtaeociedjdgdfaaGreatDoorDc
namespace Go.Proofs.YtaeociedjdgdfaaGreatDoor
open Go.RowKit

/-- A word as a number. -/
def n64 (x : UInt64) : Int := (x.toNat : Int)
abbrev V64 (x : UInt64) : Value := .int .u64 (n64 x)
theorem n64_or (a b : UInt64) : bits BinOp.or IntKind.u64 (n64 a) (n64 b) = n64 (a ||| b) := or_u64 a b
theorem n64_and (a b : UInt64) : bits BinOp.and IntKind.u64 (n64 a) (n64 b) = n64 (a &&& b) := and_u64 a b
theorem n64_add (a b : UInt64) : IntKind.u64.wrap (n64 a + n64 b) = n64 (a + b) := add_u64 a b
theorem n64_nonneg (a : UInt64) : 0 ≤ n64 a := by unfold n64; omega
theorem n64_le (a : UInt64) : n64 a ≤ 18446744073709551615 := by have := a.toNat_lt; unfold n64; omega
theorem V64_of (q : Nat) (h : q < 18446744073709551616) : (q : Int) = n64 (UInt64.ofNat q) := by
  unfold n64
  rw [UInt64.toNat_ofNat_of_lt' h]

/-- What is carried of a sum. -/
def carry64 (x y c : UInt64) : UInt64 := UInt64.ofNat ((x.toNat + y.toNat + c.toNat) / 18446744073709551616)
theorem carry64_toNat (x y c : UInt64) : (carry64 x y c).toNat = (x.toNat + y.toNat + c.toNat) / 18446744073709551616 := by
  unfold carry64
  have h1 := x.toNat_lt
  have h2 := y.toNat_lt
  have h3 := c.toNat_lt
  rw [UInt64.toNat_ofNat_of_lt' (by show _ < 18446744073709551616; omega)]
theorem carry64_le (x y c : UInt64) (h : c.toNat ≤ 1) : (carry64 x y c).toNat ≤ 1 := by
  have h1 := x.toNat_lt
  have h2 := y.toNat_lt
  rw [carry64_toNat]
  omega
theorem add64_words (x y c : UInt64) (h : c.toNat ≤ 1) (w : World) : (callFunc 165 #[V64 x, V64 y, V64 c]).run Tryz.prog w = .ok (.value (.tuple #[V64 (x + y + c), V64 (carry64 x y c)])) w := by
  have h1 := add64_run x.toNat y.toNat c.toNat h w
  have e1 : (((x.toNat + y.toNat + c.toNat) % 18446744073709551616 : Nat) : Int) = n64 (x + y + c) := by
    unfold n64
    rw [UInt64.toNat_add, UInt64.toNat_add]
    simp
  have e2 : (((x.toNat + y.toNat + c.toNat) / 18446744073709551616 : Nat) : Int) = n64 (carry64 x y c) := by
    unfold n64
    rw [carry64_toNat]
  rw [e1, e2] at h1
  exact h1
theorem n64_zero : n64 0 = 0 := rfl
theorem add64_two (x y : UInt64) (w : World) : (callFunc 165 #[V64 x, V64 y, .int .u64 0]).run Tryz.prog w = .ok (.value (.tuple #[V64 (x + y), V64 (carry64 x y 0)])) w := by
  have h := add64_words x y 0 (by decide) w
  rwa [UInt64.add_zero] at h

/-- The upper word of a product. -/
def high64 (x y : UInt64) : UInt64 := UInt64.ofNat (x.toNat * y.toNat / 18446744073709551616)
theorem high64_toNat (x y : UInt64) : (high64 x y).toNat = x.toNat * y.toNat / 18446744073709551616 := by
  unfold high64
  have h1 := x.toNat_lt
  have h2 := y.toNat_lt
  have h3 : x.toNat * y.toNat ≤ 18446744073709551615 * 18446744073709551615 := Nat.mul_le_mul (by omega) (by omega)
  rw [UInt64.toNat_ofNat_of_lt' (by show _ < 18446744073709551616; omega)]
theorem mul64_words (x y : UInt64) (w : World) : Calls Tryz.prog 166 #[V64 x, V64 y] w fun e w' => e = .returned (.tuple #[V64 (high64 x y), V64 (x * y)]) ∧ w' = w := by
  have h1 := shelf_bits_Mul64 x.toNat y.toNat x.toNat_lt y.toNat_lt w
  have e1 : ((x.toNat * y.toNat / 18446744073709551616 : Nat) : Int) = n64 (high64 x y) := by
    unfold n64
    rw [high64_toNat]
  have e2 : ((x.toNat * y.toNat % 18446744073709551616 : Nat) : Int) = n64 (x * y) := by
    unfold n64
    rw [UInt64.toNat_mul]
  rw [e1, e2] at h1
  exact h1

/-- A number of three limbs. -/
structure N3 where (a b c : UInt64)
def N3.cells (t : N3) : Array Value := #[V64 t.a, V64 t.b, V64 t.c]
/-- A number and two limbs. -/
def N3.plus (t : N3) (x y z : UInt64) : N3 := ⟨t.a + x, t.b + y + carry64 t.a x 0, t.c + (z + carry64 t.b y (carry64 t.a x 0))⟩

set_option maxRecDepth 100000 in
set_option maxHeartbeats 1000000 in
theorem plus_any (t : N3) (x y z : UInt64) (w : World) :
    Calls Tryz.prog 153 #[.agg t.cells, V64 x, V64 y, V64 z] w fun e w' => e = .returned (.agg (t.plus x y z).cells) ∧ Mod w w' Nob := by
  obtain ⟨a, b, c⟩ := t
  have h1 := add64_two a x
  obtain ⟨s0, hs0⟩ : ∃ s, a + x = s := ⟨_, rfl⟩
  obtain ⟨c0, hc0⟩ : ∃ s, carry64 a x 0 = s := ⟨_, rfl⟩
  have hc1 : c0.toNat ≤ 1 := by rw [← hc0]; exact carry64_le a x 0 (by decide)
  have h2 := add64_words b y c0 hc1
  obtain ⟨s1, hs1⟩ : ∃ s, b + y + c0 = s := ⟨_, rfl⟩
  obtain ⟨c2, hc2⟩ : ∃ s, carry64 b y c0 = s := ⟨_, rfl⟩
  have h3 := n64_add z c2
  obtain ⟨s2, hs2⟩ : ∃ s, z + c2 = s := ⟨_, rfl⟩
  have h4 := n64_add c s2
  obtain ⟨s3, hs3⟩ : ∃ s, c + s2 = s := ⟨_, rfl⟩
  have hp : (N3.mk a b c).plus x y z = ⟨s0, s1, s3⟩ := by
    unfold N3.plus
    simp only [hs0, hc0, hs1, hc2, hs2, hs3]
  rw [hs0, hc0] at h1
  rw [hs1, hc2] at h2
  rw [hs2] at h3
  rw [hs3] at h4
  rw [hp]
  unfold N3.cells
  clear hp hs0 hc0 hc1 hs1 hc2 hs2 hs3
  go_enter Tryz.func153, Tryz.ntmps153
  go_wp2_with fail
  have c8 := new_at (w := w.alloc (.cells #[V64 s0, V64 s1, V64 s3] 208)) (cs := #[V64 s0, V64 s1, V64 s3]) (t := 208) (g := w.heap.size + 1) (by simp)
  exact bodyPost_ret (v := .agg #[V64 s0, V64 s1, V64 s3]) (ret_arr rfl _ _ (w.heap.size + 1) 3 29 _ rfl c8 Tryz.underlying208 (by kernel_rfl) rfl) rfl ⟨rfl, ((Mod.refl w Nob).alloc _).alloc _⟩

end Go.Proofs.YtaeociedjdgdfaaGreatDoor
