/- A quarter round: chacha.Quarter. No condition. -/
import Derived.Test.YtaeociedjdgdfaaGreatDoorCw
namespace Go.Proofs.YtaeociedjdgdfaaGreatDoor
open Go.RowKit

/-- Four words. -/
structure W4 where (a b c d : UInt32)
/-- A quarter round. -/
def quarter (a b c d : UInt32) : W4 :=
  let a1 := a + b
  let d1 := rot32 (d ^^^ a1) 16
  let c1 := c + d1
  let b1 := rot32 (b ^^^ c1) 12
  let a2 := a1 + b1
  let d2 := rot32 (d1 ^^^ a2) 8
  let c2 := c1 + d2
  ⟨a2, rot32 (b1 ^^^ c2) 7, c2, d2⟩
theorem rot_n (x : UInt32) (r : Nat) (h : r < 32) (w : World) :
    Calls Tryz.prog 163 #[V32 x, .int .i64 r] w fun e w' => e = .returned (V32 (rot32 x r)) ∧ w' = w := by
  have hr : bits BinOp.and IntKind.u64 (IntKind.u64.wrap (r : Int)) 31 = (r : Int) := by
    have : r ∈ List.range 32 := List.mem_range.2 h
    revert this
    generalize r = q
    have : ∀ q ∈ List.range 32, bits BinOp.and IntKind.u64 (IntKind.u64.wrap (q : Int)) 31 = (q : Int) := by decide
    exact this q
  exact rotl_any x r r hr h w

/-- A turn of a word that is the sum of two, or turned by another one. -/
theorem quarter_eq (a b c d a1 x1 d1 c1 x2 b1 a2 x3 d2 c2 x4 b2 : UInt32) (h1 : a + b = a1) (h2 : d ^^^ a1 = x1) (h3 : rot32 x1 16 = d1) (h4 : c + d1 = c1) (h5 : b ^^^ c1 = x2) (h6 : rot32 x2 12 = b1)
    (h7 : a1 + b1 = a2) (h8 : d1 ^^^ a2 = x3) (h9 : rot32 x3 8 = d2) (h10 : c1 + d2 = c2) (h11 : b1 ^^^ c2 = x4) (h12 : rot32 x4 7 = b2) : quarter a b c d = ⟨a2, b2, c2, d2⟩ := by
  subst h1 h2 h3 h4 h5 h6 h7 h8 h9 h10 h11 h12
  rfl

set_option maxRecDepth 100000 in
set_option maxHeartbeats 1000000 in
theorem quarter_any (a b c d : UInt32) (w : World) :
    Calls Tryz.prog 149 #[V32 a, V32 b, V32 c, V32 d] w fun e w' => e = .returned (.tuple #[V32 (quarter a b c d).a, V32 (quarter a b c d).b, V32 (quarter a b c d).c, V32 (quarter a b c d).d]) ∧ w' = w := by
  obtain ⟨a1, h1⟩ : ∃ x, a + b = x := ⟨_, rfl⟩
  obtain ⟨x1, h2⟩ : ∃ x, d ^^^ a1 = x := ⟨_, rfl⟩
  obtain ⟨d1, h3⟩ : ∃ x, rot32 x1 16 = x := ⟨_, rfl⟩
  obtain ⟨c1, h4⟩ : ∃ x, c + d1 = x := ⟨_, rfl⟩
  obtain ⟨x2, h5⟩ : ∃ x, b ^^^ c1 = x := ⟨_, rfl⟩
  obtain ⟨b1, h6⟩ : ∃ x, rot32 x2 12 = x := ⟨_, rfl⟩
  obtain ⟨a2, h7⟩ : ∃ x, a1 + b1 = x := ⟨_, rfl⟩
  obtain ⟨x3, h8⟩ : ∃ x, d1 ^^^ a2 = x := ⟨_, rfl⟩
  obtain ⟨d2, h9⟩ : ∃ x, rot32 x3 8 = x := ⟨_, rfl⟩
  obtain ⟨c2, h10⟩ : ∃ x, c1 + d2 = x := ⟨_, rfl⟩
  obtain ⟨x4, h11⟩ : ∃ x, b1 ^^^ c2 = x := ⟨_, rfl⟩
  obtain ⟨b2, h12⟩ : ∃ x, rot32 x4 7 = x := ⟨_, rfl⟩
  rw [quarter_eq a b c d a1 x1 d1 c1 x2 b1 a2 x3 d2 c2 x4 b2 h1 h2 h3 h4 h5 h6 h7 h8 h9 h10 h11 h12]
  have e1 := n32_add a b
  have e2 := n32_xor d a1
  have e3 := rot_n x1 16 (by omega) w
  have e4 := n32_add c d1
  have e5 := n32_xor b c1
  have e6 := rot_n x2 12 (by omega) w
  have e7 := n32_add a1 b1
  have e8 := n32_xor d1 a2
  have e9 := rot_n x3 8 (by omega) w
  have e10 := n32_add c1 d2
  have e11 := n32_xor b1 c2
  have e12 := rot_n x4 7 (by omega) w
  rw [h1] at e1; rw [h2] at e2; rw [h3] at e3; rw [h4] at e4; rw [h5] at e5; rw [h6] at e6
  rw [h7] at e7; rw [h8] at e8; rw [h9] at e9; rw [h10] at e10; rw [h11] at e11; rw [h12] at e12
  clear h1 h2 h3 h4 h5 h6 h7 h8 h9 h10 h11 h12
  go_enter Tryz.func149, Tryz.ntmps149
  go_wp2_with fail
  refine e3.mono ?_
  rintro e w' ⟨rfl, rfl⟩
  clear e3
  go_wp2_with fail
  refine e6.mono ?_
  rintro e w' ⟨rfl, rfl⟩
  clear e6
  go_wp2_with fail
  refine e9.mono ?_
  rintro e w' ⟨rfl, rfl⟩
  clear e9
  go_wp2_with fail
  refine e12.mono ?_
  rintro e w' ⟨rfl, rfl⟩
  clear e12
  go_wp2_with fail
  refine bodyPost_ret (v := .tuple #[V32 a2, V32 b2, V32 c2, V32 d2]) ?_ rfl ⟨rfl, rfl⟩
  simp [results, Tryz.f149, go_sem]

end Go.Proofs.YtaeociedjdgdfaaGreatDoor
