/- Whether a job may be (spec.May). No condition. -/
import Derived.Test.YtlnjfcnhgndocaaVi
namespace Go.Proofs.Ytlnjfcnhgndocaa
open Go.RowKit

section
variable {n₀ : Nat} {w w' : World} {K : Nat} {a1 : Option Addr} {l1 c1 : Nat} {ms : List Op1} {a2 : Option Addr} {l2 c2 : Nat} {fs : List Op1} {a3 : Option Addr} {l3 c3 : Nat} {ns : List Op1}

set_option maxRecDepth 100000 in
set_option maxHeartbeats 1000000 in
theorem may_yes (h : ProgAt n₀ w K a1 l1 c1 ms a2 l2 c2 fs a3 l3 c3 ns) (hn : n₀ ≤ w.heap.size) (len : Nat) (b wk : Int) (hf : fit len K b wk) (a : Option Addr) (cap : Nat) :
    Calls Try.prog 13 #[.agg #[.int .i64 K, .slice a1 l1 c1, .slice a2 l2 c2, .slice a3 l3 c3], .agg #[.int .i64 len, .int .i64 K, .int .i64 b, .int .i64 wk], .slice a len cap] w (Tells w (.int .i64 0)) := by
  have hR (W : World) := right_any len K b wk W
  simp only [if_pos hf] at hR
  clear hf
  have hB := ((Mod.refl w Nob).alloc (.cells #[.int .i64 K, .slice a1 l1 c1, .slice a2 l2 c2, .slice a3 l3 c3] 30)).alloc (.cells #[.int .i64 len, .int .i64 K, .int .i64 b, .int .i64 wk] 33)
  have cP := (CellsAt.new w #[.int .i64 K, .slice a1 l1 c1, .slice a2 l2 c2, .slice a3 l3 c3] 30).alloc (.cells #[.int .i64 len, .int .i64 K, .int .i64 b, .int .i64 wk] 33)
  have cI := CellsAt.new (w.alloc (.cells #[.int .i64 K, .slice a1 l1 c1, .slice a2 l2 c2, .slice a3 l3 c3] 30)) #[.int .i64 len, .int .i64 K, .int .i64 b, .int .i64 wk] 33
  rw [World.size_alloc] at cI
  go_enter Try.func13, Try.ntmps13
  go_wp2_with fail
  obtain ⟨W, hW⟩ : ∃ W, (w.alloc (.cells #[.int .i64 K, .slice a1 l1 c1, .slice a2 l2 c2, .slice a3 l3 c3] 30)).alloc (.cells #[.int .i64 len, .int .i64 K, .int .i64 b, .int .i64 wk] 33) = W := ⟨_, rfl⟩
  rw [hW] at hB cP cI ⊢
  have lW := hB.size
  clear hW
  refine (hR W).mono ?_
  rintro e w1 ⟨rfl, m1⟩
  replace cP := cP.mod m1 nob
  replace cI := cI.mod m1 nob
  replace m1 := hB.trans m1
  have lw1 := m1.size
  have p0 := cP.cell 0
  have p1 := cP.cell 1
  have p2 := cP.cell 2
  have p3 := cP.cell 3
  simp at p0 p1 p2 p3
  go_wp2_with fail
  refine (check_yes (h.mod m1 hn) (by omega)).mono ?_
  rintro e w2 ⟨rfl, m2⟩
  replace cP := cP.mod m2 nob
  replace cI := cI.mod m2 nob
  replace m2 := m1.trans m2
  clear p0 p1 p2 p3
  have p0 := cP.cell 0
  have i0 := cI.cell 0
  have i1 := cI.cell 1
  simp at p0 i0 i1
  go_wp2_with fail
  go_ret
  exact ⟨rfl, m2⟩
end
end Go.Proofs.Ytlnjfcnhgndocaa
