/- A program that may be (vm.Check); a fold, a finish (vm.done, vm.Fold, vm.Finish). No condition. -/
import Derived.Test.YtlnjfcnhgndocaaVf
namespace Go.Proofs.Ytlnjfcnhgndocaa
open Go.RowKit

/-- A part in memory, that may be. -/
structure PartAt (n₀ : Nat) (w : World) (k : Nat) (a : Option Addr) (len cap : Nat) (ops : List Op1) : Prop where
  at_ : OpsAt n₀ w (.slice a len cap) ops
  len40 : ops.length ≤ 40
  fine : ∀ o ∈ ops, FineOp k o

theorem PartAt.mod {n₀ : Nat} {w w' : World} {k : Nat} {a : Option Addr} {len cap : Nat} {ops : List Op1} (h : PartAt n₀ w k a len cap ops) (hm : Mod w w' Nob) (hn : n₀ ≤ w.heap.size) : PartAt n₀ w' k a len cap ops :=
  ⟨h.at_.below (hm.below hn (fun _ h => h.elim)), h.len40, h.fine⟩

/-- A program in memory, that may be. -/
structure ProgAt (n₀ : Nat) (w : World) (K : Nat) (a1 : Option Addr) (l1 c1 : Nat) (ms : List Op1) (a2 : Option Addr) (l2 c2 : Nat) (fs : List Op1) (a3 : Option Addr) (l3 c3 : Nat) (ns : List Op1) : Prop where
  k1 : 1 ≤ K
  k4 : K ≤ 4
  m : PartAt n₀ w K a1 l1 c1 ms
  f : PartAt n₀ w 0 a2 l2 c2 fs
  n : PartAt n₀ w 0 a3 l3 c3 ns

section
variable {n₀ : Nat} {w w' : World} {K : Nat} {a1 : Option Addr} {l1 c1 : Nat} {ms : List Op1} {a2 : Option Addr} {l2 c2 : Nat} {fs : List Op1} {a3 : Option Addr} {l3 c3 : Nat} {ns : List Op1}

theorem ProgAt.mod (h : ProgAt n₀ w K a1 l1 c1 ms a2 l2 c2 fs a3 l3 c3 ns) (hm : Mod w w' Nob) (hn : n₀ ≤ w.heap.size) : ProgAt n₀ w' K a1 l1 c1 ms a2 l2 c2 fs a3 l3 c3 ns :=
  ⟨h.k1, h.k4, h.m.mod hm hn, h.f.mod hm hn, h.n.mod hm hn⟩

set_option maxRecDepth 100000 in
set_option maxHeartbeats 1000000 in
theorem check_yes (h : ProgAt n₀ w K a1 l1 c1 ms a2 l2 c2 fs a3 l3 c3 ns) (hn : n₀ ≤ w.heap.size) :
    Calls Try.prog 20 #[.agg #[.int .i64 K, .slice a1 l1 c1, .slice a2 l2 c2, .slice a3 l3 c3]] w (Tells w (.int .i64 0)) := by
  obtain ⟨k1, k4, hm, hf, hnn⟩ := h
  have hk1 : (1 : Int) ≤ (K : Int) := by omega
  have hk4 : (K : Int) ≤ 4 := by omega
  have hB := (Mod.refl w Nob).alloc (.cells #[.int .i64 K, .slice a1 l1 c1, .slice a2 l2 c2, .slice a3 l3 c3] 30)
  go_enter Try.func20, Try.ntmps20
  go_wp2_with fail
  have cB := CellsAt.new w #[.int .i64 K, .slice a1 l1 c1, .slice a2 l2 c2, .slice a3 l3 c3] 30
  obtain ⟨W, hW⟩ : ∃ W, w.alloc (.cells #[.int .i64 K, .slice a1 l1 c1, .slice a2 l2 c2, .slice a3 l3 c3] 30) = W := ⟨_, rfl⟩
  rw [hW] at hB cB ⊢
  have lW := hB.size
  refine (part_yes K a1 l1 c1 ms n₀ W (by omega) (hm.mod hB hn).at_ hm.len40 hm.fine).mono ?_
  rintro e w1 ⟨rfl, m1⟩
  have c1' := cB.mod m1 nob
  have e2 := c1'.cell 2
  simp at e2
  replace m1 := hB.trans m1
  have lw1 := m1.size
  go_wp2_with fail
  refine (part_yes 0 a2 l2 c2 fs n₀ w1 (by omega) (hf.mod m1 hn).at_ hf.len40 hf.fine).mono ?_
  rintro e w2 ⟨rfl, m2⟩
  have c2' := c1'.mod m2 nob
  have e3 := c2'.cell 3
  simp at e3
  replace m2 := m1.trans m2
  have lw2 := m2.size
  go_wp2_with fail
  refine (part_yes 0 a3 l3 c3 ns n₀ w2 (by omega) (hnn.mod m2 hn).at_ hnn.len40 hnn.fine).mono ?_
  rintro e w3 ⟨rfl, m3⟩
  go_wp2_with fail
  go_ret
  exact ⟨rfl, m2.trans m3⟩
end
end Go.Proofs.Ytlnjfcnhgndocaa
