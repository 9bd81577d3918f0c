/- What is no entry by its length is not opened. The condition: it has not 96 bytes. -/
import Derived.Test.YtakgnkjopbflbaaGreatDoorJe
namespace Go.Proofs.YtakgnkjopbflbaaGreatDoor
open Go.RowKit Go.Shelf
set_option linter.unusedSimpArgs false

def ent0 : Ent := ⟨0, 0, 0, 0⟩
set_option maxRecDepth 100000 in
set_option maxHeartbeats 1000000 in
theorem opened_short (jv nv : Value) (a : Option Addr) (n c : Nat) (w : World) (hn : n ≠ 96) :
    Calls Tryz.prog 45 #[jv, nv, .slice a n c] w fun e w' => e = .returned (.tuple #[.agg ent0.cells.toArray, .int .u64 0, .bool false]) ∧ Mod w w' Nob := by
  have hne : ((n : Int) == 96) = false := by simp; omega
  have c0 := CellsAt.new w ent0.cells.toArray 93
  go_enter Tryz.func45, Tryz.ntmps45
  go_wp2_with fail
  have k0 := c0.cell 0
  have k1 := c0.cell 1
  have k2 := c0.cell 2
  have k3 := c0.cell 3
  simp [ent0, Ent.cells] at k0 k1 k2 k3
  refine bodyPost_ret (v := .tuple #[.agg #[.int .i64 0, .int .i64 0, .int .u64 0, .int .i64 0], .int .u64 0, .bool false]) (by simp [results, Tryz.f45, go_sem, k0, k1, k2, k3]) rfl ⟨rfl, (Mod.refl w Nob).alloc _⟩

end Go.Proofs.YtakgnkjopbflbaaGreatDoor
