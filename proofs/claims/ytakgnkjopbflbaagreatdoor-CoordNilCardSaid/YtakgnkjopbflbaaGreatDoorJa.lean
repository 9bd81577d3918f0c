/- A trust: New, Begin, Epoch, Count, Writer, Move. The conditions: fewer than 60 epochs, fewer than 2^40 moves. -/
import Derived.Test.YtakgnkjopbflbaaGreatDoorSx
namespace Go.Proofs.YtakgnkjopbflbaaGreatDoor
open Go.RowKit

/-- A trust's numbers. -/
structure Tru where
  ep : Nat
  cnt : Nat
  wr : Nat
def Tru.cells (τ : Tru) : Array Value := #[.int .u64 τ.ep, .int .u64 τ.cnt, .int .u64 τ.wr, .int .u64 0, .int .i64 0]
def TruAt (w : World) (b : Nat) (τ : Tru) : Prop := CellsAt w b τ.cells 101
theorem TruAt.mod {w w' : World} {b : Nat} {τ : Tru} {S : Nat → Prop} (h : TruAt w b τ) (hm : Mod w w' S) (hn : ¬ S b) : TruAt w' b τ := CellsAt.mod h hm hn
theorem TruAt.at {w : World} {b : Nat} {τ : Tru} (h : TruAt w b τ) : w.cell? ⟨b, 0, none⟩ = some (.int .u64 τ.ep) ∧ w.cell? ⟨b, 1, none⟩ = some (.int .u64 τ.cnt) ∧ w.cell? ⟨b, 2, none⟩ = some (.int .u64 τ.wr) :=
  ⟨CellsAt.cell h 0, CellsAt.cell h 1, CellsAt.cell h 2⟩

set_option maxRecDepth 100000 in
set_option maxHeartbeats 400000 in
theorem trust_new (w : World) : Calls Tryz.prog 8 #[] w fun e w' => e = .returned (.pointer (some ⟨w.heap.size, 0, none⟩)) ∧ TruAt w' w.heap.size ⟨0, 0, 0⟩ ∧ Mod w w' Nob := by
  go_enter Tryz.func8, Tryz.ntmps8
  go_wp2_with fail
  go_ret
  exact ⟨rfl, CellsAt.new w _ _, (Mod.refl w Nob).alloc _⟩

set_option maxRecDepth 100000 in
set_option maxHeartbeats 400000 in
theorem trust_epoch (b : Nat) (τ : Tru) (w : World) (h : TruAt w b τ) : Calls Tryz.prog 42 #[.pointer (some ⟨b, 0, none⟩)] w fun e w' => e = .returned (.int .u64 τ.ep) ∧ w = w' := by
  obtain ⟨c0, c1, c2⟩ := h.at
  go_enter Tryz.func42, Tryz.ntmps42
  go_wp2_with fail
  go_ret
  exact ⟨rfl, rfl⟩
set_option maxRecDepth 100000 in
set_option maxHeartbeats 400000 in
theorem trust_count (b : Nat) (τ : Tru) (w : World) (h : TruAt w b τ) : Calls Tryz.prog 46 #[.pointer (some ⟨b, 0, none⟩)] w fun e w' => e = .returned (.int .u64 τ.cnt) ∧ w = w' := by
  obtain ⟨c0, c1, c2⟩ := h.at
  go_enter Tryz.func46, Tryz.ntmps46
  go_wp2_with fail
  go_ret
  exact ⟨rfl, rfl⟩
set_option maxRecDepth 100000 in
set_option maxHeartbeats 400000 in
theorem trust_writer (b : Nat) (τ : Tru) (w : World) (h : TruAt w b τ) : Calls Tryz.prog 47 #[.pointer (some ⟨b, 0, none⟩)] w fun e w' => e = .returned (.int .u64 τ.wr) ∧ w = w' := by
  obtain ⟨c0, c1, c2⟩ := h.at
  go_enter Tryz.func47, Tryz.ntmps47
  go_wp2_with fail
  go_ret
  exact ⟨rfl, rfl⟩

set_option maxRecDepth 100000 in
set_option maxHeartbeats 800000 in
theorem trust_begin (b : Nat) (τ : Tru) (w : World) (h : TruAt w b τ) (h6 : τ.ep < 60) : Calls Tryz.prog 22 #[.pointer (some ⟨b, 0, none⟩)] w fun e w' => e = .returned (.tuple #[.int .u64 ((τ.ep + 1 : Nat) : Int), .int .i64 0]) ∧ TruAt w' b ⟨τ.ep + 1, τ.cnt, τ.wr⟩ ∧ Mod w w' (· = b) := by
  obtain ⟨c0, c1, c2⟩ := h.at
  obtain ⟨ep, cnt, wr⟩ := τ
  have f0 := CellsAt.free h 0
  have s0 := CellsAt.set h 0 (.int .u64 ((ep + 1 : Nat) : Int))
  have k0 := CellsAt.cell s0 0
  have hw : IntKind.u64.wrap ((ep : Int) + 1) = ((ep + 1 : Nat) : Int) := by have := u64_wrap_id ((ep : Int) + 1) (by omega) (by simp only at h6; omega); rw [this]; omega
  simp only [Tru.cells] at s0 k0 c0
  simp at k0
  have hd : ¬ (60 : Int) ≤ (ep : Int) := by simp only at h6; omega
  have hm := (Mod.refl w (· = b)).setCell (p := ⟨b, 0, none⟩) (.inl rfl) (.int .u64 ((ep + 1 : Nat) : Int))
  rw [show (((ep + 1 : Nat) : Int)) = (ep : Int) + 1 by omega] at *
  go_enter Tryz.func22, Tryz.ntmps22
  go_wp2_with fail
  exact bodyPost_ret (v := .tuple #[.int .u64 ((ep : Int) + 1), .int .i64 0]) (by simp [results, Tryz.f22, go_sem]) rfl ⟨rfl, by unfold TruAt Tru.cells; simpa using s0, hm⟩

set_option maxRecDepth 100000 in
set_option maxHeartbeats 800000 in
theorem trust_move (b : Nat) (τ : Tru) (w : World) (h : TruAt w b τ) (h0 : 0 < τ.ep) (hc : τ.cnt < 1099511627776) : Calls Tryz.prog 52 #[.pointer (some ⟨b, 0, none⟩), .int .u64 τ.ep] w fun e w' => e = .returned (.int .i64 0) ∧ TruAt w' b ⟨τ.ep, τ.cnt + 1, τ.ep⟩ ∧ Mod w w' (· = b) := by
  obtain ⟨c0, c1, c2⟩ := h.at
  obtain ⟨ep, cnt, wr⟩ := τ
  have f1 := CellsAt.free h 1
  have s1 := CellsAt.set h 1 (.int .u64 ((cnt : Int) + 1))
  have f2 := CellsAt.free s1 2
  have k2 := CellsAt.cell s1 2
  have s2 := CellsAt.set s1 2 (.int .u64 (ep : Int))
  have hw : IntKind.u64.wrap ((cnt : Int) + 1) = (cnt : Int) + 1 := u64_wrap_id _ (by omega) (by simp only at hc; omega)
  simp only [Tru.cells] at k2
  simp at k2
  have hz : ((ep : Int) == 0) = false := by simp only at h0; simp; omega
  have hm := ((Mod.refl w (· = b)).setCell (p := ⟨b, 1, none⟩) (.inl rfl) (.int .u64 ((cnt : Int) + 1))).setCell (p := ⟨b, 2, none⟩) (.inl rfl) (.int .u64 (ep : Int))
  go_enter Tryz.func52, Tryz.ntmps52
  go_wp2_with fail
  go_ret
  exact ⟨rfl, by unfold TruAt Tru.cells; simpa [Tru.cells] using s2, hm⟩

end Go.Proofs.YtakgnkjopbflbaaGreatDoor
