/- Small words for walks over objects of one block: what a block holds, and that nothing but some blocks has turned. No condition. -/
import Derived.Test.YtbgolijhhefdgaaRows
import Derived.WalkKit
import Derived.WalkSpells
import Derived.BigQuiet
import Derived.Deep.QuietTactic
import Derived.Lib.Hide
namespace Go.Proofs.Ytbgolijhhefdgaa
open Go.RowKit

/-- Of what was there, nothing but the blocks of a list has turned. -/
structure Mod (w w' : World) (bs : List Nat) : Prop where
  os : w'.os = w.os
  tape : w'.tape = w.tape
  output : w'.output = w.output
  size : w.heap.size ≤ w'.heap.size
  block : ∀ k, k < w.heap.size → ¬ k ∈ bs → w'.heap[k]? = w.heap[k]?

theorem Mod.refl (w : World) (bs : List Nat) : Mod w w bs := ⟨rfl, rfl, rfl, Nat.le_refl _, fun _ _ _ => rfl⟩

theorem Mod.trans {a b c : World} {bs : List Nat} (h : Mod a b bs) (k : Mod b c bs) : Mod a c bs :=
  ⟨k.os.trans h.os, k.tape.trans h.tape, k.output.trans h.output, Nat.le_trans h.size k.size,
   fun i hi hn => (k.block i (Nat.lt_of_lt_of_le hi h.size) hn).trans (h.block i hi hn)⟩

theorem Mod.weaken {a b : World} {bs cs : List Nat} (h : Mod a b bs) (hs : ∀ k, k ∈ bs → k ∈ cs) : Mod a b cs :=
  ⟨h.os, h.tape, h.output, h.size, fun i hi hn => h.block i hi (fun hm => hn (hs i hm))⟩

/-- A block that is new since the beginning need not be named. -/
theorem Mod.drop {a b c : World} {bs : List Nat} (h : Mod a b bs) {cs : List Nat} (k : Mod b c cs) (hs : ∀ x, x ∈ cs → x ∈ bs ∨ a.heap.size ≤ x) : Mod a c bs :=
  ⟨k.os.trans h.os, k.tape.trans h.tape, k.output.trans h.output, Nat.le_trans h.size k.size,
   fun i hi hn => (k.block i (Nat.lt_of_lt_of_le hi h.size) (fun hm => by
      rcases hs i hm with h1 | h1
      · exact hn h1
      · omega)).trans (h.block i hi hn)⟩

theorem Mod.drew {a w : World} {bs : List Nat} (h : Mod a w bs) : Mod a w.drew bs := ⟨h.os, h.tape, h.output, h.size, h.block⟩

theorem Mod.drewN {a w : World} {bs : List Nat} (h : Mod a w bs) (n : Nat) : Mod a (w.drewN n) bs := ⟨h.os, h.tape, h.output, h.size, h.block⟩

theorem Mod.setCell {a w : World} {bs : List Nat} (h : Mod a w bs) {p : Addr} (hp : p.block ∈ bs ∨ a.heap.size ≤ p.block) (u : Value) : Mod a (w.setCell p u) bs :=
  ⟨h.os, h.tape, h.output, by simpa [World.setCell] using h.size, fun k hk hn => by
    rw [Below.heap_setCell _ _ _ _ (by rintro rfl; rcases hp with h1 | h1; exact hn h1; omega)]
    exact h.block k hk hn⟩

theorem Mod.alloc {a w : World} {bs : List Nat} (h : Mod a w bs) (o : Obj) : Mod a (w.alloc o) bs :=
  ⟨h.os, h.tape, h.output, by have := h.size; simp; omega, fun k hk hn => by
    rw [Below.heap_alloc _ _ _ (by have := h.size; omega)]
    exact h.block k hk hn⟩

theorem Mod.below {w w' : World} {bs : List Nat} {B : Nat} (h : Mod w w' bs) (hB : B ≤ w.heap.size) (hb : ∀ k, k ∈ bs → B ≤ k) : Below B w w' :=
  ⟨h.os, h.tape, h.output, h.size, fun k hk => h.block k (by omega) (fun hm => by have := hb k hm; omega)⟩

theorem Mod.keep {w w' : World} {bs : List Nat} (h : Mod w w' bs) {b : Nat} {o : Obj} (hb : w.heap[b]? = some o) (hn : ¬ b ∈ bs) : w'.heap[b]? = some o := by
  have hlt : b < w.heap.size := by
    rcases Nat.lt_or_ge b w.heap.size with h1 | h1
    · exact h1
    · rw [Array.getElem?_eq_none h1] at hb; cases hb
  rw [h.block b hlt hn, hb]

/-- A block of cells, known whole, nothing of it frozen. -/
def CellsAt (w : World) (b : Nat) (cs : Array Value) (t : TypeId) : Prop := w.heap[b]? = some (.cells cs t (0, 0))

theorem CellsAt.cell {w : World} {b : Nat} {cs : Array Value} {t : TypeId} (h : CellsAt w b cs t) (i : Nat) : w.cell? ⟨b, i, none⟩ = cs[i]? := by
  unfold CellsAt at h
  simp [World.cell?, h]

theorem CellsAt.free {w : World} {b : Nat} {cs : Array Value} {t : TypeId} (h : CellsAt w b cs t) (i : Nat) : w.frozen? ⟨b, i, none⟩ = false := by
  unfold CellsAt at h
  simp [World.frozen?, h]

theorem CellsAt.lt {w : World} {b : Nat} {cs : Array Value} {t : TypeId} (h : CellsAt w b cs t) : b < w.heap.size := by
  unfold CellsAt at h
  rcases Nat.lt_or_ge b w.heap.size with h1 | h1
  · exact h1
  · rw [Array.getElem?_eq_none h1] at h; cases h

theorem CellsAt.set {w : World} {b : Nat} {cs : Array Value} {t : TypeId} (h : CellsAt w b cs t) (i : Nat) (v : Value) : CellsAt (w.setCell ⟨b, i, none⟩ v) b (cs.setIfInBounds i v) t := by
  have hl := h.lt
  unfold CellsAt at h ⊢
  simp only [World.setCell, Array.getElem?_modify, if_true]
  rw [h]; rfl

theorem CellsAt.mod {w w' : World} {b : Nat} {cs : Array Value} {t : TypeId} {bs : List Nat} (h : CellsAt w b cs t) (hm : Mod w w' bs) (hn : ¬ b ∈ bs) : CellsAt w' b cs t := hm.keep h hn

theorem CellsAt.new (w : World) (cs : Array Value) (t : TypeId) : CellsAt (w.alloc (.cells cs t (0, 0))) w.heap.size cs t := by
  show (w.heap.push (.cells cs t (0, 0)))[w.heap.size]? = _
  simp

theorem CellsAt.drew {w : World} {b : Nat} {cs : Array Value} {t : TypeId} (h : CellsAt w b cs t) : CellsAt w.drew b cs t := h

theorem CellsAt.alloc {w : World} {b : Nat} {cs : Array Value} {t : TypeId} (h : CellsAt w b cs t) (o : Obj) : CellsAt (w.alloc o) b cs t := h.mod ((Mod.refl w []).alloc o) (by simp)

end Go.Proofs.Ytbgolijhhefdgaa
