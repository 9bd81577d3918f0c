/- Whole arrays, read and written. No condition. -/
import Derived.Laws.Rows
import Derived.Laws.Tables
import Derived.Test.YtakgnkjopbflbaaGreatDoorBc
namespace Go.Proofs.YtakgnkjopbflbaaGreatDoor
open Go.RowKit

theorem CellsAt.setRow {w : World} {g : Nat} {old : Array Value} {t : TypeId} (h : CellsAt w g old t) (cs : Array Value) : CellsAt (w.setRow g cs) g cs t := setRow_heap w g old cs t (0, 0) h
theorem Mod.setRow {a w : World} {S : Nat → Prop} (h : Mod a w S) {g : Nat} (hp : S g ∨ a.heap.size ≤ g) (cs : Array Value) : Mod a (w.setRow g cs) S :=
  ⟨h.os, h.tape, h.output, by simp; exact h.size, fun k hk hn => by
    have hne : k ≠ g := fun e => by
      subst e
      rcases hp with h1 | h1
      · exact hn h1
      · omega
    rw [setRow_other w g k cs hne]
    exact h.block k hk hn⟩

theorem CellsAt.other {w : World} {g g2 : Nat} {cs : Array Value} {t : TypeId} (h : CellsAt w g cs t) (cs2 : Array Value) (hn : g ≠ g2) : CellsAt (w.setRow g2 cs2) g cs t := (setRow_other w g2 g cs2 hn).trans h
theorem new_at {w : World} {cs : Array Value} {t : TypeId} {g : Nat} (h : g = w.heap.size) : CellsAt (w.alloc (.cells cs t (0, 0))) g cs t := by subst h; exact CellsAt.new w cs t

section
variable {P : Program} {ops : Array Oper} {rest : List Oper} {o : Oper} {a : Act} {w : World} {Q : Exit → Act → World → Prop}
/-- A value built of constants. -/
theorem wpList_build_is (hg : o.guard = none) (t : TypeId) (parts : Array (Nat × Operand)) (ho : o.op = .build t parts) (cs : Array Value) (hb : P.built t (parts.map fun (i, x) => (i, a.eval x)).toList = some cs) (h : wpList P ops Q rest (a.put o.dst (.agg cs)) w) : wpList P ops Q (o :: rest) a w :=
  wpList_build hg t parts ho (by rw [hb]; rfl) (by rw [hb]; exact h)
/-- A whole array is read. -/
theorem wpList_load_arr (hgd : o.guard = none) (ty : TypeId) (x : Operand) (ho : o.op = .load ty x) (g n : Nat) (e : TypeId) (hx : a.eval x = .pointer (some ⟨g, 0, none⟩)) (cs : Array Value) (hg : CellsAt w g cs ty)
    (hu : P.underlying ty = some (.array n e)) (hi : (P.info? ty).map (·.size) = some n) (hs : cs.size = n) (h : wpList P ops Q rest (a.put o.dst (.agg cs)) w) : wpList P ops Q (o :: rest) a w :=
  wpList_load_row hgd ty x ho g hx ty cs (0, 0) _ hg hu rfl (by rw [hi, hs]) h
/-- A whole array is written. -/
theorem wpList_store_arr (hgd : o.guard = none) (ty : TypeId) (x y : Operand) (ho : o.op = .store ty x y) (g n : Nat) (cs old : Array Value) (hx : a.eval x = .pointer (some ⟨g, 0, none⟩)) (hy : a.eval y = .agg cs) (hg : CellsAt w g old ty)
    (hi : (P.info? ty).map (·.size) = some n) (hs : cs.size = n) (hso : old.size = n) (h1 : cs.all (·.oneCell') = true) (h : wpList P ops Q rest (a.put o.dst undef) (w.setRow g cs)) : wpList P ops Q (o :: rest) a w :=
  wpList_store_row hgd ty x y ho g cs hx hy ty old hg (by rw [hi, hs]) (by rw [hs, hso]) h1 h
end
/-- A result that is an array in a variable. -/
theorem ret_arr {P : Program} {fn : Func} {p : Tmp} {ty : TypeId} (h : fn.results = #[.cell p ty]) (tmps : Array Value) (w : World) (g n : Nat) (e : TypeId) (cs : Array Value) (hp : tmps.getD p undef = .pointer (some ⟨g, 0, none⟩)) (hg : CellsAt w g cs ty)
    (hu : P.underlying ty = some (.array n e)) (hi : (P.info? ty).map (·.size) = some n) (hs : cs.size = n) : (results fn tmps).run P w = .ok (.agg cs) w :=
  results_cell_row h tmps w g ty cs (0, 0) _ hp hg hu rfl (by rw [hi, hs])

end Go.Proofs.YtakgnkjopbflbaaGreatDoor
