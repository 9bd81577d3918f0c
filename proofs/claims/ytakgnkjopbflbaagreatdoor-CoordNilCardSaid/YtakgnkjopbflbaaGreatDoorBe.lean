/- Whole arrays, read and written, in a fenced walk. No condition. -/
import Derived.TacticsInMore
import Derived.RangeFuncWrites
import Derived.OwnWalkIn
import Derived.Test.YtakgnkjopbflbaaGreatDoorBd
namespace Go.Proofs.YtakgnkjopbflbaaGreatDoor
open Go.RowKit

section
variable {F : Fence} {nF : Nat} {P : Program} {ops : Array Oper} {rest : List Oper} {o : Oper} {a : Act} {w : World} {Q : Exit → Act → World → Prop}
/-- A whole array is read. -/
theorem wpListIn_load_arr (hgd : o.guard = none) (ty : TypeId) (x : Operand) (ho : o.op = .load ty x) (g n : Nat) (e : TypeId) (hx : a.eval x = .pointer (some ⟨g, 0, none⟩)) (cs : Array Value) (hg : CellsAt w g cs ty)
    (hu : P.underlying ty = some (.array n e)) (hi : (P.info? ty).map (·.size) = some n) (hs : cs.size = n) (h : wpListIn F nF P ops Q rest (a.put o.dst (.agg cs)) w) : wpListIn F nF P ops Q (o :: rest) a w := by
  refine wpListIn_plain hgd fun K' hK' => ?_
  have hrun := run_loadVar_row (P := P) w g ty ty cs (0, 0) _ hg hu rfl (by rw [hi, hs])
  unfold Oper.wpIn
  refine ⟨by simp [Oper.about, ho], ?_⟩
  rw [Oper.semAt_plain F _ _ (by rw [ho]; intro c hc'; cases hc')]
  simp only [execOp, ho, hx, Instr.loadAt, Instr.sureAddr, Sem.run_bind, Sem.run_pure, Result.andThen_ok, hrun]
  exact hK' _ _ h
/-- A whole array is written. -/
theorem wpListIn_store_arr (hgd : o.guard = none) (ty : TypeId) (x y : Operand) (ho : o.op = .store ty x y) (g n : Nat) (cs old : Array Value) (hx : a.eval x = .pointer (some ⟨g, 0, none⟩)) (hy : a.eval y = .agg cs) (hg : CellsAt w g old ty)
    (hi : (P.info? ty).map (·.size) = some n) (hs : cs.size = n) (hso : old.size = n) (h1 : cs.all (·.oneCell') = true) (h : wpListIn F nF P ops Q rest (a.put o.dst undef) (w.setRow g cs)) : wpListIn F nF P ops Q (o :: rest) a w := by
  refine wpListIn_plain hgd fun K' hK' => ?_
  have hrun := run_storeVar_row (P := P) w g ty ty old cs hg (by rw [hi, hs]) (by rw [hs, hso]) h1
  unfold Oper.wpIn
  refine ⟨by simp [Oper.about, ho], ?_⟩
  rw [Oper.semAt_plain F _ _ (by rw [ho]; intro c hc'; cases hc')]
  simp only [execOp, ho, hx, hy, Instr.storeAt, Instr.sureAddr, Sem.run_bind, Sem.run_pure, Result.andThen_ok, hrun]
  exact hK' _ _ h
/-- An array is read out of cells. -/
theorem run_loadVar_cells (ty e : TypeId) (n g o : Nat) (xs : List Value) (hu : P.underlying ty = some (.array n e)) (hi : (P.info? ty).map (·.size) = some n) (hl : xs.length = n)
    (hc : ∀ (j : Nat) v, xs[j]? = some v → w.cell? ⟨g, o + j, none⟩ = some v) : (loadVar ty ⟨g, o, none⟩).run P w = .ok (.agg xs.toArray) w := by
  have h1 : (loadCells ⟨g, o, none⟩ xs.length).run P w = .ok xs.toArray w :=
    run_loadCells_list (P := P) w ⟨g, o, none⟩ xs (fun j v hv => by
      have hadd : (⟨g, o, none⟩ : Addr).add j = ⟨g, o + j, none⟩ := by unfold Addr.add; split <;> simp_all
      rw [hadd]
      exact hc j v hv)
  cases hq : P.info? ty with
  | none => simp [hq] at hi
  | some i =>
    have hs : i.size = xs.length := by rw [hl]; simpa [hq] using hi
    have hagg : (isAgg ty).run P w = .ok true w := by
      unfold isAgg
      rw [Sem.run_bind, run_underlying hu w]
      rfl
    simp [loadVar, Sem.run_bind, hagg, sizeOf, typeInfo, hq, hs, h1]
theorem wpList_load_cells (hgd : o.guard = none) (ty : TypeId) (x : Operand) (ho : o.op = .load ty x) (g p n : Nat) (e : TypeId) (hx : a.eval x = .pointer (some ⟨g, p, none⟩)) (xs : List Value)
    (hu : P.underlying ty = some (.array n e)) (hi : (P.info? ty).map (·.size) = some n) (hl : xs.length = n) (hc : ∀ (j : Nat) v, xs[j]? = some v → w.cell? ⟨g, p + j, none⟩ = some v)
    (h : wpList P ops Q rest (a.put o.dst (.agg xs.toArray)) w) : wpList P ops Q (o :: rest) a w :=
  wpList_plain hgd fun _ hK => by
    unfold Oper.wp execOp
    simp only [ho, hx, Instr.loadAt, Instr.sureAddr, Sem.run_bind, Sem.run_pure, Result.andThen_ok, run_loadVar_cells ty e n g p xs hu hi hl hc]
    exact hK _ _ h
/-- An element of an array by value, of one cell. -/
theorem run_index_arr (t e : TypeId) (n : Nat) (cs : Array Value) (k : IntKind) (j : Nat) (v : Value) (h : P.underlying t = some (.array n e)) (hs : ∀ w, (sizeOf e).run P w = .ok 1 w) (ha : ∀ w, (isAgg e).run P w = .ok false w) (hj : j < n) (hv : cs[j]? = some v) (w : World) :
    (Instr.index t (.agg cs) (.int k j)).run P w = .ok v w := by
  simp [Instr.index, run_underlying h, asIntOf, hj, hs, part, ha, hv, Result.andThen]
/-- A slice as an array's address. -/
theorem run_toArray (t : TypeId) (n e : Nat) (a : Option Addr) (len cap : Nat) (h : P.underlying t = some (.array n e)) (hn : n ≤ len) (w : World) : (Instr.arrayAt t (.slice a len cap)).run P w = .ok (.pointer a) w := by
  have hn2 : ¬ len < n := by omega
  simp [Instr.arrayAt, run_underlying h, hn2, Result.andThen]
end

end Go.Proofs.YtakgnkjopbflbaaGreatDoor
