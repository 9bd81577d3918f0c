/- The sort of the library, over a row of the call's own. No condition. -/
import Derived.Sort.OwnSortedInts
import Derived.Test.YtlnjfcnhgndocaaVs
import Derived.Test.YtlnjfcnhgndocaaVn
namespace Go.Proofs.Ytlnjfcnhgndocaa
open Go.RowKit Go.Sort Go.Shelf

def sortW (l : List W64) : List W64 := l.mergeSort (fun a b => decide (a.toInt ≤ b.toInt))

theorem sortW_map (l : List W64) : (l.map BitVec.toInt).mergeSort (fun x y => decide (x ≤ y)) = (sortW l).map BitVec.toInt := by
  unfold sortW
  rw [List.map_mergeSort (s := fun x y => decide (x ≤ y))]
  intros; rfl

theorem sort_row (base : Nat) (sv : Value) (n : Nat) (l : List W64) (w : World) (h : w.ownsRow base 2 1 sv n (l.map I)) (hn : n ≤ 1000000) :
    Calls Try.prog 17 #[sv] w fun e w' => e = .returned (.tuple #[]) ∧ w'.ownsRow base 2 1 sv n ((sortW l).map I) ∧ Mod w w' (inBlock sv) := by
  obtain ⟨hl, h | ⟨g, cap, cur, rfl, hb, hg, hnc, hc, hs, ht⟩⟩ := h
  · obtain ⟨rfl, rfl⟩ := h
    have hl0 : l = [] := List.eq_nil_of_length_eq_zero (by simpa using hl)
    subst hl0
    refine (shelf_slices_Sort_int_none none 0 w).mono ?_
    rintro e w' ⟨rfl, rfl⟩
    refine ⟨rfl, ?_, Mod.refl _ _⟩
    have e0 : sortW [] = [] := List.mergeSort_nil
    rw [e0]
    exact World.ownsRow_nil _ _ _ _
  · have hln : l.length = n := by simpa using hl
    subst hln
    have hmm : (l.map I) = (l.map BitVec.toInt).map (Value.int .i64) := by simp [I]
    rw [hmm] at ht
    have hH := holds_of_blockI (ss := l.map BitVec.toInt) hg (by rw [List.length_map]; simpa using ht)
    have hS := shelf_slices_Sort_int g 0 cap (l.map BitVec.toInt) w hH (heap_lt hg) (by rw [List.length_map]; omega)
    rw [List.length_map] at hS
    refine hS.mono ?_
    rintro e w' ⟨rfl, q, os, rfl⟩
    rw [sortW_map]
    have e1 : (sortW l).length = l.length := List.length_mergeSort _
    have ho := ownsRow_sortedI (os := os) (n := q) (ss := l.map BitVec.toInt) (ts := (sortW l).map BitVec.toInt) (by simp [e1]) hb hg (by simpa using hnc) hc (by simpa using hs)
    rw [List.length_map, List.map_map] at ho
    have hgr := grownBy_sortedI (w := w) (g := g) (n := q) (os := os) ((sortW l).map BitVec.toInt).toArray
    exact ⟨rfl, ho, (Mod.refl w _).grown hgr (fun k hk => .inl hk)⟩

end Go.Proofs.Ytlnjfcnhgndocaa
