/- The names of a nil store, told one by one; the law StoreNil. No condition. -/
import Derived.RangeFuncNested
import Derived.RangeFuncBound
import Derived.RangeFuncCalls
import Derived.RangeFuncLeaves
import Derived.Shelf.Abstract
import Derived.Shelf.RegionOpen
import Derived.OwnWalkIn
import Derived.TacticsInMore
import Derived.LoopNIn
import Derived.LoopIn
import Derived.Test.YtbpdmncobeiinaaNa
namespace Go.Proofs.Ytbpdmncobeiinaa
open Go.RowKit Go.Shelf
attribute [local go_sem] Oper.semAt_some

theorem Mod.of_below {w w' : World} (h : Below w.heap.size w w') : Mod w w' Nob := ⟨h.os, h.tape, h.output, h.size, fun k hk _ => h.block k hk⟩

theorem CellsAt.kept {W W' : World} {row : Option Nat} {b : Nat} {cs : Array Value} {t : TypeId} (h : CellsAt W b cs t) (hg : W.grownBy W' row) (hrow : ∀ r, row = some r → ∃ o : Obj, W.heap[r]? = some o ∧ o.isCells = false) : CellsAt W' b cs t :=
  (grownBy_keeps_cells hg hrow h rfl).trans h

set_option maxRecDepth 100000 in
set_option maxHeartbeats 1000000 in
theorem nil_iter (F : Fence) (n : Nat) (hF : F.fn 54) (hro : F.round = none) (Bn : Nat) (w : World) (hb : w.cell? ⟨Bn, 0, none⟩ = some (.pointer none)) (Kp : World → World → Prop) :
    SeqStopsK F n Try.prog 54 #[.pointer (some ⟨Bn, 0, none⟩)] (fun _ : Empty => #[.int .i64 0]) Kp (fun xs => xs = []) (fun _ => False) 0 w := by
  intro l J Jx W hW hJ hJx hY h0
  have hc : W.cell? ⟨Bn, 0, none⟩ = some (.pointer none) := by rw [(Mod.of_below hW).cell (cell_lt hb) nob]; exact hb
  refine callsIn_of_wp Try.func54 rfl hF ?_ hro
  simp only [Try.ntmps54, List.size_toArray, List.length_cons, List.length_nil, Nat.reduceAdd, Nat.reduceSub, Array.replicate_succ, Array.replicate_zero, List.push_toArray, List.append_toArray, List.nil_append, List.cons_append]
  gi_wp2
  refine bodyPost_ret (results_none rfl _ _ _) rfl ?_
  exact ⟨⟨_, rfl⟩, h0⟩

theorem eql_func (f : Nat) (lb : Array Value) (w : World) : (binOp BinOp.eql 60 (.func (.func f) #[] lb) .nilFunc).run Try.prog w = .ok (.bool false) w := by kernel_rfl

set_option maxRecDepth 100000 in
set_option maxHeartbeats 2000000 in
theorem seq_nil (F : Fence) (n : Nat) (hF : F.fn 54) (hF2 : F.fn 30) (hro : F.round = none) (hn : 3 ≤ n) (Bn : Nat) (w : World) (hb : w.cell? ⟨Bn, 0, none⟩ = some (.pointer none)) (m : Int) :
    CallsIn F n Try.prog 30 #[.func (.func 54) #[] #[.pointer (some ⟨Bn, 0, none⟩)], .int .i64 m] w fun e w' => e = .returned (.tuple #[.slice none 0 0, .bool true]) ∧ Below w.heap.size w w' := by
  have h1 : 1 ≤ n := by omega
  refine callsIn_of_wp_marks Try.func30 rfl hF2 ?_ hro
  simp only [Try.ntmps30, List.size_toArray, List.length_cons, List.length_nil, Nat.reduceAdd, Nat.reduceSub, Array.replicate_succ, Array.replicate_zero, List.push_toArray, List.append_toArray, List.nil_append, List.cons_append]
  have hq := eql_func
  gi_wp2
  have hm0 := ((((Mod.refl w Nob).alloc (.cells #[.int .i64 m] 3)).alloc (.cells #[.slice none 0 0] 56)).alloc (.cells #[.bool false] 4)).alloc (.cells #[.slice none 0 0] 56)
  have hB0 := hm0.belowN
  have c1 := ((CellsAt.new (w.alloc (.cells #[.int .i64 m] 3)) #[.slice none 0 0] 56).alloc (.cells #[.bool false] 4)).alloc (.cells #[.slice none 0 0] 56)
  have c2 := (CellsAt.new ((w.alloc (.cells #[.int .i64 m] 3)).alloc (.cells #[.slice none 0 0] 56)) #[.bool false] 4).alloc (.cells #[.slice none 0 0] 56)
  have c3 := CellsAt.new (((w.alloc (.cells #[.int .i64 m] 3)).alloc (.cells #[.slice none 0 0] 56)).alloc (.cells #[.bool false] 4)) #[.slice none 0 0] 56
  have hb0 : (World.alloc (((w.alloc (.cells #[.int .i64 m] 3)).alloc (.cells #[.slice none 0 0] 56)).alloc (.cells #[.bool false] 4)) (.cells #[.slice none 0 0] 56)).cell? ⟨Bn, 0, none⟩ = some (.pointer none) := by
    rw [hm0.cell (cell_lt hb) nob]; exact hb
  have hsz : (World.alloc (((w.alloc (.cells #[.int .i64 m] 3)).alloc (.cells #[.slice none 0 0] 56)).alloc (.cells #[.bool false] 4)) (.cells #[.slice none 0 0] 56)).heap.size = w.heap.size + 4 := by simp
  simp only [World.size_alloc] at c1 c2 c3
  obtain ⟨W0, hW0⟩ : ∃ W0, (World.alloc (((w.alloc (.cells #[.int .i64 m] 3)).alloc (.cells #[.slice none 0 0] 56)).alloc (.cells #[.bool false] 4)) (.cells #[.slice none 0 0] 56)) = W0 := ⟨_, rfl⟩
  rw [hW0] at c1 c2 c3 hb0 hB0 hsz ⊢
  clear hm0 hW0 hq
  refine wpIn_rangeFunc_ownG hro h1 (gf := 54) (lb := #[.pointer (some ⟨Bn, 0, none⟩)]) rfl hF (enters_of Try.func54 (by kernel_rfl) rfl)
    (nil_iter F (n - 1) hF hro Bn W0 hb0 (Below w.heap.size)) belowK_t (belowK_b (by omega)) (Below.refl _ _) (fun _ => rfl)
    (fun pre W => (CellsAt W (w.heap.size + 1) #[.slice none 0 0] 56 ∧ CellsAt W (w.heap.size + 1 + 1) #[.bool false] 4 ∧ CellsAt W (w.heap.size + 1 + 1 + 1) #[.slice none 0 0] 56) ∧ Below w.heap.size w W)
    (fun _ _ _ => False)
    (OwnFrom.and (Own.from (fun s A B row hs hg hr => ⟨hs.1.kept hg hr, hs.2.1.kept hg hr, hs.2.2.kept hg hr⟩) _) (ownFrom_below (Nat.le_refl _) (by omega)))
    (fun _ _ _ _ _ hs _ _ => hs)
    ⟨⟨c1, c2, c3⟩, hB0⟩
    (fun x => x.elim) ?assign ?body ?done ?stop
  case assign => exact fun l x => x.elim
  case body => exact fun l pre x => x.elim
  case stop =>
    intro D c pre W _ h
    exact h.elim
  case done =>
    rintro D ys W hD rfl ⟨⟨c1, c2, c3⟩, hB⟩ hK
    have k1 := c1.cell 0
    have k2 := c2.cell 0
    have k3 := c3.cell 0
    have g1 := c1.free 0
    have g2 := c2.free 0
    simp at k1 k2 k3
    gi_wp2
    have hK' := ((KeepsOthers.setCell W ⟨w.heap.size + 1, 0, none⟩ (.slice none 0 0)).trans (KeepsOthers.setCell _ ⟨w.heap.size + 1 + 1, 0, none⟩ (.bool true))).same D _ hK rfl
    refine ⟨by simp, .inl ⟨_, _, rfl, run_takeDeferred hK', ?_⟩⟩
    have d1 := ((c1.set 0 (.slice none 0 0)).mod ((Mod.refl _ (· = w.heap.size + 1 + 1)).setCell (p := ⟨w.heap.size + 1 + 1, 0, none⟩) (.inl rfl) (.bool true)) (by omega)).mod ((Mod.refl _ (· = D)).putObj (.inl rfl) (.deferred none)) (by omega)
    have d2 := ((c2.mod ((Mod.refl W (· = w.heap.size + 1)).setCell (p := ⟨w.heap.size + 1, 0, none⟩) (.inl rfl) (.slice none 0 0)) (by omega)).set 0 (.bool true)).mod ((Mod.refl _ (· = D)).putObj (.inl rfl) (.deferred none)) (by omega)
    have e1 := d1.cell 0
    have e2 := d2.cell 0
    simp at e1 e2
    refine ⟨.tuple #[.slice none 0 0, .bool true], ?_, rfl, ((hB.setCell (p := ⟨w.heap.size + 1, 0, none⟩) (by simp) _).setCell (p := ⟨w.heap.size + 1 + 1, 0, none⟩) (by simp; omega) _).trans (belowK_b (w := w) (Nat.le_refl _) _ D _ _ (by omega) hK' rfl rfl)⟩
    simp [results, Try.f30, go_sem, e1, e2]

set_option maxRecDepth 100000 in
set_option maxHeartbeats 2000000 in
theorem nil_law (s : ByteArray) (n : Int) (w : World) :
    Calls Try.prog 6 #[.string s, .int .i64 n] w (YesN w) := by
  go_enter Try.func6, Try.ntmps6
  go_wp2_with fail
  refine (nil_put s _ _).mono ?_
  rintro e w1 ⟨rfl, rfl⟩
  go_wp2_with fail
  refine (nil_get s _).mono ?_
  rintro e w1 ⟨rfl, rfl⟩
  go_wp2_with fail
  refine (names_any none _).mono ?_
  rintro e w1 ⟨rfl, rfl⟩
  go_wp2_with fail
  have hm2 := ((Mod.refl w Nob).alloc (.cells #[.int .u8 1] 5)).alloc (.cells #[.pointer none] 23)
  have hc := CellsAt.new (w.alloc (.cells #[.int .u8 1] 5)) #[.pointer none] 23
  rw [World.size_alloc] at hc
  have hcc : ((w.alloc (.cells #[.int .u8 1] 5)).alloc (.cells #[.pointer none] 23)).cell? ⟨w.heap.size + 1, 0, none⟩ = some (.pointer none) := (hc.cell 0).trans rfl
  refine ((callsIn_wide (n := 3)).1 (seq_nil Fence.wide 3 trivial trivial rfl (by omega) (w.heap.size + 1) _ hcc 5)).mono ?_
  rintro e w2 ⟨rfl, hB2⟩
  replace hm2 := hm2.trans (Mod.of_below hB2)
  clear hB2 hc hcc
  go_wp2_with fail
  refine (awake_store w2).mono ?_
  rintro e w3 ⟨rfl, hm3⟩
  replace hm2 := hm2.trans hm3
  clear hm3
  go_wp2_with fail
  refine (nil_versions s w3).mono ?_
  rintro e w4 ⟨rfl, rfl⟩
  go_wp2_with fail
  refine (nil_writes w3).mono ?_
  rintro e w4 ⟨rfl, rfl⟩
  go_wp2_with fail
  refine (nil_replay s n w3).mono ?_
  rintro e w4 ⟨rfl, rfl⟩
  go_wp2_with fail
  refine (nil_swap s s w3).mono ?_
  rintro e w4 ⟨rfl, rfl⟩
  go_wp2_with fail
  refine (nil_delete s w3).mono ?_
  rintro e w4 ⟨rfl, rfl⟩
  go_wp2_with fail
  refine (nil_roll n w3).mono ?_
  rintro e w4 ⟨rfl, rfl⟩
  go_wp2_with fail
  refine (nil_flip s n w3).mono ?_
  rintro e w4 ⟨rfl, rfl⟩
  go_wp2_with fail
  refine (nil_fork w3).mono ?_
  rintro e w4 ⟨rfl, rfl⟩
  go_wp2_with fail
  go_ret
  exact ⟨rfl, hm2⟩

theorem nil_law0 (s : ByteArray) (n : Int) (w : World) (_ : s.size ≤ maxLen) (_ : (Lit.int .i64 n).wf = true) : Calls Try.prog 6 #[.string s, .int .i64 n] w (YesN w) := nil_law s n w

end Go.Proofs.Ytbpdmncobeiinaa
