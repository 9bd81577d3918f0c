/- What a journal does not begin with: nil ones, another epoch. No condition. -/
import Derived.Test.YtakgnkjopbflbaaGreatDoorJg
namespace Go.Proofs.YtakgnkjopbflbaaGreatDoor
open Go.RowKit Go.Shelf
set_option linter.unusedSimpArgs false

set_option maxRecDepth 100000 in
set_option maxHeartbeats 4000000 in
theorem begin_nilS (p : Option Addr) (job : List UInt8) (ep : Nat) (w : World) :
    Calls Tryz.prog 23 #[.pointer none, .pointer p, .agg (arrB job), .int .u64 ep, eyes0] w fun r w' => r = .returned (.tuple #[.pointer none, .int .i64 2]) ∧ Mod w w' Nob := by
  unfold eyes0
  refine (callsIn_wide (n := 6)).1 ?_
  refine callsIn_of_wp_marks Tryz.func23 rfl trivial ?_ rfl
  simp only [Tryz.ntmps23, List.size_toArray, List.length_cons, List.length_nil, Nat.reduceAdd, Nat.reduceSub, Array.replicate_succ, Array.replicate_zero, List.push_toArray, List.append_toArray, List.nil_append, List.cons_append]
  refine wpIn_wide.2 ?_
  go_wp2_with fail
  go_step3
  go_wp2_with fail
  rw [Exit.noGoto_ret]
  have r1 := (new_at (w := ((((w.alloc (.cells #[.pointer p] 32)).alloc (.cells (arrB job) 22)).alloc (.cells #[.int .u64 ep] 41)).alloc (.cells #[.nilFunc, .nilFunc] 72))) (cs := #[Value.pointer none]) (t := 68) (g := w.heap.size + 4) (by simp)).alloc (.cells #[.int .i64 2] 27)
  have r2 := new_at (w := ((((w.alloc (.cells #[.pointer p] 32)).alloc (.cells (arrB job) 22)).alloc (.cells #[.int .u64 ep] 41)).alloc (.cells #[.nilFunc, .nilFunc] 72)).alloc (.cells #[Value.pointer none] 68)) (cs := #[.int .i64 2]) (t := 27) (g := w.heap.size + 5) (by simp)
  have q1 := r1.cell 0
  have q2 := r2.cell 0
  simp at q1 q2
  refine ⟨.tuple #[.pointer none, .int .i64 2], ?_, ?_⟩
  · simp [results, Tryz.f23, go_sem, q1, q2]
  · exact ⟨rfl, ((((((Mod.refl w Nob).alloc _).alloc _).alloc _).alloc _).alloc _).alloc _⟩

set_option maxRecDepth 100000 in
set_option maxHeartbeats 4000000 in
theorem begin_nilT (a : Addr) (job : List UInt8) (ep : Nat) (w : World) :
    Calls Tryz.prog 23 #[.pointer (some a), .pointer none, .agg (arrB job), .int .u64 ep, eyes0] w fun r w' => r = .returned (.tuple #[.pointer none, .int .i64 2]) ∧ Mod w w' Nob := by
  unfold eyes0
  refine (callsIn_wide (n := 6)).1 ?_
  refine callsIn_of_wp_marks Tryz.func23 rfl trivial ?_ rfl
  simp only [Tryz.ntmps23, List.size_toArray, List.length_cons, List.length_nil, Nat.reduceAdd, Nat.reduceSub, Array.replicate_succ, Array.replicate_zero, List.push_toArray, List.append_toArray, List.nil_append, List.cons_append]
  refine wpIn_wide.2 ?_
  go_wp2_with fail
  go_step3
  go_wp2_with fail
  rw [Exit.noGoto_ret]
  have r1 := (new_at (w := ((((w.alloc (.cells #[.pointer none] 32)).alloc (.cells (arrB job) 22)).alloc (.cells #[.int .u64 ep] 41)).alloc (.cells #[.nilFunc, .nilFunc] 72))) (cs := #[Value.pointer none]) (t := 68) (g := w.heap.size + 4) (by simp)).alloc (.cells #[.int .i64 2] 27)
  have r2 := new_at (w := ((((w.alloc (.cells #[.pointer none] 32)).alloc (.cells (arrB job) 22)).alloc (.cells #[.int .u64 ep] 41)).alloc (.cells #[.nilFunc, .nilFunc] 72)).alloc (.cells #[Value.pointer none] 68)) (cs := #[.int .i64 2]) (t := 27) (g := w.heap.size + 5) (by simp)
  have q1 := r1.cell 0
  have q2 := r2.cell 0
  simp at q1 q2
  refine ⟨.tuple #[.pointer none, .int .i64 2], ?_, ?_⟩
  · simp [results, Tryz.f23, go_sem, q1, q2]
  · exact ⟨rfl, ((((((Mod.refl w Nob).alloc _).alloc _).alloc _).alloc _).alloc _).alloc _⟩

set_option maxRecDepth 100000 in
set_option maxHeartbeats 4000000 in
theorem begin_state (a : Addr) (tb : Nat) (τ : Tru) (job : List UInt8) (ep : Nat) (w : World) (hτ : TruAt w tb τ) (he : ep ≠ τ.ep) :
    Calls Tryz.prog 23 #[.pointer (some a), .pointer (some ⟨tb, 0, none⟩), .agg (arrB job), .int .u64 ep, eyes0] w fun r w' => r = .returned (.tuple #[.pointer none, .int .i64 13]) ∧ Mod w w' Nob := by
  unfold eyes0
  refine (callsIn_wide (n := 6)).1 ?_
  refine callsIn_of_wp_marks Tryz.func23 rfl trivial ?_ rfl
  simp only [Tryz.ntmps23, List.size_toArray, List.length_cons, List.length_nil, Nat.reduceAdd, Nat.reduceSub, Array.replicate_succ, Array.replicate_zero, List.push_toArray, List.append_toArray, List.nil_append, List.cons_append]
  refine wpIn_wide.2 ?_
  go_wp2_with fail
  go_step3
  go_wp2_with fail
  have m0 := ((((((Mod.refl w Nob).alloc (.cells #[.pointer (some ⟨tb, 0, none⟩)] 32)).alloc (.cells (arrB job) 22)).alloc (.cells #[.int .u64 ep] 41)).alloc (.cells #[.nilFunc, .nilFunc] 72)).alloc (.cells #[.pointer none] 68)).alloc (.cells #[.int .i64 0] 27)
  have cT := (((((CellsAt.new w #[.pointer (some ⟨tb, 0, none⟩)] 32).alloc (.cells (arrB job) 22)).alloc (.cells #[.int .u64 ep] 41)).alloc (.cells #[.nilFunc, .nilFunc] 72)).alloc (.cells #[.pointer none] 68)).alloc (.cells #[.int .i64 0] 27)
  have cE := (((new_at (w := (w.alloc (.cells #[.pointer (some ⟨tb, 0, none⟩)] 32)).alloc (.cells (arrB job) 22)) (cs := #[.int .u64 ep]) (t := 41) (g := w.heap.size + 2) (by simp)).alloc (.cells #[.nilFunc, .nilFunc] 72)).alloc (.cells #[.pointer none] 68)).alloc (.cells #[.int .i64 0] 27)
  have cR := (new_at (w := (((w.alloc (.cells #[.pointer (some ⟨tb, 0, none⟩)] 32)).alloc (.cells (arrB job) 22)).alloc (.cells #[.int .u64 ep] 41)).alloc (.cells #[.nilFunc, .nilFunc] 72)) (cs := #[.pointer none]) (t := 68) (g := w.heap.size + 4) (by simp)).alloc (.cells #[.int .i64 0] 27)
  have cS := new_at (w := ((((w.alloc (.cells #[.pointer (some ⟨tb, 0, none⟩)] 32)).alloc (.cells (arrB job) 22)).alloc (.cells #[.int .u64 ep] 41)).alloc (.cells #[.nilFunc, .nilFunc] 72)).alloc (.cells #[.pointer none] 68)) (cs := #[.int .i64 0]) (t := 27) (g := w.heap.size + 5) (by simp)
  have hz : ((((((w.alloc (.cells #[.pointer (some ⟨tb, 0, none⟩)] 32)).alloc (.cells (arrB job) 22)).alloc (.cells #[.int .u64 ep] 41)).alloc (.cells #[.nilFunc, .nilFunc] 72)).alloc (.cells #[.pointer none] 68)).alloc (.cells #[.int .i64 0] 27)).heap.size = w.heap.size + 6 := by simp
  obtain ⟨W1, hW1⟩ : ∃ W1, ((((((w.alloc (.cells #[.pointer (some ⟨tb, 0, none⟩)] 32)).alloc (.cells (arrB job) 22)).alloc (.cells #[.int .u64 ep] 41)).alloc (.cells #[.nilFunc, .nilFunc] 72)).alloc (.cells #[.pointer none] 68)).alloc (.cells #[.int .i64 0] 27)) = W1 := ⟨_, rfl⟩
  rw [hW1] at m0 cT cE cR cS hz ⊢
  obtain ⟨H, hH⟩ : ∃ H, w.heap.size = H := ⟨_, rfl⟩
  rw [hH] at cT cE cR cS hz ⊢
  have HH := Lib.hid hH
  have hτ1 := hτ.mod m0 nob
  clear hW1 hH
  have t6 := cT.cell 0
  have t8 := cE.cell 0
  simp at t6 t8
  by_cases h0 : ep = 0
  · have hep0 : ((ep : Int) == 0) = true := beq_iff_eq.2 (by omega)
    refine wp_no_panic ?_
    refine wp_region_still_lit (by kernel_rfl) (by kernel_rfl) ?_
    repeat still_step
    refine wpStill_nil ?_
    change Exit.then _ _ _ _ W1.drew
    have mD := (Mod.refl W1 Nob).drew
    replace cR := cR.mod mD nob
    replace cS := cS.mod mD nob
    replace m0 := m0.trans mD
    obtain ⟨W2, hW2⟩ : ∃ W, W1.drew = W := ⟨_, rfl⟩
    rw [hW2] at cR cS m0 ⊢
    have kr := cR.cell 0
    have fr := cR.free 0
    have mS := (Mod.refl W2 (· = H + 4)).setCell (p := ⟨H + 4, 0, none⟩) (.inl rfl) (.pointer none)
    have cS2 := cS.mod mS (by omega)
    have ks := cS2.cell 0
    have fs := cS2.free 0
    simp at kr ks
    have mT := (Mod.refl (W2.setCell ⟨H + 4, 0, none⟩ (.pointer none)) (· = H + 5)).setCell (p := ⟨H + 5, 0, none⟩) (.inl rfl) (.int .i64 13)
    have q1 := ((cR.set 0 (.pointer none)).mod mT (by omega)).cell 0
    have q2 := (cS2.set 0 (.int .i64 13)).cell 0
    simp at q1 q2
    have mf := (m0.drop mS (fun k (hk : k = H + 4) => .inr (by have := HH.out; omega))).drop mT (fun k (hk : k = H + 5) => .inr (by have := HH.out; omega))
    clear hW2 t6 t8 cT cE hτ1 cR cS cS2 mS mT
    go_wp2_with fail
    rw [Exit.noGoto_ret]
    refine ⟨.tuple #[.pointer none, .int .i64 13], ?_, ?_⟩
    · simp [results, Tryz.f23, go_sem, q1, q2]
    · exact ⟨rfl, mf⟩
  · have hep0 : ((ep : Int) == 0) = false := beq_eq_false_iff_ne.2 (by omega)
    have hne : ((ep : Int) != (τ.ep : Int)) = true := bne_iff_ne.2 (by omega)
    refine wp_no_panic ?_
    have hepo : Calls Tryz.prog 42 #[.pointer (some ⟨tb, 0, none⟩)] { W1 with drawn := W1.drawn + 1 } (fun e w' => e = .returned (.int .u64 τ.ep) ∧ w' = { W1 with drawn := W1.drawn + 1 }) :=
      (trust_epoch tb τ { W1 with drawn := W1.drawn + 1 } (hτ1.mod (Mod.refl W1 Nob).drew nob)).mono (fun e w' h => ⟨h.1, h.2.symm⟩)
    refine wp_region_still_lit (by kernel_rfl) (by kernel_rfl) ?_
    repeat still_step
    still_call hepo
    repeat still_step
    refine wpStill_nil ?_
    change Exit.then _ _ _ _ W1.drew
    have mD := (Mod.refl W1 Nob).drew
    replace cR := cR.mod mD nob
    replace cS := cS.mod mD nob
    replace m0 := m0.trans mD
    obtain ⟨W2, hW2⟩ : ∃ W, W1.drew = W := ⟨_, rfl⟩
    rw [hW2] at cR cS m0 ⊢
    have kr := cR.cell 0
    have fr := cR.free 0
    have mS := (Mod.refl W2 (· = H + 4)).setCell (p := ⟨H + 4, 0, none⟩) (.inl rfl) (.pointer none)
    have cS2 := cS.mod mS (by omega)
    have ks := cS2.cell 0
    have fs := cS2.free 0
    simp at kr ks
    have mT := (Mod.refl (W2.setCell ⟨H + 4, 0, none⟩ (.pointer none)) (· = H + 5)).setCell (p := ⟨H + 5, 0, none⟩) (.inl rfl) (.int .i64 13)
    have q1 := ((cR.set 0 (.pointer none)).mod mT (by omega)).cell 0
    have q2 := (cS2.set 0 (.int .i64 13)).cell 0
    simp at q1 q2
    have mf := (m0.drop mS (fun k (hk : k = H + 4) => .inr (by have := HH.out; omega))).drop mT (fun k (hk : k = H + 5) => .inr (by have := HH.out; omega))
    clear hW2 t6 t8 cT cE hτ1 cR cS cS2 mS mT
    go_wp2_with fail
    rw [Exit.noGoto_ret]
    refine ⟨.tuple #[.pointer none, .int .i64 13], ?_, ?_⟩
    · simp [results, Tryz.f23, go_sem, q1, q2]
    · exact ⟨rfl, mf⟩

end Go.Proofs.YtakgnkjopbflbaaGreatDoor
