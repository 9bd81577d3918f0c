/- A machine's memory; what emit does to it. The condition: the slot is there. -/
import Derived.Test.YtlnjfcnhgndocaaVb
import Derived.StillTailTactics
namespace Go.Proofs.Ytlnjfcnhgndocaa
open Go.RowKit

/-- A record. -/
structure Rec1 where
  dead : Bool
  key : W64
  value : W64
  seq : W64

def Rec1.cells (r : Rec1) : List Value := [.bool r.dead, I r.key, I r.value, I r.seq]
def rec0 : Rec1 := ⟨true, 0, 0, 0⟩
def Rec1.made (alive key value seq : W64) : Rec1 := if alive = 0 then ⟨true, 0, 0, 0⟩ else ⟨false, key, value, seq⟩

theorem owns_mod {w w' : World} {S : Nat → Prop} {base : Nat} {e : TypeId} {size : Nat} {v : Value} {n : Nat} {xs : List Value} (h : w.ownsRow base e size v n xs) (hm : Mod w w' S) (hn : ∀ k, inBlock v k → ¬ S k) : w'.ownsRow base e size v n xs := by
  obtain ⟨hl, h | ⟨g, cap, cur, rfl, hb, hg, rest⟩⟩ := h
  · exact ⟨hl, .inl h⟩
  · exact ⟨hl, .inr ⟨g, cap, cur, rfl, hb, hm.keep hg (hn g rfl), rest⟩⟩

theorem owns_set4 {w : World} {base : Nat} {e : TypeId} {size g cap n : Nat} {xs : List Value} (h : w.ownsRow base e size (.slice (some ⟨g, 0, none⟩) n cap) n xs) (q : Nat) (u : Value) :
    (w.setCell ⟨g, q, none⟩ u).ownsRow base e size (.slice (some ⟨g, 0, none⟩) n cap) n (xs.set q u) := by
  obtain ⟨hl, ⟨h, _⟩ | ⟨g', cap', cur, h, hb, hg, hn, hc, hs, ht⟩⟩ := h
  · cases h
  · cases h
    refine ⟨by simpa using hl, .inr ⟨g, cap, cur.setIfInBounds q u, rfl, hb, ?_, hn, hc, by simpa using hs, ?_⟩⟩
    · simp only [World.setCell, Array.getElem?_modify, if_true]
      rw [hg]; rfl
    · rw [← ht, Array.toList_setIfInBounds, List.take_set]

theorem owns_free {w : World} {base : Nat} {e : TypeId} {size g cap n : Nat} {xs : List Value} (h : w.ownsRow base e size (.slice (some ⟨g, 0, none⟩) n cap) n xs) (q : Nat) : w.frozen? ⟨g, q, none⟩ = false := by
  obtain ⟨hl, ⟨h, _⟩ | ⟨g', cap', cur, h, hb, hg, hn, hc, hs, ht⟩⟩ := h
  · cases h
  · cases h
    simp [World.frozen?, hg]
theorem owns_cell {w : World} {base : Nat} {e : TypeId} {size g cap n : Nat} {xs : List Value} (h : w.ownsRow base e size (.slice (some ⟨g, 0, none⟩) n cap) n xs) (q : Nat) (u : Value) (hq : xs[q]? = some u) : w.cell? ⟨g, q, none⟩ = some u := by
  obtain ⟨hl, ⟨h, _⟩ | ⟨g', cap', cur, h, hb, hg, hn, hc, hs, ht⟩⟩ := h
  · cases h
  · cases h
    have hi : q < xs.length := (List.getElem?_eq_some_iff.1 hq).1
    rw [← ht, List.getElem?_take_of_lt (by omega)] at hq
    simp [World.cell?, hg]
    simpa using hq

/-- Captured: whether it is dead. -/
theorem pick_in (d v : W64) (Bn : Nat) (w : World) (hc : w.cell? ⟨Bn, 0, none⟩ = some (U d)) :
    Calls Try.prog 43 #[I v, .pointer (some ⟨Bn, 0, none⟩)] w (Reads w (I (if d.getLsbD 0 then 0 else v))) := by
  obtain ⟨r, hr⟩ : ∃ r : W64, Hid (r = if d.getLsbD 0 then 0 else v) := ⟨_, rfl⟩
  rw [← hr.out]
  have e1 := of_i v
  have t8 := to_i r
  go_enter Try.func43, Try.ntmps43
  go_wp2_with fail
  refine (ct_pick d 0 v r hr _).mono ?_
  rintro e w' ⟨rfl, rfl⟩
  go_wp2_with fail
  go_ret
  exact ⟨rfl, rfl⟩

/-- A machine: its registers, its slots, the number of the first. -/
def machine (r : List W64) (sv : Value) (seq : W64) : Array Value := ((r.map I) ++ [sv, I seq]).toArray

def setRec (xs : List Value) (i : Nat) (r : Rec1) : List Value := (((xs.set (i * 4) (.bool r.dead)).set (i * 4 + 1) (I r.key)).set (i * 4 + 2) (I r.value)).set (i * 4 + 3) (I r.seq)

def Emitted (w : World) (g n cap base : Nat) (xs : List Value) (e : Ending) (w' : World) : Prop :=
  e = .returned (.tuple #[]) ∧ w'.ownsRow base 56 4 (.slice (some ⟨g, 0, none⟩) n cap) n xs ∧ Mod w w' (· = g)

theorem rec_vals (alive d key value seq v1 v2 v3 : W64) (hd : d = if alive = 0 then 1 else 0) (h1 : v1 = if d.getLsbD 0 then 0 else key) (h2 : v2 = if d.getLsbD 0 then 0 else value) (h3 : v3 = if d.getLsbD 0 then 0 else seq) :
    ((d.toNat : Int) == 1) = (Rec1.made alive key value seq).dead ∧ v1 = (Rec1.made alive key value seq).key ∧ v2 = (Rec1.made alive key value seq).value ∧ v3 = (Rec1.made alive key value seq).seq := by
  unfold Rec1.made
  by_cases h : alive = 0
  · rw [if_pos h] at hd
    subst hd
    rw [if_pos h]
    simp at h1 h2 h3 ⊢
    exact ⟨h1, h2, h3⟩
  · rw [if_neg h] at hd
    subst hd
    rw [if_neg h]
    simp at h1 h2 h3 ⊢
    exact ⟨h1, h2, h3⟩

set_option maxRecDepth 100000 in
set_option maxHeartbeats 1000000 in
theorem emit_any (mb g cap n i base : Nat) (r : List W64) (seq key value alive : W64) (xs : List Value) (w : World) (hr8 : r.length = 8) (hm : CellsAt w mb (machine r (.slice (some ⟨g, 0, none⟩) n cap) seq) 64)
    (hs : w.ownsRow base 56 4 (.slice (some ⟨g, 0, none⟩) n cap) n xs) (hi : i < n) (hn : n < 1000) (hxs : xs.length = n * 4) :
    Calls Try.prog 28 #[.pointer (some ⟨mb, 0, none⟩), .int .i64 i, I key, I value, I alive] w (Emitted w g n cap base (setRec xs i (Rec1.made alive key value (seq + BitVec.ofNat 64 i)))) := by
  obtain ⟨d, hd⟩ : ∃ d : W64, Hid (d = if alive = 0 then 1 else 0) := ⟨_, rfl⟩
  have e1 := of_i alive
  have c8 := hm.cell 8
  have c9 := hm.cell 9
  have hi0 : (0 : Int) ≤ (i : Int) := by omega
  have hi1 : (i : Int) < (n : Int) := by omega
  have hadd : wrap64 (seq.toInt + (i : Int)) = (seq + BitVec.ofNat 64 i).toInt := by
    rw [← add_i]
    congr 2
    rw [BitVec.toInt_eq_toNat_cond, BitVec.toNat_ofNat, Nat.mod_eq_of_lt (by omega)]
    rw [if_pos (by omega)]
  have hp (v : W64) : ∃ v', Hid (v' = if d.getLsbD 0 then 0 else v) ∧ ∀ W : World, W.cell? ⟨w.heap.size, 0, none⟩ = some (U d) → Calls Try.prog 43 #[I v, .pointer (some ⟨w.heap.size, 0, none⟩)] W (Reads W (I v')) :=
    ⟨_, rfl, fun W h => pick_in d v _ W h⟩
  obtain ⟨v1, hv1, hp1⟩ := hp key
  obtain ⟨v2, hv2, hp2⟩ := hp value
  have hadd2 : IntKind.i64.wrap (seq.toInt + (i : Int)) = (seq + BitVec.ofNat 64 i).toInt := by
    rw [← hadd]
    unfold IntKind.wrap wrap64
    simp [IntKind.signed, IntKind.bits]
    split <;> omega
  obtain ⟨v3, hv3, hp3'⟩ := hp (seq + BitVec.ofNat 64 i)
  have hp3 : ∀ W : World, W.cell? ⟨w.heap.size, 0, none⟩ = some (U d) → Calls Try.prog 43 #[.int .i64 (IntKind.i64.wrap (seq.toInt + (i : Int))), .pointer (some ⟨w.heap.size, 0, none⟩)] W (Reads W (I v3)) := by
    rw [hadd2]; exact hp3'
  clear hp3' hadd hadd2
  clear hp
  match r, hr8 with
  | [r0, r1, r2, r3, r4, r5, r6, r7], _ =>
  simp [machine] at c8 c9
  go_enter Try.func28, Try.ntmps28
  go_wp2_with fail
  refine (ct_same alive 0 d hd _).mono ?_
  rintro e w' ⟨rfl, rfl⟩
  go_wp2_with fail
  have hbox := CellsAt.new w #[U d] 86
  have hm1 : Mod w (w.alloc (.cells #[U d] 86)) Nob := (Mod.refl w Nob).alloc _
  obtain ⟨W, hW⟩ : ∃ W, w.alloc (.cells #[U d] 86) = W := ⟨_, rfl⟩
  rw [hW] at hbox hm1 ⊢
  have hb0 : W.drew.cell? ⟨w.heap.size, 0, none⟩ = some (U d) := (hbox.mod (Mod.refl W Nob).drew nob).cell 0
  have q1 := (hp1 W.drew hb0).mono (R' := fun e w'' => e = .returned (I v1) ∧ w'' = W.drew) (fun e w'' h => ⟨h.1, h.2.symm⟩)
  have q2 := (hp2 W.drew hb0).mono (R' := fun e w'' => e = .returned (I v2) ∧ w'' = W.drew) (fun e w'' h => ⟨h.1, h.2.symm⟩)
  have q3 := (hp3 W.drew hb0).mono (R' := fun e w'' => e = .returned (I v3) ∧ w'' = W.drew) (fun e w'' h => ⟨h.1, h.2.symm⟩)
  have hW4 := owns_mod hs hm1 (fun _ _ => nob)
  have cell4 (j : Nat) (hj : j < 4) : ∃ u, W.cell? ⟨g, i * 4 + j, none⟩ = some u :=
    ⟨_, owns_cell hW4 (i * 4 + j) _ (List.getElem?_eq_getElem (by rw [hxs]; omega))⟩
  obtain ⟨u0, z0⟩ := cell4 0 (by omega)
  obtain ⟨u1, z1⟩ := cell4 1 (by omega)
  obtain ⟨u2, z2⟩ := cell4 2 (by omega)
  obtain ⟨u3, z3⟩ := cell4 3 (by omega)
  rw [Nat.add_zero] at z0
  have y0 := owns_free hW4 (i * 4)
  have y1 := owns_free hW4 (i * 4 + 1)
  have y2 := owns_free hW4 (i * 4 + 2)
  have y3 := owns_free hW4 (i * 4 + 3)
  have HX := Lib.hid hxs
  clear cell4 hxs
  have d8 : W.drew.cell? ⟨mb, 8, none⟩ = some (.slice (some ⟨g, 0, none⟩) n cap) := by
    rw [((hm1.drew).cell (cell_lt c8) nob)]; exact c8
  have d9 : W.drew.cell? ⟨mb, 9, none⟩ = some (I seq) := by
    rw [((hm1.drew).cell (cell_lt c9) nob)]; exact c9
  clear hp1 hp2 hp3 c8 c9 hW
  refine wp_region_still_tail 23 (by kernel_rfl) (by kernel_rfl) ?_
  simp only [List.take_succ_cons, List.take_zero, List.drop_succ_cons, List.drop_zero]
  repeat still_step
  still_call q1
  repeat still_step
  still_call q2
  repeat still_step
  still_call q3
  repeat still_step
  refine wpStill_nil ?_
  change wpList _ _ _ _ _ W.drew
  go_wp2_with fail
  go_end0
  obtain ⟨g0, g1, g2, g3⟩ := rec_vals alive d key value _ v1 v2 v3 hd.out hv1.out hv2.out hv3.out
  rw [g0, g1, g2, g3]
  have o4 := owns_set4 (owns_set4 (owns_set4 (owns_set4 hW4 (i * 4) (.bool (Rec1.made alive key value (seq + BitVec.ofNat 64 i)).dead)) (i * 4 + 1) (I (Rec1.made alive key value (seq + BitVec.ofNat 64 i)).key)) (i * 4 + 2)
    (I (Rec1.made alive key value (seq + BitVec.ofNat 64 i)).value)) (i * 4 + 3) (I (Rec1.made alive key value (seq + BitVec.ofNat 64 i)).seq)
  refine ⟨rfl, owns_mod o4 (Mod.refl _ Nob).drew (fun _ _ => nob), ?_⟩
  exact (((((Mod.nob (T := (· = g)) hm1).setCell (p := ⟨g, i * 4, none⟩) (.inl rfl) _).setCell (p := ⟨g, i * 4 + 1, none⟩) (.inl rfl) _).setCell (p := ⟨g, i * 4 + 2, none⟩) (.inl rfl) _).setCell (p := ⟨g, i * 4 + 3, none⟩) (.inl rfl) _).drew

end Go.Proofs.Ytlnjfcnhgndocaa
