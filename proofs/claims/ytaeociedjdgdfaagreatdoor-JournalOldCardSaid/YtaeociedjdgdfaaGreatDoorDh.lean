/- A piece of at most sixteen bytes as limbs: poly.piece. No condition but the length. -/
import Derived.Test.YtaeociedjdgdfaaGreatDoorDg
namespace Go.Proofs.YtaeociedjdgdfaaGreatDoor
open Go.RowKit

/-- Bytes are copied into a block of whatever type. -/
theorem copy_block (w : World) (g m : Nat) (t : TypeId) (cur : List Value) (a : Option Addr) (n c : Nat) (l : List UInt8) (ty : TypeId) (hv : BytesAt w (.slice a n c) l) (hn : l.length = n) (hg : CellsAt w g cur.toArray t) (hm : cur.length = m) (hnm : n ≤ m) :
    ∃ w', (Builtin.copy_ #[40, 40] ty #[.slice (some ⟨g, 0, none⟩) m m, .slice a n c]).run Tryz.prog w = .ok (goInt n) w' ∧ CellsAt w' g (l.map B ++ cur.drop n).toArray t ∧ Mod w w' (· = g) := by
  have hmin : (l.map B).length = Nat.min n m := by rw [List.length_map, hn]; exact (Nat.min_eq_left hnm).symm
  have hsz : (Tryz.prog.info? 5).map (·.size) = some 1 := by kernel_rfl
  by_cases h0 : n = 0
  · subst h0
    obtain rfl : l = [] := List.eq_nil_of_length_eq_zero hn
    have := run_copy_none (P := Tryz.prog) w 40 40 ty 5 (some ⟨g, 0, none⟩) a m m 0 c Tryz.underlying40 hsz (by simp)
    exact ⟨w, this, by simpa using hg, Mod.refl _ _⟩
  · rcases hv with (⟨h1, _⟩ | ⟨b, o, cap, h1, hb, h2, h3, h4⟩) | ⟨h1, _⟩
    · cases h1; omega
    · obtain ⟨rfl, -, rfl⟩ : a = some ⟨b, o, none⟩ ∧ n = (l.map B).length ∧ c = cap := by
        injection h1 with h5 h6 h7
        exact ⟨h5, h6, h7⟩
      have hfit : 0 + (l.map B).length ≤ cur.toArray.size := by
        have e : cur.toArray.size = cur.length := rfl
        rw [List.length_map, e]
        omega
      have := run_copy_row (P := Tryz.prog) w 40 40 ty 5 g 0 m m ⟨b, o, none⟩ n c cur.toArray t (l.map B) Tryz.underlying40 hsz hg hmin (fun j v hv => by
        have hadd : (⟨b, o, none⟩ : Addr).add j = ⟨b, o + j, none⟩ := by unfold Addr.add; split <;> simp_all
        rw [hadd]
        exact h4 j v hv) hfit (bytes_one l)
      rw [List.length_map, hn] at this
      refine ⟨_, this, ?_, (Mod.refl w (· = g)).setRow (.inl rfl) _⟩
      have h5 := hg.setRow ((cur.toArray.toList.take 0 ++ l.map B ++ cur.toArray.toList.drop (0 + n)).toArray)
      simpa using h5
    · have h5 := congrArg List.length h1
      rw [List.length_map, List.length_nil] at h5
      omega

/-- Eight bytes as a word. -/
def word8 (l : List UInt8) (k : Nat) : UInt64 := UInt64.ofNat (leN ((l.drop k).take 8))
theorem word8_num (l : List UInt8) (k : Nat) : (leN ((l.drop k).take 8) : Int) = n64 (word8 l k) := by
  refine V64_of _ ?_
  have h1 := leN_lt ((l.drop k).take 8)
  have h2 : ((l.drop k).take 8).length ≤ 8 := by rw [List.length_take]; omega
  have h3 : 256 ^ ((l.drop k).take 8).length ≤ 256 ^ 8 := Nat.pow_le_pow_right (by omega) h2
  exact Nat.lt_of_lt_of_le h1 h3
/-- Up to sixteen bytes, with a byte 1 behind, and zeros. -/
def padP (b : List UInt8) : List UInt8 := b ++ 1 :: List.replicate (15 - b.length) 0
theorem padP_length (b : List UInt8) (h : b.length < 16) : (padP b).length = 16 := by simp [padP]; omega
/-- The limbs of a piece. -/
def pieceA (b : List UInt8) : UInt64 := if b.length = 16 then word8 b 0 else word8 (padP b) 0
def pieceB (b : List UInt8) : UInt64 := if b.length = 16 then word8 b 8 else word8 (padP b) 8
def pieceC (b : List UInt8) : UInt64 := if b.length = 16 then 1 else 0
theorem low8_any (v : Value) (l : List UInt8) (k : Nat) (w : World) (hv : BytesAt w v (l.drop k)) (hn : k + 8 ≤ l.length) :
    Calls Tryz.prog 76 #[v, .int .i64 8] w fun e w' => e = .returned (V64 (word8 l k)) ∧ w' = w := by
  have h := low_any v (l.drop k) 8 w hv (by rw [List.length_drop]; omega) (by omega)
  rw [word8_num] at h
  exact h

set_option maxRecDepth 100000 in
set_option maxHeartbeats 1000000 in
theorem piece_any (a : Option Addr) (n c : Nat) (b : List UInt8) (w : World) (hb : BytesAt w (.slice a n c) b) (hn : b.length = n) (h16 : n ≤ 16) :
    Calls Tryz.prog 154 #[.slice a n c] w fun e w' => e = .returned (.tuple #[V64 (pieceA b), V64 (pieceB b), V64 (pieceC b)]) ∧ Mod w w' Nob := by
  by_cases h : n = 16
  · subst h
    obtain ⟨hlc, hcm⟩ : 16 ≤ c ∧ c ≤ maxLen := by
      obtain ⟨a', c', h1, h2, h3⟩ := hb.form
      rw [List.length_map, hn] at h1 h2
      cases h1
      exact ⟨h2, h3⟩
    have e1 : pieceA b = word8 b 0 := if_pos hn
    have e2 : pieceB b = word8 b 8 := if_pos hn
    have e3 : pieceC b = 1 := if_pos hn
    rw [e1, e2, e3]
    have hbd : BytesAt w.drew (.slice a 16 c) (b.drop 0) := hb
    obtain ⟨a', c', hrun, hb8⟩ := slice_from (w := w.drew) hb hn 8 (by omega)
    have l0 := low8_any _ b 0 w.drew hbd (by omega)
    have l8 := low8_any _ b 8 w.drew hb8 (by omega)
    change ∀ W, (Instr.slice 40 (.slice a 16 c) (some (.int .i64 8)) none none).run Tryz.prog W = _ at hrun
    obtain ⟨x0, hx0⟩ : ∃ x, word8 b 0 = x := ⟨_, rfl⟩
    obtain ⟨x8, hx8⟩ : ∃ x, word8 b 8 = x := ⟨_, rfl⟩
    rw [hx0] at l0 ⊢
    rw [hx8] at l8 ⊢
    clear hx0 hx8 hb hbd hb8 e1 e2 e3 hn h16
    go_enter Tryz.func154, Tryz.ntmps154
    go_wp2_with fail
    refine wp_region_still_tail 5 (by kernel_rfl) (by kernel_rfl) ?_
    simp only [List.take_succ_cons, List.take_zero, List.drop_succ_cons, List.drop_zero]
    repeat still_step
    still_call l0
    repeat still_step
    still_call l8
    repeat still_step
    refine wpStill_nil ?_
    change wpList _ _ _ _ _ w.drew
    clear l0 l8
    go_wp2_with fail
    exact bodyPost_ret (v := .tuple #[V64 x0, V64 x8, .int .u64 1]) (by simp [results, Tryz.f154, go_sem]) rfl ⟨rfl, (Mod.refl w Nob).drew⟩
  · have hn15 : n < 16 := by omega
    have e1 : pieceA b = word8 (padP b) 0 := if_neg (by omega)
    have e2 : pieceB b = word8 (padP b) 8 := if_neg (by omega)
    have e3 : pieceC b = 0 := if_neg (by omega)
    rw [e1, e2, e3]
    have hpl := padP_length b (by omega)
    have cX := CellsAt.new w ((List.replicate 16 (0 : UInt8)).map B).toArray 96
    have mX := (Mod.refl w Nob).alloc (.cells ((List.replicate 16 (0 : UInt8)).map B).toArray 96)
    obtain ⟨w2, hrun2, c2, m2⟩ := copy_block _ w.heap.size 16 96 ((List.replicate 16 (0 : UInt8)).map B) a n c b 3 (hb.mod mX (fun _ _ => nob)) hn cX (by simp) (by omega)
    have hf : b.map B ++ ((List.replicate 16 (0 : UInt8)).map B).drop n = (b ++ List.replicate (16 - n) 0).map B := by
      rw [List.map_append, ← List.map_drop, List.drop_replicate]
    rw [hf] at c2
    have hcell : ∃ u, w2.cell? ⟨w.heap.size, n, none⟩ = some u := ⟨_, (c2.cell n).trans (Array.getElem?_eq_getElem (by simp; omega))⟩
    obtain ⟨u, hu⟩ := hcell
    have hfr := c2.free n
    have c3 := c2.set n (B 1)
    have hpad : ((b ++ List.replicate (16 - n) 0).map B).toArray.setIfInBounds n (B 1) = arrB (padP b) := by
      show (arrB (b ++ List.replicate (16 - n) 0)).setIfInBounds n (B 1) = _
      rw [arrB_put]
      congr 1
      subst hn
      rw [List.set_append_right _ _ (Nat.le_refl _), Nat.sub_self]
      unfold padP
      rw [show 16 - b.length = (15 - b.length) + 1 by omega, List.replicate_succ, List.set_cons_zero]
    rw [hpad] at c3
    have m3 := (mX.drop m2 (fun k (hk : k = w.heap.size) => .inr (by omega))).setCell (p := ⟨w.heap.size, n, none⟩) (.inr (Nat.le_refl _)) (B 1)
    obtain ⟨w3, hw3⟩ : ∃ w3, w2.setCell ⟨w.heap.size, n, none⟩ (B 1) = w3 := ⟨_, rfl⟩
    rw [hw3] at c3 m3
    have hb0 := bytes_block_from (w := w3.drew) c3 hpl (by omega) 0 (by omega)
    have hb8 := bytes_block_from (w := w3.drew) c3 hpl (by omega) 8 (by omega)
    have l0 := low8_any _ (padP b) 0 w3.drew hb0 (by omega)
    have l8 := low8_any _ (padP b) 8 w3.drew hb8 (by omega)
    obtain ⟨x0, hx0⟩ : ∃ x, word8 (padP b) 0 = x := ⟨_, rfl⟩
    obtain ⟨x8, hx8⟩ : ∃ x, word8 (padP b) 8 = x := ⟨_, rfl⟩
    rw [hx0] at l0 ⊢
    rw [hx8] at l8 ⊢
    have HW := Box.mk hw3
    have hne : ((n : Int) == 16) = false := by simp; omega
    have hnl : (n : Int) < 16 := by omega
    unfold goInt at hrun2
    clear hx0 hx8 e1 e2 e3 hpl hf c2 c3 hpad hb0 hb8 hw3 m2 hb cX mX hn
    change (Builtin.copy_ #[40, 40] 3 #[.slice (some ⟨w.heap.size, 0, none⟩) 16 16, .slice a n c]).run Tryz.prog (w.alloc (.cells (arrB (List.replicate 16 0)) 96)) = _ at hrun2
    rw [← zeros16b] at hrun2
    go_enter Tryz.func154, Tryz.ntmps154
    go_wp2_with fail
    change Code.wp _ _ _ _ (w2.setCell ⟨w.heap.size, n, none⟩ (B 1))
    rw [HW.out]
    clear hrun2 hu hfr HW
    refine wp_region_still_tail 4 (by kernel_rfl) (by kernel_rfl) ?_
    simp only [List.take_succ_cons, List.take_zero, List.drop_succ_cons, List.drop_zero]
    repeat still_step
    still_call l0
    repeat still_step
    still_call l8
    repeat still_step
    refine wpStill_nil ?_
    change wpList _ _ _ _ _ w3.drew
    clear l0 l8
    go_wp2_with fail
    exact bodyPost_ret (v := .tuple #[V64 x0, V64 x8, .int .u64 0]) (by simp [results, Tryz.f154, go_sem]) rfl ⟨rfl, m3.drew⟩

end Go.Proofs.YtaeociedjdgdfaaGreatDoor
