/- Tags of a key: mac.turned, mac.Tag. The condition: the key has at most 64 bytes. -/
import Derived.Laws.CopyOwn
import Derived.Test.YtakgnkjopbflbaaGreatDoorCl
namespace Go.Proofs.YtakgnkjopbflbaaGreatDoor
open Go.RowKit

/-- A row of all its room, as a block. -/
theorem cells_of_own {w : World} {base g n : Nat} {e : TypeId} {xs : List Value} (h : w.ownsRow base e 1 (.slice (some ⟨g, 0, none⟩) n n) n xs) : CellsAt w g xs.toArray e := by
  rcases h.2 with ⟨h0, _⟩ | ⟨g', cap', cur, h0, _, h1, h2, _, h3, h4⟩
  · cases h0
  · cases h0
    rw [List.take_of_length_le (by rw [Array.length_toList]; omega)] at h4
    have : cur = xs.toArray := by rw [← h4]
    rwa [← this]
theorem own_of_cells {w : World} {base g n : Nat} {e : TypeId} {xs : List Value} (h : CellsAt w g xs.toArray e) (hl : xs.length = n) (hb : base ≤ g) (hn : n ≤ maxLen) : w.ownsRow base e 1 (.slice (some ⟨g, 0, none⟩) n n) n xs :=
  ⟨by omega, .inr ⟨g, n, xs.toArray, rfl, hb, h, Nat.le_refl _, hn, by simp [hl], by rw [List.take_of_length_le (by simp; omega)]⟩⟩

/-- So many zeros. -/
theorem make_zeros (n : Nat) (w : World) (hn : n ≤ 1099511627776) : ∃ w', (Instr.makeSlice 43 (.int .i64 (n : Int)) (.int .i64 (n : Int))).run Tryz.prog w = .ok (.slice (some ⟨w.heap.size, 0, none⟩) n n) w' ∧
    CellsAt w' w.heap.size ((List.replicate n (0 : UInt8)).map B).toArray 5 ∧ Mod w w' Nob := by
  obtain ⟨j0, hj, hz0, hz1, hz2⟩ := info_parts info_u8
  obtain ⟨w', h1, h2, h3⟩ := run_make_full (P := Tryz.prog) w w.heap.size 43 5 j0 _ 1 Tryz.underlying43 hj hz0 hz1 .i64 .i64 n (by rw [hz2]; omega) (by unfold maxLen; omega) (Nat.le_refl _)
  refine ⟨w', h1, ?_, (Mod.refl w Nob).grown h3 (fun k hk => by cases hk)⟩
  have h4 := cells_of_own h2
  have e : (madeCells (Value.int IntKind.u8 0).cells (n * 1)).toList = (List.replicate n (0 : UInt8)).map B := by
    rw [Nat.mul_one]
    exact (toList_madeCells_one _ n).trans (by simp [B])
  rwa [e] at h4

/-- Bytes are copied into a block. -/
theorem copy_into (w : World) (g m : Nat) (cur : List Value) (a : Option Addr) (n c : Nat) (l : List UInt8) (ty : TypeId) (hv : BytesAt w (.slice a n c) l) (hn : l.length = n) (hg : CellsAt w g cur.toArray 5) (hm : cur.length = m) (hnm : n ≤ m) :
    ∃ w', (Builtin.copy_ #[43, 43] ty #[.slice (some ⟨g, 0, none⟩) m m, .slice a n c]).run Tryz.prog w = .ok (goInt n) w' ∧ CellsAt w' g (l.map B ++ cur.drop n).toArray 5 ∧ Mod w w' (· = g) := by
  have hmin : (l.map B).length = Nat.min n m := by rw [List.length_map, hn]; exact (Nat.min_eq_left hnm).symm
  have hsz : (Tryz.prog.info? 5).map (·.size) = some 1 := by kernel_rfl
  by_cases h0 : n = 0
  · subst h0
    obtain rfl : l = [] := List.eq_nil_of_length_eq_zero hn
    have := run_copy_none (P := Tryz.prog) w 43 43 ty 5 (some ⟨g, 0, none⟩) a m m 0 c Tryz.underlying43 hsz (by simp)
    exact ⟨w, this, by simpa using hg, Mod.refl _ _⟩
  · rcases hv with (⟨h1, _⟩ | ⟨b, o, cap, h1, hb, h2, h3, h4⟩) | ⟨h1, _⟩
    · cases h1; omega
    · obtain ⟨rfl, -, rfl⟩ : a = some ⟨b, o, none⟩ ∧ n = (l.map B).length ∧ c = cap := by
        injection h1 with h5 h6 h7
        exact ⟨h5, h6, h7⟩
      have hfit : 0 + (l.map B).length ≤ cur.toArray.size := by
        have e : cur.toArray.size = cur.length := rfl
        rw [List.length_map, e]
        omega
      have := run_copy_row (P := Tryz.prog) w 43 43 ty 5 g 0 m m ⟨b, o, none⟩ n c cur.toArray 5 (l.map B) Tryz.underlying43 hsz hg hmin (fun j v hv => by
        have hadd : (⟨b, o, none⟩ : Addr).add j = ⟨b, o + j, none⟩ := by unfold Addr.add; split <;> simp_all
        rw [hadd]
        exact h4 j v hv) hfit (bytes_one l)
      rw [List.length_map, hn] at this
      refine ⟨_, this, ?_, (Mod.refl w (· = g)).setRow (.inl rfl) _⟩
      have h5 := hg.setRow ((cur.toArray.toList.take 0 ++ l.map B ++ cur.toArray.toList.drop (0 + n)).toArray)
      simpa using h5
    · have h5 := congrArg List.length h1
      rw [List.length_map, List.length_nil] at h5
      omega

/-- The first bytes turned, the rest not yet. -/
def partTurned (by_ : UInt8) (f : List UInt8) (j : Nat) : List UInt8 := (f.take j).map (· ^^^ by_) ++ f.drop j
theorem partTurned_get (by_ : UInt8) (f : List UInt8) (j : Nat) (x : UInt8) (h : f[j]? = some x) : (partTurned by_ f j)[j]? = some x := by
  have hl := (List.getElem?_eq_some_iff.1 h).1
  unfold partTurned
  rw [List.getElem?_append_right (by simp; omega), List.length_map, List.length_take, List.getElem?_drop]
  rw [show j + (j - min j f.length) = j by omega, h]
theorem partTurned_set (by_ : UInt8) (f : List UInt8) (j : Nat) (x : UInt8) (h : f[j]? = some x) : (partTurned by_ f j).set j (x ^^^ by_) = partTurned by_ f (j + 1) := by
  have hl := (List.getElem?_eq_some_iff.1 h).1
  have h2 := (List.getElem?_eq_some_iff.1 h).2
  unfold partTurned
  rw [List.set_append_right _ _ (by simp; omega), List.length_map, List.length_take, show j - min j f.length = 0 by omega, take_snoc f j x h, List.map_append, List.drop_eq_getElem_cons hl, h2, List.set_cons_zero, List.append_assoc]
  rfl

set_option maxRecDepth 100000 in
set_option maxHeartbeats 1000000 in
theorem turned_any (v : Value) (l : List UInt8) (by_ : UInt8) (w : World) (hv : BytesAt w v l) (hl : l.length ≤ 64) :
    Calls Tryz.prog 147 #[v, B by_] w (Made w ((l ++ List.replicate (64 - l.length) 0).map (· ^^^ by_))) := by
  obtain ⟨a, c, rfl, hlc, hcm⟩ := hv.form
  rw [List.length_map] at hlc hv ⊢
  unfold maxLen at hcm
  obtain ⟨n, hn⟩ : ∃ n, l.length = n := ⟨_, rfl⟩
  rw [hn] at hlc hv hl ⊢
  obtain ⟨w1, hrun1, c1, m1⟩ := make_zeros 64 w (by omega)
  obtain ⟨w2, hrun2, c2, m2⟩ := copy_into w1 w.heap.size 64 ((List.replicate 64 (0 : UInt8)).map B) a n c l 3 (hv.mod m1 (fun _ _ => nob)) hn c1 (by simp) hl
  have hf : l.map B ++ ((List.replicate 64 (0 : UInt8)).map B).drop n = (l ++ List.replicate (64 - n) 0).map B := by
    rw [List.map_append, ← List.map_drop, List.drop_replicate]
  rw [hf] at c2
  obtain ⟨f, hfe⟩ : ∃ f, l ++ List.replicate (64 - n) (0 : UInt8) = f := ⟨_, rfl⟩
  have hfl : f.length = 64 := by rw [← hfe, List.length_append, List.length_replicate, hn]; omega
  rw [hfe] at c2 ⊢
  have m3 := m1.drop m2 (fun k (hk : k = w.heap.size) => .inr (by omega))
  change (Instr.makeSlice 43 (.int .i64 64) (.int .i64 64)).run Tryz.prog w = _ at hrun1
  clear hf hfe hn c1 m1 m2
  go_enter Tryz.func147, Tryz.ntmps147
  go_wp2_with fail
  obtain ⟨g, hg⟩ : ∃ g, w.heap.size = g := ⟨_, rfl⟩
  rw [hg] at c2 ⊢
  have HG := Lib.hid hg
  clear hg hrun1 hrun2
  go_loopw [6, 13] (fun _ i wr => ∃ j : Nat, j ≤ 64 ∧ i = .int .i64 j ∧ CellsAt wr g ((partTurned by_ f j).map B).toArray 5 ∧ Mod w wr Nob) (fun _ i _ => 64 - (intOf i).toNat)
  case atStart => exact ⟨0, Nat.zero_le _, rfl, c2, m3⟩
  case round =>
    clear c2 m3
    obtain ⟨j, hj, rfl, c3, m3⟩ := hrel
    by_cases hlt : j < 64
    · obtain ⟨x, hx⟩ : ∃ x, f[j]? = some x := ⟨_, List.getElem?_eq_getElem (by omega)⟩
      have h1 := partTurned_get by_ f j x hx
      have h2 := partTurned_set by_ f j x hx
      have hc := c3.cell j
      rw [List.getElem?_toArray, List.getElem?_map, h1] at hc
      change wr.cell? ⟨g, j, none⟩ = some (.int .u8 (x.toNat : Int)) at hc
      have hfr := c3.free j
      have hxor := xor_u8 x by_
      have c4 := c3.set j (B (x ^^^ by_))
      rw [List.setIfInBounds_toArray, ← List.map_set, h2] at c4
      have m4 := m3.setCell (p := ⟨g, j, none⟩) (.inr (show w.heap.size ≤ g by have := HG.out; omega)) (B (x ^^^ by_))
      unfold B at c4 m4 ⊢
      obtain ⟨y, hy⟩ : ∃ y, x ^^^ by_ = y := ⟨_, rfl⟩
      rw [hy] at hxor c4 m4
      clear h1 h2 hx c3 m3 hy hv
      go_wp2_with fail
      go_roundw
      case rel => exact ⟨j + 1, by omega, by go_num, c4, m4⟩
      case measure => simp [intOf]; omega
    · obtain rfl : j = 64 := by omega
      go_wp2_with fail
      go_ret
      refine ⟨_, rfl, ?_, m3⟩
      have e : partTurned by_ f 64 = f.map (· ^^^ by_) := by
        unfold partTurned
        rw [List.take_of_length_le (by omega), List.drop_of_length_le (by omega), List.append_nil]
      rw [e] at c3
      rw [List.length_map, hfl, HG.out]
      exact own_of_cells c3 (by rw [List.length_map, List.length_map, hfl]) (Nat.le_refl _) (by unfold maxLen; omega)

end Go.Proofs.YtakgnkjopbflbaaGreatDoor
