/- A key's first half, without the bits that may not be: poly.Clamp. The condition: the key has 32 bytes. -/
import Derived.Test.YtaeociedjdgdfaaGreatDoorDf
namespace Go.Proofs.YtaeociedjdgdfaaGreatDoor
open Go.RowKit

/-- A byte without some bits. -/
def maskAt (l : List UInt8) (m : UInt8) (i : Nat) : List UInt8 := l.set i (l.getD i 0 &&& m)
theorem maskAt_length (l : List UInt8) (m : UInt8) (i : Nat) : (maskAt l m i).length = l.length := by simp [maskAt]
/-- The first so many of some places. -/
def maskP (l : List UInt8) (m : UInt8) (ps : List Nat) : Nat → List UInt8
  | 0 => l
  | k + 1 => maskAt (maskP l m ps k) m (ps.getD k 0)
theorem maskP_length (l : List UInt8) (m : UInt8) (ps : List Nat) : ∀ k, (maskP l m ps k).length = l.length
  | 0 => rfl
  | k + 1 => by rw [maskP, maskAt_length, maskP_length l m ps k]
def clampL (key : List UInt8) : List UInt8 := maskP (maskP (key.take 16) 15 [3, 7, 11, 15] 4) 252 [4, 8, 12] 3
theorem clampL_length (key : List UInt8) (h : key.length = 32) : (clampL key).length = 16 := by
  unfold clampL
  rw [maskP_length, maskP_length, List.length_take, h]
  rfl
theorem size_b16 : (Tryz.prog.info? 96).map (·.size) = some 16 := by kernel_rfl
theorem arrB_at (l : List UInt8) (i : Nat) (h : i < l.length) : (arrB l)[i]? = some (B (l.getD i 0)) := by
  simp [arrB, List.getElem?_eq_getElem h, List.getD_eq_getElem?_getD]
theorem arrB_put (l : List UInt8) (i : Nat) (v : UInt8) : (arrB l).setIfInBounds i (B v) = arrB (l.set i v) := by
  apply Array.toList_inj.1
  simp [arrB, List.map_set]
/-- Numbers as cells. -/
def arrI (ps : List Nat) : Array Value := (ps.map fun (p : Nat) => Value.int .i64 (p : Int)).toArray
theorem arrI_at (ps : List Nat) (i : Nat) (h : i < ps.length) : (arrI ps)[i]? = some (.int .i64 ((ps.getD i 0 : Nat) : Int)) := by
  simp [arrI, List.getElem?_eq_getElem h, List.getD_eq_getElem?_getD]
theorem zeros16b : #[.int .u8 0, .int .u8 0, .int .u8 0, .int .u8 0, .int .u8 0, .int .u8 0, .int .u8 0, .int .u8 0, .int .u8 0, .int .u8 0, .int .u8 0, .int .u8 0, .int .u8 0, .int .u8 0, .int .u8 0, .int .u8 0] = arrB (List.replicate 16 0) := by kernel_rfl

set_option maxRecDepth 100000 in
set_option maxHeartbeats 1000000 in
theorem clamp_any (key : List UInt8) (w : World) (hk : key.length = 32) :
    Calls Tryz.prog 151 #[.agg (arrB key)] w fun e w' => e = .returned (.agg (arrB (clampL key))) ∧ Mod w w' Nob := by
  have hkl : (key.take 16).length = 16 := by rw [List.length_take, hk]; rfl
  have m0 := ((Mod.refl w Nob).alloc (.cells (arrB key) 22)).alloc (.cells (arrB (List.replicate 16 0)) 96)
  have cK := (CellsAt.new w (arrB key) 22).alloc (.cells (arrB (List.replicate 16 0)) 96)
  have cO := CellsAt.new (w.alloc (.cells (arrB key) 22)) (arrB (List.replicate 16 0)) 96
  have cR0 := CellsAt.new ((w.alloc (.cells (arrB key) 22)).alloc (.cells (arrB (List.replicate 16 0)) 96)) (arrB (List.replicate 16 0)) 96
  have hto := run_toArray (P := Tryz.prog) 96 16 5 (some ⟨w.heap.size, 0, none⟩) 16 32 Tryz.underlying96 (Nat.le_refl _)
  have hcells : ∀ (j : Nat) v, ((key.take 16).map B)[j]? = some v → ((w.alloc (.cells (arrB key) 22)).alloc (.cells (arrB (List.replicate 16 0)) 96)).cell? ⟨w.heap.size, 0 + j, none⟩ = some v := fun j v hv => by
    rw [Nat.zero_add, cK.cell j]
    have hj : j < 16 := by have := (List.getElem?_eq_some_iff.1 hv).1; rw [List.length_map, hkl] at this; exact this
    rw [List.getElem?_map, List.getElem?_take_of_lt hj] at hv
    simpa [arrB] using hv
  simp only [World.size_alloc] at cO cR0
  have hCL : Box (clampL key = maskP (maskP (key.take 16) 15 [3, 7, 11, 15] 4) 252 [4, 8, 12] 3) := ⟨rfl⟩
  obtain ⟨kl, hkl0⟩ : ∃ kl, key.take 16 = kl := ⟨_, rfl⟩
  rw [hkl0] at hkl hcells hCL
  have HKL := Box.mk hkl
  have cR1 := cR0.setRow (arrB kl)
  have cO1 := (cO.alloc (.cells (arrB (List.replicate 16 0)) 96)).other (g2 := w.heap.size + 1 + 1) (arrB kl) (by omega)
  have m1 := (m0.alloc (.cells (arrB (List.replicate 16 0)) 96)).setRow (g := w.heap.size + 1 + 1) (.inr (by omega)) (arrB kl)
  have hsz : ((((w.alloc (.cells (arrB key) 22)).alloc (.cells (arrB (List.replicate 16 0)) 96)).alloc (.cells (arrB (List.replicate 16 0)) 96)).setRow (w.heap.size + 1 + 1) (arrB kl)).heap.size = w.heap.size + 1 + 1 + 1 := by simp
  have cI := new_at (w := (((w.alloc (.cells (arrB key) 22)).alloc (.cells (arrB (List.replicate 16 0)) 96)).alloc (.cells (arrB (List.replicate 16 0)) 96)).setRow (w.heap.size + 1 + 1) (arrB kl)) (cs := arrI [3, 7, 11, 15]) (t := 3) (g := w.heap.size + 1 + 1 + 1) hsz.symm
  have cR2 := cR1.alloc (.cells (arrI [3, 7, 11, 15]) 3)
  have cO2 := cO1.alloc (.cells (arrI [3, 7, 11, 15]) 3)
  have m2 := m1.alloc (.cells (arrI [3, 7, 11, 15]) 3)
  clear hkl hkl0 m0 cK cO cR1 cO1 m1 hsz hk
  go_enter Tryz.func151, Tryz.ntmps151
  go_wp2_with (first
    | (refine wpList_load_cells rfl 96 (.tmp 9) rfl w.heap.size 0 16 5 rfl (kl.map B) Tryz.underlying96 size_b16 (by rw [List.length_map, HKL.out]) (by exact hcells) ?_)
    | (refine wpList_store_arr rfl 96 (.tmp 3) (.tmp 10) rfl (w.heap.size + 1 + 1) 16 (arrB kl) (arrB (List.replicate 16 0)) rfl rfl (by exact cR0) size_b16 (by rw [arrB_size, HKL.out]) (by rw [arrB_size]; rfl) (arrB_one _) ?_))
  change Code.wp _ _ _ _ (((((w.alloc (.cells (arrB key) 22)).alloc (.cells (arrB (List.replicate 16 0)) 96)).alloc (.cells (arrB (List.replicate 16 0)) 96)).setRow (w.heap.size + 1 + 1) (arrB kl)).alloc (.cells (arrI [3, 7, 11, 15]) 3))
  obtain ⟨W1, hW1⟩ : ∃ W1, (((((w.alloc (.cells (arrB key) 22)).alloc (.cells (arrB (List.replicate 16 0)) 96)).alloc (.cells (arrB (List.replicate 16 0)) 96)).setRow (w.heap.size + 1 + 1) (arrB kl)).alloc (.cells (arrI [3, 7, 11, 15]) 3)) = W1 := ⟨_, rfl⟩
  rw [hW1] at cR2 cO2 m2 cI ⊢
  obtain ⟨H, hH⟩ : ∃ H, w.heap.size = H := ⟨_, rfl⟩
  rw [hH] at cR2 cO2 cI ⊢
  have HH := Lib.hid hH
  clear hW1 hH cR0 hcells hto
  go_loopg [13] 4 (fun g t wr => ∃ k : Nat, k + g = 4 ∧ t = .int .i64 k ∧ CellsAt wr (H + 1 + 1) (arrB (maskP kl 15 [3, 7, 11, 15] k)) 96 ∧ CellsAt wr (H + 1 + 1 + 1) (arrI [3, 7, 11, 15]) 3 ∧ CellsAt wr (H + 1) (arrB (List.replicate 16 0)) 96 ∧ Mod w wr Nob)
  case atStart => exact ⟨0, by omega, rfl, cR2, cI, cO2, m2⟩
  case round =>
    clear cR2 cI cO2 m2
    obtain ⟨k, hk, rfl, cR, cI, cO, m1⟩ := hrel
    have hml : (maskP kl 15 [3, 7, 11, 15] k).length = 16 := by rw [maskP_length, HKL.out]
    by_cases hlt : k < 4
    · have hp16 : [3, 7, 11, 15].getD k 0 < 16 := by
        have : ∀ k, k < 4 → [3, 7, 11, 15].getD k 0 < 16 := by decide
        exact this k hlt
      have ki := (cI.cell k).trans (arrI_at [3, 7, 11, 15] k hlt)
      have HNX : Box (maskP kl 15 [3, 7, 11, 15] (k + 1) = maskAt (maskP kl 15 [3, 7, 11, 15] k) 15 ([3, 7, 11, 15].getD k 0)) := ⟨rfl⟩
      obtain ⟨p, hp⟩ : ∃ p, [3, 7, 11, 15].getD k 0 = p := ⟨_, rfl⟩
      rw [hp] at hp16 ki HNX
      obtain ⟨l, hl⟩ : ∃ l, maskP kl 15 [3, 7, 11, 15] k = l := ⟨_, rfl⟩
      rw [hl] at cR HNX hml
      have kr := (cR.cell p).trans (arrB_at l p (by omega))
      have fr := cR.free p
      have HN2 : Box (maskP kl 15 [3, 7, 11, 15] (k + 1) = l.set p (l.getD p 0 &&& 15)) := ⟨HNX.out⟩
      obtain ⟨x, hx⟩ : ∃ x, l.getD p 0 = x := ⟨_, rfl⟩
      rw [hx] at kr HN2
      have ha := and_u8 x 15
      obtain ⟨z, hz⟩ : ∃ z, x &&& 15 = z := ⟨_, rfl⟩
      rw [hz] at ha HN2
      change bits BinOp.and IntKind.u8 (x.toNat : Int) 15 = _ at ha
      have cR2 := cR.set p (B z)
      rw [arrB_put, ← HN2.out] at cR2
      have HH2 := HH.out
      have hm2 := (Mod.refl wr (· = H + 1 + 1)).setCell (p := ⟨H + 1 + 1, p, none⟩) (.inl rfl) (B z)
      have cI2 := cI.mod hm2 (by omega)
      have cO2 := cO.mod hm2 (by omega)
      have m2 := m1.drop hm2 (fun q (hq : q = H + 1 + 1) => .inr (by omega))
      have lp : (p : Int) < 16 := by omega
      have hdk : decide ((k : Int) < 4) = true := by simp; omega
      have HK := Lib.hid hk
      unfold B at kr cR2 cI2 cO2 m2
      clear HNX hp hl hx hz cR cI cO m1 hm2 HN2 hk
      go_wp2_with fail
      go_roundg (gk - 1)
      case measure => have := HK.out; omega
      case rel => exact ⟨k + 1, by have := HK.out; omega, by go_num, cR2, cI2, cO2, m2⟩
    · obtain rfl : k = 4 := by omega
      have hdk : decide (((4 : Nat) : Int) < 4) = false := by decide
      rw [show ((4 : Nat) : Int) = 4 from rfl]
      go_wp2_with fail
      obtain ⟨wo, rfl⟩ : ∃ wo : World, wo = wr := ⟨_, rfl⟩
      obtain ⟨kl2, hkl2⟩ : ∃ kl2, maskP kl 15 [3, 7, 11, 15] 4 = kl2 := ⟨_, rfl⟩
      rw [hkl2] at cR hml
      have HKL2 := Box.mk hkl2
      have HKL := Box.mk hml
      clear hkl2 hml
      have cR2 := cR.alloc (.cells (arrI [4, 8, 12]) 3)
      have cO2 := cO.alloc (.cells (arrI [4, 8, 12]) 3)
      have m2 := m1.alloc (.cells (arrI [4, 8, 12]) 3)
      have cI := CellsAt.new wo (arrI [4, 8, 12]) 3
      have hzz := cR.lt
      have hzi : H + 1 + 1 < wo.heap.size := cR.lt
      clear cR cO m1
      obtain ⟨K2, hK2⟩ : ∃ K2, wo.heap.size = K2 := ⟨_, rfl⟩
      obtain ⟨W2, hW2⟩ : ∃ W2, wo.alloc (.cells (arrI [4, 8, 12]) 3) = W2 := ⟨_, rfl⟩
      change Code.wp _ _ _ _ (wo.alloc (.cells (arrI [4, 8, 12]) 3))
      rw [hW2] at cR2 cO2 m2 cI ⊢
      rw [hK2] at cI hzi ⊢
      clear hW2 hK2
      go_loopg [25] 3 (fun g t wr => ∃ k : Nat, k + g = 3 ∧ t = .int .i64 k ∧ CellsAt wr (H + 1 + 1) (arrB (maskP kl2 252 [4, 8, 12] k)) 96 ∧ CellsAt wr K2 (arrI [4, 8, 12]) 3 ∧ CellsAt wr (H + 1) (arrB (List.replicate 16 0)) 96 ∧ Mod w wr Nob)
      case atStart => exact ⟨0, by omega, rfl, cR2, cI, cO2, m2⟩
      case round =>
        clear cR2 cI cO2 m2
        obtain ⟨k, hk, rfl, cR, cI, cO, m1⟩ := hrel
        have hml : (maskP kl2 252 [4, 8, 12] k).length = 16 := by rw [maskP_length, HKL.out]
        by_cases hlt : k < 3
        · have hp16 : [4, 8, 12].getD k 0 < 16 := by
            have : ∀ k, k < 3 → [4, 8, 12].getD k 0 < 16 := by decide
            exact this k hlt
          have ki := (cI.cell k).trans (arrI_at [4, 8, 12] k hlt)
          have HNX : Box (maskP kl2 252 [4, 8, 12] (k + 1) = maskAt (maskP kl2 252 [4, 8, 12] k) 252 ([4, 8, 12].getD k 0)) := ⟨rfl⟩
          obtain ⟨p, hp⟩ : ∃ p, [4, 8, 12].getD k 0 = p := ⟨_, rfl⟩
          rw [hp] at hp16 ki HNX
          obtain ⟨l, hl⟩ : ∃ l, maskP kl2 252 [4, 8, 12] k = l := ⟨_, rfl⟩
          rw [hl] at cR HNX hml
          have kr := (cR.cell p).trans (arrB_at l p (by omega))
          have fr := cR.free p
          have HN2 : Box (maskP kl2 252 [4, 8, 12] (k + 1) = l.set p (l.getD p 0 &&& 252)) := ⟨HNX.out⟩
          obtain ⟨x, hx⟩ : ∃ x, l.getD p 0 = x := ⟨_, rfl⟩
          rw [hx] at kr HN2
          have ha := and_u8 x 252
          obtain ⟨z, hz⟩ : ∃ z, x &&& 252 = z := ⟨_, rfl⟩
          rw [hz] at ha HN2
          change bits BinOp.and IntKind.u8 (x.toNat : Int) 252 = _ at ha
          have cR2 := cR.set p (B z)
          rw [arrB_put, ← HN2.out] at cR2
          have HH2 := HH.out
          have hm2 := (Mod.refl wr (· = H + 1 + 1)).setCell (p := ⟨H + 1 + 1, p, none⟩) (.inl rfl) (B z)
          have cI2 := cI.mod hm2 (by omega)
          have cO2 := cO.mod hm2 (by omega)
          have m2 := m1.drop hm2 (fun q (hq : q = H + 1 + 1) => .inr (by omega))
          have lp : (p : Int) < 16 := by omega
          have hdk : decide ((k : Int) < 3) = true := by simp; omega
          have HK := Lib.hid hk
          unfold B at kr cR2 cI2 cO2 m2
          clear HNX hp hl hx hz cR cI cO m1 hm2 HN2 hk
          go_wp2_with fail
          go_roundg (gk - 1)
          case measure => have := HK.out; omega
          case rel => exact ⟨k + 1, by have := HK.out; omega, by go_num, cR2, cI2, cO2, m2⟩
        · obtain rfl : k = 3 := by omega
          have HH2 := HH.out
          have hfin : Box (clampL key = maskP kl2 252 [4, 8, 12] 3) := ⟨by rw [hCL.out, HKL2.out]⟩
          have hdk : decide (((3 : Nat) : Int) < 3) = false := by decide
          rw [show ((3 : Nat) : Int) = 3 from rfl]
          have hsr : Box ((arrB (clampL key)).size = 16) := ⟨by rw [arrB_size, hfin.out]; exact hml⟩
          rw [← hfin.out] at cR
          go_wp2_with (first
            | (refine wpList_load_arr rfl 96 (.tmp 3) rfl (H + 1 + 1) 16 5 rfl (arrB (clampL key)) (by exact cR) Tryz.underlying96 size_b16 hsr.out ?_)
            | (refine wpList_store_arr rfl 96 (.tmp 2) (.tmp 35) rfl (H + 1) 16 (arrB (clampL key)) (arrB (List.replicate 16 0)) rfl rfl (by exact cO) size_b16 hsr.out (by rw [arrB_size]; rfl) (arrB_one _) ?_))
          exact bodyPost_ret (v := .agg (arrB (clampL key))) (ret_arr rfl _ _ (H + 1) 16 5 _ rfl (cO.setRow _) Tryz.underlying96 size_b16 hsr.out) rfl ⟨rfl, m1.setRow (.inr (by omega)) _⟩

end Go.Proofs.YtaeociedjdgdfaaGreatDoor
