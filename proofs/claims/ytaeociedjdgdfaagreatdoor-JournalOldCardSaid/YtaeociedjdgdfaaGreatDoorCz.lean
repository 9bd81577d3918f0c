/- What a block of ChaCha20 begins with: chacha.state. The condition: the key has 32 bytes, the nonce 12. -/
import Derived.Test.YtaeociedjdgdfaaGreatDoorCy
namespace Go.Proofs.YtaeociedjdgdfaaGreatDoor
open Go.RowKit

/-- A word of bytes, the lowest first. -/
def wordAt (l : List UInt8) (i : Nat) : UInt32 := UInt32.ofNat (leN ((l.drop (4 * i)).take 4))
def stateA (key : List UInt8) (i : Nat) : List UInt32 := [1634760805, 857760878, 2036477234, 1797285236] ++ (List.range i).map (wordAt key)
def stateB (key : List UInt8) (ctr : UInt32) (nonce : List UInt8) (i : Nat) : List UInt32 := (stateA key 8 ++ [ctr]) ++ (List.range i).map (wordAt nonce)
/-- What a block begins with. -/
def stateW (key : List UInt8) (ctr : UInt32) (nonce : List UInt8) : List UInt32 := stateB key ctr nonce 3
theorem stateA_length (key : List UInt8) (i : Nat) : (stateA key i).length = 4 + i := by simp [stateA]; omega
theorem stateB_length (key : List UInt8) (ctr : UInt32) (nonce : List UInt8) (i : Nat) : (stateB key ctr nonce i).length = 13 + i := by simp [stateB, stateA_length]; omega
theorem stateA_snoc (key : List UInt8) (i : Nat) : stateA key (i + 1) = stateA key i ++ [wordAt key i] := by simp [stateA, List.range_succ]
theorem stateB_snoc (key : List UInt8) (ctr : UInt32) (nonce : List UInt8) (i : Nat) : stateB key ctr nonce (i + 1) = stateB key ctr nonce i ++ [wordAt nonce i] := by simp [stateB, List.range_succ]
theorem size_a16 : (Tryz.prog.info? 153).map (·.size) = some 16 := by kernel_rfl
theorem zeros16 : #[.int .u32 0, .int .u32 0, .int .u32 0, .int .u32 0, .int .u32 0, .int .u32 0, .int .u32 0, .int .u32 0, .int .u32 0, .int .u32 0, .int .u32 0, .int .u32 0, .int .u32 0, .int .u32 0, .int .u32 0, .int .u32 0] = arr32 [] 16 := by kernel_rfl
theorem consts16 (key : List UInt8) : #[.int .u32 1634760805, .int .u32 857760878, .int .u32 2036477234, .int .u32 1797285236, .int .u32 0, .int .u32 0, .int .u32 0, .int .u32 0, .int .u32 0, .int .u32 0, .int .u32 0, .int .u32 0, .int .u32 0, .int .u32 0, .int .u32 0, .int .u32 0] = arr32 (stateA key 0) 16 := by kernel_rfl
theorem wordAt_num (l : List UInt8) (i q : Nat) (h : leN ((l.drop (4 * i)).take 4) = q) (hl : 4 * i + 4 ≤ l.length) : (q : Int) = n32 (wordAt l i) ∧ q < 4294967296 := by
  have h1 := leN_lt ((l.drop (4 * i)).take 4)
  have h2 : ((l.drop (4 * i)).take 4).length = 4 := by rw [List.length_take, List.length_drop]; omega
  rw [h2, h] at h1
  have h3 : q < 4294967296 := h1
  refine ⟨?_, h3⟩
  unfold wordAt n32
  rw [h]
  simp
  omega
/-- A block of bytes from a place on, as a slice. -/
theorem bytes_block_from {w : World} {g n : Nat} {l : List UInt8} {t : TypeId} (h : CellsAt w g (arrB l) t) (hn : l.length = n) (hm : n ≤ 1099511627776) (k : Nat) (hk : k ≤ n) : BytesAt w (.slice (some ⟨g, k, none⟩) (n - k) (n - k)) (l.drop k) := by
  refine .inl (.inr ⟨g, k, n - k, by rw [List.length_map, List.length_drop, hn], h.lt, by rw [List.length_map, List.length_drop, hn]; exact Nat.le_refl _, by unfold maxLen; omega, fun i u hi => ?_⟩)
  rw [h.cell (k + i)]
  rw [List.getElem?_map, List.getElem?_drop] at hi
  simpa [arrB] using hi

/-- An array from a place on, as a slice. -/
theorem run_arr_from {P : Program} (t : TypeId) (n e : Nat) (g k : Nat) (l : Int) (kl : IntKind) (hu : P.underlying t = some (.array n e)) (hs : ∀ w, (sizeOf e).run P w = .ok 1 w) (hl : l = (k : Int)) (hk : k < n) (w : World) :
    (Instr.sliceAt t (.pointer (some ⟨g, 0, none⟩)) (some (.int kl l)) none none).run P w = .ok (.slice (some ⟨g, k, none⟩) (n - k) (n - k)) w := by
  subst hl
  have ha : P.arrayLen t = n := by simp [Program.arrayLen, hu]
  have he : P.elem t = e := by simp [Program.elem, hu]
  rw [run_sliceAt_array_l w t ⟨g, 0, none⟩ (by rw [ha, he]; exact hu) kl (k : Int) (by omega) (by rw [ha]; omega), ha, he, hs]
  have hne : ¬ n = k := by omega
  simp [Result.andThen, slicedAt, hne, Addr.add]
  intro h; exact h.symm

set_option maxRecDepth 100000 in
set_option maxHeartbeats 1000000 in
theorem state_any (key nonce : List UInt8) (ctr : UInt32) (w : World) (hk : key.length = 32) (hn : nonce.length = 12) :
    Calls Tryz.prog 148 #[.agg (arrB key), V32 ctr, .agg (arrB nonce)] w fun e w' => e = .returned (.agg (arr32 (stateW key ctr nonce) 16)) ∧ Mod w w' Nob := by
  go_enter Tryz.func148, Tryz.ntmps148
  go_wp2_with fail
  rw [zeros16, consts16 key]
  have cK := ((CellsAt.new w (arrB key) 22).alloc (.cells (arrB nonce) 47)).alloc (.cells (arr32 [] 16) 153) |>.alloc (.cells (arr32 (stateA key 0) 16) 153)
  have cN := ((CellsAt.new (w.alloc (.cells (arrB key) 22)) (arrB nonce) 47).alloc (.cells (arr32 [] 16) 153)).alloc (.cells (arr32 (stateA key 0) 16) 153)
  have cR := (CellsAt.new ((w.alloc (.cells (arrB key) 22)).alloc (.cells (arrB nonce) 47)) (arr32 [] 16) 153).alloc (.cells (arr32 (stateA key 0) 16) 153)
  have cS := CellsAt.new (((w.alloc (.cells (arrB key) 22)).alloc (.cells (arrB nonce) 47)).alloc (.cells (arr32 [] 16) 153)) (arr32 (stateA key 0) 16) 153
  have m0 := ((((Mod.refl w Nob).alloc (.cells (arrB key) 22)).alloc (.cells (arrB nonce) 47)).alloc (.cells (arr32 [] 16) 153)).alloc (.cells (arr32 (stateA key 0) 16) 153)
  simp only [World.size_alloc] at cN cR cS
  obtain ⟨W1, hW1⟩ : ∃ W1, (((w.alloc (.cells (arrB key) 22)).alloc (.cells (arrB nonce) 47)).alloc (.cells (arr32 [] 16) 153)).alloc (.cells (arr32 (stateA key 0) 16) 153) = W1 := ⟨_, rfl⟩
  rw [hW1] at cK cN cR cS m0 ⊢
  obtain ⟨H, hH⟩ : ∃ H, w.heap.size = H := ⟨_, rfl⟩
  rw [hH] at cK cN cR cS ⊢
  have HH := Lib.hid hH
  clear hW1 hH
  go_loopw [8, 11] (fun _ s wr => ∃ i : Nat, i ≤ 8 ∧ s = .int .i64 i ∧ CellsAt wr (H + 1 + 1 + 1) (arr32 (stateA key i) 16) 153 ∧ CellsAt wr H (arrB key) 22 ∧ CellsAt wr (H + 1) (arrB nonce) 47 ∧ CellsAt wr (H + 1 + 1) (arr32 [] 16) 153 ∧ Mod w wr Nob) (fun _ s _ => 8 - (intOf s).toNat)
  case atStart => exact ⟨0, by omega, rfl, cS, cK, cN, cR, m0⟩
  case round =>
    clear cK cN cR cS m0
    obtain ⟨i, hi, rfl, cS, cK, cN, cR, m0⟩ := hrel
    by_cases hlt : i < 8
    · have hfr := cS.free (4 + i)
      obtain ⟨old, hold⟩ : ∃ u, wr.cell? ⟨H + 1 + 1 + 1, 4 + i, none⟩ = some u := ⟨_, (cS.cell _).trans (Array.getElem?_eq_getElem (by rw [arr32_size _ _ (by rw [stateA_length]; omega)]; omega))⟩
      obtain ⟨P, hP⟩ : ∃ P, 4 * i = P := ⟨_, rfl⟩
      have hP2 : P + 4 ≤ 32 := by omega
      have hb := bytes_block_from cK hk (by omega) P (by omega)
      have hlow := low_any _ _ 4 wr hb (by rw [List.length_drop, hk]; omega) (by omega)
      obtain ⟨q, hq⟩ : ∃ q, leN ((key.drop P).take 4) = q := ⟨_, rfl⟩
      rw [hq] at hlow
      rw [← hP] at hq
      obtain ⟨hx, hq32⟩ := wordAt_num key i q hq (by omega)
      have hnext : arr32 (stateA key (i + 1)) 16 = (arr32 (stateA key i) 16).setIfInBounds (4 + i) (V32 (wordAt key i)) := by
        have h1 := arr32_set (stateA key i) 16 (wordAt key i) (by rw [stateA_length]; omega)
        rw [stateA_length] at h1
        rw [h1, stateA_snoc]
      obtain ⟨x, hxx⟩ : ∃ x, wordAt key i = x := ⟨_, rfl⟩
      rw [hxx] at hx hnext
      have HN := Lib.hid hnext
      have HX := Lib.hid hx
      clear hx
      have hrun := fun W => run_arr_from (P := Tryz.prog) 22 32 5 H P (4 * (i : Int)) .i64 Tryz.underlying22 size_u8 (by omega) (by omega) W
      have HP := Lib.hid hP
      clear hnext hq hxx hb hP
      go_wp2_with fail
      refine hlow.mono ?_
      rintro e wz ⟨rfl, rfl⟩
      clear hlow hrun
      have hx := HX.out
      go_wp2_with fail
      have hc2 := cS.set (4 + i) (V32 x)
      rw [← HN.out] at hc2
      have hm2 := (Mod.refl wz (· = H + 1 + 1 + 1)).setCell (p := ⟨H + 1 + 1 + 1, 4 + i, none⟩) (.inl rfl) (V32 x)
      exact ⟨⟨i + 1, by omega, by go_num, hc2, cK.mod hm2 (by omega), cN.mod hm2 (by omega), cR.mod hm2 (by omega), m0.setCell (p := ⟨H + 1 + 1 + 1, 4 + i, none⟩) (.inr (show w.heap.size ≤ H + 1 + 1 + 1 by have := HH.out; omega)) _⟩, by simp [intOf]; omega⟩
    · obtain rfl : i = 8 := by omega
      have hfr := cS.free 12
      obtain ⟨old, hold⟩ : ∃ u, wr.cell? ⟨H + 1 + 1 + 1, 12, none⟩ = some u := ⟨_, (cS.cell _).trans (Array.getElem?_eq_getElem (by rw [arr32_size _ _ (by rw [stateA_length]; omega)]; omega))⟩
      go_wp2_with fail
      have hc2 := cS.set 12 (V32 ctr)
      have hnext : (arr32 (stateA key 8) 16).setIfInBounds 12 (V32 ctr) = arr32 (stateB key ctr nonce 0) 16 := by
        have h1 := arr32_set (stateA key 8) 16 ctr (by rw [stateA_length]; omega)
        rw [stateA_length] at h1
        rw [h1]
        simp [stateB]
      rw [hnext] at hc2
      have hm2 := (Mod.refl wr (· = H + 1 + 1 + 1)).setCell (p := ⟨H + 1 + 1 + 1, 12, none⟩) (.inl rfl) (V32 ctr)
      have cN2 := cN.mod hm2 (by omega)
      have cR2 := cR.mod hm2 (by omega)
      have m2 := m0.setCell (p := ⟨H + 1 + 1 + 1, 12, none⟩) (.inr (show w.heap.size ≤ H + 1 + 1 + 1 by have := HH.out; omega)) (V32 ctr)
      obtain ⟨W2, hW2⟩ : ∃ W2, wr.setCell ⟨H + 1 + 1 + 1, 12, none⟩ (V32 ctr) = W2 := ⟨_, rfl⟩
      rw [hW2] at hc2 cN2 cR2 m2 ⊢
      clear hW2 hm2 hnext cS cK cN cR m0 hfr hold hlt
      go_loopw [9, 25] (fun _ s wr => ∃ i : Nat, i ≤ 3 ∧ s = .int .i64 i ∧ CellsAt wr (H + 1 + 1 + 1) (arr32 (stateB key ctr nonce i) 16) 153 ∧ CellsAt wr (H + 1) (arrB nonce) 47 ∧ CellsAt wr (H + 1 + 1) (arr32 [] 16) 153 ∧ Mod w wr Nob) (fun _ s _ => 3 - (intOf s).toNat)
      case atStart => exact ⟨0, by omega, rfl, hc2, cN2, cR2, m2⟩
      case round =>
        clear hc2 cN2 cR2 m2
        obtain ⟨i, hi, rfl, cS, cN, cR, m0⟩ := hrel
        by_cases hlt : i < 3
        · have hfr := cS.free (13 + i)
          obtain ⟨old, hold⟩ : ∃ u, wr.cell? ⟨H + 1 + 1 + 1, 13 + i, none⟩ = some u := ⟨_, (cS.cell _).trans (Array.getElem?_eq_getElem (by rw [arr32_size _ _ (by rw [stateB_length]; omega)]; omega))⟩
          obtain ⟨P, hP⟩ : ∃ P, 4 * i = P := ⟨_, rfl⟩
          have hP2 : P + 4 ≤ 12 := by omega
          have hb := bytes_block_from cN hn (by omega) P (by omega)
          have hlow := low_any _ _ 4 wr hb (by rw [List.length_drop, hn]; omega) (by omega)
          obtain ⟨q, hq⟩ : ∃ q, leN ((nonce.drop P).take 4) = q := ⟨_, rfl⟩
          rw [hq] at hlow
          rw [← hP] at hq
          obtain ⟨hx, hq32⟩ := wordAt_num nonce i q hq (by omega)
          have hnext : arr32 (stateB key ctr nonce (i + 1)) 16 = (arr32 (stateB key ctr nonce i) 16).setIfInBounds (13 + i) (V32 (wordAt nonce i)) := by
            have h1 := arr32_set (stateB key ctr nonce i) 16 (wordAt nonce i) (by rw [stateB_length]; omega)
            rw [stateB_length] at h1
            rw [h1, stateB_snoc]
          obtain ⟨x, hxx⟩ : ∃ x, wordAt nonce i = x := ⟨_, rfl⟩
          rw [hxx] at hx hnext
          have HN := Lib.hid hnext
          have HX := Lib.hid hx
          clear hx
          have hrun := fun W => run_arr_from (P := Tryz.prog) 47 12 5 (H + 1) P (4 * (i : Int)) .i64 Tryz.underlying47 size_u8 (by omega) (by omega) W
          clear hnext hq hxx hb hP
          go_wp2_with fail
          refine hlow.mono ?_
          rintro e wz ⟨rfl, rfl⟩
          clear hlow hrun
          have hx := HX.out
          go_wp2_with fail
          have hc2 := cS.set (13 + i) (V32 x)
          rw [← HN.out] at hc2
          have hm2 := (Mod.refl wz (· = H + 1 + 1 + 1)).setCell (p := ⟨H + 1 + 1 + 1, 13 + i, none⟩) (.inl rfl) (V32 x)
          go_roundw
          case rel => (repeat apply Exists.intro); exact ⟨⟨i + 1, by omega, by go_num, hc2, cN.mod hm2 (by omega), cR.mod hm2 (by omega), m0.setCell (p := ⟨H + 1 + 1 + 1, 13 + i, none⟩) (.inr (show w.heap.size ≤ H + 1 + 1 + 1 by have := HH.out; omega)) _⟩, rfl⟩
          case measure => simp [intOf]; omega
        · obtain rfl : i = 3 := by omega
          have hsz := arr32_size (stateB key ctr nonce 3) 16 (by rw [stateB_length]; omega)
          have hszr := arr32_size [] 16 (by simp)
          go_wp2_with (first
            | (refine wpList_load_arr rfl 153 _ rfl (H + 1 + 1 + 1) 16 99 rfl _ cS Tryz.underlying153 size_a16 hsz ?_)
            | (refine wpList_store_arr rfl 153 _ _ rfl (H + 1 + 1) 16 (arr32 (stateB key ctr nonce 3) 16) (arr32 [] 16) rfl rfl cR size_a16 hsz hszr (arr32_one _ _) ?_))
          refine bodyPost_ret (v := .agg (arr32 (stateB key ctr nonce 3) 16)) (ret_arr rfl _ _ (H + 1 + 1) 16 99 _ rfl (cR.setRow _) Tryz.underlying153 size_a16 hsz) rfl ⟨rfl, m0.setRow (.inr (by have := HH.out; omega)) _⟩

end Go.Proofs.YtaeociedjdgdfaaGreatDoor
