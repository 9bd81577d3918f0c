/- A block of ChaCha20: chacha.Block. The condition: the key has 32 bytes, the nonce 12. -/
import Derived.StillTailTactics
import Derived.Deep.LoopGhost
import Derived.Test.YtaeociedjdgdfaaGreatDoorCz
import Derived.Test.YtaeociedjdgdfaaGreatDoorBj
namespace Go.Proofs.YtaeociedjdgdfaaGreatDoor
open Go.RowKit

/-- A fact that no tactic looks into: 'contradiction' unfolds 'Hid'. -/
structure Box (p : Prop) : Prop where
  out : p

/-- A quarter round at four places. -/
def qrAt (x : List UInt32) (i p q r : Nat) : List UInt32 :=
  (((x.set i (quarter (x.getD i 0) (x.getD p 0) (x.getD q 0) (x.getD r 0)).a).set p (quarter (x.getD i 0) (x.getD p 0) (x.getD q 0) (x.getD r 0)).b).set q (quarter (x.getD i 0) (x.getD p 0) (x.getD q 0) (x.getD r 0)).c).set r (quarter (x.getD i 0) (x.getD p 0) (x.getD q 0) (x.getD r 0)).d
theorem qrAt_length (x : List UInt32) (i p q r : Nat) : (qrAt x i p q r).length = x.length := by simp [qrAt]
def colsR (x : List UInt32) : Nat → List UInt32
  | 0 => x
  | i + 1 => qrAt (colsR x i) i (4 + i) (8 + i) (12 + i)
def diagsR (x : List UInt32) : Nat → List UInt32
  | 0 => x
  | i + 1 => qrAt (diagsR x i) i (4 + (i + 1) % 4) (8 + (i + 2) % 4) (12 + (i + 3) % 4)
def roundsR (x : List UInt32) : Nat → List UInt32
  | 0 => x
  | n + 1 => diagsR (colsR (roundsR x n) 4) 4
theorem colsR_length (x : List UInt32) : ∀ i, (colsR x i).length = x.length
  | 0 => rfl
  | i + 1 => by rw [colsR, qrAt_length, colsR_length x i]
theorem diagsR_length (x : List UInt32) : ∀ i, (diagsR x i).length = x.length
  | 0 => rfl
  | i + 1 => by rw [diagsR, qrAt_length, diagsR_length x i]
theorem roundsR_length (x : List UInt32) : ∀ n, (roundsR x n).length = x.length
  | 0 => rfl
  | n + 1 => by rw [roundsR, diagsR_length, colsR_length, roundsR_length x n]
/-- The first bytes of a block. -/
def blockB (s x : List UInt32) (j : Nat) : List UInt8 := ((List.range j).map fun i => leB 4 (x.getD i 0 + s.getD i 0).toNat).flatten
theorem blockB_snoc (s x : List UInt32) (j : Nat) : blockB s x (j + 1) = blockB s x j ++ leB 4 (x.getD j 0 + s.getD j 0).toNat := by simp [blockB, List.range_succ]
theorem blockB_length (s x : List UInt32) : ∀ j, (blockB s x j).length = 4 * j
  | 0 => rfl
  | j + 1 => by rw [blockB_snoc, List.length_append, blockB_length s x j, leB_length]; omega
/-- The block of a counter. -/
def blockL (key : List UInt8) (ctr : UInt32) (nonce : List UInt8) : List UInt8 := blockB (stateW key ctr nonce) (roundsR (stateW key ctr nonce) 10) 16
theorem blockL_length (key : List UInt8) (ctr : UInt32) (nonce : List UInt8) : (blockL key ctr nonce).length = 64 := blockB_length _ _ 16
theorem size_b64 : (Tryz.prog.info? 128).map (·.size) = some 64 := by kernel_rfl
theorem arr32_at (x : List UInt32) (h : x.length = 16) (i : Nat) (hi : i < 16) : (arr32 x 16)[i]? = some (V32 (x.getD i 0)) :=
  arr32_get x 16 i _ (by rw [List.getD_eq_getElem?_getD, List.getElem?_eq_getElem (by omega)]; rfl)
theorem arr32_put (x : List UInt32) (h : x.length = 16) (i : Nat) (v : UInt32) : (arr32 x 16).setIfInBounds i (V32 v) = arr32 (x.set i v) 16 := by
  apply Array.toList_inj.1
  simp [arr32, h, List.map_set]

/-- A block on its way: what it begins with, and the words so far. -/
structure BlkAt (w : World) (O S : Nat) (s0 x : List UInt32) (W : World) : Prop where
  s : CellsAt W S (arr32 s0 16) 153
  x : CellsAt W (S + 1) (arr32 x 16) 153
  o : CellsAt W O (arrB (List.replicate 64 0)) 128
  md : Mod w W Nob
  lt : O < S
  low : w.heap.size ≤ O
theorem BlkAt.put {w : World} {O S : Nat} {s0 x : List UInt32} {W : World} (h : BlkAt w O S s0 x W) (hx : x.length = 16) (i : Nat) (v : UInt32) : BlkAt w O S s0 (x.set i v) (W.setCell ⟨S + 1, i, none⟩ (V32 v)) := by
  have hm := (Mod.refl W (· = S + 1)).setCell (p := ⟨S + 1, i, none⟩) (.inl rfl) (V32 v)
  have h1 := h.lt
  have h2 := h.low
  have hc := h.x.set i (V32 v)
  rw [arr32_put x hx] at hc
  exact ⟨h.s.mod hm (by omega), hc, h.o.mod hm (by omega), h.md.drop hm (fun k (hk : k = S + 1) => .inr (by omega)), h1, h2⟩
theorem BlkAt.drew {w : World} {O S : Nat} {s0 x : List UInt32} {W : World} (h : BlkAt w O S s0 x W) : BlkAt w O S s0 x W.drew :=
  ⟨h.s.mod ((Mod.refl _ Nob).drew) nob, h.x.mod ((Mod.refl _ Nob).drew) nob, h.o.mod ((Mod.refl _ Nob).drew) nob, h.md.drew, h.lt, h.low⟩
theorem BlkAt.mod {w : World} {O S : Nat} {s0 x : List UInt32} {W W' : World} (h : BlkAt w O S s0 x W) (hm : Mod W W' Nob) : BlkAt w O S s0 x W' :=
  ⟨h.s.mod hm nob, h.x.mod hm nob, h.o.mod hm nob, h.md.trans hm, h.lt, h.low⟩

theorem BlkAt.far {w : World} {O S : Nat} {s0 x : List UInt32} {W W' : World} {T : Nat → Prop} (h : BlkAt w O S s0 x W) (hm : Mod W W' T) (hT : ∀ k, T k → S + 1 < k) : BlkAt w O S s0 x W' := by
  have h1 := h.lt
  have h2 := h.low
  exact ⟨h.s.mod hm (fun hk => by have := hT _ hk; omega), h.x.mod hm (fun hk => by have := hT _ hk; omega), h.o.mod hm (fun hk => by have := hT _ hk; omega), h.md.drop hm (fun k hk => .inr (by have := hT _ hk; omega)), h1, h2⟩

set_option maxRecDepth 100000 in
set_option maxHeartbeats 2000000 in
theorem block_any (key nonce : List UInt8) (ctr : UInt32) (w : World) (hk : key.length = 32) (hn : nonce.length = 12) :
    Calls Tryz.prog 127 #[.agg (arrB key), V32 ctr, .agg (arrB nonce)] w fun e w' => e = .returned (.agg (arrB (blockL key ctr nonce))) ∧ Mod w w' Nob := by
  have ks : Hid ((arrB key).size = 32) := by rw [arrB_size, hk]; exact rfl
  have ns : Hid ((arrB nonce).size = 12) := by rw [arrB_size, hn]; exact rfl
  have cK := ((CellsAt.new w (arrB key) 22).alloc (.cells (arrB nonce) 47)).alloc (.cells (arrB (List.replicate 64 0)) 128)
  have cN := (CellsAt.new (w.alloc (.cells (arrB key) 22)) (arrB nonce) 47).alloc (.cells (arrB (List.replicate 64 0)) 128)
  have cO := CellsAt.new ((w.alloc (.cells (arrB key) 22)).alloc (.cells (arrB nonce) 47)) (arrB (List.replicate 64 0)) 128
  have m0 := (((Mod.refl w Nob).alloc (.cells (arrB key) 22)).alloc (.cells (arrB nonce) 47)).alloc (.cells (arrB (List.replicate 64 0)) 128)
  simp only [World.size_alloc] at cN cO
  have hst := state_any key nonce ctr (((w.alloc (.cells (arrB key) 22)).alloc (.cells (arrB nonce) 47)).alloc (.cells (arrB (List.replicate 64 0)) 128)) hk hn
  obtain ⟨s0, hs0⟩ : ∃ s0, stateW key ctr nonce = s0 := ⟨_, rfl⟩
  have hsl : s0.length = 16 := by rw [← hs0]; exact stateB_length _ _ _ 3
  have HB : Box (blockL key ctr nonce = blockB s0 (roundsR s0 10) 16) := ⟨by rw [← hs0]; rfl⟩
  rw [hs0] at hst
  have HSL := Lib.hid hsl
  clear hs0 hsl hk hn
  go_enter Tryz.func127, Tryz.ntmps127
  go_wp2_with (first
    | (refine wpList_load_arr rfl 22 _ rfl w.heap.size 32 5 rfl (arrB key) (by exact cK) Tryz.underlying22 size_b32 ks.out ?_)
    | (refine wpList_load_arr rfl 47 _ rfl (w.heap.size + 1) 12 5 rfl (arrB nonce) (by exact cN) Tryz.underlying47 size_b12 ns.out ?_))
  refine hst.mono ?_
  rintro e W1 ⟨rfl, m1⟩
  replace cO := cO.mod m1 nob
  replace m0 := m0.trans m1
  have hz := m1.size
  simp only [World.size_alloc] at hz
  clear hst cK cN m1 ks ns
  have q0 := arr32_size [] 16 (by simp)
  have q1 := arr32_size s0 16 (by rw [HSL.out]; exact Nat.le_refl _)
  have Q0 := Lib.hid q0
  have Q1 := Lib.hid q1
  clear q0 q1
  have cA := CellsAt.new W1 (arr32 [] 16) 153
  have cA2 := cA.setRow (arr32 s0 16)
  have m2 := ((m0.alloc (.cells (arr32 [] 16) 153)).setRow (g := W1.heap.size) (.inr (by omega)) (arr32 s0 16))
  have cO2 := (cO.alloc (.cells (arr32 [] 16) 153)).other (g2 := W1.heap.size) (arr32 s0 16) (by omega)
  have hz2 : ((W1.alloc (.cells (arr32 [] 16) 153)).setRow W1.heap.size (arr32 s0 16)).heap.size = W1.heap.size + 1 := by simp
  have cB := CellsAt.new ((W1.alloc (.cells (arr32 [] 16) 153)).setRow W1.heap.size (arr32 s0 16)) (arr32 [] 16) 153
  rw [hz2] at cB
  have cB2 := cB.setRow (arr32 s0 16)
  have m3 := ((m2.alloc (.cells (arr32 [] 16) 153)).setRow (g := W1.heap.size + 1) (.inr (by omega)) (arr32 s0 16))
  have cO3 := (cO2.alloc (.cells (arr32 [] 16) 153)).other (g2 := W1.heap.size + 1) (arr32 s0 16) (by omega)
  have cA3 := (cA2.alloc (.cells (arr32 [] 16) 153)).other (g2 := W1.heap.size + 1) (arr32 s0 16) (by omega)
  clear m0 cO cO2 m2 hz2
  go_wp2_with (first
    | (refine wpList_store_arr rfl 153 (.tmp 7) (.tmp 19) rfl W1.heap.size 16 (arr32 s0 16) (arr32 [] 16) rfl rfl (by exact cA) size_a16 Q1.out Q0.out (arr32_one _ _) ?_)
    | (refine wpList_load_arr rfl 153 (.tmp 7) rfl W1.heap.size 16 99 rfl (arr32 s0 16) (by exact cA2) Tryz.underlying153 size_a16 Q1.out ?_)
    | (refine wpList_store_arr rfl 153 (.tmp 8) (.tmp 20) rfl (W1.heap.size + 1) 16 (arr32 s0 16) (arr32 [] 16) rfl rfl (by exact cB) size_a16 Q1.out Q0.out (arr32_one _ _) ?_))
  have hE := (⟨cA3, cB2, cO3, m3, by omega, by omega⟩ : BlkAt w (w.heap.size + 1 + 1) W1.heap.size s0 s0 _)
  change Code.wp _ _ _ _ ((((W1.alloc (.cells (arr32 [] 16) 153)).setRow W1.heap.size (arr32 s0 16)).alloc (.cells (arr32 [] 16) 153)).setRow (W1.heap.size + 1) (arr32 s0 16))
  obtain ⟨W2, hW2⟩ : ∃ W2, ((((W1.alloc (.cells (arr32 [] 16) 153)).setRow W1.heap.size (arr32 s0 16)).alloc (.cells (arr32 [] 16) 153)).setRow (W1.heap.size + 1) (arr32 s0 16)) = W2 := ⟨_, rfl⟩
  rw [hW2] at hE ⊢
  obtain ⟨S, hS⟩ : ∃ S, W1.heap.size = S := ⟨_, rfl⟩
  rw [hS] at hE ⊢
  clear hW2 hS cA cA2 cB cB2 m3 cO3 cA3 hz
  obtain ⟨O, hO⟩ : ∃ O, w.heap.size + 1 + 1 = O := ⟨_, rfl⟩
  rw [hO] at hE ⊢
  clear hO
  go_loopg [21] 10 (fun k t wr => ∃ n : Nat, n + k = 10 ∧ t = .int .i64 n ∧ BlkAt w O S s0 (roundsR s0 n) wr)
  case atStart => exact ⟨0, by omega, rfl, hE⟩
  case round =>
    clear hE
    obtain ⟨gz, rfl⟩ : ∃ g : Nat, g = gk := ⟨_, rfl⟩
    obtain ⟨n, hn, rfl, hE⟩ := hrel
    have hxl : (roundsR s0 n).length = 16 := by rw [roundsR_length, HSL.out]
    by_cases hlt : n < 10
    · have HNX : Box (roundsR s0 (n + 1) = diagsR (colsR (roundsR s0 n) 4) 4) := ⟨rfl⟩
      have HN := Lib.hid hn
      obtain ⟨x0, hx0⟩ : ∃ x0, roundsR s0 n = x0 := ⟨_, rfl⟩
      rw [hx0] at hE hxl HNX
      have HXL := Lib.hid hxl
      clear hx0 hxl hn
      have hdn : decide ((n : Int) < 10) = true := by simp; omega
      go_wp2_with fail
      obtain ⟨wo, rfl⟩ : ∃ wo : World, wo = wr := ⟨_, rfl⟩
      go_loopg [23] 4 (fun k t wr => ∃ i : Nat, i + k = 4 ∧ t = .int .i64 i ∧ BlkAt w O S s0 (colsR x0 i) wr)
      case atStart => exact ⟨0, by omega, rfl, hE⟩
      case round =>
        clear hE
        obtain ⟨i, hi, rfl, hE⟩ := hrel
        by_cases hlt : i < 4
        · obtain ⟨x, hx⟩ : ∃ x, colsR x0 i = x := ⟨_, rfl⟩
          have hxl : x.length = 16 := by rw [← hx, colsR_length, HXL.out]
          have HC : Box (colsR x0 (i + 1) = qrAt x i (4 + i) (8 + i) (12 + i)) := ⟨by rw [← hx]; rfl⟩
          rw [hx] at hE
          clear hx
          have hget : ∀ j, j < 16 → ∃ y, x.getD j 0 = y ∧ wr.cell? ⟨S + 1, j, none⟩ = some (V32 y) := fun j hj => ⟨_, rfl, (hE.x.cell j).trans (arr32_at x hxl j hj)⟩
          obtain ⟨ya, da, ka⟩ := hget i (by omega)
          obtain ⟨yb, db, kb⟩ := hget (4 + i) (by omega)
          obtain ⟨yc, dc, kc⟩ := hget (8 + i) (by omega)
          obtain ⟨yd, dd, kd⟩ := hget (12 + i) (by omega)
          have hq := quarter_any ya yb yc yd wr.drew
          obtain ⟨za, ha⟩ : ∃ z, (quarter ya yb yc yd).a = z := ⟨_, rfl⟩
          obtain ⟨zb, hb⟩ : ∃ z, (quarter ya yb yc yd).b = z := ⟨_, rfl⟩
          obtain ⟨zc, hc⟩ : ∃ z, (quarter ya yb yc yd).c = z := ⟨_, rfl⟩
          obtain ⟨zd, hd⟩ : ∃ z, (quarter ya yb yc yd).d = z := ⟨_, rfl⟩
          rw [ha, hb, hc, hd] at hq
          have HQ : Box (colsR x0 (i + 1) = (((x.set i za).set (4 + i) zb).set (8 + i) zc).set (12 + i) zd) := ⟨by rw [HC.out]; unfold qrAt; rw [da, db, dc, dd, ha, hb, hc, hd]⟩
          have HI := Lib.hid hi
          clear HC hget da db dc dd ha hb hc hd hi
          have e1 := hE.drew.put hxl i za
          have e2 := e1.put (by rw [List.length_set]; exact hxl) (4 + i) zb
          have e3 := e2.put (by rw [List.length_set, List.length_set]; exact hxl) (8 + i) zc
          have e4 := e3.put (by rw [List.length_set, List.length_set, List.length_set]; exact hxl) (12 + i) zd
          have kB : ∃ v, (wr.setCell ⟨S + 1, i, none⟩ (V32 za)).cell? ⟨S + 1, 4 + i, none⟩ = some v := ⟨_, (e1.x.cell (4 + i)).trans (arr32_at _ (by rw [List.length_set]; exact hxl) (4 + i) (by omega))⟩
          have kC : ∃ v, ((wr.setCell ⟨S + 1, i, none⟩ (V32 za)).setCell ⟨S + 1, 4 + i, none⟩ (V32 zb)).cell? ⟨S + 1, 8 + i, none⟩ = some v := ⟨_, (e2.x.cell (8 + i)).trans (arr32_at _ (by rw [List.length_set, List.length_set]; exact hxl) (8 + i) (by omega))⟩
          have kD : ∃ v, (((wr.setCell ⟨S + 1, i, none⟩ (V32 za)).setCell ⟨S + 1, 4 + i, none⟩ (V32 zb)).setCell ⟨S + 1, 8 + i, none⟩ (V32 zc)).cell? ⟨S + 1, 12 + i, none⟩ = some v := ⟨_, (e3.x.cell (12 + i)).trans (arr32_at _ (by rw [List.length_set, List.length_set, List.length_set]; exact hxl) (12 + i) (by omega))⟩
          obtain ⟨vB, kB⟩ := kB
          obtain ⟨vC, kC⟩ := kC
          obtain ⟨vD, kD⟩ := kD
          have fA := hE.x.free i
          have fB := hE.x.free (4 + i)
          have fC := hE.x.free (8 + i)
          have fD := hE.x.free (12 + i)
          have e5 := e4.mod (Mod.refl _ _)
          rw [← HQ.out] at e5
          clear e1 e2 e3 e4 HQ
          have kA : wr.drew.cell? ⟨S + 1, i, none⟩ = some (V32 ya) := ka
          go_wp2_with fail
          have b0 : (i : Int) < 16 := by omega
          have w4 : IntKind.i64.wrap (4 + (i : Int)) = 4 + (i : Int) := IntWalk.i64_in _ (by omega)
          have w8 : IntKind.i64.wrap (8 + (i : Int)) = 8 + (i : Int) := IntWalk.i64_in _ (by omega)
          have w12 : IntKind.i64.wrap (12 + (i : Int)) = 12 + (i : Int) := IntWalk.i64_in _ (by omega)
          have t4 : (4 + (i : Int)).toNat = 4 + i := by omega
          have t8 : (8 + (i : Int)).toNat = 8 + i := by omega
          have t12 : (12 + (i : Int)).toNat = 12 + i := by omega
          have l4 : 4 + (i : Int) < 16 := by omega
          have l8 : 8 + (i : Int) < 16 := by omega
          have l12 : 12 + (i : Int) < 16 := by omega
          have g4 : (0 : Int) ≤ 4 + (i : Int) := by omega
          have g8 : (0 : Int) ≤ 8 + (i : Int) := by omega
          have g12 : (0 : Int) ≤ 12 + (i : Int) := by omega
          -- R8
          refine wp_region_U (· = wr.drew) 29 (by kernel_rfl) ?_
          refine wpAnyU_takeP (i := 0) (v := (.int .i64 ↑i)) rfl (by kernel_rfl) (by kernel_rfl) (by kernel_rfl) (by decide) (fun _ _ _ h => h) (Or.inl ⟨by rfl, fun W => by go_simp⟩) (fun _ => rfl) ?_
          try simp only [Act.put, List.getElem_toArray, List.getElem_cons_zero, List.setIfInBounds_toArray, List.set_cons_zero, List.set_cons_succ]
          refine wpAnyU_takeP (i := 1) (v := (.int .i64 ↑i)) rfl (by kernel_rfl) (by kernel_rfl) (by kernel_rfl) (by decide) (fun _ _ _ h => h) (Or.inl ⟨by rfl, fun W => by go_simp⟩) (fun _ => rfl) ?_
          try simp only [Act.put, List.getElem_toArray, List.getElem_cons_zero, List.getElem_cons_succ, List.setIfInBounds_toArray, List.set_cons_zero, List.set_cons_succ]
          refine wpAnyU_takeP (i := 2) (v := (.int .i64 (4 + ↑i))) rfl (by kernel_rfl) (by kernel_rfl) (by kernel_rfl) (by decide) (fun _ _ _ h => h) (Or.inl ⟨by rfl, fun W => by go_simp⟩) (fun _ => rfl) ?_
          try simp only [Act.put, List.getElem_toArray, List.getElem_cons_zero, List.getElem_cons_succ, List.setIfInBounds_toArray, List.set_cons_zero, List.set_cons_succ]
          refine wpAnyU_takeP (i := 3) (v := (.int .i64 ↑i)) rfl (by kernel_rfl) (by kernel_rfl) (by kernel_rfl) (by decide) (fun _ _ _ h => h) (Or.inl ⟨by rfl, fun W => by go_simp⟩) (fun _ => rfl) ?_
          try simp only [Act.put, List.getElem_toArray, List.getElem_cons_zero, List.getElem_cons_succ, List.setIfInBounds_toArray, List.set_cons_zero, List.set_cons_succ]
          refine wpAnyU_takeP (i := 4) (v := (.int .i64 (8 + ↑i))) rfl (by kernel_rfl) (by kernel_rfl) (by kernel_rfl) (by decide) (fun _ _ _ h => h) (Or.inl ⟨by rfl, fun W => by go_simp⟩) (fun _ => rfl) ?_
          try simp only [Act.put, List.getElem_toArray, List.getElem_cons_zero, List.getElem_cons_succ, List.setIfInBounds_toArray, List.set_cons_zero, List.set_cons_succ]
          refine wpAnyU_takeP (i := 5) (v := (.int .i64 ↑i)) rfl (by kernel_rfl) (by kernel_rfl) (by kernel_rfl) (by decide) (fun _ _ _ h => h) (Or.inl ⟨by rfl, fun W => by go_simp⟩) (fun _ => rfl) ?_
          try simp only [Act.put, List.getElem_toArray, List.getElem_cons_zero, List.getElem_cons_succ, List.setIfInBounds_toArray, List.set_cons_zero, List.set_cons_succ]
          refine wpAnyU_takeP (i := 6) (v := (.int .i64 (12 + ↑i))) rfl (by kernel_rfl) (by kernel_rfl) (by kernel_rfl) (by decide) (fun _ _ _ h => h) (Or.inl ⟨by rfl, fun W => by go_simp⟩) (fun _ => rfl) ?_
          try simp only [Act.put, List.getElem_toArray, List.getElem_cons_zero, List.getElem_cons_succ, List.setIfInBounds_toArray, List.set_cons_zero, List.set_cons_succ]
          refine wpAnyU_takeP (i := 7) (v := (.int .i64 ↑i)) rfl (by kernel_rfl) (by kernel_rfl) (by kernel_rfl) (by decide) (fun _ _ _ h => h) (Or.inl ⟨by rfl, fun W => by go_simp⟩) (fun _ => rfl) ?_
          try simp only [Act.put, List.getElem_toArray, List.getElem_cons_zero, List.getElem_cons_succ, List.setIfInBounds_toArray, List.set_cons_zero, List.set_cons_succ]
          refine wpAnyU_takeP (i := 8) (v := (.pointer (some ⟨S + 1, i, none⟩))) rfl (by kernel_rfl) (by kernel_rfl) (by kernel_rfl) (by decide) (fun _ _ _ h => h) (Or.inl ⟨by rfl, fun W => by go_simp⟩) (fun _ => rfl) ?_
          try simp only [Act.put, List.getElem_toArray, List.getElem_cons_zero, List.getElem_cons_succ, List.setIfInBounds_toArray, List.set_cons_zero, List.set_cons_succ]
          refine wpAnyU_take (i := 9) (v := (V32 ya)) rfl (by kernel_rfl) (by kernel_rfl) (by kernel_rfl) (by kernel_rfl) (by kernel_rfl) (fun _ _ _ h => h) (Or.inl ⟨by rfl, fun W hSw => by cases hSw; go_simp⟩) rfl ?_
          try simp only [Act.put, List.getElem_toArray, List.getElem_cons_zero, List.getElem_cons_succ, List.setIfInBounds_toArray, List.set_cons_zero, List.set_cons_succ]
          refine wpAnyU_takeP (i := 10) (v := (.int .i64 ↑i)) rfl (by kernel_rfl) (by kernel_rfl) (by kernel_rfl) (by decide) (fun _ _ _ h => h) (Or.inl ⟨by rfl, fun W => by go_simp⟩) (fun _ => rfl) ?_
          try simp only [Act.put, List.getElem_toArray, List.getElem_cons_zero, List.getElem_cons_succ, List.setIfInBounds_toArray, List.set_cons_zero, List.set_cons_succ]
          refine wpAnyU_takeP (i := 11) (v := (.int .i64 (4 + ↑i))) rfl (by kernel_rfl) (by kernel_rfl) (by kernel_rfl) (by decide) (fun _ _ _ h => h) (Or.inl ⟨by rfl, fun W => by go_simp⟩) (fun _ => rfl) ?_
          try simp only [Act.put, List.getElem_toArray, List.getElem_cons_zero, List.getElem_cons_succ, List.setIfInBounds_toArray, List.set_cons_zero, List.set_cons_succ]
          refine wpAnyU_takeP (i := 12) (v := (.pointer (some ⟨S + 1, (4 + i), none⟩))) rfl (by kernel_rfl) (by kernel_rfl) (by kernel_rfl) (by decide) (fun _ _ _ h => h) (Or.inl ⟨by rfl, fun W => by go_simp⟩) (fun _ => rfl) ?_
          try simp only [Act.put, List.getElem_toArray, List.getElem_cons_zero, List.getElem_cons_succ, List.setIfInBounds_toArray, List.set_cons_zero, List.set_cons_succ]
          refine wpAnyU_take (i := 13) (v := (V32 yb)) rfl (by kernel_rfl) (by kernel_rfl) (by kernel_rfl) (by kernel_rfl) (by kernel_rfl) (fun _ _ _ h => h) (Or.inl ⟨by rfl, fun W hSw => by cases hSw; go_simp⟩) rfl ?_
          try simp only [Act.put, List.getElem_toArray, List.getElem_cons_zero, List.getElem_cons_succ, List.setIfInBounds_toArray, List.set_cons_zero, List.set_cons_succ]
          refine wpAnyU_takeP (i := 14) (v := (.int .i64 ↑i)) rfl (by kernel_rfl) (by kernel_rfl) (by kernel_rfl) (by decide) (fun _ _ _ h => h) (Or.inl ⟨by rfl, fun W => by go_simp⟩) (fun _ => rfl) ?_
          try simp only [Act.put, List.getElem_toArray, List.getElem_cons_zero, List.getElem_cons_succ, List.setIfInBounds_toArray, List.set_cons_zero, List.set_cons_succ]
          refine wpAnyU_takeP (i := 15) (v := (.int .i64 (8 + ↑i))) rfl (by kernel_rfl) (by kernel_rfl) (by kernel_rfl) (by decide) (fun _ _ _ h => h) (Or.inl ⟨by rfl, fun W => by go_simp⟩) (fun _ => rfl) ?_
          try simp only [Act.put, List.getElem_toArray, List.getElem_cons_zero, List.getElem_cons_succ, List.setIfInBounds_toArray, List.set_cons_zero, List.set_cons_succ]
          refine wpAnyU_takeP (i := 16) (v := (.pointer (some ⟨S + 1, (8 + i), none⟩))) rfl (by kernel_rfl) (by kernel_rfl) (by kernel_rfl) (by decide) (fun _ _ _ h => h) (Or.inl ⟨by rfl, fun W => by go_simp⟩) (fun _ => rfl) ?_
          try simp only [Act.put, List.getElem_toArray, List.getElem_cons_zero, List.getElem_cons_succ, List.setIfInBounds_toArray, List.set_cons_zero, List.set_cons_succ]
          refine wpAnyU_take (i := 17) (v := (V32 yc)) rfl (by kernel_rfl) (by kernel_rfl) (by kernel_rfl) (by kernel_rfl) (by kernel_rfl) (fun _ _ _ h => h) (Or.inl ⟨by rfl, fun W hSw => by cases hSw; go_simp⟩) rfl ?_
          try simp only [Act.put, List.getElem_toArray, List.getElem_cons_zero, List.getElem_cons_succ, List.setIfInBounds_toArray, List.set_cons_zero, List.set_cons_succ]
          refine wpAnyU_takeP (i := 18) (v := (.int .i64 ↑i)) rfl (by kernel_rfl) (by kernel_rfl) (by kernel_rfl) (by decide) (fun _ _ _ h => h) (Or.inl ⟨by rfl, fun W => by go_simp⟩) (fun _ => rfl) ?_
          try simp only [Act.put, List.getElem_toArray, List.getElem_cons_zero, List.getElem_cons_succ, List.setIfInBounds_toArray, List.set_cons_zero, List.set_cons_succ]
          refine wpAnyU_takeP (i := 19) (v := (.int .i64 (12 + ↑i))) rfl (by kernel_rfl) (by kernel_rfl) (by kernel_rfl) (by decide) (fun _ _ _ h => h) (Or.inl ⟨by rfl, fun W => by go_simp⟩) (fun _ => rfl) ?_
          try simp only [Act.put, List.getElem_toArray, List.getElem_cons_zero, List.getElem_cons_succ, List.setIfInBounds_toArray, List.set_cons_zero, List.set_cons_succ]
          refine wpAnyU_takeP (i := 20) (v := (.pointer (some ⟨S + 1, (12 + i), none⟩))) rfl (by kernel_rfl) (by kernel_rfl) (by kernel_rfl) (by decide) (fun _ _ _ h => h) (Or.inl ⟨by rfl, fun W => by go_simp⟩) (fun _ => rfl) ?_
          try simp only [Act.put, List.getElem_toArray, List.getElem_cons_zero, List.getElem_cons_succ, List.setIfInBounds_toArray, List.set_cons_zero, List.set_cons_succ]
          refine wpAnyU_take (i := 21) (v := (V32 yd)) rfl (by kernel_rfl) (by kernel_rfl) (by kernel_rfl) (by kernel_rfl) (by kernel_rfl) (fun _ _ _ h => h) (Or.inl ⟨by rfl, fun W hSw => by cases hSw; go_simp⟩) rfl ?_
          try simp only [Act.put, List.getElem_toArray, List.getElem_cons_zero, List.getElem_cons_succ, List.setIfInBounds_toArray, List.set_cons_zero, List.set_cons_succ]
          refine wpAnyU_one 22 _ (by kernel_rfl) rfl (fun K hK => ?_)
          go_simp
          refine hq.mono ?_
          rintro e wz ⟨rfl, rfl⟩
          go_wp2_with fail
          refine hK.out _ _ (fun _ => rfl) ?_
          clear hK K hq
          try simp only [Act.put, List.getElem_toArray, List.getElem_cons_zero, List.getElem_cons_succ, List.setIfInBounds_toArray, List.set_cons_zero, List.set_cons_succ]
          refine wpAnyU_takeP (i := 23) (v := (.tuple #[V32 za, V32 zb, V32 zc, V32 zd])) rfl (by kernel_rfl) (by kernel_rfl) (by kernel_rfl) (by decide) (fun _ _ _ h => h) (Or.inl ⟨by rfl, fun W => by go_simp⟩) (fun _ => rfl) ?_
          try simp only [Act.put, List.getElem_toArray, List.getElem_cons_zero, List.getElem_cons_succ, List.setIfInBounds_toArray, List.set_cons_zero, List.set_cons_succ]
          refine wpAnyU_takeP (i := 24) (v := (V32 za)) rfl (by kernel_rfl) (by kernel_rfl) (by kernel_rfl) (by decide) (fun _ _ _ h => h) (Or.inl ⟨by rfl, fun W => by go_simp⟩) (fun _ => rfl) ?_
          try simp only [Act.put, List.getElem_toArray, List.getElem_cons_zero, List.getElem_cons_succ, List.setIfInBounds_toArray, List.set_cons_zero, List.set_cons_succ]
          refine wpAnyU_takeP (i := 25) (v := (V32 zb)) rfl (by kernel_rfl) (by kernel_rfl) (by kernel_rfl) (by decide) (fun _ _ _ h => h) (Or.inl ⟨by rfl, fun W => by go_simp⟩) (fun _ => rfl) ?_
          try simp only [Act.put, List.getElem_toArray, List.getElem_cons_zero, List.getElem_cons_succ, List.setIfInBounds_toArray, List.set_cons_zero, List.set_cons_succ]
          refine wpAnyU_takeP (i := 26) (v := (V32 zc)) rfl (by kernel_rfl) (by kernel_rfl) (by kernel_rfl) (by decide) (fun _ _ _ h => h) (Or.inl ⟨by rfl, fun W => by go_simp⟩) (fun _ => rfl) ?_
          try simp only [Act.put, List.getElem_toArray, List.getElem_cons_zero, List.getElem_cons_succ, List.setIfInBounds_toArray, List.set_cons_zero, List.set_cons_succ]
          refine wpAnyU_takeP (i := 27) (v := (V32 zd)) rfl (by kernel_rfl) (by kernel_rfl) (by kernel_rfl) (by decide) (fun _ _ _ h => h) (Or.inl ⟨by rfl, fun W => by go_simp⟩) (fun _ => rfl) ?_
          try simp only [Act.put, List.getElem_toArray, List.getElem_cons_zero, List.getElem_cons_succ, List.setIfInBounds_toArray, List.set_cons_zero, List.set_cons_succ]
          refine wpAnyU_takeP (i := 28) (v := (.pointer (some ⟨S + 1, i, none⟩))) rfl (by kernel_rfl) (by kernel_rfl) (by kernel_rfl) (by decide) (fun _ _ _ h => h) (Or.inl ⟨by rfl, fun W => by go_simp⟩) (fun _ => rfl) ?_
          try simp only [Act.put, List.getElem_toArray, List.getElem_cons_zero, List.getElem_cons_succ, List.setIfInBounds_toArray, List.set_cons_zero, List.set_cons_succ]
          refine wpAnyU_last (by kernel_rfl) (by simp) ?_
          refine wpAny_tail _ 29 _ _ _ (by kernel_rfl) ?_
          simp only [List.drop_succ_cons, List.drop_zero]
          -- END R8
          go_wp2_with fail
          go_roundg (gk - 1)
          case measure => have := HI.out; omega
          case rel => exact ⟨i + 1, by have := HI.out; omega, by go_num, e5⟩
        · obtain rfl : i = 4 := by omega
          rw [show ((4 : Nat) : Int) = 4 from rfl]
          go_wp2_with fail
          obtain ⟨wo2, rfl⟩ : ∃ wo2 : World, wo2 = wr := ⟨_, rfl⟩
          obtain ⟨x1, hx1⟩ : ∃ x1, colsR x0 4 = x1 := ⟨_, rfl⟩
          have HXL1 : Hid (x1.length = 16) := by rw [← hx1, colsR_length]; exact HXL
          have HNX1 : Box (roundsR s0 (n + 1) = diagsR x1 4) := ⟨by rw [HNX.out, hx1]⟩
          rw [hx1] at hE
          clear hx1 HNX HXL
          go_loopg [59] 4 (fun k t wr => ∃ i : Nat, i + k = 4 ∧ t = .int .i64 i ∧ BlkAt w O S s0 (diagsR x1 i) wr)
          case atStart => exact ⟨0, by omega, rfl, hE⟩
          case round =>
            clear hE
            obtain ⟨i, hi, rfl, hE⟩ := hrel
            by_cases hlt : i < 4
            · obtain ⟨x, hx⟩ : ∃ x, diagsR x1 i = x := ⟨_, rfl⟩
              have hxl : x.length = 16 := by rw [← hx, diagsR_length, HXL1.out]
              obtain ⟨p, hp⟩ : ∃ p, 4 + (i + 1) % 4 = p := ⟨_, rfl⟩
              obtain ⟨q, hq0⟩ : ∃ q, 8 + (i + 2) % 4 = q := ⟨_, rfl⟩
              obtain ⟨r, hr⟩ : ∃ r, 12 + (i + 3) % 4 = r := ⟨_, rfl⟩
              have HC : Box (diagsR x1 (i + 1) = qrAt x i p q r) := ⟨by rw [← hx, ← hp, ← hq0, ← hr]; rfl⟩
              rw [hx] at hE
              have P1 : 4 + ((i : Int) + 1) % 4 = (p : Int) := by omega
              have Q1' : 8 + ((i : Int) + 2) % 4 = (q : Int) := by omega
              have R1 : 12 + ((i : Int) + 3) % 4 = (r : Int) := by omega
              have hp16 : p < 16 := by omega
              have hq16 : q < 16 := by omega
              have hr16 : r < 16 := by omega
              clear hx hp hq0 hr
              have hget : ∀ j, j < 16 → ∃ y, x.getD j 0 = y ∧ wr.cell? ⟨S + 1, j, none⟩ = some (V32 y) := fun j hj => ⟨_, rfl, (hE.x.cell j).trans (arr32_at x hxl j hj)⟩
              obtain ⟨ya, da, ka⟩ := hget i (by omega)
              obtain ⟨yb, db, kb⟩ := hget p hp16
              obtain ⟨yc, dc, kc⟩ := hget q hq16
              obtain ⟨yd, dd, kd⟩ := hget r hr16
              have hq := quarter_any ya yb yc yd wr.drew
              obtain ⟨za, ha⟩ : ∃ z, (quarter ya yb yc yd).a = z := ⟨_, rfl⟩
              obtain ⟨zb, hb⟩ : ∃ z, (quarter ya yb yc yd).b = z := ⟨_, rfl⟩
              obtain ⟨zc, hc⟩ : ∃ z, (quarter ya yb yc yd).c = z := ⟨_, rfl⟩
              obtain ⟨zd, hd⟩ : ∃ z, (quarter ya yb yc yd).d = z := ⟨_, rfl⟩
              rw [ha, hb, hc, hd] at hq
              have HQ : Box (diagsR x1 (i + 1) = (((x.set i za).set p zb).set q zc).set r zd) := ⟨by rw [HC.out]; unfold qrAt; rw [da, db, dc, dd, ha, hb, hc, hd]⟩
              have HI := Lib.hid hi
              clear HC hget da db dc dd ha hb hc hd hi
              have e1 := hE.drew.put hxl i za
              have e2 := e1.put (by rw [List.length_set]; exact hxl) p zb
              have e3 := e2.put (by rw [List.length_set, List.length_set]; exact hxl) q zc
              have e4 := e3.put (by rw [List.length_set, List.length_set, List.length_set]; exact hxl) r zd
              have kB : ∃ v, (wr.setCell ⟨S + 1, i, none⟩ (V32 za)).cell? ⟨S + 1, p, none⟩ = some v := ⟨_, (e1.x.cell p).trans (arr32_at _ (by rw [List.length_set]; exact hxl) p hp16)⟩
              have kC : ∃ v, ((wr.setCell ⟨S + 1, i, none⟩ (V32 za)).setCell ⟨S + 1, p, none⟩ (V32 zb)).cell? ⟨S + 1, q, none⟩ = some v := ⟨_, (e2.x.cell q).trans (arr32_at _ (by rw [List.length_set, List.length_set]; exact hxl) q hq16)⟩
              have kD : ∃ v, (((wr.setCell ⟨S + 1, i, none⟩ (V32 za)).setCell ⟨S + 1, p, none⟩ (V32 zb)).setCell ⟨S + 1, q, none⟩ (V32 zc)).cell? ⟨S + 1, r, none⟩ = some v := ⟨_, (e3.x.cell r).trans (arr32_at _ (by rw [List.length_set, List.length_set, List.length_set]; exact hxl) r hr16)⟩
              obtain ⟨vB, kB⟩ := kB
              obtain ⟨vC, kC⟩ := kC
              obtain ⟨vD, kD⟩ := kD
              have fA := hE.x.free i
              have fB := hE.x.free p
              have fC := hE.x.free q
              have fD := hE.x.free r
              have e5 := e4.mod (Mod.refl _ _)
              rw [← HQ.out] at e5
              clear e1 e2 e3 e4 HQ
              have kA : wr.drew.cell? ⟨S + 1, i, none⟩ = some (V32 ya) := ka
              have b0 : (i : Int) < 16 := by omega
              have lp : (p : Int) < 16 := by omega
              have lq : (q : Int) < 16 := by omega
              have lr : (r : Int) < 16 := by omega
              go_wp2_with fail
              -- R14
              refine wp_region_U (· = wr.drew) 23 (by kernel_rfl) ?_
              refine wpAnyU_takeP (i := 0) (v := (.int .i64 ↑i)) rfl (by kernel_rfl) (by kernel_rfl) (by kernel_rfl) (by decide) (fun _ _ _ h => h) (Or.inl ⟨by rfl, fun W => by go_simp⟩) (fun _ => rfl) ?_
              try simp only [Act.put, List.getElem_toArray, List.getElem_cons_zero, List.setIfInBounds_toArray, List.set_cons_zero, List.set_cons_succ]
              refine wpAnyU_takeP (i := 1) (v := (.int .i64 ↑p)) rfl (by kernel_rfl) (by kernel_rfl) (by kernel_rfl) (by decide) (fun _ _ _ h => h) (Or.inl ⟨by rfl, fun W => by go_simp⟩) (fun _ => rfl) ?_
              try simp only [Act.put, List.getElem_toArray, List.getElem_cons_zero, List.getElem_cons_succ, List.setIfInBounds_toArray, List.set_cons_zero, List.set_cons_succ]
              refine wpAnyU_takeP (i := 2) (v := (.int .i64 ↑q)) rfl (by kernel_rfl) (by kernel_rfl) (by kernel_rfl) (by decide) (fun _ _ _ h => h) (Or.inl ⟨by rfl, fun W => by go_simp⟩) (fun _ => rfl) ?_
              try simp only [Act.put, List.getElem_toArray, List.getElem_cons_zero, List.getElem_cons_succ, List.setIfInBounds_toArray, List.set_cons_zero, List.set_cons_succ]
              refine wpAnyU_takeP (i := 3) (v := (.int .i64 ↑r)) rfl (by kernel_rfl) (by kernel_rfl) (by kernel_rfl) (by decide) (fun _ _ _ h => h) (Or.inl ⟨by rfl, fun W => by go_simp⟩) (fun _ => rfl) ?_
              try simp only [Act.put, List.getElem_toArray, List.getElem_cons_zero, List.getElem_cons_succ, List.setIfInBounds_toArray, List.set_cons_zero, List.set_cons_succ]
              refine wpAnyU_takeP (i := 4) (v := (.int .i64 ↑i)) rfl (by kernel_rfl) (by kernel_rfl) (by kernel_rfl) (by decide) (fun _ _ _ h => h) (Or.inl ⟨by rfl, fun W => by go_simp⟩) (fun _ => rfl) ?_
              try simp only [Act.put, List.getElem_toArray, List.getElem_cons_zero, List.getElem_cons_succ, List.setIfInBounds_toArray, List.set_cons_zero, List.set_cons_succ]
              refine wpAnyU_takeP (i := 5) (v := (.pointer (some ⟨S + 1, i, none⟩))) rfl (by kernel_rfl) (by kernel_rfl) (by kernel_rfl) (by decide) (fun _ _ _ h => h) (Or.inl ⟨by rfl, fun W => by go_simp⟩) (fun _ => rfl) ?_
              try simp only [Act.put, List.getElem_toArray, List.getElem_cons_zero, List.getElem_cons_succ, List.setIfInBounds_toArray, List.set_cons_zero, List.set_cons_succ]
              refine wpAnyU_take (i := 6) (v := (V32 ya)) rfl (by kernel_rfl) (by kernel_rfl) (by kernel_rfl) (by kernel_rfl) (by kernel_rfl) (fun _ _ _ h => h) (Or.inl ⟨by rfl, fun W hSw => by cases hSw; go_simp⟩) rfl ?_
              try simp only [Act.put, List.getElem_toArray, List.getElem_cons_zero, List.getElem_cons_succ, List.setIfInBounds_toArray, List.set_cons_zero, List.set_cons_succ]
              refine wpAnyU_takeP (i := 7) (v := (.int .i64 ↑p)) rfl (by kernel_rfl) (by kernel_rfl) (by kernel_rfl) (by decide) (fun _ _ _ h => h) (Or.inl ⟨by rfl, fun W => by go_simp⟩) (fun _ => rfl) ?_
              try simp only [Act.put, List.getElem_toArray, List.getElem_cons_zero, List.getElem_cons_succ, List.setIfInBounds_toArray, List.set_cons_zero, List.set_cons_succ]
              refine wpAnyU_takeP (i := 8) (v := (.pointer (some ⟨S + 1, p, none⟩))) rfl (by kernel_rfl) (by kernel_rfl) (by kernel_rfl) (by decide) (fun _ _ _ h => h) (Or.inl ⟨by rfl, fun W => by go_simp⟩) (fun _ => rfl) ?_
              try simp only [Act.put, List.getElem_toArray, List.getElem_cons_zero, List.getElem_cons_succ, List.setIfInBounds_toArray, List.set_cons_zero, List.set_cons_succ]
              refine wpAnyU_take (i := 9) (v := (V32 yb)) rfl (by kernel_rfl) (by kernel_rfl) (by kernel_rfl) (by kernel_rfl) (by kernel_rfl) (fun _ _ _ h => h) (Or.inl ⟨by rfl, fun W hSw => by cases hSw; go_simp⟩) rfl ?_
              try simp only [Act.put, List.getElem_toArray, List.getElem_cons_zero, List.getElem_cons_succ, List.setIfInBounds_toArray, List.set_cons_zero, List.set_cons_succ]
              refine wpAnyU_takeP (i := 10) (v := (.int .i64 ↑q)) rfl (by kernel_rfl) (by kernel_rfl) (by kernel_rfl) (by decide) (fun _ _ _ h => h) (Or.inl ⟨by rfl, fun W => by go_simp⟩) (fun _ => rfl) ?_
              try simp only [Act.put, List.getElem_toArray, List.getElem_cons_zero, List.getElem_cons_succ, List.setIfInBounds_toArray, List.set_cons_zero, List.set_cons_succ]
              refine wpAnyU_takeP (i := 11) (v := (.pointer (some ⟨S + 1, q, none⟩))) rfl (by kernel_rfl) (by kernel_rfl) (by kernel_rfl) (by decide) (fun _ _ _ h => h) (Or.inl ⟨by rfl, fun W => by go_simp⟩) (fun _ => rfl) ?_
              try simp only [Act.put, List.getElem_toArray, List.getElem_cons_zero, List.getElem_cons_succ, List.setIfInBounds_toArray, List.set_cons_zero, List.set_cons_succ]
              refine wpAnyU_take (i := 12) (v := (V32 yc)) rfl (by kernel_rfl) (by kernel_rfl) (by kernel_rfl) (by kernel_rfl) (by kernel_rfl) (fun _ _ _ h => h) (Or.inl ⟨by rfl, fun W hSw => by cases hSw; go_simp⟩) rfl ?_
              try simp only [Act.put, List.getElem_toArray, List.getElem_cons_zero, List.getElem_cons_succ, List.setIfInBounds_toArray, List.set_cons_zero, List.set_cons_succ]
              refine wpAnyU_takeP (i := 13) (v := (.int .i64 ↑r)) rfl (by kernel_rfl) (by kernel_rfl) (by kernel_rfl) (by decide) (fun _ _ _ h => h) (Or.inl ⟨by rfl, fun W => by go_simp⟩) (fun _ => rfl) ?_
              try simp only [Act.put, List.getElem_toArray, List.getElem_cons_zero, List.getElem_cons_succ, List.setIfInBounds_toArray, List.set_cons_zero, List.set_cons_succ]
              refine wpAnyU_takeP (i := 14) (v := (.pointer (some ⟨S + 1, r, none⟩))) rfl (by kernel_rfl) (by kernel_rfl) (by kernel_rfl) (by decide) (fun _ _ _ h => h) (Or.inl ⟨by rfl, fun W => by go_simp⟩) (fun _ => rfl) ?_
              try simp only [Act.put, List.getElem_toArray, List.getElem_cons_zero, List.getElem_cons_succ, List.setIfInBounds_toArray, List.set_cons_zero, List.set_cons_succ]
              refine wpAnyU_take (i := 15) (v := (V32 yd)) rfl (by kernel_rfl) (by kernel_rfl) (by kernel_rfl) (by kernel_rfl) (by kernel_rfl) (fun _ _ _ h => h) (Or.inl ⟨by rfl, fun W hSw => by cases hSw; go_simp⟩) rfl ?_
              try simp only [Act.put, List.getElem_toArray, List.getElem_cons_zero, List.getElem_cons_succ, List.setIfInBounds_toArray, List.set_cons_zero, List.set_cons_succ]
              refine wpAnyU_one 16 _ (by kernel_rfl) rfl (fun K hK => ?_)
              go_simp
              refine hq.mono ?_
              rintro e wz ⟨rfl, rfl⟩
              go_wp2_with fail
              refine hK.out _ _ (fun _ => rfl) ?_
              clear hK K hq
              try simp only [Act.put, List.getElem_toArray, List.getElem_cons_zero, List.getElem_cons_succ, List.setIfInBounds_toArray, List.set_cons_zero, List.set_cons_succ]
              refine wpAnyU_takeP (i := 17) (v := (.tuple #[V32 za, V32 zb, V32 zc, V32 zd])) rfl (by kernel_rfl) (by kernel_rfl) (by kernel_rfl) (by decide) (fun _ _ _ h => h) (Or.inl ⟨by rfl, fun W => by go_simp⟩) (fun _ => rfl) ?_
              try simp only [Act.put, List.getElem_toArray, List.getElem_cons_zero, List.getElem_cons_succ, List.setIfInBounds_toArray, List.set_cons_zero, List.set_cons_succ]
              refine wpAnyU_takeP (i := 18) (v := (V32 za)) rfl (by kernel_rfl) (by kernel_rfl) (by kernel_rfl) (by decide) (fun _ _ _ h => h) (Or.inl ⟨by rfl, fun W => by go_simp⟩) (fun _ => rfl) ?_
              try simp only [Act.put, List.getElem_toArray, List.getElem_cons_zero, List.getElem_cons_succ, List.setIfInBounds_toArray, List.set_cons_zero, List.set_cons_succ]
              refine wpAnyU_takeP (i := 19) (v := (V32 zb)) rfl (by kernel_rfl) (by kernel_rfl) (by kernel_rfl) (by decide) (fun _ _ _ h => h) (Or.inl ⟨by rfl, fun W => by go_simp⟩) (fun _ => rfl) ?_
              try simp only [Act.put, List.getElem_toArray, List.getElem_cons_zero, List.getElem_cons_succ, List.setIfInBounds_toArray, List.set_cons_zero, List.set_cons_succ]
              refine wpAnyU_takeP (i := 20) (v := (V32 zc)) rfl (by kernel_rfl) (by kernel_rfl) (by kernel_rfl) (by decide) (fun _ _ _ h => h) (Or.inl ⟨by rfl, fun W => by go_simp⟩) (fun _ => rfl) ?_
              try simp only [Act.put, List.getElem_toArray, List.getElem_cons_zero, List.getElem_cons_succ, List.setIfInBounds_toArray, List.set_cons_zero, List.set_cons_succ]
              refine wpAnyU_takeP (i := 21) (v := (V32 zd)) rfl (by kernel_rfl) (by kernel_rfl) (by kernel_rfl) (by decide) (fun _ _ _ h => h) (Or.inl ⟨by rfl, fun W => by go_simp⟩) (fun _ => rfl) ?_
              try simp only [Act.put, List.getElem_toArray, List.getElem_cons_zero, List.getElem_cons_succ, List.setIfInBounds_toArray, List.set_cons_zero, List.set_cons_succ]
              refine wpAnyU_takeP (i := 22) (v := (.pointer (some ⟨S + 1, i, none⟩))) rfl (by kernel_rfl) (by kernel_rfl) (by kernel_rfl) (by decide) (fun _ _ _ h => h) (Or.inl ⟨by rfl, fun W => by go_simp⟩) (fun _ => rfl) ?_
              try simp only [Act.put, List.getElem_toArray, List.getElem_cons_zero, List.getElem_cons_succ, List.setIfInBounds_toArray, List.set_cons_zero, List.set_cons_succ]
              refine wpAnyU_last (by kernel_rfl) (by simp) ?_
              refine wpAny_tail _ 23 _ _ _ (by kernel_rfl) ?_
              simp only [List.drop_succ_cons, List.drop_zero]
              -- END R14
              go_wp2_with fail
              go_roundg (gk - 1)
              case measure => have := HI.out; omega
              case rel => exact ⟨i + 1, by have := HI.out; omega, by go_num, e5⟩
            · obtain rfl : i = 4 := by omega
              go_wp2_with fail
              have hgk := HN.out
              rw [← HNX1.out] at hE
              clear HNX1 HXL1 HN
              go_roundg (gz - 1)
              case measure => omega
              case rel => exact ⟨n + 1, by omega, by go_num, hE⟩
    · obtain rfl : n = 10 := by omega
      obtain ⟨x, hx⟩ : ∃ x, roundsR s0 10 = x := ⟨_, rfl⟩
      have hsl := HSL.out
      have hbl := HB.out
      rw [hx] at hE hxl hbl
      have HXL := Lib.hid hxl
      have HBL : Box (blockL key ctr nonce = blockB s0 x 16) := ⟨hbl⟩
      obtain ⟨wm, hrun1, hown, hm⟩ := make_bytes 64 wr (by omega)
      change (Instr.makeSlice 40 (.int .i64 0) (.int .i64 64)).run Tryz.prog wr = _ at hrun1
      clear hx hbl HB hxl hsl
      have hE2 := hE.mod hm
      have hgz : O < wr.heap.size := hE.o.lt
      have hB0 : w.heap.size ≤ wr.heap.size := hE.md.size
      have hx1 : S + 1 < wr.heap.size := hE.x.lt
      clear hE hm
      go_wp2_with fail
      obtain ⟨N0, hN0⟩ : ∃ N0, wr.heap.size = N0 := ⟨_, rfl⟩
      rw [hN0] at hown hgz hB0 hx1 ⊢
      have hzm : N0 ≤ wm.heap.size := by have := (hown.lt N0 rfl).2; omega
      clear hrun1 hN0
      rw [show ((10 : Nat) : Int) = 10 from rfl]
      go_loopg [14, 103] 16 (fun k b t wr => ∃ j : Nat, j + k = 16 ∧ t = .int .i64 j ∧ ∃ a c, b = .slice a (4 * j) c ∧ wr.ownsRow N0 5 1 (.slice a (4 * j) c) (4 * j) ((blockB s0 x j).map B) ∧ BlkAt w O S s0 x wr ∧ N0 ≤ wr.heap.size)
      case atStart => exact ⟨0, by omega, rfl, _, _, rfl, hown, hE2, hzm⟩
      case round =>
        clear hown hE2 hzm
        obtain ⟨j, hj, rfl, a, c, rfl, hown, hE, hzm⟩ := hrel
        by_cases hlt : j < 16
        · have hsn := blockB_snoc s0 x j
          have kx := (hE.x.cell j).trans (arr32_at x HXL.out j hlt)
          have kS := (hE.s.cell j).trans (arr32_at s0 HSL.out j hlt)
          obtain ⟨y, hy⟩ : ∃ y, x.getD j 0 = y := ⟨_, rfl⟩
          obtain ⟨t, ht⟩ : ∃ t, s0.getD j 0 = t := ⟨_, rfl⟩
          rw [hy] at kx hsn
          rw [ht] at kS hsn
          have hadd := n32_add y t
          obtain ⟨z, hz⟩ : ∃ z, y + t = z := ⟨_, rfl⟩
          rw [hz] at hadd hsn
          have hz0 : 0 ≤ n32 z := by unfold n32; omega
          have hz1 : n32 z ≤ 4294967295 := by have := z.toNat_lt; unfold n32; omega
          obtain ⟨bl, hbl⟩ : ∃ bl, blockB s0 x j = bl := ⟨_, rfl⟩
          rw [hbl] at hsn hown
          obtain ⟨P, hP⟩ : ∃ P, 4 * j = P := ⟨_, rfl⟩
          rw [hP] at hown ⊢
          have hP2 : P + 4 ≤ 64 := by omega
          have hput := putlow_any N0 P a c bl z.toNat 4 wr.drew (owns_mod hown (Mod.refl wr Nob).drew (fun _ _ => nob)) (by omega) (by omega) hzm
          have hcv : IntKind.u64.wrap (n32 z) = n32 z := u64_wrap_id _ hz0 (by omega)
          have b0 : (j : Int) < 16 := by omega
          have hdj : decide ((j : Int) < 16) = true := by simp; omega
          have HSN : Box (blockB s0 x (j + 1) = bl ++ leB 4 z.toNat) := ⟨hsn⟩
          have HP := Lib.hid hP
          have HJ := Lib.hid hj
          clear hsn hy ht hz hbl hP hj
          go_wp2_with fail
          go_still_tail 9, (by kernel_rfl)
          change wpList _ _ _ _ _ wr.drew
          go_wp2_with fail
          refine hput.mono ?_
          rintro e w3 ⟨a3, c3, rfl, hown3, m3, _⟩
          have hE3 := hE.drew.far m3 (fun k hk => by have := (hown.lt k hk).1; omega)
          have hz3 : N0 ≤ w3.heap.size := Nat.le_trans hzm m3.size
          clear hput hown m3 hE kx kS hadd
          go_wp2_with fail
          go_roundg (gk - 1)
          case measure => have := HJ.out; omega
          case rel => exact ⟨j + 1, by have := HJ.out; omega, by go_num, a3, c3, by have e4 : 4 * (j + 1) = P + 4 := (by have := HP.out; omega); rw [e4], by have e4 : 4 * (j + 1) = P + 4 := (by have := HP.out; omega); rw [e4, HSN.out]; exact hown3, hE3, hz3⟩
        · obtain rfl : j = 16 := by omega
          have hol : (blockB s0 x 16).length = 64 := blockB_length s0 x 16
          have hbl := HBL.out
          obtain ⟨out, ho⟩ : ∃ out, blockB s0 x 16 = out := ⟨_, rfl⟩
          rw [ho] at hown hol hbl
          change wr.ownsRow N0 5 1 (.slice a 64 c) 64 (out.map B) at hown
          obtain ⟨g, rfl⟩ : ∃ g, a = some ⟨g, 0, none⟩ := by
            rcases hown.2 with ⟨_, h0⟩ | ⟨g, cap', cur, h0, _⟩
            · omega
            · cases h0; exact ⟨g, rfl⟩
          have hcells := own_cell hown
          have hto := run_toArray (P := Tryz.prog) 128 64 5 (some ⟨g, 0, none⟩) 64 c Tryz.underlying128 (Nat.le_refl _)
          have HO := Lib.hid hol
          have HBO : Box (blockL key ctr nonce = out) := ⟨hbl⟩
          have cO := hE.o
          have hmd := hE.md
          have hlow := hE.low
          clear hol hbl HBL ho hE hown
          have hdj : decide (((16 : Nat) : Int) < 16) = false := by decide
          change Code.wp _ _ _ { tmps := _, defers := _ } _
          go_wp2_with (first
            | (refine wpList_load_cells rfl 128 _ rfl g 0 64 5 rfl (out.map B) Tryz.underlying128 size_b64 (by rw [List.length_map, HO.out]) (fun j v hv => by rw [Nat.zero_add]; exact hcells j v hv) ?_)
            | (refine wpList_store_arr rfl 128 _ _ rfl O 64 (arrB out) (arrB (List.replicate 64 0)) rfl rfl cO size_b64 (by rw [arrB_size, HO.out]) (by rw [arrB_size]; rfl) (arrB_one _) ?_))
          rw [HBO.out]
          exact bodyPost_ret (v := .agg (arrB out)) (ret_arr rfl _ _ O 64 5 _ rfl (cO.setRow _) Tryz.underlying128 size_b64 (by rw [arrB_size, HO.out])) rfl ⟨rfl, hmd.setRow (.inr hlow) _⟩

end Go.Proofs.YtaeociedjdgdfaaGreatDoor
