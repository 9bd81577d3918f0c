/- A block mixed in: sha.mixed. No condition. -/
import Derived.Deep.RegionWith
import Derived.Deep.DeepCutAuto
import Derived.Deep.RegionHeld3
import Derived.Test.YtakgnkjopbflbaaGreatDoorCg
namespace Go.Proofs.YtakgnkjopbflbaaGreatDoor
open Go.RowKit
set_option linter.unusedSimpArgs false

/-- A state. -/
structure S8 where
  a : UInt32
  b : UInt32
  c : UInt32
  d : UInt32
  e : UInt32
  f : UInt32
  g : UInt32
  h : UInt32

def S8.cells (s : S8) : Array Value := #[V32 s.a, V32 s.b, V32 s.c, V32 s.d, V32 s.e, V32 s.f, V32 s.g, V32 s.h]

theorem size_a8 : (Tryz.prog.info? 277).map (·.size) = some 8 := by kernel_rfl

/-- A word, turned to the right. -/
def rotr32 (x : UInt32) (n : Int) : UInt32 := rot32 x (32 - n.toNat)
theorem turn_val (n : Int) (h1 : 1 ≤ n) (h31 : n ≤ 31) : bits BinOp.and IntKind.u64 (IntKind.u64.wrap (-n)) 31 = ((32 - n.toNat : Nat) : Int) := by
  obtain ⟨j, rfl⟩ := Int.eq_ofNat_of_zero_le (show 0 ≤ n by omega)
  have h : ∀ q : Fin 32, 1 ≤ q.val → bits BinOp.and IntKind.u64 (IntKind.u64.wrap (-((q.val : Nat) : Int))) 31 = ((32 - ((q.val : Nat) : Int).toNat : Nat) : Int) := by decide +kernel
  exact h ⟨j, by omega⟩ (by simp; omega)
theorem rotated_r (x : UInt32) (n : Int) (h1 : 1 ≤ n) (h31 : n ≤ 31) (w : World) :
    Calls Tryz.prog 174 #[.int .u32 (n32 x), .int .i64 n] w fun e w' => e = .returned (.int .u32 (n32 (rotr32 x n))) ∧ w' = w :=
  rotated32 x n (32 - n.toNat) (by omega) h31 (turn_val n h1 h31) (by omega) w

theorem n32_all : (if IntKind.u32.signed = true then (-1 : Int) else IntKind.u32.max) = n32 4294967295 := by decide

/-- One round. -/
def S8.round (s : S8) (k w : UInt32) : S8 :=
  let t := s.h + (rotr32 s.e 6 ^^^ rotr32 s.e 11 ^^^ rotr32 s.e 25) + ((s.e &&& s.f) ^^^ ((4294967295 ^^^ s.e) &&& s.g)) + k + w
  let u := (rotr32 s.a 2 ^^^ rotr32 s.a 13 ^^^ rotr32 s.a 22) + ((s.a &&& s.b) ^^^ (s.a &&& s.c) ^^^ (s.b &&& s.c))
  ⟨t + u, s.a, s.b, s.c, s.d + t, s.e, s.f, s.g⟩
def S8.rounds (s : S8) (ks ws : List UInt32) : Nat → S8
  | 0 => s
  | i + 1 => (s.rounds ks ws i).round (ks.getD i 0) (ws.getD i 0)
theorem cells8_size (s : S8) : s.cells.size = 8 := rfl
theorem word_cell {w : World} {g : Nat} {ws : List UInt32} (h : CellsAt w g (arr32 ws 64) 275) (hl : ws.length = 64) (i : Nat) (hi : i < 64) : w.cell? ⟨g, i, none⟩ = some (V32 (ws.getD i 0)) := by
  rw [h.cell i]
  refine arr32_get ws 64 i _ ?_
  rw [List.getD_eq_getElem?_getD, List.getElem?_eq_getElem (by omega)]
  rfl

theorem round_cells (A B C D E F G H k w t u : UInt32) (ht : t = H + (rotr32 E 6 ^^^ rotr32 E 11 ^^^ rotr32 E 25) + ((E &&& F) ^^^ ((4294967295 ^^^ E) &&& G)) + k + w) (hu : u = (rotr32 A 2 ^^^ rotr32 A 13 ^^^ rotr32 A 22) + ((A &&& B) ^^^ (A &&& C) ^^^ (B &&& C))) :
    (S8.round ⟨A, B, C, D, E, F, G, H⟩ k w).cells = #[V32 (t + u), V32 A, V32 B, V32 C, V32 (D + t), V32 E, V32 F, V32 G] := by subst ht; subst hu; rfl
theorem set8 (a b c d e f g h a' b' c' d' e' f' g' h' : Value) : ((((((((#[a, b, c, d, e, f, g, h] : Array Value).setIfInBounds 0 a').setIfInBounds 1 b').setIfInBounds 2 c').setIfInBounds 3 d').setIfInBounds 4 e').setIfInBounds 5 f').setIfInBounds 6 g').setIfInBounds 7 h' = #[a', b', c', d', e', f', g', h'] := by
  simp only [List.setIfInBounds_toArray, List.set_cons_zero, List.set_cons_succ]

/-- The first so many words are added. -/
def S8.plusTo (s t : S8) (i : Nat) : S8 :=
  ⟨if 0 < i then s.a + t.a else s.a, if 1 < i then s.b + t.b else s.b, if 2 < i then s.c + t.c else s.c, if 3 < i then s.d + t.d else s.d, if 4 < i then s.e + t.e else s.e, if 5 < i then s.f + t.f else s.f, if 6 < i then s.g + t.g else s.g, if 7 < i then s.h + t.h else s.h⟩
def S8.plus (s t : S8) : S8 := ⟨s.a + t.a, s.b + t.b, s.c + t.c, s.d + t.d, s.e + t.e, s.f + t.f, s.g + t.g, s.h + t.h⟩
theorem plus_step (s t : S8) : ∀ i, i < 8 → ∃ x y, (s.plusTo t i).cells[i]? = some (V32 x) ∧ t.cells[i]? = some (V32 y) ∧ (s.plusTo t i).cells.setIfInBounds i (V32 (x + y)) = (s.plusTo t (i + 1)).cells
  | 0, _ => ⟨s.a, t.a, by simp [S8.plusTo, S8.cells], by simp [S8.cells], by simp [S8.plusTo, S8.cells]⟩
  | 1, _ => ⟨s.b, t.b, by simp [S8.plusTo, S8.cells], by simp [S8.cells], by simp [S8.plusTo, S8.cells]⟩
  | 2, _ => ⟨s.c, t.c, by simp [S8.plusTo, S8.cells], by simp [S8.cells], by simp [S8.plusTo, S8.cells]⟩
  | 3, _ => ⟨s.d, t.d, by simp [S8.plusTo, S8.cells], by simp [S8.cells], by simp [S8.plusTo, S8.cells]⟩
  | 4, _ => ⟨s.e, t.e, by simp [S8.plusTo, S8.cells], by simp [S8.cells], by simp [S8.plusTo, S8.cells]⟩
  | 5, _ => ⟨s.f, t.f, by simp [S8.plusTo, S8.cells], by simp [S8.cells], by simp [S8.plusTo, S8.cells]⟩
  | 6, _ => ⟨s.g, t.g, by simp [S8.plusTo, S8.cells], by simp [S8.cells], by simp [S8.plusTo, S8.cells]⟩
  | 7, _ => ⟨s.h, t.h, by simp [S8.plusTo, S8.cells], by simp [S8.cells], by simp [S8.plusTo, S8.cells]⟩
  | n + 8, h => by omega
theorem plus_start (s t : S8) : s.plusTo t 0 = s := by simp [S8.plusTo]
theorem plus_end (s t : S8) : s.plusTo t 8 = s.plus t := by simp [S8.plusTo, S8.plus]

/-- A state behind a block. -/
def S8.mix (s : S8) (ks : List UInt32) (l : List UInt8) : S8 := s.plus (s.rounds ks (sched l 64) 64)

/-- Where the copies stand. -/
def MixS (W0 : World) (s : S8) (ws : List UInt32) (t7 t8 : Value) (wx : World) : Prop :=
  ∃ ga gw, t7 = .pointer (some ⟨ga, 0, none⟩) ∧ t8 = .pointer (some ⟨gw, 0, none⟩) ∧ CellsAt wx ga s.cells 277 ∧ CellsAt wx gw (arr32 ws 64) 275 ∧ ga ≠ gw ∧ W0.heap.size ≤ ga ∧ W0.heap.size ≤ gw ∧ Mod W0 wx Nob

set_option maxRecDepth 100000 in
set_option maxHeartbeats 4000000 in
theorem mixed_any (s : S8) (kb : Nat) (ks : List UInt32) (v : Value) (l : List UInt8) (w : World) (hk : CellsAt w kb (arr32 ks 64) 275) (hks : ks.length = 64) (hv : BytesAt w v l) (h64 : l.length = 64) :
    Calls Tryz.prog 165 #[.agg s.cells, .pointer (some ⟨kb, 0, none⟩), v] w fun e w' => e = .returned (.agg (s.mix ks l).cells) ∧ Mod w w' Nob := by
  obtain ⟨a, c, rfl, hlc, hcm⟩ := hv.form
  rw [List.length_map, h64] at hlc hv ⊢
  unfold maxLen at hcm
  have hsched := fun W hW => schedule_any (.slice a 64 c) l W hW h64
  have hwl := sched_length l 64
  obtain ⟨ws, hws⟩ : ∃ ws, sched l 64 = ws := ⟨_, rfl⟩
  rw [hws] at hwl
  simp only [hws] at hsched
  have hsz := arr32_size ws 64 (by omega)
  have HWS := Lib.hid hws
  clear hws
  have hsc : s.cells = #[V32 s.a, V32 s.b, V32 s.c, V32 s.d, V32 s.e, V32 s.f, V32 s.g, V32 s.h] := rfl
  rw [hsc]
  go_enter Tryz.func165, Tryz.ntmps165
  go_upto_region 1 with fail
  have cT := (CellsAt.new w #[V32 s.a, V32 s.b, V32 s.c, V32 s.d, V32 s.e, V32 s.f, V32 s.g, V32 s.h] 277)
  have hmw := (Mod.refl w Nob).alloc (.cells #[V32 s.a, V32 s.b, V32 s.c, V32 s.d, V32 s.e, V32 s.f, V32 s.g, V32 s.h] 277)
  obtain ⟨w0, hw0⟩ : ∃ w0, w.alloc (.cells #[V32 s.a, V32 s.b, V32 s.c, V32 s.d, V32 s.e, V32 s.f, V32 s.g, V32 s.h] 277) = w0 := ⟨_, rfl⟩
  have hs0 : w0.heap.size = w.heap.size + 1 := by rw [← hw0]; simp
  rw [hw0] at cT hmw ⊢
  clear hw0
  obtain ⟨zs, hzs⟩ : ∃ zs, zs = #[Value.int .u32 0, .int .u32 0, .int .u32 0, .int .u32 0, .int .u32 0, .int .u32 0, .int .u32 0, .int .u32 0] := ⟨_, rfl⟩
  have hzn : zs.size = 8 := by rw [hzs]; rfl
  have cR := CellsAt.new w0 zs 277
  rw [← hzs]
  have cT1 := cT.alloc (.cells zs 277)
  have hm1 := hmw.trans ((Mod.refl w0 Nob).alloc (.cells zs 277))
  obtain ⟨W1, hW1⟩ : ∃ W1, w0.alloc (.cells zs 277) = W1 := ⟨_, rfl⟩
  have hs1 : W1.heap.size = w.heap.size + 2 := by rw [← hW1]; simp [hs0]
  rw [hW1] at cR cT1 hm1 ⊢
  rw [hs0] at cR
  clear hW1 hzs hmw cT hs0
  have hvl := fun W (hm : Mod W1 W Nob) => (hv.mod hm1 (fun _ _ => nob)).mod hm (fun _ _ => nob)
  have hmG : Mod W1 W1 Nob := Mod.refl _ _
  go_cut [7, 8] from 15 to 17 (fun t7 t8 wx => MixS W1 s ws t7 t8 wx)
  case first =>
    refine wp_region_held_drew (S := fun W => CellsAt W w.heap.size #[V32 s.a, V32 s.b, V32 s.c, V32 s.d, V32 s.e, V32 s.f, V32 s.g, V32 s.h] 277) (by kernel_rfl) (cT1.mod (Mod.refl W1 Nob).drew nob) (fun hHeld => ?_)
    refine' wpAnyH_take (i := 0) (v := _) rfl (by kernel_rfl) (by kernel_rfl) (by kernel_rfl) (fun _ _ _ h => h)
      (yieldsIf_load_mid (by rfl) 277 _ rfl w.heap.size 0 rfl [V32 s.a, V32 s.b, V32 s.c, V32 s.d, V32 s.e, V32 s.f, V32 s.g, V32 s.h] _ (fun W hW j v hj => by rw [Nat.zero_add, CellsAt.cell hW j]; simpa using hj) Tryz.underlying277 rfl (by rw [size_a8]; rfl)) hHeld ?_
    try simp only [Act.put, List.getElem_toArray, List.getElem_cons_zero, List.getElem_cons_succ, List.setIfInBounds_toArray, List.set_cons_zero, List.set_cons_succ]
    refine wpAnyH_take (i := 1) (v := .slice a 64 c) rfl (by kernel_rfl) (by kernel_rfl) (by kernel_rfl) (fun _ _ _ h => h) (Or.inl ⟨by rfl, fun W hSw => by go_simp⟩) hHeld ?_
    try simp only [Act.put, List.getElem_toArray, List.getElem_cons_zero, List.getElem_cons_succ, List.setIfInBounds_toArray, List.set_cons_zero, List.set_cons_succ]
    have hT := cT1.mod (Mod.refl W1 Nob).drew nob
    have hM := hmG.drew
    obtain ⟨V0, hV⟩ : ∃ V, W1.drew = V := ⟨_, rfl⟩
    rw [hV] at hT hM ⊢
    clear hV hHeld hmG
    have tlt : w.heap.size < W1.heap.size := by omega
  -- ORDERS
    refine wpAnyH_ready (rs := [2, 3, 4]) (by kernel_rfl) (by simp) ?_
    refine AllReadyH.cons rfl (fun K hK => ?_) ?_
    ·
      try simp only [List.getElem_toArray, List.getElem_cons_zero, List.getElem_cons_succ]
      go_simp
      refine (hsched _ (hvl V0 hM)).mono ?_
      rintro e V1 ⟨rfl, m5⟩
      go_wp2_with fail
      refine hK.out _ _ (by show CellsAt _ _ _ _; exact hT.mod m5 nob) (fun _ => ?_)
      clear hK K
      try simp only [Act.put, List.getElem_toArray, List.getElem_cons_zero, List.getElem_cons_succ, List.setIfInBounds_toArray, List.set_cons_zero, List.set_cons_succ]
      have hs := m5.size
      replace hT := hT.mod m5 nob
      replace hM := hM.trans m5
      clear m5 hs
      refine wpAnyH_ready (rs := [3, 4]) (by kernel_rfl) (by simp) ?_
      refine AllReadyH.cons rfl (fun K hK => ?_) ?_
      ·
        try simp only [List.getElem_toArray, List.getElem_cons_zero, List.getElem_cons_succ]
        go_simp
        refine hK.out _ _ (by show CellsAt _ _ _ _; exact hT.alloc _) (fun _ => ?_)
        clear hK K
        try simp only [Act.put, List.getElem_toArray, List.getElem_cons_zero, List.getElem_cons_succ, List.setIfInBounds_toArray, List.set_cons_zero, List.set_cons_succ]
        have h7 := CellsAt.new V1 #[Value.int .u32 0, .int .u32 0, .int .u32 0, .int .u32 0, .int .u32 0, .int .u32 0, .int .u32 0, .int .u32 0] 277
        have hz := hM.size
        replace hT := hT.alloc (.cells #[Value.int .u32 0, .int .u32 0, .int .u32 0, .int .u32 0, .int .u32 0, .int .u32 0, .int .u32 0, .int .u32 0] 277)
        replace hM := hM.trans ((Mod.refl V1 Nob).alloc (.cells #[Value.int .u32 0, .int .u32 0, .int .u32 0, .int .u32 0, .int .u32 0, .int .u32 0, .int .u32 0, .int .u32 0] 277))
        obtain ⟨V2, hV⟩ : ∃ V, V1.alloc (.cells #[Value.int .u32 0, .int .u32 0, .int .u32 0, .int .u32 0, .int .u32 0, .int .u32 0, .int .u32 0, .int .u32 0] 277) = V := ⟨_, rfl⟩
        have hs : V2.heap.size = V1.heap.size + 1 := by rw [← hV]; simp
        obtain ⟨g7, hg⟩ : ∃ g, V1.heap.size = g := ⟨_, rfl⟩
        rw [hV] at hT hM h7 ⊢
        rw [hg] at h7 ⊢
        have l7 : g7 < V2.heap.size := by omega
        have n7 : W1.heap.size ≤ g7 := by omega
        clear hV hs hg hz
        refine wpAnyH_ready (rs := [4]) (by kernel_rfl) (by simp) ?_
        refine AllReadyH.cons rfl (fun K hK => ?_) ?_
        ·
          try simp only [List.getElem_toArray, List.getElem_cons_zero, List.getElem_cons_succ]
          go_simp
          rw [zeros64]
          refine hK.out _ _ (by show CellsAt _ _ _ _; exact hT.alloc _) (fun _ => ?_)
          clear hK K
          try simp only [Act.put, List.getElem_toArray, List.getElem_cons_zero, List.getElem_cons_succ, List.setIfInBounds_toArray, List.set_cons_zero, List.set_cons_succ]
          have h8 := CellsAt.new V2 (arr32 [] 64) 275
          have hz := hM.size
          replace hT := hT.alloc (.cells (arr32 [] 64) 275)
          replace hM := hM.trans ((Mod.refl V2 Nob).alloc (.cells (arr32 [] 64) 275))
          replace h7 := h7.alloc (.cells (arr32 [] 64) 275)
          obtain ⟨V3, hV⟩ : ∃ V, V2.alloc (.cells (arr32 [] 64) 275) = V := ⟨_, rfl⟩
          have hs : V3.heap.size = V2.heap.size + 1 := by rw [← hV]; simp
          obtain ⟨g8, hg⟩ : ∃ g, V2.heap.size = g := ⟨_, rfl⟩
          rw [hV] at hT hM h8 h7 ⊢
          rw [hg] at h8 ⊢
          have l8 : g8 < V3.heap.size := by omega
          have n8 : W1.heap.size ≤ g8 := by omega
          have h78 : g7 ≠ g8 := by omega
          replace l7 : g7 < V3.heap.size := by omega
          clear hV hs hg hz
          refine wpAnyH_ready (rs := [5]) (by kernel_rfl) (by simp) ?_
          refine AllReadyH.cons rfl (fun K hK => ?_) ?_
          ·
            try simp only [List.getElem_toArray, List.getElem_cons_zero, List.getElem_cons_succ]
            rw [if_pos (by rfl)]
            refine wp_store_row 277 _ _ rfl g7 #[V32 s.a, V32 s.b, V32 s.c, V32 s.d, V32 s.e, V32 s.f, V32 s.g, V32 s.h] rfl rfl 277 _ h7 (by rw [size_a8]; rfl) rfl (by simp [Value.oneCell']) ?_
            have hT' := hT.other (g2 := g7) #[V32 s.a, V32 s.b, V32 s.c, V32 s.d, V32 s.e, V32 s.f, V32 s.g, V32 s.h] (fun e => by omega)
            refine hK.out _ _ (by show CellsAt _ _ _ _; exact hT') (fun _ => ?_)
            clear hK K
            try simp only [Act.put, List.getElem_toArray, List.getElem_cons_zero, List.getElem_cons_succ, List.setIfInBounds_toArray, List.set_cons_zero, List.set_cons_succ]
            have h7' := CellsAt.setRow h7 #[V32 s.a, V32 s.b, V32 s.c, V32 s.d, V32 s.e, V32 s.f, V32 s.g, V32 s.h]
            have h8' := CellsAt.other h8 (g2 := g7) #[V32 s.a, V32 s.b, V32 s.c, V32 s.d, V32 s.e, V32 s.f, V32 s.g, V32 s.h] h78.symm
            have hM' := hM.setRow (g := g7) (.inr n7) #[V32 s.a, V32 s.b, V32 s.c, V32 s.d, V32 s.e, V32 s.f, V32 s.g, V32 s.h]
            clear hT hM h7 h8
            have hT := hT'
            have hM := hM'
            have h7 := h7'
            have h8 := h8'
            clear hT' hM' h7' h8'
            obtain ⟨V4, hV⟩ : ∃ V, V3.setRow g7 #[V32 s.a, V32 s.b, V32 s.c, V32 s.d, V32 s.e, V32 s.f, V32 s.g, V32 s.h] = V := ⟨_, rfl⟩
            have hs : V4.heap.size = V3.heap.size := by rw [← hV]; simp
            rw [hV] at hT hM h7 h8 ⊢
            replace l7 : g7 < V4.heap.size := by omega
            replace l8 : g8 < V4.heap.size := by omega
            clear hV hs
            refine wpAnyH_ready (rs := [6]) (by kernel_rfl) (by simp) ?_
            refine AllReadyH.cons rfl (fun K hK => ?_) ?_
            ·
              try simp only [List.getElem_toArray, List.getElem_cons_zero, List.getElem_cons_succ]
              rw [if_pos (by rfl)]
              refine wp_store_row 275 _ _ rfl g8 (arr32 ws 64) rfl rfl 275 _ h8 (by rw [size_a64, hsz]) (by rw [hsz, arr32_size [] 64 (by simp)]) (arr32_one _ _) ?_
              have hT' := hT.other (g2 := g8) (arr32 ws 64) (fun e => by omega)
              refine hK.out _ _ (by show CellsAt _ _ _ _; exact hT') (fun _ => ?_)
              clear hK K
              try simp only [Act.put, List.getElem_toArray, List.getElem_cons_zero, List.getElem_cons_succ, List.setIfInBounds_toArray, List.set_cons_zero, List.set_cons_succ]
              have h8' := CellsAt.setRow h8 (arr32 ws 64)
              have h7' := CellsAt.other h7 (g2 := g8) (arr32 ws 64) h78
              have hM' := hM.setRow (g := g8) (.inr n8) (arr32 ws 64)
              clear hT hM h7 h8
              have hT := hT'
              have hM := hM'
              have h7 := h7'
              have h8 := h8'
              clear hT' hM' h7' h8'
              obtain ⟨V5, hV⟩ : ∃ V, V4.setRow g8 (arr32 ws 64) = V := ⟨_, rfl⟩
              have hs : V5.heap.size = V4.heap.size := by rw [← hV]; simp
              rw [hV] at hT hM h7 h8 ⊢
              replace l7 : g7 < V5.heap.size := by omega
              replace l8 : g8 < V5.heap.size := by omega
              clear hV hs
              refine wpAnyH_done (by kernel_rfl) ?_ _
              go_wp2_with fail
              go_meet
              exact ⟨g7, g8, rfl, rfl, h7, h8, h78, n7, n8, hM⟩
            exact AllReadyH.nil
          exact AllReadyH.nil
        exact AllReadyH.nil
      refine AllReadyH.cons rfl (fun K hK => ?_) ?_
      ·
        try simp only [List.getElem_toArray, List.getElem_cons_zero, List.getElem_cons_succ]
        go_simp
        rw [zeros64]
        refine hK.out _ _ (by show CellsAt _ _ _ _; exact hT.alloc _) (fun _ => ?_)
        clear hK K
        try simp only [Act.put, List.getElem_toArray, List.getElem_cons_zero, List.getElem_cons_succ, List.setIfInBounds_toArray, List.set_cons_zero, List.set_cons_succ]
        have h8 := CellsAt.new V1 (arr32 [] 64) 275
        have hz := hM.size
        replace hT := hT.alloc (.cells (arr32 [] 64) 275)
        replace hM := hM.trans ((Mod.refl V1 Nob).alloc (.cells (arr32 [] 64) 275))
        obtain ⟨V2, hV⟩ : ∃ V, V1.alloc (.cells (arr32 [] 64) 275) = V := ⟨_, rfl⟩
        have hs : V2.heap.size = V1.heap.size + 1 := by rw [← hV]; simp
        obtain ⟨g8, hg⟩ : ∃ g, V1.heap.size = g := ⟨_, rfl⟩
        rw [hV] at hT hM h8 ⊢
        rw [hg] at h8 ⊢
        have l8 : g8 < V2.heap.size := by omega
        have n8 : W1.heap.size ≤ g8 := by omega
        clear hV hs hg hz
        refine wpAnyH_ready (rs := [3]) (by kernel_rfl) (by simp) ?_
        refine AllReadyH.cons rfl (fun K hK => ?_) ?_
        ·
          try simp only [List.getElem_toArray, List.getElem_cons_zero, List.getElem_cons_succ]
          go_simp
          refine hK.out _ _ (by show CellsAt _ _ _ _; exact hT.alloc _) (fun _ => ?_)
          clear hK K
          try simp only [Act.put, List.getElem_toArray, List.getElem_cons_zero, List.getElem_cons_succ, List.setIfInBounds_toArray, List.set_cons_zero, List.set_cons_succ]
          have h7 := CellsAt.new V2 #[Value.int .u32 0, .int .u32 0, .int .u32 0, .int .u32 0, .int .u32 0, .int .u32 0, .int .u32 0, .int .u32 0] 277
          have hz := hM.size
          replace hT := hT.alloc (.cells #[Value.int .u32 0, .int .u32 0, .int .u32 0, .int .u32 0, .int .u32 0, .int .u32 0, .int .u32 0, .int .u32 0] 277)
          replace hM := hM.trans ((Mod.refl V2 Nob).alloc (.cells #[Value.int .u32 0, .int .u32 0, .int .u32 0, .int .u32 0, .int .u32 0, .int .u32 0, .int .u32 0, .int .u32 0] 277))
          replace h8 := h8.alloc (.cells #[Value.int .u32 0, .int .u32 0, .int .u32 0, .int .u32 0, .int .u32 0, .int .u32 0, .int .u32 0, .int .u32 0] 277)
          obtain ⟨V3, hV⟩ : ∃ V, V2.alloc (.cells #[Value.int .u32 0, .int .u32 0, .int .u32 0, .int .u32 0, .int .u32 0, .int .u32 0, .int .u32 0, .int .u32 0] 277) = V := ⟨_, rfl⟩
          have hs : V3.heap.size = V2.heap.size + 1 := by rw [← hV]; simp
          obtain ⟨g7, hg⟩ : ∃ g, V2.heap.size = g := ⟨_, rfl⟩
          rw [hV] at hT hM h7 h8 ⊢
          rw [hg] at h7 ⊢
          have l7 : g7 < V3.heap.size := by omega
          have n7 : W1.heap.size ≤ g7 := by omega
          have h78 : g7 ≠ g8 := by omega
          replace l8 : g8 < V3.heap.size := by omega
          clear hV hs hg hz
          refine wpAnyH_ready (rs := [5]) (by kernel_rfl) (by simp) ?_
          refine AllReadyH.cons rfl (fun K hK => ?_) ?_
          ·
            try simp only [List.getElem_toArray, List.getElem_cons_zero, List.getElem_cons_succ]
            rw [if_pos (by rfl)]
            refine wp_store_row 277 _ _ rfl g7 #[V32 s.a, V32 s.b, V32 s.c, V32 s.d, V32 s.e, V32 s.f, V32 s.g, V32 s.h] rfl rfl 277 _ h7 (by rw [size_a8]; rfl) rfl (by simp [Value.oneCell']) ?_
            have hT' := hT.other (g2 := g7) #[V32 s.a, V32 s.b, V32 s.c, V32 s.d, V32 s.e, V32 s.f, V32 s.g, V32 s.h] (fun e => by omega)
            refine hK.out _ _ (by show CellsAt _ _ _ _; exact hT') (fun _ => ?_)
            clear hK K
            try simp only [Act.put, List.getElem_toArray, List.getElem_cons_zero, List.getElem_cons_succ, List.setIfInBounds_toArray, List.set_cons_zero, List.set_cons_succ]
            have h7' := CellsAt.setRow h7 #[V32 s.a, V32 s.b, V32 s.c, V32 s.d, V32 s.e, V32 s.f, V32 s.g, V32 s.h]
            have h8' := CellsAt.other h8 (g2 := g7) #[V32 s.a, V32 s.b, V32 s.c, V32 s.d, V32 s.e, V32 s.f, V32 s.g, V32 s.h] h78.symm
            have hM' := hM.setRow (g := g7) (.inr n7) #[V32 s.a, V32 s.b, V32 s.c, V32 s.d, V32 s.e, V32 s.f, V32 s.g, V32 s.h]
            clear hT hM h7 h8
            have hT := hT'
            have hM := hM'
            have h7 := h7'
            have h8 := h8'
            clear hT' hM' h7' h8'
            obtain ⟨V4, hV⟩ : ∃ V, V3.setRow g7 #[V32 s.a, V32 s.b, V32 s.c, V32 s.d, V32 s.e, V32 s.f, V32 s.g, V32 s.h] = V := ⟨_, rfl⟩
            have hs : V4.heap.size = V3.heap.size := by rw [← hV]; simp
            rw [hV] at hT hM h7 h8 ⊢
            replace l7 : g7 < V4.heap.size := by omega
            replace l8 : g8 < V4.heap.size := by omega
            clear hV hs
            refine wpAnyH_ready (rs := [6]) (by kernel_rfl) (by simp) ?_
            refine AllReadyH.cons rfl (fun K hK => ?_) ?_
            ·
              try simp only [List.getElem_toArray, List.getElem_cons_zero, List.getElem_cons_succ]
              rw [if_pos (by rfl)]
              refine wp_store_row 275 _ _ rfl g8 (arr32 ws 64) rfl rfl 275 _ h8 (by rw [size_a64, hsz]) (by rw [hsz, arr32_size [] 64 (by simp)]) (arr32_one _ _) ?_
              have hT' := hT.other (g2 := g8) (arr32 ws 64) (fun e => by omega)
              refine hK.out _ _ (by show CellsAt _ _ _ _; exact hT') (fun _ => ?_)
              clear hK K
              try simp only [Act.put, List.getElem_toArray, List.getElem_cons_zero, List.getElem_cons_succ, List.setIfInBounds_toArray, List.set_cons_zero, List.set_cons_succ]
              have h8' := CellsAt.setRow h8 (arr32 ws 64)
              have h7' := CellsAt.other h7 (g2 := g8) (arr32 ws 64) h78
              have hM' := hM.setRow (g := g8) (.inr n8) (arr32 ws 64)
              clear hT hM h7 h8
              have hT := hT'
              have hM := hM'
              have h7 := h7'
              have h8 := h8'
              clear hT' hM' h7' h8'
              obtain ⟨V5, hV⟩ : ∃ V, V4.setRow g8 (arr32 ws 64) = V := ⟨_, rfl⟩
              have hs : V5.heap.size = V4.heap.size := by rw [← hV]; simp
              rw [hV] at hT hM h7 h8 ⊢
              replace l7 : g7 < V5.heap.size := by omega
              replace l8 : g8 < V5.heap.size := by omega
              clear hV hs
              refine wpAnyH_done (by kernel_rfl) ?_ _
              go_wp2_with fail
              go_meet
              exact ⟨g7, g8, rfl, rfl, h7, h8, h78, n7, n8, hM⟩
            exact AllReadyH.nil
          exact AllReadyH.nil
        exact AllReadyH.nil
      exact AllReadyH.nil
    refine AllReadyH.cons rfl (fun K hK => ?_) ?_
    ·
      try simp only [List.getElem_toArray, List.getElem_cons_zero, List.getElem_cons_succ]
      go_simp
      refine hK.out _ _ (by show CellsAt _ _ _ _; exact hT.alloc _) (fun _ => ?_)
      clear hK K
      try simp only [Act.put, List.getElem_toArray, List.getElem_cons_zero, List.getElem_cons_succ, List.setIfInBounds_toArray, List.set_cons_zero, List.set_cons_succ]
      have h7 := CellsAt.new V0 #[Value.int .u32 0, .int .u32 0, .int .u32 0, .int .u32 0, .int .u32 0, .int .u32 0, .int .u32 0, .int .u32 0] 277
      have hz := hM.size
      replace hT := hT.alloc (.cells #[Value.int .u32 0, .int .u32 0, .int .u32 0, .int .u32 0, .int .u32 0, .int .u32 0, .int .u32 0, .int .u32 0] 277)
      replace hM := hM.trans ((Mod.refl V0 Nob).alloc (.cells #[Value.int .u32 0, .int .u32 0, .int .u32 0, .int .u32 0, .int .u32 0, .int .u32 0, .int .u32 0, .int .u32 0] 277))
      obtain ⟨V1, hV⟩ : ∃ V, V0.alloc (.cells #[Value.int .u32 0, .int .u32 0, .int .u32 0, .int .u32 0, .int .u32 0, .int .u32 0, .int .u32 0, .int .u32 0] 277) = V := ⟨_, rfl⟩
      have hs : V1.heap.size = V0.heap.size + 1 := by rw [← hV]; simp
      obtain ⟨g7, hg⟩ : ∃ g, V0.heap.size = g := ⟨_, rfl⟩
      rw [hV] at hT hM h7 ⊢
      rw [hg] at h7 ⊢
      have l7 : g7 < V1.heap.size := by omega
      have n7 : W1.heap.size ≤ g7 := by omega
      clear hV hs hg hz
      refine wpAnyH_ready (rs := [2, 4]) (by kernel_rfl) (by simp) ?_
      refine AllReadyH.cons rfl (fun K hK => ?_) ?_
      ·
        try simp only [List.getElem_toArray, List.getElem_cons_zero, List.getElem_cons_succ]
        go_simp
        refine (hsched _ (hvl V1 hM)).mono ?_
        rintro e V2 ⟨rfl, m5⟩
        go_wp2_with fail
        refine hK.out _ _ (by show CellsAt _ _ _ _; exact hT.mod m5 nob) (fun _ => ?_)
        clear hK K
        try simp only [Act.put, List.getElem_toArray, List.getElem_cons_zero, List.getElem_cons_succ, List.setIfInBounds_toArray, List.set_cons_zero, List.set_cons_succ]
        have hs := m5.size
        replace hT := hT.mod m5 nob
        replace hM := hM.trans m5
        replace h7 := h7.mod m5 nob
        replace l7 : g7 < V2.heap.size := by omega
        clear m5 hs
        refine wpAnyH_ready (rs := [4]) (by kernel_rfl) (by simp) ?_
        refine AllReadyH.cons rfl (fun K hK => ?_) ?_
        ·
          try simp only [List.getElem_toArray, List.getElem_cons_zero, List.getElem_cons_succ]
          go_simp
          rw [zeros64]
          refine hK.out _ _ (by show CellsAt _ _ _ _; exact hT.alloc _) (fun _ => ?_)
          clear hK K
          try simp only [Act.put, List.getElem_toArray, List.getElem_cons_zero, List.getElem_cons_succ, List.setIfInBounds_toArray, List.set_cons_zero, List.set_cons_succ]
          have h8 := CellsAt.new V2 (arr32 [] 64) 275
          have hz := hM.size
          replace hT := hT.alloc (.cells (arr32 [] 64) 275)
          replace hM := hM.trans ((Mod.refl V2 Nob).alloc (.cells (arr32 [] 64) 275))
          replace h7 := h7.alloc (.cells (arr32 [] 64) 275)
          obtain ⟨V3, hV⟩ : ∃ V, V2.alloc (.cells (arr32 [] 64) 275) = V := ⟨_, rfl⟩
          have hs : V3.heap.size = V2.heap.size + 1 := by rw [← hV]; simp
          obtain ⟨g8, hg⟩ : ∃ g, V2.heap.size = g := ⟨_, rfl⟩
          rw [hV] at hT hM h8 h7 ⊢
          rw [hg] at h8 ⊢
          have l8 : g8 < V3.heap.size := by omega
          have n8 : W1.heap.size ≤ g8 := by omega
          have h78 : g7 ≠ g8 := by omega
          replace l7 : g7 < V3.heap.size := by omega
          clear hV hs hg hz
          refine wpAnyH_ready (rs := [5]) (by kernel_rfl) (by simp) ?_
          refine AllReadyH.cons rfl (fun K hK => ?_) ?_
          ·
            try simp only [List.getElem_toArray, List.getElem_cons_zero, List.getElem_cons_succ]
            rw [if_pos (by rfl)]
            refine wp_store_row 277 _ _ rfl g7 #[V32 s.a, V32 s.b, V32 s.c, V32 s.d, V32 s.e, V32 s.f, V32 s.g, V32 s.h] rfl rfl 277 _ h7 (by rw [size_a8]; rfl) rfl (by simp [Value.oneCell']) ?_
            have hT' := hT.other (g2 := g7) #[V32 s.a, V32 s.b, V32 s.c, V32 s.d, V32 s.e, V32 s.f, V32 s.g, V32 s.h] (fun e => by omega)
            refine hK.out _ _ (by show CellsAt _ _ _ _; exact hT') (fun _ => ?_)
            clear hK K
            try simp only [Act.put, List.getElem_toArray, List.getElem_cons_zero, List.getElem_cons_succ, List.setIfInBounds_toArray, List.set_cons_zero, List.set_cons_succ]
            have h7' := CellsAt.setRow h7 #[V32 s.a, V32 s.b, V32 s.c, V32 s.d, V32 s.e, V32 s.f, V32 s.g, V32 s.h]
            have h8' := CellsAt.other h8 (g2 := g7) #[V32 s.a, V32 s.b, V32 s.c, V32 s.d, V32 s.e, V32 s.f, V32 s.g, V32 s.h] h78.symm
            have hM' := hM.setRow (g := g7) (.inr n7) #[V32 s.a, V32 s.b, V32 s.c, V32 s.d, V32 s.e, V32 s.f, V32 s.g, V32 s.h]
            clear hT hM h7 h8
            have hT := hT'
            have hM := hM'
            have h7 := h7'
            have h8 := h8'
            clear hT' hM' h7' h8'
            obtain ⟨V4, hV⟩ : ∃ V, V3.setRow g7 #[V32 s.a, V32 s.b, V32 s.c, V32 s.d, V32 s.e, V32 s.f, V32 s.g, V32 s.h] = V := ⟨_, rfl⟩
            have hs : V4.heap.size = V3.heap.size := by rw [← hV]; simp
            rw [hV] at hT hM h7 h8 ⊢
            replace l7 : g7 < V4.heap.size := by omega
            replace l8 : g8 < V4.heap.size := by omega
            clear hV hs
            refine wpAnyH_ready (rs := [6]) (by kernel_rfl) (by simp) ?_
            refine AllReadyH.cons rfl (fun K hK => ?_) ?_
            ·
              try simp only [List.getElem_toArray, List.getElem_cons_zero, List.getElem_cons_succ]
              rw [if_pos (by rfl)]
              refine wp_store_row 275 _ _ rfl g8 (arr32 ws 64) rfl rfl 275 _ h8 (by rw [size_a64, hsz]) (by rw [hsz, arr32_size [] 64 (by simp)]) (arr32_one _ _) ?_
              have hT' := hT.other (g2 := g8) (arr32 ws 64) (fun e => by omega)
              refine hK.out _ _ (by show CellsAt _ _ _ _; exact hT') (fun _ => ?_)
              clear hK K
              try simp only [Act.put, List.getElem_toArray, List.getElem_cons_zero, List.getElem_cons_succ, List.setIfInBounds_toArray, List.set_cons_zero, List.set_cons_succ]
              have h8' := CellsAt.setRow h8 (arr32 ws 64)
              have h7' := CellsAt.other h7 (g2 := g8) (arr32 ws 64) h78
              have hM' := hM.setRow (g := g8) (.inr n8) (arr32 ws 64)
              clear hT hM h7 h8
              have hT := hT'
              have hM := hM'
              have h7 := h7'
              have h8 := h8'
              clear hT' hM' h7' h8'
              obtain ⟨V5, hV⟩ : ∃ V, V4.setRow g8 (arr32 ws 64) = V := ⟨_, rfl⟩
              have hs : V5.heap.size = V4.heap.size := by rw [← hV]; simp
              rw [hV] at hT hM h7 h8 ⊢
              replace l7 : g7 < V5.heap.size := by omega
              replace l8 : g8 < V5.heap.size := by omega
              clear hV hs
              refine wpAnyH_done (by kernel_rfl) ?_ _
              go_wp2_with fail
              go_meet
              exact ⟨g7, g8, rfl, rfl, h7, h8, h78, n7, n8, hM⟩
            exact AllReadyH.nil
          exact AllReadyH.nil
        exact AllReadyH.nil
      refine AllReadyH.cons rfl (fun K hK => ?_) ?_
      ·
        try simp only [List.getElem_toArray, List.getElem_cons_zero, List.getElem_cons_succ]
        go_simp
        rw [zeros64]
        refine hK.out _ _ (by show CellsAt _ _ _ _; exact hT.alloc _) (fun _ => ?_)
        clear hK K
        try simp only [Act.put, List.getElem_toArray, List.getElem_cons_zero, List.getElem_cons_succ, List.setIfInBounds_toArray, List.set_cons_zero, List.set_cons_succ]
        have h8 := CellsAt.new V1 (arr32 [] 64) 275
        have hz := hM.size
        replace hT := hT.alloc (.cells (arr32 [] 64) 275)
        replace hM := hM.trans ((Mod.refl V1 Nob).alloc (.cells (arr32 [] 64) 275))
        replace h7 := h7.alloc (.cells (arr32 [] 64) 275)
        obtain ⟨V2, hV⟩ : ∃ V, V1.alloc (.cells (arr32 [] 64) 275) = V := ⟨_, rfl⟩
        have hs : V2.heap.size = V1.heap.size + 1 := by rw [← hV]; simp
        obtain ⟨g8, hg⟩ : ∃ g, V1.heap.size = g := ⟨_, rfl⟩
        rw [hV] at hT hM h8 h7 ⊢
        rw [hg] at h8 ⊢
        have l8 : g8 < V2.heap.size := by omega
        have n8 : W1.heap.size ≤ g8 := by omega
        have h78 : g7 ≠ g8 := by omega
        replace l7 : g7 < V2.heap.size := by omega
        clear hV hs hg hz
        refine wpAnyH_ready (rs := [2]) (by kernel_rfl) (by simp) ?_
        refine AllReadyH.cons rfl (fun K hK => ?_) ?_
        ·
          try simp only [List.getElem_toArray, List.getElem_cons_zero, List.getElem_cons_succ]
          go_simp
          refine (hsched _ (hvl V2 hM)).mono ?_
          rintro e V3 ⟨rfl, m5⟩
          go_wp2_with fail
          refine hK.out _ _ (by show CellsAt _ _ _ _; exact hT.mod m5 nob) (fun _ => ?_)
          clear hK K
          try simp only [Act.put, List.getElem_toArray, List.getElem_cons_zero, List.getElem_cons_succ, List.setIfInBounds_toArray, List.set_cons_zero, List.set_cons_succ]
          have hs := m5.size
          replace hT := hT.mod m5 nob
          replace hM := hM.trans m5
          replace h7 := h7.mod m5 nob
          replace l7 : g7 < V3.heap.size := by omega
          replace h8 := h8.mod m5 nob
          replace l8 : g8 < V3.heap.size := by omega
          clear m5 hs
          refine wpAnyH_ready (rs := [5]) (by kernel_rfl) (by simp) ?_
          refine AllReadyH.cons rfl (fun K hK => ?_) ?_
          ·
            try simp only [List.getElem_toArray, List.getElem_cons_zero, List.getElem_cons_succ]
            rw [if_pos (by rfl)]
            refine wp_store_row 277 _ _ rfl g7 #[V32 s.a, V32 s.b, V32 s.c, V32 s.d, V32 s.e, V32 s.f, V32 s.g, V32 s.h] rfl rfl 277 _ h7 (by rw [size_a8]; rfl) rfl (by simp [Value.oneCell']) ?_
            have hT' := hT.other (g2 := g7) #[V32 s.a, V32 s.b, V32 s.c, V32 s.d, V32 s.e, V32 s.f, V32 s.g, V32 s.h] (fun e => by omega)
            refine hK.out _ _ (by show CellsAt _ _ _ _; exact hT') (fun _ => ?_)
            clear hK K
            try simp only [Act.put, List.getElem_toArray, List.getElem_cons_zero, List.getElem_cons_succ, List.setIfInBounds_toArray, List.set_cons_zero, List.set_cons_succ]
            have h7' := CellsAt.setRow h7 #[V32 s.a, V32 s.b, V32 s.c, V32 s.d, V32 s.e, V32 s.f, V32 s.g, V32 s.h]
            have h8' := CellsAt.other h8 (g2 := g7) #[V32 s.a, V32 s.b, V32 s.c, V32 s.d, V32 s.e, V32 s.f, V32 s.g, V32 s.h] h78.symm
            have hM' := hM.setRow (g := g7) (.inr n7) #[V32 s.a, V32 s.b, V32 s.c, V32 s.d, V32 s.e, V32 s.f, V32 s.g, V32 s.h]
            clear hT hM h7 h8
            have hT := hT'
            have hM := hM'
            have h7 := h7'
            have h8 := h8'
            clear hT' hM' h7' h8'
            obtain ⟨V4, hV⟩ : ∃ V, V3.setRow g7 #[V32 s.a, V32 s.b, V32 s.c, V32 s.d, V32 s.e, V32 s.f, V32 s.g, V32 s.h] = V := ⟨_, rfl⟩
            have hs : V4.heap.size = V3.heap.size := by rw [← hV]; simp
            rw [hV] at hT hM h7 h8 ⊢
            replace l7 : g7 < V4.heap.size := by omega
            replace l8 : g8 < V4.heap.size := by omega
            clear hV hs
            refine wpAnyH_ready (rs := [6]) (by kernel_rfl) (by simp) ?_
            refine AllReadyH.cons rfl (fun K hK => ?_) ?_
            ·
              try simp only [List.getElem_toArray, List.getElem_cons_zero, List.getElem_cons_succ]
              rw [if_pos (by rfl)]
              refine wp_store_row 275 _ _ rfl g8 (arr32 ws 64) rfl rfl 275 _ h8 (by rw [size_a64, hsz]) (by rw [hsz, arr32_size [] 64 (by simp)]) (arr32_one _ _) ?_
              have hT' := hT.other (g2 := g8) (arr32 ws 64) (fun e => by omega)
              refine hK.out _ _ (by show CellsAt _ _ _ _; exact hT') (fun _ => ?_)
              clear hK K
              try simp only [Act.put, List.getElem_toArray, List.getElem_cons_zero, List.getElem_cons_succ, List.setIfInBounds_toArray, List.set_cons_zero, List.set_cons_succ]
              have h8' := CellsAt.setRow h8 (arr32 ws 64)
              have h7' := CellsAt.other h7 (g2 := g8) (arr32 ws 64) h78
              have hM' := hM.setRow (g := g8) (.inr n8) (arr32 ws 64)
              clear hT hM h7 h8
              have hT := hT'
              have hM := hM'
              have h7 := h7'
              have h8 := h8'
              clear hT' hM' h7' h8'
              obtain ⟨V5, hV⟩ : ∃ V, V4.setRow g8 (arr32 ws 64) = V := ⟨_, rfl⟩
              have hs : V5.heap.size = V4.heap.size := by rw [← hV]; simp
              rw [hV] at hT hM h7 h8 ⊢
              replace l7 : g7 < V5.heap.size := by omega
              replace l8 : g8 < V5.heap.size := by omega
              clear hV hs
              refine wpAnyH_done (by kernel_rfl) ?_ _
              go_wp2_with fail
              go_meet
              exact ⟨g7, g8, rfl, rfl, h7, h8, h78, n7, n8, hM⟩
            exact AllReadyH.nil
          exact AllReadyH.nil
        exact AllReadyH.nil
      exact AllReadyH.nil
    refine AllReadyH.cons rfl (fun K hK => ?_) ?_
    ·
      try simp only [List.getElem_toArray, List.getElem_cons_zero, List.getElem_cons_succ]
      go_simp
      rw [zeros64]
      refine hK.out _ _ (by show CellsAt _ _ _ _; exact hT.alloc _) (fun _ => ?_)
      clear hK K
      try simp only [Act.put, List.getElem_toArray, List.getElem_cons_zero, List.getElem_cons_succ, List.setIfInBounds_toArray, List.set_cons_zero, List.set_cons_succ]
      have h8 := CellsAt.new V0 (arr32 [] 64) 275
      have hz := hM.size
      replace hT := hT.alloc (.cells (arr32 [] 64) 275)
      replace hM := hM.trans ((Mod.refl V0 Nob).alloc (.cells (arr32 [] 64) 275))
      obtain ⟨V1, hV⟩ : ∃ V, V0.alloc (.cells (arr32 [] 64) 275) = V := ⟨_, rfl⟩
      have hs : V1.heap.size = V0.heap.size + 1 := by rw [← hV]; simp
      obtain ⟨g8, hg⟩ : ∃ g, V0.heap.size = g := ⟨_, rfl⟩
      rw [hV] at hT hM h8 ⊢
      rw [hg] at h8 ⊢
      have l8 : g8 < V1.heap.size := by omega
      have n8 : W1.heap.size ≤ g8 := by omega
      clear hV hs hg hz
      refine wpAnyH_ready (rs := [2, 3]) (by kernel_rfl) (by simp) ?_
      refine AllReadyH.cons rfl (fun K hK => ?_) ?_
      ·
        try simp only [List.getElem_toArray, List.getElem_cons_zero, List.getElem_cons_succ]
        go_simp
        refine (hsched _ (hvl V1 hM)).mono ?_
        rintro e V2 ⟨rfl, m5⟩
        go_wp2_with fail
        refine hK.out _ _ (by show CellsAt _ _ _ _; exact hT.mod m5 nob) (fun _ => ?_)
        clear hK K
        try simp only [Act.put, List.getElem_toArray, List.getElem_cons_zero, List.getElem_cons_succ, List.setIfInBounds_toArray, List.set_cons_zero, List.set_cons_succ]
        have hs := m5.size
        replace hT := hT.mod m5 nob
        replace hM := hM.trans m5
        replace h8 := h8.mod m5 nob
        replace l8 : g8 < V2.heap.size := by omega
        clear m5 hs
        refine wpAnyH_ready (rs := [3]) (by kernel_rfl) (by simp) ?_
        refine AllReadyH.cons rfl (fun K hK => ?_) ?_
        ·
          try simp only [List.getElem_toArray, List.getElem_cons_zero, List.getElem_cons_succ]
          go_simp
          refine hK.out _ _ (by show CellsAt _ _ _ _; exact hT.alloc _) (fun _ => ?_)
          clear hK K
          try simp only [Act.put, List.getElem_toArray, List.getElem_cons_zero, List.getElem_cons_succ, List.setIfInBounds_toArray, List.set_cons_zero, List.set_cons_succ]
          have h7 := CellsAt.new V2 #[Value.int .u32 0, .int .u32 0, .int .u32 0, .int .u32 0, .int .u32 0, .int .u32 0, .int .u32 0, .int .u32 0] 277
          have hz := hM.size
          replace hT := hT.alloc (.cells #[Value.int .u32 0, .int .u32 0, .int .u32 0, .int .u32 0, .int .u32 0, .int .u32 0, .int .u32 0, .int .u32 0] 277)
          replace hM := hM.trans ((Mod.refl V2 Nob).alloc (.cells #[Value.int .u32 0, .int .u32 0, .int .u32 0, .int .u32 0, .int .u32 0, .int .u32 0, .int .u32 0, .int .u32 0] 277))
          replace h8 := h8.alloc (.cells #[Value.int .u32 0, .int .u32 0, .int .u32 0, .int .u32 0, .int .u32 0, .int .u32 0, .int .u32 0, .int .u32 0] 277)
          obtain ⟨V3, hV⟩ : ∃ V, V2.alloc (.cells #[Value.int .u32 0, .int .u32 0, .int .u32 0, .int .u32 0, .int .u32 0, .int .u32 0, .int .u32 0, .int .u32 0] 277) = V := ⟨_, rfl⟩
          have hs : V3.heap.size = V2.heap.size + 1 := by rw [← hV]; simp
          obtain ⟨g7, hg⟩ : ∃ g, V2.heap.size = g := ⟨_, rfl⟩
          rw [hV] at hT hM h7 h8 ⊢
          rw [hg] at h7 ⊢
          have l7 : g7 < V3.heap.size := by omega
          have n7 : W1.heap.size ≤ g7 := by omega
          have h78 : g7 ≠ g8 := by omega
          replace l8 : g8 < V3.heap.size := by omega
          clear hV hs hg hz
          refine wpAnyH_ready (rs := [5]) (by kernel_rfl) (by simp) ?_
          refine AllReadyH.cons rfl (fun K hK => ?_) ?_
          ·
            try simp only [List.getElem_toArray, List.getElem_cons_zero, List.getElem_cons_succ]
            rw [if_pos (by rfl)]
            refine wp_store_row 277 _ _ rfl g7 #[V32 s.a, V32 s.b, V32 s.c, V32 s.d, V32 s.e, V32 s.f, V32 s.g, V32 s.h] rfl rfl 277 _ h7 (by rw [size_a8]; rfl) rfl (by simp [Value.oneCell']) ?_
            have hT' := hT.other (g2 := g7) #[V32 s.a, V32 s.b, V32 s.c, V32 s.d, V32 s.e, V32 s.f, V32 s.g, V32 s.h] (fun e => by omega)
            refine hK.out _ _ (by show CellsAt _ _ _ _; exact hT') (fun _ => ?_)
            clear hK K
            try simp only [Act.put, List.getElem_toArray, List.getElem_cons_zero, List.getElem_cons_succ, List.setIfInBounds_toArray, List.set_cons_zero, List.set_cons_succ]
            have h7' := CellsAt.setRow h7 #[V32 s.a, V32 s.b, V32 s.c, V32 s.d, V32 s.e, V32 s.f, V32 s.g, V32 s.h]
            have h8' := CellsAt.other h8 (g2 := g7) #[V32 s.a, V32 s.b, V32 s.c, V32 s.d, V32 s.e, V32 s.f, V32 s.g, V32 s.h] h78.symm
            have hM' := hM.setRow (g := g7) (.inr n7) #[V32 s.a, V32 s.b, V32 s.c, V32 s.d, V32 s.e, V32 s.f, V32 s.g, V32 s.h]
            clear hT hM h7 h8
            have hT := hT'
            have hM := hM'
            have h7 := h7'
            have h8 := h8'
            clear hT' hM' h7' h8'
            obtain ⟨V4, hV⟩ : ∃ V, V3.setRow g7 #[V32 s.a, V32 s.b, V32 s.c, V32 s.d, V32 s.e, V32 s.f, V32 s.g, V32 s.h] = V := ⟨_, rfl⟩
            have hs : V4.heap.size = V3.heap.size := by rw [← hV]; simp
            rw [hV] at hT hM h7 h8 ⊢
            replace l7 : g7 < V4.heap.size := by omega
            replace l8 : g8 < V4.heap.size := by omega
            clear hV hs
            refine wpAnyH_ready (rs := [6]) (by kernel_rfl) (by simp) ?_
            refine AllReadyH.cons rfl (fun K hK => ?_) ?_
            ·
              try simp only [List.getElem_toArray, List.getElem_cons_zero, List.getElem_cons_succ]
              rw [if_pos (by rfl)]
              refine wp_store_row 275 _ _ rfl g8 (arr32 ws 64) rfl rfl 275 _ h8 (by rw [size_a64, hsz]) (by rw [hsz, arr32_size [] 64 (by simp)]) (arr32_one _ _) ?_
              have hT' := hT.other (g2 := g8) (arr32 ws 64) (fun e => by omega)
              refine hK.out _ _ (by show CellsAt _ _ _ _; exact hT') (fun _ => ?_)
              clear hK K
              try simp only [Act.put, List.getElem_toArray, List.getElem_cons_zero, List.getElem_cons_succ, List.setIfInBounds_toArray, List.set_cons_zero, List.set_cons_succ]
              have h8' := CellsAt.setRow h8 (arr32 ws 64)
              have h7' := CellsAt.other h7 (g2 := g8) (arr32 ws 64) h78
              have hM' := hM.setRow (g := g8) (.inr n8) (arr32 ws 64)
              clear hT hM h7 h8
              have hT := hT'
              have hM := hM'
              have h7 := h7'
              have h8 := h8'
              clear hT' hM' h7' h8'
              obtain ⟨V5, hV⟩ : ∃ V, V4.setRow g8 (arr32 ws 64) = V := ⟨_, rfl⟩
              have hs : V5.heap.size = V4.heap.size := by rw [← hV]; simp
              rw [hV] at hT hM h7 h8 ⊢
              replace l7 : g7 < V5.heap.size := by omega
              replace l8 : g8 < V5.heap.size := by omega
              clear hV hs
              refine wpAnyH_done (by kernel_rfl) ?_ _
              go_wp2_with fail
              go_meet
              exact ⟨g7, g8, rfl, rfl, h7, h8, h78, n7, n8, hM⟩
            exact AllReadyH.nil
          exact AllReadyH.nil
        exact AllReadyH.nil
      refine AllReadyH.cons rfl (fun K hK => ?_) ?_
      ·
        try simp only [List.getElem_toArray, List.getElem_cons_zero, List.getElem_cons_succ]
        go_simp
        refine hK.out _ _ (by show CellsAt _ _ _ _; exact hT.alloc _) (fun _ => ?_)
        clear hK K
        try simp only [Act.put, List.getElem_toArray, List.getElem_cons_zero, List.getElem_cons_succ, List.setIfInBounds_toArray, List.set_cons_zero, List.set_cons_succ]
        have h7 := CellsAt.new V1 #[Value.int .u32 0, .int .u32 0, .int .u32 0, .int .u32 0, .int .u32 0, .int .u32 0, .int .u32 0, .int .u32 0] 277
        have hz := hM.size
        replace hT := hT.alloc (.cells #[Value.int .u32 0, .int .u32 0, .int .u32 0, .int .u32 0, .int .u32 0, .int .u32 0, .int .u32 0, .int .u32 0] 277)
        replace hM := hM.trans ((Mod.refl V1 Nob).alloc (.cells #[Value.int .u32 0, .int .u32 0, .int .u32 0, .int .u32 0, .int .u32 0, .int .u32 0, .int .u32 0, .int .u32 0] 277))
        replace h8 := h8.alloc (.cells #[Value.int .u32 0, .int .u32 0, .int .u32 0, .int .u32 0, .int .u32 0, .int .u32 0, .int .u32 0, .int .u32 0] 277)
        obtain ⟨V2, hV⟩ : ∃ V, V1.alloc (.cells #[Value.int .u32 0, .int .u32 0, .int .u32 0, .int .u32 0, .int .u32 0, .int .u32 0, .int .u32 0, .int .u32 0] 277) = V := ⟨_, rfl⟩
        have hs : V2.heap.size = V1.heap.size + 1 := by rw [← hV]; simp
        obtain ⟨g7, hg⟩ : ∃ g, V1.heap.size = g := ⟨_, rfl⟩
        rw [hV] at hT hM h7 h8 ⊢
        rw [hg] at h7 ⊢
        have l7 : g7 < V2.heap.size := by omega
        have n7 : W1.heap.size ≤ g7 := by omega
        have h78 : g7 ≠ g8 := by omega
        replace l8 : g8 < V2.heap.size := by omega
        clear hV hs hg hz
        refine wpAnyH_ready (rs := [2]) (by kernel_rfl) (by simp) ?_
        refine AllReadyH.cons rfl (fun K hK => ?_) ?_
        ·
          try simp only [List.getElem_toArray, List.getElem_cons_zero, List.getElem_cons_succ]
          go_simp
          refine (hsched _ (hvl V2 hM)).mono ?_
          rintro e V3 ⟨rfl, m5⟩
          go_wp2_with fail
          refine hK.out _ _ (by show CellsAt _ _ _ _; exact hT.mod m5 nob) (fun _ => ?_)
          clear hK K
          try simp only [Act.put, List.getElem_toArray, List.getElem_cons_zero, List.getElem_cons_succ, List.setIfInBounds_toArray, List.set_cons_zero, List.set_cons_succ]
          have hs := m5.size
          replace hT := hT.mod m5 nob
          replace hM := hM.trans m5
          replace h7 := h7.mod m5 nob
          replace l7 : g7 < V3.heap.size := by omega
          replace h8 := h8.mod m5 nob
          replace l8 : g8 < V3.heap.size := by omega
          clear m5 hs
          refine wpAnyH_ready (rs := [5]) (by kernel_rfl) (by simp) ?_
          refine AllReadyH.cons rfl (fun K hK => ?_) ?_
          ·
            try simp only [List.getElem_toArray, List.getElem_cons_zero, List.getElem_cons_succ]
            rw [if_pos (by rfl)]
            refine wp_store_row 277 _ _ rfl g7 #[V32 s.a, V32 s.b, V32 s.c, V32 s.d, V32 s.e, V32 s.f, V32 s.g, V32 s.h] rfl rfl 277 _ h7 (by rw [size_a8]; rfl) rfl (by simp [Value.oneCell']) ?_
            have hT' := hT.other (g2 := g7) #[V32 s.a, V32 s.b, V32 s.c, V32 s.d, V32 s.e, V32 s.f, V32 s.g, V32 s.h] (fun e => by omega)
            refine hK.out _ _ (by show CellsAt _ _ _ _; exact hT') (fun _ => ?_)
            clear hK K
            try simp only [Act.put, List.getElem_toArray, List.getElem_cons_zero, List.getElem_cons_succ, List.setIfInBounds_toArray, List.set_cons_zero, List.set_cons_succ]
            have h7' := CellsAt.setRow h7 #[V32 s.a, V32 s.b, V32 s.c, V32 s.d, V32 s.e, V32 s.f, V32 s.g, V32 s.h]
            have h8' := CellsAt.other h8 (g2 := g7) #[V32 s.a, V32 s.b, V32 s.c, V32 s.d, V32 s.e, V32 s.f, V32 s.g, V32 s.h] h78.symm
            have hM' := hM.setRow (g := g7) (.inr n7) #[V32 s.a, V32 s.b, V32 s.c, V32 s.d, V32 s.e, V32 s.f, V32 s.g, V32 s.h]
            clear hT hM h7 h8
            have hT := hT'
            have hM := hM'
            have h7 := h7'
            have h8 := h8'
            clear hT' hM' h7' h8'
            obtain ⟨V4, hV⟩ : ∃ V, V3.setRow g7 #[V32 s.a, V32 s.b, V32 s.c, V32 s.d, V32 s.e, V32 s.f, V32 s.g, V32 s.h] = V := ⟨_, rfl⟩
            have hs : V4.heap.size = V3.heap.size := by rw [← hV]; simp
            rw [hV] at hT hM h7 h8 ⊢
            replace l7 : g7 < V4.heap.size := by omega
            replace l8 : g8 < V4.heap.size := by omega
            clear hV hs
            refine wpAnyH_ready (rs := [6]) (by kernel_rfl) (by simp) ?_
            refine AllReadyH.cons rfl (fun K hK => ?_) ?_
            ·
              try simp only [List.getElem_toArray, List.getElem_cons_zero, List.getElem_cons_succ]
              rw [if_pos (by rfl)]
              refine wp_store_row 275 _ _ rfl g8 (arr32 ws 64) rfl rfl 275 _ h8 (by rw [size_a64, hsz]) (by rw [hsz, arr32_size [] 64 (by simp)]) (arr32_one _ _) ?_
              have hT' := hT.other (g2 := g8) (arr32 ws 64) (fun e => by omega)
              refine hK.out _ _ (by show CellsAt _ _ _ _; exact hT') (fun _ => ?_)
              clear hK K
              try simp only [Act.put, List.getElem_toArray, List.getElem_cons_zero, List.getElem_cons_succ, List.setIfInBounds_toArray, List.set_cons_zero, List.set_cons_succ]
              have h8' := CellsAt.setRow h8 (arr32 ws 64)
              have h7' := CellsAt.other h7 (g2 := g8) (arr32 ws 64) h78
              have hM' := hM.setRow (g := g8) (.inr n8) (arr32 ws 64)
              clear hT hM h7 h8
              have hT := hT'
              have hM := hM'
              have h7 := h7'
              have h8 := h8'
              clear hT' hM' h7' h8'
              obtain ⟨V5, hV⟩ : ∃ V, V4.setRow g8 (arr32 ws 64) = V := ⟨_, rfl⟩
              have hs : V5.heap.size = V4.heap.size := by rw [← hV]; simp
              rw [hV] at hT hM h7 h8 ⊢
              replace l7 : g7 < V5.heap.size := by omega
              replace l8 : g8 < V5.heap.size := by omega
              clear hV hs
              refine wpAnyH_done (by kernel_rfl) ?_ _
              go_wp2_with fail
              go_meet
              exact ⟨g7, g8, rfl, rfl, h7, h8, h78, n7, n8, hM⟩
            exact AllReadyH.nil
          exact AllReadyH.nil
        exact AllReadyH.nil
      exact AllReadyH.nil
    exact AllReadyH.nil
  -- END ORDERS
  case rest =>
    obtain ⟨wo, rfl⟩ : ∃ wo : World, wo = wc := ⟨_, rfl⟩
    obtain ⟨ga, gw, rfl, rfl, cA, cW, hne, na, nw, hM⟩ := hcut
    have hmo := hm1.trans hM
    have cT := cT1.mod hM nob
    have cR2 := cR.mod hM nob
    have hka := hk.mod hmo nob
    have hwlt := hmo.size
    have hwlt1 := hm1.size
    have hkl := hk.lt
    clear cT1 cR hM hsched hvl hmG hm1
    go_wp2_with fail
    go_loopw [9, 10, 11, 12, 13, 18] (fun _ _ _ _ _ q wr => ∃ i : Nat, i ≤ 64 ∧ q = .int .i64 i ∧ CellsAt wr ga (s.rounds ks ws i).cells 277 ∧ Mod wo wr (· = ga)) (fun _ _ _ _ _ q _ => 64 - (intOf q).toNat)
    case atStart => exact ⟨0, by omega, rfl, cA, Mod.refl _ _⟩
    case round =>
      obtain ⟨i, hi, rfl, hc, hm⟩ := hrel
      by_cases hlt : i < 64
      · have hnext : s.rounds ks ws (i + 1) = (s.rounds ks ws i).round (ks.getD i 0) (ws.getD i 0) := rfl
        have kk := word_cell (hka.mod hm (fun e => by have e' : kb = ga := e; omega)) hks i hlt
        have kw := word_cell (cW.mod hm (fun e => hne e.symm)) hwl i hlt
        obtain ⟨⟨A, Bb, C, D, E, F, G, H⟩, hS⟩ : ∃ S, s.rounds ks ws i = S := ⟨_, rfl⟩
        rw [hS] at hnext hc
        obtain ⟨kx, hkx⟩ : ∃ x, ks.getD i 0 = x := ⟨_, rfl⟩
        obtain ⟨wx, hwx⟩ : ∃ x, ws.getD i 0 = x := ⟨_, rfl⟩
        rw [hkx] at kk hnext
        rw [hwx] at kw hnext
        have HN := Lib.hid hnext
        have c0 : wr.cell? ⟨ga, 0, none⟩ = some (V32 A) := (hc.cell 0).trans rfl
        have c1 : wr.cell? ⟨ga, 1, none⟩ = some (V32 Bb) := (hc.cell 1).trans rfl
        have c2 : wr.cell? ⟨ga, 2, none⟩ = some (V32 C) := (hc.cell 2).trans rfl
        have c3 : wr.cell? ⟨ga, 3, none⟩ = some (V32 D) := (hc.cell 3).trans rfl
        have c4 : wr.cell? ⟨ga, 4, none⟩ = some (V32 E) := (hc.cell 4).trans rfl
        have c5 : wr.cell? ⟨ga, 5, none⟩ = some (V32 F) := (hc.cell 5).trans rfl
        have c6 : wr.cell? ⟨ga, 6, none⟩ = some (V32 G) := (hc.cell 6).trans rfl
        have c7 : wr.cell? ⟨ga, 7, none⟩ = some (V32 H) := (hc.cell 7).trans rfl
        have fr := fun j => hc.free j
        have eX := n32_xor
        have eN := n32_and
        have eA := n32_add
        have eO := n32_all
        clear hnext hS hkx hwx hsc hsz hzn hs1 hwl hks h64 hv hka cW cA hk cT cR2
        have hii : (i : Int) < 64 := by omega
        go_wp2_with fail
        -- ROUND
        have q1 := rotated_r E 6 (by omega) (by omega) wr.drew
        have q2 := rotated_r E 11 (by omega) (by omega) wr.drew
        have q3 := rotated_r E 25 (by omega) (by omega) wr.drew
        refine wp_region_still_tail 11 (by kernel_rfl) (by kernel_rfl) ?_
        simp only [List.take_succ_cons, List.take_zero, List.drop_succ_cons, List.drop_zero]
        repeat still_step
        still_call q1
        repeat still_step
        still_call q2
        repeat still_step
        still_call q3
        repeat still_step
        refine wpStill_nil ?_
        change wpList _ _ _ _ _ wr.drew
        clear q1 q2 q3
        go_wp2_with fail
        obtain ⟨V1, hV⟩ : ∃ V, wr.drew = V := ⟨_, rfl⟩
        replace c0 : V1.cell? ⟨ga, 0, none⟩ = some (V32 A) := by rw [← hV]; exact c0
        replace c1 : V1.cell? ⟨ga, 1, none⟩ = some (V32 Bb) := by rw [← hV]; exact c1
        replace c2 : V1.cell? ⟨ga, 2, none⟩ = some (V32 C) := by rw [← hV]; exact c2
        replace c3 : V1.cell? ⟨ga, 3, none⟩ = some (V32 D) := by rw [← hV]; exact c3
        replace c4 : V1.cell? ⟨ga, 4, none⟩ = some (V32 E) := by rw [← hV]; exact c4
        replace c5 : V1.cell? ⟨ga, 5, none⟩ = some (V32 F) := by rw [← hV]; exact c5
        replace c6 : V1.cell? ⟨ga, 6, none⟩ = some (V32 G) := by rw [← hV]; exact c6
        replace c7 : V1.cell? ⟨ga, 7, none⟩ = some (V32 H) := by rw [← hV]; exact c7
        replace kk : V1.cell? ⟨kb, i, none⟩ = some (V32 kx) := by rw [← hV]; exact kk
        replace kw : V1.cell? ⟨gw, i, none⟩ = some (V32 wx) := by rw [← hV]; exact kw
        replace fr : ∀ j, V1.frozen? ⟨ga, j, none⟩ = false := by rw [← hV]; exact fr
        replace hc := hc.mod (Mod.refl wr Nob).drew nob
        replace hm := hm.drew
        rw [hV] at hc hm ⊢
        clear hV
        have q1 := rotated_r A 2 (by omega) (by omega) V1.drew
        have q2 := rotated_r A 13 (by omega) (by omega) V1.drew
        have q3 := rotated_r A 22 (by omega) (by omega) V1.drew
        refine wp_region_still_tail 11 (by kernel_rfl) (by kernel_rfl) ?_
        simp only [List.take_succ_cons, List.take_zero, List.drop_succ_cons, List.drop_zero]
        repeat still_step
        still_call q1
        repeat still_step
        still_call q2
        repeat still_step
        still_call q3
        repeat still_step
        refine wpStill_nil ?_
        change wpList _ _ _ _ _ V1.drew
        clear q1 q2 q3
        go_wp2_with fail
        obtain ⟨V2, hV⟩ : ∃ V, V1.drew = V := ⟨_, rfl⟩
        replace c0 : V2.cell? ⟨ga, 0, none⟩ = some (V32 A) := by rw [← hV]; exact c0
        replace c1 : V2.cell? ⟨ga, 1, none⟩ = some (V32 Bb) := by rw [← hV]; exact c1
        replace c2 : V2.cell? ⟨ga, 2, none⟩ = some (V32 C) := by rw [← hV]; exact c2
        replace c3 : V2.cell? ⟨ga, 3, none⟩ = some (V32 D) := by rw [← hV]; exact c3
        replace c4 : V2.cell? ⟨ga, 4, none⟩ = some (V32 E) := by rw [← hV]; exact c4
        replace c5 : V2.cell? ⟨ga, 5, none⟩ = some (V32 F) := by rw [← hV]; exact c5
        replace c6 : V2.cell? ⟨ga, 6, none⟩ = some (V32 G) := by rw [← hV]; exact c6
        replace c7 : V2.cell? ⟨ga, 7, none⟩ = some (V32 H) := by rw [← hV]; exact c7
        replace kk : V2.cell? ⟨kb, i, none⟩ = some (V32 kx) := by rw [← hV]; exact kk
        replace kw : V2.cell? ⟨gw, i, none⟩ = some (V32 wx) := by rw [← hV]; exact kw
        replace fr : ∀ j, V2.frozen? ⟨ga, j, none⟩ = false := by rw [← hV]; exact fr
        replace hc := hc.mod (Mod.refl V1 Nob).drew nob
        replace hm := hm.drew
        rw [hV] at hc hm ⊢
        clear hV
        refine wp_region_still_tail 27 (by kernel_rfl) (by kernel_rfl) ?_
        simp only [List.take_succ_cons, List.take_zero, List.drop_succ_cons, List.drop_zero]
        repeat still_step
        refine wpStill_nil ?_
        change wpList _ _ _ _ _ V2.drew
        go_wp2_with fail
        -- END ROUND
        obtain ⟨t, ht⟩ : ∃ t, t = H + (rotr32 E 6 ^^^ rotr32 E 11 ^^^ rotr32 E 25) + ((E &&& F) ^^^ ((4294967295 ^^^ E) &&& G)) + kx + wx := ⟨_, rfl⟩
        obtain ⟨u, hu⟩ : ∃ u, u = (rotr32 A 2 ^^^ rotr32 A 13 ^^^ rotr32 A 22) + ((A &&& Bb) ^^^ (A &&& C) ^^^ (Bb &&& C)) := ⟨_, rfl⟩
        have hrc := round_cells A Bb C D E F G H kx wx t u ht hu
        rw [← ht, ← hu]
        clear ht hu
        have hset := ((((((((hc.set 0 (V32 (t + u))).set 1 (V32 A)).set 2 (V32 Bb)).set 3 (V32 C)).set 4 (V32 (D + t))).set 5 (V32 E)).set 6 (V32 F)).set 7 (V32 G)).mod (Mod.refl _ Nob).drew nob
        have e8 := set8 (V32 A) (V32 Bb) (V32 C) (V32 D) (V32 E) (V32 F) (V32 G) (V32 H) (V32 (t + u)) (V32 A) (V32 Bb) (V32 C) (V32 (D + t)) (V32 E) (V32 F) (V32 G)
        unfold S8.cells at hset
        simp only at hset
        rw [e8] at hset
        refine ⟨⟨i + 1, by omega, by go_num, by rw [HN.out, hrc]; exact hset, ?_⟩, by simp [intOf]; omega⟩
        exact ((((((((hm.setCell (p := ⟨ga, 0, none⟩) (.inl rfl) _).setCell (p := ⟨ga, 1, none⟩) (.inl rfl) _).setCell (p := ⟨ga, 2, none⟩) (.inl rfl) _).setCell (p := ⟨ga, 3, none⟩) (.inl rfl) _).setCell (p := ⟨ga, 4, none⟩) (.inl rfl) _).setCell (p := ⟨ga, 5, none⟩) (.inl rfl) _).setCell (p := ⟨ga, 6, none⟩) (.inl rfl) _).setCell (p := ⟨ga, 7, none⟩) (.inl rfl) _).drew
      · obtain rfl : i = 64 := by omega
        have cTr := cT.mod hm (fun e => by have e' : w.heap.size = ga := e; omega)
        have cRr := cR2.mod hm (fun e => by have e' : w.heap.size + 1 = ga := e; omega)
        have mwr := hmo.drop hm (fun k (hk : k = ga) => .inr (by omega))
        obtain ⟨S2, hS2⟩ : ∃ S, s.rounds ks ws 64 = S := ⟨_, rfl⟩
        rw [hS2] at hc
        have HS2 := Lib.hid hS2
        clear hS2 hsc hsz hwl hks h64 hv hka cW cA hk cT cR2 hmo hm
        have hcs : CellsAt wr w.heap.size (s.plusTo S2 0).cells 277 := by rw [plus_start]; exact cTr
        have htb : w.heap.size < wr.heap.size := hcs.lt
        have hgt : w.heap.size + 1 < ga := by omega
        clear cTr
        rw [show ((64 : Nat) : Int) = 64 from rfl]
        go_wp2_with fail
        obtain ⟨wo2, hwo2⟩ : ∃ wo2 : World, wo2 = wr := ⟨_, rfl⟩
        rw [← hwo2]
        rw [← hwo2] at hc cRr mwr hcs
        clear hwo2
        go_loopw [14, 110] (fun _ q wr => ∃ i : Nat, i ≤ 8 ∧ q = .int .i64 i ∧ CellsAt wr w.heap.size (s.plusTo S2 i).cells 277 ∧ Mod wo2 wr (· = w.heap.size)) (fun _ q _ => 8 - (intOf q).toNat)
        case atStart => exact ⟨0, by omega, rfl, hcs, Mod.refl _ _⟩
        case round =>
          obtain ⟨i, hi, rfl, hcq, hmq⟩ := hrel
          by_cases hlt : i < 8
          · obtain ⟨x, y, hx, hy, hset⟩ := plus_step s S2 i hlt
            have k1 : wr.cell? ⟨w.heap.size, i, none⟩ = some (V32 x) := (hcq.cell i).trans hx
            have k2 : wr.cell? ⟨ga, i, none⟩ = some (V32 y) := ((hc.mod hmq (fun e => by have e' : ga = w.heap.size := e; omega)).cell i).trans hy
            have fr := hcq.free i
            have eA := n32_add
            have hii : (i : Int) < 8 := by omega
            have HSET := Lib.hid hset
            clear hx hy hset
            go_wp2_with fail
            refine wp_region_still_tail 8 (by kernel_rfl) (by kernel_rfl) ?_
            simp only [List.take_succ_cons, List.take_zero, List.drop_succ_cons, List.drop_zero]
            repeat still_step
            refine wpStill_nil ?_
            change wpList _ _ _ _ _ wr.drew
            go_wp2_with fail
            have hc2 := (hcq.set i (V32 (x + y))).mod (Mod.refl _ Nob).drew nob
            rw [HSET.out] at hc2
            exact ⟨⟨i + 1, by omega, by go_num, hc2, (hmq.setCell (p := ⟨w.heap.size, i, none⟩) (.inl rfl) _).drew⟩, by simp [intOf]; omega⟩
          · obtain rfl : i = 8 := by omega
            rw [plus_end, ← HS2.out, ← HWS.out] at hcq
            have hcR3 := cRr.mod hmq (fun e => by have e' : w.heap.size + 1 = w.heap.size := e; omega)
            have hfin : CellsAt wr w.heap.size (s.mix ks l).cells 277 := hcq
            have mfin := mwr.drop hmq (fun k (hk : k = w.heap.size) => .inr (by omega))
            clear hcq hc
            go_wp2_with (first
              | (refine wpList_load_arr rfl 277 _ rfl w.heap.size 8 220 rfl _ hfin Tryz.underlying277 size_a8 rfl ?_)
              | (refine wpList_store_arr rfl 277 _ _ rfl (w.heap.size + 1) 8 (s.mix ks l).cells zs rfl rfl hcR3 size_a8 rfl hzn (by simp [S8.cells, Value.oneCell']) ?_))
            exact bodyPost_ret (v := .agg (s.mix ks l).cells) (ret_arr rfl _ _ (w.heap.size + 1) 8 220 _ rfl (hcR3.setRow _) Tryz.underlying277 size_a8 rfl) rfl ⟨rfl, mfin.setRow (.inr (by omega)) _⟩

end Go.Proofs.YtakgnkjopbflbaaGreatDoor
