/- The words of a block of SHA-256: sha.schedule. No condition. -/
import Derived.StillTailTactics
import Derived.Test.YtakgnkjopbflbaaGreatDoorCf
import Derived.Test.YtakgnkjopbflbaaGreatDoorBd
namespace Go.Proofs.YtakgnkjopbflbaaGreatDoor
open Go.RowKit

/-- A word as a number. -/
def n32 (x : UInt32) : Int := (x.toNat : Int)
abbrev V32 (x : UInt32) : Value := .int .u32 (n32 x)
theorem n32_xor (a b : UInt32) : bits BinOp.xor IntKind.u32 (n32 a) (n32 b) = n32 (a ^^^ b) := xor_u32 a b
theorem n32_and (a b : UInt32) : bits BinOp.and IntKind.u32 (n32 a) (n32 b) = n32 (a &&& b) := and_u32 a b
theorem n32_or (a b : UInt32) : bits BinOp.or IntKind.u32 (n32 a) (n32 b) = n32 (a ||| b) := or_u32 a b
theorem n32_add (a b : UInt32) : IntKind.u32.wrap (n32 a + n32 b) = n32 (a + b) := add_u32 a b
/-- A word, shifted to the right. -/
def shr32 (x : UInt32) (k : Nat) : UInt32 := UInt32.ofNat (x.toNat / 2 ^ k)
theorem n32_shr (x : UInt32) (k : Nat) : n32 x / 2 ^ k = n32 (shr32 x k) := by
  have h : x.toNat / 2 ^ k < 2 ^ 32 := Nat.lt_of_le_of_lt (Nat.div_le_self _ _) x.toNat_lt
  unfold n32 shr32
  rw [UInt32.toNat_ofNat_of_lt' h]
  simp
theorem rotated32 (x : UInt32) (n : Int) (r : Nat) (h0 : 0 ≤ n) (h31 : n ≤ 31) (hr : bits BinOp.and IntKind.u64 (IntKind.u64.wrap (-n)) 31 = (r : Int)) (h32 : r < 32) (w : World) :
    Calls Tryz.prog 174 #[.int .u32 (n32 x), .int .i64 n] w fun e w' => e = .returned (.int .u32 (n32 (rot32 x r))) ∧ w' = w := rotated_any x n r h0 h31 hr h32 w

/-- A word of a block's bytes. -/
def word4 (l : List UInt8) (i : Nat) : UInt32 := UInt32.ofNat (beN ((l.drop (4 * i)).take 4))
def sig0 (p : UInt32) : UInt32 := rot32 p 25 ^^^ rot32 p 14 ^^^ shr32 p 3
def sig1 (q : UInt32) : UInt32 := rot32 q 15 ^^^ rot32 q 13 ^^^ shr32 q 10
/-- The words of a block's first rounds. -/
def sched (l : List UInt8) : Nat → List UInt32
  | 0 => []
  | i + 1 => sched l i ++ [if i < 16 then word4 l i else (sched l i).getD (i - 16) 0 + sig0 ((sched l i).getD (i - 15) 0) + (sched l i).getD (i - 7) 0 + sig1 ((sched l i).getD (i - 2) 0)]
theorem sched_length (l : List UInt8) : ∀ i, (sched l i).length = i
  | 0 => rfl
  | i + 1 => by simp [sched, sched_length l i]

/-- Words as the cells of an array: what there is, and zeros. -/
def arr32 (ws : List UInt32) (n : Nat) : Array Value := ((ws ++ List.replicate (n - ws.length) 0).map V32).toArray
theorem arr32_get (ws : List UInt32) (n i : Nat) (x : UInt32) (h : ws[i]? = some x) : (arr32 ws n)[i]? = some (V32 x) := by
  have hlt := (List.getElem?_eq_some_iff.1 h).1
  simp only [arr32, List.getElem?_toArray, List.getElem?_map, List.getElem?_append_left hlt, h]
  rfl
theorem arr32_set (ws : List UInt32) (n : Nat) (x : UInt32) (h : ws.length < n) : (arr32 ws n).setIfInBounds ws.length (V32 x) = arr32 (ws ++ [x]) n := by
  apply Array.toList_inj.1
  simp only [arr32, Array.toList_setIfInBounds]
  rw [List.map_append, List.map_append, List.set_append_right _ _ (by simp)]
  obtain ⟨m, hm⟩ : ∃ m, n - ws.length = m + 1 := ⟨n - ws.length - 1, by omega⟩
  have h2 : n - (ws ++ [x]).length = m := by simp; omega
  rw [hm, h2, List.replicate_succ]
  simp

theorem arr32_size (ws : List UInt32) (n : Nat) (h : ws.length ≤ n) : (arr32 ws n).size = n := by simp [arr32]; omega
theorem arr32_one (ws : List UInt32) (n : Nat) : (arr32 ws n).all (·.oneCell') = true := by simp [arr32, Value.oneCell']
theorem size_a64 : (Tryz.prog.info? 275).map (·.size) = some 64 := by kernel_rfl
theorem zeros64 : #[.int .u32 0, .int .u32 0, .int .u32 0, .int .u32 0, .int .u32 0, .int .u32 0, .int .u32 0, .int .u32 0, .int .u32 0, .int .u32 0, .int .u32 0, .int .u32 0, .int .u32 0, .int .u32 0, .int .u32 0, .int .u32 0, .int .u32 0, .int .u32 0, .int .u32 0, .int .u32 0, .int .u32 0, .int .u32 0, .int .u32 0, .int .u32 0, .int .u32 0, .int .u32 0, .int .u32 0, .int .u32 0, .int .u32 0, .int .u32 0, .int .u32 0, .int .u32 0, .int .u32 0, .int .u32 0, .int .u32 0, .int .u32 0, .int .u32 0, .int .u32 0, .int .u32 0, .int .u32 0, .int .u32 0, .int .u32 0, .int .u32 0, .int .u32 0, .int .u32 0, .int .u32 0, .int .u32 0, .int .u32 0, .int .u32 0, .int .u32 0, .int .u32 0, .int .u32 0, .int .u32 0, .int .u32 0, .int .u32 0, .int .u32 0, .int .u32 0, .int .u32 0, .int .u32 0, .int .u32 0, .int .u32 0, .int .u32 0, .int .u32 0, .int .u32 0] = arr32 [] 64 := by kernel_rfl

set_option maxRecDepth 100000 in
set_option maxHeartbeats 2000000 in
theorem schedule_any (v : Value) (l : List UInt8) (w : World) (hv : BytesAt w v l) (h64 : l.length = 64) :
    Calls Tryz.prog 173 #[v] w fun e w' => e = .returned (.agg (arr32 (sched l 64) 64)) ∧ Mod w w' Nob := by
  obtain ⟨a, c, rfl, hlc, hcm⟩ := hv.form
  rw [List.length_map, h64] at hlc hv ⊢
  unfold maxLen at hcm
  go_enter Tryz.func173, Tryz.ntmps173
  go_wp2_with fail
  rw [zeros64]
  have c0 := CellsAt.new w (arr32 [] 64) 275
  have m0 := (Mod.refl w Nob).alloc (.cells (arr32 [] 64) 275)
  obtain ⟨w1, hw1⟩ : ∃ w1, w.alloc (.cells (arr32 [] 64) 275) = w1 := ⟨_, rfl⟩
  rw [hw1] at c0 m0 ⊢
  clear hw1
  go_wp2_with fail
  go_step3
  go_wp2_with fail
  rw [zeros64]
  have c1 := CellsAt.new w1 (arr32 [] 64) 275
  have m1 := m0.trans ((Mod.refl w1 Nob).alloc (.cells (arr32 [] 64) 275))
  have c0' := c0.alloc (.cells (arr32 [] 64) 275)
  have hw01 : w.heap.size < w1.heap.size := c0.lt
  obtain ⟨g, hg⟩ : ∃ g, w1.heap.size = g := ⟨_, rfl⟩
  obtain ⟨w2, hw2⟩ : ∃ w2, w1.alloc (.cells (arr32 [] 64) 275) = w2 := ⟨_, rfl⟩
  rw [hw2, hg] at c1
  rw [hw2] at m1 c0' ⊢
  rw [hg] at hw01 ⊢
  clear hw2 hg c0 m0
  go_step3
  go_wp2_with fail
  go_loopw [4, 5, 6, 7] (fun _ _ _ s wr => ∃ i : Nat, i ≤ 64 ∧ s = .int .i64 i ∧ CellsAt wr g (arr32 (sched l i) 64) 275 ∧ Mod w2 wr (· = g) ∧ Mod w wr Nob) (fun _ _ _ s _ => 64 - (intOf s).toNat)
  case atStart => exact ⟨0, by omega, rfl, c1, Mod.refl _ _, m1⟩
  case round =>
    obtain ⟨i, hi, rfl, hc, hm, hmw⟩ := hrel
    have hfr := hc.free i
    have hlw := sched_length l i
    have hold0 : i < 64 → ∃ u, wr.cell? ⟨g, i, none⟩ = some u := fun hlt => ⟨_, (hc.cell i).trans (Array.getElem?_eq_getElem (by rw [arr32_size _ _ (by omega)]; exact hlt))⟩
    by_cases h16 : i < 16
    · obtain ⟨old, hold⟩ := hold0 (by omega)
      clear hold0
      obtain ⟨P, hP⟩ : ∃ P, 4 * i = P := ⟨_, rfl⟩
      have hP64 : P + 4 ≤ 64 := by omega
      have hPi : (4 : Int) * (i : Int) = (P : Int) := by omega
      have hvr := hv.mod hmw (fun _ _ => nob)
      obtain ⟨a', c', hrun, hb⟩ := slice_from hvr h64 P (by omega)
      have hhigh := high_any _ _ 4 wr hb (by rw [List.length_drop, h64]; omega) (by omega)
      obtain ⟨q, hq⟩ : ∃ q, beN ((l.drop P).take 4) = q := ⟨_, rfl⟩
      rw [hq] at hhigh
      have hx : word4 l i = UInt32.ofNat q := by unfold word4; rw [hP, hq]
      have hq32 : q < 4294967296 := by
        rw [← hq]
        have h1 := beN_lt ((l.drop P).take 4)
        have h2 : ((l.drop P).take 4).length = 4 := by rw [List.length_take, List.length_drop, h64]; omega
        rw [h2] at h1
        exact h1
      obtain ⟨x, hxx⟩ : ∃ x, word4 l i = x := ⟨_, rfl⟩
      have hqx : (q : Int) % 4294967296 = n32 x := by
        rw [← hxx, hx]
        unfold n32
        simp
      have hqx2 : (q : Int) = n32 x := by omega
      have hnext : arr32 (sched l (i + 1)) 64 = (arr32 (sched l i) 64).setIfInBounds i (V32 x) := by
        have h1 := arr32_set (sched l i) 64 x (by omega)
        rw [hlw] at h1
        rw [h1, sched, if_pos h16, hxx]
      have HN := Lib.hid hnext
      clear hnext hxx hx hq hb hvr hP hlw hv hqx
      have HQ := Lib.hid hqx2
      clear hqx2
      go_wp2_with fail
      refine hhigh.mono ?_
      rintro e wz ⟨rfl, rfl⟩
      have hqx2 := HQ.out
      clear HQ hhigh
      go_wp2_with fail
      have hc2 := hc.set i (V32 x)
      rw [← HN.out] at hc2
      exact ⟨⟨i + 1, by omega, by go_num, hc2, hm.setCell (p := ⟨g, i, none⟩) (.inl rfl) _, hmw.setCell (p := ⟨g, i, none⟩) (.inr (Nat.le_of_lt hw01)) _⟩, by simp [intOf]; omega⟩
    · by_cases hlt : i < 64
      · obtain ⟨old, hold⟩ := hold0 (by omega)
        clear hold0
        obtain ⟨ws, hws⟩ : ∃ ws, sched l i = ws := ⟨_, rfl⟩
        have hget : ∀ j, j < i → ∃ y, ws.getD j 0 = y ∧ wr.cell? ⟨g, j, none⟩ = some (V32 y) := fun j hj => by
          refine ⟨_, rfl, ?_⟩
          rw [hc.cell j, hws]
          refine arr32_get ws 64 j _ ?_
          rw [List.getD_eq_getElem?_getD, List.getElem?_eq_getElem (by rw [← hws, hlw]; exact hj)]
          rfl
        obtain ⟨y16, d16, k16⟩ := hget (i - 16) (by omega)
        obtain ⟨y15, d15, k15⟩ := hget (i - 15) (by omega)
        obtain ⟨y7, d7, k7⟩ := hget (i - 7) (by omega)
        obtain ⟨y2, d2, k2⟩ := hget (i - 2) (by omega)
        have hnext : arr32 (sched l (i + 1)) 64 = (arr32 (sched l i) 64).setIfInBounds i (V32 (y16 + sig0 y15 + y7 + sig1 y2)) := by
          have h1 := arr32_set (sched l i) 64 (y16 + sig0 y15 + y7 + sig1 y2) (by omega)
          rw [hlw] at h1
          rw [h1, sched, if_neg h16, hws, d16, d15, d7, d2]
        have HN := Lib.hid hnext
        have w16 : IntKind.i64.wrap ((i : Int) - 16) = (i : Int) - 16 := IntWalk.i64_in _ (by omega)
        have w15 : IntKind.i64.wrap ((i : Int) - 15) = (i : Int) - 15 := IntWalk.i64_in _ (by omega)
        have w7 : IntKind.i64.wrap ((i : Int) - 7) = (i : Int) - 7 := IntWalk.i64_in _ (by omega)
        have w2' : IntKind.i64.wrap ((i : Int) - 2) = (i : Int) - 2 := IntWalk.i64_in _ (by omega)
        have t16 : ((i : Int) - 16).toNat = i - 16 := by omega
        have t15 : ((i : Int) - 15).toNat = i - 15 := by omega
        have t7 : ((i : Int) - 7).toNat = i - 7 := by omega
        have t2 : ((i : Int) - 2).toNat = i - 2 := by omega
        have hge : 16 ≤ i := by omega
        clear hnext d16 d15 d7 d2 hget hws hlw hv
        go_wp2_with fail
        go_quiet (fail)
        go_wp2_with fail
        have hcW := hc.mod ((Mod.refl wr Nob).drewN nq) nob
        have hmW := hm.drewN nq
        have hmwW := hmw.drewN nq
        have k16W : (wr.drewN nq).cell? ⟨g, i - 16, none⟩ = some (V32 y16) := k16
        have k7W : (wr.drewN nq).cell? ⟨g, i - 7, none⟩ = some (V32 y7) := k7
        have holdW : (wr.drewN nq).cell? ⟨g, i, none⟩ = some old := hold
        have hfrW : (wr.drewN nq).frozen? ⟨g, i, none⟩ = false := hfr
        obtain ⟨W, hW⟩ : ∃ W, wr.drewN nq = W := ⟨_, rfl⟩
        rw [hW] at hcW hmW hmwW k16W k7W holdW hfrW ⊢
        clear hW hc hm hmw k16 k15 k7 k2 hold hfr
        have l16 : (i : Int) - 16 < 64 := by omega
        have l7 : (i : Int) - 7 < 64 := by omega
        have q1 := rotated32 y15 7 25 (by omega) (by omega) (by decide) (by omega) W.drew
        have q2 := rotated32 y15 18 14 (by omega) (by omega) (by decide) (by omega) W.drew
        have q3 := rotated32 y2 17 15 (by omega) (by omega) (by decide) (by omega) W.drew
        have q4 := rotated32 y2 19 13 (by omega) (by omega) (by decide) (by omega) W.drew
        have s3 : n32 y15 / 8 = n32 (shr32 y15 3) := n32_shr y15 3
        have s10 : n32 y2 / 1024 = n32 (shr32 y2 10) := n32_shr y2 10
        have g7 : (7 : Int) ≤ i := by omega
        have g16 : (16 : Int) ≤ i := by omega
        have gi : (i : Int) < 64 := by omega
        have eX := n32_xor
        have eA := n32_add
        refine wp_region_still_tail 29 (by kernel_rfl) (by kernel_rfl) ?_
        simp only [List.take_succ_cons, List.take_zero, List.drop_succ_cons, List.drop_zero]
        repeat still_step
        still_call q1
        repeat still_step
        still_call q2
        repeat still_step
        still_call q3
        repeat still_step
        still_call q4
        repeat still_step
        refine wpStill_nil ?_
        change wpList _ _ _ _ _ W.drew
        clear q1 q2 q3 q4 s3 s10 eX eA
        go_wp2_with fail
        have hc2 := (hcW.set i (V32 (y16 + sig0 y15 + y7 + sig1 y2)))
        rw [← HN.out] at hc2
        have hm2 := (hmW.setCell (p := ⟨g, i, none⟩) (.inl rfl) (V32 (y16 + sig0 y15 + y7 + sig1 y2))).drew
        have hm3 := (hmwW.setCell (p := ⟨g, i, none⟩) (.inr (Nat.le_of_lt hw01)) (V32 (y16 + sig0 y15 + y7 + sig1 y2))).drew
        exact ⟨⟨i + 1, by omega, by go_num, hc2.mod ((Mod.refl _ Nob).drew) nob, hm2, hm3⟩, by simp [intOf]; omega⟩
      · obtain rfl : i = 64 := by omega
        have hcr := c0'.mod hm (fun e => by have e' : w.heap.size = g := e; omega)
        have hsz := arr32_size (sched l 64) 64 (by omega)
        have hszr := arr32_size [] 64 (by simp)
        clear hold0 hfr hlw hv
        go_wp2_with (first
          | (refine wpList_load_arr rfl 275 _ rfl g 64 220 rfl _ hc Tryz.underlying275 size_a64 hsz ?_)
          | (refine wpList_store_arr rfl 275 _ _ rfl w.heap.size 64 (arr32 (sched l 64) 64) (arr32 [] 64) rfl rfl hcr size_a64 hsz hszr (arr32_one _ _) ?_))
        rw [Exit.noGoto_ret]
        refine bodyPost_ret (v := .agg (arr32 (sched l 64) 64)) (ret_arr rfl _ _ w.heap.size 64 220 _ rfl (hcr.setRow _) Tryz.underlying275 size_a64 hsz) rfl ⟨rfl, hmw.setRow (.inr (Nat.le_refl _)) _⟩

end Go.Proofs.YtakgnkjopbflbaaGreatDoor
