/- What is expanded, piece by piece: hkdf.pieces. The condition: the key has 32 bytes, the words beside it fewer than 2^36. -/
import Derived.Sort.CutIn
import Derived.Test.YtakgnkjopbflbaaGreatDoorCp
namespace Go.Proofs.YtakgnkjopbflbaaGreatDoor
open Go.RowKit Go.Shelf
attribute [local go_sem] Oper.semAt_some

/-- The piece of a number: the first has the number 0. -/
def expandP (key info : List UInt8) : Nat → List UInt8
  | 0 => macL key (info ++ [1])
  | i + 1 => macL key (expandP key info i ++ (info ++ [UInt8.ofNat (i + 2)]))
theorem expandP_length (key info : List UInt8) (i : Nat) : (expandP key info i).length = 32 := by cases i <;> exact macL_length _ _
/-- What stands ahead of a piece. -/
def lastP (key info : List UInt8) : Nat → List UInt8
  | 0 => []
  | i + 1 => expandP key info i
theorem expandP_last (key info : List UInt8) (i : Nat) : expandP key info i = macL key (lastP key info i ++ (info ++ [UInt8.ofNat (i + 1)])) := by cases i <;> rfl

set_option maxRecDepth 100000 in
set_option maxHeartbeats 1000000 in
theorem pieces_any (cs : Array Value) (a : Option Addr) (n c : Nat) (w : World) :
    Calls Tryz.prog 130 #[.agg cs, .slice a n c] w fun e w' => e = .returned (.func (.func 145) #[] #[.pointer (some ⟨w.heap.size, 0, none⟩), .pointer (some ⟨w.heap.size + 1, 0, none⟩)]) ∧
      w' = (w.alloc (.cells cs 22)).alloc (.cells #[.slice a n c] 43) := by
  go_enter Tryz.func130, Tryz.ntmps130
  go_wp2_with fail
  go_ret
  exact ⟨rfl, rfl⟩

/-- What a round yields: an array that it has made. -/
def PieceIs (key info : List UInt8) (w : World) (pre : List Sc) (x : Sc) (W : World) : Prop := ∃ S, x = (some ⟨S, 0, none⟩, 32, 32) ∧ w.heap.size ≤ S ∧ CellsAt W S (arrB (expandP key info pre.length)) 22

/-- All that lies in cells stays, but for some blocks. -/
structure KX (S : Nat → Prop) (A B : World) : Prop where
  size : A.heap.size ≤ B.heap.size
  same : ∀ (k : Nat) (o : Obj), A.heap[k]? = some o → o.isCells = true → ¬ S k → B.heap[k]? = some o
theorem KX.trans {S : Nat → Prop} {A B C : World} (h : KX S A B) (k : KX S B C) : KX S A C := ⟨Nat.le_trans h.size k.size, fun j o h1 h2 h3 => k.same j o (h.same j o h1 h2 h3) h2 h3⟩
theorem KX.put {S : Nat → Prop} (W : World) (l : Nat) (o o' : Obj) (ho : W.heap[l]? = some o) (hc : o.isCells = false) : KX S W (W.putObj l o') :=
  ⟨by simp, fun k o1 h1 h2 _ => by
    rw [World.putObj_heap_other (fun e => by subst e; rw [ho] at h1; cases h1; rw [hc] at h2; cases h2)]
    exact h1⟩
theorem KX.of_mod {S T : Nat → Prop} {A B : World} (h : Mod A B T) (hT : ∀ k, T k → S k) : KX S A B := ⟨h.size, fun _ _ h1 _ h3 => h.keep h1 (fun ht => h3 (hT _ ht))⟩
theorem KX.cells {S : Nat → Prop} {A B : World} (h : KX S A B) {b : Nat} {cs : Array Value} {t : TypeId} (c : CellsAt A b cs t) (hb : ¬ S b) : CellsAt B b cs t := h.same b _ c rfl hb
theorem cell_cells {w : World} {b o : Nat} {v : Value} (h : w.cell? ⟨b, o, none⟩ = some v) : ∃ ob : Obj, w.heap[b]? = some ob ∧ ob.isCells = true := by
  unfold World.cell? at h
  split at h
  · rename_i hb; exact ⟨_, hb, rfl⟩
  · cases h
theorem KX.row {S : Nat → Prop} {A B : World} (h : KX S A B) {v : Value} {xs : List Value} (r : RowIn A v xs) (hv : ∀ k, inBlock v k → ¬ S k) : RowIn B v xs := by
  rcases r with (r | ⟨b, o, cap, rfl, h1, h2, h3, h4⟩) | r
  · exact .inl (.inl r)
  · refine .inl (.inr ⟨b, o, cap, rfl, Nat.lt_of_lt_of_le h1 h.size, h2, h3, fun i x hx => ?_⟩)
    have h5 := h4 i x hx
    obtain ⟨ob, h6, h7⟩ := cell_cells h5
    have h8 := h.same b ob h6 h7 (hv b rfl)
    rw [← h5]
    simp [World.cell?, h6, h8]
  · exact .inr r

theorem grown_of_mod {A B : World} (h : Mod A B Nob) : A.grownBy B none := ⟨h.os, h.tape, h.output, h.size, fun k hk _ => h.block k hk nob⟩
/-- Three rows of bytes. -/
theorem rows_three {w : World} {b : Nat} {v1 v2 v3 : Value} {l1 l2 l3 : List UInt8} (h1 : BytesAt w v1 l1) (h2 : BytesAt w v2 l2) (h3 : BytesAt w v3 l3) (hc : CellsAt w b #[v1, v2, v3] 43) : RowsAt w (.slice (some ⟨b, 0, none⟩) 3 3) [l1, l2, l3] := by
  refine ⟨[v1, v2, v3], .inr ⟨b, 0, 3, rfl, hc.lt, Nat.le_refl _, by unfold maxLen; omega, fun i u hi => ?_⟩, rfl, fun i u l' hu hl => ?_⟩
  · rw [Nat.zero_add, hc.cell i]
    simpa using hi
  · match i, hu, hl with
    | 0, hu, hl => cases hu; cases hl; exact h1
    | 1, hu, hl => cases hu; cases hl; exact h2
    | 2, hu, hl => cases hu; cases hl; exact h3
    | (i + 3), hu, hl => cases hu
/-- A block of bytes, as a slice. -/
theorem bytes_block {w : World} {g n : Nat} {l : List UInt8} {t : TypeId} (h : CellsAt w g (arrB l) t) (hn : l.length = n) (hm : n ≤ 1099511627776) : BytesAt w (.slice (some ⟨g, 0, none⟩) n n) l := by
  refine .inl (.inr ⟨g, 0, n, by rw [List.length_map, hn], h.lt, by rw [List.length_map, hn]; exact Nat.le_refl _, by unfold maxLen; omega, fun i u hi => ?_⟩)
  rw [Nat.zero_add, h.cell i]
  simpa [arrB] using hi

set_option maxRecDepth 100000 in
set_option maxHeartbeats 4000000 in
theorem pieces_in (n : Nat) (hn : 1 ≤ n) (l Bs : Nat) (key info : List UInt8) (ia : Option Addr) (ic : Nat) (S : Nat → Prop) (hk : key.length = 32) (hi : info.length ≤ 68719476736) (w0 : World) (J Jx : List Sc → World → Prop) (W : World) (hw0 : w0.heap.size ≤ W.heap.size) (hJa : AbidesFrom W.heap.size J)
    (hS1 : ¬ S Bs) (hS2 : ¬ S (Bs + 1)) (hS3 : ∀ k, inBlock (.slice ia info.length ic) k → ¬ S k) (hS4 : ∀ k, S k → k < w0.heap.size)
    (hY : ∀ pre x W, J pre W → PieceIs key info w0 pre x W → pre.length < 255 → YieldAt Fence.wide (n - 1) Tryz.prog l #[scv x] W fun e W' => (e = .returned (.bool true) ∧ J (pre ++ [x]) W' ∧ KX S W W') ∨ (e = .returned (.bool false) ∧ Jx (pre ++ [x]) W'))
    (h1 : CellsAt W Bs (arrB key) 22) (h2 : CellsAt W (Bs + 1) #[.slice ia info.length ic] 43) (h3 : BytesAt W (.slice ia info.length ic) info) (h0 : J [] W) :
    CallsIn Fence.wide n Tryz.prog 145 #[.func (.yield l) #[] #[], .pointer (some ⟨Bs, 0, none⟩), .pointer (some ⟨Bs + 1, 0, none⟩)] W fun e W' => (∃ v, e = .returned v) ∧ ((∃ xs : List Sc, xs.length = 255 ∧ J xs W') ∨ ∃ pre, Jx pre W') := by
  refine callsIn_of_wp Tryz.func145 rfl trivial ?_ rfl
  simp only [Tryz.ntmps145, List.size_toArray, List.length_cons, List.length_nil, Nat.reduceAdd, Nat.reduceSub, Array.replicate_succ, Array.replicate_zero, List.push_toArray, List.append_toArray, List.nil_append, List.cons_append]
  obtain ⟨inn, hin⟩ : ∃ inn, info.length = inn := ⟨_, rfl⟩
  rw [hin] at h2 h3 hS3 hi
  have HIN := Lib.hid hin
  clear hin
  gi_wp2
  gi_loopw [4, 7] (fun last i wr => ∃ j : Nat, j ≤ 255 ∧ i = .int .i64 j ∧ ∃ xs : List Sc, xs.length = j ∧ J xs wr ∧ W.heap.size ≤ wr.heap.size ∧ CellsAt wr Bs (arrB key) 22 ∧ CellsAt wr (Bs + 1) #[.slice ia inn ic] 43 ∧ BytesAt wr (.slice ia inn ic) info ∧
      ∃ la ln lc, last = .slice la ln lc ∧ BytesAt wr (.slice la ln lc) (lastP key info j) ∧ ∀ k, inBlock (.slice la ln lc) k → w0.heap.size ≤ k)
    (fun _ i _ => 255 - (intOf i).toNat)
  case atStart => exact ⟨0, Nat.zero_le _, rfl, [], rfl, h0, Nat.le_refl _, h1, h2, h3, none, 0, 0, rfl, BytesAt.nil _, fun k hk => by simp [inBlock, Value.ownBlock] at hk⟩
  case round =>
    clear h0 h1 h2 h3
    obtain ⟨j, hj, rfl, xs, hxl, hJs, hsz, h1, h2, h3, la, ln, lc, rfl, hlast, hfar⟩ := hrel
    by_cases hlt : j < 255
    · have hout := expandP_last key info j
      obtain ⟨out, ho⟩ : ∃ out, expandP key info j = out := ⟨_, rfl⟩
      rw [ho] at hout
      have hol : out.length = 32 := by rw [← ho]; exact expandP_length _ _ _
      have HO := Lib.hid ho
      have hll : (lastP key info j).length ≤ 32 := by cases j with | zero => exact Nat.zero_le _ | succ i => exact Nat.le_of_eq (expandP_length _ _ _)
      obtain ⟨lp, hlp⟩ : ∃ lp, lastP key info j = lp := ⟨_, rfl⟩
      rw [hlp] at hlast hout hll
      have hmac : ∀ (V : World) (g6 g7 : Nat), Mod wr V Nob → CellsAt V g6 #[B (UInt8.ofNat (j + 1))] 5 → CellsAt V g7 #[.slice la ln lc, .slice ia inn ic, .slice (some ⟨g6, 0, none⟩) 1 1] 43 →
          Calls Tryz.prog 131 #[.slice (some ⟨Bs, 0, none⟩) 32 32, .slice (some ⟨g7, 0, none⟩) 3 3] V fun e w' => e = .returned (.agg (arrB out)) ∧ Mod V w' Nob := fun V g6 g7 hM c6 c7 => by
        have hb := bytes_block (h1.mod hM nob) hk (by omega)
        have hb6 : BytesAt V (.slice (some ⟨g6, 0, none⟩) 1 1) [UInt8.ofNat (j + 1)] := bytes_block (l := [UInt8.ofNat (j + 1)]) c6 rfl (by omega)
        have hr := rows_three (hlast.mod hM (fun _ _ => nob)) (h3.mod hM (fun _ _ => nob)) hb6 c7
        have := mac_any _ _ key [lp, info, [UInt8.ofNat (j + 1)]] V hb (by omega) hr (by simp [total, HIN.out]; omega) (by simp) (by simp)
        have e : [lp, info, [UInt8.ofNat (j + 1)]].flatten = lp ++ (info ++ [UInt8.ofNat (j + 1)]) := by simp
        rw [e, ← hout] at this
        exact this
      have HOUT := Lib.hid hout
      clear hout
      have hconv : IntKind.u8.wrap ((j : Int) + 1) = ((UInt8.ofNat (j + 1)).toNat : Int) := by
        have := byte_of (j + 1) 0
        simpa using this
      have hBl := h2.lt
      have hadd : IntKind.i64.wrap ((j : Int) + 1) = (j : Int) + 1 := IntWalk.i64_in _ (by omega)
      gi_wp2
      gi_cut [6] from 8 (fun t6 wx => ∃ g9, t6 = .pointer (some ⟨g9, 0, none⟩) ∧ wr.heap.size ≤ g9 ∧ CellsAt wx g9 (arrB out) 22 ∧ Mod wr wx Nob)
      case first =>
        refine wpIn_wide.2 ?_
        refine wp_no_panic ?_
        refine wp_region_held_drew (S := fun W => CellsAt W (Bs + 1) #[.slice ia inn ic] 43) (by kernel_rfl) (h2.mod (Mod.refl wr Nob).drew nob) (fun hHeld => ?_)
        refine wpAnyH_take (i := 0) (v := .slice (some ⟨Bs, 0, none⟩) 32 32) rfl (by kernel_rfl) (by kernel_rfl) (by kernel_rfl) (fun _ _ _ h => h) (Or.inl ⟨by rfl, fun W _ => by go_simp⟩) hHeld ?_
        try simp only [Act.put, List.getElem_toArray, List.getElem_cons_zero, List.setIfInBounds_toArray, List.set_cons_zero, List.set_cons_succ]
        refine wpAnyH_take (i := 1) (v := .slice la ln lc) rfl (by kernel_rfl) (by kernel_rfl) (by kernel_rfl) (fun _ _ _ h => h) (Or.inl ⟨by rfl, fun W _ => by go_simp⟩) hHeld ?_
        try simp only [Act.put, List.getElem_toArray, List.getElem_cons_zero, List.getElem_cons_succ, List.setIfInBounds_toArray, List.set_cons_zero, List.set_cons_succ]
        refine wpAnyH_take (i := 2) (v := .slice ia inn ic) rfl (by kernel_rfl) (by kernel_rfl) (by kernel_rfl) (fun _ _ _ h => h) (Or.inl ⟨by rfl, fun W hSw => by have hq := CellsAt.cell hSw 0; simp at hq; go_simp⟩) hHeld ?_
        try simp only [Act.put, List.getElem_toArray, List.getElem_cons_zero, List.getElem_cons_succ, List.setIfInBounds_toArray, List.set_cons_zero, List.set_cons_succ]
        refine wpAnyH_take (i := 3) (v := .int .i64 j) rfl (by kernel_rfl) (by kernel_rfl) (by kernel_rfl) (fun _ _ _ h => h) (Or.inl ⟨by rfl, fun W _ => by go_simp⟩) hHeld ?_
        try simp only [Act.put, List.getElem_toArray, List.getElem_cons_zero, List.getElem_cons_succ, List.setIfInBounds_toArray, List.set_cons_zero, List.set_cons_succ]
        refine wpAnyH_take (i := 4) (v := .int .i64 ((j : Int) + 1)) rfl (by kernel_rfl) (by kernel_rfl) (by kernel_rfl) (fun _ _ _ h => h) (Or.inl ⟨by rfl, fun W _ => by go_simp⟩) hHeld ?_
        try simp only [Act.put, List.getElem_toArray, List.getElem_cons_zero, List.getElem_cons_succ, List.setIfInBounds_toArray, List.set_cons_zero, List.set_cons_succ]
        refine wpAnyH_take (i := 5) (v := .int .u8 ((UInt8.ofNat (j + 1)).toNat : Int)) rfl (by kernel_rfl) (by kernel_rfl) (by kernel_rfl) (fun _ _ _ h => h) (Or.inl ⟨by rfl, fun W _ => by go_simp⟩) hHeld ?_
        try simp only [Act.put, List.getElem_toArray, List.getElem_cons_zero, List.getElem_cons_succ, List.setIfInBounds_toArray, List.set_cons_zero, List.set_cons_succ]
        have hT := h2.mod (Mod.refl wr Nob).drew nob
        have hM := (Mod.refl wr Nob).drew
        obtain ⟨V0, hV⟩ : ∃ V, wr.drew = V := ⟨_, rfl⟩
        change wpAnyH _ _ _ _ _ _ _ _ wr.drew
        rw [hV] at hT hM ⊢
        clear hV hHeld
  -- ORDERS
        refine wpAnyH_ready (rs := [6, 9]) (by kernel_rfl) (by simp) ?_
        refine AllReadyH.cons rfl (fun K hK => ?_) ?_
        ·
          go_simp
          have hA := (Mod.refl V0 Nob).alloc (.cells #[B (UInt8.ofNat (j + 1))] 5)
          have c6 := CellsAt.new V0 #[B (UInt8.ofNat (j + 1))] 5
          have hz : (V0.alloc (.cells #[B (UInt8.ofNat (j + 1))] 5)).heap.size = V0.heap.size + 1 := by simp
          refine hK.out _ _ (by show CellsAt _ _ _ _; exact hT.mod hA nob) (fun _ => ?_)
          clear hK K
          try simp only [Act.put, List.getElem_toArray, List.getElem_cons_zero, List.getElem_cons_succ, List.setIfInBounds_toArray, List.set_cons_zero, List.set_cons_succ]
          have hs0 := hM.size
          replace hT := hT.mod hA nob
          replace hM := hM.trans hA
          obtain ⟨V1, hV⟩ : ∃ V, V0.alloc (.cells #[B (UInt8.ofNat (j + 1))] 5) = V := ⟨_, rfl⟩
          obtain ⟨g6, hg⟩ : ∃ g, V0.heap.size = g := ⟨_, rfl⟩
          change wpAnyH _ _ _ _ _ _ _ _ (V0.alloc (.cells #[B (UInt8.ofNat (j + 1))] 5))
          rw [hV] at hT hM hz c6 ⊢
          rw [hg] at hz hs0 c6 ⊢
          have n6 : wr.heap.size ≤ g6 := hs0
          clear hV hA hg hz hs0
          refine wpAnyH_ready (rs := [7, 9]) (by kernel_rfl) (by simp) ?_
          refine AllReadyH.cons rfl (fun K hK => ?_) ?_
          ·
            go_simp
            have hA := (Mod.refl V1 Nob).alloc (.cells #[.slice la ln lc, .slice ia inn ic, .slice (some ⟨g6, 0, none⟩) 1 1] 43)
            have c7 := CellsAt.new V1 #[.slice la ln lc, .slice ia inn ic, .slice (some ⟨g6, 0, none⟩) 1 1] 43
            have hz : (V1.alloc (.cells #[.slice la ln lc, .slice ia inn ic, .slice (some ⟨g6, 0, none⟩) 1 1] 43)).heap.size = V1.heap.size + 1 := by simp
            refine hK.out _ _ (by show CellsAt _ _ _ _; exact hT.mod hA nob) (fun _ => ?_)
            clear hK K
            try simp only [Act.put, List.getElem_toArray, List.getElem_cons_zero, List.getElem_cons_succ, List.setIfInBounds_toArray, List.set_cons_zero, List.set_cons_succ]
            have hs0 := hM.size
            replace hT := hT.mod hA nob
            replace hM := hM.trans hA
            replace c6 := c6.mod hA nob
            obtain ⟨V2, hV⟩ : ∃ V, V1.alloc (.cells #[.slice la ln lc, .slice ia inn ic, .slice (some ⟨g6, 0, none⟩) 1 1] 43) = V := ⟨_, rfl⟩
            obtain ⟨g7, hg⟩ : ∃ g, V1.heap.size = g := ⟨_, rfl⟩
            change wpAnyH _ _ _ _ _ _ _ _ (V1.alloc (.cells #[.slice la ln lc, .slice ia inn ic, .slice (some ⟨g6, 0, none⟩) 1 1] 43))
            rw [hV] at hT hM hz c6 c7 ⊢
            rw [hg] at hz hs0 c7 ⊢
            have n7 : wr.heap.size ≤ g7 := hs0
            clear hV hA hg hz hs0
            refine wpAnyH_ready (rs := [8, 9]) (by kernel_rfl) (by simp) ?_
            refine AllReadyH.cons rfl (fun K hK => ?_) ?_
            ·
              go_simp
              refine (hmac V2 g6 g7 hM c6 c7).mono ?_
              rintro e V3 ⟨rfl, m5⟩
              go_wp2_with fail
              refine hK.out _ _ (by show CellsAt _ _ _ _; exact hT.mod m5 nob) (fun _ => ?_)
              clear hK K
              try simp only [Act.put, List.getElem_toArray, List.getElem_cons_zero, List.getElem_cons_succ, List.setIfInBounds_toArray, List.set_cons_zero, List.set_cons_succ]
              replace hT := hT.mod m5 nob
              replace hM := hM.trans m5
              replace c6 := c6.mod m5 nob
              replace c7 := c7.mod m5 nob
              clear m5
              refine wpAnyH_ready (rs := [9]) (by kernel_rfl) (by simp) ?_
              refine AllReadyH.cons rfl (fun K hK => ?_) ?_
              ·
                go_simp
                have hA := (Mod.refl V3 Nob).alloc (.cells (arrB (List.replicate 32 0)) 22)
                have c9 := CellsAt.new V3 (arrB (List.replicate 32 0)) 22
                have hz : (V3.alloc (.cells (arrB (List.replicate 32 0)) 22)).heap.size = V3.heap.size + 1 := by simp
                refine hK.out _ _ (by show CellsAt _ _ _ _; exact hT.mod hA nob) (fun _ => ?_)
                clear hK K
                try simp only [Act.put, List.getElem_toArray, List.getElem_cons_zero, List.getElem_cons_succ, List.setIfInBounds_toArray, List.set_cons_zero, List.set_cons_succ]
                have hs0 := hM.size
                replace hT := hT.mod hA nob
                replace hM := hM.trans hA
                replace c6 := c6.mod hA nob
                replace c7 := c7.mod hA nob
                obtain ⟨V4, hV⟩ : ∃ V, V3.alloc (.cells (arrB (List.replicate 32 0)) 22) = V := ⟨_, rfl⟩
                obtain ⟨g9, hg⟩ : ∃ g, V3.heap.size = g := ⟨_, rfl⟩
                change wpAnyH _ _ _ _ _ _ _ _ (V3.alloc (.cells (arrB (List.replicate 32 0)) 22))
                rw [hV] at hT hM hz c6 c7 c9 ⊢
                rw [hg] at hz hs0 c9 ⊢
                have n9 : wr.heap.size ≤ g9 := hs0
                clear hV hA hg hz hs0
                refine wpAnyH_ready (rs := [10]) (by kernel_rfl) (by simp) ?_
                refine AllReadyH.cons rfl (fun K hK => ?_) ?_
                ·
                  rw [if_pos (by rfl)]
                  refine wp_store_row 22 _ _ rfl g9 (arrB out) rfl rfl 22 _ c9 (by rw [size_b32, arrB_size, hol]) (by rw [arrB_size, arrB_size, hol]; rfl) (arrB_one _) ?_
                  have hA := (Mod.refl V4 (· = g9)).setRow (.inl rfl) (arrB out)
                  have hM' := hM.setRow (g := g9) (.inr n9) (arrB out)
                  have c9' := c9.setRow (arrB out)
                  have hl9 := hT.lt
                  refine hK.out _ _ (by show CellsAt _ _ _ _; exact hT.mod hA (fun e => by omega)) (fun _ => ?_)
                  clear hK K
                  try simp only [Act.put, List.getElem_toArray, List.getElem_cons_zero, List.getElem_cons_succ]
                  refine wpAnyH_done (by kernel_rfl) ?_ _
                  gi_wp2
                  go_meet
                  exact ⟨g9, rfl, n9, c9', hM'⟩
                exact AllReadyH.nil
              exact AllReadyH.nil
            refine AllReadyH.cons rfl (fun K hK => ?_) ?_
            ·
              go_simp
              have hA := (Mod.refl V2 Nob).alloc (.cells (arrB (List.replicate 32 0)) 22)
              have c9 := CellsAt.new V2 (arrB (List.replicate 32 0)) 22
              have hz : (V2.alloc (.cells (arrB (List.replicate 32 0)) 22)).heap.size = V2.heap.size + 1 := by simp
              refine hK.out _ _ (by show CellsAt _ _ _ _; exact hT.mod hA nob) (fun _ => ?_)
              clear hK K
              try simp only [Act.put, List.getElem_toArray, List.getElem_cons_zero, List.getElem_cons_succ, List.setIfInBounds_toArray, List.set_cons_zero, List.set_cons_succ]
              have hs0 := hM.size
              replace hT := hT.mod hA nob
              replace hM := hM.trans hA
              replace c6 := c6.mod hA nob
              replace c7 := c7.mod hA nob
              obtain ⟨V3, hV⟩ : ∃ V, V2.alloc (.cells (arrB (List.replicate 32 0)) 22) = V := ⟨_, rfl⟩
              obtain ⟨g9, hg⟩ : ∃ g, V2.heap.size = g := ⟨_, rfl⟩
              change wpAnyH _ _ _ _ _ _ _ _ (V2.alloc (.cells (arrB (List.replicate 32 0)) 22))
              rw [hV] at hT hM hz c6 c7 c9 ⊢
              rw [hg] at hz hs0 c9 ⊢
              have n9 : wr.heap.size ≤ g9 := hs0
              clear hV hA hg hz hs0
              refine wpAnyH_ready (rs := [8]) (by kernel_rfl) (by simp) ?_
              refine AllReadyH.cons rfl (fun K hK => ?_) ?_
              ·
                go_simp
                refine (hmac V3 g6 g7 hM c6 c7).mono ?_
                rintro e V4 ⟨rfl, m5⟩
                go_wp2_with fail
                refine hK.out _ _ (by show CellsAt _ _ _ _; exact hT.mod m5 nob) (fun _ => ?_)
                clear hK K
                try simp only [Act.put, List.getElem_toArray, List.getElem_cons_zero, List.getElem_cons_succ, List.setIfInBounds_toArray, List.set_cons_zero, List.set_cons_succ]
                replace hT := hT.mod m5 nob
                replace hM := hM.trans m5
                replace c6 := c6.mod m5 nob
                replace c7 := c7.mod m5 nob
                replace c9 := c9.mod m5 nob
                clear m5
                refine wpAnyH_ready (rs := [10]) (by kernel_rfl) (by simp) ?_
                refine AllReadyH.cons rfl (fun K hK => ?_) ?_
                ·
                  rw [if_pos (by rfl)]
                  refine wp_store_row 22 _ _ rfl g9 (arrB out) rfl rfl 22 _ c9 (by rw [size_b32, arrB_size, hol]) (by rw [arrB_size, arrB_size, hol]; rfl) (arrB_one _) ?_
                  have hA := (Mod.refl V4 (· = g9)).setRow (.inl rfl) (arrB out)
                  have hM' := hM.setRow (g := g9) (.inr n9) (arrB out)
                  have c9' := c9.setRow (arrB out)
                  have hl9 := hT.lt
                  refine hK.out _ _ (by show CellsAt _ _ _ _; exact hT.mod hA (fun e => by omega)) (fun _ => ?_)
                  clear hK K
                  try simp only [Act.put, List.getElem_toArray, List.getElem_cons_zero, List.getElem_cons_succ]
                  refine wpAnyH_done (by kernel_rfl) ?_ _
                  gi_wp2
                  go_meet
                  exact ⟨g9, rfl, n9, c9', hM'⟩
                exact AllReadyH.nil
              exact AllReadyH.nil
            exact AllReadyH.nil
          refine AllReadyH.cons rfl (fun K hK => ?_) ?_
          ·
            go_simp
            have hA := (Mod.refl V1 Nob).alloc (.cells (arrB (List.replicate 32 0)) 22)
            have c9 := CellsAt.new V1 (arrB (List.replicate 32 0)) 22
            have hz : (V1.alloc (.cells (arrB (List.replicate 32 0)) 22)).heap.size = V1.heap.size + 1 := by simp
            refine hK.out _ _ (by show CellsAt _ _ _ _; exact hT.mod hA nob) (fun _ => ?_)
            clear hK K
            try simp only [Act.put, List.getElem_toArray, List.getElem_cons_zero, List.getElem_cons_succ, List.setIfInBounds_toArray, List.set_cons_zero, List.set_cons_succ]
            have hs0 := hM.size
            replace hT := hT.mod hA nob
            replace hM := hM.trans hA
            replace c6 := c6.mod hA nob
            obtain ⟨V2, hV⟩ : ∃ V, V1.alloc (.cells (arrB (List.replicate 32 0)) 22) = V := ⟨_, rfl⟩
            obtain ⟨g9, hg⟩ : ∃ g, V1.heap.size = g := ⟨_, rfl⟩
            change wpAnyH _ _ _ _ _ _ _ _ (V1.alloc (.cells (arrB (List.replicate 32 0)) 22))
            rw [hV] at hT hM hz c6 c9 ⊢
            rw [hg] at hz hs0 c9 ⊢
            have n9 : wr.heap.size ≤ g9 := hs0
            clear hV hA hg hz hs0
            refine wpAnyH_ready (rs := [7]) (by kernel_rfl) (by simp) ?_
            refine AllReadyH.cons rfl (fun K hK => ?_) ?_
            ·
              go_simp
              have hA := (Mod.refl V2 Nob).alloc (.cells #[.slice la ln lc, .slice ia inn ic, .slice (some ⟨g6, 0, none⟩) 1 1] 43)
              have c7 := CellsAt.new V2 #[.slice la ln lc, .slice ia inn ic, .slice (some ⟨g6, 0, none⟩) 1 1] 43
              have hz : (V2.alloc (.cells #[.slice la ln lc, .slice ia inn ic, .slice (some ⟨g6, 0, none⟩) 1 1] 43)).heap.size = V2.heap.size + 1 := by simp
              refine hK.out _ _ (by show CellsAt _ _ _ _; exact hT.mod hA nob) (fun _ => ?_)
              clear hK K
              try simp only [Act.put, List.getElem_toArray, List.getElem_cons_zero, List.getElem_cons_succ, List.setIfInBounds_toArray, List.set_cons_zero, List.set_cons_succ]
              have hs0 := hM.size
              replace hT := hT.mod hA nob
              replace hM := hM.trans hA
              replace c6 := c6.mod hA nob
              replace c9 := c9.mod hA nob
              obtain ⟨V3, hV⟩ : ∃ V, V2.alloc (.cells #[.slice la ln lc, .slice ia inn ic, .slice (some ⟨g6, 0, none⟩) 1 1] 43) = V := ⟨_, rfl⟩
              obtain ⟨g7, hg⟩ : ∃ g, V2.heap.size = g := ⟨_, rfl⟩
              change wpAnyH _ _ _ _ _ _ _ _ (V2.alloc (.cells #[.slice la ln lc, .slice ia inn ic, .slice (some ⟨g6, 0, none⟩) 1 1] 43))
              rw [hV] at hT hM hz c6 c9 c7 ⊢
              rw [hg] at hz hs0 c7 ⊢
              have n7 : wr.heap.size ≤ g7 := hs0
              clear hV hA hg hz hs0
              refine wpAnyH_ready (rs := [8]) (by kernel_rfl) (by simp) ?_
              refine AllReadyH.cons rfl (fun K hK => ?_) ?_
              ·
                go_simp
                refine (hmac V3 g6 g7 hM c6 c7).mono ?_
                rintro e V4 ⟨rfl, m5⟩
                go_wp2_with fail
                refine hK.out _ _ (by show CellsAt _ _ _ _; exact hT.mod m5 nob) (fun _ => ?_)
                clear hK K
                try simp only [Act.put, List.getElem_toArray, List.getElem_cons_zero, List.getElem_cons_succ, List.setIfInBounds_toArray, List.set_cons_zero, List.set_cons_succ]
                replace hT := hT.mod m5 nob
                replace hM := hM.trans m5
                replace c6 := c6.mod m5 nob
                replace c7 := c7.mod m5 nob
                replace c9 := c9.mod m5 nob
                clear m5
                refine wpAnyH_ready (rs := [10]) (by kernel_rfl) (by simp) ?_
                refine AllReadyH.cons rfl (fun K hK => ?_) ?_
                ·
                  rw [if_pos (by rfl)]
                  refine wp_store_row 22 _ _ rfl g9 (arrB out) rfl rfl 22 _ c9 (by rw [size_b32, arrB_size, hol]) (by rw [arrB_size, arrB_size, hol]; rfl) (arrB_one _) ?_
                  have hA := (Mod.refl V4 (· = g9)).setRow (.inl rfl) (arrB out)
                  have hM' := hM.setRow (g := g9) (.inr n9) (arrB out)
                  have c9' := c9.setRow (arrB out)
                  have hl9 := hT.lt
                  refine hK.out _ _ (by show CellsAt _ _ _ _; exact hT.mod hA (fun e => by omega)) (fun _ => ?_)
                  clear hK K
                  try simp only [Act.put, List.getElem_toArray, List.getElem_cons_zero, List.getElem_cons_succ]
                  refine wpAnyH_done (by kernel_rfl) ?_ _
                  gi_wp2
                  go_meet
                  exact ⟨g9, rfl, n9, c9', hM'⟩
                exact AllReadyH.nil
              exact AllReadyH.nil
            exact AllReadyH.nil
          exact AllReadyH.nil
        refine AllReadyH.cons rfl (fun K hK => ?_) ?_
        ·
          go_simp
          have hA := (Mod.refl V0 Nob).alloc (.cells (arrB (List.replicate 32 0)) 22)
          have c9 := CellsAt.new V0 (arrB (List.replicate 32 0)) 22
          have hz : (V0.alloc (.cells (arrB (List.replicate 32 0)) 22)).heap.size = V0.heap.size + 1 := by simp
          refine hK.out _ _ (by show CellsAt _ _ _ _; exact hT.mod hA nob) (fun _ => ?_)
          clear hK K
          try simp only [Act.put, List.getElem_toArray, List.getElem_cons_zero, List.getElem_cons_succ, List.setIfInBounds_toArray, List.set_cons_zero, List.set_cons_succ]
          have hs0 := hM.size
          replace hT := hT.mod hA nob
          replace hM := hM.trans hA
          obtain ⟨V1, hV⟩ : ∃ V, V0.alloc (.cells (arrB (List.replicate 32 0)) 22) = V := ⟨_, rfl⟩
          obtain ⟨g9, hg⟩ : ∃ g, V0.heap.size = g := ⟨_, rfl⟩
          change wpAnyH _ _ _ _ _ _ _ _ (V0.alloc (.cells (arrB (List.replicate 32 0)) 22))
          rw [hV] at hT hM hz c9 ⊢
          rw [hg] at hz hs0 c9 ⊢
          have n9 : wr.heap.size ≤ g9 := hs0
          clear hV hA hg hz hs0
          refine wpAnyH_ready (rs := [6]) (by kernel_rfl) (by simp) ?_
          refine AllReadyH.cons rfl (fun K hK => ?_) ?_
          ·
            go_simp
            have hA := (Mod.refl V1 Nob).alloc (.cells #[B (UInt8.ofNat (j + 1))] 5)
            have c6 := CellsAt.new V1 #[B (UInt8.ofNat (j + 1))] 5
            have hz : (V1.alloc (.cells #[B (UInt8.ofNat (j + 1))] 5)).heap.size = V1.heap.size + 1 := by simp
            refine hK.out _ _ (by show CellsAt _ _ _ _; exact hT.mod hA nob) (fun _ => ?_)
            clear hK K
            try simp only [Act.put, List.getElem_toArray, List.getElem_cons_zero, List.getElem_cons_succ, List.setIfInBounds_toArray, List.set_cons_zero, List.set_cons_succ]
            have hs0 := hM.size
            replace hT := hT.mod hA nob
            replace hM := hM.trans hA
            replace c9 := c9.mod hA nob
            obtain ⟨V2, hV⟩ : ∃ V, V1.alloc (.cells #[B (UInt8.ofNat (j + 1))] 5) = V := ⟨_, rfl⟩
            obtain ⟨g6, hg⟩ : ∃ g, V1.heap.size = g := ⟨_, rfl⟩
            change wpAnyH _ _ _ _ _ _ _ _ (V1.alloc (.cells #[B (UInt8.ofNat (j + 1))] 5))
            rw [hV] at hT hM hz c9 c6 ⊢
            rw [hg] at hz hs0 c6 ⊢
            have n6 : wr.heap.size ≤ g6 := hs0
            clear hV hA hg hz hs0
            refine wpAnyH_ready (rs := [7]) (by kernel_rfl) (by simp) ?_
            refine AllReadyH.cons rfl (fun K hK => ?_) ?_
            ·
              go_simp
              have hA := (Mod.refl V2 Nob).alloc (.cells #[.slice la ln lc, .slice ia inn ic, .slice (some ⟨g6, 0, none⟩) 1 1] 43)
              have c7 := CellsAt.new V2 #[.slice la ln lc, .slice ia inn ic, .slice (some ⟨g6, 0, none⟩) 1 1] 43
              have hz : (V2.alloc (.cells #[.slice la ln lc, .slice ia inn ic, .slice (some ⟨g6, 0, none⟩) 1 1] 43)).heap.size = V2.heap.size + 1 := by simp
              refine hK.out _ _ (by show CellsAt _ _ _ _; exact hT.mod hA nob) (fun _ => ?_)
              clear hK K
              try simp only [Act.put, List.getElem_toArray, List.getElem_cons_zero, List.getElem_cons_succ, List.setIfInBounds_toArray, List.set_cons_zero, List.set_cons_succ]
              have hs0 := hM.size
              replace hT := hT.mod hA nob
              replace hM := hM.trans hA
              replace c6 := c6.mod hA nob
              replace c9 := c9.mod hA nob
              obtain ⟨V3, hV⟩ : ∃ V, V2.alloc (.cells #[.slice la ln lc, .slice ia inn ic, .slice (some ⟨g6, 0, none⟩) 1 1] 43) = V := ⟨_, rfl⟩
              obtain ⟨g7, hg⟩ : ∃ g, V2.heap.size = g := ⟨_, rfl⟩
              change wpAnyH _ _ _ _ _ _ _ _ (V2.alloc (.cells #[.slice la ln lc, .slice ia inn ic, .slice (some ⟨g6, 0, none⟩) 1 1] 43))
              rw [hV] at hT hM hz c6 c9 c7 ⊢
              rw [hg] at hz hs0 c7 ⊢
              have n7 : wr.heap.size ≤ g7 := hs0
              clear hV hA hg hz hs0
              refine wpAnyH_ready (rs := [8]) (by kernel_rfl) (by simp) ?_
              refine AllReadyH.cons rfl (fun K hK => ?_) ?_
              ·
                go_simp
                refine (hmac V3 g6 g7 hM c6 c7).mono ?_
                rintro e V4 ⟨rfl, m5⟩
                go_wp2_with fail
                refine hK.out _ _ (by show CellsAt _ _ _ _; exact hT.mod m5 nob) (fun _ => ?_)
                clear hK K
                try simp only [Act.put, List.getElem_toArray, List.getElem_cons_zero, List.getElem_cons_succ, List.setIfInBounds_toArray, List.set_cons_zero, List.set_cons_succ]
                replace hT := hT.mod m5 nob
                replace hM := hM.trans m5
                replace c6 := c6.mod m5 nob
                replace c7 := c7.mod m5 nob
                replace c9 := c9.mod m5 nob
                clear m5
                refine wpAnyH_ready (rs := [10]) (by kernel_rfl) (by simp) ?_
                refine AllReadyH.cons rfl (fun K hK => ?_) ?_
                ·
                  rw [if_pos (by rfl)]
                  refine wp_store_row 22 _ _ rfl g9 (arrB out) rfl rfl 22 _ c9 (by rw [size_b32, arrB_size, hol]) (by rw [arrB_size, arrB_size, hol]; rfl) (arrB_one _) ?_
                  have hA := (Mod.refl V4 (· = g9)).setRow (.inl rfl) (arrB out)
                  have hM' := hM.setRow (g := g9) (.inr n9) (arrB out)
                  have c9' := c9.setRow (arrB out)
                  have hl9 := hT.lt
                  refine hK.out _ _ (by show CellsAt _ _ _ _; exact hT.mod hA (fun e => by omega)) (fun _ => ?_)
                  clear hK K
                  try simp only [Act.put, List.getElem_toArray, List.getElem_cons_zero, List.getElem_cons_succ]
                  refine wpAnyH_done (by kernel_rfl) ?_ _
                  gi_wp2
                  go_meet
                  exact ⟨g9, rfl, n9, c9', hM'⟩
                exact AllReadyH.nil
              exact AllReadyH.nil
            exact AllReadyH.nil
          exact AllReadyH.nil
        exact AllReadyH.nil
  -- END ORDERS
      case rest =>
        obtain ⟨g9, rfl, n9, c9, hm⟩ := hcut
        have hJ2 := hJa _ _ _ none hJs (grown_of_mod hm) (fun r e => by cases e)
        have h1' := h1.mod hm nob
        have h2' := h2.mod hm nob
        have h3' := h3.mod hm (fun _ _ => nob)
        have hsz2 := hm.size
        have hlt9 := c9.lt
        obtain ⟨fn, tmps, assign, body, hy, hR⟩ := hY xs (some ⟨g9, 0, none⟩, 32, 32) wc hJ2 ⟨g9, rfl, by omega, by rw [hxl, HO.out]; exact c9⟩ (by omega)
        dsimp only [scv] at hy
        have hxs : (xs ++ [((some ⟨g9, 0, none⟩, 32, 32) : Sc)]).length = j + 1 := by rw [List.length_append, hxl]; rfl
        have HXS := Lib.hid hxs
        clear hmac h1 h2 h3 hlast hJs hY hxs hJ2
        gi_wp2
        refine hR.mono ?_
        rintro e W3 (⟨rfl, hJ3, hk3⟩ | ⟨rfl, hJx3⟩)
        · have b1 := hk3.cells h1' hS1
          have b2 := hk3.cells h2' hS2
          have b3 := hk3.row h3' hS3
          have b9 := hk3.cells c9 (fun h => by have := hS4 _ h; omega)
          have hz3 := hk3.size
          clear hk3 h1' h2' h3' c9 hm hlt9
          gi_wp2
          go_roundw
          case rel =>
            refine ⟨j + 1, by omega, by go_num, _, HXS.out, hJ3, by omega, b1, b2, b3, _, _, _, rfl, ?_, fun k hk => ?_⟩
            · change BytesAt W3 _ (expandP key info j)
              rw [HO.out]
              exact bytes_block b9 hol (by omega)
            · have e2 : g9 = k := by simpa [inBlock, Value.ownBlock] using hk
              omega
          case measure => simp [intOf]; omega
        · gi_wp2
          refine bodyPost_ret (results_none rfl _ _ _) rfl ?_
          exact ⟨⟨_, rfl⟩, .inr ⟨_, hJx3⟩⟩
    · obtain rfl : j = 255 := by omega
      gi_wp2
      go_end0
      exact ⟨⟨_, rfl⟩, .inl ⟨_, hxl, hJs⟩⟩

end Go.Proofs.YtakgnkjopbflbaaGreatDoor
