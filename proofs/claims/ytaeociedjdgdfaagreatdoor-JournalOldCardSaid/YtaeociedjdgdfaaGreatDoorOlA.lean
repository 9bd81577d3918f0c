/- The store's texts stand in for this one, where a seat reaches them. No condition. -/
import Derived.Test.YtaeociedjdgdfaaGreatDoorDh
import Derived.Test.YtaeociedjdgdfaaGreatDoorBg
import Derived.Test.YtaeociedjdgdfaaGreatDoorBc
import Derived.Deep.RegionLaw
import Derived.Deep.RegionHeld3
import Derived.Deep.AppendLies
import Derived.Laws.IdiomStrings
import Derived.Laws.BytesArg
namespace Go.Proofs.YtaeociedjdgdfaaGreatDoor
open Go.RowKit Go.Shelf
set_option linter.unusedSimpArgs false
attribute [local go_sem] Oper.semAt_some

section
variable {P : Program} {md : Region.Mode} {ops : Array Oper} {Q : Exit → Act → World → Prop}
/-- One of two may come up. -/
theorem wpAny_two {fuel : Nat} {listed : Array Bool} {a : Act} {w : World} (i j : Nat) (oi oj : Oper) (hr : Region.ready md ops listed = [i, j]) (hi : ops[i]? = some oi) (hj : ops[j]? = some oj)
    (h1 : ∀ K' : Act → World → Prop, Shut (∀ a w, wpAny P md ops Q fuel (listed.setIfInBounds i true) a w → K' a w) → if Region.wanted oi (yielded ops a.tmps) = true then Oper.wp P oi a w K' Q else K' (a.put oi.dst undef) w)
    (h2 : ∀ K' : Act → World → Prop, Shut (∀ a w, wpAny P md ops Q fuel (listed.setIfInBounds j true) a w → K' a w) → if Region.wanted oj (yielded ops a.tmps) = true then Oper.wp P oj a w K' Q else K' (a.put oj.dst undef) w) : wpAny P md ops Q (fuel + 1) listed a w :=
  wpAny_ready hr (by simp) (AllReady.cons hi (fun K' hK => h1 K' hK) (AllReady.cons hj (fun K' hK => h2 K' hK) AllReady.nil))
end

/-- One piece more. -/
def polyStep (r0 r1 : UInt64) (s : N3) (b : List UInt8) : N3 := (s.plus (pieceA b) (pieceB b) (pieceC b)).times r0 r1
def polyFold (m : List UInt8) (r0 r1 : UInt64) (is : List Nat) : N3 := is.foldl (fun s i => polyStep r0 r1 s ((m.drop (16 * i)).take 16)) ⟨0, 0, 0⟩
theorem polyFold_snoc (m : List UInt8) (r0 r1 : UInt64) (is : List Nat) (i : Nat) : polyFold m r0 r1 (is ++ [i]) = polyStep r0 r1 (polyFold m r0 r1 is) ((m.drop (16 * i)).take 16) := by simp [polyFold]
/-- The prime taken away, once. -/
def N3.less (t : N3) : N3 := if 4 ≤ (t.plus 5 0 0).c.toNat then ⟨(t.plus 5 0 0).a, (t.plus 5 0 0).b, (t.plus 5 0 0).c - 4⟩ else t
def N3.lessN (t : N3) : Nat → N3
  | 0 => t
  | k + 1 => (t.lessN k).less
def polyEnd (key m : List UInt8) : N3 := ((polyFold m (word8 (clampL key) 0) (word8 (clampL key) 8) (List.range (pieceN m.length 16))).lessN 2).plus (word8 key 16) (word8 key 24) 0
def polyL (key m : List UInt8) : List UInt8 := eightsL [(polyEnd key m).a.toNat, (polyEnd key m).b.toNat]
theorem polyL_length (key m : List UInt8) : (polyL key m).length = 16 := by unfold polyL; rw [eightsL_length]; rfl
theorem size_a32b : (Tryz.prog.info? 22).map (·.size) = some 32 := by kernel_rfl

theorem n64_sub4 (c : UInt64) (h : 4 ≤ c.toNat) : IntKind.u64.wrap (n64 c - 4) = n64 (c - 4) := by
  have h1 := c.toNat_lt
  have h2 : (c - 4).toNat = c.toNat - 4 := UInt64.toNat_sub_of_le c 4 (UInt64.le_iff_toNat_le.2 h)
  unfold n64
  rw [h2, u64_wrap_id _ (by omega) (by omega)]
  omega
theorem plus5_any (t : N3) (w : World) : Calls Tryz.prog 153 #[.agg t.cells, .int .u64 5, .int .u64 0, .int .u64 0] w fun e w' => e = .returned (.agg (t.plus 5 0 0).cells) ∧ Mod w w' Nob := plus_any t 5 0 0 w
/-- The key, the result, the multiplier, the sum, the row. -/
structure PolyAt (w : World) (H S g M k b G : Nat) (key m : List UInt8) (r0 r1 : UInt64) (s : N3) (W : World) : Prop where
  key : CellsAt W H (arrB key) 22
  out : CellsAt W (H + 1) (arrB (List.replicate 16 0)) 96
  r : CellsAt W (S + 1) #[V64 r0, V64 r1] 206
  sum : CellsAt W (S + 2) s.cells 208
  row : W.ownsRow b 5 1 (.slice (some ⟨g, 0, none⟩) M k) M (m.map B)
  md : Mod w W Nob
  size : G + 2 ≤ W.heap.size

set_option maxRecDepth 100000 in
set_option maxHeartbeats 4000000 in
theorem poly_any (key : List UInt8) (v : Value) (ls : List (List UInt8)) (w : World) (hk : key.length = 32) (hv : RowsAt w v ls) (hl : total ls ≤ 274877906944) (hl0 : 0 < total ls) :
    Calls Tryz.prog 129 #[.agg (arrB key), v] w fun e w' => e = .returned (.agg (arrB (polyL key ls.flatten))) ∧ Mod w w' Nob := by
  refine (callsIn_wide (n := 6)).1 ?_
  refine callsIn_of_wp_marks Tryz.func129 rfl trivial ?_ rfl
  simp only [Tryz.ntmps129, List.size_toArray, List.length_cons, List.length_nil, Nat.reduceAdd, Nat.reduceSub, Array.replicate_succ, Array.replicate_zero, List.push_toArray, List.append_toArray, List.nil_append, List.cons_append]
  refine wpIn_wide.2 ?_
  have cK0 := (CellsAt.new w (arrB key) 22).alloc (.cells (arrB (List.replicate 16 0)) 96)
  have cO0 := new_at (w := w.alloc (.cells (arrB key) 22)) (cs := arrB (List.replicate 16 0)) (t := 96) (g := w.heap.size + 1) (by simp)
  have m0 := ((Mod.refl w Nob).alloc (.cells (arrB key) 22)).alloc (.cells (arrB (List.replicate 16 0)) 96)
  have hKA : Box (arrB key = arrB key) := ⟨rfl⟩
  have hks : (arrB key).size = 32 := by rw [arrB_size, hk]
  go_wp2_with (refine wpList_load_arr rfl 22 _ rfl w.heap.size 32 5 rfl (arrB key) (by exact cK0) Tryz.underlying22 size_a32b hks ?_)
  change Calls _ _ _ ((w.alloc (.cells (arrB key) 22)).alloc (.cells (arrB (List.replicate 16 0)) 96)) _
  have hv1 := hv.mod m0 (fun _ => nob)
  have hz0 : ((w.alloc (.cells (arrB key) 22)).alloc (.cells (arrB (List.replicate 16 0)) 96)).heap.size = w.heap.size + 2 := by simp
  obtain ⟨W1, hW1⟩ : ∃ W1, (w.alloc (.cells (arrB key) 22)).alloc (.cells (arrB (List.replicate 16 0)) 96) = W1 := ⟨_, rfl⟩
  rw [hW1] at cK0 cO0 m0 hv1 hz0 ⊢
  obtain ⟨H, hH⟩ : ∃ H, w.heap.size = H := ⟨_, rfl⟩
  rw [hH] at cK0 cO0 hz0 ⊢
  have HH := Lib.hid hH
  clear hW1 hKA hv hH
  refine (clamp_any key W1 hk).mono ?_
  rintro e W2 ⟨rfl, m1⟩
  have hcl := clampL_length key hk
  obtain ⟨cl, hcl0⟩ : ∃ cl, clampL key = cl := ⟨_, rfl⟩
  have HCL := Box.mk hcl0
  rw [hcl0] at hcl ⊢
  replace cK0 := cK0.mod m1 nob
  replace cO0 := cO0.mod m1 nob
  replace hv1 := hv1.mod m1 (fun _ => nob)
  replace m0 := m0.trans m1
  have hz2 := m1.size
  have hls : (arrB cl).size = 16 := by rw [arrB_size, hcl]
  clear m1 hcl0
  go_wp2_with (refine wpList_store_arr rfl 96 _ _ rfl W2.heap.size 16 (arrB cl) (arrB (List.replicate 16 0)) rfl rfl (by exact CellsAt.new W2 (arrB (List.replicate 16 0)) 96) size_b16 hls (by rw [arrB_size]; rfl) (arrB_one _) ?_)
  change Code.wp _ _ _ _ ((W2.alloc (.cells (arrB (List.replicate 16 0)) 96)).setRow W2.heap.size (arrB cl))
  have hA := ((Mod.refl W2 Nob).alloc (.cells (arrB (List.replicate 16 0)) 96)).setRow (g := W2.heap.size) (.inr (Nat.le_refl _)) (arrB cl)
  have cC := (CellsAt.new W2 (arrB (List.replicate 16 0)) 96).setRow (arrB cl)
  have hz3 : ((W2.alloc (.cells (arrB (List.replicate 16 0)) 96)).setRow W2.heap.size (arrB cl)).heap.size = W2.heap.size + 1 := by simp
  obtain ⟨W3, hW3⟩ : ∃ W3, (W2.alloc (.cells (arrB (List.replicate 16 0)) 96)).setRow W2.heap.size (arrB cl) = W3 := ⟨_, rfl⟩
  rw [hW3] at hA cC hz3 ⊢
  obtain ⟨S, hS⟩ : ∃ S, W2.heap.size = S := ⟨_, rfl⟩
  rw [hS] at cC hz3 hz2 ⊢
  replace cK0 := (cK0.mod hA nob).mod ((Mod.refl W3 Nob).drew) nob
  replace cO0 := (cO0.mod hA nob).mod ((Mod.refl W3 Nob).drew) nob
  replace cC := cC.mod ((Mod.refl W3 Nob).drew) nob
  replace hv1 := (hv1.mod hA (fun _ => nob)).mod ((Mod.refl W3 Nob).drew) (fun _ => nob)
  replace m0 := (m0.trans hA).trans ((Mod.refl W3 Nob).drew)
  have hz4 : W3.drew.heap.size = S + 1 := hz3
  clear hA hW3 hS hz3
  refine wp_no_panic ?_
  refine wp_region_any (by kernel_rfl) ?_
  change wpAny _ _ _ _ _ _ _ W3.drew
  obtain ⟨W4, hW4⟩ : ∃ W4, W3.drew = W4 := ⟨_, rfl⟩
  rw [hW4] at cK0 cO0 cC hv1 m0 hz4 ⊢
  clear hW4
  have hb0 : BytesAt W4 (.slice (some ⟨S, 0, none⟩) 16 16) (cl.drop 0) := bytes_block_from (w := W4) cC hcl (by omega) 0 (by omega)
  have hb8 : BytesAt W4 (.slice (some ⟨S, 8, none⟩) 8 8) (cl.drop 8) := bytes_block_from (w := W4) cC hcl (by omega) 8 (by omega)
  have cR5 := new_at (w := W4) (cs := #[.int .u64 0, .int .u64 0]) (t := 206) (g := S + 1) hz4.symm
  have l1 := fun W hb => low8_any (.slice (some ⟨S, 0, none⟩) 16 16) cl 0 W hb (by omega)
  have l3 := fun W hb => low8_any (.slice (some ⟨S, 8, none⟩) 8 8) cl 8 W hb (by omega)
  have hb0' := hb0.mod ((Mod.refl W4 Nob).alloc (.cells #[.int .u64 0, .int .u64 0] 206)) (fun _ _ => nob)
  have hb8' := hb8.mod ((Mod.refl W4 Nob).alloc (.cells #[.int .u64 0, .int .u64 0] 206)) (fun _ _ => nob)
  obtain ⟨r0, hr0⟩ : ∃ x, word8 cl 0 = x := ⟨_, rfl⟩
  obtain ⟨r1, hr1⟩ : ∃ x, word8 cl 8 = x := ⟨_, rfl⟩
  rw [hr0] at l1
  rw [hr1] at l3
  have HR0 := Box.mk hr0
  have HR1 := Box.mk hr1
  clear hr0 hr1
  rename_i K ha
  suffices hfin : K { tmps := #[.agg (arrB key), v, .pointer (some ⟨H, 0, none⟩), undef, .pointer (some ⟨H + 1, 0, none⟩), .pointer (some ⟨S, 0, none⟩), .pointer (some ⟨S + 1, 0, none⟩), undef, undef, undef, .agg (arrB key), .agg (arrB cl), .slice (some ⟨S, 0, none⟩) 16 16, V64 r0, .slice (some ⟨S, 8, none⟩) 8 8, V64 r1, .agg #[V64 r0, V64 r1], undef, undef, undef, undef, undef, undef, undef, undef, undef, undef, undef, undef, undef, undef, undef, undef, undef, undef, undef, undef, undef, undef, undef, undef, undef, undef, undef, undef, undef, undef, undef, undef, undef, undef, undef, undef, undef, undef, undef, undef, undef, undef, undef], defers := [] } ((W4.alloc (.cells #[.int .u64 0, .int .u64 0] 206)).setRow (S + 1) #[V64 r0, V64 r1]) by
    refine wpAny_take (i := 0) (v := .slice (some ⟨S, 0, none⟩) 16 16) rfl (by kernel_rfl) (by kernel_rfl) (by kernel_rfl) (fun _ _ _ h => h) (Or.inl ⟨by rfl, fun W => by go_simp⟩) ?_
    try simp only [Act.put, List.getElem_toArray, List.getElem_cons_zero, List.getElem_cons_succ, List.setIfInBounds_toArray, List.set_cons_zero, List.set_cons_succ]
    refine wpAny_take (i := 2) (v := .slice (some ⟨S, 8, none⟩) 8 8) rfl (by kernel_rfl) (by kernel_rfl) (by kernel_rfl) (fun _ _ _ h => h) (Or.inl ⟨by rfl, fun W => by go_simp⟩) ?_
    try simp only [Act.put, List.getElem_toArray, List.getElem_cons_zero, List.getElem_cons_succ, List.setIfInBounds_toArray, List.set_cons_zero, List.set_cons_succ]
    refine wpAny_two 1 5 _ _ (by kernel_rfl) rfl rfl (fun K' hK' => ?_) (fun K' hK' => ?_)
    · go_simp
      refine (l1 _ (by assumption)).mono ?_
      rintro e W' ⟨rfl, rfl⟩
      go_wp2_with fail
      refine hK'.out _ _ ?_
      clear hK' K'
      try simp only [Act.put, List.getElem_toArray, List.getElem_cons_zero, List.getElem_cons_succ, List.setIfInBounds_toArray, List.set_cons_zero, List.set_cons_succ]
      refine wpAny_two 3 5 _ _ (by kernel_rfl) rfl rfl (fun K' hK' => ?_) (fun K' hK' => ?_)
      · go_simp
        refine (l3 _ (by assumption)).mono ?_
        rintro e W' ⟨rfl, rfl⟩
        go_wp2_with fail
        refine hK'.out _ _ ?_
        clear hK' K'
        try simp only [Act.put, List.getElem_toArray, List.getElem_cons_zero, List.getElem_cons_succ, List.setIfInBounds_toArray, List.set_cons_zero, List.set_cons_succ]
        refine wpAny_two 4 5 _ _ (by kernel_rfl) rfl rfl (fun K' hK' => ?_) (fun K' hK' => ?_)
        · go_simp
          refine hK'.out _ _ ?_
          clear hK' K'
          try simp only [Act.put, List.getElem_toArray, List.getElem_cons_zero, List.getElem_cons_succ, List.setIfInBounds_toArray, List.set_cons_zero, List.set_cons_succ]
          refine wpAny_one 5 _ (by kernel_rfl) rfl (fun K' hK' => ?_)
          go_simp
          try rw [hz4]
          refine hK'.out _ _ ?_
          clear hK' K'
          try simp only [Act.put, List.getElem_toArray, List.getElem_cons_zero, List.getElem_cons_succ, List.setIfInBounds_toArray, List.set_cons_zero, List.set_cons_succ]
          refine wpAny_one 6 _ (by kernel_rfl) rfl (fun K' hK' => ?_)
          refine Eq.mpr (if_pos (by rfl)) ?_
          refine wp_store_row 206 _ _ rfl (S + 1) #[V64 r0, V64 r1] rfl rfl 206 #[.int .u64 0, .int .u64 0] cR5 (by kernel_rfl) rfl (by simp [Value.oneCell']) ?_
          refine hK'.out _ _ ?_
          clear hK' K'
          try simp only [Act.put, List.getElem_toArray, List.getElem_cons_zero, List.getElem_cons_succ, List.setIfInBounds_toArray, List.set_cons_zero, List.set_cons_succ]
          refine wpAny_done (by kernel_rfl) ?_ _
          try simp only [Act.put, List.getElem_toArray, List.getElem_cons_zero, List.getElem_cons_succ]
          exact hfin
        · go_simp
          try rw [hz4]
          refine hK'.out _ _ ?_
          clear hK' K'
          try simp only [Act.put, List.getElem_toArray, List.getElem_cons_zero, List.getElem_cons_succ, List.setIfInBounds_toArray, List.set_cons_zero, List.set_cons_succ]
          refine wpAny_one 4 _ (by kernel_rfl) rfl (fun K' hK' => ?_)
          go_simp
          refine hK'.out _ _ ?_
          clear hK' K'
          try simp only [Act.put, List.getElem_toArray, List.getElem_cons_zero, List.getElem_cons_succ, List.setIfInBounds_toArray, List.set_cons_zero, List.set_cons_succ]
          refine wpAny_one 6 _ (by kernel_rfl) rfl (fun K' hK' => ?_)
          refine Eq.mpr (if_pos (by rfl)) ?_
          refine wp_store_row 206 _ _ rfl (S + 1) #[V64 r0, V64 r1] rfl rfl 206 #[.int .u64 0, .int .u64 0] cR5 (by kernel_rfl) rfl (by simp [Value.oneCell']) ?_
          refine hK'.out _ _ ?_
          clear hK' K'
          try simp only [Act.put, List.getElem_toArray, List.getElem_cons_zero, List.getElem_cons_succ, List.setIfInBounds_toArray, List.set_cons_zero, List.set_cons_succ]
          refine wpAny_done (by kernel_rfl) ?_ _
          try simp only [Act.put, List.getElem_toArray, List.getElem_cons_zero, List.getElem_cons_succ]
          exact hfin
      · go_simp
        try rw [hz4]
        refine hK'.out _ _ ?_
        clear hK' K'
        try simp only [Act.put, List.getElem_toArray, List.getElem_cons_zero, List.getElem_cons_succ, List.setIfInBounds_toArray, List.set_cons_zero, List.set_cons_succ]
        refine wpAny_one 3 _ (by kernel_rfl) rfl (fun K' hK' => ?_)
        go_simp
        refine (l3 _ (by assumption)).mono ?_
        rintro e W' ⟨rfl, rfl⟩
        go_wp2_with fail
        refine hK'.out _ _ ?_
        clear hK' K'
        try simp only [Act.put, List.getElem_toArray, List.getElem_cons_zero, List.getElem_cons_succ, List.setIfInBounds_toArray, List.set_cons_zero, List.set_cons_succ]
        refine wpAny_one 4 _ (by kernel_rfl) rfl (fun K' hK' => ?_)
        go_simp
        refine hK'.out _ _ ?_
        clear hK' K'
        try simp only [Act.put, List.getElem_toArray, List.getElem_cons_zero, List.getElem_cons_succ, List.setIfInBounds_toArray, List.set_cons_zero, List.set_cons_succ]
        refine wpAny_one 6 _ (by kernel_rfl) rfl (fun K' hK' => ?_)
        refine Eq.mpr (if_pos (by rfl)) ?_
        refine wp_store_row 206 _ _ rfl (S + 1) #[V64 r0, V64 r1] rfl rfl 206 #[.int .u64 0, .int .u64 0] cR5 (by kernel_rfl) rfl (by simp [Value.oneCell']) ?_
        refine hK'.out _ _ ?_
        clear hK' K'
        try simp only [Act.put, List.getElem_toArray, List.getElem_cons_zero, List.getElem_cons_succ, List.setIfInBounds_toArray, List.set_cons_zero, List.set_cons_succ]
        refine wpAny_done (by kernel_rfl) ?_ _
        try simp only [Act.put, List.getElem_toArray, List.getElem_cons_zero, List.getElem_cons_succ]
        exact hfin
    · go_simp
      try rw [hz4]
      refine hK'.out _ _ ?_
      clear hK' K'
      try simp only [Act.put, List.getElem_toArray, List.getElem_cons_zero, List.getElem_cons_succ, List.setIfInBounds_toArray, List.set_cons_zero, List.set_cons_succ]
      refine wpAny_one 1 _ (by kernel_rfl) rfl (fun K' hK' => ?_)
      go_simp
      refine (l1 _ (by assumption)).mono ?_
      rintro e W' ⟨rfl, rfl⟩
      go_wp2_with fail
      refine hK'.out _ _ ?_
      clear hK' K'
      try simp only [Act.put, List.getElem_toArray, List.getElem_cons_zero, List.getElem_cons_succ, List.setIfInBounds_toArray, List.set_cons_zero, List.set_cons_succ]
      refine wpAny_one 3 _ (by kernel_rfl) rfl (fun K' hK' => ?_)
      go_simp
      refine (l3 _ (by assumption)).mono ?_
      rintro e W' ⟨rfl, rfl⟩
      go_wp2_with fail
      refine hK'.out _ _ ?_
      clear hK' K'
      try simp only [Act.put, List.getElem_toArray, List.getElem_cons_zero, List.getElem_cons_succ, List.setIfInBounds_toArray, List.set_cons_zero, List.set_cons_succ]
      refine wpAny_one 4 _ (by kernel_rfl) rfl (fun K' hK' => ?_)
      go_simp
      refine hK'.out _ _ ?_
      clear hK' K'
      try simp only [Act.put, List.getElem_toArray, List.getElem_cons_zero, List.getElem_cons_succ, List.setIfInBounds_toArray, List.set_cons_zero, List.set_cons_succ]
      refine wpAny_one 6 _ (by kernel_rfl) rfl (fun K' hK' => ?_)
      refine Eq.mpr (if_pos (by rfl)) ?_
      refine wp_store_row 206 _ _ rfl (S + 1) #[V64 r0, V64 r1] rfl rfl 206 #[.int .u64 0, .int .u64 0] cR5 (by kernel_rfl) rfl (by simp [Value.oneCell']) ?_
      refine hK'.out _ _ ?_
      clear hK' K'
      try simp only [Act.put, List.getElem_toArray, List.getElem_cons_zero, List.getElem_cons_succ, List.setIfInBounds_toArray, List.set_cons_zero, List.set_cons_succ]
      refine wpAny_done (by kernel_rfl) ?_ _
      try simp only [Act.put, List.getElem_toArray, List.getElem_cons_zero, List.getElem_cons_succ]
      exact hfin
  clear l1 l3 hb0 hb8 hb0' hb8' cC
  have hA := ((Mod.refl W4 Nob).alloc (.cells #[.int .u64 0, .int .u64 0] 206)).setRow (g := S + 1) (.inr (by omega)) #[V64 r0, V64 r1]
  have cR := cR5.setRow #[V64 r0, V64 r1]
  have hz5 : ((W4.alloc (.cells #[.int .u64 0, .int .u64 0] 206)).setRow (S + 1) #[V64 r0, V64 r1]).heap.size = S + 2 := by simp [hz4]
  obtain ⟨W5, hW5⟩ : ∃ W5, (W4.alloc (.cells #[.int .u64 0, .int .u64 0] 206)).setRow (S + 1) #[V64 r0, V64 r1] = W5 := ⟨_, rfl⟩
  rw [hW5] at hA cR hz5 ⊢
  replace cK0 := cK0.mod hA nob
  replace cO0 := cO0.mod hA nob
  replace hv1 := hv1.mod hA (fun _ => nob)
  replace m0 := m0.trans hA
  clear hA hW5 cR5 hz4
  go_wp2_with fail
  change Calls _ _ _ (W5.alloc (.cells (N3.mk 0 0 0).cells 208)) _
  have hA := (Mod.refl W5 Nob).alloc (.cells (N3.mk 0 0 0).cells 208)
  have cN := new_at (w := W5) (cs := (N3.mk 0 0 0).cells) (t := 208) (g := S + 2) hz5.symm
  have hz6 : (W5.alloc (.cells (N3.mk 0 0 0).cells 208)).heap.size = S + 3 := by simp [hz5]
  obtain ⟨W6, hW6⟩ : ∃ W6, W5.alloc (.cells (N3.mk 0 0 0).cells 208) = W6 := ⟨_, rfl⟩
  rw [hW6] at hA cN hz6 ⊢
  replace cK0 := cK0.mod hA nob
  replace cO0 := cO0.mod hA nob
  replace cR := cR.mod hA nob
  replace hv1 := hv1.mod hA (fun _ => nob)
  replace m0 := m0.trans hA
  clear hA hW6 hz5
  refine (concat_bytes v ls W6 hv1 (by omega)).mono ?_
  rintro e W7 ⟨va, rfl, hown, m1⟩
  rw [total_flatten] at hown
  have hfl := total_flatten ls
  obtain ⟨m, hl2⟩ : ∃ l, ls.flatten = l := ⟨_, rfl⟩
  obtain ⟨M, hT⟩ : ∃ T, total ls = T := ⟨_, rfl⟩
  rw [hl2] at hown hfl
  have HM := Box.mk hl2
  rw [hT] at hown hfl hl hl0
  clear hT hl2 hv1
  obtain ⟨a4, k4, rfl, hk4, hk5⟩ := owns_form hown
  unfold maxLen at hk5
  obtain ⟨g, rfl⟩ : ∃ g, a4 = some ⟨g, 0, none⟩ := by
    rcases hown.2 with ⟨_, h0⟩ | ⟨g, cap', cur, h0, _⟩
    · omega
    · cases h0; exact ⟨g, rfl⟩
  rw [hz6] at hown
  have lg := hown.lt g rfl
  have hz7 := m1.size
  replace cK0 := cK0.mod m1 nob
  replace cO0 := cO0.mod m1 nob
  replace cR := cR.mod m1 nob
  replace cN := cN.mod m1 nob
  replace m0 := m0.trans m1
  clear m1
  go_wp2_with fail
  refine (chunk_any (some ⟨g, 0, none⟩) M k4 16 (by omega) W7).mono ?_
  rintro e W8 ⟨rfl, hW8⟩
  have hA := ((Mod.refl W7 Nob).alloc (.cells #[.slice (some ⟨g, 0, none⟩) M k4] 40)).alloc (.cells #[.int .i64 ((16 : Nat) : Int)] 3)
  have cb1 := (CellsAt.new W7 #[.slice (some ⟨g, 0, none⟩) M k4] 40).alloc (.cells #[.int .i64 ((16 : Nat) : Int)] 3)
  have cb2 := CellsAt.new (W7.alloc (.cells #[.slice (some ⟨g, 0, none⟩) M k4] 40)) #[.int .i64 ((16 : Nat) : Int)] 3
  rw [World.size_alloc] at cb2
  have hz8 : W8.heap.size = W7.heap.size + 2 := by rw [hW8]; simp
  rw [← hW8] at hA cb1 cb2
  obtain ⟨G, hG⟩ : ∃ G, W7.heap.size = G := ⟨_, rfl⟩
  rw [hG] at cb1 cb2 hz8 hz7 lg ⊢
  replace m0 := m0.trans hA
  replace cK0 := cK0.mod hA nob
  replace cO0 := cO0.mod hA nob
  replace cR := cR.mod hA nob
  replace cN := cN.mod hA nob
  replace hown := owns_mod hown hA (fun _ _ => nob)
  clear hA hW8 hG
  go_wp2_with fail
  refine (wpIn_wide (n := 6)).1 ?_
  refine wpIn_rangeFunc_ownG (F := Fence.wide) (n := 6) rfl (by omega) (gf := 164) (lb := #[.pointer (some ⟨G, 0, none⟩), .pointer (some ⟨G + 1, 0, none⟩)]) rfl trivial (enters_of Tryz.func164 (by kernel_rfl) rfl)
    (chunk_stops 5 (by omega) G g 0 M k4 16 (by omega) (by omega) hk4 (by omega) W8 cb1 cb2) (fun h k => h.trans k) (KC.put (by omega)) (Below.refl _ _) (fun _ => rfl)
    (fun pre W => PolyAt w H S g M k4 (S + 3) G key m r0 r1 (polyFold m r0 r1 (pre.map Fin.val)) W) (fun _ _ _ => False) ?own (fun _ _ _ _ _ hs _ _ => hs)
    ⟨cK0, cO0, cR, cN, hown, m0, by omega⟩
    (fun x => { tmps := #[.agg (arrB key), v, .pointer (some ⟨H, 0, none⟩), undef, .pointer (some ⟨H + 1, 0, none⟩), .pointer (some ⟨S, 0, none⟩), .pointer (some ⟨S + 1, 0, none⟩), .pointer (some ⟨S + 2, 0, none⟩), pieceV g 0 M 16 x.val, undef, .agg (arrB key), .agg (arrB cl), .slice (some ⟨S, 0, none⟩) 16 16, V64 r0, .slice (some ⟨S, 8, none⟩) 8 8, V64 r1, .agg #[V64 r0, V64 r1], v, .slice (some ⟨g, 0, none⟩) M k4, .func (.func 164) #[] #[.pointer (some ⟨G, 0, none⟩), .pointer (some ⟨G + 1, 0, none⟩)], pieceV g 0 M 16 x.val, undef, undef, undef, undef, undef, undef, undef, undef, undef, undef, undef, undef, undef, undef, undef, undef, undef, undef, undef, undef, undef, undef, undef, undef, undef, undef, undef, undef, undef, undef, undef, undef, undef, undef, undef, undef, undef, undef, undef], defers := [] })
    ?assign ?body ?done ?stop
  case own =>
    intro pre W W' row hs hg hr
    have hm : Mod W W' (W8.heap.size ≤ ·) := (Mod.refl W _).grown hg (fun k e => .inl (by have := (hr k e).1; omega))
    have := hs.row.lt g rfl
    have := hm.size
    have := hs.size
    have hrow := owns_keep hs.row hm (by omega)
    have := m0.size
    exact ⟨hs.key.mod hm (by omega), hs.out.mod hm (by omega), hs.r.mod hm (by omega), hs.sum.mod hm (by omega), hrow, hs.md.drop hm (fun k hk => .inr (by omega)), by omega⟩
  case stop =>
    intro D c pre W _ _ h
    exact h.elim
  case assign =>
    intro l x W K hK
    gi_wp2
    exact hK
  case body =>
    intro l pre x W hI hlt
    have hx : 16 * x.val < M := by have := x.isLt; exact (pieceN_iff M 16 x.val (by omega)).1 this
    have hbx := piece_at (j := x.val) (q := 16) hI.row (by omega)
    have hx16 : ((m.drop (16 * x.val)).take 16).length = pieceLen M 16 x.val := by
      rw [List.length_take, List.length_drop, hfl]
      unfold pieceLen
      omega
    dsimp only
    obtain ⟨s, hs⟩ : ∃ s, polyFold m r0 r1 (pre.map Fin.val) = s := ⟨_, rfl⟩
    obtain ⟨L, hL⟩ : ∃ L, pieceLen M 16 x.val = L := ⟨_, rfl⟩
    have hL16 : L ≤ 16 := by rw [← hL]; unfold pieceLen; omega
    rw [hL] at hx16
    unfold pieceV at hbx ⊢
    rw [hL] at hbx ⊢
    obtain ⟨off, hoff⟩ : ∃ o, 0 + 16 * x.val = o := ⟨_, rfl⟩
    rw [hoff] at hbx ⊢
    rw [hs] at hI
    have HSS := Box.mk hs
    obtain ⟨pb, hpb⟩ : ∃ pb, (m.drop (16 * x.val)).take 16 = pb := ⟨_, rfl⟩
    rw [hpb] at hbx hx16
    have HPB := Box.mk hpb
    clear hs hoff hL hpb cb1 cb2 cK0 cO0 cR cN hown m0
    obtain ⟨sa, sb, sc⟩ := s
    have hs1 : CellsAt W (S + 2) #[V64 sa, V64 sb, V64 sc] 208 := hI.sum
    have mDr := (Mod.refl W Nob).drew
    have hS0 : CellsAt W.drew (S + 2) #[V64 sa, V64 sb, V64 sc] 208 ∧ CellsAt W.drew (S + 1) #[V64 r0, V64 r1] 206 := ⟨hs1.mod mDr nob, hI.r.mod mDr nob⟩
    have hpc := piece_any _ L L pb W.drew (hbx.mod mDr (fun _ _ => nob)) hx16 hL16
    obtain ⟨pa, hpa⟩ : ∃ x, pieceA pb = x := ⟨_, rfl⟩
    obtain ⟨pB, hpB⟩ : ∃ x, pieceB pb = x := ⟨_, rfl⟩
    obtain ⟨pC, hpC⟩ : ∃ x, pieceC pb = x := ⟨_, rfl⟩
    rw [hpa, hpB, hpC] at hpc
    obtain ⟨n1, hn1⟩ : ∃ n, (N3.mk sa sb sc).plus pa pB pC = n := ⟨_, rfl⟩
    have hpl : ∀ W, Calls Tryz.prog 153 #[.agg #[V64 sa, V64 sb, V64 sc], V64 pa, V64 pB, V64 pC] W fun e w' => e = .returned (.agg n1.cells) ∧ Mod W w' Nob := fun W => by rw [← hn1]; exact plus_any ⟨sa, sb, sc⟩ pa pB pC W
    obtain ⟨n2, hn2⟩ : ∃ n, n1.times r0 r1 = n := ⟨_, rfl⟩
    have hti : ∀ W, Calls Tryz.prog 155 #[.agg n1.cells, .agg #[V64 r0, V64 r1]] W fun e w' => e = .returned (.agg n2.cells) ∧ Mod W w' Nob := fun W => by rw [← hn2]; exact times_any n1 r0 r1 W
    have hst : polyStep r0 r1 ⟨sa, sb, sc⟩ pb = n2 := by unfold polyStep; rw [hpa, hpB, hpC, hn1, hn2]
    have HST := Box.mk hst
    clear hst hn1 hn2 hpa hpB hpC hs1
    gi_wp2
    refine wpIn_region_round (by kernel_rfl) (by rfl) (fun _ _ h => h) ?_
    refine wpAny_of_U (S := fun W' => CellsAt W' (S + 2) #[V64 sa, V64 sb, V64 sc] 208 ∧ CellsAt W' (S + 1) #[V64 r0, V64 r1] 206) (k := 9) _ _ _ _ ?_
    refine wpAnyU_take (i := 0) (v := .agg #[V64 sa, V64 sb, V64 sc]) rfl (by kernel_rfl) (by kernel_rfl) (by kernel_rfl) (by kernel_rfl) (by kernel_rfl) (fun _ _ _ h => h) (Or.inl ⟨by rfl, fun W hSw => by have x0 := hSw.1.cell 0; have x1 := hSw.1.cell 1; have x2 := hSw.1.cell 2; simp at x0 x1 x2; go_simp⟩) hS0 ?_
    try simp only [Act.put, List.getElem_toArray, List.getElem_cons_zero, List.getElem_cons_succ, List.setIfInBounds_toArray, List.set_cons_zero, List.set_cons_succ]
    refine wpAnyU_takeP (i := 1) (v := .slice (some ⟨g, off, none⟩) L L) rfl (by kernel_rfl) (by kernel_rfl) (by kernel_rfl) (by decide) (fun _ _ _ h => h) (Or.inl ⟨by rfl, fun W => by go_simp⟩) (fun _ => hS0) ?_
    try simp only [Act.put, List.getElem_toArray, List.getElem_cons_zero, List.getElem_cons_succ, List.setIfInBounds_toArray, List.set_cons_zero, List.set_cons_succ]
    refine wpAnyU_take (i := 7) (v := .agg #[V64 r0, V64 r1]) rfl (by kernel_rfl) (by kernel_rfl) (by kernel_rfl) (by kernel_rfl) (by kernel_rfl) (fun _ _ _ h => h) (Or.inl ⟨by rfl, fun W hSw => by have x0 := hSw.2.cell 0; have x1 := hSw.2.cell 1; simp at x0 x1; go_simp⟩) hS0 ?_
    try simp only [Act.put, List.getElem_toArray, List.getElem_cons_zero, List.getElem_cons_succ, List.setIfInBounds_toArray, List.set_cons_zero, List.set_cons_succ]
    refine wpAnyU_one 2 _ (by kernel_rfl) rfl (fun K hK => ?_)
    go_simp
    refine hpc.mono ?_
    rintro e V1 ⟨rfl, m4⟩
    go_wp2_with fail
    refine hK.out _ _ (fun _ => ⟨hS0.1.mod m4 nob, hS0.2.mod m4 nob⟩) ?_
    clear hK K hpc
    try simp only [Act.put, List.getElem_toArray, List.getElem_cons_zero, List.getElem_cons_succ, List.setIfInBounds_toArray, List.set_cons_zero, List.set_cons_succ]
    have hS1 : CellsAt V1 (S + 2) #[V64 sa, V64 sb, V64 sc] 208 ∧ CellsAt V1 (S + 1) #[V64 r0, V64 r1] 206 := ⟨hS0.1.mod m4 nob, hS0.2.mod m4 nob⟩
    refine wpAnyU_takeP (i := 3) (v := V64 pa) rfl (by kernel_rfl) (by kernel_rfl) (by kernel_rfl) (by decide) (fun _ _ _ h => h) (Or.inl ⟨by rfl, fun W => by go_simp⟩) (fun _ => hS1) ?_
    try simp only [Act.put, List.getElem_toArray, List.getElem_cons_zero, List.getElem_cons_succ, List.setIfInBounds_toArray, List.set_cons_zero, List.set_cons_succ]
    refine wpAnyU_takeP (i := 4) (v := V64 pB) rfl (by kernel_rfl) (by kernel_rfl) (by kernel_rfl) (by decide) (fun _ _ _ h => h) (Or.inl ⟨by rfl, fun W => by go_simp⟩) (fun _ => hS1) ?_
    try simp only [Act.put, List.getElem_toArray, List.getElem_cons_zero, List.getElem_cons_succ, List.setIfInBounds_toArray, List.set_cons_zero, List.set_cons_succ]
    refine wpAnyU_takeP (i := 5) (v := V64 pC) rfl (by kernel_rfl) (by kernel_rfl) (by kernel_rfl) (by decide) (fun _ _ _ h => h) (Or.inl ⟨by rfl, fun W => by go_simp⟩) (fun _ => hS1) ?_
    try simp only [Act.put, List.getElem_toArray, List.getElem_cons_zero, List.getElem_cons_succ, List.setIfInBounds_toArray, List.set_cons_zero, List.set_cons_succ]
    refine wpAnyU_one 6 _ (by kernel_rfl) rfl (fun K hK => ?_)
    go_simp
    refine (hpl V1).mono ?_
    rintro e V2 ⟨rfl, m5⟩
    go_wp2_with fail
    refine hK.out _ _ (fun _ => ⟨hS1.1.mod m5 nob, hS1.2.mod m5 nob⟩) ?_
    clear hK K hpl
    try simp only [Act.put, List.getElem_toArray, List.getElem_cons_zero, List.getElem_cons_succ, List.setIfInBounds_toArray, List.set_cons_zero, List.set_cons_succ]
    refine wpAnyU_one 8 _ (by kernel_rfl) rfl (fun K hK => ?_)
    go_simp
    refine (hti V2).mono ?_
    rintro e V3 ⟨rfl, m6⟩
    go_wp2_with fail
    refine hK.out _ _ (fun _ => ⟨(hS1.1.mod m5 nob).mod m6 nob, (hS1.2.mod m5 nob).mod m6 nob⟩) ?_
    clear hK K hti
    try simp only [Act.put, List.getElem_toArray, List.getElem_cons_zero, List.getElem_cons_succ, List.setIfInBounds_toArray, List.set_cons_zero, List.set_cons_succ]
    have mA := ((mDr.trans m4).trans m5).trans m6
    have hsum := hI.sum.mod mA nob
    clear hS0 hS1 mDr m4 m5 m6
    refine wpAnyU_last (by kernel_rfl) (by simp) ?_
    refine wpAny_tail _ 9 _ _ _ (by kernel_rfl) ?_
    simp only [List.drop_succ_cons, List.drop_zero]
    have mB := (Mod.refl V3 (· = S + 2)).setRow (.inl rfl) n2.cells
    have hsm := hsum.setRow n2.cells
    go_wp2_with (refine wpList_store_arr rfl 208 _ _ rfl (S + 2) 3 n2.cells (N3.mk sa sb sc).cells rfl rfl hsum (by kernel_rfl) rfl rfl (by simp [N3.cells, Value.oneCell']) ?_)
    have hz := mA.size
    have hz0 := hI.size
    have := HH.out
    have hrow := owns_keep (owns_keep hI.row mA nob) mB (by omega)
    refine ⟨(keepsFrom_mod mA (fun k h => h.elim)).trans (keepsFrom_mod mB (fun k (hk : k = S + 2) => by omega)), (KC.of_mod mA (by omega) (fun k h => h.elim)).trans (KC.of_mod mB (by omega) (fun k (hk : k = S + 2) => ⟨by omega, by omega⟩)), ?_⟩
    change PolyAt w H S g M k4 (S + 3) G key m r0 r1 (polyFold m r0 r1 ((pre ++ [x]).map Fin.val)) _
    rw [List.map_append, List.map_cons, List.map_nil, polyFold_snoc, HSS.out, HPB.out, HST.out]
    exact ⟨(hI.key.mod mA nob).mod mB (by omega), (hI.out.mod mA nob).mod mB (by omega), (hI.r.mod mA nob).mod mB (by omega), hsm, hrow, (hI.md.trans mA).drop mB (fun k (hk : k = S + 2) => .inr (by omega)), by have := mB.size; omega⟩
  case done =>
    rintro D ys W hD hys hI hK
    rw [hys] at hI
    obtain ⟨s, hs⟩ : ∃ s, polyFold m r0 r1 (List.range (pieceN M 16)) = s := ⟨_, rfl⟩
    rw [hs] at hI
    have HSS := Box.mk hs
    have hsum := hI.sum
    have hkey := hI.key
    have hout := hI.out
    have hmd := hI.md
    have hz0 := hI.size
    clear hs hys cb1 cb2 cK0 cO0 cR cN hown m0 hI
    go_wp2_with fail
    go_loopw [9, 30] (fun _ i wr => ∃ j : Nat, j ≤ 2 ∧ i = .int .i64 j ∧ CellsAt wr (S + 2) (s.lessN j).cells 208 ∧ CellsAt wr H (arrB key) 22 ∧ CellsAt wr (H + 1) (arrB (List.replicate 16 0)) 96 ∧ Mod w wr Nob ∧ wr.heap[D]? = some (.deferred (some [])) ∧ G + 2 ≤ wr.heap.size) (fun _ i _ => 2 - (intOf i).toNat)
    case atStart => exact ⟨0, Nat.zero_le _, rfl, hsum, hkey, hout, hmd, hK, hz0⟩
    case round =>
      obtain ⟨j, hj2, rfl, hsu, hky, hot, hm, hDw, hzr⟩ := hrel
      clear hsum hkey hout hmd hK hz0
      by_cases hlt : j < 2
      · have hln : Box (s.lessN (j + 1) = (s.lessN j).less) := ⟨rfl⟩
        obtain ⟨t, ht⟩ : ∃ t, s.lessN j = t := ⟨_, rfl⟩
        rw [ht] at hsu hln
        have hp5 := fun W => plus5_any t W
        obtain ⟨n, hn⟩ : ∃ n, t.plus 5 0 0 = n := ⟨_, rfl⟩
        rw [hn] at hp5
        have HN := Box.mk hn
        have htc : t.cells.size = 3 := rfl
        clear ht hn
        obtain ⟨tcs, htcs⟩ : ∃ x, t.cells = x := ⟨_, rfl⟩
        rw [htcs] at hsu hp5 htc
        have HTC := Box.mk htcs
        clear htcs
        go_wp2_with (refine wpList_load_arr rfl 208 _ rfl (S + 2) 3 29 rfl tcs hsu Tryz.underlying208 (by kernel_rfl) htc ?_)
        refine (hp5 wr).mono ?_
        rintro e W1 ⟨rfl, m1⟩
        obtain ⟨na, nb, nc⟩ := n
        have cB := (CellsAt.new W1 #[.int .u64 0, .int .u64 0, .int .u64 0] 208).setRow #[V64 na, V64 nb, V64 nc]
        have k0 := cB.cell 0
        have k1 := cB.cell 1
        have k2 := cB.cell 2
        simp at k0 k1 k2
        have hsu1 := hsu.mod m1 nob
        have mA := ((Mod.refl W1 Nob).alloc (.cells #[.int .u64 0, .int .u64 0, .int .u64 0] 208)).setRow (g := W1.heap.size) (.inr (Nat.le_refl _)) #[V64 na, V64 nb, V64 nc]
        have hsu2 := hsu1.mod mA nob
        have hzz := m1.size
        have hbl : W1.heap.size < ((W1.alloc (.cells #[.int .u64 0, .int .u64 0, .int .u64 0] 208)).setRow W1.heap.size #[V64 na, V64 nb, V64 nc]).heap.size := by simp
        clear cB hsu1 hp5 hsu
        by_cases h4 : (4 : Int) ≤ n64 nc
        · have hw4 := n64_sub4 nc (by unfold n64 at h4; omega)
          go_wp2_with (first
            | (refine wpList_store_arr rfl 208 _ _ rfl W1.heap.size 3 #[V64 na, V64 nb, V64 nc] #[.int .u64 0, .int .u64 0, .int .u64 0] rfl rfl (by exact CellsAt.new W1 #[.int .u64 0, .int .u64 0, .int .u64 0] 208) (by kernel_rfl) rfl rfl (by simp [Value.oneCell']) ?_)
            | (refine wpList_store_arr rfl 208 _ _ rfl (S + 2) 3 #[V64 na, V64 nb, V64 (nc - 4)] tcs rfl rfl (by exact hsu2) (by kernel_rfl) rfl htc (by simp [Value.oneCell']) ?_))
          have hfin : s.lessN (j + 1) = ⟨na, nb, nc - 4⟩ := by
            rw [hln.out]
            unfold N3.less
            rw [HN.out, if_pos (by unfold n64 at h4; show 4 ≤ nc.toNat; omega)]
          have mB := (Mod.refl ((W1.alloc (.cells #[.int .u64 0, .int .u64 0, .int .u64 0] 208)).setRow W1.heap.size #[V64 na, V64 nb, V64 nc]) (· = S + 2)).setRow (.inl rfl) #[V64 na, V64 nb, V64 (nc - 4)]
          refine ⟨⟨j + 1, by omega, by go_num, by rw [hfin]; exact hsu2.setRow _, ((hky.mod m1 nob).mod mA nob).mod mB (by omega), ((hot.mod m1 nob).mod mA nob).mod mB (by omega), ((hm.trans m1).trans mA).drop mB (fun k (hk : k = S + 2) => .inr (by have := HH.out; omega)), mB.keep (mA.keep (m1.keep hDw nob) nob) (by omega), by have := mB.size; have := mA.size; omega⟩, by simp [intOf]; omega⟩
        · go_wp2_with (refine wpList_store_arr rfl 208 _ _ rfl W1.heap.size 3 #[V64 na, V64 nb, V64 nc] #[.int .u64 0, .int .u64 0, .int .u64 0] rfl rfl (by exact CellsAt.new W1 #[.int .u64 0, .int .u64 0, .int .u64 0] 208) (by kernel_rfl) rfl rfl (by simp [Value.oneCell']) ?_)
          have hfin : s.lessN (j + 1) = t := by
            rw [hln.out]
            unfold N3.less
            rw [HN.out, if_neg (by unfold n64 at h4; show ¬ 4 ≤ nc.toNat; omega)]
          refine ⟨⟨j + 1, by omega, by go_num, by rw [hfin, HTC.out]; exact hsu2, (hky.mod m1 nob).mod mA nob, (hot.mod m1 nob).mod mA nob, (hm.trans m1).trans mA, mA.keep (m1.keep hDw nob) nob, by have := mA.size; omega⟩, by simp [intOf]; omega⟩
      · obtain rfl : j = 2 := by omega
        obtain ⟨t, ht⟩ : ∃ t, s.lessN 2 = t := ⟨_, rfl⟩
        rw [ht] at hsu
        have HT := Box.mk ht
        clear ht
        rw [show ((2 : Nat) : Int) = 2 from rfl]
        go_wp2_with fail
        obtain ⟨ta, tb, tc⟩ := t
        have mDr := (Mod.refl wr Nob).drew
        have hb16 : BytesAt wr.drew (.slice (some ⟨H, 16, none⟩) 16 16) (key.drop 16) := bytes_block_from (w := wr.drew) (hky.mod mDr nob) hk (by omega) 16 (by omega)
        have hb24 : BytesAt wr.drew (.slice (some ⟨H, 24, none⟩) 8 8) (key.drop 24) := bytes_block_from (w := wr.drew) (hky.mod mDr nob) hk (by omega) 24 (by omega)
        have l2 := low8_any _ key 16 wr.drew hb16 (by omega)
        have l4 := low8_any _ key 24 wr.drew hb24 (by omega)
        obtain ⟨x0, hx0⟩ : ∃ x, word8 key 16 = x := ⟨_, rfl⟩
        obtain ⟨x1, hx1⟩ : ∃ x, word8 key 24 = x := ⟨_, rfl⟩
        rw [hx0] at l2
        rw [hx1] at l4
        have HX0 := Box.mk hx0
        have HX1 := Box.mk hx1
        obtain ⟨n, hn⟩ : ∃ n, (N3.mk ta tb tc).plus x0 x1 0 = n := ⟨_, rfl⟩
        have hpl : ∀ W, Calls Tryz.prog 153 #[.agg #[V64 ta, V64 tb, V64 tc], V64 x0, V64 x1, .int .u64 0] W fun e w' => e = .returned (.agg n.cells) ∧ Mod W w' Nob := fun W => by rw [← hn]; exact plus_any ⟨ta, tb, tc⟩ x0 x1 0 W
        have HN := Box.mk hn
        clear hx0 hx1 hn hb16 hb24
        have hsu : CellsAt wr (S + 2) #[V64 ta, V64 tb, V64 tc] 208 := hsu
        have hS0 : CellsAt wr.drew (S + 2) #[V64 ta, V64 tb, V64 tc] 208 := hsu.mod mDr nob
        refine wp_no_panic ?_
        refine wp_region_U (S := fun W => CellsAt W (S + 2) #[V64 ta, V64 tb, V64 tc] 208) 6 (by kernel_rfl) ?_
        refine wpAnyU_take (i := 0) (v := .agg #[V64 ta, V64 tb, V64 tc]) rfl (by kernel_rfl) (by kernel_rfl) (by kernel_rfl) (by kernel_rfl) (by kernel_rfl) (fun _ _ _ h => h) (Or.inl ⟨by rfl, fun W hSw => by have x0 := hSw.cell 0; have x1 := hSw.cell 1; have x2 := hSw.cell 2; simp at x0 x1 x2; go_simp⟩) hS0 ?_
        try simp only [Act.put, List.getElem_toArray, List.getElem_cons_zero, List.getElem_cons_succ, List.setIfInBounds_toArray, List.set_cons_zero, List.set_cons_succ]
        refine wpAnyU_takeP (i := 1) (v := .slice (some ⟨H, 16, none⟩) 16 16) rfl (by kernel_rfl) (by kernel_rfl) (by kernel_rfl) (by decide) (fun _ _ _ h => h) (Or.inl ⟨by rfl, fun W => by go_simp⟩) (fun _ => hS0) ?_
        try simp only [Act.put, List.getElem_toArray, List.getElem_cons_zero, List.getElem_cons_succ, List.setIfInBounds_toArray, List.set_cons_zero, List.set_cons_succ]
        refine wpAnyU_takeP (i := 3) (v := .slice (some ⟨H, 24, none⟩) 8 8) rfl (by kernel_rfl) (by kernel_rfl) (by kernel_rfl) (by decide) (fun _ _ _ h => h) (Or.inl ⟨by rfl, fun W => by go_simp⟩) (fun _ => hS0) ?_
        try simp only [Act.put, List.getElem_toArray, List.getElem_cons_zero, List.getElem_cons_succ, List.setIfInBounds_toArray, List.set_cons_zero, List.set_cons_succ]
        refine wpAnyU_one 2 _ (by kernel_rfl) rfl (fun K hK => ?_)
        go_simp
        refine l2.mono ?_
        rintro e V1 ⟨rfl, rfl⟩
        go_wp2_with fail
        refine hK.out _ _ (fun _ => hS0) ?_
        clear hK K l2
        try simp only [Act.put, List.getElem_toArray, List.getElem_cons_zero, List.getElem_cons_succ, List.setIfInBounds_toArray, List.set_cons_zero, List.set_cons_succ]
        refine wpAnyU_one 4 _ (by kernel_rfl) rfl (fun K hK => ?_)
        go_simp
        refine l4.mono ?_
        rintro e V2 ⟨rfl, rfl⟩
        go_wp2_with fail
        refine hK.out _ _ (fun _ => hS0) ?_
        clear hK K l4
        try simp only [Act.put, List.getElem_toArray, List.getElem_cons_zero, List.getElem_cons_succ, List.setIfInBounds_toArray, List.set_cons_zero, List.set_cons_succ]
        refine wpAnyU_one 5 _ (by kernel_rfl) rfl (fun K hK => ?_)
        go_simp
        refine (hpl wr.drew).mono ?_
        rintro e V3 ⟨rfl, m5⟩
        go_wp2_with fail
        refine hK.out _ _ (fun _ => hS0.mod m5 nob) ?_
        clear hK K hpl
        try simp only [Act.put, List.getElem_toArray, List.getElem_cons_zero, List.getElem_cons_succ, List.setIfInBounds_toArray, List.set_cons_zero, List.set_cons_succ]
        have mA := mDr.trans m5
        have hsum := hsu.mod mA nob
        have hou := hot.mod mA nob
        have hm2 := hm.trans mA
        have hD2 := mA.keep hDw nob
        have hz3 := mA.size
        clear hS0 hsu mDr m5 mA
        refine wpAnyU_last (by kernel_rfl) (by simp) ?_
        refine wpAny_tail _ 6 _ _ _ (by kernel_rfl) ?_
        simp only [List.drop_succ_cons, List.drop_zero]
        obtain ⟨na, nb, nc⟩ := n
        have mB := (Mod.refl V3 (· = S + 2)).setRow (.inl rfl) #[V64 na, V64 nb, V64 nc]
        have hsm := hsum.setRow #[V64 na, V64 nb, V64 nc]
        have k0 := hsm.cell 0
        have k1 := hsm.cell 1
        simp at k0 k1
        have hou := hou.mod mB (by omega)
        have hm2 := hm2.drop mB (fun k (hk : k = S + 2) => .inr (by have := HH.out; omega))
        have hD2 := mB.keep hD2 (by omega)
        have hz4 := mB.size
        have HN3 : Box ((N3.mk ta tb tc).plus x0 x1 0 = ⟨na, nb, nc⟩) := HN
        have hbl : S + 2 < (V3.setRow (S + 2) #[V64 na, V64 nb, V64 nc]).heap.size := by omega
        clear hsm
        go_wp2_with (refine wpList_store_arr rfl 208 _ _ rfl (S + 2) 3 #[V64 na, V64 nb, V64 nc] #[V64 ta, V64 tb, V64 tc] rfl rfl hsum (by kernel_rfl) rfl rfl (by simp [Value.oneCell']) ?_)
        have hsz : (V3.setRow (S + 2) #[V64 na, V64 nb, V64 nc]).heap.size = V3.heap.size := by simp
        obtain ⟨V4, hV4⟩ : ∃ V4, V3.setRow (S + 2) #[V64 na, V64 nb, V64 nc] = V4 := ⟨_, rfl⟩
        rw [hV4] at hou hm2 hD2 hsz ⊢
        have cX := new_at (w := V4) (cs := #[V64 na, V64 nb]) (t := 29) (g := V3.heap.size) hsz.symm
        have mX := (Mod.refl V4 Nob).alloc (.cells #[V64 na, V64 nb] 29)
        have hrow : RowIn (V4.alloc (.cells #[V64 na, V64 nb] 29)) (.slice (some ⟨V3.heap.size, 0, none⟩) 2 2) ([na.toNat, nb.toNat].map U64) :=
          .inl (.inr ⟨_, 0, 2, rfl, cX.lt, Nat.le_refl _, by unfold maxLen; omega, fun j u hu => by rw [Nat.zero_add, cX.cell j]; simpa [U64, V64, n64] using hu⟩)
        replace hou := hou.mod mX nob
        replace hm2 := hm2.trans mX
        replace hD2 := mX.keep hD2 nob
        have hzx : (V4.alloc (.cells #[V64 na, V64 nb] 29)).heap.size = V3.heap.size + 1 := by simp [hsz]
        have hei := eights_any _ [na.toNat, nb.toNat] _ hrow (by simp)
        have hout : eightsL [na.toNat, nb.toNat] = polyL key ls.flatten := by
          have e1 : polyEnd key ls.flatten = ⟨na, nb, nc⟩ := by
            unfold polyEnd
            rw [HM.out, hfl, HCL.out, HR0.out, HR1.out, HSS.out, HT.out, HX0.out, HX1.out, HN3.out]
          unfold polyL
          rw [e1]
        have hol := polyL_length key ls.flatten
        rw [← hout] at hol
        have HO := Box.mk hout
        clear hout k0 k1 cX mX hV4 hsum mB hbl hz4 hsz hrow
        refine hei.mono ?_
        rintro e V5 ⟨a5, c5, he, hown5, m6⟩
        obtain rfl : e = .returned (.slice a5 16 c5) := he
        change V5.ownsRow _ 5 1 (.slice a5 16 c5) 16 _ at hown5
        obtain ⟨out, ho⟩ : ∃ out, eightsL [na.toNat, nb.toNat] = out := ⟨_, rfl⟩
        rw [ho] at hown5 hol HO
        obtain ⟨gg, rfl⟩ : ∃ g, a5 = some ⟨g, 0, none⟩ := by
          rcases hown5.2 with ⟨_, h0⟩ | ⟨g, cap', cur, h0, _⟩
          · omega
          · cases h0; exact ⟨g, rfl⟩
        have hcells := own_cell hown5
        have hto := run_toArray (P := Tryz.prog) 96 16 5 (some ⟨gg, 0, none⟩) 16 c5 Tryz.underlying96 (Nat.le_refl _)
        replace hou := hou.mod m6 nob
        replace hm2 := hm2.trans m6
        replace hD2 := m6.keep hD2 nob
        clear hei ho hown5 m6
        go_wp2_with (first
          | (refine wpList_load_cells rfl 96 _ rfl gg 0 16 5 rfl (out.map B) Tryz.underlying96 size_b16 (by rw [List.length_map, hol]) (fun j v hv => by rw [Nat.zero_add]; exact hcells j v hv) ?_)
          | (refine wpList_store_arr rfl 96 _ _ rfl (H + 1) 16 (arrB out) (arrB (List.replicate 16 0)) rfl rfl hou size_b16 (by rw [arrB_size, hol]) (by rw [arrB_size]; rfl) (arrB_one _) ?_))
        have mS := (Mod.refl V5 (· = H + 1)).setRow (.inl rfl) (arrB out)
        have hne : D ≠ H + 1 := fun e => by
          subst e
          rw [hou] at hD2
          cases hD2
        have DS := mS.keep hD2 hne
        have mD : Mod (V5.setRow (H + 1) (arrB out)) ((V5.setRow (H + 1) (arrB out)).putObj D (.deferred none)) (· = D) := (Mod.refl _ (· = D)).putObj (.inl rfl) _
        have hfin := (hou.setRow (arrB out)).mod mD (fun e => hne e.symm)
        refine ⟨by simp, .inl ⟨_, _, rfl, run_takeDeferred DS, ?_⟩⟩
        refine ⟨.agg (arrB out), ret_arr rfl _ _ (H + 1) 16 5 _ rfl hfin Tryz.underlying96 size_b16 (by rw [arrB_size, hol]), by rw [HO.out], (hm2.drop mS (fun k (hk : k = H + 1) => .inr (by have := HH.out; omega))).drop mD (fun k (hk : k = D) => .inr (by have := HH.out; omega))⟩

end Go.Proofs.YtaeociedjdgdfaaGreatDoor

namespace Go.Proofs.YtaeociedjdgdfaaGreatDoor
open Go.RowKit

/-- As 'SeqTells', for a body that never leaves; between two yields the iterator's steps are 'Ow'. -/
def SeqFull {α : Type} (n : Nat) (P : Program) (g : Nat) (lb : Array Value) (encs : α → Array Value) (Kp : World → World → Prop) (R : List α → α → World → Prop) (Ow : List α → World → World → Prop) (S : List α → Prop) (N : Nat) (w : World) : Prop :=
  ∀ (l : Nat) (J : List α → World → Prop) (W : World), Below w.heap.size w W → AbidesFrom W.heap.size J → (∀ pre A B, Ow pre A B → J pre A → J pre B) →
    (∀ pre x W1, J pre W1 → R pre x W1 → pre.length < N → YieldAt Fence.wide (n - 1) P l (encs x) W1 fun e W' => e = .returned (.bool true) ∧ J (pre ++ [x]) W' ∧ Kp W1 W') →
    J [] W →
    CallsIn Fence.wide n P g (#[.func (.yield l) #[] #[]] ++ lb) W fun e W' => (∃ v, e = .returned v) ∧ ∃ xs, S xs ∧ J xs W'

section
variable {α : Type} {n : Nat} {P : Program} {g : Operand} {ps : Array Tmp} {assign body : Code} {Q : Exit → Act → World → Prop} {a : Act} {w : World}
theorem wpIn_rangeFunc_full (h1 : 1 ≤ n) {gf : Nat} {lb : Array Value} (hg : a.eval g = .func (.func gf) #[] lb) (eg : ∀ args w, (callFunc gf args).run P w = .ok (.enter gf args) w)
    {encs : α → Array Value} {Kp : World → World → Prop} {R : List α → α → World → Prop} {Ow : List α → World → World → Prop} {S : List α → Prop} {N : Nat} (hseq : SeqFull (n - 1) P gf lb encs Kp R Ow S N w)
    (hOw : ∀ pre A B, Ow pre A B → ∀ (k : Nat) (o : Obj), A.heap[k]? = some o → o.isCells = false → B.heap[k]? = some o)
    (hKt : ∀ {A B C : World}, Kp A B → Kp B C → Kp A C) (hKb : ∀ (W : World) (l : Nat) (o o' : Obj), w.heap.size ≤ l → W.heap[l]? = some o → o.isCells = false → o.isWalk = false → Kp W (W.putObj l o')) (hps : ∀ x, (encs x).size = ps.size)
    (I : List α → World → Prop) (hI : OwnFrom w.heap.size I) (hOI : ∀ pre A B, Ow pre A B → I pre A → I pre B) (h0 : I [] w) (Ax : List α → α → Act → World → Prop) (hAx : ∀ pre x a', OwnFrom w.heap.size (fun (_ : Unit) W => Ax pre x a' W))
    (hassign : ∀ (l : Nat) (pre : List α) (x : α) (W : World) (K : Act → World → Prop), I pre W → R pre x W → (∀ a' W', KeepsFrom w.heap.size W W' → Kp W W' → I pre W' → Ax pre x a' W' → K a' W') →
      assign.wpIn (Fence.wide.inRound l) (n - 1 - 1) P (Exit.then K (fun _ _ _ => False)) { tmps := (ps.zip (encs x)).foldl (fun t (p, v) => t.setIfInBounds p v) a.tmps, defers := [] } W)
    (hbody : ∀ (l : Nat) (pre : List α) (x : α) (a' : Act) (W : World), w.heap.size ≤ l → (∃ r, W.heap[l]? = some (.loop r)) → I pre W → Ax pre x a' W → pre.length < N → body.wpIn (Fence.wide.inRound l) (n - 1 - 1) P (ownPostG w.heap.size Kp I (fun _ _ _ => False) (pre ++ [x]) W) a' W)
    (hdone : ∀ (D : Nat) (xs : List α) (W : World), w.heap.size ≤ D → S xs → I xs W → W.heap[D]? = some (.deferred (some [])) → Q .normal { a with defers := { target := .collected D, args := #[] } :: a.defers } W) :
    (Code.rangeFunc g ps assign body).wpIn Fence.wide n P Q a w := by
  refine wpIn_rangeFunc fun fn hfn => ?_
  obtain ⟨D, hD⟩ : ∃ D, w.heap.size = D := ⟨_, rfl⟩
  have hrun := run_enterLoop_outer (P := P) (w := w) fn a.tmps ps assign body
  have hb : Books w.heap.size (recOf w.heap.size fn a.tmps ps assign body .ready none) ((w.alloc (.deferred (some []))).alloc (.loop (recOf w.heap.size fn a.tmps ps assign body .ready none))) := by
    refine ⟨?_, (Below.heap_alloc _ _ _ (by simp)).trans (World.alloc_heap_new w _)⟩
    have := World.alloc_heap_new (w.alloc (.deferred (some []))) (.loop (recOf w.heap.size fn a.tmps ps assign body .ready none))
    rwa [World.size_alloc] at this
  have hI1 : I [] ((w.alloc (.deferred (some []))).alloc (.loop (recOf w.heap.size fn a.tmps ps assign body .ready none))) := hI.alloc _ (hI.alloc _ h0)
  have hbel : Below w.heap.size w ((w.alloc (.deferred (some []))).alloc (.loop (recOf w.heap.size fn a.tmps ps assign body .ready none))) := ((Below.refl _ w).alloc (Nat.le_refl _) _).alloc (by simp) _
  have hsz1 : ((w.alloc (.deferred (some []))).alloc (.loop (recOf w.heap.size fn a.tmps ps assign body .ready none))).heap.size = w.heap.size + 2 := by simp
  change _ = Result.ok _ ((w.alloc (.deferred (some []))).alloc (.loop (recOf w.heap.size fn a.tmps ps assign body .ready none))) at hrun
  obtain ⟨W1, hW1⟩ : ∃ W1, (w.alloc (.deferred (some []))).alloc (.loop (recOf w.heap.size fn a.tmps ps assign body .ready none)) = W1 := ⟨_, rfl⟩
  rw [hW1] at hrun hb hI1 hbel hsz1
  rw [hD] at hrun hb hsz1 hKb hI hAx hassign hbody hdone
  refine ⟨D + 1, [{ target := .collected D, args := #[] }], W1, { target := .fn (.func gf) lb, args := #[.func (.yield (D + 1)) #[] #[]] }, W1, gf, #[.func (.yield (D + 1)) #[] #[]] ++ lb, W1, hrun, ?_, ?_, ?_, fun _ => h1, ?_⟩
  · simp only [resolve, hg]
    simp [go_sem]
  · intro f' hf'; simp [Target.leads] at hf'; subst hf'; trivial
  · simp [invoke, go_sem, eg]
  have hwalk : ∀ {A : World} {row : Option Nat}, (∀ r, row = some r → W1.heap.size ≤ r ∧ ∃ o : Obj, A.heap[r]? = some o ∧ o.isWalk = true) → (∀ r, row = some r → D ≤ r ∧ ∃ o : Obj, A.heap[r]? = some o ∧ o.isCells = false) := fun hr r e => by
    obtain ⟨h2, o, h3, h4⟩ := hr r e
    exact ⟨by omega, o, h3, Obj.not_cells_of_walk h4⟩
  refine (hseq (D + 1) (fun pre W => I pre W ∧ Books D (recOf D fn a.tmps ps assign body .ready none) W) W1 hbel
    (fun s A B row hs hg2 hr => ⟨hI s A B row hs.1 hg2 (hwalk hr), hs.2.grown hg2 (fun r e => (hr r e).2)⟩)
    (fun pre A B ho hs => ⟨hOI pre A B ho hs.1, ⟨hOw pre A B ho _ _ hs.2.1 rfl, hOw pre A B ho _ _ hs.2.2 rfl⟩⟩) ?round ⟨hI1, hb⟩).mono ?behind
  case round =>
    rintro pre x W ⟨hi, hbk⟩ hR hlen
    have hy := run_yield (P := P) (args := encs x) hbk.1 (hps x)
    refine ⟨fn, _, assign, body, hy, roundIn_of_wpIn hfn (hassign (D + 1) pre x W _ hi hR fun a' Wa hk1 hk2 hi2 hax => ?_)⟩
    have hbk2 := hbk.keeps hk1
    refine ⟨_, run_beginRound hbk2.1 rfl, ?_⟩
    have hbk3 := hbk2.put (recOf D fn a.tmps ps assign body .busy none)
    have hp1 : Kp Wa (Wa.putObj (D + 1) (.loop (recOf D fn a.tmps ps assign body .busy none))) := hKb _ _ _ _ (by omega) hbk2.1 rfl rfl
    have hi3 := hI.putObj (.loop (recOf D fn a.tmps ps assign body .busy none)) hi2 (by omega) hbk2.1 rfl
    have hax3 := (hAx pre x a').putObj (s := ()) (.loop (recOf D fn a.tmps ps assign body .busy none)) hax (by omega) hbk2.1 rfl
    refine wpIn_mono (hbody (D + 1) pre x a' _ (by omega) ⟨_, hbk3.1⟩ hi3 hax3 hlen) ?_
    -- how a round ends
    have fin : ∀ (j : Option Code) (W3 : World), Books D (recOf D fn a.tmps ps assign body .busy none) W3 →
        ∃ W4, (Instr.endRound (D + 1) j).run P W3 = .ok (.bool j.isNone) W4 ∧ W4 = W3.putObj (D + 1) (.loop (recOf D fn a.tmps ps assign body (if j.isNone then .ready else .done) j)) ∧ Books D (recOf D fn a.tmps ps assign body (if j.isNone then .ready else .done) j) W4 := fun j W3 h3 =>
      ⟨_, run_endRound j h3.1, rfl, h3.put _⟩
    rintro e a3 W3 hp
    cases e with
    | normal =>
      obtain ⟨hk3, hkp3, hi4⟩ := hp
      have h3 := hbk3.keeps hk3
      obtain ⟨W4, e1, rfl, e2⟩ := fin none W3 h3
      exact ⟨_, _, e1, rfl, ⟨hI.putObj _ hi4 (by omega) h3.1 rfl, e2⟩, hKt hk2 (hKt hp1 (hKt hkp3 (hKb _ _ _ _ (by omega) h3.1 rfl rfl)))⟩
    | ret => exact hp.2.elim
    | exit id => exact hp.2.elim
    | goto t => exact hp.2.elim
    | panic ch => exact hp.elim
    | outgrown => exact hp.elim
  case behind =>
    rintro e W2 ⟨⟨v, rfl⟩, xs, hS, hi, hbk⟩
    exact ⟨none, _, run_endLoop (P := P) hbk.1 (by simp [recOf]), hdone D xs _ (Nat.le_refl _) hS (hI.putObj _ hi (by omega) hbk.1 rfl) (hbk.put _).2⟩
end

end Go.Proofs.YtaeociedjdgdfaaGreatDoor

namespace Go.Proofs.YtaeociedjdgdfaaGreatDoor
open Go.RowKit Go.Shelf
set_option linter.unusedSimpArgs false
attribute [local go_sem] Oper.semAt_some

def zerosL (l : List UInt8) : List UInt8 := List.replicate ((16 - l.length % 16) % 16) 0
theorem zerosL_length (l : List UInt8) : (zerosL l).length = (16 - l.length % 16) % 16 := by simp [zerosL]
/-- What comes, one by one. -/
def partL (ls : List (List UInt8)) (i : Nat) : List UInt8 := if i < 2 * ls.length then (if i % 2 = 0 then ls.getD (i / 2) [] else zerosL (ls.getD (i / 2) [])) else eightsL (ls.map List.length)
theorem partL_even (ls : List (List UInt8)) (j : Nat) (l : List UInt8) (h : ls[j]? = some l) : partL ls (2 * j) = l := by
  have hj := (List.getElem?_eq_some_iff.1 h).1
  unfold partL
  rw [if_pos (by omega), if_pos (by omega), show 2 * j / 2 = j by omega, List.getD_eq_getElem?_getD, h]
  rfl
theorem partL_odd (ls : List (List UInt8)) (j : Nat) (l : List UInt8) (h : ls[j]? = some l) : partL ls (2 * j + 1) = zerosL l := by
  have hj := (List.getElem?_eq_some_iff.1 h).1
  unfold partL
  rw [if_pos (by omega), if_neg (by omega), show (2 * j + 1) / 2 = j by omega, List.getD_eq_getElem?_getD, h]
  rfl
theorem partL_last (ls : List (List UInt8)) : partL ls (2 * ls.length) = eightsL (ls.map List.length) := by
  unfold partL
  rw [if_neg (by omega)]
def lensL (ls : List (List UInt8)) (j : Nat) : List UInt8 := eightsL ((ls.take j).map List.length)
theorem lensL_snoc (ls : List (List UInt8)) (j : Nat) (l : List UInt8) (h : ls[j]? = some l) : lensL ls (j + 1) = lensL ls j ++ leB 8 l.length := by
  unfold lensL
  rw [take_snoc ls j l h, List.map_append, List.map_cons, List.map_nil, eightsL_snoc]

/-- It is a block of bytes. -/
def IsB (A : World) (k : Nat) : Prop := ∃ cs, CellsAt A k cs 5
/-- The blocks of bytes stay, and what lies below, but for one block. -/
structure KB (lim X : Nat) (A B : World) : Prop where
  size : A.heap.size ≤ B.heap.size
  same : ∀ (k : Nat) (o : Obj), A.heap[k]? = some o → o.isCells = true → IsB A k ∨ (k < lim ∧ k ≠ X) → B.heap[k]? = some o
theorem KB.trans {lim X : Nat} {A B C : World} (h : KB lim X A B) (k : KB lim X B C) : KB lim X A C := ⟨Nat.le_trans h.size k.size, fun j o h1 h2 h3 => by
  have h4 := h.same j o h1 h2 h3
  refine k.same j o h4 h2 (h3.imp (fun ⟨cs, hc⟩ => ⟨cs, ?_⟩) id)
  exact h.same j _ hc rfl (.inl ⟨cs, hc⟩)⟩
theorem KB.put {lim X : Nat} (W : World) (l : Nat) (o o' : Obj) (ho : W.heap[l]? = some o) (hc : o.isCells = false) : KB lim X W (W.putObj l o') :=
  ⟨by simp, fun k o1 h1 h2 _ => by
    rw [World.putObj_heap_other (fun e => by subst e; rw [ho] at h1; cases h1; rw [hc] at h2; cases h2)]
    exact h1⟩
theorem KB.of_mod {lim X : Nat} {T : Nat → Prop} {A B : World} (h : Mod A B T) (hT : ∀ k, T k → (k = X ∨ lim ≤ k) ∧ ¬ IsB A k) : KB lim X A B := ⟨h.size, fun k o h1 _ h3 => h.keep h1 (fun ht => by
  obtain ⟨h4, h5⟩ := hT k ht
  rcases h3 with h3 | h3
  · exact h5 h3
  · omega)⟩
theorem KB.row {lim X : Nat} {A B : World} (h : KB lim X A B) {v : Value} {xs : List Value} (r : RowIn A v xs) (hv : ∀ k, inBlock v k → IsB A k ∨ (k < lim ∧ k ≠ X)) : RowIn B v xs := by
  rcases r with (r | ⟨b, o, cap, rfl, h1, h2, h3, h4⟩) | r
  · exact .inl (.inl r)
  · refine .inl (.inr ⟨b, o, cap, rfl, Nat.lt_of_lt_of_le h1 h.size, h2, h3, fun i x hx => ?_⟩)
    have h5 := h4 i x hx
    obtain ⟨ob, h6, h7⟩ := cell_cells h5
    have h8 := h.same b ob h6 h7 (hv b rfl)
    rw [← h5]
    simp [World.cell?, h6, h8]
  · exact .inr r
theorem KB.cells {lim X : Nat} {A B : World} (h : KB lim X A B) {b : Nat} {cs : Array Value} {t : TypeId} (c : CellsAt A b cs t) (hb : b < lim ∧ b ≠ X) : CellsAt B b cs t := h.same b _ c rfl (.inr hb)
theorem KB.own {lim X : Nat} {A B : World} (h : KB lim X A B) {base n : Nat} {v : Value} {xs : List Value} (c : A.ownsRow base 5 1 v n xs) : B.ownsRow base 5 1 v n xs := by
  rcases c with ⟨hl, h0 | ⟨g, cap, cur, rfl, hb, hg, rest⟩⟩
  · exact ⟨hl, .inl h0⟩
  · exact ⟨hl, .inr ⟨g, cap, cur, rfl, hb, h.same g _ hg rfl (.inl ⟨cur, hg⟩), rest⟩⟩
theorem own_isB {A : World} {base n : Nat} {v : Value} {xs : List Value} (c : A.ownsRow base 5 1 v n xs) (k : Nat) (hk : inBlock v k) : IsB A k := by
  rcases c with ⟨hl, ⟨rfl, h0⟩ | ⟨g, cap, cur, rfl, hb, hg, rest⟩⟩
  · cases hk
  · cases hk
    exact ⟨cur, hg⟩

/-- What is yielded lies below, or in a block of bytes. -/
def Far (lim X : Nat) (x : Sc) (W : World) : Prop := ∀ k, inBlock (scv x) k → IsB W k ∨ (k < lim ∧ k ≠ X)
def PartIs (lim X : Nat) (ls : List (List UInt8)) (pre : List Sc) (x : Sc) (W : World) : Prop := BytesAt W (scv x) (partL ls pre.length) ∧ Far lim X x W
/-- The iterator's own steps: blocks of bytes of its own, none that it has yielded. -/
def OwB (lim : Nat) (pre : List Sc) (A B : World) : Prop := ∃ T : Nat → Prop, Mod A B T ∧ ∀ k, T k → lim ≤ k ∧ IsB A k ∧ ∀ x ∈ pre, ¬ inBlock (scv x) k

set_option maxRecDepth 100000 in
set_option maxHeartbeats 1000000 in
theorem padded_any (a : Option Addr) (n c : Nat) (w : World) :
    Calls Tryz.prog 128 #[.slice a n c] w fun e w' => e = .returned (.func (.func 150) #[] #[.pointer (some ⟨w.heap.size, 0, none⟩)]) ∧ w' = w.alloc (.cells #[.slice a n c] 117) := by
  go_enter Tryz.func128, Tryz.ntmps128
  go_wp2_with fail
  go_ret
  exact ⟨rfl, rfl⟩

set_option maxRecDepth 100000 in
set_option maxHeartbeats 4000000 in
theorem padded_full (n : Nat) (hn : 1 ≤ n) (Bs PB N X : Nat) (ss : List Sc) (ls : List (List UInt8)) (w : World) (hN : N ≤ 1000) (hsl : ss.length = N) (hll : ls.length = N)
    (h1 : CellsAt w Bs #[.slice (some ⟨PB, 0, none⟩) N N] 117) (h2 : CellsAt w PB (ss.map scv).toArray 40) (hX2 : PB ≠ X)
    (hb : ∀ (j : Nat) (s : Sc) (l : List UInt8), ss[j]? = some s → ls[j]? = some l → BytesAt w (scv s) l ∧ l.length ≤ 68719476736 ∧ ∀ k, inBlock (scv s) k → k < w.heap.size ∧ k ≠ X) :
    SeqFull n Tryz.prog 150 #[.pointer (some ⟨Bs, 0, none⟩)] (fun s : Sc => #[scv s]) (KB w.heap.size X) (PartIs w.heap.size X ls) (OwB w.heap.size) (fun xs => xs.length = 2 * N + 1) (2 * N + 1) w := fun l J W hW hJa hJo hY h0 => by
  have e1 : CellsAt W Bs #[.slice (some ⟨PB, 0, none⟩) N N] 117 := (hW.block Bs h1.lt).trans h1
  have e2 : CellsAt W PB (ss.map scv).toArray 40 := (hW.block PB h2.lt).trans h2
  have hm : Mod w W (fun k => w.heap.size ≤ k) := ⟨hW.os, hW.tape, hW.output, hW.size, fun k hk _ => hW.block k hk⟩
  have e3 : ∀ (j : Nat) (s : Sc) (l : List UInt8), ss[j]? = some s → ls[j]? = some l → BytesAt W (scv s) l ∧ l.length ≤ 68719476736 ∧ ∀ k, inBlock (scv s) k → k < w.heap.size ∧ k ≠ X := fun j s l hs hl => by
    obtain ⟨x1, x2, x3⟩ := hb j s l hs hl
    exact ⟨x1.mod hm (fun k hk h => by have := (x3 k hk).1; omega), x2, x3⟩
  have hsz := hW.size
  have hlB := h1.lt
  have hlP := h2.lt
  obtain ⟨lim, hlim⟩ : ∃ x, w.heap.size = x := ⟨_, rfl⟩
  rw [hlim] at hsz hlB hlP hJo hY e3
  clear hb h1 h2 hm hW hlim
  refine callsIn_of_wp Tryz.func150 rfl trivial ?_ rfl
  simp only [Tryz.ntmps150, List.size_toArray, List.length_cons, List.length_nil, Nat.reduceAdd, Nat.reduceSub, Array.replicate_succ, Array.replicate_zero, List.push_toArray, List.append_toArray, List.nil_append, List.cons_append]
  have q1 := e1.cell 0
  simp at q1
  gi_wp2
  gi_loopw [3, 5, 8] (fun t _ i wr => ∃ j : Nat, j ≤ N ∧ i = .int .i64 j ∧ ∃ xs : List Sc, xs.length = 2 * j ∧ J xs wr ∧ W.heap.size ≤ wr.heap.size ∧ CellsAt wr PB (ss.map scv).toArray 40 ∧
      (∀ (j : Nat) (s : Sc) (l : List UInt8), ss[j]? = some s → ls[j]? = some l → BytesAt wr (scv s) l ∧ l.length ≤ 68719476736 ∧ ∀ k, inBlock (scv s) k → k < lim ∧ k ≠ X) ∧
      ∃ a c, t = .slice a (8 * j) c ∧ wr.ownsRow W.heap.size 5 1 (.slice a (8 * j) c) (8 * j) ((lensL ls j).map B) ∧ ∀ x ∈ xs, ∀ k, inBlock (scv x) k → k < wr.heap.size ∧ ¬ inBlock (.slice a (8 * j) c) k)
    (fun _ _ i _ => N - (intOf i).toNat)
  case atStart => exact ⟨0, Nat.zero_le _, rfl, [], rfl, h0, Nat.le_refl _, e2, e3, none, 0, rfl, World.ownsRow_nil _ _ _ _, fun x hx => by cases hx⟩
  case round =>
    clear h0 e1 e2 e3 q1
    obtain ⟨j, hj, rfl, xs, hxl, hJs, hz, h2, h3, a, c, rfl, hown, hdis⟩ := hrel
    by_cases hlt : j < N
    · obtain ⟨s, hs⟩ : ∃ s, ss[j]? = some s := ⟨_, List.getElem?_eq_getElem (by omega)⟩
      obtain ⟨p, hp⟩ : ∃ l, ls[j]? = some l := ⟨_, List.getElem?_eq_getElem (by omega)⟩
      obtain ⟨sa, sn, sc⟩ := s
      have q3 : wr.cell? ⟨PB, j, none⟩ = some (.slice sa sn sc) := by rw [h2.cell j]; simp [hs, scv]
      obtain ⟨hbp, hpl, hpf⟩ := h3 j _ p hs hp
      have hsn := lensL_snoc ls j p hp
      have hpn : p.length = sn := by
        obtain ⟨a', c', hf, _⟩ := hbp.form
        rw [List.length_map] at hf
        unfold scv at hf
        cases hf
        rfl
      have hcw : IntKind.u64.wrap (sn : Int) = ((sn : Nat) : Int) := u64_wrap_id _ (by omega) (by omega)
      have hpe := partL_even ls j p hp
      have hpo := partL_odd ls j p hp
      obtain ⟨L0, hL0⟩ : ∃ x, lensL ls j = x := ⟨_, rfl⟩
      rw [hL0] at hown hsn
      rw [hpn] at hsn hpl
      have HSN := Box.mk hsn
      have HS := Box.mk hs
      have HP := Box.mk hp
      have HPE := Box.mk hpe
      have HPO := Box.mk hpo
      obtain ⟨L8, hL8⟩ : ∃ x, 8 * j = x := ⟨_, rfl⟩
      rw [hL8] at hown hdis ⊢
      have HL8 := Box.mk hL8
      clear hL0 hsn hs hp hpe hpo hL8
      gi_wp2
      refine ⟨trivial, (callsIn_wide.2 (putlow_any W.heap.size L8 a c L0 sn 8 wr hown (by omega) (by have := HL8.out; omega) hz)).mono ?_⟩
      rintro e W1 ⟨a2, c2, rfl, hown1, m1, hin1⟩
      have hJ1 : J xs W1 := hJo xs wr W1 ⟨_, m1, fun k hk => ⟨by have := (hown.lt k hk).1; omega, own_isB hown k hk, fun x hx hb => (hdis x hx k hb).2 hk⟩⟩ hJs
      have hdis1 : ∀ x ∈ xs, ∀ k, inBlock (scv x) k → k < W1.heap.size ∧ ¬ inBlock (.slice a2 (L8 + 8) c2) k := fun x hx k hk => by
        obtain ⟨y1, y2⟩ := hdis x hx k hk
        exact ⟨by have := m1.size; omega, fun hk2 => by rcases hin1 k hk2 with h | h; exact y2 h; omega⟩
      have hlo : ∀ k, k < lim → ¬ inBlock (.slice a L8 c) k := fun k hk hb => by have := (hown.lt k hb).1; omega
      have hbp1 : BytesAt W1 (scv (sa, sn, sc)) p := hbp.mod m1 (fun k hk => hlo k (hpf k hk).1)
      have hR1 : PartIs lim X ls xs (sa, sn, sc) W1 := ⟨by rw [hxl, HPE.out]; exact hbp1, fun k hk => .inr (hpf k hk)⟩
      have h21 := h2.mod m1 (hlo PB hlP)
      have h31 : ∀ (j : Nat) (s : Sc) (l : List UInt8), ss[j]? = some s → ls[j]? = some l → BytesAt W1 (scv s) l ∧ l.length ≤ 68719476736 ∧ ∀ k, inBlock (scv s) k → k < lim ∧ k ≠ X := fun j s l hs hl => by
        obtain ⟨x1, x2, x3⟩ := h3 j s l hs hl
        exact ⟨x1.mod m1 (fun k hk => hlo k (x3 k hk).1), x2, x3⟩
      have hz1 : W.heap.size ≤ W1.heap.size := by have := m1.size; omega
      obtain ⟨fn, tmps, assign, body, hy, hR⟩ := hY xs (sa, sn, sc) W1 hJ1 hR1 (by omega)
      dsimp only [scv] at hy
      clear h2 h3 hown hdis hJs hJ1 hR1 q3 hin1 m1 hlo hbp hz hcw
      gi_wp2
      refine hR.mono ?_
      rintro e W2 ⟨rfl, hJ2, hk2⟩
      have h22 := hk2.cells h21 ⟨hlP, hX2⟩
      have hown2 := hk2.own hown1
      have h32 : ∀ (j : Nat) (s : Sc) (l : List UInt8), ss[j]? = some s → ls[j]? = some l → BytesAt W2 (scv s) l ∧ l.length ≤ 68719476736 ∧ ∀ k, inBlock (scv s) k → k < lim ∧ k ≠ X := fun j s l hs hl => by
        obtain ⟨x1, x2, x3⟩ := h31 j s l hs hl
        exact ⟨hk2.row x1 (fun k hk => .inr (x3 k hk)), x2, x3⟩
      have hz2 := hk2.size
      obtain ⟨xs1, hxs1⟩ : ∃ y, xs ++ [(sa, sn, sc)] = y := ⟨_, rfl⟩
      have hdis2 : ∀ x ∈ xs1, ∀ k, inBlock (scv x) k → k < W2.heap.size ∧ ¬ inBlock (.slice a2 (L8 + 8) c2) k := fun x hx k hk => by
        rw [← hxs1, List.mem_append, List.mem_singleton] at hx
        rcases hx with hx | rfl
        · obtain ⟨y1, y2⟩ := hdis1 x hx k hk
          exact ⟨by omega, y2⟩
        · have y1 := (hpf k hk).1
          exact ⟨by omega, fun hb => by have := (hown1.lt k hb).1; omega⟩
      have hxl1 : xs1.length = 2 * j + 1 := by rw [← hxs1, List.length_append, hxl]; rfl
      rw [hxs1] at hJ2
      clear hR hy h21 h31 hdis1 hbp1 hk2 hown1 hxs1 hxl
      obtain ⟨Z, hZ⟩ : ∃ z, (16 - sn % 16) % 16 = z := ⟨_, rfl⟩
      have hZi : ((Z : Nat) : Int) = -((sn : Int) % 16) % 16 := by omega
      have hZ16 : Z < 16 := by omega
      obtain ⟨W3, hrun3, cZ, m3⟩ := make_zeros Z W2 (by omega)
      rw [hZi] at hrun3
      have hzp : Box (zerosL p = List.replicate Z 0) := ⟨by unfold zerosL; rw [hpn, hZ]⟩
      have hJ3 : J xs1 W3 := hJa _ _ _ none hJ2 (grown_of_mod m3) (fun r e => by cases e)
      have h23 := h22.mod m3 nob
      have hown3 := owns_mod hown2 m3 (fun _ _ => nob)
      have h33 : ∀ (j : Nat) (s : Sc) (l : List UInt8), ss[j]? = some s → ls[j]? = some l → BytesAt W3 (scv s) l ∧ l.length ≤ 68719476736 ∧ ∀ k, inBlock (scv s) k → k < lim ∧ k ≠ X := fun j s l hs hl => by
        obtain ⟨x1, x2, x3⟩ := h32 j s l hs hl
        exact ⟨x1.mod m3 (fun _ _ => nob), x2, x3⟩
      have hz3 := m3.size
      have hlz := cZ.lt
      have hol : ¬ inBlock (.slice a2 (L8 + 8) c2) W2.heap.size := fun hk => by have := (hown2.lt _ hk).2; omega
      have hdis3 : ∀ x ∈ xs1 ++ [(some ⟨W2.heap.size, 0, none⟩, Z, Z)], ∀ k, inBlock (scv x) k → k < W3.heap.size ∧ ¬ inBlock (.slice a2 (L8 + 8) c2) k := fun x hx k hk => by
        rw [List.mem_append, List.mem_singleton] at hx
        rcases hx with hx | rfl
        · obtain ⟨y1, y2⟩ := hdis2 x hx k hk
          exact ⟨by omega, y2⟩
        · obtain rfl : W2.heap.size = k := by simpa [inBlock, Value.ownBlock, scv] using hk
          exact ⟨hlz, hol⟩
      obtain ⟨G, hG⟩ : ∃ g, W2.heap.size = g := ⟨_, rfl⟩
      rw [hG] at hrun3 cZ hz3 hlz hdis3 hz2
      have hbz : BytesAt W3 (scv (some ⟨G, 0, none⟩, Z, Z)) (zerosL p) := by
        rw [hzp.out]
        exact bytes_block (n := Z) cZ (by simp) (by omega)
      have hR3 : PartIs lim X ls xs1 (some ⟨G, 0, none⟩, Z, Z) W3 := ⟨by rw [hxl1, HPO.out]; exact hbz, fun k hk => by
        obtain rfl : G = k := by simpa [inBlock, Value.ownBlock, scv] using hk
        exact .inl ⟨_, cZ⟩⟩
      have hxl3 : (xs1 ++ [((some ⟨G, 0, none⟩, Z, Z) : Sc)]).length = 2 * (j + 1) := by rw [List.length_append, hxl1]; rfl
      obtain ⟨fn2, tmps2, assign2, body2, hy2, hRR⟩ := hY xs1 (some ⟨G, 0, none⟩, Z, Z) W3 hJ3 hR3 (by omega)
      dsimp only [scv] at hy2
      have HZI := Box.mk hZi
      clear hZ hzp hJ2 hJ3 h22 hown2 h32 hdis2 m3 cZ hG hbz hR3 hol hxl1 hZi
      gi_wp2
      refine hRR.mono ?_
      rintro e W4 ⟨rfl, hJ4, hk4⟩
      have h24 := hk4.cells h23 ⟨hlP, hX2⟩
      have hown4 := hk4.own hown3
      have h34 : ∀ (j : Nat) (s : Sc) (l : List UInt8), ss[j]? = some s → ls[j]? = some l → BytesAt W4 (scv s) l ∧ l.length ≤ 68719476736 ∧ ∀ k, inBlock (scv s) k → k < lim ∧ k ≠ X := fun j s l hs hl => by
        obtain ⟨x1, x2, x3⟩ := h33 j s l hs hl
        exact ⟨hk4.row x1 (fun k hk => .inr (x3 k hk)), x2, x3⟩
      have hz4 := hk4.size
      clear hRR hy2 h23 h33 hk4 hown3
      gi_wp2
      go_roundw
      case rel =>
        have e8 : 8 * (j + 1) = L8 + 8 := by have := HL8.out; omega
        refine ⟨j + 1, by omega, by go_num, _, hxl3, hJ4, by omega, h24, h34, a2, c2, by rw [e8], by rw [e8, HSN.out]; exact hown4, fun x hx k hk => ?_⟩
        obtain ⟨y1, y2⟩ := hdis3 x hx k hk
        rw [e8]
        exact ⟨by omega, y2⟩
      case measure => simp [intOf]; omega
    · obtain rfl : j = N := by omega
      have hlast := partL_last ls
      rw [hll] at hlast
      have hlens : lensL ls j = eightsL (ls.map List.length) := by
        unfold lensL
        rw [List.take_of_length_le (by omega)]
      obtain ⟨L8, hL8⟩ : ∃ x, 8 * j = x := ⟨_, rfl⟩
      rw [hL8] at hown hdis ⊢
      obtain ⟨Z, hZ⟩ : ∃ x, lensL ls j = x := ⟨_, rfl⟩
      rw [hZ] at hown hlens
      have hR5 : PartIs lim X ls xs (a, L8, c) wr := ⟨by rw [hxl, hlast, ← hlens]; exact BytesAt.of_owns hown, fun k hk => .inl (own_isB hown k hk)⟩
      have hxl5 : (xs ++ [((a, L8, c) : Sc)]).length = 2 * j + 1 := by rw [List.length_append, hxl]; rfl
      obtain ⟨fn, tmps, assign, body, hy, hR⟩ := hY xs (a, L8, c) wr hJs hR5 (by omega)
      dsimp only [scv] at hy
      have HX := Box.mk hxl5
      clear h2 h3 hown hdis hJs hR5 hlast hlens hZ hL8 hxl5
      gi_wp2
      refine hR.mono ?_
      rintro e W4 ⟨rfl, hJ4, hk4⟩
      clear hR hy hk4
      gi_wp2
      go_end0
      exact ⟨⟨_, rfl⟩, _, HX.out, hJ4⟩

end Go.Proofs.YtaeociedjdgdfaaGreatDoor

namespace Go.Proofs.YtaeociedjdgdfaaGreatDoor
open Go.RowKit Go.Shelf
set_option linter.unusedSimpArgs false
attribute [local go_sem] Oper.semAt_some

theorem exec_load_cells {P : Program} {w : World} {o : Oper} {a : Act} (ty : TypeId) (x : Operand) (ho : o.op = .load ty x) (g p n : Nat) (e : TypeId) (hx : a.eval x = .pointer (some ⟨g, p, none⟩)) (xs : List Value)
    (hu : P.underlying ty = some (.array n e)) (hi : (P.info? ty).map (·.size) = some n) (hl : xs.length = n) (hc : ∀ (j : Nat) v, xs[j]? = some v → w.cell? ⟨g, p + j, none⟩ = some v) : (execOp a.eval o).run P w = .ok (.value (.agg xs.toArray)) w := by
  unfold execOp
  simp only [ho, hx, Instr.loadAt, Instr.sureAddr, Sem.run_bind, Sem.run_pure, Result.andThen_ok, run_loadVar_cells ty e n g p xs hu hi hl hc]

/-- The parts of a list, one by one. -/
def partsL (ls : List (List UInt8)) (n : Nat) : List (List UInt8) := (List.range n).map (partL ls)
theorem partsL_at (ls : List (List UInt8)) (n i : Nat) (h : i < n) : (partsL ls n)[i]? = some (partL ls i) := by simp [partsL, List.getElem?_range h]
/-- The tag. -/
def tagL (key nonce aad turned : List UInt8) : List UInt8 := polyL ((blockL key 0 nonce).take 32) (partsL [aad, turned] 5).flatten
theorem tagL_length (key nonce aad turned : List UInt8) : (tagL key nonce aad turned).length = 16 := polyL_length _ _
theorem total_parts (aad turned : List UInt8) : total (partsL [aad, turned] 5) ≤ aad.length + turned.length + 48 ∧ 0 < total (partsL [aad, turned] 5) := by
  have e : partsL [aad, turned] 5 = [aad, zerosL aad, turned, zerosL turned, eightsL [aad.length, turned.length]] := rfl
  rw [e]
  have h1 := zerosL_length aad
  have h2 := zerosL_length turned
  have h3 := eightsL_length [aad.length, turned.length]
  simp only [total, List.map_cons, List.map_nil, List.sum_cons, List.sum_nil, h1, h2, h3, List.length_cons, List.length_nil]
  omega

/-- The result, the block, the rows that were gathered. -/
structure TagAt (w : World) (H S X b : Nat) (once : List UInt8) (ls : List (List UInt8)) (pre : List Sc) (W : World) : Prop where
  out : CellsAt W (H + 2) (arrB (List.replicate 16 0)) 96
  blk : CellsAt W S (arrB once) 128
  row : ∃ a c, CellsAt W X #[.slice a pre.length c] 117 ∧ W.ownsRow b 40 1 (.slice a pre.length c) pre.length (pre.map scv)
  parts : ∀ (i : Nat) (x : Sc), pre[i]? = some x → BytesAt W (scv x) (partL ls i) ∧ Far b X x W
  md : Mod w W Nob
  size : b ≤ W.heap.size

theorem part_mod {lim X : Nat} {x : Sc} {l : List UInt8} {W W' : World} {T : Nat → Prop} (hm : Mod W W' T) (hT : ∀ k, inBlock (scv x) k → ¬ T k) (h : BytesAt W (scv x) l ∧ Far lim X x W) : BytesAt W' (scv x) l ∧ Far lim X x W' :=
  ⟨h.1.mod hm hT, fun k hk => (h.2 k hk).imp (fun ⟨cs, hc⟩ => ⟨cs, hc.mod hm (hT k hk)⟩) id⟩
theorem not_isB {W : World} {k : Nat} {o : Obj} (h : W.heap[k]? = some o) (ho : o.isCells = false) : ¬ IsB W k := fun ⟨cs, hc⟩ => by
  rw [show W.heap[k]? = some (.cells cs 5) from hc] at h
  cases h
  cases ho
theorem own_notB {A : World} {base n : Nat} {v : Value} {xs : List Value} (c : A.ownsRow base 40 1 v n xs) (k : Nat) (hk : inBlock v k) : ¬ IsB A k := by
  rintro ⟨cs, hc⟩
  rcases c with ⟨hl, ⟨rfl, h0⟩ | ⟨g, cap, cur, rfl, hb, hg, rest⟩⟩
  · cases hk
  · cases hk
    have := Option.some.inj (hc.symm.trans hg)
    cases this
theorem far_not {lim X : Nat} {x : Sc} {W : World} {T : Nat → Prop} (h : Far lim X x W) (hT : ∀ k, T k → ¬ IsB W k ∧ (k = X ∨ lim ≤ k)) : ∀ k, inBlock (scv x) k → ¬ T k := fun k hk ht => by
  obtain ⟨y1, y2⟩ := hT k ht
  rcases h k hk with h1 | h1
  · exact y1 h1
  · omega

set_option maxRecDepth 100000 in
set_option maxHeartbeats 4000000 in
theorem tag_any (key nonce aad turned : List UInt8) (sa st : Sc) (w : World) (hk : key.length = 32) (hn : nonce.length = 12) (ha : BytesAt w (scv sa) aad) (ht : BytesAt w (scv st) turned) (hal : aad.length ≤ 1073741824) (htl : turned.length ≤ 1073741824)
    (hfa : ∀ k, inBlock (scv sa) k → k < w.heap.size) (hft : ∀ k, inBlock (scv st) k → k < w.heap.size) :
    Calls Tryz.prog 102 #[.agg (arrB key), .agg (arrB nonce), scv sa, scv st] w fun e w' => e = .returned (.agg (arrB (tagL key nonce aad turned))) ∧ Mod w w' Nob := by
  obtain ⟨aa, an, ac⟩ := sa
  obtain ⟨ta, tn, tc⟩ := st
  dsimp only [scv]
  refine (callsIn_wide (n := 6)).1 ?_
  refine callsIn_of_wp_marks Tryz.func102 rfl trivial ?_ rfl
  simp only [Tryz.ntmps102, List.size_toArray, List.length_cons, List.length_nil, Nat.reduceAdd, Nat.reduceSub, Array.replicate_succ, Array.replicate_zero, List.push_toArray, List.append_toArray, List.nil_append, List.cons_append]
  refine wpIn_wide.2 ?_
  have cK := ((CellsAt.new w (arrB key) 22).alloc (.cells (arrB nonce) 47)).alloc (.cells (arrB (List.replicate 16 0)) 96)
  have cN := (CellsAt.new (w.alloc (.cells (arrB key) 22)) (arrB nonce) 47).alloc (.cells (arrB (List.replicate 16 0)) 96)
  have cO := CellsAt.new ((w.alloc (.cells (arrB key) 22)).alloc (.cells (arrB nonce) 47)) (arrB (List.replicate 16 0)) 96
  have m0 := (((Mod.refl w Nob).alloc (.cells (arrB key) 22)).alloc (.cells (arrB nonce) 47)).alloc (.cells (arrB (List.replicate 16 0)) 96)
  simp only [World.size_alloc] at cN cO
  have hks : (arrB key).size = 32 := by rw [arrB_size, hk]
  have hns : (arrB nonce).size = 12 := by rw [arrB_size, hn]
  go_wp2_with (first
    | (refine wpList_load_arr rfl 22 _ rfl w.heap.size 32 5 rfl (arrB key) (by exact cK) Tryz.underlying22 size_b32 hks ?_)
    | (refine wpList_load_arr rfl 47 _ rfl (w.heap.size + 1) 12 5 rfl (arrB nonce) (by exact cN) Tryz.underlying47 size_b12 hns ?_))
  have hz0 : (((w.alloc (.cells (arrB key) 22)).alloc (.cells (arrB nonce) 47)).alloc (.cells (arrB (List.replicate 16 0)) 96)).heap.size = w.heap.size + 3 := by simp
  change Calls _ _ _ (((w.alloc (.cells (arrB key) 22)).alloc (.cells (arrB nonce) 47)).alloc (.cells (arrB (List.replicate 16 0)) 96)) _
  obtain ⟨W1, hW1⟩ : ∃ W1, (((w.alloc (.cells (arrB key) 22)).alloc (.cells (arrB nonce) 47)).alloc (.cells (arrB (List.replicate 16 0)) 96)) = W1 := ⟨_, rfl⟩
  rw [hW1] at cO m0 hz0 ⊢
  clear cK cN hW1
  refine (block_any key nonce 0 W1 hk hn).mono ?_
  rintro e W2 ⟨rfl, m1⟩
  have hbl := blockL_length key 0 nonce
  obtain ⟨once, ho⟩ : ∃ x, blockL key 0 nonce = x := ⟨_, rfl⟩
  rw [ho] at hbl
  have HO := Box.mk ho
  have hos : (arrB once).size = 64 := by rw [arrB_size, hbl]
  replace cO := cO.mod m1 nob
  replace m0 := m0.trans m1
  have hz2 := m1.size
  rw [ho]
  clear ho m1
  go_wp2_with (first
    | (refine wpList_store_arr rfl 128 _ _ rfl W2.heap.size 64 (arrB once) (arrB (List.replicate 64 0)) rfl rfl (by exact CellsAt.new W2 (arrB (List.replicate 64 0)) 128) size_b64 hos (by rw [arrB_size]; rfl) (arrB_one _) ?_))
  change Calls _ _ _ ((((W2.alloc (.cells (arrB (List.replicate 64 0)) 128)).setRow W2.heap.size (arrB once)).alloc (.cells #[.slice none 0 0] 117)).alloc (.cells #[.slice aa an ac, .slice ta tn tc] 40)) _
  have hA := ((((Mod.refl W2 Nob).alloc (.cells (arrB (List.replicate 64 0)) 128)).setRow (g := W2.heap.size) (.inr (Nat.le_refl _)) (arrB once)).alloc (.cells #[.slice none 0 0] 117)).alloc (.cells #[.slice aa an ac, .slice ta tn tc] 40)
  have cB := (((CellsAt.new W2 (arrB (List.replicate 64 0)) 128).setRow (arrB once)).alloc (.cells #[.slice none 0 0] 117)).alloc (.cells #[.slice aa an ac, .slice ta tn tc] 40)
  have cX := (new_at (w := (W2.alloc (.cells (arrB (List.replicate 64 0)) 128)).setRow W2.heap.size (arrB once)) (cs := #[.slice none 0 0]) (t := 117) (g := W2.heap.size + 1) (by simp)).alloc (.cells #[.slice aa an ac, .slice ta tn tc] 40)
  have cP := new_at (w := ((W2.alloc (.cells (arrB (List.replicate 64 0)) 128)).setRow W2.heap.size (arrB once)).alloc (.cells #[.slice none 0 0] 117)) (cs := #[.slice aa an ac, .slice ta tn tc]) (t := 40) (g := W2.heap.size + 2) (by simp)
  have hz3 : ((((W2.alloc (.cells (arrB (List.replicate 64 0)) 128)).setRow W2.heap.size (arrB once)).alloc (.cells #[.slice none 0 0] 117)).alloc (.cells #[.slice aa an ac, .slice ta tn tc] 40)).heap.size = W2.heap.size + 3 := by simp
  obtain ⟨W3, hW3⟩ : ∃ W3, ((((W2.alloc (.cells (arrB (List.replicate 64 0)) 128)).setRow W2.heap.size (arrB once)).alloc (.cells #[.slice none 0 0] 117)).alloc (.cells #[.slice aa an ac, .slice ta tn tc] 40)) = W3 := ⟨_, rfl⟩
  rw [hW3] at hA cB cX cP hz3 ⊢
  obtain ⟨S, hS⟩ : ∃ S, W2.heap.size = S := ⟨_, rfl⟩
  rw [hS] at cB cX cP hz3 hz2 ⊢
  obtain ⟨H, hH⟩ : ∃ H, w.heap.size = H := ⟨_, rfl⟩
  rw [hH] at cO hz0 hfa hft ⊢
  have HH := Lib.hid hH
  replace cO := cO.mod hA nob
  replace m0 := m0.trans hA
  clear hW3 hA hS hH
  refine (padded_any _ 2 2 W3).mono ?_
  rintro e W4 ⟨rfl, hW4⟩
  have hA := (Mod.refl W3 Nob).alloc (.cells #[.slice (some ⟨S + 1 + 1, 0, none⟩) 2 2] 117)
  have cQ := CellsAt.new W3 #[.slice (some ⟨S + 1 + 1, 0, none⟩) 2 2] 117
  have hz4 : W4.heap.size = S + 4 := by rw [hW4]; simp [hz3]
  rw [← hW4] at hA cQ
  rw [hz3] at cQ ⊢
  replace cO := cO.mod hA nob
  replace m0 := m0.trans hA
  replace cB := cB.mod hA nob
  replace cX := cX.mod hA nob
  replace cP := cP.mod hA nob
  clear hA hW4 hz3
  have ha4 := ha.mod m0 (fun _ _ => nob)
  have ht4 := ht.mod m0 (fun _ _ => nob)
  have hseq := padded_full 5 (by omega) (S + 3) (S + 1 + 1) 2 (S + 1) [(aa, an, ac), (ta, tn, tc)] [aad, turned] W4 (by omega) rfl rfl cQ cP (by omega) (fun j s l hs hl => by
    match j, hs, hl with
    | 0, hs, hl => cases hs; cases hl; exact ⟨ha4, by omega, fun k hk => by have := hfa k hk; omega⟩
    | 1, hs, hl => cases hs; cases hl; exact ⟨ht4, by omega, fun k hk => by have := hft k hk; omega⟩
    | (j + 2), hs, hl => cases hs)
  rw [hz4] at hseq
  go_wp2_with fail
  refine (wpIn_wide (n := 6)).1 ?_
  refine wpIn_rangeFunc_full (n := 6) (by omega) (gf := 150) (lb := #[.pointer (some ⟨S + 3, 0, none⟩)]) rfl (enters_of Tryz.func150 (by kernel_rfl) rfl)
    hseq ?ow (fun h k => h.trans k) (fun W l o o' _ h1 h2 _ => KB.put W l o o' h1 h2) (fun _ => rfl)
    (fun pre W => TagAt w H S (S + 1) (S + 4) once [aad, turned] pre W) ?own ?owni ⟨cO, cB, ⟨none, 0, cX, World.ownsRow_nil _ _ _ _⟩, (fun i x hx => by cases hx), m0, by omega⟩
    (fun pre x a' W => a' = { tmps := #[.agg (arrB key), .agg (arrB nonce), .slice aa an ac, .slice ta tn tc, .pointer (some ⟨H, 0, none⟩), .pointer (some ⟨H + 1, 0, none⟩), undef, undef, .pointer (some ⟨H + 1 + 1, 0, none⟩), .pointer (some ⟨S, 0, none⟩), .pointer (some ⟨S + 1, 0, none⟩), scv x, .agg (arrB key), .agg (arrB nonce), .agg (arrB once), .slice aa an ac, .slice ta tn tc, .slice (some ⟨S + 1 + 1, 0, none⟩) 2 2, .func (.func 150) #[] #[.pointer (some ⟨S + 3, 0, none⟩)], scv x, undef, undef, undef, undef, undef, undef, undef, undef, undef], defers := [] } ∧ PartIs (S + 4) (S + 1) [aad, turned] pre x W) ?ownax
    ?assign ?body ?done
  case ow =>
    rintro pre A B ⟨T, hm, hT⟩ k o h1 h2
    exact hm.keep h1 (fun ht => not_isB h1 h2 (hT k ht).2.1)
  case own =>
    rintro pre W W' row ⟨o1, o2, ⟨ra, rc, o3, o4⟩, o5, o6, o7⟩ hg hr
    have hc := fun r e => (hr r e).2
    have hm : Mod W W' (fun k => row = some k) := (Mod.refl W _).grown hg (fun k e => .inl e)
    have hT : ∀ k, row = some k → ¬ IsB W k ∧ (k = S + 1 ∨ S + 4 ≤ k) := fun k e => by
      obtain ⟨h1, o, h2, h3⟩ := hr k e
      exact ⟨not_isB h2 h3, .inr (by omega)⟩
    refine ⟨(grownBy_keeps_cells hg hc o1 rfl).trans o1, (grownBy_keeps_cells hg hc o2 rfl).trans o2, ⟨ra, rc, (grownBy_keeps_cells hg hc o3 rfl).trans o3, owns_mod o4 hm (fun k hk e => ?_)⟩, fun i x hx => part_mod hm (far_not (o5 i x hx).2 hT) (o5 i x hx), o6.grown hg (fun k e => .inr (by have := (hr k e).1; have := HH.out; omega)), by have := hm.size; omega⟩
    obtain ⟨ob, h5, h6⟩ := owns_cells o4 k hk
    obtain ⟨_, ob2, h7, h8⟩ := hr k e
    rw [h5] at h7; cases h7; rw [h6] at h8; cases h8
  case owni =>
    rintro pre A B ⟨T, hm, hT⟩ ⟨o1, o2, ⟨ra, rc, o3, o4⟩, o5, o6, o7⟩
    have hlo : ∀ k, k < S + 4 → ¬ T k := fun k hk ht => by have := (hT k ht).1; omega
    exact ⟨o1.mod hm (hlo _ (by omega)), o2.mod hm (hlo _ (by omega)), ⟨ra, rc, o3.mod hm (hlo _ (by omega)), owns_mod o4 hm (fun k hk ht => own_notB o4 k hk (hT k ht).2.1)⟩, fun i x hx => part_mod hm (fun k hk ht => (hT k ht).2.2 x (List.mem_of_getElem? hx) hk) (o5 i x hx),
      o6.drop hm (fun k ht => .inr (by have := (hT k ht).1; have := HH.out; omega)), by have := hm.size; omega⟩
  case ownax =>
    rintro pre x a' _ W W' row ⟨h0, h1⟩ hg hr
    have hm : Mod W W' (fun k => row = some k) := (Mod.refl W _).grown hg (fun k e => .inl e)
    exact ⟨h0, part_mod hm (far_not h1.2 (fun k e => by
      obtain ⟨h1, o, h2, h3⟩ := hr k e
      exact ⟨not_isB h2 h3, .inr (by omega)⟩)) h1⟩
  case assign =>
    intro l pre x W K hI hR hK
    gi_wp2
    exact hK _ _ (KeepsFrom.refl _ _) (KB.of_mod (Mod.refl W Nob) (fun k h => h.elim)) hI ⟨rfl, hR⟩
  case body =>
    rintro l pre ⟨xa, xl, xc⟩ a' W hl _ ⟨o1, o2, ⟨ra, rc, o3, o4⟩, o5, o6, o7⟩ ⟨rfl, hR⟩ hlt
    obtain ⟨PL, hPL⟩ : ∃ n, pre.length = n := ⟨_, rfl⟩
    unfold PartIs at hR
    rw [hPL] at o3 o4 hR hlt
    have HPL := Lib.hid hPL
    obtain ⟨j0, hj, hz0, hz1, hz2⟩ := info_parts info_bytes
    have hm1 := (Mod.refl W Nob).alloc (.cells #[.slice xa xl xc] 40)
    have hown1 := owns_mod o4 hm1 (fun _ _ => nob)
    have hnb := CellsAt.new W #[.slice xa xl xc] 40
    have q3 := o3.cell 0
    simp at q3
    have hcl := o3.lt
    dsimp only [scv]
    clear hPL hseq cO cB cX cP cQ m0 ha4 ht4 ha ht
    gi_wp2_with (gi_at_builtin; refine wpListIn_append_lies rfl (.tmp 20) (.tmp 22) 117 rfl (S + 4) 40 j0 _ 1 24 Tryz.underlying117 hj hz0 hz1 hz2 rfl (by omega) (.slice ra PL rc) PL _ rfl hown1 ⟨W.heap.size, 0, none⟩ 1 1 [.slice xa xl xc] rfl rfl (World.news_of_block (cs := #[.slice xa xl xc]) (t := 40) (fr := (0, 0)) hnb) (by simp [Value.oneCell']) (by omega) (by unfold maxLen; omega) (by omega) (by simp; omega) (W.heap.size + 1) (by simp) ?_)
    intro gg cap w3 hown3 hgr hat hlt3
    have hm3 := ((Mod.refl W (inBlock (.slice ra PL rc))).alloc (.cells #[.slice xa xl xc] 40)).grown hgr (fun k hk => .inl hk)
    have hgn : ∀ k, k < S + 4 → ¬ inBlock (.slice ra PL rc) k := fun k hk h => by have := (o4.lt k h).1; omega
    have c3 := o3.mod hm3 (hgn _ (by omega))
    have d3 := c3.cell 0
    have e3 := c3.free 0
    simp at d3
    have hS := (Mod.refl w3 (· = S + 1)).setCell (p := ⟨S + 1, 0, none⟩) (.inl rfl) (.slice (some ⟨gg, 0, none⟩) (PL + 1) cap)
    have c4 := c3.set 0 (.slice (some ⟨gg, 0, none⟩) (PL + 1) cap)
    have hgS : S + 4 ≤ gg := (hown3.lt gg rfl).1
    have hown4 := owns_keep hown3 hS (by omega)
    have hz3 := hm3.size
    have hz5 := hS.size
    have kf : KeepsFrom W4.heap.size W (w3.setCell ⟨S + 1, 0, none⟩ (.slice (some ⟨gg, 0, none⟩) (PL + 1) cap)) :=
      ((KeepsOthers.alloc W (.cells #[.slice xa xl xc] 40)).from _).trans ((keepsFrom_grown (B := W4.heap.size) hgr (fun j hj => .inr (by
        obtain ⟨o, h1, h2⟩ := owns_cells o4 j hj
        exact ⟨o, hm1.keep h1 nob, h2⟩))).trans (keepsFrom_mod hS (fun k (hk : k = S + 1) => by omega)))
    have hT3 : ∀ k, inBlock (.slice ra PL rc) k → ¬ IsB W k ∧ (k = S + 1 ∨ S + 4 ≤ k) := fun k hk => ⟨own_notB o4 k hk, .inr (o4.lt k hk).1⟩
    have hTS : ∀ k, k = S + 1 → ¬ IsB w3 k ∧ (k = S + 1 ∨ S + 4 ≤ k) := fun k hk => by
      subst hk
      exact ⟨fun ⟨cs, hc⟩ => (by cases Option.some.inj (hc.symm.trans c3)), .inl rfl⟩
    have kb : KB (S + 4) (S + 1) W (w3.setCell ⟨S + 1, 0, none⟩ (.slice (some ⟨gg, 0, none⟩) (PL + 1) cap)) :=
      (KB.of_mod hm3 (fun k hk => ⟨(hT3 k hk).2, (hT3 k hk).1⟩)).trans (KB.of_mod hS (fun k hk => ⟨(hTS k hk).2, (hTS k hk).1⟩))
    have hpm : ∀ (x : Sc) (l : List UInt8), BytesAt W (scv x) l ∧ Far (S + 4) (S + 1) x W → BytesAt (w3.setCell ⟨S + 1, 0, none⟩ (.slice (some ⟨gg, 0, none⟩) (PL + 1) cap)) (scv x) l ∧ Far (S + 4) (S + 1) x (w3.setCell ⟨S + 1, 0, none⟩ (.slice (some ⟨gg, 0, none⟩) (PL + 1) cap)) := fun x l h => by
      have h1 := part_mod hm3 (far_not h.2 hT3) h
      exact part_mod hS (far_not h1.2 hTS) h1
    have o1' := (o1.mod hm3 (hgn _ (by omega))).mod hS (by omega)
    have o2' := (o2.mod hm3 (hgn _ (by omega))).mod hS (by omega)
    have o6' := (o6.drop hm3 (fun k hk => .inr (by have := (hT3 k hk).2; have := (o4.lt k hk).1; have := HH.out; omega))).drop hS (fun k (hk : k = S + 1) => .inr (by have := HH.out; omega))
    clear hj hz0 hz1 hz2 hT3 hTS hgn hnb hown1 hm1 hm3 hgr hown3 hS o1 o2 o3 o4 o6 c3
    gi_wp2
    refine ⟨kf, kb, o1', o2', ⟨some ⟨gg, 0, none⟩, cap, ?_, ?_⟩, fun i x hx => ?_, o6', by omega⟩
    · rw [List.length_append, HPL.out]; exact c4
    · rw [List.length_append, HPL.out, List.map_append]; exact hown4
    · rw [List.getElem?_append] at hx
      split at hx
      · exact hpm x _ (o5 i x hx)
      · rename_i hi
        have h0 : i = PL := by
          have h1 := (List.getElem?_eq_some_iff.1 hx).1
          have h2 := HPL.out
          simp at h1
          omega
        subst h0
        rw [HPL.out, Nat.sub_self] at hx
        cases hx
        exact hpm _ _ hR
  case done =>
    rintro D xs W hD hx ⟨o1, o2, ⟨ra, rc, o3, o4⟩, o5, o6, o7⟩ hK
    have hx5 : xs.length = 5 := hx
    rw [hx5] at o3 o4
    obtain ⟨g, rfl⟩ : ∃ g, ra = some ⟨g, 0, none⟩ := by
      rcases o4.2 with ⟨_, h0⟩ | ⟨g, cap', cur, h0, _⟩
      · omega
      · cases h0; exact ⟨g, rfl⟩
    obtain ⟨_, _, hfm, hrc, hrm⟩ := owns_form o4
    cases hfm
    have hrows : RowsAt W (.slice (some ⟨g, 0, none⟩) 5 rc) (partsL [aad, turned] 5) := by
      refine ⟨xs.map scv, .inr ⟨g, 0, rc, by rw [List.length_map, hx5], (o4.lt g rfl).2, by rw [List.length_map, hx5]; exact hrc, hrm, fun i u hi => ?_⟩, by simp [partsL, hx5], fun i u l hu hl => ?_⟩
      · rw [Nat.zero_add]
        exact own_cell o4 i u hi
      · have hi : i < 5 := by
          have := (List.getElem?_eq_some_iff.1 hu).1
          rw [List.length_map, hx5] at this
          exact this
        rw [partsL_at _ _ _ hi] at hl
        cases hl
        rw [List.getElem?_map, Option.map_eq_some_iff] at hu
        obtain ⟨x, hx, rfl⟩ := hu
        exact (o5 i x hx).1
    obtain ⟨ht1, ht2⟩ := total_parts aad turned
    have q3 := o3.cell 0
    simp at q3
    have mDr := (Mod.refl W Nob).drew
    have hok : (once.take 32).length = 32 := by rw [List.length_take, hbl]; rfl
    have hcells : ∀ V : World, CellsAt V S (arrB once) 128 → ∀ (j : Nat) v, ((once.take 32).map B)[j]? = some v → V.cell? ⟨S, 0 + j, none⟩ = some v := fun V hV j v hv => by
      rw [Nat.zero_add, hV.cell j]
      have hj : j < 32 := by have := (List.getElem?_eq_some_iff.1 hv).1; rw [List.length_map, hok] at this; exact this
      rw [List.getElem?_map, List.getElem?_take_of_lt hj] at hv
      simpa [arrB] using hv
    have hpo := poly_any (once.take 32) _ _ W.drew hok (hrows.mod mDr (fun _ => nob)) (by omega) ht2
    have hres : polyL (once.take 32) (partsL [aad, turned] 5).flatten = tagL key nonce aad turned := by unfold tagL; rw [HO.out]
    rw [hres] at hpo
    have htl := tagL_length key nonce aad turned
    obtain ⟨out, hout⟩ : ∃ x, tagL key nonce aad turned = x := ⟨_, rfl⟩
    rw [hout] at hpo htl
    have HOUT := Box.mk hout
    obtain ⟨kk, hkk⟩ : ∃ x, once.take 32 = x := ⟨_, rfl⟩
    rw [hkk] at hok hcells hpo
    have hto := run_toArray (P := Tryz.prog) 22 32 5 (some ⟨S, 0, none⟩) 32 64 Tryz.underlying22 (Nat.le_refl _)
    have hS0 : CellsAt W.drew S (arrB once) 128 ∧ W.drew.cell? ⟨S + 1, 0, none⟩ = some (.slice (some ⟨g, 0, none⟩) 5 rc) := ⟨o2.mod mDr nob, q3⟩
    clear hseq cO cB cX cP cQ m0 ha4 ht4 ha ht o4 o5 hrows hres hout hkk hx hx5 ht1 ht2
    go_wp2_with fail
    refine wp_no_panic ?_
    refine wp_region_U (S := fun W => CellsAt W S (arrB once) 128 ∧ W.cell? ⟨S + 1, 0, none⟩ = some (.slice (some ⟨g, 0, none⟩) 5 rc)) 5 (by kernel_rfl) ?_
    refine wpAnyU_takeP (i := 0) (v := .slice (some ⟨S, 0, none⟩) 32 64) rfl (by kernel_rfl) (by kernel_rfl) (by kernel_rfl) (by decide) (fun _ _ _ h => h) (Or.inl ⟨by rfl, fun W => by go_simp⟩) (fun _ => hS0) ?_
    try simp only [Act.put, List.getElem_toArray, List.getElem_cons_zero, List.getElem_cons_succ, List.setIfInBounds_toArray, List.set_cons_zero, List.set_cons_succ]
    refine wpAnyU_takeP (i := 1) (v := .pointer (some ⟨S, 0, none⟩)) rfl (by kernel_rfl) (by kernel_rfl) (by kernel_rfl) (by decide) (fun _ _ _ h => h) (Or.inl ⟨by rfl, fun W => by go_simp⟩) (fun _ => hS0) ?_
    try simp only [Act.put, List.getElem_toArray, List.getElem_cons_zero, List.getElem_cons_succ, List.setIfInBounds_toArray, List.set_cons_zero, List.set_cons_succ]
    refine wpAnyU_take (i := 2) (v := .agg (arrB kk)) rfl (by kernel_rfl) (by kernel_rfl) (by kernel_rfl) (by kernel_rfl) (by kernel_rfl) (fun _ _ _ h => h) (Or.inl ⟨by rfl, fun W hSw => exec_load_cells 22 _ rfl S 0 32 5 rfl (kk.map B) Tryz.underlying22 size_b32 (by rw [List.length_map, hok]) (hcells W hSw.1)⟩) hS0 ?_
    try simp only [Act.put, List.getElem_toArray, List.getElem_cons_zero, List.getElem_cons_succ, List.setIfInBounds_toArray, List.set_cons_zero, List.set_cons_succ]
    refine wpAnyU_take (i := 3) (v := .slice (some ⟨g, 0, none⟩) 5 rc) rfl (by kernel_rfl) (by kernel_rfl) (by kernel_rfl) (by kernel_rfl) (by kernel_rfl) (fun _ _ _ h => h) (Or.inl ⟨by rfl, fun W hSw => by obtain ⟨_, s2⟩ := hSw; go_simp⟩) hS0 ?_
    try simp only [Act.put, List.getElem_toArray, List.getElem_cons_zero, List.getElem_cons_succ, List.setIfInBounds_toArray, List.set_cons_zero, List.set_cons_succ]
    refine wpAnyU_one 4 _ (by kernel_rfl) rfl (fun K hK => ?_)
    go_simp
    refine hpo.mono ?_
    rintro e V1 ⟨rfl, m4⟩
    go_wp2_with fail
    refine hK.out _ _ (fun _ => ⟨hS0.1.mod m4 nob, by have := (o3.mod mDr nob).mod m4 nob; have := this.cell 0; simpa using this⟩) ?_
    clear hK K hpo
    try simp only [Act.put, List.getElem_toArray, List.getElem_cons_zero, List.getElem_cons_succ, List.setIfInBounds_toArray, List.set_cons_zero, List.set_cons_succ]
    have mA := mDr.trans m4
    replace o1 := o1.mod mA nob
    replace o6 := o6.trans mA
    have hD2 := mA.keep hK nob
    clear hS0 mDr m4 mA
    refine wpAnyU_last (by kernel_rfl) (by simp) ?_
    refine wpAny_tail _ 5 _ _ _ (by kernel_rfl) ?_
    simp only [List.drop_succ_cons, List.drop_zero]
    go_wp2_with (refine wpList_store_arr rfl 96 _ _ rfl (H + 1 + 1) 16 (arrB out) (arrB (List.replicate 16 0)) rfl rfl o1 size_b16 (by rw [arrB_size, htl]) (by rw [arrB_size]; rfl) (arrB_one _) ?_)
    have mS := (Mod.refl V1 (· = H + 1 + 1)).setRow (.inl rfl) (arrB out)
    have hne : D ≠ H + 1 + 1 := by omega
    have DS := mS.keep hD2 hne
    have mD : Mod (V1.setRow (H + 1 + 1) (arrB out)) ((V1.setRow (H + 1 + 1) (arrB out)).putObj D (.deferred none)) (· = D) := (Mod.refl _ (· = D)).putObj (.inl rfl) _
    have hfin := (o1.setRow (arrB out)).mod mD (fun e => hne e.symm)
    refine ⟨by simp, .inl ⟨_, _, rfl, run_takeDeferred DS, ?_⟩⟩
    refine ⟨.agg (arrB out), ret_arr rfl _ _ (H + 1 + 1) 16 5 _ rfl hfin Tryz.underlying96 size_b16 (by rw [arrB_size, htl]), by rw [HOUT.out], (o6.drop mS (fun k (hk : k = H + 1 + 1) => .inr (by have := HH.out; omega))).drop mD (fun k (hk : k = D) => .inr (by have := HH.out; omega))⟩

end Go.Proofs.YtaeociedjdgdfaaGreatDoor

namespace Go.Proofs.YtaeociedjdgdfaaGreatDoor
open Go.RowKit Go.Shelf
set_option linter.unusedSimpArgs false

/-- What is sealed. -/
def sealL (key nonce aad plain : List UInt8) : List UInt8 := xorL key nonce 1 plain ++ tagL key nonce aad (xorL key nonce 1 plain)
theorem sealL_length (key nonce aad plain : List UInt8) : (sealL key nonce aad plain).length = plain.length + 16 := by
  unfold sealL
  rw [List.length_append, xorL_length, tagL_length]

theorem owns_down {w : World} {b b' : Nat} {e : TypeId} {size : Nat} {v : Value} {n : Nat} {xs : List Value} (h : w.ownsRow b e size v n xs) (hb : b' ≤ b) : w.ownsRow b' e size v n xs := by
  refine ⟨h.1, ?_⟩
  rcases h.2 with h2 | ⟨g, cap, cur, h1, h4, h3⟩
  · exact .inl h2
  · exact .inr ⟨g, cap, cur, h1, Nat.le_trans hb h4, h3⟩

set_option maxRecDepth 100000 in
set_option maxHeartbeats 2000000 in
theorem seal_any (key nonce aad plain : List UInt8) (sa sp : Sc) (w : World) (hk : key.length = 32) (hn : nonce.length = 12) (ha : BytesAt w (scv sa) aad) (hp : BytesAt w (scv sp) plain) (hal : aad.length ≤ 65536) (hpl : plain.length ≤ 65536)
    (hfa : ∀ k, inBlock (scv sa) k → k < w.heap.size) (hfp : ∀ k, inBlock (scv sp) k → k < w.heap.size) :
    Calls Tryz.prog 82 #[.agg (arrB key), .agg (arrB nonce), scv sa, scv sp] w fun e w' => ∃ v, e = .returned (.tuple #[v, .int .i64 0]) ∧ w'.ownsRow w.heap.size 5 1 v (plain.length + 16) ((sealL key nonce aad plain).map B) ∧ Mod w w' Nob := by
  obtain ⟨aa, an, ac⟩ := sa
  obtain ⟨pa, pn, pc⟩ := sp
  dsimp only [scv] at *
  have han : aad.length = an := by
    obtain ⟨a', c', hf, _⟩ := ha.form
    rw [List.length_map] at hf
    cases hf
    rfl
  have hpn : plain.length = pn := by
    obtain ⟨a', c', hf, _⟩ := hp.form
    rw [List.length_map] at hf
    cases hf
    rfl
  have m0 := ((Mod.refl w Nob).alloc (.cells (arrB key) 22)).alloc (.cells (arrB nonce) 47)
  have cK := (CellsAt.new w (arrB key) 22).alloc (.cells (arrB nonce) 47)
  have cN := CellsAt.new (w.alloc (.cells (arrB key) 22)) (arrB nonce) 47
  rw [World.size_alloc] at cN
  have hks : (arrB key).size = 32 := by rw [arrB_size, hk]
  have hns : (arrB nonce).size = 12 := by rw [arrB_size, hn]
  have hd1 : decide ((an : Int) > 65536) = false := by simp; omega
  have hd2 : decide ((pn : Int) > 65536) = false := by simp; omega
  have hd3 : decide (65536 < (an : Int)) = false := by simp; omega
  have hd4 : decide (65536 < (pn : Int)) = false := by simp; omega
  have hz0 : ((w.alloc (.cells (arrB key) 22)).alloc (.cells (arrB nonce) 47)).heap.size = w.heap.size + 2 := by simp
  have hx := xor_any key nonce plain 1 pa pc ((w.alloc (.cells (arrB key) 22)).alloc (.cells (arrB nonce) 47)) hk hn (by omega) (by rw [hpn]; exact hp.mod m0 (fun _ _ => nob)) (by rw [hpn]; exact fun k hk => by have := hfp k hk; omega)
  rw [hpn] at hx
  change Calls _ _ #[_, _, .int .u32 1, _] _ _ at hx
  go_enter Tryz.func82, Tryz.ntmps82
  go_wp2_with (first
    | (refine wpList_load_arr rfl 22 _ rfl w.heap.size 32 5 rfl (arrB key) (by exact cK) Tryz.underlying22 size_b32 hks ?_)
    | (refine wpList_load_arr rfl 47 _ rfl (w.heap.size + 1) 12 5 rfl (arrB nonce) (by exact cN) Tryz.underlying47 size_b12 hns ?_))
  change Calls _ _ _ ((w.alloc (.cells (arrB key) 22)).alloc (.cells (arrB nonce) 47)) _
  refine hx.mono ?_
  rintro e W2 ⟨vx, rfl, hown, m1⟩
  have hxl := xorL_length key nonce 1 plain
  rw [hz0] at hown
  have hT := tag_any key nonce aad (xorL key nonce 1 plain) (aa, an, ac)
  have hse : Box (sealL key nonce aad plain = xorL key nonce 1 plain ++ tagL key nonce aad (xorL key nonce 1 plain)) := ⟨rfl⟩
  have htl := tagL_length key nonce aad (xorL key nonce 1 plain)
  obtain ⟨x, hxx⟩ : ∃ x, xorL key nonce 1 plain = x := ⟨_, rfl⟩
  rw [hxx] at hown hxl hT hse htl
  obtain ⟨tg, htg⟩ : ∃ y, tagL key nonce aad x = y := ⟨_, rfl⟩
  rw [htg] at hT hse htl
  rw [hxl, hpn] at hown
  obtain ⟨xa, xc, rfl, hxc, hxm⟩ := owns_form hown
  replace hown := owns_down (b' := w.heap.size) hown (by omega)
  replace cK := cK.mod m1 nob
  replace cN := cN.mod m1 nob
  replace m0 := m0.trans m1
  have hbx : BytesAt W2 (.slice xa pn xc) x := BytesAt.of_owns hown
  replace hT := hT (xa, pn, xc) W2 hk hn (ha.mod m0 (fun _ _ => nob)) hbx (by omega) (by omega) (fun k hk => by have := hfa k hk; have := m0.size; omega) (fun k hk => (hown.lt k hk).2)
  dsimp only [scv] at hT
  have hz2 := m0.size
  clear hx m1 hd1 hd2 hd3 hd4 hxx htg ha hp
  go_wp2_with (first
    | (refine wpList_load_arr rfl 22 _ rfl w.heap.size 32 5 rfl (arrB key) (by exact cK) Tryz.underlying22 size_b32 hks ?_)
    | (refine wpList_load_arr rfl 47 _ rfl (w.heap.size + 1) 12 5 rfl (arrB nonce) (by exact cN) Tryz.underlying47 size_b12 hns ?_))
  refine hT.mono ?_
  rintro e W3 ⟨rfl, m2⟩
  have hts : (arrB tg).size = 16 := by rw [arrB_size, htl]
  have hown3 := owns_mod hown m2 (fun _ _ => nob)
  replace m0 := m0.trans m2
  have hA := ((Mod.refl W3 Nob).alloc (.cells (arrB (List.replicate 16 0)) 96)).setRow (g := W3.heap.size) (.inr (Nat.le_refl _)) (arrB tg)
  have cT := (CellsAt.new W3 (arrB (List.replicate 16 0)) 96).setRow (arrB tg)
  have hown4 := owns_mod hown3 hA (fun _ _ => nob)
  have hbt : BytesAt ((W3.alloc (.cells (arrB (List.replicate 16 0)) 96)).setRow W3.heap.size (arrB tg)) (.slice (some ⟨W3.heap.size, 0, none⟩) 16 16) tg := bytes_block cT htl (by omega)
  have hz3 := m2.size
  have hzA := hA.size
  obtain ⟨i0, hi, hi0, hi1, hi2⟩ := info_parts info_u8
  rw [← zeros16b] at hown4 hbt hA hzA
  clear hT hown m2 hown3 cK cN cT
  go_wp2_with (first
    | (refine wpList_store_arr rfl 96 _ _ rfl W3.heap.size 16 (arrB tg) (arrB (List.replicate 16 0)) rfl rfl (by exact CellsAt.new W3 (arrB (List.replicate 16 0)) 96) size_b16 hts (by rw [arrB_size]; rfl) (arrB_one _) ?_)
    | (at_builtin; refine wpList_append_row _ rfl _ _ 40 rfl w.heap.size 5 i0 _ 1 Tryz.underlying40 hi hi0 hi1 hi2 rfl _ _ _ rfl hown4 _ (tg.map B) rfl hbt (bytes_one _) (by rw [List.length_map, htl]; unfold maxLen; omega) (by rw [List.length_map, htl]; omega) (by omega) ?_))
  intro v4 W4 hown5 hgr _ _
  have hmf := (m0.trans hA).grown hgr (fun k hk => .inr (hown4.lt k hk).1)
  rw [← List.map_append, ← hse.out] at hown5
  clear hA hown4 hbt hgr hzA m0 hi hi0 hi1 hi2
  go_wp2_with fail
  rw [hpn]
  exact bodyPost_ret (v := .tuple #[v4, .int .i64 0]) (by simp [results, Tryz.f82, go_sem]) rfl ⟨v4, rfl, hown5, hmf⟩

end Go.Proofs.YtaeociedjdgdfaaGreatDoor

namespace Go.Proofs.YtaeociedjdgdfaaGreatDoor
open Go.RowKit

/-- A store, plainly: what each name shows, its versions, the changes (a name, what it showed ahead of it), and of each Put how many changes were ahead of it. -/
structure Sto where
  shows : ByteArray → Option (List UInt8)
  vers : ByteArray → List (List UInt8)
  changes : List (ByteArray × Option (List UInt8))
  puts : List Nat

def sto0 : Sto := ⟨fun _ => none, fun _ => [], [], []⟩

/-- A name is to show something else. -/
def Sto.set (σ : Sto) (nm : ByteArray) (o : Option (List UInt8)) : Sto := { σ with shows := upd σ.shows nm o, changes := σ.changes ++ [(nm, σ.shows nm)] }

/-- Where a store's parts lie: its own blocks, and those that are held and never written to. -/
structure StoB where
  ms : Nat
  mv : Nat
  cv : Value
  pv : Value
  held : Nat → Prop

def StoB.own (x : StoB) (b : Nat) (k : Nat) : Prop := k = b ∨ k = x.ms ∨ k = x.mv ∨ inBlock x.cv k ∨ inBlock x.pv k
/-- All blocks that a store hangs on. -/
def StoB.foot (x : StoB) (b : Nat) (k : Nat) : Prop := x.own b k ∨ x.held k

/-- Bytes in blocks of a set. -/
def Held (w : World) (H : Nat → Prop) (v : Value) (l : List UInt8) : Prop := BytesAt w v l ∧ ∀ k, inBlock v k → H k

def OptHeld (w : World) (H : Nat → Prop) : Option Value → Option (List UInt8) → Prop
  | none, none => True
  | some v, some l => Held w H v l
  | _, _ => False

def VersHeld (w : World) (H : Nat → Prop) (fo : Option Value) (ls : List (List UInt8)) : Prop :=
  (fo = none ∧ ls = []) ∨ ∃ (v : Value) (us : List Value), fo = some v ∧ RowAt w v us ∧ (∀ k, inBlock v k → H k) ∧ us.length = ls.length ∧ ∀ (i : Nat) (u : Value) (l : List UInt8), us[i]? = some u → ls[i]? = some l → Held w H u l

def ChHeld (w : World) (H : Nat → Prop) (o : Option (List UInt8)) (v : Value) : Prop :=
  match o with
  | some l => Held w H v l
  | none => v = .slice none 0 0

def chCells (cs : List (ByteArray × Option (List UInt8))) (vs : List Value) : List Value := ((cs.zip vs).map fun x => [Value.string x.1.1, x.2, .bool x.1.2.isSome]).flatten

structure StoreAt (w : World) (b : Nat) (σ : Sto) (x : StoB) : Prop where
  cells : CellsAt w b #[.map (some x.ms), .map (some x.mv), x.cv, x.pv] 82
  ne1 : b ≠ x.ms
  ne2 : b ≠ x.mv
  ne3 : x.ms ≠ x.mv
  nec : ∀ k, inBlock x.cv k → k ≠ b ∧ k ≠ x.ms ∧ k ≠ x.mv ∧ ¬ inBlock x.pv k
  nep : ∀ k, inBlock x.pv k → k ≠ b ∧ k ≠ x.ms ∧ k ≠ x.mv
  hold : ∀ k, x.held k → k < w.heap.size ∧ ¬ x.own b k
  shows : ∃ f, MapAt .string w x.ms f ∧ ∀ nm, OptHeld w x.held (f nm) (σ.shows nm)
  vers : ∃ f, MapAt .string w x.mv f ∧ ∀ nm, VersHeld w x.held (f nm) (σ.vers nm)
  chs : ∃ vs : List Value, vs.length = σ.changes.length ∧ (∀ (i : Nat) c v, σ.changes[i]? = some c → vs[i]? = some v → ChHeld w x.held c.2 v) ∧ w.ownsRow 0 107 3 x.cv σ.changes.length (chCells σ.changes vs)
  puts : w.ownsRow 0 3 1 x.pv σ.puts.length (σ.puts.map fun (n : Nat) => Value.int .i64 (n : Int))

section
variable {w w' : World} {H H' S : Nat → Prop}

theorem Held.mono {v : Value} {l : List UInt8} (h : Held w H v l) (hm : Mod w w' S) (hS : ∀ k, S k → ¬ H k) (ho : ∀ k, H k → H' k) : Held w' H' v l :=
  ⟨h.1.mod hm (fun k hk hs => hS k hs (h.2 k hk)), fun k hk => ho k (h.2 k hk)⟩

theorem OptHeld.mono {fo : Option Value} {so : Option (List UInt8)} (h : OptHeld w H fo so) (hm : Mod w w' S) (hS : ∀ k, S k → ¬ H k) (ho : ∀ k, H k → H' k) : OptHeld w' H' fo so := by
  cases fo <;> cases so
  · trivial
  · exact h.elim
  · exact h.elim
  · exact Held.mono h hm hS ho

theorem ChHeld.mono {o : Option (List UInt8)} {v : Value} (h : ChHeld w H o v) (hm : Mod w w' S) (hS : ∀ k, S k → ¬ H k) (ho : ∀ k, H k → H' k) : ChHeld w' H' o v := by
  cases o
  · exact h
  · exact Held.mono h hm hS ho

theorem VersHeld.mono {fo : Option Value} {ls : List (List UInt8)} (h : VersHeld w H fo ls) (hm : Mod w w' S) (hS : ∀ k, S k → ¬ H k) (ho : ∀ k, H k → H' k) : VersHeld w' H' fo ls := by
  rcases h with h | ⟨v, us, h1, h2, h3, h4, h5⟩
  · exact .inl h
  · exact .inr ⟨v, us, h1, h2.mod hm (fun k hk hs => hS k hs (h3 k hk)), fun k hk => ho k (h3 k hk), h4, fun i u l hi hj => (h5 i u l hi hj).mono hm hS ho⟩

end

section
variable {w w' : World} {b : Nat} {σ : Sto} {x : StoB} {S : Nat → Prop}

theorem StoreAt.foot_lt (h : StoreAt w b σ x) : ∀ k, x.foot b k → k < w.heap.size := by
  obtain ⟨f, hf, _⟩ := h.shows
  obtain ⟨g, hg, _⟩ := h.vers
  obtain ⟨vs, _, _, hc⟩ := h.chs
  intro k hk
  rcases hk with (rfl | rfl | rfl | hk | hk) | hk
  · exact h.cells.lt
  · exact hf.lt
  · exact hg.lt
  · exact owns_lt hc k hk
  · exact owns_lt h.puts k hk
  · exact (h.hold k hk).1

/-- A store that nobody touches. -/
theorem StoreAt.mod (h : StoreAt w b σ x) (hm : Mod w w' S) (hn : ∀ k, S k → ¬ x.foot b k) : StoreAt w' b σ x := by
  have hS : ∀ k, S k → ¬ x.held k := fun k hk hh => hn k hk (.inr hh)
  have hno : ∀ k, x.own b k → ¬ S k := fun k hk hs => hn k hs (.inl hk)
  obtain ⟨f, hf, hf2⟩ := h.shows
  obtain ⟨g, hg, hg2⟩ := h.vers
  obtain ⟨vs, hv1, hv2, hc⟩ := h.chs
  exact ⟨h.cells.mod hm (hno b (.inl rfl)), h.ne1, h.ne2, h.ne3, h.nec, h.nep, fun k hk => ⟨Nat.lt_of_lt_of_le (h.hold k hk).1 hm.size, (h.hold k hk).2⟩,
    ⟨f, hf.mod hm (hno _ (.inr (.inl rfl))), fun nm => (hf2 nm).mono hm hS (fun _ h => h)⟩,
    ⟨g, hg.mod hm (hno _ (.inr (.inr (.inl rfl)))), fun nm => (hg2 nm).mono hm hS (fun _ h => h)⟩,
    ⟨vs, hv1, fun i c v hi hj => (hv2 i c v hi hj).mono hm hS (fun _ h => h), owns_mod hc hm (fun k hk => hno k (.inr (.inr (.inr (.inl hk)))))⟩,
    owns_mod h.puts hm (fun k hk => hno k (.inr (.inr (.inr (.inr hk)))))⟩

theorem StoreAt.still (h : StoreAt w b σ x) (hm : Mod w w' Nob) : StoreAt w' b σ x := h.mod hm (fun _ h => h.elim)

/-- More blocks may be held. -/
theorem StoreAt.hold_more (h : StoreAt w b σ x) (T : Nat → Prop) (hT : ∀ k, T k → k < w.heap.size ∧ ¬ x.own b k) : StoreAt w b σ { x with held := fun k => x.held k ∨ T k } := by
  have hm := Mod.refl w Nob
  have hS : ∀ k, Nob k → ¬ x.held k := fun k hk => hk.elim
  obtain ⟨f, hf, hf2⟩ := h.shows
  obtain ⟨g, hg, hg2⟩ := h.vers
  obtain ⟨vs, hv1, hv2, hc⟩ := h.chs
  exact ⟨h.cells, h.ne1, h.ne2, h.ne3, h.nec, h.nep, fun k hk => hk.elim (h.hold k) (hT k),
    ⟨f, hf, fun nm => (hf2 nm).mono hm hS (fun _ h => .inl h)⟩, ⟨g, hg, fun nm => (hg2 nm).mono hm hS (fun _ h => .inl h)⟩,
    ⟨vs, hv1, fun i c v hi hj => (hv2 i c v hi hj).mono hm hS (fun _ h => .inl h), hc⟩, h.puts⟩
end

/-- From one store to the next: only its own blocks have turned; what was held is held. -/
structure StepS (b : Nat) (w : World) (x : StoB) (w' : World) (x' : StoB) : Prop where
  mod : Mod w w' (x.own b)
  own : ∀ k, x'.own b k → x.own b k ∨ w.heap.size ≤ k
  held : ∀ k, x.held k → x'.held k
  fresh : ∀ k, x'.held k → x.held k ∨ w.heap.size ≤ k

theorem StepS.refl (b : Nat) (w : World) (x : StoB) : StepS b w x w x := ⟨Mod.refl _ _, fun _ h => .inl h, fun _ h => h, fun _ h => .inl h⟩

theorem StepS.trans {b : Nat} {w w' w'' : World} {x x' x'' : StoB} (h : StepS b w x w' x') (k : StepS b w' x' w'' x'') : StepS b w x w'' x'' :=
  ⟨h.mod.drop k.mod h.own,
   fun i hi => (k.own i hi).elim (h.own i) (fun h1 => .inr (Nat.le_trans h.mod.size h1)),
   fun i hi => k.held i (h.held i hi),
   fun i hi => (k.fresh i hi).elim (h.fresh i) (fun h1 => .inr (Nat.le_trans h.mod.size h1))⟩

/-- Something that has nothing to do with the store was done first. -/
theorem StepS.after {b : Nat} {w w' w'' : World} {x x' : StoB} (h : Mod w w' Nob) (k : StepS b w' x w'' x') : StepS b w x w'' x' :=
  ⟨h.nob.drop k.mod (fun _ h => .inl h), fun i hi => (k.own i hi).imp (fun h => h) (fun h1 => Nat.le_trans h.size h1), k.held, fun i hi => (k.fresh i hi).imp (fun h => h) (fun h1 => Nat.le_trans h.size h1)⟩
theorem StepS.then {b : Nat} {w w' w'' : World} {x x' : StoB} (h : StepS b w x w' x') (k : Mod w' w'' Nob) : StepS b w x w'' x' :=
  ⟨h.mod.drop k (fun _ h => h.elim), h.own, h.held, h.fresh⟩

theorem StepS.foot {b : Nat} {w w' : World} {x x' : StoB} (h : StepS b w x w' x') : ∀ k, x'.foot b k → x.foot b k ∨ w.heap.size ≤ k := by
  rintro k (hk | hk)
  · exact (h.own k hk).imp .inl (fun h => h)
  · exact (h.fresh k hk).imp .inr (fun h => h)

theorem Held.step {b : Nat} {w w' : World} {σ : Sto} {x x' : StoB} {v : Value} {l : List UInt8} (hs : StoreAt w b σ x) (h : Held w x.held v l) (k : StepS b w x w' x') : Held w' x'.held v l :=
  h.mono k.mod (fun i hi hh => (hs.hold i hh).2 hi) k.held

/-- What a method does to a store: it answers, the store is another one, nothing else has turned. -/
def DidS (w : World) (b : Nat) (x : StoB) (v : Value) (σ : Sto) (e : Ending) (w' : World) : Prop :=
  ∃ x', e = .returned v ∧ StoreAt w' b σ x' ∧ StepS b w x w' x'

theorem info_change : (Tryz.prog.info? 107).map (fun i => (i.zero, i.size, i.bytes)) = some (some (.agg #[.string ⟨#[]⟩, .slice none 0 0, .bool false]), 3, 48) := by kernel_rfl
theorem zero_bytes (w : World) : (zeroValue 40).run Tryz.prog w = .ok (.slice none 0 0) w := by kernel_rfl
theorem zero_vers (w : World) : (zeroValue 117).run Tryz.prog w = .ok (.slice none 0 0) w := by kernel_rfl
theorem keyS : KeyOk Tryz.prog 9 Value.string := keyOk_string Tryz.underlying9

end Go.Proofs.YtaeociedjdgdfaaGreatDoor

namespace Go.Proofs.YtaeociedjdgdfaaGreatDoor
open Go.RowKit

theorem chCells_snoc (cs : List (ByteArray × Option (List UInt8))) (vs : List Value) (h : vs.length = cs.length) (c : ByteArray × Option (List UInt8)) (v : Value) :
    chCells (cs ++ [c]) (vs ++ [v]) = chCells cs vs ++ [.string c.1, v, .bool c.2.isSome] := by
  unfold chCells
  rw [List.zip_append h.symm]
  simp

/-- What 'was' is. -/
theorem was_of {w : World} {H : Nat → Prop} {fo : Option Value} {so : Option (List UInt8)} (h : OptHeld w H fo so) : ∃ a n c, fo.getD (.slice none 0 0) = .slice a n c ∧ ChHeld w H so (.slice a n c) ∧ fo.isSome = so.isSome := by
  cases fo <;> cases so
  · exact ⟨none, 0, 0, rfl, rfl, rfl⟩
  · exact h.elim
  · exact h.elim
  · obtain ⟨a, c, hf, _⟩ := h.1.form
    refine ⟨a, _, c, hf, ?_, rfl⟩
    have h' : Held w H _ _ := h
    rwa [hf] at h'

/-- The parts of 'set' put together. -/
theorem set_done {w w1 w2 w3 : World} {b : Nat} {σ : Sto} {x : StoB} {nm : ByteArray} {f : ByteArray → Option Value} {vs : List Value} {u cv : Value} {so : Option (List UInt8)} {fo : Option Value} (h : StoreAt w b σ x)
    (hv1 : vs.length = σ.changes.length) (hv2 : ∀ (i : Nat) c v, σ.changes[i]? = some c → vs[i]? = some v → ChHeld w x.held c.2 v) (_hch : w.ownsRow 0 107 3 x.cv σ.changes.length (chCells σ.changes vs))
    (hw1 : ChHeld w x.held (σ.shows nm) u) (hin : ∀ k, inBlock cv k → inBlock x.cv k ∨ w.heap.size ≤ k)
    (hown : w1.ownsRow 0 107 3 cv (σ.changes.length + 1) (chCells σ.changes vs ++ [.string nm, u, .bool (σ.shows nm).isSome])) (hm1 : Mod w w1 (inBlock x.cv))
    (hc2 : CellsAt w2 b (#[Value.map (some x.ms), .map (some x.mv), x.cv, x.pv].setIfInBounds 2 cv) 82) (hm2 : Mod w1 w2 (· = b)) (hmap : MapAt .string w3 x.ms (upd f nm fo)) (hm3 : Mod w2 w3 (· = x.ms))
    (hf : ∀ nm, OptHeld w x.held (f nm) (σ.shows nm)) (hfo : (fo = none ∧ so = none) ∨ ∃ v l, fo = some v ∧ so = some l ∧ Held w x.held v l) :
    DidS w b x (.tuple #[]) (σ.set nm so) (.returned (.tuple #[])) w3 := by
  have hlt := h.foot_lt
  have hnew : ∀ k, inBlock cv k → ¬ x.own b k ∨ inBlock x.cv k := fun k hk => (hin k hk).elim .inr (fun h1 => .inl fun h2 => by have := hlt k (.inl h2); omega)
  have hM : Mod w w3 (fun k => inBlock x.cv k ∨ k = b ∨ k = x.ms) :=
    ((hm1.wide (fun k hk => .inl (.inl hk))).drop hm2 (fun k hk => .inl (.inr (.inl hk)))).drop hm3 (fun k hk => .inl (.inr (.inr hk)))
  have hS : ∀ k, (inBlock x.cv k ∨ k = b ∨ k = x.ms) → ¬ x.held k := fun k hk hh => (h.hold k hh).2 (by
    rcases hk with hk | rfl | rfl
    · exact .inr (.inr (.inr (.inl hk)))
    · exact .inl rfl
    · exact .inr (.inl rfl))
  have hcvn : ∀ k, inBlock cv k → k ≠ b ∧ k ≠ x.ms ∧ k ≠ x.mv ∧ ¬ inBlock x.pv k := fun k hk => by
    rcases hin k hk with h1 | h1
    · exact h.nec k h1
    · have l1 := hlt b (.inl (.inl rfl))
      have l2 := hlt x.ms (.inl (.inr (.inl rfl)))
      have l3 := hlt x.mv (.inl (.inr (.inr (.inl rfl))))
      exact ⟨by omega, by omega, by omega, fun h2 => by have := hlt k (.inl (.inr (.inr (.inr (.inr h2))))); omega⟩
  obtain ⟨g, hg, hg2⟩ := h.vers
  refine ⟨{ x with cv := cv }, rfl, ?_, hM.wide (fun k hk => .inl ?_), ?_, fun _ h => h, fun _ h => .inl h⟩
  · refine ⟨hc2.mod hm3 (fun e => h.ne1 e), h.ne1, h.ne2, h.ne3, hcvn, h.nep, fun k hk => ⟨Nat.lt_of_lt_of_le (h.hold k hk).1 hM.size, fun ho => ?_⟩, ?_, ?_, ?_, ?_⟩
    · rcases ho with ho | ho | ho | ho | ho
      · exact (h.hold k hk).2 (.inl ho)
      · exact (h.hold k hk).2 (.inr (.inl ho))
      · exact (h.hold k hk).2 (.inr (.inr (.inl ho)))
      · rcases hin k ho with h1 | h1
        · exact (h.hold k hk).2 (.inr (.inr (.inr (.inl h1))))
        · have := (h.hold k hk).1; omega
      · exact (h.hold k hk).2 (.inr (.inr (.inr (.inr ho))))
    · refine ⟨_, hmap, fun n => ?_⟩
      show OptHeld w3 x.held (upd f nm fo n) (upd σ.shows nm so n)
      by_cases hn : n = nm
      · subst hn
        rw [upd_same, upd_same]
        rcases hfo with ⟨rfl, rfl⟩ | ⟨v, l, rfl, rfl, hv⟩
        · trivial
        · exact hv.mono hM hS (fun _ h => h)
      · rw [upd_other _ _ hn, upd_other _ _ hn]
        exact (hf n).mono hM hS (fun _ h => h)
    · exact ⟨g, hg.mod hM (by rintro (h1 | h1 | h1); exact (h.nec _ h1).2.2.1 rfl; exact h.ne2 h1.symm; exact h.ne3 h1.symm), fun n => (hg2 n).mono hM hS (fun _ h => h)⟩
    · refine ⟨vs ++ [u], by simp [Sto.set, hv1], fun i c v hi hj => ?_, ?_⟩
      · unfold Sto.set at hi
        simp only at hi
        by_cases hlt' : i < σ.changes.length
        · rw [List.getElem?_append_left hlt'] at hi
          rw [List.getElem?_append_left (by omega)] at hj
          exact (hv2 i c v hi hj).mono hM hS (fun _ h => h)
        · rw [List.getElem?_append_right (by omega)] at hi
          rw [List.getElem?_append_right (by omega), hv1] at hj
          have h0 : i - σ.changes.length = 0 := by
            have := (List.getElem?_eq_some_iff.1 hi).1
            simp at this
            omega
          rw [h0] at hi hj
          simp at hi hj
          subst hi; subst hj
          exact hw1.mono hM hS (fun _ h => h)
      · have e1 : (σ.set nm so).changes = σ.changes ++ [(nm, σ.shows nm)] := rfl
        rw [e1, chCells_snoc _ _ hv1]
        have := owns_mod (owns_mod hown hm2 (fun k hk e => (hcvn k hk).1 e)) hm3 (fun k hk e => (hcvn k hk).2.1 e)
        simpa using this
    · exact owns_mod h.puts hM (by rintro k hk (h1 | h1 | h1); exact (h.nec k h1).2.2.2 hk; exact (h.nep k hk).1 h1; exact (h.nep k hk).2.1 h1)
  · rcases hk with h1 | h1 | h1
    · exact .inr (.inr (.inr (.inl h1)))
    · exact .inl h1
    · exact .inr (.inl h1)
  · rintro k (ho | ho | ho | ho | ho)
    · exact .inl (.inl ho)
    · exact .inl (.inr (.inl ho))
    · exact .inl (.inr (.inr (.inl ho)))
    · exact (hin k ho).imp (fun h => .inr (.inr (.inr (.inl h)))) (fun h => h)
    · exact .inl (.inr (.inr (.inr (.inr ho))))

set_option maxRecDepth 100000 in
set_option maxHeartbeats 2000000 in
theorem set_some (b : Nat) (σ : Sto) (x : StoB) (nm : ByteArray) (v : Value) (l : List UInt8) (w : World) (h : StoreAt w b σ x) (hv : Held w x.held v l) (hn : σ.changes.length < 1073741824) :
    Calls Tryz.prog 40 #[.pointer (some ⟨b, 0, none⟩), .string nm, v, .bool true] w (DidS w b x (.tuple #[]) (σ.set nm (some l))) := by
  obtain ⟨i0, hi, hz0, hz1, hz2⟩ := info_parts info_change
  obtain ⟨f, hf, hf2⟩ := h.shows
  obtain ⟨vs, hv1, hv2, hch⟩ := h.chs
  obtain ⟨wa, wn, wc, hwas, hw1, hw2⟩ := was_of (hf2 nm)
  have c0 := h.cells.cell 0
  have c2 := h.cells.cell 2
  simp at c0 c2
  obtain ⟨av, cv, rfl, _⟩ := hv.1.form
  rw [List.length_map] at *
  have f2 := h.cells.free 2
  go_enter Tryz.func40, Tryz.ntmps40
  go_wp2_with (first
    | (at_lookup; refine wpList_lookup_at rfl _ _ 77 true rfl 9 40 (.slice none 0 0) Tryz.underlying77 keyS zero_bytes rfl hf nm rfl ?_)
    | (at_builtin; refine wpList_append_one _ rfl _ _ 79 rfl 0 107 i0 _ 3 48 Tryz.underlying79 hi hz0 hz1 hz2 rfl (by decide) _ _ _ rfl (hch.alloc _) w.heap.size 1 [.string nm, .slice wa wn wc, .bool (σ.shows nm).isSome] 107 rfl rfl (CellsAt.new w _ _) (by simp [Value.oneCell']) (by unfold maxLen; omega) (by omega) (Nat.zero_le _) ?_))
  intro v1 w1 hown1 hg1 hin1
  have hm1 := ((Mod.refl w (inBlock x.cv)).alloc (.cells #[.string nm, .slice wa wn wc, .bool (σ.shows nm).isSome] 107)).grown hg1 (fun k hk => .inl hk)
  have hnb : ¬ inBlock x.cv b := fun hk => (h.nec b hk).1 rfl
  have hc1 := h.cells.mod hm1 hnb
  have d0 := hc1.cell 0
  have d2 := hc1.cell 2
  have e2 := hc1.free 2
  simp at d0 d2
  obtain ⟨a1, k1, rfl, _, _⟩ := owns_form hown1
  clear hz0 hz1 hz2 hi f2 c0 c2
  have hc2 := hc1.set 2 (.slice a1 (σ.changes.length + 1) k1)
  have hm2 := (Mod.refl w1 (· = b)).setCell (p := ⟨b, 2, none⟩) (.inl rfl) (.slice a1 (σ.changes.length + 1) k1)
  have hm12 := (hm1.wide (T := fun k => inBlock x.cv k ∨ k = b) (fun k hk => .inl (.inl hk))).drop hm2 (fun k hk => .inl (.inr hk))
  have hf2' := hf.mod hm12 (by rintro (hk | hk); exact (h.nec _ hk).2.1 rfl; exact h.ne1 hk.symm)
  have d0' := hc2.cell 0
  simp at d0'
  go_wp2_with (at_mapUpdate; refine wpList_mapUpdate_at rfl _ _ _ 77 rfl 9 40 Tryz.underlying77 keyS rfl hf2' nm rfl _ rfl ?_)
  intro w3 hmap3 hg3
  have hm3 := (Mod.refl _ (· = x.ms)).grown hg3 (fun k hk => .inl (Option.some.inj hk).symm)
  go_wp2_with fail
  go_end0
  exact set_done h hv1 hv2 hch hw1 (fun k hk => (hin1 k hk).imp (fun h => h) (fun h => by omega)) hown1 hm1 hc2 hm2 hmap3 hm3 hf2 (.inr ⟨_, l, rfl, rfl, hv⟩)

set_option maxRecDepth 100000 in
set_option maxHeartbeats 2000000 in
theorem set_none (b : Nat) (σ : Sto) (x : StoB) (nm : ByteArray) (w : World) (h : StoreAt w b σ x) (hn : σ.changes.length < 1073741824) :
    Calls Tryz.prog 40 #[.pointer (some ⟨b, 0, none⟩), .string nm, .slice none 0 0, .bool false] w (DidS w b x (.tuple #[]) (σ.set nm none)) := by
  obtain ⟨i0, hi, hz0, hz1, hz2⟩ := info_parts info_change
  obtain ⟨f, hf, hf2⟩ := h.shows
  obtain ⟨vs, hv1, hv2, hch⟩ := h.chs
  obtain ⟨wa, wn, wc, hwas, hw1, hw2⟩ := was_of (hf2 nm)
  have c0 := h.cells.cell 0
  have c2 := h.cells.cell 2
  simp at c0 c2
  have f2 := h.cells.free 2
  go_enter Tryz.func40, Tryz.ntmps40
  go_wp2_with (first
    | (at_lookup; refine wpList_lookup_at rfl _ _ 77 true rfl 9 40 (.slice none 0 0) Tryz.underlying77 keyS zero_bytes rfl hf nm rfl ?_)
    | (at_builtin; refine wpList_append_one _ rfl _ _ 79 rfl 0 107 i0 _ 3 48 Tryz.underlying79 hi hz0 hz1 hz2 rfl (by decide) _ _ _ rfl (hch.alloc _) w.heap.size 1 [.string nm, .slice wa wn wc, .bool (σ.shows nm).isSome] 107 rfl rfl (CellsAt.new w _ _) (by simp [Value.oneCell']) (by unfold maxLen; omega) (by omega) (Nat.zero_le _) ?_))
  intro v1 w1 hown1 hg1 hin1
  have hm1 := ((Mod.refl w (inBlock x.cv)).alloc (.cells #[.string nm, .slice wa wn wc, .bool (σ.shows nm).isSome] 107)).grown hg1 (fun k hk => .inl hk)
  have hnb : ¬ inBlock x.cv b := fun hk => (h.nec b hk).1 rfl
  have hc1 := h.cells.mod hm1 hnb
  have d0 := hc1.cell 0
  have d2 := hc1.cell 2
  have e2 := hc1.free 2
  simp at d0 d2
  obtain ⟨a1, k1, rfl, _, _⟩ := owns_form hown1
  clear hz0 hz1 hz2 hi f2 c0 c2
  have hc2 := hc1.set 2 (.slice a1 (σ.changes.length + 1) k1)
  have hm2 := (Mod.refl w1 (· = b)).setCell (p := ⟨b, 2, none⟩) (.inl rfl) (.slice a1 (σ.changes.length + 1) k1)
  have hm12 := (hm1.wide (T := fun k => inBlock x.cv k ∨ k = b) (fun k hk => .inl (.inl hk))).drop hm2 (fun k hk => .inl (.inr hk))
  have hf2' := hf.mod hm12 (by rintro (hk | hk); exact (h.nec _ hk).2.1 rfl; exact h.ne1 hk.symm)
  have d0' := hc2.cell 0
  simp at d0'
  go_wp2_with (at_delete; refine wpList_delete_at rfl _ _ 77 9 rfl 9 40 Tryz.underlying77 keyS rfl hf2' nm rfl ?_)
  intro w3 hmap3 hg3
  have hm3 := (Mod.refl _ (· = x.ms)).grown hg3 (fun k hk => .inl (Option.some.inj hk).symm)
  go_wp2_with fail
  go_end0
  exact set_done h hv1 hv2 hch hw1 (fun k hk => (hin1 k hk).imp (fun h => h) (fun h => by omega)) hown1 hm1 hc2 hm2 hmap3 hm3 hf2 (.inl ⟨rfl, rfl⟩)

end Go.Proofs.YtaeociedjdgdfaaGreatDoor

namespace Go.Proofs.YtaeociedjdgdfaaGreatDoor
open Go.RowKit

/-- A method that reads. -/
def Reads (w : World) (v : Value) (e : Ending) (w' : World) : Prop := e = .returned v ∧ w = w'

theorem some_of {w : World} {H : Nat → Prop} {fo : Option Value} {so : Option (List UInt8)} (h : OptHeld w H fo so) : fo.isSome = so.isSome := by
  obtain ⟨_, _, _, _, _, h⟩ := was_of h
  exact h

set_option maxRecDepth 100000 in
set_option maxHeartbeats 400000 in
theorem has_any (b : Nat) (σ : Sto) (x : StoB) (nm : ByteArray) (w : World) (h : StoreAt w b σ x) :
    Calls Tryz.prog 39 #[.pointer (some ⟨b, 0, none⟩), .string nm] w (Reads w (.bool (σ.shows nm).isSome)) := by
  obtain ⟨f, hf, hf2⟩ := h.shows
  obtain ⟨wa, wn, wc, hwas, hw1, hw2⟩ := was_of (hf2 nm)
  have c0 := h.cells.cell 0
  simp at c0
  go_enter Tryz.func39, Tryz.ntmps39
  go_wp2_with (at_lookup; refine wpList_lookup_at rfl _ _ 77 true rfl 9 40 (.slice none 0 0) Tryz.underlying77 keyS zero_bytes rfl hf nm rfl ?_)
  go_ret
  exact ⟨rfl, rfl⟩

theorem vers_of {w : World} {H : Nat → Prop} {fo : Option Value} {ls : List (List UInt8)} (h : VersHeld w H fo ls) : ∃ a c, fo.getD (.slice none 0 0) = .slice a ls.length c ∧ ls.length ≤ c ∧ c ≤ maxLen ∧
    ∃ us : List Value, RowAt w (.slice a ls.length c) us ∧ (∀ k, inBlock (.slice a ls.length c) k → H k) ∧ us.length = ls.length ∧ ∀ (i : Nat) (u : Value) (l : List UInt8), us[i]? = some u → ls[i]? = some l → Held w H u l := by
  rcases h with ⟨rfl, rfl⟩ | ⟨v, us, rfl, h2, h3, h4, h5⟩
  · exact ⟨none, 0, rfl, Nat.le_refl _, by unfold maxLen; omega, [], RowAt.nil w, fun k hk => by simp [inBlock, Value.ownBlock] at hk, rfl, fun i u l hi => by simp at hi⟩
  · obtain ⟨a, c, rfl, h6, h7⟩ := h2.form
    rw [h4] at h2 h3 h6 ⊢
    exact ⟨a, c, rfl, h6, h7, us, h2, h3, h4, h5⟩

set_option maxRecDepth 100000 in
set_option maxHeartbeats 400000 in
theorem versions_any (b : Nat) (σ : Sto) (x : StoB) (nm : ByteArray) (w : World) (h : StoreAt w b σ x) :
    Calls Tryz.prog 50 #[.pointer (some ⟨b, 0, none⟩), .string nm] w (Reads w (.int .i64 ((σ.vers nm).length : Int))) := by
  obtain ⟨f, hf, hf2⟩ := h.vers
  obtain ⟨a, c, hv, _⟩ := vers_of (hf2 nm)
  have c1 := h.cells.cell 1
  simp at c1
  go_enter Tryz.func50, Tryz.ntmps50
  go_wp2_with (at_lookup; refine wpList_lookup_at rfl _ _ 78 false rfl 9 117 (.slice none 0 0) Tryz.underlying78 keyS zero_vers rfl hf nm rfl ?_)
  go_ret
  exact ⟨rfl, rfl⟩

/-- What 'Get' answers. -/
def Got (w : World) (o : Option (List UInt8)) (e : Ending) (w' : World) : Prop :=
  ∃ v', e = .returned (.tuple #[v', .bool o.isSome]) ∧ w'.ownsRow w.heap.size 5 1 v' (o.getD []).length ((o.getD []).map B) ∧ Mod w w' Nob

/-- All that is shown is short. -/
def Sto.short (σ : Sto) : Prop := ∀ nm l, σ.shows nm = some l → l.length ≤ 1099511627776

theorem bytes_of {w : World} {H : Nat → Prop} {o : Option (List UInt8)} {v : Value} (h : ChHeld w H o v) : BytesAt w v (o.getD []) := by
  cases o
  · have hv : v = .slice none 0 0 := h
    rw [hv]
    exact BytesAt.nil w
  · exact h.1

set_option maxRecDepth 100000 in
set_option maxHeartbeats 400000 in
theorem get_any (b : Nat) (σ : Sto) (x : StoB) (nm : ByteArray) (w : World) (h : StoreAt w b σ x) (hs : σ.short) :
    Calls Tryz.prog 13 #[.pointer (some ⟨b, 0, none⟩), .string nm] w (Got w (σ.shows nm)) := by
  obtain ⟨f, hf, hf2⟩ := h.shows
  obtain ⟨wa, wn, wc, hwas, hw1, hw2⟩ := was_of (hf2 nm)
  have hb := bytes_of hw1
  have hl : ((σ.shows nm).getD []).length ≤ 1099511627776 := by
    cases ho : σ.shows nm with
    | none => simp
    | some l => exact hs nm l ho
  have c0 := h.cells.cell 0
  simp at c0
  go_enter Tryz.func13, Tryz.ntmps13
  go_wp2_with (at_lookup; refine wpList_lookup_at rfl _ _ 77 true rfl 9 40 (.slice none 0 0) Tryz.underlying77 keyS zero_bytes rfl hf nm rfl ?_)
  refine (clone_bytes _ _ w hb hl).mono ?_
  rintro e w1 ⟨v1, rfl, hown, hm, _⟩
  go_wp2_with fail
  go_ret2
  exact ⟨v1, rfl, hown, hm⟩

end Go.Proofs.YtaeociedjdgdfaaGreatDoor

namespace Go.Proofs.YtaeociedjdgdfaaGreatDoor
open Go.RowKit

/-- What a new store is. -/
def NewS (w : World) (e : Ending) (w' : World) : Prop :=
  ∃ b x, e = .returned (.pointer (some ⟨b, 0, none⟩)) ∧ StoreAt w' b sto0 x ∧ Mod w w' Nob ∧ ∀ k, x.foot b k → w.heap.size ≤ k

set_option maxRecDepth 100000 in
set_option maxHeartbeats 400000 in
theorem new_any (w : World) : Calls Tryz.prog 6 #[] w (NewS w) := by
  have hmm := @run_makeMap Tryz.prog
  go_enter Tryz.func6, Tryz.ntmps6
  go_wp2
  go_ret
  have m1 := MapAt.new Value.string w
  have m2 := MapAt.new Value.string (w.alloc (.map #[] 0))
  have k1 := m1.mod ((Mod.refl _ Nob).alloc (.map #[] 0)) nob
  obtain ⟨c, hc⟩ : ∃ c : Array Value, #[Value.map (some w.heap.size), .map (some (w.heap.size + 1)), .slice none 0 0, .slice none 0 0] = c := ⟨_, rfl⟩
  have l1 := k1.mod ((Mod.refl _ Nob).alloc (.cells c 82)) nob
  have l2 := m2.mod ((Mod.refl _ Nob).alloc (.cells c 82)) nob
  have c1 := CellsAt.new ((w.alloc (.map #[] 0)).alloc (.map #[] 0)) c 82
  simp only [World.size_alloc] at l2 c1
  rw [← hc] at c1 l1 l2
  refine ⟨w.heap.size + 1 + 1, ⟨w.heap.size, w.heap.size + 1, .slice none 0 0, .slice none 0 0, fun _ => False⟩, rfl, ?_, (((Mod.refl w Nob).alloc _).alloc _).alloc _, ?_⟩
  · refine ⟨c1, by simp only; omega, by simp only; omega, by simp only; omega, fun k hk => by simp [inBlock, Value.ownBlock] at hk, fun k hk => by simp [inBlock, Value.ownBlock] at hk, fun k hk => hk.elim,
      ⟨_, l1, fun _ => trivial⟩, ⟨_, l2, fun _ => .inl ⟨rfl, rfl⟩⟩, ⟨[], rfl, fun i c v hi => by simp [sto0] at hi, World.ownsRow_nil _ _ _ _⟩, World.ownsRow_nil _ _ _ _⟩
  · rintro k ((h1 | h1 | h1 | h1 | h1) | h1)
    · omega
    · simp only at h1; omega
    · simp only at h1; omega
    · simp [inBlock, Value.ownBlock] at h1
    · simp [inBlock, Value.ownBlock] at h1
    · exact h1.elim

set_option maxRecDepth 100000 in
set_option maxHeartbeats 400000 in
theorem delete_yes (b : Nat) (σ : Sto) (x : StoB) (nm : ByteArray) (l : List UInt8) (w : World) (h : StoreAt w b σ x) (hs : σ.shows nm = some l) (hn : σ.changes.length < 1073741824) :
    Calls Tryz.prog 18 #[.pointer (some ⟨b, 0, none⟩), .string nm] w (DidS w b x (.bool true) (σ.set nm none)) := by
  have hh := has_any b σ x nm w h
  rw [hs, Option.isSome_some] at hh
  go_enter Tryz.func18, Tryz.ntmps18
  go_wp2_with fail
  refine hh.mono ?_
  rintro e w1 ⟨rfl, rfl⟩
  go_wp2_with fail
  refine (set_none b σ x nm w h hn).mono ?_
  rintro e w1 ⟨x1, rfl, h1, s1⟩
  go_wp2_with fail
  go_ret
  exact ⟨x1, rfl, h1, s1⟩

set_option maxRecDepth 100000 in
set_option maxHeartbeats 400000 in
theorem delete_no (b : Nat) (σ : Sto) (x : StoB) (nm : ByteArray) (w : World) (h : StoreAt w b σ x) (hs : σ.shows nm = none) :
    Calls Tryz.prog 18 #[.pointer (some ⟨b, 0, none⟩), .string nm] w (DidS w b x (.bool false) σ) := by
  have hh := has_any b σ x nm w h
  rw [hs, Option.isSome_none] at hh
  go_enter Tryz.func18, Tryz.ntmps18
  go_wp2_with fail
  refine hh.mono ?_
  rintro e w1 ⟨rfl, rfl⟩
  go_wp2_with fail
  go_ret
  exact ⟨x, rfl, h, StepS.refl _ _ _⟩

/-- What a name shows, as a value. -/
theorem StoreAt.shown {w : World} {b : Nat} {σ : Sto} {x : StoB} {nm : ByteArray} {l : List UInt8} (h : StoreAt w b σ x) (hs : σ.shows nm = some l) :
    ∃ a c, Held w x.held (.slice a l.length c) l ∧ ∀ (W : World) (k : Bool), Mod w W Nob → (Instr.lookup 77 (.map (some x.ms)) (.string nm) k).run Tryz.prog W = .ok (if k then .tuple #[.slice a l.length c, .bool true] else .slice a l.length c) W := by
  obtain ⟨f, hf, hf2⟩ := h.shows
  have := hf2 nm
  rw [hs] at this
  cases hfn : f nm with
  | none => rw [hfn] at this; exact this.elim
  | some v =>
    rw [hfn] at this
    have h' : Held w x.held v l := this
    obtain ⟨a, c, rfl, _⟩ := h'.1.form
    rw [List.length_map] at *
    refine ⟨a, c, h', fun W k hm => ?_⟩
    have := run_lookup_at (P := Tryz.prog) (T := 77) Tryz.underlying77 keyS zero_bytes (hf.mod hm nob) nm k
    rw [hfn] at this
    exact this

set_option maxRecDepth 100000 in
set_option maxHeartbeats 1000000 in
theorem swap_yes (b : Nat) (σ : Sto) (x : StoB) (n1 n2 : ByteArray) (l1 l2 : List UInt8) (w : World) (h : StoreAt w b σ x) (hs1 : σ.shows n1 = some l1) (hs2 : σ.shows n2 = some l2) (hn : σ.changes.length < 1073741823) :
    Calls Tryz.prog 28 #[.pointer (some ⟨b, 0, none⟩), .string n1, .string n2] w (DidS w b x (.bool true) ((σ.set n1 (some l2)).set n2 (some l1))) := by
  have hh1 := has_any b σ x n1 w h
  have hh2 := has_any b σ x n2 w h
  rw [hs1, Option.isSome_some] at hh1
  rw [hs2, Option.isSome_some] at hh2
  obtain ⟨a1, k1, hv1, hr1⟩ := h.shown hs1
  obtain ⟨a2, k2, hv2, hr2⟩ := h.shown hs2
  have hq1 := fun n => hr1 (w.drewN n) false ((Mod.refl w Nob).drewN n)
  have hq2 := fun n => hr2 (w.drewN n) false ((Mod.refl w Nob).drewN n)
  simp only [Bool.false_eq_true, if_false] at hq1 hq2
  have c0 := h.cells.cell 0
  simp at c0
  clear hr1 hr2
  go_enter Tryz.func28, Tryz.ntmps28
  go_wp2_with fail
  refine hh1.mono ?_
  rintro e w1 ⟨rfl, rfl⟩
  go_wp2_with fail
  refine hh2.mono ?_
  rintro e w1 ⟨rfl, rfl⟩
  clear hh1 hh2
  go_wp2_with fail
  go_quiet (fail)
  have hd := (Mod.refl w Nob).drewN nq
  have hg := h.still hd
  clear hq1 hq2 c0
  go_wp2_with fail
  refine (set_some b σ x n1 _ l2 _ hg (hv2.mono hd (fun _ h => h.elim) (fun _ h => h)) (by omega)).mono ?_
  rintro e w1 ⟨x1, rfl, h1, s1⟩
  go_wp2_with fail
  refine (set_some b _ x1 n2 _ l1 _ h1 ((hv1.mono hd (fun _ h => h.elim) (fun _ h => h)).step hg s1) (by simp [Sto.set]; omega)).mono ?_
  rintro e w2 ⟨x2, rfl, h2, s2⟩
  go_wp2_with fail
  go_ret
  exact ⟨x2, rfl, h2, StepS.after hd (s1.trans s2)⟩

set_option maxRecDepth 100000 in
set_option maxHeartbeats 400000 in
theorem swap_no (b : Nat) (σ : Sto) (x : StoB) (n1 n2 : ByteArray) (w : World) (h : StoreAt w b σ x) (hs : σ.shows n1 = none ∨ σ.shows n2 = none) :
    Calls Tryz.prog 28 #[.pointer (some ⟨b, 0, none⟩), .string n1, .string n2] w (DidS w b x (.bool false) σ) := by
  have hh1 := has_any b σ x n1 w h
  have hh2 := has_any b σ x n2 w h
  by_cases h1 : σ.shows n1 = none
  · rw [h1, Option.isSome_none] at hh1
    go_enter Tryz.func28, Tryz.ntmps28
    go_wp2_with fail
    refine hh1.mono ?_
    rintro e w1 ⟨rfl, rfl⟩
    go_wp2_with fail
    go_ret
    exact ⟨x, rfl, h, StepS.refl _ _ _⟩
  · have h2 : σ.shows n2 = none := hs.resolve_left h1
    obtain ⟨l, hl⟩ := Option.ne_none_iff_exists'.1 h1
    rw [hl, Option.isSome_some] at hh1
    rw [h2, Option.isSome_none] at hh2
    clear hs h1
    go_enter Tryz.func28, Tryz.ntmps28
    go_wp2_with fail
    refine hh1.mono ?_
    rintro e w1 ⟨rfl, rfl⟩
    go_wp2_with fail
    refine hh2.mono ?_
    rintro e w1 ⟨rfl, rfl⟩
    go_wp2_with fail
    go_ret
    exact ⟨x, rfl, h, StepS.refl _ _ _⟩

end Go.Proofs.YtaeociedjdgdfaaGreatDoor

namespace Go.Proofs.YtaeociedjdgdfaaGreatDoor
open Go.RowKit

/-- A version of a name, as a value in memory. -/
theorem StoreAt.version {w : World} {b : Nat} {σ : Sto} {x : StoB} {nm : ByteArray} {k : Nat} {l : List UInt8} (h : StoreAt w b σ x) (hs : (σ.vers nm)[k]? = some l) :
    ∃ bb oo c a' c', (Instr.lookup 78 (.map (some x.mv)) (.string nm) false).run Tryz.prog w = .ok (.slice (some ⟨bb, oo, none⟩) (σ.vers nm).length c) w ∧
      w.cell? ⟨bb, oo + k, none⟩ = some (.slice a' l.length c') ∧ Held w x.held (.slice a' l.length c') l ∧ (σ.vers nm).length ≤ 9223372036854775807 := by
  obtain ⟨f, hf, hf2⟩ := h.vers
  obtain ⟨a, c, hv, h1, h2, us, h3, h4, h5, h6⟩ := vers_of (hf2 nm)
  have hk : k < (σ.vers nm).length := (List.getElem?_eq_some_iff.1 hs).1
  have hu : us[k]? = some (us[k]'(by omega)) := List.getElem?_eq_getElem (by omega)
  have hh := h6 k _ l hu hs
  obtain ⟨a', c', hform, _⟩ := hh.1.form
  rw [List.length_map] at hform
  have hrun := run_lookup_at (P := Tryz.prog) (T := 78) Tryz.underlying78 keyS zero_vers hf nm false
  rw [hv] at hrun
  rcases h3 with ⟨h3, h7⟩ | ⟨bb, oo, cap, h3, _, _, _, h7⟩
  · rw [h7] at h5; simp at h5; omega
  · simp only [Value.slice.injEq] at h3
    obtain ⟨rfl, _, rfl⟩ := h3
    have hc := h7 k _ hu
    rw [hform] at hc hh
    exact ⟨bb, oo, _, a', c', hrun, hc, hh, by unfold maxLen at h2; omega⟩

set_option maxRecDepth 100000 in
set_option maxHeartbeats 1000000 in
theorem replay_yes (b : Nat) (σ : Sto) (x : StoB) (nm : ByteArray) (k : Nat) (l : List UInt8) (w : World) (h : StoreAt w b σ x) (hs : (σ.vers nm)[k]? = some l) (hn : σ.changes.length < 1073741824) :
    Calls Tryz.prog 27 #[.pointer (some ⟨b, 0, none⟩), .string nm, .int .i64 k] w (DidS w b x (.bool true) (σ.set nm (some l))) := by
  have hk : k < (σ.vers nm).length := (List.getElem?_eq_some_iff.1 hs).1
  have hh := versions_any b σ x nm w h
  obtain ⟨bb, oo, c, a', c', hrun, hcell, hheld, hmax⟩ := h.version hs
  have c1 := h.cells.cell 1
  simp at c1
  obtain ⟨n, hnn⟩ : ∃ n, (σ.vers nm).length = n := ⟨_, rfl⟩
  rw [hnn] at hh hrun hk hmax
  clear hnn
  have hk0 : (0 : Int) ≤ (k : Int) := by omega
  go_enter Tryz.func27, Tryz.ntmps27
  go_wp2_with fail
  refine hh.mono ?_
  rintro e w1 ⟨rfl, rfl⟩
  clear hh
  go_wp2_with fail
  refine (set_some b σ x nm _ l _ h hheld hn).mono ?_
  rintro e w1 ⟨x1, rfl, h1, s1⟩
  go_wp2_with fail
  go_ret
  exact ⟨x1, rfl, h1, s1⟩

set_option maxRecDepth 100000 in
set_option maxHeartbeats 400000 in
theorem replay_no (b : Nat) (σ : Sto) (x : StoB) (nm : ByteArray) (k : Int) (w : World) (h : StoreAt w b σ x) (hs : k < 0 ∨ ((σ.vers nm).length : Int) ≤ k) :
    Calls Tryz.prog 27 #[.pointer (some ⟨b, 0, none⟩), .string nm, .int .i64 k] w (DidS w b x (.bool false) σ) := by
  have hh := versions_any b σ x nm w h
  obtain ⟨n, hnn⟩ : ∃ n, (σ.vers nm).length = n := ⟨_, rfl⟩
  rw [hnn] at hh hs
  by_cases h0 : k < 0
  · clear hh
    go_enter Tryz.func27, Tryz.ntmps27
    go_wp2_with fail
    go_ret
    exact ⟨x, rfl, h, StepS.refl _ _ _⟩
  · have h1 : (n : Int) ≤ k := hs.resolve_left h0
    clear hs
    go_enter Tryz.func27, Tryz.ntmps27
    go_wp2_with fail
    refine hh.mono ?_
    rintro e w1 ⟨rfl, rfl⟩
    clear hh
    go_wp2_with fail
    go_ret
    exact ⟨x, rfl, h, StepS.refl _ _ _⟩

end Go.Proofs.YtaeociedjdgdfaaGreatDoor

namespace Go.Proofs.YtaeociedjdgdfaaGreatDoor
open Go.RowKit

def Sto.put (σ : Sto) (nm : ByteArray) (l : List UInt8) : Sto :=
  { (σ.set nm (some l)) with vers := upd σ.vers nm (σ.vers nm ++ [l]), puts := σ.puts ++ [σ.changes.length] }

theorem info_int : (Tryz.prog.info? 3).map (fun i => (i.zero, i.size, i.bytes)) = some (some (.int .i64 0), 1, 8) := by kernel_rfl
theorem info_vers : (Tryz.prog.info? 40).map (fun i => (i.zero, i.size, i.bytes)) = some (some (.slice none 0 0), 1, 24) := by kernel_rfl


set_option maxHeartbeats 400000 in
theorem clip_some (a : Addr) (n c : Nat) (w : World) (h : n ≤ c) (_ : c ≤ 9223372036854775807) :
    Calls Tryz.prog 84 #[.slice (some a) n c] w fun e w' => e = .returned (.slice (some a) n n) ∧ w' = w := by
  go_enter Tryz.func84, Tryz.ntmps84
  go_wp2
  go_ret
  exact ⟨rfl, rfl⟩
set_option maxHeartbeats 400000 in
theorem clip_nil (w : World) :
    Calls Tryz.prog 84 #[.slice none 0 0] w fun e w' => e = .returned (.slice none 0 0) ∧ w' = w := by
  go_enter Tryz.func84, Tryz.ntmps84
  go_wp2
  go_ret
  exact ⟨rfl, rfl⟩

theorem clip_row {w : World} {a : Option Addr} {c : Nat} {us : List Value} (h : RowAt w (.slice a us.length c) us) :
    RowAt w (.slice a us.length us.length) us ∧ ∀ w', Calls Tryz.prog 84 #[.slice a us.length c] w' fun e w'' => e = .returned (.slice a us.length us.length) ∧ w'' = w' := by
  rcases h with ⟨h1, rfl⟩ | ⟨b, o, cap, h1, hb, hl, hc, hx⟩
  · cases h1
    exact ⟨RowAt.nil w, clip_nil⟩
  · cases h1
    exact ⟨.inr ⟨b, o, us.length, rfl, hb, Nat.le_refl _, Nat.le_trans hl hc, hx⟩, fun w' => clip_some _ _ _ w' hl (by unfold maxLen at hc; omega)⟩

/-- An append onto a row that is full, as one step of a region that draws. -/
theorem step_append_fresh {P : Program} {ops : Array Oper} {o : Oper} {a : Act} {w : World} {K : Act → World → Prop} {Q : Exit → Act → World → Prop} {E : Prop} (hgd : o.guard = none) (s x : Operand) (t : TypeId)
    (hop : o.op = Op.call { callee := Callee.builtin Builtin.append, args := #[s, x], argTypes := #[t, t] }) (e : TypeId) (i : TypeInfo) (z : Value) (bytes : Nat) (ht : P.underlying t = some (.slice e)) (hi : P.info? e = some i)
    (hz : i.zero = some z) (hsize : i.size = 1) (hby : i.bytes = bytes) (hzs : z.cells.size = 1) (av : Option Addr) (c : Nat) (xs : List Value) (hs : a.eval s = .slice av xs.length c) (hv : RowAt w (.slice av xs.length c) xs) (g c' : Nat)
    (y : Value) (te : TypeId) (hx : a.eval x = .slice (some ⟨g, 0, none⟩) 1 c') (hnews : CellsAt w g #[y] te) (hroom : c < xs.length + 1) (h63 : xs.length + 1 ≤ maxLen) (hbytes : (xs.length + 1) * bytes ≤ 140737488355328)
    (h : ∀ v' w', w'.ownsRow w.heap.size e 1 v' (xs.length + 1) (xs ++ [y]) → w.grownBy w' none → K (a.put o.dst v') w') :
    if Region.wanted o (yielded ops a.tmps) = true then Oper.wp P o a w K Q else E := by
  have hw : Region.wanted o (yielded ops a.tmps) = true := by simp [Region.wanted, hgd]
  rw [if_pos hw]
  obtain ⟨v', w', hrun, r1, r2⟩ := run_append_fresh w t o.type e i z bytes ht hi hz hsize hby hzs av c xs hv g c' y te hnews hroom h63 hbytes
  unfold Oper.wp
  simp [execOp, hop, resolve, invoke, builtin, hs, hx, hrun, Result.andThen]
  exact h v' w' r1 r2

/-- A Put noted down. -/
theorem puts_done {w w' w2 : World} {b : Nat} {σ : Sto} {x : StoB} {u : Value} (h : StoreAt w b σ x) (hm : Mod w w' Nob) (hg : w'.grownBy w2 x.pv.ownBlock)
    (hown : w2.ownsRow 0 3 1 u (σ.puts.length + 1) ((σ.puts.map fun (n : Nat) => Value.int .i64 (n : Int)) ++ [.int .i64 (σ.changes.length : Int)])) (hin : ∀ k, inBlock u k → inBlock x.pv k ∨ w.heap.size ≤ k) :
    StoreAt (w2.setCell ⟨b, 3, none⟩ u) b { σ with puts := σ.puts ++ [σ.changes.length] } { x with pv := u } ∧ StepS b w x (w2.setCell ⟨b, 3, none⟩ u) { x with pv := u } := by
  have hlt := h.foot_lt
  have hm1 : Mod w w2 (inBlock x.pv) := hm.nob.grown hg (fun k hk => .inl hk)
  have hm2 : Mod w2 (w2.setCell ⟨b, 3, none⟩ u) (· = b) := (Mod.refl w2 (· = b)).setCell (p := ⟨b, 3, none⟩) (.inl rfl) u
  have hM : Mod w (w2.setCell ⟨b, 3, none⟩ u) (fun k => inBlock x.pv k ∨ k = b) := (hm1.wide (fun k hk => .inl (.inl hk))).drop hm2 (fun k hk => .inl (.inr hk))
  have hS : ∀ k, (inBlock x.pv k ∨ k = b) → ¬ x.held k := fun k hk hh => (h.hold k hh).2 (by
    rcases hk with hk | rfl
    · exact .inr (.inr (.inr (.inr hk)))
    · exact .inl rfl)
  have hun : ∀ k, inBlock u k → k ≠ b ∧ k ≠ x.ms ∧ k ≠ x.mv := fun k hk => by
    rcases hin k hk with h1 | h1
    · exact h.nep k h1
    · have l1 := hlt b (.inl (.inl rfl))
      have l2 := hlt x.ms (.inl (.inr (.inl rfl)))
      have l3 := hlt x.mv (.inl (.inr (.inr (.inl rfl))))
      exact ⟨by omega, by omega, by omega⟩
  obtain ⟨f, hf, hf2⟩ := h.shows
  obtain ⟨g, hg', hg2⟩ := h.vers
  obtain ⟨vs, hv1, hv2, hch⟩ := h.chs
  have hc1 := (h.cells.mod hm1 (fun hk => (h.nep b hk).1 rfl)).set 3 u
  refine ⟨⟨hc1, h.ne1, h.ne2, h.ne3, fun k hk => ?_, hun, fun k hk => ⟨Nat.lt_of_lt_of_le (h.hold k hk).1 hM.size, fun ho => ?_⟩, ?_, ?_, ?_, ?_⟩, ⟨hM.wide (fun k hk => .inl ?_), ?_, fun _ h => h, fun _ h => .inl h⟩⟩
  · obtain ⟨n1, n2, n3, n4⟩ := h.nec k hk
    refine ⟨n1, n2, n3, fun h1 => ?_⟩
    rcases hin k h1 with h2 | h2
    · exact n4 h2
    · have := hlt k (.inl (.inr (.inr (.inr (.inl hk))))); omega
  · rcases ho with ho | ho | ho | ho | ho
    · exact (h.hold k hk).2 (.inl ho)
    · exact (h.hold k hk).2 (.inr (.inl ho))
    · exact (h.hold k hk).2 (.inr (.inr (.inl ho)))
    · exact (h.hold k hk).2 (.inr (.inr (.inr (.inl ho))))
    · rcases hin k ho with h1 | h1
      · exact (h.hold k hk).2 (.inr (.inr (.inr (.inr h1))))
      · have := (h.hold k hk).1; omega
  · exact ⟨f, hf.mod hM (by rintro (h1 | h1); exact (h.nep _ h1).2.1 rfl; exact h.ne1 h1.symm), fun n => (hf2 n).mono hM hS (fun _ h => h)⟩
  · exact ⟨g, hg'.mod hM (by rintro (h1 | h1); exact (h.nep _ h1).2.2 rfl; exact h.ne2 h1.symm), fun n => (hg2 n).mono hM hS (fun _ h => h)⟩
  · exact ⟨vs, hv1, fun i c v hi hj => (hv2 i c v hi hj).mono hM hS (fun _ h => h), owns_mod hch hM (by rintro k hk (h1 | h1); exact (h.nec k hk).2.2.2 h1; exact (h.nec k hk).1 h1)⟩
  · have := owns_mod hown hm2 (fun k hk e => (hun k hk).1 e)
    simpa using this
  · rcases hk with h1 | h1
    · exact .inr (.inr (.inr (.inr h1)))
    · exact .inl h1
  · rintro k (ho | ho | ho | ho | ho)
    · exact .inl (.inl ho)
    · exact .inl (.inr (.inl ho))
    · exact .inl (.inr (.inr (.inl ho)))
    · exact .inl (.inr (.inr (.inr (.inl ho))))
    · exact (hin k ho).imp (fun h => .inr (.inr (.inr (.inr h)))) (fun h => h)

/-- A name's versions set. -/
theorem vers_done {w w' : World} {b : Nat} {σ : Sto} {x : StoB} {nm : ByteArray} {f : ByteArray → Option Value} {v : Value} {us : List Value} {ls : List (List UInt8)} (h : StoreAt w b σ x) (hM : Mod w w' (· = x.mv))
    (hmap : MapAt .string w' x.mv (upd f nm (some v))) (hf : ∀ n, VersHeld w x.held (f n) (σ.vers n)) (hrow : RowAt w v us) (hin : ∀ k, inBlock v k → x.held k) (hlen : us.length = ls.length)
    (hels : ∀ (i : Nat) (u : Value) (l : List UInt8), us[i]? = some u → ls[i]? = some l → Held w x.held u l) : StoreAt w' b { σ with vers := upd σ.vers nm ls } x := by
  have hS : ∀ k, k = x.mv → ¬ x.held k := fun k hk hh => (h.hold k hh).2 (.inr (.inr (.inl hk)))
  obtain ⟨g, hg, hg2⟩ := h.shows
  obtain ⟨vs, hv1, hv2, hch⟩ := h.chs
  refine ⟨h.cells.mod hM h.ne2, h.ne1, h.ne2, h.ne3, h.nec, h.nep, fun k hk => ⟨Nat.lt_of_lt_of_le (h.hold k hk).1 hM.size, (h.hold k hk).2⟩, ⟨g, hg.mod hM h.ne3, fun n => (hg2 n).mono hM hS (fun _ h => h)⟩, ⟨_, hmap, fun n => ?_⟩,
    ⟨vs, hv1, fun i c v hi hj => (hv2 i c v hi hj).mono hM hS (fun _ h => h), owns_mod hch hM (fun k hk => (h.nec k hk).2.2.1)⟩, owns_mod h.puts hM (fun k hk => (h.nep k hk).2.2)⟩
  show VersHeld w' x.held (upd f nm (some v) n) (upd σ.vers nm ls n)
  by_cases hn : n = nm
  · subst hn
    rw [upd_same, upd_same]
    exact .inr ⟨v, us, rfl, hrow.mod hM (fun k hk => fun e => hS k e (hin k hk)), hin, hlen, fun i u l hi hj => (hels i u l hi hj).mono hM hS (fun _ h => h)⟩
  · rw [upd_other _ _ hn, upd_other _ _ hn]
    exact (hf n).mono hM hS (fun _ h => h)

/-- The row of a name's versions. -/
theorem vers_row {w : World} {H : Nat → Prop} {fo : Option Value} {ls : List (List UInt8)} (h : VersHeld w H fo ls) : ∃ a c us, fo.getD (.slice none 0 0) = .slice a us.length c ∧ RowAt w (.slice a us.length c) us ∧ us.length = ls.length ∧
    ∀ (i : Nat) (u : Value) (l : List UInt8), us[i]? = some u → ls[i]? = some l → Held w H u l := by
  rcases h with ⟨rfl, rfl⟩ | ⟨v, us, rfl, h2, h3, h4, h5⟩
  · exact ⟨none, 0, [], rfl, RowAt.nil w, rfl, fun i u l hi => by simp at hi⟩
  · obtain ⟨a, c, rfl, _⟩ := h2.form
    exact ⟨a, c, us, rfl, h2, h4, h5⟩

set_option maxRecDepth 100000 in
set_option maxHeartbeats 2000000 in
theorem put_any (b : Nat) (σ : Sto) (x : StoB) (nm : ByteArray) (v : Value) (l : List UInt8) (w : World) (h : StoreAt w b σ x) (hv : BytesAt w v l) (hl : l.length ≤ 1099511627776)
    (hn : σ.changes.length < 1073741824) (hp : σ.puts.length < 1073741824) (hvn : (σ.vers nm).length < 1073741824) :
    Calls Tryz.prog 57 #[.pointer (some ⟨b, 0, none⟩), .string nm, v] w (DidS w b x (.tuple #[]) (σ.put nm l)) := by
  obtain ⟨i0, hi, hz0, hz1, hz2⟩ := info_parts info_int
  obtain ⟨av, cv, hvf, _⟩ := hv.form
  rw [List.length_map] at hvf
  have hrows : RowsAt ((w.alloc (.cells #[] 5)).alloc (.cells #[.slice (some ⟨w.heap.size, 0, none⟩) 0 0, .slice av l.length cv] 40)) (.slice (some ⟨w.heap.size + 1, 0, none⟩) 2 2) [[], l] := by
    have hm := ((Mod.refl w Nob).alloc (.cells #[] 5)).alloc (.cells #[.slice (some ⟨w.heap.size, 0, none⟩) 0 0, .slice av l.length cv] 40)
    have hc := CellsAt.new (w.alloc (.cells #[] 5)) #[.slice (some ⟨w.heap.size, 0, none⟩) 0 0, .slice av l.length cv] 40
    rw [World.size_alloc] at hc
    refine ⟨[.slice (some ⟨w.heap.size, 0, none⟩) 0 0, .slice av l.length cv], .inr ⟨w.heap.size + 1, 0, 2, rfl, by simp, by simp, by unfold maxLen; omega, fun i u hi => ?_⟩, rfl, fun i u m hi hj => ?_⟩
    · rw [Nat.zero_add, hc.cell i]; simpa using hi
    · match i with
      | 0 =>
        simp at hi hj
        subst hi; subst hj
        exact .inl (.inr ⟨w.heap.size, 0, 0, rfl, by simp; omega, by simp, by unfold maxLen; omega, fun i u hi => by simp at hi⟩)
      | 1 =>
        simp at hi hj
        subst hi; subst hj
        have hv' := hv
        rw [hvf] at hv'
        exact hv'.mod hm (fun _ _ => nob)
      | n + 2 => simp at hi
  go_enter Tryz.func57, Tryz.ntmps57
  go_wp2_with fail
  refine (concat_bytes _ _ _ hrows (by simp [total]; omega)).mono ?_
  rintro e w1 ⟨v1, rfl, hown1, hm1⟩
  have hm1' := (((Mod.refl w Nob).alloc _).alloc _).trans hm1
  clear hrows hm1
  simp only [List.flatten_cons, List.flatten_nil, List.append_nil, List.nil_append, World.size_alloc] at hown1
  have h1 := h.still hm1'
  have c2 := h1.cells.cell 2
  have c3 := h1.cells.cell 3
  have f3 := h1.cells.free 3
  obtain ⟨vs, hvs1, hvs2, hch⟩ := h1.chs
  obtain ⟨a2, k2, hcv, _⟩ := owns_form hch
  obtain ⟨a3, k3, hpv, _⟩ := owns_form h1.puts
  rw [hcv] at c2
  have hcv' := hcv
  simp at c2 c3
  have hpo := h1.puts
  obtain ⟨pn, hpn⟩ : ∃ pn, σ.puts.length = pn := ⟨_, rfl⟩
  obtain ⟨cn, hcn⟩ : ∃ cn, σ.changes.length = cn := ⟨_, rfl⟩
  obtain ⟨ps, hps⟩ : ∃ ps, (σ.puts.map fun (n : Nat) => Value.int .i64 (n : Int)) = ps := ⟨_, rfl⟩
  rw [hpn, hps] at hpo
  rw [hcn] at c2 hcv'
  clear hcv hpv hch hvs2 hvs1 hv hvf
  go_wp2_with fail
  have hbl := h1.cells.lt
  have hpo2 := hpo.alloc (.cells #[.int .i64 cn] 3)
  have hlen1 : v1.ownBlock ≠ none ∨ True := .inr trivial
  clear hlen1
  go_region_law (refine step_append_lies _ (by rfl) _ _ _ (by rfl) 0 3 i0 _ 1 8 Tryz.underlying80 hi hz0 hz1 hz2 rfl (by omega) x.pv pn ps (by rfl) hpo2.drew ⟨w1.heap.size, 0, none⟩ 1 1 [.int .i64 cn] (by rfl) (by rfl) (World.news_of_block (cs := #[.int .i64 cn]) (t := 3) (fr := (0, 0)) (heap_alloc_new w1 _)) (by simp [Value.oneCell']) (by omega) (by unfold maxLen; omega) (by omega) (by simp) (w1.heap.size + 1) (by simp) ?_; intro gg cap w2 hown2 hgrow hat hlt; have hA := (h1.cells.mod (((Mod.refl w1 (inBlock x.pv)).alloc (.cells #[.int .i64 cn] 3)).drew.grown hgrow (fun k hk => .inl hk)) (fun hk => (h1.nep b hk).1 rfl)); have g2 := hA.cell 2; have g3 := hA.cell 3; have gf := hA.free 3; simp at g2 g3; rw [hcv'] at g2)
  all_goals (
    have hins : ∀ k, inBlock (Value.slice (some ⟨gg, 0, none⟩) (pn + 1) cap) k → inBlock x.pv k ∨ w1.heap.size ≤ k := by
      intro k hk
      have hk' : gg = k := by simpa [inBlock, Value.ownBlock] using hk
      subst hk'
      rcases hat with h2 | h2
      · exact .inl h2
      · right; omega
    have hp1 := puts_done (u := .slice (some ⟨gg, 0, none⟩) (pn + 1) cap) h1 (((Mod.refl w1 Nob).alloc (.cells #[.int .i64 cn] 3)).drew) hgrow (by rw [hpn, hcn, hps]; exact hown2) hins)
  all_goals (
    clear hat hlt hown2 hgrow gf g3 g2 hA hpo2 hpo hz0 hz1 hz2 hi c2 c3 f3 hbl hins
    obtain ⟨hs3, hp3⟩ := hp1
    have hv1 := BytesAt.of_owns hown1
    have hnew : ∀ k, inBlock v1 k → w.heap.size ≤ k ∧ k < w1.heap.size := fun k hk => by have := hown1.lt k hk; omega
    have hno : ∀ k, inBlock v1 k → ¬ x.own b k := fun k hk ho => by have h2 := hnew k hk; have h3 := h.foot_lt k (.inl ho); omega
    have hno3 : ∀ k, inBlock v1 k → ¬ StoB.own { x with pv := Value.slice (some ⟨gg, 0, none⟩) (pn + 1) cap } b k := fun k hk ho => by
      have h2 := hnew k hk
      rcases hp3.own k ho with h3 | h3
      · exact hno k hk h3
      · omega
    have hs4 := hs3.hold_more (inBlock v1) (fun k hk => ⟨by have h2 := hnew k hk; have h3 := hp3.mod.size; omega, hno3 k hk⟩)
    obtain ⟨w3, hw3⟩ : ∃ w3, w2.setCell ⟨b, 3, none⟩ (Value.slice (some ⟨gg, 0, none⟩) (pn + 1) cap) = w3 := ⟨_, rfl⟩
    rw [hw3] at hs4 hp3
    rw [hw3]
    have hv3 : Held w3 (fun k => x.held k ∨ inBlock v1 k) v1 l := ⟨hv1.mod hp3.mod hno, fun k hk => .inr hk⟩
    have hst : StepS b w x w3 { x with pv := Value.slice (some ⟨gg, 0, none⟩) (pn + 1) cap, held := fun k => x.held k ∨ inBlock v1 k } := by
      have h5 := StepS.after hm1' hp3
      exact ⟨h5.mod, h5.own, fun k hk => .inl hk, fun k hk => hk.imp (fun h => h) (fun h6 => (hnew k h6).1)⟩
    clear hs3 hp3 hw3
    go_wp2_with fail
    refine (set_some b _ _ nm v1 l w3 hs4 hv3 hn).mono ?_
    rintro e w4 ⟨x4, rfl, h4, s4⟩
    have hst4 := hst.trans s4
    have hv4 := hv3.step hs4 s4
    clear hst hs4 hv3 s4 h h1
    obtain ⟨f, hf, hf2⟩ := h4.vers
    obtain ⟨ra, rc, us, hget, hrow, hul, hels⟩ := vers_row (hf2 nm)
    obtain ⟨hrow', hclip⟩ := clip_row hrow
    have c1 := h4.cells.cell 1
    simp at c1
    have hus : us.length < 1073741824 := by rw [hul]; exact hvn
    have HU := Lib.hid hul
    clear hul
    have hl0 := run_lookup_at Tryz.underlying78 keyS zero_vers (hf.mod (Mod.refl w4 Nob).drew nob) nm false
    have hl1 := fun o => run_lookup_at Tryz.underlying78 keyS zero_vers (hf.mod ((Mod.refl w4 Nob).alloc o).drew nob) nm false
    simp only [Bool.false_eq_true, if_false, hget] at hl0 hl1
    obtain ⟨j0, hj, hjz0, hjz1, hjz2⟩ := info_parts info_bytes
    obtain ⟨a9, k9, rfl, _, _⟩ := owns_form hown1
    go_wp2_with fail
    go_region_held3 (fun w' => w'.cell? ⟨b, 1, none⟩ = some (.map (some x4.mv))) (first | go_keep | assumption)
      (first
        | (go_at_call 84; refine (hclip _).mono ?_; rintro e w' ⟨rfl, rfl⟩)
        | (show if Region.wanted ⟨some 44, _, _, _, _, _⟩ _ = true then _ else _
           refine step_append_fresh (by rfl) _ _ _ (by rfl) 40 j0 _ 24 Tryz.underlying117 hj hjz0 hjz1 hjz2 rfl ra us.length us (by rfl) (hrow'.mod ((Mod.refl w4 Nob).alloc _).drew (fun _ _ => nob)) w4.heap.size 1 _ 40 (by rfl) (CellsAt.new w4 _ _) (by omega) (by unfold maxLen; omega) (by omega) ?_
           intro v6 w6 hown6 hg6
           have hm6 := ((Mod.refl w4 Nob).alloc (.cells #[.slice a9 l.length k9] 40)).drew.grown hg6 (fun k hk => by cases hk)
           obtain ⟨w7, hrun7, hm7, hg7⟩ := run_mapUpdate_at (T := 78) Tryz.underlying78 keyS (hf.mod hm6 nob) nm v6
           have h6 := h4.still hm6
           have k6 := (h6.cells.cell 1)
           have k7 := ((h6.cells.mod ((Mod.refl w6 (· = x4.mv)).grown hg7 (fun k hk => .inl (Option.some.inj hk).symm)) h6.ne2).cell 1)
           simp at k6 k7)))
  all_goals (
    go_wp2_with fail
    go_end0
    have hM7 := (Mod.refl w6 (· = x4.mv)).grown hg7 (fun k hk => .inl (Option.some.inj hk).symm)
    have hb6 : ∀ k, inBlock v6 k → w4.heap.size ≤ k ∧ k < w6.heap.size := fun k hk => by
      have h1 := hown6.lt k hk
      simp at h1
      omega
    have h6' := h6.hold_more (inBlock v6) (fun k hk => ⟨(hb6 k hk).2, fun ho => by have h1 := hb6 k hk; have h2 := h4.foot_lt k (.inl ho); omega⟩)
    have hul : us.length = (σ.vers nm).length := HU
    have hd := vers_done (ls := σ.vers nm ++ [l]) h6' hM7 hm7 (fun n => (hf2 n).mono hm6 (fun k hk => hk.elim) (fun _ h => .inl h)) (RowAt.of_owns hown6) (fun k hk => .inr hk) (by simp [hul]) (fun i u l' hi' hj' => by
      by_cases hlt : i < us.length
      · rw [List.getElem?_append_left hlt] at hi'
        rw [List.getElem?_append_left (by omega)] at hj'
        exact (hels i u l' hi' hj').mono hm6 (fun k hk => hk.elim) (fun _ h => .inl h)
      · have h0 : i = us.length := by
          have := (List.getElem?_eq_some_iff.1 hi').1
          simp at this
          omega
        rw [h0, List.getElem?_append_right (Nat.le_refl _)] at hi'
        rw [h0, hul, List.getElem?_append_right (Nat.le_refl _)] at hj'
        simp at hi' hj'
        subst hi'; subst hj'
        exact hv4.mono hm6 (fun k hk => hk.elim) (fun _ h => .inl h))
    exact ⟨_, rfl, hd, hst4.trans ⟨hm6.nob.drop hM7 (fun k hk => .inl (.inr (.inr (.inl hk)))), fun k hk => .inl hk, fun k hk => .inl hk, fun k hk => hk.imp (fun h => h) (fun h1 => (hb6 k h1).1)⟩⟩)

end Go.Proofs.YtaeociedjdgdfaaGreatDoor

namespace Go.Proofs.YtaeociedjdgdfaaGreatDoor
open Go.RowKit

theorem run_text {P : Program} {w : World} {v : Value} {l : List UInt8} (h : BytesAt w v l) (src dst e : TypeId) (hs : P.underlying src = some (.slice e)) (he : P.underlying e = some (.int .u8)) (hd : P.underlying dst = some .string) :
    (convert src dst v).run P w = .ok (.string ⟨l.toArray⟩) w := by
  rcases h with (⟨rfl, hl⟩ | ⟨b, o, cap, rfl, hb, hl, hc, hx⟩) | ⟨hl, a, cap, rfl, hc⟩
  · have hl0 : l = [] := List.map_eq_nil_iff.1 hl
    subst hl0
    exact run_convert_bytes_nil w src e hs he 0 0 dst hd
  · rw [List.length_map]
    refine run_convert_bytes_back w src dst e _ cap l hs he hd (fun j hj => ?_)
    rw [Addr.add_lit]
    exact hx j _ (by simp [List.getElem?_eq_getElem hj, B])
  · have hl0 : l = [] := List.map_eq_nil_iff.1 hl
    subst hl0
    exact run_convert_bytes_back w src dst e a cap [] hs he hd (fun j hj => by simp at hj)

theorem text_eq (l m : List UInt8) : ((⟨l.toArray⟩ : ByteArray) == (⟨m.toArray⟩ : ByteArray)) = decide (l = m) := by
  by_cases h : l = m
  · subst h
    simp only [decide_true]
    exact (MapKept.bytes_beq _ _).2 rfl
  · simp only [h, decide_false]
    cases h2 : ((⟨l.toArray⟩ : ByteArray) == (⟨m.toArray⟩ : ByteArray))
    · rfl
    · have h3 := (MapKept.bytes_beq _ _).1 h2
      simp at h3
      exact absurd h3 h

/-- It answers yes, and nothing that was there has turned. -/
def YesN (w : World) (e : Ending) (w' : World) : Prop := e = .returned (.bool true) ∧ Mod w w' Nob

/-- A store that was made since w0. -/
structure Own (w0 w : World) (b : Nat) (σ : Sto) (x : StoB) : Prop where
  at_ : StoreAt w b σ x
  mod : Mod w0 w Nob
  fresh : ∀ k, x.foot b k → w0.heap.size ≤ k

theorem Own.still {w0 w w' : World} {b : Nat} {σ : Sto} {x : StoB} (h : Own w0 w b σ x) (hm : Mod w w' Nob) : Own w0 w' b σ x := ⟨h.at_.still hm, h.mod.trans hm, h.fresh⟩

theorem Own.step {w0 w w' : World} {b : Nat} {σ σ' : Sto} {x : StoB} {v : Value} {e : Ending} (h : Own w0 w b σ x) (hd : DidS w b x v σ' e w') : ∃ x', e = .returned v ∧ Own w0 w' b σ' x' := by
  obtain ⟨x', he, hs, hk⟩ := hd
  exact ⟨x', he, hs, h.mod.drop hk.mod (fun k hk => .inr (h.fresh k (.inl hk))), fun k hk' => (hk.foot k hk').elim (h.fresh k) (fun h1 => Nat.le_trans h.mod.size h1)⟩

theorem Own.new {w w' : World} {e : Ending} (h : NewS w e w') : ∃ b x, e = .returned (.pointer (some ⟨b, 0, none⟩)) ∧ Own w w' b sto0 x := by
  obtain ⟨b, x, he, hs, hm, hf⟩ := h
  exact ⟨b, x, he, hs, hm, hf⟩

theorem short0 : sto0.short := fun nm l h => by cases h
theorem short_set {σ : Sto} {nm : ByteArray} {l : List UInt8} (h : σ.short) (hl : l.length ≤ 1099511627776) : (σ.set nm (some l)).short := fun n l' hs => by
  have hs' : upd σ.shows nm (some l) n = some l' := hs
  by_cases hn : n = nm
  · subst hn; rw [upd_same] at hs'; cases hs'; exact hl
  · rw [upd_other _ _ hn] at hs'; exact h n l' hs'
theorem short_none {σ : Sto} {nm : ByteArray} (h : σ.short) : (σ.set nm none).short := fun n l' hs => by
  have hs' : upd σ.shows nm none n = some l' := hs
  by_cases hn : n = nm
  · subst hn; rw [upd_same] at hs'; cases hs'
  · rw [upd_other _ _ hn] at hs'; exact h n l' hs'
theorem short_put {σ : Sto} {nm : ByteArray} {l : List UInt8} (h : σ.short) (hl : l.length ≤ 1099511627776) : (σ.put nm l).short := fun n l' hs => short_set (nm := nm) h hl n l' hs

def aName : ByteArray := ⟨#[97]⟩

end Go.Proofs.YtaeociedjdgdfaaGreatDoor


