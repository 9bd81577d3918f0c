/- A message's tag: poly.Tag. The conditions: the key has 32 bytes; the message is not empty. -/
import Derived.Test.YtaeociedjdgdfaaDoorDh
namespace Go.Proofs.YtaeociedjdgdfaaDoor
open Go.RowKit Go.Shelf
set_option linter.unusedSimpArgs false
attribute [local go_sem] Oper.semAt_some

section
variable {P : Program} {md : Region.Mode} {ops : Array Oper} {Q : Exit → Act → World → Prop}
/-- One of two may come up. -/
theorem wpAny_two {fuel : Nat} {listed : Array Bool} {a : Act} {w : World} (i j : Nat) (oi oj : Oper) (hr : Region.ready md ops listed = [i, j]) (hi : ops[i]? = some oi) (hj : ops[j]? = some oj)
    (h1 : ∀ K' : Act → World → Prop, Shut (∀ a w, wpAny P md ops Q fuel (listed.setIfInBounds i true) a w → K' a w) → if Region.wanted oi (yielded ops a.tmps) = true then Oper.wp P oi a w K' Q else K' (a.put oi.dst undef) w)
    (h2 : ∀ K' : Act → World → Prop, Shut (∀ a w, wpAny P md ops Q fuel (listed.setIfInBounds j true) a w → K' a w) → if Region.wanted oj (yielded ops a.tmps) = true then Oper.wp P oj a w K' Q else K' (a.put oj.dst undef) w) : wpAny P md ops Q (fuel + 1) listed a w :=
  wpAny_ready hr (by simp) (AllReady.cons hi (fun K' hK => h1 K' hK) (AllReady.cons hj (fun K' hK => h2 K' hK) AllReady.nil))
end

/-- One piece more. -/
def polyStep (r0 r1 : UInt64) (s : N3) (b : List UInt8) : N3 := (s.plus (pieceA b) (pieceB b) (pieceC b)).times r0 r1
def polyFold (m : List UInt8) (r0 r1 : UInt64) (is : List Nat) : N3 := is.foldl (fun s i => polyStep r0 r1 s ((m.drop (16 * i)).take 16)) ⟨0, 0, 0⟩
theorem polyFold_snoc (m : List UInt8) (r0 r1 : UInt64) (is : List Nat) (i : Nat) : polyFold m r0 r1 (is ++ [i]) = polyStep r0 r1 (polyFold m r0 r1 is) ((m.drop (16 * i)).take 16) := by simp [polyFold]
/-- The prime taken away, once. -/
def N3.less (t : N3) : N3 := if 4 ≤ (t.plus 5 0 0).c.toNat then ⟨(t.plus 5 0 0).a, (t.plus 5 0 0).b, (t.plus 5 0 0).c - 4⟩ else t
def N3.lessN (t : N3) : Nat → N3
  | 0 => t
  | k + 1 => (t.lessN k).less
def polyEnd (key m : List UInt8) : N3 := ((polyFold m (word8 (clampL key) 0) (word8 (clampL key) 8) (List.range (pieceN m.length 16))).lessN 2).plus (word8 key 16) (word8 key 24) 0
def polyL (key m : List UInt8) : List UInt8 := eightsL [(polyEnd key m).a.toNat, (polyEnd key m).b.toNat]
theorem polyL_length (key m : List UInt8) : (polyL key m).length = 16 := by unfold polyL; rw [eightsL_length]; rfl
theorem size_a32b : (Tryd.prog.info? 22).map (·.size) = some 32 := by kernel_rfl

theorem n64_sub4 (c : UInt64) (h : 4 ≤ c.toNat) : IntKind.u64.wrap (n64 c - 4) = n64 (c - 4) := by
  have h1 := c.toNat_lt
  have h2 : (c - 4).toNat = c.toNat - 4 := UInt64.toNat_sub_of_le c 4 (UInt64.le_iff_toNat_le.2 h)
  unfold n64
  rw [h2, u64_wrap_id _ (by omega) (by omega)]
  omega
theorem plus5_any (t : N3) (w : World) : Calls Tryd.prog 84 #[.agg t.cells, .int .u64 5, .int .u64 0, .int .u64 0] w fun e w' => e = .returned (.agg (t.plus 5 0 0).cells) ∧ Mod w w' Nob := plus_any t 5 0 0 w
/-- The key, the result, the multiplier, the sum, the row. -/
structure PolyAt (w : World) (H S g M k b G : Nat) (key m : List UInt8) (r0 r1 : UInt64) (s : N3) (W : World) : Prop where
  key : CellsAt W H (arrB key) 22
  out : CellsAt W (H + 1) (arrB (List.replicate 16 0)) 107
  r : CellsAt W (S + 1) #[V64 r0, V64 r1] 147
  sum : CellsAt W (S + 2) s.cells 149
  row : W.ownsRow b 5 1 (.slice (some ⟨g, 0, none⟩) M k) M (m.map B)
  md : Mod w W Nob
  size : G + 2 ≤ W.heap.size

set_option maxRecDepth 100000 in
set_option maxHeartbeats 4000000 in
theorem poly_any (key : List UInt8) (v : Value) (ls : List (List UInt8)) (w : World) (hk : key.length = 32) (hv : RowsAt w v ls) (hl : total ls ≤ 274877906944) (hl0 : 0 < total ls) :
    Calls Tryd.prog 67 #[.agg (arrB key), v] w fun e w' => e = .returned (.agg (arrB (polyL key ls.flatten))) ∧ Mod w w' Nob := by
  refine (callsIn_wide (n := 6)).1 ?_
  refine callsIn_of_wp_marks Tryd.func67 rfl trivial ?_ rfl
  simp only [Tryd.ntmps67, List.size_toArray, List.length_cons, List.length_nil, Nat.reduceAdd, Nat.reduceSub, Array.replicate_succ, Array.replicate_zero, List.push_toArray, List.append_toArray, List.nil_append, List.cons_append]
  refine wpIn_wide.2 ?_
  have cK0 := (CellsAt.new w (arrB key) 22).alloc (.cells (arrB (List.replicate 16 0)) 107)
  have cO0 := new_at (w := w.alloc (.cells (arrB key) 22)) (cs := arrB (List.replicate 16 0)) (t := 107) (g := w.heap.size + 1) (by simp)
  have m0 := ((Mod.refl w Nob).alloc (.cells (arrB key) 22)).alloc (.cells (arrB (List.replicate 16 0)) 107)
  have hKA : Box (arrB key = arrB key) := ⟨rfl⟩
  have hks : (arrB key).size = 32 := by rw [arrB_size, hk]
  go_wp2_with (refine wpList_load_arr rfl 22 _ rfl w.heap.size 32 5 rfl (arrB key) (by exact cK0) Tryd.underlying22 size_a32b hks ?_)
  change Calls _ _ _ ((w.alloc (.cells (arrB key) 22)).alloc (.cells (arrB (List.replicate 16 0)) 107)) _
  have hv1 := hv.mod m0 (fun _ => nob)
  have hz0 : ((w.alloc (.cells (arrB key) 22)).alloc (.cells (arrB (List.replicate 16 0)) 107)).heap.size = w.heap.size + 2 := by simp
  obtain ⟨W1, hW1⟩ : ∃ W1, (w.alloc (.cells (arrB key) 22)).alloc (.cells (arrB (List.replicate 16 0)) 107) = W1 := ⟨_, rfl⟩
  rw [hW1] at cK0 cO0 m0 hv1 hz0 ⊢
  obtain ⟨H, hH⟩ : ∃ H, w.heap.size = H := ⟨_, rfl⟩
  rw [hH] at cK0 cO0 hz0 ⊢
  have HH := Lib.hid hH
  clear hW1 hKA hv hH
  refine (clamp_any key W1 hk).mono ?_
  rintro e W2 ⟨rfl, m1⟩
  have hcl := clampL_length key hk
  obtain ⟨cl, hcl0⟩ : ∃ cl, clampL key = cl := ⟨_, rfl⟩
  have HCL := Box.mk hcl0
  rw [hcl0] at hcl ⊢
  replace cK0 := cK0.mod m1 nob
  replace cO0 := cO0.mod m1 nob
  replace hv1 := hv1.mod m1 (fun _ => nob)
  replace m0 := m0.trans m1
  have hz2 := m1.size
  have hls : (arrB cl).size = 16 := by rw [arrB_size, hcl]
  clear m1 hcl0
  go_wp2_with (refine wpList_store_arr rfl 107 _ _ rfl W2.heap.size 16 (arrB cl) (arrB (List.replicate 16 0)) rfl rfl (by exact CellsAt.new W2 (arrB (List.replicate 16 0)) 107) size_b16 hls (by rw [arrB_size]; rfl) (arrB_one _) ?_)
  change Code.wp _ _ _ _ ((W2.alloc (.cells (arrB (List.replicate 16 0)) 107)).setRow W2.heap.size (arrB cl))
  have hA := ((Mod.refl W2 Nob).alloc (.cells (arrB (List.replicate 16 0)) 107)).setRow (g := W2.heap.size) (.inr (Nat.le_refl _)) (arrB cl)
  have cC := (CellsAt.new W2 (arrB (List.replicate 16 0)) 107).setRow (arrB cl)
  have hz3 : ((W2.alloc (.cells (arrB (List.replicate 16 0)) 107)).setRow W2.heap.size (arrB cl)).heap.size = W2.heap.size + 1 := by simp
  obtain ⟨W3, hW3⟩ : ∃ W3, (W2.alloc (.cells (arrB (List.replicate 16 0)) 107)).setRow W2.heap.size (arrB cl) = W3 := ⟨_, rfl⟩
  rw [hW3] at hA cC hz3 ⊢
  obtain ⟨S, hS⟩ : ∃ S, W2.heap.size = S := ⟨_, rfl⟩
  rw [hS] at cC hz3 hz2 ⊢
  replace cK0 := (cK0.mod hA nob).mod ((Mod.refl W3 Nob).drew) nob
  replace cO0 := (cO0.mod hA nob).mod ((Mod.refl W3 Nob).drew) nob
  replace cC := cC.mod ((Mod.refl W3 Nob).drew) nob
  replace hv1 := (hv1.mod hA (fun _ => nob)).mod ((Mod.refl W3 Nob).drew) (fun _ => nob)
  replace m0 := (m0.trans hA).trans ((Mod.refl W3 Nob).drew)
  have hz4 : W3.drew.heap.size = S + 1 := hz3
  clear hA hW3 hS hz3
  refine wp_no_panic ?_
  refine wp_region_any (by kernel_rfl) ?_
  change wpAny _ _ _ _ _ _ _ W3.drew
  obtain ⟨W4, hW4⟩ : ∃ W4, W3.drew = W4 := ⟨_, rfl⟩
  rw [hW4] at cK0 cO0 cC hv1 m0 hz4 ⊢
  clear hW4
  have hb0 : BytesAt W4 (.slice (some ⟨S, 0, none⟩) 16 16) (cl.drop 0) := bytes_block_from (w := W4) cC hcl (by omega) 0 (by omega)
  have hb8 : BytesAt W4 (.slice (some ⟨S, 8, none⟩) 8 8) (cl.drop 8) := bytes_block_from (w := W4) cC hcl (by omega) 8 (by omega)
  have cR5 := new_at (w := W4) (cs := #[.int .u64 0, .int .u64 0]) (t := 147) (g := S + 1) hz4.symm
  have l1 := fun W hb => low8_any (.slice (some ⟨S, 0, none⟩) 16 16) cl 0 W hb (by omega)
  have l3 := fun W hb => low8_any (.slice (some ⟨S, 8, none⟩) 8 8) cl 8 W hb (by omega)
  have hb0' := hb0.mod ((Mod.refl W4 Nob).alloc (.cells #[.int .u64 0, .int .u64 0] 147)) (fun _ _ => nob)
  have hb8' := hb8.mod ((Mod.refl W4 Nob).alloc (.cells #[.int .u64 0, .int .u64 0] 147)) (fun _ _ => nob)
  obtain ⟨r0, hr0⟩ : ∃ x, word8 cl 0 = x := ⟨_, rfl⟩
  obtain ⟨r1, hr1⟩ : ∃ x, word8 cl 8 = x := ⟨_, rfl⟩
  rw [hr0] at l1
  rw [hr1] at l3
  have HR0 := Box.mk hr0
  have HR1 := Box.mk hr1
  clear hr0 hr1
  rename_i K ha
  suffices hfin : K { tmps := #[.agg (arrB key), v, .pointer (some ⟨H, 0, none⟩), undef, .pointer (some ⟨H + 1, 0, none⟩), .pointer (some ⟨S, 0, none⟩), .pointer (some ⟨S + 1, 0, none⟩), undef, undef, undef, .agg (arrB key), .agg (arrB cl), .slice (some ⟨S, 0, none⟩) 16 16, V64 r0, .slice (some ⟨S, 8, none⟩) 8 8, V64 r1, .agg #[V64 r0, V64 r1], undef, undef, undef, undef, undef, undef, undef, undef, undef, undef, undef, undef, undef, undef, undef, undef, undef, undef, undef, undef, undef, undef, undef, undef, undef, undef, undef, undef, undef, undef, undef, undef, undef, undef, undef, undef, undef, undef, undef, undef, undef, undef, undef], defers := [] } ((W4.alloc (.cells #[.int .u64 0, .int .u64 0] 147)).setRow (S + 1) #[V64 r0, V64 r1]) by
    refine wpAny_take (i := 0) (v := .slice (some ⟨S, 0, none⟩) 16 16) rfl (by kernel_rfl) (by kernel_rfl) (by kernel_rfl) (fun _ _ _ h => h) (Or.inl ⟨by rfl, fun W => by go_simp⟩) ?_
    try simp only [Act.put, List.getElem_toArray, List.getElem_cons_zero, List.getElem_cons_succ, List.setIfInBounds_toArray, List.set_cons_zero, List.set_cons_succ]
    refine wpAny_take (i := 2) (v := .slice (some ⟨S, 8, none⟩) 8 8) rfl (by kernel_rfl) (by kernel_rfl) (by kernel_rfl) (fun _ _ _ h => h) (Or.inl ⟨by rfl, fun W => by go_simp⟩) ?_
    try simp only [Act.put, List.getElem_toArray, List.getElem_cons_zero, List.getElem_cons_succ, List.setIfInBounds_toArray, List.set_cons_zero, List.set_cons_succ]
    refine wpAny_two 1 5 _ _ (by kernel_rfl) rfl rfl (fun K' hK' => ?_) (fun K' hK' => ?_)
    · go_simp
      refine (l1 _ (by assumption)).mono ?_
      rintro e W' ⟨rfl, rfl⟩
      go_wp2_with fail
      refine hK'.out _ _ ?_
      clear hK' K'
      try simp only [Act.put, List.getElem_toArray, List.getElem_cons_zero, List.getElem_cons_succ, List.setIfInBounds_toArray, List.set_cons_zero, List.set_cons_succ]
      refine wpAny_two 3 5 _ _ (by kernel_rfl) rfl rfl (fun K' hK' => ?_) (fun K' hK' => ?_)
      · go_simp
        refine (l3 _ (by assumption)).mono ?_
        rintro e W' ⟨rfl, rfl⟩
        go_wp2_with fail
        refine hK'.out _ _ ?_
        clear hK' K'
        try simp only [Act.put, List.getElem_toArray, List.getElem_cons_zero, List.getElem_cons_succ, List.setIfInBounds_toArray, List.set_cons_zero, List.set_cons_succ]
        refine wpAny_two 4 5 _ _ (by kernel_rfl) rfl rfl (fun K' hK' => ?_) (fun K' hK' => ?_)
        · go_simp
          refine hK'.out _ _ ?_
          clear hK' K'
          try simp only [Act.put, List.getElem_toArray, List.getElem_cons_zero, List.getElem_cons_succ, List.setIfInBounds_toArray, List.set_cons_zero, List.set_cons_succ]
          refine wpAny_one 5 _ (by kernel_rfl) rfl (fun K' hK' => ?_)
          go_simp
          try rw [hz4]
          refine hK'.out _ _ ?_
          clear hK' K'
          try simp only [Act.put, List.getElem_toArray, List.getElem_cons_zero, List.getElem_cons_succ, List.setIfInBounds_toArray, List.set_cons_zero, List.set_cons_succ]
          refine wpAny_one 6 _ (by kernel_rfl) rfl (fun K' hK' => ?_)
          refine Eq.mpr (if_pos (by rfl)) ?_
          refine wp_store_row 147 _ _ rfl (S + 1) #[V64 r0, V64 r1] rfl rfl 147 #[.int .u64 0, .int .u64 0] cR5 (by kernel_rfl) rfl (by simp [Value.oneCell']) ?_
          refine hK'.out _ _ ?_
          clear hK' K'
          try simp only [Act.put, List.getElem_toArray, List.getElem_cons_zero, List.getElem_cons_succ, List.setIfInBounds_toArray, List.set_cons_zero, List.set_cons_succ]
          refine wpAny_done (by kernel_rfl) ?_ _
          try simp only [Act.put, List.getElem_toArray, List.getElem_cons_zero, List.getElem_cons_succ]
          exact hfin
        · go_simp
          try rw [hz4]
          refine hK'.out _ _ ?_
          clear hK' K'
          try simp only [Act.put, List.getElem_toArray, List.getElem_cons_zero, List.getElem_cons_succ, List.setIfInBounds_toArray, List.set_cons_zero, List.set_cons_succ]
          refine wpAny_one 4 _ (by kernel_rfl) rfl (fun K' hK' => ?_)
          go_simp
          refine hK'.out _ _ ?_
          clear hK' K'
          try simp only [Act.put, List.getElem_toArray, List.getElem_cons_zero, List.getElem_cons_succ, List.setIfInBounds_toArray, List.set_cons_zero, List.set_cons_succ]
          refine wpAny_one 6 _ (by kernel_rfl) rfl (fun K' hK' => ?_)
          refine Eq.mpr (if_pos (by rfl)) ?_
          refine wp_store_row 147 _ _ rfl (S + 1) #[V64 r0, V64 r1] rfl rfl 147 #[.int .u64 0, .int .u64 0] cR5 (by kernel_rfl) rfl (by simp [Value.oneCell']) ?_
          refine hK'.out _ _ ?_
          clear hK' K'
          try simp only [Act.put, List.getElem_toArray, List.getElem_cons_zero, List.getElem_cons_succ, List.setIfInBounds_toArray, List.set_cons_zero, List.set_cons_succ]
          refine wpAny_done (by kernel_rfl) ?_ _
          try simp only [Act.put, List.getElem_toArray, List.getElem_cons_zero, List.getElem_cons_succ]
          exact hfin
      · go_simp
        try rw [hz4]
        refine hK'.out _ _ ?_
        clear hK' K'
        try simp only [Act.put, List.getElem_toArray, List.getElem_cons_zero, List.getElem_cons_succ, List.setIfInBounds_toArray, List.set_cons_zero, List.set_cons_succ]
        refine wpAny_one 3 _ (by kernel_rfl) rfl (fun K' hK' => ?_)
        go_simp
        refine (l3 _ (by assumption)).mono ?_
        rintro e W' ⟨rfl, rfl⟩
        go_wp2_with fail
        refine hK'.out _ _ ?_
        clear hK' K'
        try simp only [Act.put, List.getElem_toArray, List.getElem_cons_zero, List.getElem_cons_succ, List.setIfInBounds_toArray, List.set_cons_zero, List.set_cons_succ]
        refine wpAny_one 4 _ (by kernel_rfl) rfl (fun K' hK' => ?_)
        go_simp
        refine hK'.out _ _ ?_
        clear hK' K'
        try simp only [Act.put, List.getElem_toArray, List.getElem_cons_zero, List.getElem_cons_succ, List.setIfInBounds_toArray, List.set_cons_zero, List.set_cons_succ]
        refine wpAny_one 6 _ (by kernel_rfl) rfl (fun K' hK' => ?_)
        refine Eq.mpr (if_pos (by rfl)) ?_
        refine wp_store_row 147 _ _ rfl (S + 1) #[V64 r0, V64 r1] rfl rfl 147 #[.int .u64 0, .int .u64 0] cR5 (by kernel_rfl) rfl (by simp [Value.oneCell']) ?_
        refine hK'.out _ _ ?_
        clear hK' K'
        try simp only [Act.put, List.getElem_toArray, List.getElem_cons_zero, List.getElem_cons_succ, List.setIfInBounds_toArray, List.set_cons_zero, List.set_cons_succ]
        refine wpAny_done (by kernel_rfl) ?_ _
        try simp only [Act.put, List.getElem_toArray, List.getElem_cons_zero, List.getElem_cons_succ]
        exact hfin
    · go_simp
      try rw [hz4]
      refine hK'.out _ _ ?_
      clear hK' K'
      try simp only [Act.put, List.getElem_toArray, List.getElem_cons_zero, List.getElem_cons_succ, List.setIfInBounds_toArray, List.set_cons_zero, List.set_cons_succ]
      refine wpAny_one 1 _ (by kernel_rfl) rfl (fun K' hK' => ?_)
      go_simp
      refine (l1 _ (by assumption)).mono ?_
      rintro e W' ⟨rfl, rfl⟩
      go_wp2_with fail
      refine hK'.out _ _ ?_
      clear hK' K'
      try simp only [Act.put, List.getElem_toArray, List.getElem_cons_zero, List.getElem_cons_succ, List.setIfInBounds_toArray, List.set_cons_zero, List.set_cons_succ]
      refine wpAny_one 3 _ (by kernel_rfl) rfl (fun K' hK' => ?_)
      go_simp
      refine (l3 _ (by assumption)).mono ?_
      rintro e W' ⟨rfl, rfl⟩
      go_wp2_with fail
      refine hK'.out _ _ ?_
      clear hK' K'
      try simp only [Act.put, List.getElem_toArray, List.getElem_cons_zero, List.getElem_cons_succ, List.setIfInBounds_toArray, List.set_cons_zero, List.set_cons_succ]
      refine wpAny_one 4 _ (by kernel_rfl) rfl (fun K' hK' => ?_)
      go_simp
      refine hK'.out _ _ ?_
      clear hK' K'
      try simp only [Act.put, List.getElem_toArray, List.getElem_cons_zero, List.getElem_cons_succ, List.setIfInBounds_toArray, List.set_cons_zero, List.set_cons_succ]
      refine wpAny_one 6 _ (by kernel_rfl) rfl (fun K' hK' => ?_)
      refine Eq.mpr (if_pos (by rfl)) ?_
      refine wp_store_row 147 _ _ rfl (S + 1) #[V64 r0, V64 r1] rfl rfl 147 #[.int .u64 0, .int .u64 0] cR5 (by kernel_rfl) rfl (by simp [Value.oneCell']) ?_
      refine hK'.out _ _ ?_
      clear hK' K'
      try simp only [Act.put, List.getElem_toArray, List.getElem_cons_zero, List.getElem_cons_succ, List.setIfInBounds_toArray, List.set_cons_zero, List.set_cons_succ]
      refine wpAny_done (by kernel_rfl) ?_ _
      try simp only [Act.put, List.getElem_toArray, List.getElem_cons_zero, List.getElem_cons_succ]
      exact hfin
  clear l1 l3 hb0 hb8 hb0' hb8' cC
  have hA := ((Mod.refl W4 Nob).alloc (.cells #[.int .u64 0, .int .u64 0] 147)).setRow (g := S + 1) (.inr (by omega)) #[V64 r0, V64 r1]
  have cR := cR5.setRow #[V64 r0, V64 r1]
  have hz5 : ((W4.alloc (.cells #[.int .u64 0, .int .u64 0] 147)).setRow (S + 1) #[V64 r0, V64 r1]).heap.size = S + 2 := by simp [hz4]
  obtain ⟨W5, hW5⟩ : ∃ W5, (W4.alloc (.cells #[.int .u64 0, .int .u64 0] 147)).setRow (S + 1) #[V64 r0, V64 r1] = W5 := ⟨_, rfl⟩
  rw [hW5] at hA cR hz5 ⊢
  replace cK0 := cK0.mod hA nob
  replace cO0 := cO0.mod hA nob
  replace hv1 := hv1.mod hA (fun _ => nob)
  replace m0 := m0.trans hA
  clear hA hW5 cR5 hz4
  go_wp2_with fail
  change Calls _ _ _ (W5.alloc (.cells (N3.mk 0 0 0).cells 149)) _
  have hA := (Mod.refl W5 Nob).alloc (.cells (N3.mk 0 0 0).cells 149)
  have cN := new_at (w := W5) (cs := (N3.mk 0 0 0).cells) (t := 149) (g := S + 2) hz5.symm
  have hz6 : (W5.alloc (.cells (N3.mk 0 0 0).cells 149)).heap.size = S + 3 := by simp [hz5]
  obtain ⟨W6, hW6⟩ : ∃ W6, W5.alloc (.cells (N3.mk 0 0 0).cells 149) = W6 := ⟨_, rfl⟩
  rw [hW6] at hA cN hz6 ⊢
  replace cK0 := cK0.mod hA nob
  replace cO0 := cO0.mod hA nob
  replace cR := cR.mod hA nob
  replace hv1 := hv1.mod hA (fun _ => nob)
  replace m0 := m0.trans hA
  clear hA hW6 hz5
  refine (concat_bytes v ls W6 hv1 (by omega)).mono ?_
  rintro e W7 ⟨va, rfl, hown, m1⟩
  rw [total_flatten] at hown
  have hfl := total_flatten ls
  obtain ⟨m, hl2⟩ : ∃ l, ls.flatten = l := ⟨_, rfl⟩
  obtain ⟨M, hT⟩ : ∃ T, total ls = T := ⟨_, rfl⟩
  rw [hl2] at hown hfl
  have HM := Box.mk hl2
  rw [hT] at hown hfl hl hl0
  clear hT hl2 hv1
  obtain ⟨a4, k4, rfl, hk4, hk5⟩ := owns_form hown
  unfold maxLen at hk5
  obtain ⟨g, rfl⟩ : ∃ g, a4 = some ⟨g, 0, none⟩ := by
    rcases hown.2 with ⟨_, h0⟩ | ⟨g, cap', cur, h0, _⟩
    · omega
    · cases h0; exact ⟨g, rfl⟩
  rw [hz6] at hown
  have lg := hown.lt g rfl
  have hz7 := m1.size
  replace cK0 := cK0.mod m1 nob
  replace cO0 := cO0.mod m1 nob
  replace cR := cR.mod m1 nob
  replace cN := cN.mod m1 nob
  replace m0 := m0.trans m1
  clear m1
  go_wp2_with fail
  refine (chunk_any (some ⟨g, 0, none⟩) M k4 16 (by omega) W7).mono ?_
  rintro e W8 ⟨rfl, hW8⟩
  have hA := ((Mod.refl W7 Nob).alloc (.cells #[.slice (some ⟨g, 0, none⟩) M k4] 71)).alloc (.cells #[.int .i64 ((16 : Nat) : Int)] 3)
  have cb1 := (CellsAt.new W7 #[.slice (some ⟨g, 0, none⟩) M k4] 71).alloc (.cells #[.int .i64 ((16 : Nat) : Int)] 3)
  have cb2 := CellsAt.new (W7.alloc (.cells #[.slice (some ⟨g, 0, none⟩) M k4] 71)) #[.int .i64 ((16 : Nat) : Int)] 3
  rw [World.size_alloc] at cb2
  have hz8 : W8.heap.size = W7.heap.size + 2 := by rw [hW8]; simp
  rw [← hW8] at hA cb1 cb2
  obtain ⟨G, hG⟩ : ∃ G, W7.heap.size = G := ⟨_, rfl⟩
  rw [hG] at cb1 cb2 hz8 hz7 lg ⊢
  replace m0 := m0.trans hA
  replace cK0 := cK0.mod hA nob
  replace cO0 := cO0.mod hA nob
  replace cR := cR.mod hA nob
  replace cN := cN.mod hA nob
  replace hown := owns_mod hown hA (fun _ _ => nob)
  clear hA hW8 hG
  go_wp2_with fail
  refine (wpIn_wide (n := 6)).1 ?_
  refine wpIn_rangeFunc_ownG (F := Fence.wide) (n := 6) rfl (by omega) (gf := 96) (lb := #[.pointer (some ⟨G, 0, none⟩), .pointer (some ⟨G + 1, 0, none⟩)]) rfl trivial (enters_of Tryd.func96 (by kernel_rfl) rfl)
    (chunk_stops 5 (by omega) G g 0 M k4 16 (by omega) (by omega) hk4 (by omega) W8 cb1 cb2) (fun h k => h.trans k) (KC.put (by omega)) (Below.refl _ _) (fun _ => rfl)
    (fun pre W => PolyAt w H S g M k4 (S + 3) G key m r0 r1 (polyFold m r0 r1 (pre.map Fin.val)) W) (fun _ _ _ => False) ?own (fun _ _ _ _ _ hs _ _ => hs)
    ⟨cK0, cO0, cR, cN, hown, m0, by omega⟩
    (fun x => { tmps := #[.agg (arrB key), v, .pointer (some ⟨H, 0, none⟩), undef, .pointer (some ⟨H + 1, 0, none⟩), .pointer (some ⟨S, 0, none⟩), .pointer (some ⟨S + 1, 0, none⟩), .pointer (some ⟨S + 2, 0, none⟩), pieceV g 0 M 16 x.val, undef, .agg (arrB key), .agg (arrB cl), .slice (some ⟨S, 0, none⟩) 16 16, V64 r0, .slice (some ⟨S, 8, none⟩) 8 8, V64 r1, .agg #[V64 r0, V64 r1], v, .slice (some ⟨g, 0, none⟩) M k4, .func (.func 96) #[] #[.pointer (some ⟨G, 0, none⟩), .pointer (some ⟨G + 1, 0, none⟩)], pieceV g 0 M 16 x.val, undef, undef, undef, undef, undef, undef, undef, undef, undef, undef, undef, undef, undef, undef, undef, undef, undef, undef, undef, undef, undef, undef, undef, undef, undef, undef, undef, undef, undef, undef, undef, undef, undef, undef, undef, undef, undef, undef, undef], defers := [] })
    ?assign ?body ?done ?stop
  case own =>
    intro pre W W' row hs hg hr
    have hm : Mod W W' (W8.heap.size ≤ ·) := (Mod.refl W _).grown hg (fun k e => .inl (by have := (hr k e).1; omega))
    have := hs.row.lt g rfl
    have := hm.size
    have := hs.size
    have hrow := owns_keep hs.row hm (by omega)
    have := m0.size
    exact ⟨hs.key.mod hm (by omega), hs.out.mod hm (by omega), hs.r.mod hm (by omega), hs.sum.mod hm (by omega), hrow, hs.md.drop hm (fun k hk => .inr (by omega)), by omega⟩
  case stop =>
    intro D c pre W _ _ h
    exact h.elim
  case assign =>
    intro l x W K hK
    gi_wp2
    exact hK
  case body =>
    intro l pre x W hI hlt
    have hx : 16 * x.val < M := by have := x.isLt; exact (pieceN_iff M 16 x.val (by omega)).1 this
    have hbx := piece_at (j := x.val) (q := 16) hI.row (by omega)
    have hx16 : ((m.drop (16 * x.val)).take 16).length = pieceLen M 16 x.val := by
      rw [List.length_take, List.length_drop, hfl]
      unfold pieceLen
      omega
    dsimp only
    obtain ⟨s, hs⟩ : ∃ s, polyFold m r0 r1 (pre.map Fin.val) = s := ⟨_, rfl⟩
    obtain ⟨L, hL⟩ : ∃ L, pieceLen M 16 x.val = L := ⟨_, rfl⟩
    have hL16 : L ≤ 16 := by rw [← hL]; unfold pieceLen; omega
    rw [hL] at hx16
    unfold pieceV at hbx ⊢
    rw [hL] at hbx ⊢
    obtain ⟨off, hoff⟩ : ∃ o, 0 + 16 * x.val = o := ⟨_, rfl⟩
    rw [hoff] at hbx ⊢
    rw [hs] at hI
    have HSS := Box.mk hs
    obtain ⟨pb, hpb⟩ : ∃ pb, (m.drop (16 * x.val)).take 16 = pb := ⟨_, rfl⟩
    rw [hpb] at hbx hx16
    have HPB := Box.mk hpb
    clear hs hoff hL hpb cb1 cb2 cK0 cO0 cR cN hown m0
    obtain ⟨sa, sb, sc⟩ := s
    have hs1 : CellsAt W (S + 2) #[V64 sa, V64 sb, V64 sc] 149 := hI.sum
    have mDr := (Mod.refl W Nob).drew
    have hS0 : CellsAt W.drew (S + 2) #[V64 sa, V64 sb, V64 sc] 149 ∧ CellsAt W.drew (S + 1) #[V64 r0, V64 r1] 147 := ⟨hs1.mod mDr nob, hI.r.mod mDr nob⟩
    have hpc := piece_any _ L L pb W.drew (hbx.mod mDr (fun _ _ => nob)) hx16 hL16
    obtain ⟨pa, hpa⟩ : ∃ x, pieceA pb = x := ⟨_, rfl⟩
    obtain ⟨pB, hpB⟩ : ∃ x, pieceB pb = x := ⟨_, rfl⟩
    obtain ⟨pC, hpC⟩ : ∃ x, pieceC pb = x := ⟨_, rfl⟩
    rw [hpa, hpB, hpC] at hpc
    obtain ⟨n1, hn1⟩ : ∃ n, (N3.mk sa sb sc).plus pa pB pC = n := ⟨_, rfl⟩
    have hpl : ∀ W, Calls Tryd.prog 84 #[.agg #[V64 sa, V64 sb, V64 sc], V64 pa, V64 pB, V64 pC] W fun e w' => e = .returned (.agg n1.cells) ∧ Mod W w' Nob := fun W => by rw [← hn1]; exact plus_any ⟨sa, sb, sc⟩ pa pB pC W
    obtain ⟨n2, hn2⟩ : ∃ n, n1.times r0 r1 = n := ⟨_, rfl⟩
    have hti : ∀ W, Calls Tryd.prog 86 #[.agg n1.cells, .agg #[V64 r0, V64 r1]] W fun e w' => e = .returned (.agg n2.cells) ∧ Mod W w' Nob := fun W => by rw [← hn2]; exact times_any n1 r0 r1 W
    have hst : polyStep r0 r1 ⟨sa, sb, sc⟩ pb = n2 := by unfold polyStep; rw [hpa, hpB, hpC, hn1, hn2]
    have HST := Box.mk hst
    clear hst hn1 hn2 hpa hpB hpC hs1
    gi_wp2
    refine wpIn_region_round (by kernel_rfl) (by rfl) (fun _ _ h => h) ?_
    refine wpAny_of_U (S := fun W' => CellsAt W' (S + 2) #[V64 sa, V64 sb, V64 sc] 149 ∧ CellsAt W' (S + 1) #[V64 r0, V64 r1] 147) (k := 9) _ _ _ _ ?_
    refine wpAnyU_take (i := 0) (v := .agg #[V64 sa, V64 sb, V64 sc]) rfl (by kernel_rfl) (by kernel_rfl) (by kernel_rfl) (by kernel_rfl) (by kernel_rfl) (fun _ _ _ h => h) (Or.inl ⟨by rfl, fun W hSw => by have x0 := hSw.1.cell 0; have x1 := hSw.1.cell 1; have x2 := hSw.1.cell 2; simp at x0 x1 x2; go_simp⟩) hS0 ?_
    try simp only [Act.put, List.getElem_toArray, List.getElem_cons_zero, List.getElem_cons_succ, List.setIfInBounds_toArray, List.set_cons_zero, List.set_cons_succ]
    refine wpAnyU_takeP (i := 1) (v := .slice (some ⟨g, off, none⟩) L L) rfl (by kernel_rfl) (by kernel_rfl) (by kernel_rfl) (by decide) (fun _ _ _ h => h) (Or.inl ⟨by rfl, fun W => by go_simp⟩) (fun _ => hS0) ?_
    try simp only [Act.put, List.getElem_toArray, List.getElem_cons_zero, List.getElem_cons_succ, List.setIfInBounds_toArray, List.set_cons_zero, List.set_cons_succ]
    refine wpAnyU_take (i := 7) (v := .agg #[V64 r0, V64 r1]) rfl (by kernel_rfl) (by kernel_rfl) (by kernel_rfl) (by kernel_rfl) (by kernel_rfl) (fun _ _ _ h => h) (Or.inl ⟨by rfl, fun W hSw => by have x0 := hSw.2.cell 0; have x1 := hSw.2.cell 1; simp at x0 x1; go_simp⟩) hS0 ?_
    try simp only [Act.put, List.getElem_toArray, List.getElem_cons_zero, List.getElem_cons_succ, List.setIfInBounds_toArray, List.set_cons_zero, List.set_cons_succ]
    refine wpAnyU_one 2 _ (by kernel_rfl) rfl (fun K hK => ?_)
    go_simp
    refine hpc.mono ?_
    rintro e V1 ⟨rfl, m4⟩
    go_wp2_with fail
    refine hK.out _ _ (fun _ => ⟨hS0.1.mod m4 nob, hS0.2.mod m4 nob⟩) ?_
    clear hK K hpc
    try simp only [Act.put, List.getElem_toArray, List.getElem_cons_zero, List.getElem_cons_succ, List.setIfInBounds_toArray, List.set_cons_zero, List.set_cons_succ]
    have hS1 : CellsAt V1 (S + 2) #[V64 sa, V64 sb, V64 sc] 149 ∧ CellsAt V1 (S + 1) #[V64 r0, V64 r1] 147 := ⟨hS0.1.mod m4 nob, hS0.2.mod m4 nob⟩
    refine wpAnyU_takeP (i := 3) (v := V64 pa) rfl (by kernel_rfl) (by kernel_rfl) (by kernel_rfl) (by decide) (fun _ _ _ h => h) (Or.inl ⟨by rfl, fun W => by go_simp⟩) (fun _ => hS1) ?_
    try simp only [Act.put, List.getElem_toArray, List.getElem_cons_zero, List.getElem_cons_succ, List.setIfInBounds_toArray, List.set_cons_zero, List.set_cons_succ]
    refine wpAnyU_takeP (i := 4) (v := V64 pB) rfl (by kernel_rfl) (by kernel_rfl) (by kernel_rfl) (by decide) (fun _ _ _ h => h) (Or.inl ⟨by rfl, fun W => by go_simp⟩) (fun _ => hS1) ?_
    try simp only [Act.put, List.getElem_toArray, List.getElem_cons_zero, List.getElem_cons_succ, List.setIfInBounds_toArray, List.set_cons_zero, List.set_cons_succ]
    refine wpAnyU_takeP (i := 5) (v := V64 pC) rfl (by kernel_rfl) (by kernel_rfl) (by kernel_rfl) (by decide) (fun _ _ _ h => h) (Or.inl ⟨by rfl, fun W => by go_simp⟩) (fun _ => hS1) ?_
    try simp only [Act.put, List.getElem_toArray, List.getElem_cons_zero, List.getElem_cons_succ, List.setIfInBounds_toArray, List.set_cons_zero, List.set_cons_succ]
    refine wpAnyU_one 6 _ (by kernel_rfl) rfl (fun K hK => ?_)
    go_simp
    refine (hpl V1).mono ?_
    rintro e V2 ⟨rfl, m5⟩
    go_wp2_with fail
    refine hK.out _ _ (fun _ => ⟨hS1.1.mod m5 nob, hS1.2.mod m5 nob⟩) ?_
    clear hK K hpl
    try simp only [Act.put, List.getElem_toArray, List.getElem_cons_zero, List.getElem_cons_succ, List.setIfInBounds_toArray, List.set_cons_zero, List.set_cons_succ]
    refine wpAnyU_one 8 _ (by kernel_rfl) rfl (fun K hK => ?_)
    go_simp
    refine (hti V2).mono ?_
    rintro e V3 ⟨rfl, m6⟩
    go_wp2_with fail
    refine hK.out _ _ (fun _ => ⟨(hS1.1.mod m5 nob).mod m6 nob, (hS1.2.mod m5 nob).mod m6 nob⟩) ?_
    clear hK K hti
    try simp only [Act.put, List.getElem_toArray, List.getElem_cons_zero, List.getElem_cons_succ, List.setIfInBounds_toArray, List.set_cons_zero, List.set_cons_succ]
    have mA := ((mDr.trans m4).trans m5).trans m6
    have hsum := hI.sum.mod mA nob
    clear hS0 hS1 mDr m4 m5 m6
    refine wpAnyU_last (by kernel_rfl) (by simp) ?_
    refine wpAny_tail _ 9 _ _ _ (by kernel_rfl) ?_
    simp only [List.drop_succ_cons, List.drop_zero]
    have mB := (Mod.refl V3 (· = S + 2)).setRow (.inl rfl) n2.cells
    have hsm := hsum.setRow n2.cells
    go_wp2_with (refine wpList_store_arr rfl 149 _ _ rfl (S + 2) 3 n2.cells (N3.mk sa sb sc).cells rfl rfl hsum (by kernel_rfl) rfl rfl (by simp [N3.cells, Value.oneCell']) ?_)
    have hz := mA.size
    have hz0 := hI.size
    have := HH.out
    have hrow := owns_keep (owns_keep hI.row mA nob) mB (by omega)
    refine ⟨(keepsFrom_mod mA (fun k h => h.elim)).trans (keepsFrom_mod mB (fun k (hk : k = S + 2) => by omega)), (KC.of_mod mA (by omega) (fun k h => h.elim)).trans (KC.of_mod mB (by omega) (fun k (hk : k = S + 2) => ⟨by omega, by omega⟩)), ?_⟩
    change PolyAt w H S g M k4 (S + 3) G key m r0 r1 (polyFold m r0 r1 ((pre ++ [x]).map Fin.val)) _
    rw [List.map_append, List.map_cons, List.map_nil, polyFold_snoc, HSS.out, HPB.out, HST.out]
    exact ⟨(hI.key.mod mA nob).mod mB (by omega), (hI.out.mod mA nob).mod mB (by omega), (hI.r.mod mA nob).mod mB (by omega), hsm, hrow, (hI.md.trans mA).drop mB (fun k (hk : k = S + 2) => .inr (by omega)), by have := mB.size; omega⟩
  case done =>
    rintro D ys W hD hys hI hK
    rw [hys] at hI
    obtain ⟨s, hs⟩ : ∃ s, polyFold m r0 r1 (List.range (pieceN M 16)) = s := ⟨_, rfl⟩
    rw [hs] at hI
    have HSS := Box.mk hs
    have hsum := hI.sum
    have hkey := hI.key
    have hout := hI.out
    have hmd := hI.md
    have hz0 := hI.size
    clear hs hys cb1 cb2 cK0 cO0 cR cN hown m0 hI
    go_wp2_with fail
    go_loopw [9, 30] (fun _ i wr => ∃ j : Nat, j ≤ 2 ∧ i = .int .i64 j ∧ CellsAt wr (S + 2) (s.lessN j).cells 149 ∧ CellsAt wr H (arrB key) 22 ∧ CellsAt wr (H + 1) (arrB (List.replicate 16 0)) 107 ∧ Mod w wr Nob ∧ wr.heap[D]? = some (.deferred (some [])) ∧ G + 2 ≤ wr.heap.size) (fun _ i _ => 2 - (intOf i).toNat)
    case atStart => exact ⟨0, Nat.zero_le _, rfl, hsum, hkey, hout, hmd, hK, hz0⟩
    case round =>
      obtain ⟨j, hj2, rfl, hsu, hky, hot, hm, hDw, hzr⟩ := hrel
      clear hsum hkey hout hmd hK hz0
      by_cases hlt : j < 2
      · have hln : Box (s.lessN (j + 1) = (s.lessN j).less) := ⟨rfl⟩
        obtain ⟨t, ht⟩ : ∃ t, s.lessN j = t := ⟨_, rfl⟩
        rw [ht] at hsu hln
        have hp5 := fun W => plus5_any t W
        obtain ⟨n, hn⟩ : ∃ n, t.plus 5 0 0 = n := ⟨_, rfl⟩
        rw [hn] at hp5
        have HN := Box.mk hn
        have htc : t.cells.size = 3 := rfl
        clear ht hn
        obtain ⟨tcs, htcs⟩ : ∃ x, t.cells = x := ⟨_, rfl⟩
        rw [htcs] at hsu hp5 htc
        have HTC := Box.mk htcs
        clear htcs
        go_wp2_with (refine wpList_load_arr rfl 149 _ rfl (S + 2) 3 23 rfl tcs hsu Tryd.underlying149 (by kernel_rfl) htc ?_)
        refine (hp5 wr).mono ?_
        rintro e W1 ⟨rfl, m1⟩
        obtain ⟨na, nb, nc⟩ := n
        have cB := (CellsAt.new W1 #[.int .u64 0, .int .u64 0, .int .u64 0] 149).setRow #[V64 na, V64 nb, V64 nc]
        have k0 := cB.cell 0
        have k1 := cB.cell 1
        have k2 := cB.cell 2
        simp at k0 k1 k2
        have hsu1 := hsu.mod m1 nob
        have mA := ((Mod.refl W1 Nob).alloc (.cells #[.int .u64 0, .int .u64 0, .int .u64 0] 149)).setRow (g := W1.heap.size) (.inr (Nat.le_refl _)) #[V64 na, V64 nb, V64 nc]
        have hsu2 := hsu1.mod mA nob
        have hzz := m1.size
        have hbl : W1.heap.size < ((W1.alloc (.cells #[.int .u64 0, .int .u64 0, .int .u64 0] 149)).setRow W1.heap.size #[V64 na, V64 nb, V64 nc]).heap.size := by simp
        clear cB hsu1 hp5 hsu
        by_cases h4 : (4 : Int) ≤ n64 nc
        · have hw4 := n64_sub4 nc (by unfold n64 at h4; omega)
          go_wp2_with (first
            | (refine wpList_store_arr rfl 149 _ _ rfl W1.heap.size 3 #[V64 na, V64 nb, V64 nc] #[.int .u64 0, .int .u64 0, .int .u64 0] rfl rfl (by exact CellsAt.new W1 #[.int .u64 0, .int .u64 0, .int .u64 0] 149) (by kernel_rfl) rfl rfl (by simp [Value.oneCell']) ?_)
            | (refine wpList_store_arr rfl 149 _ _ rfl (S + 2) 3 #[V64 na, V64 nb, V64 (nc - 4)] tcs rfl rfl (by exact hsu2) (by kernel_rfl) rfl htc (by simp [Value.oneCell']) ?_))
          have hfin : s.lessN (j + 1) = ⟨na, nb, nc - 4⟩ := by
            rw [hln.out]
            unfold N3.less
            rw [HN.out, if_pos (by unfold n64 at h4; show 4 ≤ nc.toNat; omega)]
          have mB := (Mod.refl ((W1.alloc (.cells #[.int .u64 0, .int .u64 0, .int .u64 0] 149)).setRow W1.heap.size #[V64 na, V64 nb, V64 nc]) (· = S + 2)).setRow (.inl rfl) #[V64 na, V64 nb, V64 (nc - 4)]
          refine ⟨⟨j + 1, by omega, by go_num, by rw [hfin]; exact hsu2.setRow _, ((hky.mod m1 nob).mod mA nob).mod mB (by omega), ((hot.mod m1 nob).mod mA nob).mod mB (by omega), ((hm.trans m1).trans mA).drop mB (fun k (hk : k = S + 2) => .inr (by have := HH.out; omega)), mB.keep (mA.keep (m1.keep hDw nob) nob) (by omega), by have := mB.size; have := mA.size; omega⟩, by simp [intOf]; omega⟩
        · go_wp2_with (refine wpList_store_arr rfl 149 _ _ rfl W1.heap.size 3 #[V64 na, V64 nb, V64 nc] #[.int .u64 0, .int .u64 0, .int .u64 0] rfl rfl (by exact CellsAt.new W1 #[.int .u64 0, .int .u64 0, .int .u64 0] 149) (by kernel_rfl) rfl rfl (by simp [Value.oneCell']) ?_)
          have hfin : s.lessN (j + 1) = t := by
            rw [hln.out]
            unfold N3.less
            rw [HN.out, if_neg (by unfold n64 at h4; show ¬ 4 ≤ nc.toNat; omega)]
          refine ⟨⟨j + 1, by omega, by go_num, by rw [hfin, HTC.out]; exact hsu2, (hky.mod m1 nob).mod mA nob, (hot.mod m1 nob).mod mA nob, (hm.trans m1).trans mA, mA.keep (m1.keep hDw nob) nob, by have := mA.size; omega⟩, by simp [intOf]; omega⟩
      · obtain rfl : j = 2 := by omega
        obtain ⟨t, ht⟩ : ∃ t, s.lessN 2 = t := ⟨_, rfl⟩
        rw [ht] at hsu
        have HT := Box.mk ht
        clear ht
        rw [show ((2 : Nat) : Int) = 2 from rfl]
        go_wp2_with fail
        obtain ⟨ta, tb, tc⟩ := t
        have mDr := (Mod.refl wr Nob).drew
        have hb16 : BytesAt wr.drew (.slice (some ⟨H, 16, none⟩) 16 16) (key.drop 16) := bytes_block_from (w := wr.drew) (hky.mod mDr nob) hk (by omega) 16 (by omega)
        have hb24 : BytesAt wr.drew (.slice (some ⟨H, 24, none⟩) 8 8) (key.drop 24) := bytes_block_from (w := wr.drew) (hky.mod mDr nob) hk (by omega) 24 (by omega)
        have l2 := low8_any _ key 16 wr.drew hb16 (by omega)
        have l4 := low8_any _ key 24 wr.drew hb24 (by omega)
        obtain ⟨x0, hx0⟩ : ∃ x, word8 key 16 = x := ⟨_, rfl⟩
        obtain ⟨x1, hx1⟩ : ∃ x, word8 key 24 = x := ⟨_, rfl⟩
        rw [hx0] at l2
        rw [hx1] at l4
        have HX0 := Box.mk hx0
        have HX1 := Box.mk hx1
        obtain ⟨n, hn⟩ : ∃ n, (N3.mk ta tb tc).plus x0 x1 0 = n := ⟨_, rfl⟩
        have hpl : ∀ W, Calls Tryd.prog 84 #[.agg #[V64 ta, V64 tb, V64 tc], V64 x0, V64 x1, .int .u64 0] W fun e w' => e = .returned (.agg n.cells) ∧ Mod W w' Nob := fun W => by rw [← hn]; exact plus_any ⟨ta, tb, tc⟩ x0 x1 0 W
        have HN := Box.mk hn
        clear hx0 hx1 hn hb16 hb24
        have hsu : CellsAt wr (S + 2) #[V64 ta, V64 tb, V64 tc] 149 := hsu
        have hS0 : CellsAt wr.drew (S + 2) #[V64 ta, V64 tb, V64 tc] 149 := hsu.mod mDr nob
        refine wp_no_panic ?_
        refine wp_region_U (S := fun W => CellsAt W (S + 2) #[V64 ta, V64 tb, V64 tc] 149) 6 (by kernel_rfl) ?_
        refine wpAnyU_take (i := 0) (v := .agg #[V64 ta, V64 tb, V64 tc]) rfl (by kernel_rfl) (by kernel_rfl) (by kernel_rfl) (by kernel_rfl) (by kernel_rfl) (fun _ _ _ h => h) (Or.inl ⟨by rfl, fun W hSw => by have x0 := hSw.cell 0; have x1 := hSw.cell 1; have x2 := hSw.cell 2; simp at x0 x1 x2; go_simp⟩) hS0 ?_
        try simp only [Act.put, List.getElem_toArray, List.getElem_cons_zero, List.getElem_cons_succ, List.setIfInBounds_toArray, List.set_cons_zero, List.set_cons_succ]
        refine wpAnyU_takeP (i := 1) (v := .slice (some ⟨H, 16, none⟩) 16 16) rfl (by kernel_rfl) (by kernel_rfl) (by kernel_rfl) (by decide) (fun _ _ _ h => h) (Or.inl ⟨by rfl, fun W => by go_simp⟩) (fun _ => hS0) ?_
        try simp only [Act.put, List.getElem_toArray, List.getElem_cons_zero, List.getElem_cons_succ, List.setIfInBounds_toArray, List.set_cons_zero, List.set_cons_succ]
        refine wpAnyU_takeP (i := 3) (v := .slice (some ⟨H, 24, none⟩) 8 8) rfl (by kernel_rfl) (by kernel_rfl) (by kernel_rfl) (by decide) (fun _ _ _ h => h) (Or.inl ⟨by rfl, fun W => by go_simp⟩) (fun _ => hS0) ?_
        try simp only [Act.put, List.getElem_toArray, List.getElem_cons_zero, List.getElem_cons_succ, List.setIfInBounds_toArray, List.set_cons_zero, List.set_cons_succ]
        refine wpAnyU_one 2 _ (by kernel_rfl) rfl (fun K hK => ?_)
        go_simp
        refine l2.mono ?_
        rintro e V1 ⟨rfl, rfl⟩
        go_wp2_with fail
        refine hK.out _ _ (fun _ => hS0) ?_
        clear hK K l2
        try simp only [Act.put, List.getElem_toArray, List.getElem_cons_zero, List.getElem_cons_succ, List.setIfInBounds_toArray, List.set_cons_zero, List.set_cons_succ]
        refine wpAnyU_one 4 _ (by kernel_rfl) rfl (fun K hK => ?_)
        go_simp
        refine l4.mono ?_
        rintro e V2 ⟨rfl, rfl⟩
        go_wp2_with fail
        refine hK.out _ _ (fun _ => hS0) ?_
        clear hK K l4
        try simp only [Act.put, List.getElem_toArray, List.getElem_cons_zero, List.getElem_cons_succ, List.setIfInBounds_toArray, List.set_cons_zero, List.set_cons_succ]
        refine wpAnyU_one 5 _ (by kernel_rfl) rfl (fun K hK => ?_)
        go_simp
        refine (hpl wr.drew).mono ?_
        rintro e V3 ⟨rfl, m5⟩
        go_wp2_with fail
        refine hK.out _ _ (fun _ => hS0.mod m5 nob) ?_
        clear hK K hpl
        try simp only [Act.put, List.getElem_toArray, List.getElem_cons_zero, List.getElem_cons_succ, List.setIfInBounds_toArray, List.set_cons_zero, List.set_cons_succ]
        have mA := mDr.trans m5
        have hsum := hsu.mod mA nob
        have hou := hot.mod mA nob
        have hm2 := hm.trans mA
        have hD2 := mA.keep hDw nob
        have hz3 := mA.size
        clear hS0 hsu mDr m5 mA
        refine wpAnyU_last (by kernel_rfl) (by simp) ?_
        refine wpAny_tail _ 6 _ _ _ (by kernel_rfl) ?_
        simp only [List.drop_succ_cons, List.drop_zero]
        obtain ⟨na, nb, nc⟩ := n
        have mB := (Mod.refl V3 (· = S + 2)).setRow (.inl rfl) #[V64 na, V64 nb, V64 nc]
        have hsm := hsum.setRow #[V64 na, V64 nb, V64 nc]
        have k0 := hsm.cell 0
        have k1 := hsm.cell 1
        simp at k0 k1
        have hou := hou.mod mB (by omega)
        have hm2 := hm2.drop mB (fun k (hk : k = S + 2) => .inr (by have := HH.out; omega))
        have hD2 := mB.keep hD2 (by omega)
        have hz4 := mB.size
        have HN3 : Box ((N3.mk ta tb tc).plus x0 x1 0 = ⟨na, nb, nc⟩) := HN
        have hbl : S + 2 < (V3.setRow (S + 2) #[V64 na, V64 nb, V64 nc]).heap.size := by omega
        clear hsm
        go_wp2_with (refine wpList_store_arr rfl 149 _ _ rfl (S + 2) 3 #[V64 na, V64 nb, V64 nc] #[V64 ta, V64 tb, V64 tc] rfl rfl hsum (by kernel_rfl) rfl rfl (by simp [Value.oneCell']) ?_)
        have hsz : (V3.setRow (S + 2) #[V64 na, V64 nb, V64 nc]).heap.size = V3.heap.size := by simp
        obtain ⟨V4, hV4⟩ : ∃ V4, V3.setRow (S + 2) #[V64 na, V64 nb, V64 nc] = V4 := ⟨_, rfl⟩
        rw [hV4] at hou hm2 hD2 hsz ⊢
        have cX := new_at (w := V4) (cs := #[V64 na, V64 nb]) (t := 23) (g := V3.heap.size) hsz.symm
        have mX := (Mod.refl V4 Nob).alloc (.cells #[V64 na, V64 nb] 23)
        have hrow : RowIn (V4.alloc (.cells #[V64 na, V64 nb] 23)) (.slice (some ⟨V3.heap.size, 0, none⟩) 2 2) ([na.toNat, nb.toNat].map U64) :=
          .inl (.inr ⟨_, 0, 2, rfl, cX.lt, Nat.le_refl _, by unfold maxLen; omega, fun j u hu => by rw [Nat.zero_add, cX.cell j]; simpa [U64, V64, n64] using hu⟩)
        replace hou := hou.mod mX nob
        replace hm2 := hm2.trans mX
        replace hD2 := mX.keep hD2 nob
        have hzx : (V4.alloc (.cells #[V64 na, V64 nb] 23)).heap.size = V3.heap.size + 1 := by simp [hsz]
        have hei := eights_any _ [na.toNat, nb.toNat] _ hrow (by simp)
        have hout : eightsL [na.toNat, nb.toNat] = polyL key ls.flatten := by
          have e1 : polyEnd key ls.flatten = ⟨na, nb, nc⟩ := by
            unfold polyEnd
            rw [HM.out, hfl, HCL.out, HR0.out, HR1.out, HSS.out, HT.out, HX0.out, HX1.out, HN3.out]
          unfold polyL
          rw [e1]
        have hol := polyL_length key ls.flatten
        rw [← hout] at hol
        have HO := Box.mk hout
        clear hout k0 k1 cX mX hV4 hsum mB hbl hz4 hsz hrow
        refine hei.mono ?_
        rintro e V5 ⟨a5, c5, he, hown5, m6⟩
        obtain rfl : e = .returned (.slice a5 16 c5) := he
        change V5.ownsRow _ 5 1 (.slice a5 16 c5) 16 _ at hown5
        obtain ⟨out, ho⟩ : ∃ out, eightsL [na.toNat, nb.toNat] = out := ⟨_, rfl⟩
        rw [ho] at hown5 hol HO
        obtain ⟨gg, rfl⟩ : ∃ g, a5 = some ⟨g, 0, none⟩ := by
          rcases hown5.2 with ⟨_, h0⟩ | ⟨g, cap', cur, h0, _⟩
          · omega
          · cases h0; exact ⟨g, rfl⟩
        have hcells := own_cell hown5
        have hto := run_toArray (P := Tryd.prog) 107 16 5 (some ⟨gg, 0, none⟩) 16 c5 Tryd.underlying107 (Nat.le_refl _)
        replace hou := hou.mod m6 nob
        replace hm2 := hm2.trans m6
        replace hD2 := m6.keep hD2 nob
        clear hei ho hown5 m6
        go_wp2_with (first
          | (refine wpList_load_cells rfl 107 _ rfl gg 0 16 5 rfl (out.map B) Tryd.underlying107 size_b16 (by rw [List.length_map, hol]) (fun j v hv => by rw [Nat.zero_add]; exact hcells j v hv) ?_)
          | (refine wpList_store_arr rfl 107 _ _ rfl (H + 1) 16 (arrB out) (arrB (List.replicate 16 0)) rfl rfl hou size_b16 (by rw [arrB_size, hol]) (by rw [arrB_size]; rfl) (arrB_one _) ?_))
        have mS := (Mod.refl V5 (· = H + 1)).setRow (.inl rfl) (arrB out)
        have hne : D ≠ H + 1 := fun e => by
          subst e
          rw [hou] at hD2
          cases hD2
        have DS := mS.keep hD2 hne
        have mD : Mod (V5.setRow (H + 1) (arrB out)) ((V5.setRow (H + 1) (arrB out)).putObj D (.deferred none)) (· = D) := (Mod.refl _ (· = D)).putObj (.inl rfl) _
        have hfin := (hou.setRow (arrB out)).mod mD (fun e => hne e.symm)
        refine ⟨by simp, .inl ⟨_, _, rfl, run_takeDeferred DS, ?_⟩⟩
        refine ⟨.agg (arrB out), ret_arr rfl _ _ (H + 1) 16 5 _ rfl hfin Tryd.underlying107 size_b16 (by rw [arrB_size, hol]), by rw [HO.out], (hm2.drop mS (fun k (hk : k = H + 1) => .inr (by have := HH.out; omega))).drop mD (fun k (hk : k = D) => .inr (by have := HH.out; omega))⟩

end Go.Proofs.YtaeociedjdgdfaaDoor
