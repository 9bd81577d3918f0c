/- The tag of what is sealed: aead.tag. The conditions: a key of 32 bytes, a nonce of 12, at most 2^30 bytes each. -/
import Derived.Test.YtaeociedjdgdfaaDoorDj
namespace Go.Proofs.YtaeociedjdgdfaaDoor
open Go.RowKit Go.Shelf
set_option linter.unusedSimpArgs false
attribute [local go_sem] Oper.semAt_some

theorem exec_load_cells {P : Program} {w : World} {o : Oper} {a : Act} (ty : TypeId) (x : Operand) (ho : o.op = .load ty x) (g p n : Nat) (e : TypeId) (hx : a.eval x = .pointer (some ⟨g, p, none⟩)) (xs : List Value)
    (hu : P.underlying ty = some (.array n e)) (hi : (P.info? ty).map (·.size) = some n) (hl : xs.length = n) (hc : ∀ (j : Nat) v, xs[j]? = some v → w.cell? ⟨g, p + j, none⟩ = some v) : (execOp a.eval o).run P w = .ok (.value (.agg xs.toArray)) w := by
  unfold execOp
  simp only [ho, hx, Instr.loadAt, Instr.sureAddr, Sem.run_bind, Sem.run_pure, Result.andThen_ok, run_loadVar_cells ty e n g p xs hu hi hl hc]

/-- The parts of a list, one by one. -/
def partsL (ls : List (List UInt8)) (n : Nat) : List (List UInt8) := (List.range n).map (partL ls)
theorem partsL_at (ls : List (List UInt8)) (n i : Nat) (h : i < n) : (partsL ls n)[i]? = some (partL ls i) := by simp [partsL, List.getElem?_range h]
/-- The tag. -/
def tagL (key nonce aad turned : List UInt8) : List UInt8 := polyL ((blockL key 0 nonce).take 32) (partsL [aad, turned] 5).flatten
theorem tagL_length (key nonce aad turned : List UInt8) : (tagL key nonce aad turned).length = 16 := polyL_length _ _
theorem total_parts (aad turned : List UInt8) : total (partsL [aad, turned] 5) ≤ aad.length + turned.length + 48 ∧ 0 < total (partsL [aad, turned] 5) := by
  have e : partsL [aad, turned] 5 = [aad, zerosL aad, turned, zerosL turned, eightsL [aad.length, turned.length]] := rfl
  rw [e]
  have h1 := zerosL_length aad
  have h2 := zerosL_length turned
  have h3 := eightsL_length [aad.length, turned.length]
  simp only [total, List.map_cons, List.map_nil, List.sum_cons, List.sum_nil, h1, h2, h3, List.length_cons, List.length_nil]
  omega

/-- The result, the block, the rows that were gathered. -/
structure TagAt (w : World) (H S X b : Nat) (once : List UInt8) (ls : List (List UInt8)) (pre : List Sc) (W : World) : Prop where
  out : CellsAt W (H + 2) (arrB (List.replicate 16 0)) 107
  blk : CellsAt W S (arrB once) 125
  row : ∃ a c, CellsAt W X #[.slice a pre.length c] 97 ∧ W.ownsRow b 71 1 (.slice a pre.length c) pre.length (pre.map scv)
  parts : ∀ (i : Nat) (x : Sc), pre[i]? = some x → BytesAt W (scv x) (partL ls i) ∧ Far b X x W
  md : Mod w W Nob
  size : b ≤ W.heap.size

theorem part_mod {lim X : Nat} {x : Sc} {l : List UInt8} {W W' : World} {T : Nat → Prop} (hm : Mod W W' T) (hT : ∀ k, inBlock (scv x) k → ¬ T k) (h : BytesAt W (scv x) l ∧ Far lim X x W) : BytesAt W' (scv x) l ∧ Far lim X x W' :=
  ⟨h.1.mod hm hT, fun k hk => (h.2 k hk).imp (fun ⟨cs, hc⟩ => ⟨cs, hc.mod hm (hT k hk)⟩) id⟩
theorem not_isB {W : World} {k : Nat} {o : Obj} (h : W.heap[k]? = some o) (ho : o.isCells = false) : ¬ IsB W k := fun ⟨cs, hc⟩ => by
  rw [show W.heap[k]? = some (.cells cs 5) from hc] at h
  cases h
  cases ho
theorem own_notB {A : World} {base n : Nat} {v : Value} {xs : List Value} (c : A.ownsRow base 71 1 v n xs) (k : Nat) (hk : inBlock v k) : ¬ IsB A k := by
  rintro ⟨cs, hc⟩
  rcases c with ⟨hl, ⟨rfl, h0⟩ | ⟨g, cap, cur, rfl, hb, hg, rest⟩⟩
  · cases hk
  · cases hk
    have := Option.some.inj (hc.symm.trans hg)
    cases this
theorem far_not {lim X : Nat} {x : Sc} {W : World} {T : Nat → Prop} (h : Far lim X x W) (hT : ∀ k, T k → ¬ IsB W k ∧ (k = X ∨ lim ≤ k)) : ∀ k, inBlock (scv x) k → ¬ T k := fun k hk ht => by
  obtain ⟨y1, y2⟩ := hT k ht
  rcases h k hk with h1 | h1
  · exact y1 h1
  · omega

set_option maxRecDepth 100000 in
set_option maxHeartbeats 4000000 in
theorem tag_any (key nonce aad turned : List UInt8) (sa st : Sc) (w : World) (hk : key.length = 32) (hn : nonce.length = 12) (ha : BytesAt w (scv sa) aad) (ht : BytesAt w (scv st) turned) (hal : aad.length ≤ 1073741824) (htl : turned.length ≤ 1073741824)
    (hfa : ∀ k, inBlock (scv sa) k → k < w.heap.size) (hft : ∀ k, inBlock (scv st) k → k < w.heap.size) :
    Calls Tryd.prog 53 #[.agg (arrB key), .agg (arrB nonce), scv sa, scv st] w fun e w' => e = .returned (.agg (arrB (tagL key nonce aad turned))) ∧ Mod w w' Nob := by
  obtain ⟨aa, an, ac⟩ := sa
  obtain ⟨ta, tn, tc⟩ := st
  dsimp only [scv]
  refine (callsIn_wide (n := 6)).1 ?_
  refine callsIn_of_wp_marks Tryd.func53 rfl trivial ?_ rfl
  simp only [Tryd.ntmps53, List.size_toArray, List.length_cons, List.length_nil, Nat.reduceAdd, Nat.reduceSub, Array.replicate_succ, Array.replicate_zero, List.push_toArray, List.append_toArray, List.nil_append, List.cons_append]
  refine wpIn_wide.2 ?_
  have cK := ((CellsAt.new w (arrB key) 22).alloc (.cells (arrB nonce) 88)).alloc (.cells (arrB (List.replicate 16 0)) 107)
  have cN := (CellsAt.new (w.alloc (.cells (arrB key) 22)) (arrB nonce) 88).alloc (.cells (arrB (List.replicate 16 0)) 107)
  have cO := CellsAt.new ((w.alloc (.cells (arrB key) 22)).alloc (.cells (arrB nonce) 88)) (arrB (List.replicate 16 0)) 107
  have m0 := (((Mod.refl w Nob).alloc (.cells (arrB key) 22)).alloc (.cells (arrB nonce) 88)).alloc (.cells (arrB (List.replicate 16 0)) 107)
  simp only [World.size_alloc] at cN cO
  have hks : (arrB key).size = 32 := by rw [arrB_size, hk]
  have hns : (arrB nonce).size = 12 := by rw [arrB_size, hn]
  go_wp2_with (first
    | (refine wpList_load_arr rfl 22 _ rfl w.heap.size 32 5 rfl (arrB key) (by exact cK) Tryd.underlying22 size_b32 hks ?_)
    | (refine wpList_load_arr rfl 88 _ rfl (w.heap.size + 1) 12 5 rfl (arrB nonce) (by exact cN) Tryd.underlying88 size_b12 hns ?_))
  have hz0 : (((w.alloc (.cells (arrB key) 22)).alloc (.cells (arrB nonce) 88)).alloc (.cells (arrB (List.replicate 16 0)) 107)).heap.size = w.heap.size + 3 := by simp
  change Calls _ _ _ (((w.alloc (.cells (arrB key) 22)).alloc (.cells (arrB nonce) 88)).alloc (.cells (arrB (List.replicate 16 0)) 107)) _
  obtain ⟨W1, hW1⟩ : ∃ W1, (((w.alloc (.cells (arrB key) 22)).alloc (.cells (arrB nonce) 88)).alloc (.cells (arrB (List.replicate 16 0)) 107)) = W1 := ⟨_, rfl⟩
  rw [hW1] at cO m0 hz0 ⊢
  clear cK cN hW1
  refine (block_any key nonce 0 W1 hk hn).mono ?_
  rintro e W2 ⟨rfl, m1⟩
  have hbl := blockL_length key 0 nonce
  obtain ⟨once, ho⟩ : ∃ x, blockL key 0 nonce = x := ⟨_, rfl⟩
  rw [ho] at hbl
  have HO := Box.mk ho
  have hos : (arrB once).size = 64 := by rw [arrB_size, hbl]
  replace cO := cO.mod m1 nob
  replace m0 := m0.trans m1
  have hz2 := m1.size
  rw [ho]
  clear ho m1
  go_wp2_with (first
    | (refine wpList_store_arr rfl 125 _ _ rfl W2.heap.size 64 (arrB once) (arrB (List.replicate 64 0)) rfl rfl (by exact CellsAt.new W2 (arrB (List.replicate 64 0)) 125) size_b64 hos (by rw [arrB_size]; rfl) (arrB_one _) ?_))
  change Calls _ _ _ ((((W2.alloc (.cells (arrB (List.replicate 64 0)) 125)).setRow W2.heap.size (arrB once)).alloc (.cells #[.slice none 0 0] 97)).alloc (.cells #[.slice aa an ac, .slice ta tn tc] 71)) _
  have hA := ((((Mod.refl W2 Nob).alloc (.cells (arrB (List.replicate 64 0)) 125)).setRow (g := W2.heap.size) (.inr (Nat.le_refl _)) (arrB once)).alloc (.cells #[.slice none 0 0] 97)).alloc (.cells #[.slice aa an ac, .slice ta tn tc] 71)
  have cB := (((CellsAt.new W2 (arrB (List.replicate 64 0)) 125).setRow (arrB once)).alloc (.cells #[.slice none 0 0] 97)).alloc (.cells #[.slice aa an ac, .slice ta tn tc] 71)
  have cX := (new_at (w := (W2.alloc (.cells (arrB (List.replicate 64 0)) 125)).setRow W2.heap.size (arrB once)) (cs := #[.slice none 0 0]) (t := 97) (g := W2.heap.size + 1) (by simp)).alloc (.cells #[.slice aa an ac, .slice ta tn tc] 71)
  have cP := new_at (w := ((W2.alloc (.cells (arrB (List.replicate 64 0)) 125)).setRow W2.heap.size (arrB once)).alloc (.cells #[.slice none 0 0] 97)) (cs := #[.slice aa an ac, .slice ta tn tc]) (t := 71) (g := W2.heap.size + 2) (by simp)
  have hz3 : ((((W2.alloc (.cells (arrB (List.replicate 64 0)) 125)).setRow W2.heap.size (arrB once)).alloc (.cells #[.slice none 0 0] 97)).alloc (.cells #[.slice aa an ac, .slice ta tn tc] 71)).heap.size = W2.heap.size + 3 := by simp
  obtain ⟨W3, hW3⟩ : ∃ W3, ((((W2.alloc (.cells (arrB (List.replicate 64 0)) 125)).setRow W2.heap.size (arrB once)).alloc (.cells #[.slice none 0 0] 97)).alloc (.cells #[.slice aa an ac, .slice ta tn tc] 71)) = W3 := ⟨_, rfl⟩
  rw [hW3] at hA cB cX cP hz3 ⊢
  obtain ⟨S, hS⟩ : ∃ S, W2.heap.size = S := ⟨_, rfl⟩
  rw [hS] at cB cX cP hz3 hz2 ⊢
  obtain ⟨H, hH⟩ : ∃ H, w.heap.size = H := ⟨_, rfl⟩
  rw [hH] at cO hz0 hfa hft ⊢
  have HH := Lib.hid hH
  replace cO := cO.mod hA nob
  replace m0 := m0.trans hA
  clear hW3 hA hS hH
  refine (padded_any _ 2 2 W3).mono ?_
  rintro e W4 ⟨rfl, hW4⟩
  have hA := (Mod.refl W3 Nob).alloc (.cells #[.slice (some ⟨S + 1 + 1, 0, none⟩) 2 2] 97)
  have cQ := CellsAt.new W3 #[.slice (some ⟨S + 1 + 1, 0, none⟩) 2 2] 97
  have hz4 : W4.heap.size = S + 4 := by rw [hW4]; simp [hz3]
  rw [← hW4] at hA cQ
  rw [hz3] at cQ ⊢
  replace cO := cO.mod hA nob
  replace m0 := m0.trans hA
  replace cB := cB.mod hA nob
  replace cX := cX.mod hA nob
  replace cP := cP.mod hA nob
  clear hA hW4 hz3
  have ha4 := ha.mod m0 (fun _ _ => nob)
  have ht4 := ht.mod m0 (fun _ _ => nob)
  have hseq := padded_full 5 (by omega) (S + 3) (S + 1 + 1) 2 (S + 1) [(aa, an, ac), (ta, tn, tc)] [aad, turned] W4 (by omega) rfl rfl cQ cP (by omega) (fun j s l hs hl => by
    match j, hs, hl with
    | 0, hs, hl => cases hs; cases hl; exact ⟨ha4, by omega, fun k hk => by have := hfa k hk; omega⟩
    | 1, hs, hl => cases hs; cases hl; exact ⟨ht4, by omega, fun k hk => by have := hft k hk; omega⟩
    | (j + 2), hs, hl => cases hs)
  rw [hz4] at hseq
  go_wp2_with fail
  refine (wpIn_wide (n := 6)).1 ?_
  refine wpIn_rangeFunc_full (n := 6) (by omega) (gf := 81) (lb := #[.pointer (some ⟨S + 3, 0, none⟩)]) rfl (enters_of Tryd.func81 (by kernel_rfl) rfl)
    hseq ?ow (fun h k => h.trans k) (fun W l o o' _ h1 h2 _ => KB.put W l o o' h1 h2) (fun _ => rfl)
    (fun pre W => TagAt w H S (S + 1) (S + 4) once [aad, turned] pre W) ?own ?owni ⟨cO, cB, ⟨none, 0, cX, World.ownsRow_nil _ _ _ _⟩, (fun i x hx => by cases hx), m0, by omega⟩
    (fun pre x a' W => a' = { tmps := #[.agg (arrB key), .agg (arrB nonce), .slice aa an ac, .slice ta tn tc, .pointer (some ⟨H, 0, none⟩), .pointer (some ⟨H + 1, 0, none⟩), undef, undef, .pointer (some ⟨H + 1 + 1, 0, none⟩), .pointer (some ⟨S, 0, none⟩), .pointer (some ⟨S + 1, 0, none⟩), scv x, .agg (arrB key), .agg (arrB nonce), .agg (arrB once), .slice aa an ac, .slice ta tn tc, .slice (some ⟨S + 1 + 1, 0, none⟩) 2 2, .func (.func 81) #[] #[.pointer (some ⟨S + 3, 0, none⟩)], scv x, undef, undef, undef, undef, undef, undef, undef, undef, undef], defers := [] } ∧ PartIs (S + 4) (S + 1) [aad, turned] pre x W) ?ownax
    ?assign ?body ?done
  case ow =>
    rintro pre A B ⟨T, hm, hT⟩ k o h1 h2
    exact hm.keep h1 (fun ht => not_isB h1 h2 (hT k ht).2.1)
  case own =>
    rintro pre W W' row ⟨o1, o2, ⟨ra, rc, o3, o4⟩, o5, o6, o7⟩ hg hr
    have hc := fun r e => (hr r e).2
    have hm : Mod W W' (fun k => row = some k) := (Mod.refl W _).grown hg (fun k e => .inl e)
    have hT : ∀ k, row = some k → ¬ IsB W k ∧ (k = S + 1 ∨ S + 4 ≤ k) := fun k e => by
      obtain ⟨h1, o, h2, h3⟩ := hr k e
      exact ⟨not_isB h2 h3, .inr (by omega)⟩
    refine ⟨(grownBy_keeps_cells hg hc o1 rfl).trans o1, (grownBy_keeps_cells hg hc o2 rfl).trans o2, ⟨ra, rc, (grownBy_keeps_cells hg hc o3 rfl).trans o3, owns_mod o4 hm (fun k hk e => ?_)⟩, fun i x hx => part_mod hm (far_not (o5 i x hx).2 hT) (o5 i x hx), o6.grown hg (fun k e => .inr (by have := (hr k e).1; have := HH.out; omega)), by have := hm.size; omega⟩
    obtain ⟨ob, h5, h6⟩ := owns_cells o4 k hk
    obtain ⟨_, ob2, h7, h8⟩ := hr k e
    rw [h5] at h7; cases h7; rw [h6] at h8; cases h8
  case owni =>
    rintro pre A B ⟨T, hm, hT⟩ ⟨o1, o2, ⟨ra, rc, o3, o4⟩, o5, o6, o7⟩
    have hlo : ∀ k, k < S + 4 → ¬ T k := fun k hk ht => by have := (hT k ht).1; omega
    exact ⟨o1.mod hm (hlo _ (by omega)), o2.mod hm (hlo _ (by omega)), ⟨ra, rc, o3.mod hm (hlo _ (by omega)), owns_mod o4 hm (fun k hk ht => own_notB o4 k hk (hT k ht).2.1)⟩, fun i x hx => part_mod hm (fun k hk ht => (hT k ht).2.2 x (List.mem_of_getElem? hx) hk) (o5 i x hx),
      o6.drop hm (fun k ht => .inr (by have := (hT k ht).1; have := HH.out; omega)), by have := hm.size; omega⟩
  case ownax =>
    rintro pre x a' _ W W' row ⟨h0, h1⟩ hg hr
    have hm : Mod W W' (fun k => row = some k) := (Mod.refl W _).grown hg (fun k e => .inl e)
    exact ⟨h0, part_mod hm (far_not h1.2 (fun k e => by
      obtain ⟨h1, o, h2, h3⟩ := hr k e
      exact ⟨not_isB h2 h3, .inr (by omega)⟩)) h1⟩
  case assign =>
    intro l pre x W K hI hR hK
    gi_wp2
    exact hK _ _ (KeepsFrom.refl _ _) (KB.of_mod (Mod.refl W Nob) (fun k h => h.elim)) hI ⟨rfl, hR⟩
  case body =>
    rintro l pre ⟨xa, xl, xc⟩ a' W hl _ ⟨o1, o2, ⟨ra, rc, o3, o4⟩, o5, o6, o7⟩ ⟨rfl, hR⟩ hlt
    obtain ⟨PL, hPL⟩ : ∃ n, pre.length = n := ⟨_, rfl⟩
    unfold PartIs at hR
    rw [hPL] at o3 o4 hR hlt
    have HPL := Lib.hid hPL
    obtain ⟨j0, hj, hz0, hz1, hz2⟩ := info_parts info_bytes
    have hm1 := (Mod.refl W Nob).alloc (.cells #[.slice xa xl xc] 71)
    have hown1 := owns_mod o4 hm1 (fun _ _ => nob)
    have hnb := CellsAt.new W #[.slice xa xl xc] 71
    have q3 := o3.cell 0
    simp at q3
    have hcl := o3.lt
    dsimp only [scv]
    clear hPL hseq cO cB cX cP cQ m0 ha4 ht4 ha ht
    gi_wp2_with (gi_at_builtin; refine wpListIn_append_lies rfl (.tmp 20) (.tmp 22) 97 rfl (S + 4) 71 j0 _ 1 24 Tryd.underlying97 hj hz0 hz1 hz2 rfl (by omega) (.slice ra PL rc) PL _ rfl hown1 ⟨W.heap.size, 0, none⟩ 1 1 [.slice xa xl xc] rfl rfl (World.news_of_block (cs := #[.slice xa xl xc]) (t := 71) (fr := (0, 0)) hnb) (by simp [Value.oneCell']) (by omega) (by unfold maxLen; omega) (by omega) (by simp; omega) (W.heap.size + 1) (by simp) ?_)
    intro gg cap w3 hown3 hgr hat hlt3
    have hm3 := ((Mod.refl W (inBlock (.slice ra PL rc))).alloc (.cells #[.slice xa xl xc] 71)).grown hgr (fun k hk => .inl hk)
    have hgn : ∀ k, k < S + 4 → ¬ inBlock (.slice ra PL rc) k := fun k hk h => by have := (o4.lt k h).1; omega
    have c3 := o3.mod hm3 (hgn _ (by omega))
    have d3 := c3.cell 0
    have e3 := c3.free 0
    simp at d3
    have hS := (Mod.refl w3 (· = S + 1)).setCell (p := ⟨S + 1, 0, none⟩) (.inl rfl) (.slice (some ⟨gg, 0, none⟩) (PL + 1) cap)
    have c4 := c3.set 0 (.slice (some ⟨gg, 0, none⟩) (PL + 1) cap)
    have hgS : S + 4 ≤ gg := (hown3.lt gg rfl).1
    have hown4 := owns_keep hown3 hS (by omega)
    have hz3 := hm3.size
    have hz5 := hS.size
    have kf : KeepsFrom W4.heap.size W (w3.setCell ⟨S + 1, 0, none⟩ (.slice (some ⟨gg, 0, none⟩) (PL + 1) cap)) :=
      ((KeepsOthers.alloc W (.cells #[.slice xa xl xc] 71)).from _).trans ((keepsFrom_grown (B := W4.heap.size) hgr (fun j hj => .inr (by
        obtain ⟨o, h1, h2⟩ := owns_cells o4 j hj
        exact ⟨o, hm1.keep h1 nob, h2⟩))).trans (keepsFrom_mod hS (fun k (hk : k = S + 1) => by omega)))
    have hT3 : ∀ k, inBlock (.slice ra PL rc) k → ¬ IsB W k ∧ (k = S + 1 ∨ S + 4 ≤ k) := fun k hk => ⟨own_notB o4 k hk, .inr (o4.lt k hk).1⟩
    have hTS : ∀ k, k = S + 1 → ¬ IsB w3 k ∧ (k = S + 1 ∨ S + 4 ≤ k) := fun k hk => by
      subst hk
      exact ⟨fun ⟨cs, hc⟩ => (by cases Option.some.inj (hc.symm.trans c3)), .inl rfl⟩
    have kb : KB (S + 4) (S + 1) W (w3.setCell ⟨S + 1, 0, none⟩ (.slice (some ⟨gg, 0, none⟩) (PL + 1) cap)) :=
      (KB.of_mod hm3 (fun k hk => ⟨(hT3 k hk).2, (hT3 k hk).1⟩)).trans (KB.of_mod hS (fun k hk => ⟨(hTS k hk).2, (hTS k hk).1⟩))
    have hpm : ∀ (x : Sc) (l : List UInt8), BytesAt W (scv x) l ∧ Far (S + 4) (S + 1) x W → BytesAt (w3.setCell ⟨S + 1, 0, none⟩ (.slice (some ⟨gg, 0, none⟩) (PL + 1) cap)) (scv x) l ∧ Far (S + 4) (S + 1) x (w3.setCell ⟨S + 1, 0, none⟩ (.slice (some ⟨gg, 0, none⟩) (PL + 1) cap)) := fun x l h => by
      have h1 := part_mod hm3 (far_not h.2 hT3) h
      exact part_mod hS (far_not h1.2 hTS) h1
    have o1' := (o1.mod hm3 (hgn _ (by omega))).mod hS (by omega)
    have o2' := (o2.mod hm3 (hgn _ (by omega))).mod hS (by omega)
    have o6' := (o6.drop hm3 (fun k hk => .inr (by have := (hT3 k hk).2; have := (o4.lt k hk).1; have := HH.out; omega))).drop hS (fun k (hk : k = S + 1) => .inr (by have := HH.out; omega))
    clear hj hz0 hz1 hz2 hT3 hTS hgn hnb hown1 hm1 hm3 hgr hown3 hS o1 o2 o3 o4 o6 c3
    gi_wp2
    refine ⟨kf, kb, o1', o2', ⟨some ⟨gg, 0, none⟩, cap, ?_, ?_⟩, fun i x hx => ?_, o6', by omega⟩
    · rw [List.length_append, HPL.out]; exact c4
    · rw [List.length_append, HPL.out, List.map_append]; exact hown4
    · rw [List.getElem?_append] at hx
      split at hx
      · exact hpm x _ (o5 i x hx)
      · rename_i hi
        have h0 : i = PL := by
          have h1 := (List.getElem?_eq_some_iff.1 hx).1
          have h2 := HPL.out
          simp at h1
          omega
        subst h0
        rw [HPL.out, Nat.sub_self] at hx
        cases hx
        exact hpm _ _ hR
  case done =>
    rintro D xs W hD hx ⟨o1, o2, ⟨ra, rc, o3, o4⟩, o5, o6, o7⟩ hK
    have hx5 : xs.length = 5 := hx
    rw [hx5] at o3 o4
    obtain ⟨g, rfl⟩ : ∃ g, ra = some ⟨g, 0, none⟩ := by
      rcases o4.2 with ⟨_, h0⟩ | ⟨g, cap', cur, h0, _⟩
      · omega
      · cases h0; exact ⟨g, rfl⟩
    obtain ⟨_, _, hfm, hrc, hrm⟩ := owns_form o4
    cases hfm
    have hrows : RowsAt W (.slice (some ⟨g, 0, none⟩) 5 rc) (partsL [aad, turned] 5) := by
      refine ⟨xs.map scv, .inr ⟨g, 0, rc, by rw [List.length_map, hx5], (o4.lt g rfl).2, by rw [List.length_map, hx5]; exact hrc, hrm, fun i u hi => ?_⟩, by simp [partsL, hx5], fun i u l hu hl => ?_⟩
      · rw [Nat.zero_add]
        exact own_cell o4 i u hi
      · have hi : i < 5 := by
          have := (List.getElem?_eq_some_iff.1 hu).1
          rw [List.length_map, hx5] at this
          exact this
        rw [partsL_at _ _ _ hi] at hl
        cases hl
        rw [List.getElem?_map, Option.map_eq_some_iff] at hu
        obtain ⟨x, hx, rfl⟩ := hu
        exact (o5 i x hx).1
    obtain ⟨ht1, ht2⟩ := total_parts aad turned
    have q3 := o3.cell 0
    simp at q3
    have mDr := (Mod.refl W Nob).drew
    have hok : (once.take 32).length = 32 := by rw [List.length_take, hbl]; rfl
    have hcells : ∀ V : World, CellsAt V S (arrB once) 125 → ∀ (j : Nat) v, ((once.take 32).map B)[j]? = some v → V.cell? ⟨S, 0 + j, none⟩ = some v := fun V hV j v hv => by
      rw [Nat.zero_add, hV.cell j]
      have hj : j < 32 := by have := (List.getElem?_eq_some_iff.1 hv).1; rw [List.length_map, hok] at this; exact this
      rw [List.getElem?_map, List.getElem?_take_of_lt hj] at hv
      simpa [arrB] using hv
    have hpo := poly_any (once.take 32) _ _ W.drew hok (hrows.mod mDr (fun _ => nob)) (by omega) ht2
    have hres : polyL (once.take 32) (partsL [aad, turned] 5).flatten = tagL key nonce aad turned := by unfold tagL; rw [HO.out]
    rw [hres] at hpo
    have htl := tagL_length key nonce aad turned
    obtain ⟨out, hout⟩ : ∃ x, tagL key nonce aad turned = x := ⟨_, rfl⟩
    rw [hout] at hpo htl
    have HOUT := Box.mk hout
    obtain ⟨kk, hkk⟩ : ∃ x, once.take 32 = x := ⟨_, rfl⟩
    rw [hkk] at hok hcells hpo
    have hto := run_toArray (P := Tryd.prog) 22 32 5 (some ⟨S, 0, none⟩) 32 64 Tryd.underlying22 (Nat.le_refl _)
    have hS0 : CellsAt W.drew S (arrB once) 125 ∧ W.drew.cell? ⟨S + 1, 0, none⟩ = some (.slice (some ⟨g, 0, none⟩) 5 rc) := ⟨o2.mod mDr nob, q3⟩
    clear hseq cO cB cX cP cQ m0 ha4 ht4 ha ht o4 o5 hrows hres hout hkk hx hx5 ht1 ht2
    go_wp2_with fail
    refine wp_no_panic ?_
    refine wp_region_U (S := fun W => CellsAt W S (arrB once) 125 ∧ W.cell? ⟨S + 1, 0, none⟩ = some (.slice (some ⟨g, 0, none⟩) 5 rc)) 5 (by kernel_rfl) ?_
    refine wpAnyU_takeP (i := 0) (v := .slice (some ⟨S, 0, none⟩) 32 64) rfl (by kernel_rfl) (by kernel_rfl) (by kernel_rfl) (by decide) (fun _ _ _ h => h) (Or.inl ⟨by rfl, fun W => by go_simp⟩) (fun _ => hS0) ?_
    try simp only [Act.put, List.getElem_toArray, List.getElem_cons_zero, List.getElem_cons_succ, List.setIfInBounds_toArray, List.set_cons_zero, List.set_cons_succ]
    refine wpAnyU_takeP (i := 1) (v := .pointer (some ⟨S, 0, none⟩)) rfl (by kernel_rfl) (by kernel_rfl) (by kernel_rfl) (by decide) (fun _ _ _ h => h) (Or.inl ⟨by rfl, fun W => by go_simp⟩) (fun _ => hS0) ?_
    try simp only [Act.put, List.getElem_toArray, List.getElem_cons_zero, List.getElem_cons_succ, List.setIfInBounds_toArray, List.set_cons_zero, List.set_cons_succ]
    refine wpAnyU_take (i := 2) (v := .agg (arrB kk)) rfl (by kernel_rfl) (by kernel_rfl) (by kernel_rfl) (by kernel_rfl) (by kernel_rfl) (fun _ _ _ h => h) (Or.inl ⟨by rfl, fun W hSw => exec_load_cells 22 _ rfl S 0 32 5 rfl (kk.map B) Tryd.underlying22 size_b32 (by rw [List.length_map, hok]) (hcells W hSw.1)⟩) hS0 ?_
    try simp only [Act.put, List.getElem_toArray, List.getElem_cons_zero, List.getElem_cons_succ, List.setIfInBounds_toArray, List.set_cons_zero, List.set_cons_succ]
    refine wpAnyU_take (i := 3) (v := .slice (some ⟨g, 0, none⟩) 5 rc) rfl (by kernel_rfl) (by kernel_rfl) (by kernel_rfl) (by kernel_rfl) (by kernel_rfl) (fun _ _ _ h => h) (Or.inl ⟨by rfl, fun W hSw => by obtain ⟨_, s2⟩ := hSw; go_simp⟩) hS0 ?_
    try simp only [Act.put, List.getElem_toArray, List.getElem_cons_zero, List.getElem_cons_succ, List.setIfInBounds_toArray, List.set_cons_zero, List.set_cons_succ]
    refine wpAnyU_one 4 _ (by kernel_rfl) rfl (fun K hK => ?_)
    go_simp
    refine hpo.mono ?_
    rintro e V1 ⟨rfl, m4⟩
    go_wp2_with fail
    refine hK.out _ _ (fun _ => ⟨hS0.1.mod m4 nob, by have := (o3.mod mDr nob).mod m4 nob; have := this.cell 0; simpa using this⟩) ?_
    clear hK K hpo
    try simp only [Act.put, List.getElem_toArray, List.getElem_cons_zero, List.getElem_cons_succ, List.setIfInBounds_toArray, List.set_cons_zero, List.set_cons_succ]
    have mA := mDr.trans m4
    replace o1 := o1.mod mA nob
    replace o6 := o6.trans mA
    have hD2 := mA.keep hK nob
    clear hS0 mDr m4 mA
    refine wpAnyU_last (by kernel_rfl) (by simp) ?_
    refine wpAny_tail _ 5 _ _ _ (by kernel_rfl) ?_
    simp only [List.drop_succ_cons, List.drop_zero]
    go_wp2_with (refine wpList_store_arr rfl 107 _ _ rfl (H + 1 + 1) 16 (arrB out) (arrB (List.replicate 16 0)) rfl rfl o1 size_b16 (by rw [arrB_size, htl]) (by rw [arrB_size]; rfl) (arrB_one _) ?_)
    have mS := (Mod.refl V1 (· = H + 1 + 1)).setRow (.inl rfl) (arrB out)
    have hne : D ≠ H + 1 + 1 := by omega
    have DS := mS.keep hD2 hne
    have mD : Mod (V1.setRow (H + 1 + 1) (arrB out)) ((V1.setRow (H + 1 + 1) (arrB out)).putObj D (.deferred none)) (· = D) := (Mod.refl _ (· = D)).putObj (.inl rfl) _
    have hfin := (o1.setRow (arrB out)).mod mD (fun e => hne e.symm)
    refine ⟨by simp, .inl ⟨_, _, rfl, run_takeDeferred DS, ?_⟩⟩
    refine ⟨.agg (arrB out), ret_arr rfl _ _ (H + 1 + 1) 16 5 _ rfl hfin Tryd.underlying107 size_b16 (by rw [arrB_size, htl]), by rw [HOUT.out], (o6.drop mS (fun k (hk : k = H + 1 + 1) => .inr (by have := HH.out; omega))).drop mD (fun k (hk : k = D) => .inr (by have := HH.out; omega))⟩

end Go.Proofs.YtaeociedjdgdfaaDoor
