/- A tag of a key: mac.Tag. The condition: the key has at most 64 bytes; at most a thousand parts, of fewer than 2^37 bytes together. -/
import Derived.Test.YtakgnkjopbflbaaGreatDoorCn
import Derived.Test.YtakgnkjopbflbaaGreatDoorBf
namespace Go.Proofs.YtakgnkjopbflbaaGreatDoor
open Go.RowKit Go.Shelf
attribute [local go_sem] Oper.semAt_some

/-- A key turned. -/
def turnL (key : List UInt8) (x : UInt8) : List UInt8 := (key ++ List.replicate (64 - key.length) 0).map (· ^^^ x)
theorem turnL_length (key : List UInt8) (x : UInt8) (h : key.length ≤ 64) : (turnL key x).length = 64 := by simp [turnL]; omega
/-- The tag of some bytes. -/
def macL (key msg : List UInt8) : List UInt8 := shaL (turnL key 92 ++ shaL (turnL key 54 ++ msg))
theorem macL_length (key msg : List UInt8) : (macL key msg).length = 32 := shaL_length _
theorem info_bytes : (Tryz.prog.info? 43).map (fun i => (i.zero, i.size, i.bytes)) = some (some (.slice none 0 0), 1, 24) := by kernel_rfl

/-- Where the parts stand that were gathered. -/
structure MacAt (W0 : World) (G : Nat) (tv : Value) (pre : List Sc) (W : World) : Prop where
  row : ∃ a c, CellsAt W (G + 1) #[.slice a (1 + pre.length) c] 183 ∧ W.ownsRow G 43 1 (.slice a (1 + pre.length) c) (1 + pre.length) (tv :: pre.map scv) ∧ ∀ k, inBlock (.slice a (1 + pre.length) c) k → k = G ∨ G + 3 ≤ k
  md : Mod W0 W (fun k => k = G ∨ k = G + 1)

set_option maxRecDepth 100000 in
set_option maxHeartbeats 4000000 in
theorem mac_any (kv pv : Value) (key : List UInt8) (ls : List (List UInt8)) (w : World) (hk : BytesAt w kv key) (hkl : key.length ≤ 64) (hp : RowsAt w pv ls) (hl : total ls ≤ 137438953472) (h1 : 1 ≤ ls.length) (h2 : ls.length ≤ 1000) :
    Calls Tryz.prog 131 #[kv, pv] w fun e w' => e = .returned (.agg ((macL key ls.flatten).map B).toArray) ∧ Mod w w' Nob := by
  obtain ⟨ka, kc, rfl, hkc, hkm⟩ := hk.form
  rw [List.length_map] at hkc hk ⊢
  unfold maxLen at hkm
  obtain ⟨us0, hus, hul, hub⟩ := hp
  obtain ⟨us, rfl⟩ : ∃ us : List Sc, us0 = us.map scv := by
    have hform : ∀ u ∈ us0, ∃ s : Sc, u = scv s := fun u hu => by
      obtain ⟨i, hi, rfl⟩ := List.mem_iff_getElem.1 hu
      obtain ⟨a, c, h, _⟩ := (hub i _ (ls[i]'(by omega)) (List.getElem?_eq_getElem hi) (List.getElem?_eq_getElem (by omega))).form
      exact ⟨(a, _, c), h⟩
    clear hub hul hus
    induction us0 with
    | nil => exact ⟨[], rfl⟩
    | cons u us0 ih =>
      obtain ⟨s, rfl⟩ := hform u (by simp)
      obtain ⟨us, rfl⟩ := ih (fun v hv => hform v (by simp [hv]))
      exact ⟨s :: us, rfl⟩
  rw [List.length_map] at hul
  obtain ⟨b, o, pc, rfl, hb, hpc, hpm, hcells⟩ : ∃ b o pc, pv = .slice (some ⟨b, o, none⟩) us.length pc ∧ b < w.heap.size ∧ us.length ≤ pc ∧ pc ≤ maxLen ∧ ∀ (j : Nat) (s : Sc), us[j]? = some s → w.cell? ⟨b, o + j, none⟩ = some (scv s) := by
    rcases hus with ⟨_, h0⟩ | ⟨b, o, cap, h0, h3, h4, h5, h6⟩
    · have := congrArg List.length h0
      rw [List.length_map, List.length_nil] at this
      omega
    · rw [List.length_map] at h0 h4
      exact ⟨b, o, cap, h0, h3, h4, h5, fun j s hj => h6 j _ (by rw [List.getElem?_map, hj]; rfl)⟩
  unfold maxLen at hpm
  obtain ⟨kn, hkn⟩ : ∃ kn, key.length = kn := ⟨_, rfl⟩
  obtain ⟨N, hN⟩ : ∃ N, us.length = N := ⟨_, rfl⟩
  rw [hkn] at hkl hkc hk ⊢
  rw [hN] at hul hpc ⊢
  have HKN := Lib.hid hkn
  have HN := Lib.hid hN
  have HUL := Lib.hid hul
  have hN2 : N ≤ 1000 := by omega
  clear hkn hN hus
  clear hul
  refine (callsIn_wide (n := 6)).1 ?_
  refine callsIn_of_wp_marks Tryz.func131 rfl trivial ?_ rfl
  simp only [Tryz.ntmps131, List.size_toArray, List.length_cons, List.length_nil, Nat.reduceAdd, Nat.reduceSub, Array.replicate_succ, Array.replicate_zero, List.push_toArray, List.append_toArray, List.nil_append, List.cons_append]
  refine wpIn_wide.2 ?_
  go_wp2_with fail
  have c4 := CellsAt.new w ((List.replicate 32 (0 : UInt8)).map B).toArray 22
  have m0 := (Mod.refl w Nob).alloc (.cells ((List.replicate 32 (0 : UInt8)).map B).toArray 22)
  change Calls _ _ _ (w.alloc (.cells ((List.replicate 32 (0 : UInt8)).map B).toArray 22)) _
  have hz0 : (w.alloc (.cells ((List.replicate 32 (0 : UInt8)).map B).toArray 22)).heap.size = w.heap.size + 1 := by simp
  obtain ⟨W1, hW1⟩ : ∃ W1, w.alloc (.cells ((List.replicate 32 (0 : UInt8)).map B).toArray 22) = W1 := ⟨_, rfl⟩
  rw [hW1] at c4 m0 hz0 ⊢
  obtain ⟨H, hH⟩ : ∃ H, w.heap.size = H := ⟨_, rfl⟩
  rw [hH] at c4 hz0 hb ⊢
  have HH := Lib.hid hH
  clear hW1 hH
  have hkl' : key.length ≤ 64 := by rw [HKN.out]; exact hkl
  have hkW : BytesAt W1 (.slice ka kn kc) key := hk.mod m0 (fun _ _ => nob)
  refine (turned_any (.slice ka kn kc) key 54 W1 hkW hkl').mono ?_
  rintro e W2 ⟨tv, rfl, hown, m1⟩
  have htl : (turnL key 54).length = 64 := turnL_length key 54 hkl'
  change W2.ownsRow W1.heap.size 5 1 tv (turnL key 54).length ((turnL key 54).map B) at hown
  rw [htl] at hown
  obtain ⟨ta, tc, rfl, htc, htm⟩ := owns_form hown
  have hbt := BytesAt.of_owns hown
  replace m0 := m0.trans m1
  replace c4 := c4.mod m1 nob
  have q1 := m1.size
  have hkW2 := hkW.mod m1 (fun _ _ => nob)
  have HK := Lib.hid hk
  have HBT := Lib.hid hbt
  clear m1 hown hkW hk
  go_wp2_with fail
  have hA := (((Mod.refl W2 Nob).alloc (.cells #[.slice ta 64 tc] 43)).alloc (.cells #[.slice (some ⟨W2.heap.size, 0, none⟩) 1 1] 183)).alloc (.cells #[.slice (some ⟨b, o, none⟩) N pc] 183)
  have cG := ((CellsAt.new W2 #[.slice ta 64 tc] 43).alloc (.cells #[.slice (some ⟨W2.heap.size, 0, none⟩) 1 1] 183)).alloc (.cells #[.slice (some ⟨b, o, none⟩) N pc] 183)
  have cT := (CellsAt.new (W2.alloc (.cells #[.slice ta 64 tc] 43)) #[.slice (some ⟨W2.heap.size, 0, none⟩) 1 1] 183).alloc (.cells #[.slice (some ⟨b, o, none⟩) N pc] 183)
  have cV := CellsAt.new ((W2.alloc (.cells #[.slice ta 64 tc] 43)).alloc (.cells #[.slice (some ⟨W2.heap.size, 0, none⟩) 1 1] 183)) #[.slice (some ⟨b, o, none⟩) N pc] 183
  have hsz3 : (((W2.alloc (.cells #[.slice ta 64 tc] 43)).alloc (.cells #[.slice (some ⟨W2.heap.size, 0, none⟩) 1 1] 183)).alloc (.cells #[.slice (some ⟨b, o, none⟩) N pc] 183)).heap.size = W2.heap.size + 3 := by simp
  simp only [World.size_alloc] at cT cV
  refine (values_any (some ⟨b, o, none⟩) N pc _).mono ?_
  rintro e W3 ⟨rfl, hW3⟩
  rw [← hW3] at hA cG cT cV hsz3
  simp only [World.size_alloc]
  obtain ⟨G, hG⟩ : ∃ G, W2.heap.size = G := ⟨_, rfl⟩
  rw [hG] at cG cT cV hsz3 q1 ⊢
  replace m0 := m0.trans hA
  replace c4 := c4.mod hA nob
  have HA := Lib.hid hA
  have HG := Lib.hid hG
  clear hW3 hA hG hkW2 hbt
  have hvals : ∀ (j : Nat) (s : Sc), us[j]? = some s → W3.cell? ⟨b, o + j, none⟩ = some (scv s) := fun j s hj => (m0.cell (by have := HH.out; omega) nob).trans (hcells j s hj)
  have hst := values_stops 5 (by omega) (G + 1 + 1) b o pc us (by rw [HN.out]; exact hN2) W3 (by rw [HN.out]; exact cV) (by omega) hvals
  have hrow0 : W3.ownsRow G 43 1 (.slice (some ⟨G, 0, none⟩) 1 1) 1 [.slice ta 64 tc] := own_of_cells cG rfl (Nat.le_refl _) (by unfold maxLen; omega)
  have hin0 : ∀ k, inBlock (.slice (some ⟨G, 0, none⟩) 1 1) k → k = G ∨ G + 3 ≤ k := fun k hk => .inl (by simpa [inBlock, Value.ownBlock] using hk.symm)
  go_wp2_with fail
  refine (wpIn_wide (n := 6)).1 ?_
  refine wpIn_rangeFunc_ownG (F := Fence.wide) (n := 6) rfl (by omega) (gf := 167) (lb := #[.pointer (some ⟨G + 1 + 1, 0, none⟩)]) rfl trivial (enters_of Tryz.func167 (by kernel_rfl) rfl)
    hst (fun h k => h.trans k) (KK.put (fun k hk => by rcases hk with rfl | rfl <;> omega)) (Below.refl _ _) (fun _ => rfl)
    (fun pre W => MacAt W3 G (.slice ta 64 tc) pre W) (fun _ _ _ => False) ?own (fun _ _ _ _ _ hs _ _ => hs)
    ⟨⟨_, _, cT, hrow0, hin0⟩, Mod.refl _ _⟩
    (fun x => { tmps := #[.slice ka kn kc, .slice (some ⟨b, o, none⟩) N pc, undef, undef, .pointer (some ⟨H, 0, none⟩), undef, .pointer (some ⟨G + 1, 0, none⟩), scv x, undef, .slice ka kn kc, .int .i64 kn, .bool (decide (64 < (kn : Int))), undef, undef, undef, undef, .slice ka kn kc, .slice ta 64 tc, .slice (some ⟨G, 0, none⟩) 1 1, .slice (some ⟨b, o, none⟩) N pc, .func (.func 167) #[] #[.pointer (some ⟨G + 1 + 1, 0, none⟩)], scv x, undef, undef, undef, undef, undef, undef, undef, undef, undef, undef, undef], defers := [] })
    ?assign ?body ?done ?stop
  case own =>
    intro pre W W' row hs hg hr
    obtain ⟨⟨ia, ic, cI, hown, hfar⟩, hmd⟩ := hs
    have hm : Mod W W' (fun k => row = some k) := (Mod.refl W _).grown hg (fun k e => .inl e)
    refine ⟨⟨ia, ic, cI.mod hm (fun e => by have := (hr _ e).1; omega), owns_mod hown hm (fun k hk e => ?_), hfar⟩, hmd.grown hg (fun k e => .inr (hr k e).1)⟩
    obtain ⟨o1, h3, h4⟩ := owns_cells hown k hk
    obtain ⟨_, o2, h5, h6⟩ := hr k e
    rw [h3] at h5
    cases h5
    rw [h4] at h6
    cases h6
  case stop =>
    intro D c pre W _ _ h
    exact h.elim
  case assign =>
    intro l x W K hK
    gi_wp2
    exact hK
  case body =>
    rintro l pre ⟨xa, xl, xc⟩ W ⟨⟨ia, ic, cI, hown, hfar⟩, hmd⟩ hlt
    obtain ⟨PL, hPL⟩ : ∃ PL, 1 + pre.length = PL := ⟨_, rfl⟩
    rw [hPL] at cI hown hfar
    have hPC : PL ≤ 1001 := by have := HN.out; omega
    have HPL := Lib.hid hPL
    obtain ⟨j0, hj, hz0, hz1, hz2⟩ := info_parts info_bytes
    have hm1 := (Mod.refl W Nob).alloc (.cells #[.slice xa xl xc] 43)
    have hown1 := owns_mod hown hm1 (fun _ _ => nob)
    have hnb := CellsAt.new W #[.slice xa xl xc] 43
    have q3 := cI.cell 0
    simp at q3
    have hcl := cI.lt
    have hzW := hmd.size
    dsimp only [scv]
    clear hPL hlt
    gi_wp2_with (gi_at_builtin; refine wpListIn_append_lies rfl (.tmp 22) (.tmp 24) 183 rfl G 43 j0 _ 1 24 Tryz.underlying183 hj hz0 hz1 hz2 rfl (by omega) (.slice ia PL ic) PL _ rfl hown1 ⟨W.heap.size, 0, none⟩ 1 1 [.slice xa xl xc] rfl rfl (World.news_of_block (cs := #[.slice xa xl xc]) (t := 43) (fr := (0, 0)) hnb) (by simp [Value.oneCell']) (by omega) (by unfold maxLen; omega) (by omega) (by simp; omega) (W.heap.size + 1) (by simp) ?_)
    intro gg cap w3 hown3 hgr hat hlt3
    have hm3 := ((Mod.refl W (inBlock (.slice ia PL ic))).alloc (.cells #[.slice xa xl xc] 43)).grown hgr (fun k hk => .inl hk)
    have hgn : ¬ inBlock (.slice ia PL ic) (G + 1) := fun h => by have := hfar _ h; omega
    have cI3 := cI.mod hm3 hgn
    have d3 := cI3.cell 0
    have e3 := cI3.free 0
    simp at d3
    have hS := (Mod.refl w3 (· = G + 1)).setCell (p := ⟨G + 1, 0, none⟩) (.inl rfl) (.slice (some ⟨gg, 0, none⟩) (PL + 1) cap)
    have cI4 := cI3.set 0 (.slice (some ⟨gg, 0, none⟩) (PL + 1) cap)
    have hggG : gg = G ∨ G + 3 ≤ gg := by
      rcases hat with h | h
      · exact hfar gg h
      · omega
    have hown4 := owns_keep hown3 hS (by omega)
    have hz3 := hm3.size
    have md4 := (hmd.drop hm3 (fun k hk => by rcases hfar k hk with h | h; exact .inl (.inl h); exact .inr (by omega))).drop hS (fun k (hk : k = G + 1) => .inl (.inr hk))
    have kf : KeepsFrom W3.heap.size W (w3.setCell ⟨G + 1, 0, none⟩ (.slice (some ⟨gg, 0, none⟩) (PL + 1) cap)) :=
      ((KeepsOthers.alloc W (.cells #[.slice xa xl xc] 43)).from _).trans ((keepsFrom_grown (B := W3.heap.size) hgr (fun j hj => .inr (by
        obtain ⟨o, h1, h2⟩ := owns_cells hown j hj
        exact ⟨o, hm1.keep h1 nob, h2⟩))).trans (keepsFrom_mod hS (fun k (hk : k = G + 1) => by omega)))
    have kk : KK (AtVal (G + 1 + 1) b) W (w3.setCell ⟨G + 1, 0, none⟩ (.slice (some ⟨gg, 0, none⟩) (PL + 1) cap)) :=
      (KK.of_mod hm3 (fun k hk => by rcases hk with rfl | rfl <;> omega) (fun k hk h => by have := hfar k h; rcases hk with rfl | rfl <;> omega)).trans
        (KK.of_mod hS (fun k hk => by rcases hk with rfl | rfl <;> omega) (fun k hk (h : k = G + 1) => by rcases hk with rfl | rfl <;> omega))
    have hnew : 1 + (pre ++ [((xa, xl, xc) : Sc)]).length = PL + 1 := by rw [List.length_append, ← HPL.out]; rfl
    have hrow3 : (w3.setCell ⟨G + 1, 0, none⟩ (.slice (some ⟨gg, 0, none⟩) (PL + 1) cap)).ownsRow G 43 1 (.slice (some ⟨gg, 0, none⟩) (PL + 1) cap) (PL + 1) (.slice ta 64 tc :: (pre ++ [((xa, xl, xc) : Sc)]).map scv) := by rw [List.map_append]; exact hown4
    have hin4 : ∀ k, inBlock (.slice (some ⟨gg, 0, none⟩) (PL + 1) cap) k → k = G ∨ G + 3 ≤ k := fun k hk => by
      have e2 : gg = k := by simpa [inBlock, Value.ownBlock] using hk
      subst e2
      exact hggG
    clear hown1 hnb q3 hj hz0 hz1 hz2
    gi_wp2_with fail
    refine ⟨kf, kk, ⟨⟨some ⟨gg, 0, none⟩, cap, ?_, ?_, ?_⟩, md4⟩⟩
    · rw [hnew]; exact cI4
    · rw [hnew]; exact hrow3
    · rw [hnew]; exact hin4
  case done =>
    rintro D ys W hD rfl ⟨⟨ia, ic, cI, hown, hfar⟩, hmd⟩ hK
    rw [HN.out] at cI hown hfar
    obtain ⟨PL, hPL⟩ : ∃ PL, 1 + N = PL := ⟨_, rfl⟩
    rw [hPL] at cI hown hfar
    have hzW := hmd.size
    have hm0 := m0.drop hmd (fun k hk => .inr (by have := HH.out; rcases hk with rfl | rfl <;> omega))
    have hc4 := c4.mod hmd (fun hk => by rcases hk with h | h <;> omega)
    have hq := cI.cell 0
    simp at hq
    have hm2 := HA.out.drop hmd (fun k hk => .inr (by have := HG.out; rcases hk with rfl | rfl <;> omega))
    have hbW := HBT.out.mod hm2 (fun _ _ => nob)
    have hkW := HK.out.mod hm0 (fun _ _ => nob)
    have hrows : RowsAt W (.slice ia PL ic) (turnL key 54 :: ls) := by
      refine ⟨_, RowAt.of_owns hown, ?_, ?_⟩
      · rw [List.length_cons, List.length_cons, List.length_map, HN.out, HUL.out]
      · intro i u l hu hl
        cases i with
        | zero =>
          rw [List.getElem?_cons_zero, Option.some.injEq] at hu hl
          subst hu; subst hl
          exact hbW
        | succ i =>
          rw [List.getElem?_cons_succ] at hu hl
          exact (hub i u l hu hl).mod hm0 (fun _ _ => nob)
    have htot : total (turnL key 54 :: ls) ≤ 274877906944 := by
      have e : total (turnL key 54 :: ls) = (turnL key 54).length + total ls := by simp [total]
      rw [e, htl]; omega
    clear hub hcells hvals hst hmd hown hfar cI cV cT cG m0 c4 hrow0 hin0 hm2 hbW
    go_wp2_with fail
    refine (sha_any (.slice ia PL ic) _ W hrows htot).mono ?_
    rintro e W4 ⟨rfl, m1⟩
    rw [List.flatten_cons]
    have hsl := shaL_length (turnL key 54 ++ ls.flatten)
    obtain ⟨s1, hs1⟩ : ∃ s1, shaL (turnL key 54 ++ ls.flatten) = s1 := ⟨_, rfl⟩
    rw [hs1] at hsl ⊢
    have HS1 := Lib.hid hs1
    replace hm0 := hm0.trans m1
    replace hc4 := hc4.mod m1 nob
    replace hkW := hkW.mod m1 (fun _ _ => nob)
    have hK4 := m1.keep hK nob
    have hz4 := m1.size
    clear m1 hs1 hrows htot hK hq
    go_wp2_with (first
      | (refine wpList_store_arr rfl 22 _ _ rfl W4.heap.size 32 (s1.map B).toArray ((List.replicate 32 (0 : UInt8)).map B).toArray rfl rfl (by exact CellsAt.new W4 ((List.replicate 32 (0 : UInt8)).map B).toArray 22) (by kernel_rfl) (by simp [hsl]) (by simp) (by simp [B, Value.oneCell']) ?_))
    have hA := ((Mod.refl W4 Nob).alloc (.cells ((List.replicate 32 (0 : UInt8)).map B).toArray 22)).setRow (g := W4.heap.size) (.inr (Nat.le_refl _)) (s1.map B).toArray
    have c8 := (CellsAt.new W4 ((List.replicate 32 (0 : UInt8)).map B).toArray 22).setRow (s1.map B).toArray
    have hz5 : ((W4.alloc (.cells ((List.replicate 32 (0 : UInt8)).map B).toArray 22)).setRow W4.heap.size (s1.map B).toArray).heap.size = W4.heap.size + 1 := by simp
    change Code.wp _ _ _ _ ((W4.alloc (.cells ((List.replicate 32 (0 : UInt8)).map B).toArray 22)).setRow W4.heap.size (s1.map B).toArray)
    obtain ⟨W5, hW5⟩ : ∃ W5, (W4.alloc (.cells ((List.replicate 32 (0 : UInt8)).map B).toArray 22)).setRow W4.heap.size (s1.map B).toArray = W5 := ⟨_, rfl⟩
    rw [hW5] at hA c8 hz5 ⊢
    obtain ⟨S, hS⟩ : ∃ S, W4.heap.size = S := ⟨_, rfl⟩
    rw [hS] at c8 hz5 hz4 ⊢
    replace hm0 := hm0.trans hA
    replace hc4 := hc4.mod hA nob
    replace hkW := hkW.mod hA (fun _ _ => nob)
    replace hK4 := hA.keep hK4 nob
    clear hW5 hA hS
    refine wp_no_panic ?_
    refine wp_region_any (by kernel_rfl) ?_
    change wpAny _ _ _ _ _ _ _ W5.drew
    refine wpAny_take (i := 0) (v := .slice ka kn kc) rfl (by kernel_rfl) (by kernel_rfl) (by kernel_rfl) (fun _ _ _ h => h) (Or.inl ⟨by rfl, fun W => by go_simp⟩) ?_
    refine wpAny_take (i := 2) (v := .slice (some ⟨S, 0, none⟩) 32 32) rfl (by kernel_rfl) (by kernel_rfl) (by kernel_rfl) (fun _ _ _ h => h) (Or.inl ⟨by rfl, fun W => by go_simp⟩) ?_
    try simp only [Act.put, List.getElem_toArray, List.getElem_cons_zero, List.getElem_cons_succ, List.setIfInBounds_toArray, List.set_cons_zero, List.set_cons_succ]
    have mD := (Mod.refl W5 Nob).drew
    replace hm0 := hm0.trans mD
    replace hc4 := hc4.mod mD nob
    replace c8 := c8.mod mD nob
    replace hkW := hkW.mod mD (fun _ _ => nob)
    replace hK4 := mD.keep hK4 nob
    have hz6 : W5.drew.heap.size = S + 1 := hz5
    obtain ⟨W6, hW6⟩ : ∃ W6, W5.drew = W6 := ⟨_, rfl⟩
    rw [hW6] at hm0 hc4 c8 hkW hK4 hz6 ⊢
    clear hW6 mD
    refine wpAny_one 1 _ (by kernel_rfl) rfl (fun K' hK' => ?_)
    go_simp
    refine (turned_any (.slice ka kn kc) key 92 W6 hkW hkl').mono ?_
    rintro e W7 ⟨tv2, rfl, hown2, m7⟩
    have htl2 : (turnL key 92).length = 64 := turnL_length key 92 hkl'
    change W7.ownsRow W6.heap.size 5 1 tv2 (turnL key 92).length ((turnL key 92).map B) at hown2
    rw [htl2] at hown2
    obtain ⟨ta2, tc2, rfl, _, _⟩ := owns_form hown2
    have hb2 := BytesAt.of_owns hown2
    replace hm0 := hm0.trans m7
    replace hc4 := hc4.mod m7 nob
    replace c8 := c8.mod m7 nob
    replace hK4 := m7.keep hK4 nob
    have hz7 := m7.size
    clear m7 hown2 hkW
    refine hK'.out _ _ ?_
    clear hK' K'
    refine wpAny_one 3 _ (by kernel_rfl) rfl (fun K' hK' => ?_)
    go_simp
    refine hK'.out _ _ ?_
    clear hK' K'
    have m8 := (Mod.refl W7 Nob).alloc (.cells #[.slice ta2 64 tc2, .slice (some ⟨S, 0, none⟩) 32 32] 43)
    have c31 := CellsAt.new W7 #[.slice ta2 64 tc2, .slice (some ⟨S, 0, none⟩) 32 32] 43
    have hz8 : (W7.alloc (.cells #[.slice ta2 64 tc2, .slice (some ⟨S, 0, none⟩) 32 32] 43)).heap.size = W7.heap.size + 1 := by simp
    replace hb2 := hb2.mod m8 (fun _ _ => nob)
    replace hm0 := hm0.trans m8
    replace hc4 := hc4.mod m8 nob
    replace c8 := c8.mod m8 nob
    replace hK4 := m8.keep hK4 nob
    obtain ⟨W8, hW8⟩ : ∃ W8, W7.alloc (.cells #[.slice ta2 64 tc2, .slice (some ⟨S, 0, none⟩) 32 32] 43) = W8 := ⟨_, rfl⟩
    rw [hW8] at hb2 hm0 hc4 c8 hK4 c31 hz8 ⊢
    obtain ⟨R, hR⟩ : ∃ R, W7.heap.size = R := ⟨_, rfl⟩
    rw [hR] at c31 hz7 hz8 ⊢
    clear m8 hW8 hR
    have hbs : BytesAt W8 (.slice (some ⟨S, 0, none⟩) 32 32) s1 := by
      refine .inl (.inr ⟨S, 0, 32, by rw [List.length_map, hsl], c8.lt, by rw [List.length_map, hsl]; exact Nat.le_refl _, by unfold maxLen; omega, fun i u hi => ?_⟩)
      rw [Nat.zero_add, c8.cell i]
      simpa using hi
    have hrows : RowsAt W8 (.slice (some ⟨R, 0, none⟩) 2 2) [turnL key 92, s1] := by
      refine ⟨[.slice ta2 64 tc2, .slice (some ⟨S, 0, none⟩) 32 32], .inr ⟨R, 0, 2, rfl, c31.lt, Nat.le_refl _, by unfold maxLen; omega, fun i u hi => ?_⟩, rfl, fun i u l hu hl => ?_⟩
      · rw [Nat.zero_add, c31.cell i]
        simpa using hi
      · match i, hu, hl with
        | 0, hu, hl => cases hu; cases hl; exact hb2
        | 1, hu, hl => cases hu; cases hl; exact hbs
        | (i + 2), hu, hl => cases hu
    have htot : total [turnL key 92, s1] ≤ 274877906944 := by
      have e : total [turnL key 92, s1] = (turnL key 92).length + s1.length := by simp [total]
      rw [e, htl2, hsl]; omega
    clear hbs hb2 c31 c8
    refine wpAny_one 4 _ (by kernel_rfl) rfl (fun K' hK' => ?_)
    go_simp
    refine (sha_any (.slice (some ⟨R, 0, none⟩) 2 2) _ W8 hrows htot).mono ?_
    rintro e W9 ⟨rfl, m9⟩
    have hsl2 := shaL_length [turnL key 92, s1].flatten
    have hres : shaL [turnL key 92, s1].flatten = macL key ls.flatten := by
      rw [← HS1.out]
      simp [macL]
    rw [hres] at hsl2 ⊢
    obtain ⟨out, hout⟩ : ∃ out, macL key ls.flatten = out := ⟨_, rfl⟩
    rw [hout] at hsl2 ⊢
    have HOUT := Lib.hid hout
    replace hm0 := hm0.trans m9
    replace hc4 := hc4.mod m9 nob
    replace hK4 := m9.keep hK4 nob
    clear m9 hrows htot hres hout
    refine hK'.out _ _ ?_
    clear hK' K'
    refine wpAny_one 5 _ (by kernel_rfl) rfl (fun K' hK' => ?_)
    refine Eq.mpr (if_pos (by rfl)) ?_
    refine wp_store_row 22 _ _ rfl H (out.map B).toArray rfl rfl 22 ((List.replicate 32 (0 : UInt8)).map B).toArray hc4 ?_ (by simp [hsl2]) (by simp [B, Value.oneCell']) ?_
    · have e : (Tryz.prog.info? 22).map (·.size) = some 32 := by kernel_rfl
      rw [e]; simp [hsl2]
    refine hK'.out _ _ ?_
    clear hK' K'
    refine wpAny_done (by kernel_rfl) ?_ _
    simp only [Act.put, List.getElem_toArray, List.getElem_cons_zero, List.getElem_cons_succ]
    have mS := (Mod.refl W9 (· = H)).setRow (.inl rfl) (out.map B).toArray
    have DS := mS.keep hK4 (by omega)
    have mD : Mod (W9.setRow H (out.map B).toArray) ((W9.setRow H (out.map B).toArray).putObj D (.deferred none)) (· = D) := (Mod.refl _ (· = D)).putObj (.inl rfl) _
    have hfin := (hc4.setRow (out.map B).toArray).mod mD (by omega)
    have hmd := (hm0.drop mS (fun k (hk : k = H) => .inr (by have := HH.out; omega))).drop mD (fun k (hk : k = D) => .inr (by have := HH.out; omega))
    clear mS mD hm0 hc4 hK4
    go_wp2_with fail
    refine ⟨by simp, .inl ⟨_, _, rfl, run_takeDeferred DS, ?_⟩⟩
    exact ⟨.agg (out.map B).toArray, ret_arr rfl _ _ H 32 5 _ rfl hfin Tryz.underlying22 (by kernel_rfl) (by simp [hsl2]), by rw [HOUT.out], hmd⟩

end Go.Proofs.YtakgnkjopbflbaaGreatDoor
