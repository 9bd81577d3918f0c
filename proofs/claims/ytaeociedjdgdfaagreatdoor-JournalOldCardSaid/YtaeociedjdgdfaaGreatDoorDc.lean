/- Bytes, each turned by that of its place in the blocks: chacha.Xor. The condition: the key has 32 bytes, the nonce 12, and there are fewer than 2^37 bytes. -/
import Derived.Test.YtaeociedjdgdfaaGreatDoorDb
import Derived.Test.YtaeociedjdgdfaaGreatDoorBk
import Derived.Test.YtaeociedjdgdfaaGreatDoorCr
namespace Go.Proofs.YtaeociedjdgdfaaGreatDoor
open Go.RowKit Go.Shelf
attribute [local go_sem] Oper.semAt_some

/-- The byte of a place in the blocks. -/
def ksB (key nonce : List UInt8) (ctr : UInt32) (i : Nat) : UInt8 := (blockL key (ctrAt ctr (i / 64)) nonce).getD (i % 64) 0
/-- The first bytes, turned. -/
def xorP (key nonce : List UInt8) (ctr : UInt32) (b : List UInt8) (m : Nat) : List UInt8 := (List.range m).map fun i => b.getD i 0 ^^^ ksB key nonce ctr i
/-- Bytes, turned. -/
def xorL (key nonce : List UInt8) (ctr : UInt32) (b : List UInt8) : List UInt8 := xorP key nonce ctr b b.length
theorem xorP_length (key nonce : List UInt8) (ctr : UInt32) (b : List UInt8) (m : Nat) : (xorP key nonce ctr b m).length = m := by simp [xorP]
theorem xorP_snoc (key nonce : List UInt8) (ctr : UInt32) (b : List UInt8) (m : Nat) : xorP key nonce ctr b (m + 1) = xorP key nonce ctr b m ++ [b.getD m 0 ^^^ ksB key nonce ctr m] := by simp [xorP, List.range_succ]
theorem xorL_length (key nonce : List UInt8) (ctr : UInt32) (b : List UInt8) : (xorL key nonce ctr b).length = b.length := xorP_length _ _ _ _ _
theorem xorL_twice (key nonce : List UInt8) (ctr : UInt32) (b : List UInt8) : xorL key nonce ctr (xorL key nonce ctr b) = b := by
  apply List.ext_getElem
  · rw [xorL_length, xorL_length]
  · intro i h1 h2
    have h3 : i < (xorL key nonce ctr b).length := by rw [xorL_length] at h1; exact h1
    have e : (xorL key nonce ctr b)[i] = b[i] ^^^ ksB key nonce ctr i := by
      simp only [xorL, xorP, List.getElem_map, List.getElem_range]
      rw [List.getD_eq_getElem?_getD, List.getElem?_eq_getElem h2]; rfl
    have e2 : (xorL key nonce ctr (xorL key nonce ctr b))[i] = (xorL key nonce ctr b)[i] ^^^ ksB key nonce ctr i := by
      unfold xorL at h3 ⊢
      simp only [xorP, List.getElem_map, List.getElem_range]
      rw [List.getD_eq_getElem?_getD, List.getElem?_eq_getElem (by simpa using h2)]
      simp
    rw [e2, e, UInt8.xor_assoc, UInt8.xor_self, UInt8.xor_zero]

/-- So many bytes turned. -/
structure XorAt (w : World) (H G L : Nat) (bs : Value) (b : List UInt8) (key nonce : List UInt8) (ctr : UInt32) (m : Nat) (W : World) : Prop where
  src : CellsAt W (H + 1 + 1) #[bs] 40
  out : CellsAt W G #[.slice (some ⟨H + 1 + 1 + 1, 0, none⟩) m L] 40
  row : W.ownsRow (H + 1 + 1 + 1) 5 1 (.slice (some ⟨H + 1 + 1 + 1, 0, none⟩) m L) m ((xorP key nonce ctr b m).map B)
  md : Mod w W Nob
  bytes : BytesAt W bs b
theorem XorAt.keep {w : World} {H G L : Nat} {bs : Value} {b key nonce : List UInt8} {ctr : UInt32} {m : Nat} {W W' : World} {T : Nat → Prop} (h : XorAt w H G L bs b key nonce ctr m W) (hm : Mod W W' T) (hf : ∀ k, inBlock bs k → k < H) (hH : w.heap.size = H)
    (hT : ∀ k, T k → H + 1 + 1 + 1 < k ∧ k ≠ G) : XorAt w H G L bs b key nonce ctr m W' :=
  ⟨h.src.mod hm (fun hk => by have := hT _ hk; omega), h.out.mod hm (fun hk => (hT _ hk).2 rfl), owns_keep h.row hm (fun hk => by have := hT _ hk; omega), h.md.drop hm (fun k hk => .inr (by have := hT _ hk; omega)), h.bytes.mod hm (fun k hk ht => by have := hT _ ht; have := hf k hk; omega)⟩

set_option maxRecDepth 100000 in
set_option maxHeartbeats 4000000 in
theorem xor_any (key nonce b : List UInt8) (ctr : UInt32) (ba : Option Addr) (bc : Nat) (w : World) (hk : key.length = 32) (hn : nonce.length = 12) (hl : b.length ≤ 137438953472) (hb : BytesAt w (.slice ba b.length bc) b) (hf : ∀ k, inBlock (.slice ba b.length bc) k → k < w.heap.size) :
    Calls Tryz.prog 104 #[.agg (arrB key), .agg (arrB nonce), V32 ctr, .slice ba b.length bc] w (Made w (xorL key nonce ctr b)) := by
  refine (callsIn_wide (n := 6)).1 ?_
  refine callsIn_of_wp_marks Tryz.func104 rfl trivial ?_ rfl
  simp only [Tryz.ntmps104, List.size_toArray, List.length_cons, List.length_nil, Nat.reduceAdd, Nat.reduceSub, Array.replicate_succ, Array.replicate_zero, List.push_toArray, List.append_toArray, List.nil_append, List.cons_append]
  obtain ⟨L, hL⟩ : ∃ L, b.length = L := ⟨_, rfl⟩
  rw [hL] at hl hb hf ⊢
  have HL := Lib.hid hL
  have ks : Box ((arrB key).size = 32) := ⟨by rw [arrB_size, hk]⟩
  have ns : Box ((arrB nonce).size = 12) := ⟨by rw [arrB_size, hn]⟩
  clear hL
  refine wpIn_wide.2 ?_
  have m0 := (((Mod.refl w Nob).alloc (.cells (arrB key) 22)).alloc (.cells (arrB nonce) 47)).alloc (.cells #[.slice ba L bc] 40)
  have cK := ((CellsAt.new w (arrB key) 22).alloc (.cells (arrB nonce) 47)).alloc (.cells #[.slice ba L bc] 40)
  have cN := (CellsAt.new (w.alloc (.cells (arrB key) 22)) (arrB nonce) 47).alloc (.cells #[.slice ba L bc] 40)
  have cB := CellsAt.new ((w.alloc (.cells (arrB key) 22)).alloc (.cells (arrB nonce) 47)) #[.slice ba L bc] 40
  simp only [World.size_alloc] at cN cB
  obtain ⟨W1, hrun1, hown, m1⟩ := make_bytes L (((w.alloc (.cells (arrB key) 22)).alloc (.cells (arrB nonce) 47)).alloc (.cells #[.slice ba L bc] 40)) (by omega)
  have hs3 : (((w.alloc (.cells (arrB key) 22)).alloc (.cells (arrB nonce) 47)).alloc (.cells #[.slice ba L bc] 40)).heap.size = w.heap.size + 1 + 1 + 1 := by simp
  rw [hs3] at hown hrun1
  go_wp2_with fail
  have hb0 := hb.mod m0 (fun _ _ => nob)
  obtain ⟨W0, hW0⟩ : ∃ W0, (((w.alloc (.cells (arrB key) 22)).alloc (.cells (arrB nonce) 47)).alloc (.cells #[.slice ba L bc] 40)) = W0 := ⟨_, rfl⟩
  rw [hW0] at m0 cK cN cB hrun1 m1 hs3 hb0 ⊢
  obtain ⟨H, hH⟩ : ∃ H, w.heap.size = H := ⟨_, rfl⟩
  rw [hH] at cK cN cB hown hrun1 hs3 hf ⊢
  have HH := Lib.hid hH
  clear hW0 hH hb
  have cK1 := cK.mod m1 nob
  have cN1 := cN.mod m1 nob
  have cB1 := cB.mod m1 nob
  have hb1 := hb0.mod m1 (fun _ _ => nob)
  have m01 := m0.trans m1
  have hz1 := m1.size
  rw [hs3] at hz1
  have hgl := (hown.lt (H + 1 + 1 + 1) rfl).2
  have cG := CellsAt.new W1 #[.slice (some ⟨H + 1 + 1 + 1, 0, none⟩) 0 L] 40
  have hA := (Mod.refl W1 Nob).alloc (.cells #[.slice (some ⟨H + 1 + 1 + 1, 0, none⟩) 0 L] 40)
  have cK2 := cK1.mod hA nob
  have cN2 := cN1.mod hA nob
  have cB2 := cB1.mod hA nob
  have hown2 := owns_mod hown hA (fun _ _ => nob)
  have hb2 := hb1.mod hA (fun _ _ => nob)
  have m02 := m01.trans hA
  clear m0 m1 cK1 cN1 cB1 hb0 hb1 m01 hs3 hA cK cN
  have b7 := cB.cell 0
  simp at b7
  have b7' := cB2.cell 0
  simp at b7'
  have b9 := cG.cell 0
  simp at b9
  go_step3
  by_cases h0 : L = 0
  · subst h0
    change (Instr.makeSlice 40 (.int .i64 0) (.int .i64 0)).run Tryz.prog W0 = _ at hrun1
    go_wp2_with fail
    rw [Exit.noGoto_ret]
    refine ⟨.slice (some ⟨H + 1 + 1 + 1, 0, none⟩) 0 0, ?_, ?_⟩
    · simp [results, Tryz.f104, go_sem]
    · have hbn : b = [] := List.eq_nil_of_length_eq_zero HL.out
      subst hbn
      refine ⟨_, rfl, ?_, m02⟩
      have hh := HH.out
      have h9 := hown2
      exact ⟨by simp [xorL, xorP], by
        rcases h9.2 with ⟨h0, _⟩ | ⟨g, cap, cur, h0, _, h2⟩
        · cases h0
        · exact .inr ⟨g, cap, cur, h0, by cases h0; omega, h2⟩⟩
  · have hd2 : ((L : Int) == 0) = false := by simp; omega
    go_wp2_with fail
    go_step3
    go_wp2_with (first
      | (refine wpList_load_arr rfl 22 _ rfl H 32 5 rfl (arrB key) (by exact cK2) Tryz.underlying22 size_b32 ks.out ?_)
      | (refine wpList_load_arr rfl 47 _ rfl (H + 1) 12 5 rfl (arrB nonce) (by exact cN2) Tryz.underlying47 size_b12 ns.out ?_))
    refine (blocks_any (arrB key) (arrB nonce) ctr _).mono ?_
    rintro e W2 ⟨rfl, hW2⟩
    have hG : (W1.alloc (.cells #[.slice (some ⟨H + 1 + 1 + 1, 0, none⟩) 0 L] 40)).heap.size = W1.heap.size + 1 := by simp
    obtain ⟨W3, hW3⟩ : ∃ W3, W1.alloc (.cells #[.slice (some ⟨H + 1 + 1 + 1, 0, none⟩) 0 L] 40) = W3 := ⟨_, rfl⟩
    rw [hW3] at hW2 cG cB2 hown2 hb2 m02 hG ⊢
    obtain ⟨G, hGe⟩ : ∃ G, W1.heap.size = G := ⟨_, rfl⟩
    rw [hGe] at cG hG hz1 hgl ⊢
    have hA := (((Mod.refl W3 Nob).alloc (.cells (arrB key) 22)).alloc (.cells (arrB nonce) 47)).alloc (.cells #[V32 ctr] 99)
    have d1 := ((CellsAt.new W3 (arrB key) 22).alloc (.cells (arrB nonce) 47)).alloc (.cells #[V32 ctr] 99)
    have d2 := (CellsAt.new (W3.alloc (.cells (arrB key) 22)) (arrB nonce) 47).alloc (.cells #[V32 ctr] 99)
    have d3 := CellsAt.new ((W3.alloc (.cells (arrB key) 22)).alloc (.cells (arrB nonce) 47)) #[V32 ctr] 99
    have hsz2 : W2.heap.size = G + 4 := by rw [hW2]; simp [hG]
    simp only [World.size_alloc] at d2 d3
    rw [← hW2] at hA d1 d2 d3
    rw [hG] at d1 d2 d3 ⊢
    replace cG := cG.mod hA nob
    replace cB2 := cB2.mod hA nob
    replace hown2 := owns_mod hown2 hA (fun _ _ => nob)
    replace hb2 := hb2.mod hA (fun _ _ => nob)
    replace m02 := m02.trans hA
    clear hA hW2 hW3 hGe hG cK2 cN2 b7' b9 b7 hrun1 hown cB
    have hseq := blocks_ever 5 (by omega) (G + 1) ((L + 63) / 64) key nonce ctr (fun k => k = G ∨ k = H + 1 + 1 + 1) hk hn W2 (by omega) (by omega) d1 d2 d3
    have h00 : XorAt w H G L (.slice ba L bc) b key nonce ctr (64 * 0) W2 := ⟨cB2, cG, by simpa [xorP] using hown2, m02, hb2⟩
    clear cB2 cG hown2 m02 hb2 d1 d2 d3
    have hHH := HH.out
    go_wp2_with fail
    refine (wpIn_wide (n := 6)).1 ?_
    refine wpIn_rangeFunc_ever (n := 6) (by omega) (gf := 156) (lb := #[.pointer (some ⟨G + 1 + 1 + 1, 0, none⟩), .pointer (some ⟨G + 1, 0, none⟩), .pointer (some ⟨G + 1 + 1, 0, none⟩)]) rfl (enters_of Tryz.func156 (by kernel_rfl) rfl)
      hseq (fun h k => h.trans k) (fun W l o o' _ h1 h2 _ => KX.put W l o o' h1 h2) (fun _ => rfl)
      (fun pre W => 64 * pre.length < L ∧ W2.heap.size ≤ W.heap.size ∧ XorAt w H G L (.slice ba L bc) b key nonce ctr (64 * pre.length) W)
      (fun c pre W => c = .exit 0 ∧ XorAt w H G L (.slice ba L bc) b key nonce ctr L W) ?own ?ownx ⟨by simp; omega, Nat.le_refl _, h00⟩ (fun pre W h => by have := h.1; omega)
      (fun pre x a' W => ∃ g, a' = { tmps := #[.agg (arrB key), .agg (arrB nonce), V32 ctr, .slice ba L bc, .pointer (some ⟨H, 0, none⟩), .pointer (some ⟨H + 1, 0, none⟩), undef, .pointer (some ⟨H + 1 + 1, 0, none⟩), .slice none 0 0, .pointer (some ⟨G, 0, none⟩), .pointer (some ⟨g, 0, none⟩), undef, undef, .slice ba L bc, .int .i64 L, .slice (some ⟨H + 1 + 1 + 1, 0, none⟩) 0 L, .slice ba L bc, .int .i64 L, .bool false, undef, .agg (arrB key), .agg (arrB nonce), V32 ctr, .func (.func 156) #[] #[.pointer (some ⟨G + 1 + 1 + 1, 0, none⟩), .pointer (some ⟨G + 1, 0, none⟩), .pointer (some ⟨G + 1 + 1, 0, none⟩)], x, undef, undef, undef, undef, undef, undef, undef, undef, undef, undef, undef, undef, undef, undef, undef, undef, undef, undef, undef, undef, undef], defers := [] } ∧
        BlockIs key nonce ctr pre x W ∧ W2.heap.size ≤ g ∧ CellsAt W g (arrB (blockL key (ctrAt ctr pre.length) nonce)) 128) ?ownax
      ?assign ?body ?stop
    case own =>
      rintro pre W W' row ⟨h1, hW, h2⟩ hg hr
      exact ⟨h1, Nat.le_trans hW hg.size, h2.keep (T := fun k => row = some k) ((Mod.refl W _).grown hg (fun k e => .inl e)) hf hHH (fun k e => by have := (hr k e).1; omega)⟩
    case ownx =>
      rintro c pre W W' row ⟨h1, h2⟩ hg hr
      exact ⟨h1, h2.keep (T := fun k => row = some k) ((Mod.refl W _).grown hg (fun k e => .inl e)) hf hHH (fun k e => by have := (hr k e).1; omega)⟩
    case ownax =>
      rintro pre x a' _ W W' row ⟨g, h1, h2, h3, h4⟩ hg hr
      exact ⟨g, h1, h2, h3, (grownBy_keeps_cells hg (fun r e => (hr r e).2) h4 rfl).trans h4⟩
    case assign =>
      rintro l pre x W K ⟨h1, hW, h2⟩ hR hK
      have hx : x = .agg (arrB (blockL key (ctrAt ctr pre.length) nonce)) := hR
      have hol := blockL_length key (ctrAt ctr pre.length) nonce
      obtain ⟨out, ho⟩ : ∃ out, blockL key (ctrAt ctr pre.length) nonce = out := ⟨_, rfl⟩
      rw [ho] at hx hol hK
      subst hx
      have hsz : Box ((arrB out).size = 64) := ⟨by rw [arrB_size, hol]⟩
      clear hol
      have hw := h2.md.size
      have c1 := CellsAt.new W (arrB (List.replicate 64 0)) 128
      have hA := (Mod.refl W Nob).alloc (.cells (arrB (List.replicate 64 0)) 128)
      have hA2 := hA.setRow (g := W.heap.size) (.inr (Nat.le_refl _)) (arrB out)
      have h2' := h2.keep (T := Nob) hA2 hf hHH (fun k h => h.elim)
      have hsz0 : Box ((arrB (List.replicate 64 (0 : UInt8))).size = 64) := ⟨by rw [arrB_size]; rfl⟩
      have hR' : BlockIs key nonce ctr pre (.agg (arrB out)) ((W.alloc (.cells (arrB (List.replicate 64 0)) 128)).setRow W.heap.size (arrB out)) := hR
      have hB1 := h2.src.lt
      have hle : W2.heap.size ≤ W.heap.size := hW
      clear hR ho
      gi_wp2_with (refine wpListIn_store_arr rfl 128 _ _ rfl W.heap.size 64 (arrB out) (arrB (List.replicate 64 0)) rfl rfl (by exact c1) size_b64 hsz.out hsz0.out (arrB_one _) ?_)
      exact hK _ _ (keepsFrom_mod hA2 (fun k h => h.elim)) (KX.of_mod hA2 (fun k h => h.elim)) ⟨h1, Nat.le_trans hW hA2.size, h2'⟩ ⟨_, rfl, hR', hle, c1.setRow _⟩
    case body =>
      rintro l pre x a' W hl hlr ⟨h1, hW, h2⟩ ⟨g, rfl, hR, hg, c10⟩ hlt
      have hx : x = .agg (arrB (blockL key (ctrAt ctr pre.length) nonce)) := hR
      have hol := blockL_length key (ctrAt ctr pre.length) nonce
      obtain ⟨j, hj⟩ : ∃ j, pre.length = j := ⟨_, rfl⟩
      have hlen : (pre ++ [x]).length = j + 1 := by rw [List.length_append, hj]; rfl
      rw [hj] at h1 h2 c10 hx hol
      have hks : ∀ i, i < 64 → ∃ v, (blockL key (ctrAt ctr j) nonce)[i]? = some v ∧ ksB key nonce ctr (64 * j + i) = v := fun i hi => by
        refine ⟨_, List.getElem?_eq_getElem (by omega), ?_⟩
        unfold ksB
        rw [show (64 * j + i) / 64 = j by omega, show (64 * j + i) % 64 = i by omega, List.getD_eq_getElem?_getD, List.getElem?_eq_getElem (by omega)]
        rfl
      obtain ⟨out, ho⟩ : ∃ out, blockL key (ctrAt ctr j) nonce = out := ⟨_, rfl⟩
      rw [ho] at c10 hx hol hks
      have hsz : Box ((arrB out).size = 64) := ⟨by rw [arrB_size, hol]⟩
      subst hx
      have HLN := Box.mk hlen
      have HKS : Box _ := Box.mk hks
      have hgW := c10.lt
      have hf9 : ∀ (i : Nat) (v : UInt8), out[i]? = some v → ∀ w, (Instr.index 128 (.agg (arrB out)) (.int .i64 (i : Int))).run Tryz.prog w = .ok (B v) w := fun i v hv w =>
        run_index_arr 128 5 64 (arrB out) .i64 i (B v) Tryz.underlying128 size_u8 (fun w => by kernel_rfl) (by rw [← hol]; exact (List.getElem?_eq_some_iff.1 hv).1) (by simp [arrB, hv]) w
      have HF9 := Box.mk hf9
      clear ho hol hlen hks hf9 hR
      gi_wp2_with (refine wpListIn_load_arr rfl 128 _ rfl g 64 5 rfl (arrB out) (by exact c10) Tryz.underlying128 size_b64 hsz.out ?_)
      gi_loopg [26] 64 (fun k t wr => ∃ i : Nat, i + k = 64 ∧ t = .int .i64 i ∧ 64 * j + i < L ∧ XorAt w H G L (.slice ba L bc) b key nonce ctr (64 * j + i) wr ∧ Mod W wr (fun k => k = G ∨ k = H + 1 + 1 + 1))
      case atStart => exact ⟨0, by omega, rfl, by omega, h2, Mod.refl _ _⟩
      case round =>
        clear h2 c10
        obtain ⟨i, hi, rfl, hiL, hX, hM⟩ := hrel
        by_cases hlt2 : i < 64
        · obtain ⟨v, hv, hkv⟩ := HKS.out i hlt2
          have hix := HF9.out i v hv
          obtain ⟨m, hm⟩ : ∃ m, 64 * j + i = m := ⟨_, rfl⟩
          rw [hm] at hiL hX hkv
          have hsn := xorP_snoc key nonce ctr b m
          obtain ⟨y, hy⟩ : ∃ y, b[m]? = some y := ⟨_, List.getElem?_eq_getElem (by rw [HL.out]; exact hiL)⟩
          have hyd : b.getD m 0 = y := by rw [List.getD_eq_getElem?_getD, hy]; rfl
          obtain ⟨bb, oo, hba, hcy⟩ := row_at hX.bytes m (B y) (by rw [List.getElem?_map, hy]; rfl)
          subst hba
          rw [hkv, hyd] at hsn
          have hxor := xor_u8 y v
          obtain ⟨z, hz⟩ : ∃ z, y ^^^ v = z := ⟨_, rfl⟩
          rw [hz] at hsn hxor
          have hZ := (Mod.refl wr Nob).drew.alloc (.cells #[B z] 5)
          have hown := owns_mod hX.row hZ (fun _ _ => nob)
          have cz := CellsAt.new wr.drew #[B z] 5
          obtain ⟨i0, hi0, hz0, hz1, hz2⟩ := info_parts info_u8
          obtain ⟨w9, hrun9, hown9, hgr9⟩ := run_append_fits (P := Tryz.prog) (wr.drew.alloc (.cells #[B z] 5)) (H + 1 + 1 + 1) 40 40 5 i0 1 Tryz.underlying40 hi0 hz1 (H + 1 + 1 + 1) m L _ hown ⟨wr.heap.size, 0, none⟩ 1 1 [B z] rfl (fun q u hq => by
            have hadd : (⟨wr.heap.size, 0, none⟩ : Addr).add q = ⟨wr.heap.size, q, none⟩ := by unfold Addr.add; split <;> simp_all
            rw [hadd]
            have := cz.cell q
            rw [show wr.drew.heap.size = wr.heap.size from rfl] at this
            rw [this]; simpa using hq) (by simp [B, Value.oneCell']) (by omega)
          have hM9 : Mod (wr.drew.alloc (.cells #[B z] 5)) w9 (· = H + 1 + 1 + 1) := (Mod.refl _ _).grown hgr9 (fun k e => by cases e; exact .inl rfl)
          have hMz : Mod wr w9 (· = H + 1 + 1 + 1) := hZ.nob.trans hM9
          have o9 := hX.out.mod hMz (by omega)
          have s9 := hX.src.mod hMz (by omega)
          have hMs := (Mod.refl w9 (· = G)).setCell (p := ⟨G, 0, none⟩) (.inl rfl) (.slice (some ⟨H + 1 + 1 + 1, 0, none⟩) (m + 1) L)
          have hXn : XorAt w H G L (.slice (some ⟨bb, oo, none⟩) L bc) b key nonce ctr (m + 1) (w9.setCell ⟨G, 0, none⟩ (.slice (some ⟨H + 1 + 1 + 1, 0, none⟩) (m + 1) L)) := by
            refine ⟨s9.mod hMs (by omega), o9.set 0 _, ?_, ?_, ?_⟩
            · have := owns_keep hown9 hMs (by omega)
              rw [hsn, List.map_append]
              exact this
            · exact (hX.md.drop hMz (fun k (hk : k = H + 1 + 1 + 1) => .inr (by omega))).drop hMs (fun k (hk : k = G) => .inr (by omega))
            · exact (hX.bytes.mod hMz (fun k hk e => by have := hf k hk; omega)).mod hMs (fun k hk e => by have := hf k hk; omega)
          have hMn : Mod W (w9.setCell ⟨G, 0, none⟩ (.slice (some ⟨H + 1 + 1 + 1, 0, none⟩) (m + 1) L)) (fun k => k = G ∨ k = H + 1 + 1 + 1) :=
            (hM.trans (hMz.wide (fun k hk => .inl (.inr hk)))).trans (hMs.wide (fun k hk => .inl (.inl hk)))
          have kG := hX.out.cell 0
          have kS := hX.src.cell 0
          simp at kG kS
          have kG8 := (hX.out.mod hZ nob).cell 0
          have kS8 := (hX.src.mod hZ nob).cell 0
          have kG9 := o9.cell 0
          have kS9 := s9.cell 0
          simp at kG8 kS8 kG9 kS9
          have kf9 := o9.free 0
          have kG' := hXn.out.cell 0
          have kS' := hXn.src.cell 0
          simp at kG' kS'
          have hcy8 : (wr.drew.alloc (.cells #[B z] 5)).cell? ⟨bb, oo + m, none⟩ = some (B y) := by
            rw [hZ.cell (cell_lt hcy) nob]; exact hcy
          have hcy9 : w9.cell? ⟨bb, oo + m, none⟩ = some (B y) := by
            rw [hMz.cell (cell_lt hcy) (fun e => by have := hf bb rfl; omega)]; exact hcy
          have hxr : ∀ W, (binOp BinOp.xor 5 (B y) (B v)).run Tryz.prog W = .ok (B z) W := fun W => by unfold B; go_simp
          have HM := Lib.hid hm
          have HI := Lib.hid hi
          have b0 : (0 : Int) ≤ (m : Int) := by omega
          have b1 : (m : Int) < (L : Int) := by omega
          have hd64 : decide ((i : Int) < 64) = true := by simp; omega
          clear hi hm hsn hyd hy hz hkv hv hown cz hi0 hz0 hz1 hz2 hown9 hgr9 hM9 hMs hMz hZ o9 s9 hM hX
          gi_wp2
          refine wpIn_region_round (by kernel_rfl) (by rfl) (fun _ _ h => h) ?_
          have hS0 : wr.drew.cell? ⟨G, 0, none⟩ = some (.slice (some ⟨H + 1 + 1 + 1, 0, none⟩) m L) ∧ wr.drew.cell? ⟨H + 1 + 1, 0, none⟩ = some (.slice (some ⟨bb, oo, none⟩) L bc) ∧ wr.drew.cell? ⟨bb, oo + m, none⟩ = some (B y) := ⟨kG, kS, hcy⟩
          refine wpAny_of_U (S := fun W' => W'.cell? ⟨G, 0, none⟩ = some (.slice (some ⟨H + 1 + 1 + 1, 0, none⟩) m L) ∧ W'.cell? ⟨H + 1 + 1, 0, none⟩ = some (.slice (some ⟨bb, oo, none⟩) L bc) ∧ W'.cell? ⟨bb, oo + m, none⟩ = some (B y)) (k := 10) _ _ _ _ ?_
          refine wpAnyU_take (i := 0) (v := (.slice (some ⟨H + 1 + 1 + 1, 0, none⟩) m L)) rfl (by kernel_rfl) (by kernel_rfl) (by kernel_rfl) (by kernel_rfl) (by kernel_rfl) (fun _ _ _ h => h) (Or.inl ⟨by rfl, fun W hSw => by obtain ⟨s1, s2, s3⟩ := hSw; go_simp⟩) hS0 ?_
          try simp only [Act.put, List.getElem_toArray, List.getElem_cons_zero, List.setIfInBounds_toArray, List.set_cons_zero, List.set_cons_succ]
          refine wpAnyU_take (i := 1) (v := (.slice (some ⟨bb, oo, none⟩) L bc)) rfl (by kernel_rfl) (by kernel_rfl) (by kernel_rfl) (by kernel_rfl) (by kernel_rfl) (fun _ _ _ h => h) (Or.inl ⟨by rfl, fun W hSw => by obtain ⟨s1, s2, s3⟩ := hSw; go_simp⟩) hS0 ?_
          try simp only [Act.put, List.getElem_toArray, List.getElem_cons_zero, List.getElem_cons_succ, List.setIfInBounds_toArray, List.set_cons_zero, List.set_cons_succ]
          refine wpAnyU_take (i := 2) (v := (.slice (some ⟨H + 1 + 1 + 1, 0, none⟩) m L)) rfl (by kernel_rfl) (by kernel_rfl) (by kernel_rfl) (by kernel_rfl) (by kernel_rfl) (fun _ _ _ h => h) (Or.inl ⟨by rfl, fun W hSw => by obtain ⟨s1, s2, s3⟩ := hSw; go_simp⟩) hS0 ?_
          try simp only [Act.put, List.getElem_toArray, List.getElem_cons_zero, List.getElem_cons_succ, List.setIfInBounds_toArray, List.set_cons_zero, List.set_cons_succ]
          refine wpAnyU_takeP (i := 3) (v := .int .i64 m) rfl (by kernel_rfl) (by kernel_rfl) (by kernel_rfl) (by decide) (fun _ _ _ h => h) (Or.inl ⟨by rfl, fun W => by go_simp⟩) (fun _ => hS0) ?_
          try simp only [Act.put, List.getElem_toArray, List.getElem_cons_zero, List.getElem_cons_succ, List.setIfInBounds_toArray, List.set_cons_zero, List.set_cons_succ]
          refine wpAnyU_takeP (i := 4) (v := .pointer (some ⟨bb, oo + m, none⟩)) rfl (by kernel_rfl) (by kernel_rfl) (by kernel_rfl) (by decide) (fun _ _ _ h => h) (Or.inl ⟨by rfl, fun W => by go_simp⟩) (fun _ => hS0) ?_
          try simp only [Act.put, List.getElem_toArray, List.getElem_cons_zero, List.getElem_cons_succ, List.setIfInBounds_toArray, List.set_cons_zero, List.set_cons_succ]
          refine wpAnyU_take (i := 5) (v := B y) rfl (by kernel_rfl) (by kernel_rfl) (by kernel_rfl) (by kernel_rfl) (by kernel_rfl) (fun _ _ _ h => h) (Or.inl ⟨by rfl, fun W hSw => by obtain ⟨s1, s2, s3⟩ := hSw; go_simp⟩) hS0 ?_
          try simp only [Act.put, List.getElem_toArray, List.getElem_cons_zero, List.getElem_cons_succ, List.setIfInBounds_toArray, List.set_cons_zero, List.set_cons_succ]
          refine wpAnyU_takeP (i := 6) (v := B v) rfl (by kernel_rfl) (by kernel_rfl) (by kernel_rfl) (by decide) (fun _ _ _ h => h) (Or.inl ⟨by rfl, fun W => by go_simp⟩) (fun _ => hS0) ?_
          try simp only [Act.put, List.getElem_toArray, List.getElem_cons_zero, List.getElem_cons_succ, List.setIfInBounds_toArray, List.set_cons_zero, List.set_cons_succ]
          refine wpAnyU_takeP (i := 7) (v := B z) rfl (by kernel_rfl) (by kernel_rfl) (by kernel_rfl) (by decide) (fun _ _ _ h => h) (Or.inl ⟨by rfl, fun W => by go_simp⟩) (fun _ => hS0) ?_
          try simp only [Act.put, List.getElem_toArray, List.getElem_cons_zero, List.getElem_cons_succ, List.setIfInBounds_toArray, List.set_cons_zero, List.set_cons_succ]
          refine wpAnyU_one 8 _ (by kernel_rfl) rfl (fun K hK => ?_)
          go_simp
          refine hK.out _ _ (fun _ => ⟨kG8, kS8, hcy8⟩) ?_
          clear hK K
          try simp only [Act.put, List.setIfInBounds_toArray, List.set_cons_zero, List.set_cons_succ]
          refine wpAnyU_one 9 _ (by kernel_rfl) rfl (fun K hK => ?_)
          rw [if_pos (by rfl)]
          refine wp_append_run (.tmp 29) (.tmp 37) 40 40 rfl _ _ rfl rfl _ _ hrun9 ?_
          refine hK.out _ _ (fun _ => ⟨kG9, kS9, hcy9⟩) ?_
          clear hK K hrun9
          simp only [Act.put, List.getElem_toArray, List.getElem_cons_zero, List.getElem_cons_succ, List.setIfInBounds_toArray, List.set_cons_zero, List.set_cons_succ]
          refine wpAnyU_last (by kernel_rfl) (by simp) ?_
          refine wpAny_tail _ 10 _ _ _ (by kernel_rfl) ?_
          simp only [List.drop_succ_cons, List.drop_zero]
          clear hS0 kG kS hcy kG8 kS8 hcy8 hcy9
          go_wp2_with fail
          have kf := keepsFrom_mod (B := W2.heap.size) hMn (fun k hk => by rcases hk with h | h <;> omega)
          have kx : KX (fun k => k = G ∨ k = H + 1 + 1 + 1) _ _ := KX.of_mod hMn (fun k h => h)
          by_cases hfin : m + 1 = L
          · have hbq : (((m : Int) + 1) == (L : Int)) = true := by simp; omega
            have hXf : XorAt w H G L (.slice (some ⟨bb, oo, none⟩) L bc) b key nonce ctr L (w9.setCell ⟨G, 0, none⟩ (.slice (some ⟨H + 1 + 1 + 1, 0, none⟩) (m + 1) L)) := by rw [hfin] at hXn ⊢; exact hXn
            clear hMn hXn hfin
            gi_wp2
            exact ⟨kf, rfl, hXf⟩
          · have hbq : (((m : Int) + 1) == (L : Int)) = false := by simp; omega
            gi_wp2
            go_roundg (gk - 1)
            case measure => have := HI.out; omega
            case rel =>
              have e1 : 64 * j + (i + 1) = m + 1 := by have := HM.out; omega
              exact ⟨i + 1, by have := HI.out; omega, by go_num, by rw [e1]; omega, by rw [e1]; exact hXn, hMn⟩
        · obtain rfl : i = 64 := by omega
          have hd64 : decide (((64 : Nat) : Int) < 64) = false := by decide
          have kf := keepsFrom_mod (B := W2.heap.size) hM (fun k hk => by rcases hk with h | h <;> omega)
          have kx : KX (fun k => k = G ∨ k = H + 1 + 1 + 1) _ _ := KX.of_mod hM (fun k h => h)
          have e1 : 64 * j + 64 = 64 * (j + 1) := by omega
          rw [e1] at hX hiL
          have hzz := hM.size
          clear hM
          gi_wp2
          exact ⟨kf, kx, by rw [HLN.out]; exact hiL, Nat.le_trans hW hzz, by rw [HLN.out]; exact hX⟩
    case stop =>
      rintro D c pre W hD _ ⟨rfl, hX⟩ hK
      refine wpIn_wide.2 ?_
      have k9 := hX.out.cell 0
      simp at k9
      go_wp2_with fail
      rw [Exit.noGoto_ret]
      have hmD : Mod W (W.putObj D (.deferred none)) (· = D) := (Mod.refl W (· = D)).putObj (.inl rfl) _
      have hrow := owns_keep hX.row hmD (by omega)
      refine ⟨by simp, .inl ⟨_, _, rfl, run_takeDeferred hK, ?_⟩⟩
      refine ⟨.slice (some ⟨H + 1 + 1 + 1, 0, none⟩) L L, by simp [results, Tryz.f104, go_sem], _, rfl, ?_, hX.md.drop hmD (fun k (hk : k = D) => .inr (by omega))⟩
      have hxl : xorL key nonce ctr b = xorP key nonce ctr b L := by unfold xorL; rw [HL.out]
      rw [hxl, xorP_length]
      refine ⟨hrow.1, ?_⟩
      rcases hrow.2 with ⟨h0, _⟩ | ⟨g, cap, cur, h0, h1, h2⟩
      · cases h0
      · exact .inr ⟨g, cap, cur, h0, by omega, h2⟩

end Go.Proofs.YtaeociedjdgdfaaGreatDoor
