/- What is sealed: aead.Seal. The conditions: a key of 32 bytes, a nonce of 12, at most 65536 bytes each. -/
import Derived.Test.YtaeociedjdgdfaaDoorDk
namespace Go.Proofs.YtaeociedjdgdfaaDoor
open Go.RowKit Go.Shelf
set_option linter.unusedSimpArgs false

/-- What is sealed. -/
def sealL (key nonce aad plain : List UInt8) : List UInt8 := xorL key nonce 1 plain ++ tagL key nonce aad (xorL key nonce 1 plain)
theorem sealL_length (key nonce aad plain : List UInt8) : (sealL key nonce aad plain).length = plain.length + 16 := by
  unfold sealL
  rw [List.length_append, xorL_length, tagL_length]

theorem owns_down {w : World} {b b' : Nat} {e : TypeId} {size : Nat} {v : Value} {n : Nat} {xs : List Value} (h : w.ownsRow b e size v n xs) (hb : b' ≤ b) : w.ownsRow b' e size v n xs := by
  refine ⟨h.1, ?_⟩
  rcases h.2 with h2 | ⟨g, cap, cur, h1, h4, h3⟩
  · exact .inl h2
  · exact .inr ⟨g, cap, cur, h1, Nat.le_trans hb h4, h3⟩

set_option maxRecDepth 100000 in
set_option maxHeartbeats 2000000 in
theorem seal_any (key nonce aad plain : List UInt8) (sa sp : Sc) (w : World) (hk : key.length = 32) (hn : nonce.length = 12) (ha : BytesAt w (scv sa) aad) (hp : BytesAt w (scv sp) plain) (hal : aad.length ≤ 65536) (hpl : plain.length ≤ 65536)
    (hfa : ∀ k, inBlock (scv sa) k → k < w.heap.size) (hfp : ∀ k, inBlock (scv sp) k → k < w.heap.size) :
    Calls Tryd.prog 44 #[.agg (arrB key), .agg (arrB nonce), scv sa, scv sp] w fun e w' => ∃ v, e = .returned (.tuple #[v, .int .i64 0]) ∧ w'.ownsRow w.heap.size 5 1 v (plain.length + 16) ((sealL key nonce aad plain).map B) ∧ Mod w w' Nob := by
  obtain ⟨aa, an, ac⟩ := sa
  obtain ⟨pa, pn, pc⟩ := sp
  dsimp only [scv] at *
  have han : aad.length = an := by
    obtain ⟨a', c', hf, _⟩ := ha.form
    rw [List.length_map] at hf
    cases hf
    rfl
  have hpn : plain.length = pn := by
    obtain ⟨a', c', hf, _⟩ := hp.form
    rw [List.length_map] at hf
    cases hf
    rfl
  have m0 := ((Mod.refl w Nob).alloc (.cells (arrB key) 22)).alloc (.cells (arrB nonce) 88)
  have cK := (CellsAt.new w (arrB key) 22).alloc (.cells (arrB nonce) 88)
  have cN := CellsAt.new (w.alloc (.cells (arrB key) 22)) (arrB nonce) 88
  rw [World.size_alloc] at cN
  have hks : (arrB key).size = 32 := by rw [arrB_size, hk]
  have hns : (arrB nonce).size = 12 := by rw [arrB_size, hn]
  have hd1 : decide ((an : Int) > 65536) = false := by simp; omega
  have hd2 : decide ((pn : Int) > 65536) = false := by simp; omega
  have hd3 : decide (65536 < (an : Int)) = false := by simp; omega
  have hd4 : decide (65536 < (pn : Int)) = false := by simp; omega
  have hz0 : ((w.alloc (.cells (arrB key) 22)).alloc (.cells (arrB nonce) 88)).heap.size = w.heap.size + 2 := by simp
  have hx := xor_any key nonce plain 1 pa pc ((w.alloc (.cells (arrB key) 22)).alloc (.cells (arrB nonce) 88)) hk hn (by omega) (by rw [hpn]; exact hp.mod m0 (fun _ _ => nob)) (by rw [hpn]; exact fun k hk => by have := hfp k hk; omega)
  rw [hpn] at hx
  change Calls _ _ #[_, _, .int .u32 1, _] _ _ at hx
  go_enter Tryd.func44, Tryd.ntmps44
  go_wp2_with (first
    | (refine wpList_load_arr rfl 22 _ rfl w.heap.size 32 5 rfl (arrB key) (by exact cK) Tryd.underlying22 size_b32 hks ?_)
    | (refine wpList_load_arr rfl 88 _ rfl (w.heap.size + 1) 12 5 rfl (arrB nonce) (by exact cN) Tryd.underlying88 size_b12 hns ?_))
  change Calls _ _ _ ((w.alloc (.cells (arrB key) 22)).alloc (.cells (arrB nonce) 88)) _
  refine hx.mono ?_
  rintro e W2 ⟨vx, rfl, hown, m1⟩
  have hxl := xorL_length key nonce 1 plain
  rw [hz0] at hown
  have hT := tag_any key nonce aad (xorL key nonce 1 plain) (aa, an, ac)
  have hse : Box (sealL key nonce aad plain = xorL key nonce 1 plain ++ tagL key nonce aad (xorL key nonce 1 plain)) := ⟨rfl⟩
  have htl := tagL_length key nonce aad (xorL key nonce 1 plain)
  obtain ⟨x, hxx⟩ : ∃ x, xorL key nonce 1 plain = x := ⟨_, rfl⟩
  rw [hxx] at hown hxl hT hse htl
  obtain ⟨tg, htg⟩ : ∃ y, tagL key nonce aad x = y := ⟨_, rfl⟩
  rw [htg] at hT hse htl
  rw [hxl, hpn] at hown
  obtain ⟨xa, xc, rfl, hxc, hxm⟩ := owns_form hown
  replace hown := owns_down (b' := w.heap.size) hown (by omega)
  replace cK := cK.mod m1 nob
  replace cN := cN.mod m1 nob
  replace m0 := m0.trans m1
  have hbx : BytesAt W2 (.slice xa pn xc) x := BytesAt.of_owns hown
  replace hT := hT (xa, pn, xc) W2 hk hn (ha.mod m0 (fun _ _ => nob)) hbx (by omega) (by omega) (fun k hk => by have := hfa k hk; have := m0.size; omega) (fun k hk => (hown.lt k hk).2)
  dsimp only [scv] at hT
  have hz2 := m0.size
  clear hx m1 hd1 hd2 hd3 hd4 hxx htg ha hp
  go_wp2_with (first
    | (refine wpList_load_arr rfl 22 _ rfl w.heap.size 32 5 rfl (arrB key) (by exact cK) Tryd.underlying22 size_b32 hks ?_)
    | (refine wpList_load_arr rfl 88 _ rfl (w.heap.size + 1) 12 5 rfl (arrB nonce) (by exact cN) Tryd.underlying88 size_b12 hns ?_))
  refine hT.mono ?_
  rintro e W3 ⟨rfl, m2⟩
  have hts : (arrB tg).size = 16 := by rw [arrB_size, htl]
  have hown3 := owns_mod hown m2 (fun _ _ => nob)
  replace m0 := m0.trans m2
  have hA := ((Mod.refl W3 Nob).alloc (.cells (arrB (List.replicate 16 0)) 107)).setRow (g := W3.heap.size) (.inr (Nat.le_refl _)) (arrB tg)
  have cT := (CellsAt.new W3 (arrB (List.replicate 16 0)) 107).setRow (arrB tg)
  have hown4 := owns_mod hown3 hA (fun _ _ => nob)
  have hbt : BytesAt ((W3.alloc (.cells (arrB (List.replicate 16 0)) 107)).setRow W3.heap.size (arrB tg)) (.slice (some ⟨W3.heap.size, 0, none⟩) 16 16) tg := bytes_block cT htl (by omega)
  have hz3 := m2.size
  have hzA := hA.size
  obtain ⟨i0, hi, hi0, hi1, hi2⟩ := info_parts info_u8
  rw [← zeros16b] at hown4 hbt hA hzA
  clear hT hown m2 hown3 cK cN cT
  go_wp2_with (first
    | (refine wpList_store_arr rfl 107 _ _ rfl W3.heap.size 16 (arrB tg) (arrB (List.replicate 16 0)) rfl rfl (by exact CellsAt.new W3 (arrB (List.replicate 16 0)) 107) size_b16 hts (by rw [arrB_size]; rfl) (arrB_one _) ?_)
    | (at_builtin; refine wpList_append_row _ rfl _ _ 71 rfl w.heap.size 5 i0 _ 1 Tryd.underlying71 hi hi0 hi1 hi2 rfl _ _ _ rfl hown4 _ (tg.map B) rfl hbt (bytes_one _) (by rw [List.length_map, htl]; unfold maxLen; omega) (by rw [List.length_map, htl]; omega) (by omega) ?_))
  intro v4 W4 hown5 hgr _ _
  have hmf := (m0.trans hA).grown hgr (fun k hk => .inr (hown4.lt k hk).1)
  rw [← List.map_append, ← hse.out] at hown5
  clear hA hown4 hbt hgr hzA m0 hi hi0 hi1 hi2
  go_wp2_with fail
  rw [hpn]
  exact bodyPost_ret (v := .tuple #[v4, .int .i64 0]) (by simp [results, Tryd.f44, go_sem]) rfl ⟨v4, rfl, hown5, hmf⟩

end Go.Proofs.YtaeociedjdgdfaaDoor
