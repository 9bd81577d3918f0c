/- A key out of a secret, for some end: hkdf.Key. The condition: the salt has at most 64 bytes, the secret fewer than 2^37, the end fewer than 2^36. -/
import Derived.Test.YtakgnkjopbflbaaGreatDoorCr
namespace Go.Proofs.YtakgnkjopbflbaaGreatDoor
open Go.RowKit Go.Shelf

/-- A key for some end. -/
def keyL (salt key info : List UInt8) : List UInt8 := macL (macL salt key) (info ++ [1])
theorem keyL_length (salt key info : List UInt8) : (keyL salt key info).length = 32 := macL_length _ _

set_option maxRecDepth 100000 in
set_option maxHeartbeats 1000000 in
theorem key_any (sv kv : Value) (salt key info : List UInt8) (ia : Option Addr) (ic : Nat) (w : World) (hs : BytesAt w sv salt) (hk : BytesAt w kv key) (h1 : salt.length ≤ 64) (h2 : key.length ≤ 137438953472)
    (hi : info.length ≤ 68719476736) (hb : BytesAt w (.slice ia info.length ic) info) (hf : ∀ k, inBlock (.slice ia info.length ic) k → k < w.heap.size) :
    Calls Tryz.prog 76 #[sv, kv, .slice ia info.length ic] w fun e w' => e = .returned (.agg (arrB (keyL salt key info))) ∧ Mod w w' Nob := by
  obtain ⟨sa, sc, rfl, _, _⟩ := hs.form
  obtain ⟨ka, kc, rfl, _, _⟩ := hk.form
  rw [List.length_map] at hs hk ⊢
  rw [List.length_map]
  have m0 := (Mod.refl w Nob).alloc (.cells (arrB (List.replicate 32 0)) 22)
  have c6 := CellsAt.new w (arrB (List.replicate 32 0)) 22
  obtain ⟨inn, hin⟩ : ∃ inn, info.length = inn := ⟨_, rfl⟩
  obtain ⟨kn, hkn⟩ : ∃ kn, key.length = kn := ⟨_, rfl⟩
  obtain ⟨sn, hsn⟩ : ∃ sn, salt.length = sn := ⟨_, rfl⟩
  have hex := extract_any (.slice sa sn sc) (.slice ka kn kc) salt key _ (by rw [← hsn]; exact hs.mod m0 (fun _ _ => nob)) (by rw [← hkn]; exact hk.mod m0 (fun _ _ => nob)) h1 h2
  rw [hin] at hb hf hi ⊢
  rw [hkn, hsn]
  have HIN := Lib.hid hin
  have hml := macL_length salt key
  obtain ⟨mk, hmk⟩ : ∃ mk, macL salt key = mk := ⟨_, rfl⟩
  rw [hmk] at hex hml
  have HMK := Lib.hid hmk
  obtain ⟨out, ho⟩ : ∃ out, keyL salt key info = out := ⟨_, rfl⟩
  have hol : out.length = 32 := by rw [← ho]; exact keyL_length _ _ _
  rw [ho]
  have HOK := Lib.hid ho
  clear hin hkn hsn hs hk h1 h2 hmk ho
  go_enter Tryz.func76, Tryz.ntmps76
  go_wp2_with fail
  change Calls _ _ _ (w.alloc (.cells (arrB (List.replicate 32 0)) 22)) _
  refine hex.mono ?_
  rintro e W2 ⟨rfl, m1⟩
  replace m0 := m0.trans m1
  replace c6 := c6.mod m1 nob
  have hb2 := hb.mod m0 (fun _ _ => nob)
  have hz := m0.size
  clear m1 hex
  go_wp2_with fail
  have hx := expand_any mk info ia ic W2 hml (by rw [HIN.out]; exact hi) (by rw [HIN.out]; exact hb2) (by rw [HIN.out]; exact fun k hk2 => Nat.lt_of_lt_of_le (hf k hk2) hz)
  rw [HIN.out] at hx
  refine hx.mono ?_
  rintro e W3 ⟨g, rfl, hg, hbo, m2⟩
  have hout : macL mk (info ++ [1]) = out := by rw [← HOK.out]; unfold keyL; rw [HMK.out]
  rw [hout] at hbo
  replace m0 := m0.trans m2
  replace c6 := c6.mod m2 nob
  have hcells : ∀ (j : Nat) v, (out.map B)[j]? = some v → W3.cell? ⟨g, j, none⟩ = some v := fun j v hv => by
    obtain ⟨b, o, h5, h6⟩ := row_at hbo j v hv
    cases h5
    rwa [Nat.zero_add] at h6
  have hto := run_toArray (P := Tryz.prog) 22 32 5 (some ⟨g, 0, none⟩) 32 32 Tryz.underlying22 (Nat.le_refl _)
  obtain ⟨H, hH⟩ : ∃ H, w.heap.size = H := ⟨_, rfl⟩
  rw [hH] at c6 ⊢
  have HH := Lib.hid hH
  clear hx m2 hbo hH hout hb2 hb hf
  go_wp2_with (first
    | (refine wpList_load_cells rfl 22 _ rfl g 0 32 5 rfl (out.map B) Tryz.underlying22 size_b32 (by rw [List.length_map, hol]) (fun j v hv => by rw [Nat.zero_add]; exact hcells j v hv) ?_)
    | (refine wpList_store_arr rfl 22 _ _ rfl H 32 (arrB out) (arrB (List.replicate 32 0)) rfl rfl c6 size_b32 (by rw [arrB_size, hol]) (by rw [arrB_size]; rfl) (arrB_one _) ?_))
  exact bodyPost_ret (v := .agg (arrB out)) (ret_arr rfl _ _ H 32 5 _ rfl (c6.setRow _) Tryz.underlying22 size_b32 (by rw [arrB_size, hol])) rfl ⟨rfl, m0.setRow (.inr (by have := HH.out; omega)) _⟩

end Go.Proofs.YtakgnkjopbflbaaGreatDoor
