/- Keys out of keys: hkdf.Extract. The condition: the salt has at most 64 bytes, the key fewer than 2^37. -/
import Derived.Test.YtakgnkjopbflbaaGreatDoorCo
import Derived.Test.YtakgnkjopbflbaaGreatDoorBg
namespace Go.Proofs.YtakgnkjopbflbaaGreatDoor
open Go.RowKit Go.Shelf
attribute [local go_sem] Oper.semAt_some

theorem size_b32 : (Tryz.prog.info? 22).map (·.size) = some 32 := by kernel_rfl
/-- An array of so many bytes. -/
def arrB (l : List UInt8) : Array Value := (l.map B).toArray
theorem arrB_size (l : List UInt8) : (arrB l).size = l.length := by simp [arrB]
theorem arrB_one (l : List UInt8) : (arrB l).all (·.oneCell') = true := by simp [arrB, B, Value.oneCell']
/-- One row of bytes. -/
theorem rows_one {w : World} {b : Nat} {v : Value} {l : List UInt8} (h : BytesAt w v l) (hc : CellsAt w b #[v] 43) : RowsAt w (.slice (some ⟨b, 0, none⟩) 1 1) [l] := by
  refine ⟨[v], .inr ⟨b, 0, 1, rfl, hc.lt, Nat.le_refl _, by unfold maxLen; omega, fun i u hi => ?_⟩, rfl, fun i u l' hu hl => ?_⟩
  · rw [Nat.zero_add, hc.cell i]
    simpa using hi
  · match i, hu, hl with
    | 0, hu, hl => cases hu; cases hl; exact h
    | (i + 1), hu, hl => cases hu

set_option maxRecDepth 100000 in
set_option maxHeartbeats 1000000 in
theorem extract_any (sv kv : Value) (salt key : List UInt8) (w : World) (hs : BytesAt w sv salt) (hk : BytesAt w kv key) (h1 : salt.length ≤ 64) (h2 : key.length ≤ 137438953472) :
    Calls Tryz.prog 111 #[sv, kv] w fun e w' => e = .returned (.agg (arrB (macL salt key))) ∧ Mod w w' Nob := by
  obtain ⟨sa, sc, rfl, _, _⟩ := hs.form
  obtain ⟨ka, kc, rfl, _, _⟩ := hk.form
  rw [List.length_map] at hs hk ⊢
  rw [List.length_map]
  have m0 := (Mod.refl w Nob).alloc (.cells (arrB (List.replicate 32 0)) 22)
  have m1 := m0.alloc (.cells #[.slice ka key.length kc] 43)
  have c4 := (CellsAt.new w (arrB (List.replicate 32 0)) 22).alloc (.cells #[.slice ka key.length kc] 43)
  have cR := CellsAt.new (w.alloc (.cells (arrB (List.replicate 32 0)) 22)) #[.slice ka key.length kc] 43
  have hmac := mac_any (.slice sa salt.length sc) _ salt [key] _ (hs.mod m1 (fun _ _ => nob)) h1 (rows_one (hk.mod m1 (fun _ _ => nob)) cR) (by simpa [total] using h2) (by simp) (by simp)
  rw [World.size_alloc] at hmac
  have hfl : [key].flatten = key := by simp
  rw [hfl] at hmac
  have hml := macL_length salt key
  obtain ⟨out, hout⟩ : ∃ out, macL salt key = out := ⟨_, rfl⟩
  rw [hout] at hml hmac ⊢
  obtain ⟨kn, hkn⟩ : ∃ kn, key.length = kn := ⟨_, rfl⟩
  obtain ⟨sn, hsn⟩ : ∃ sn, salt.length = sn := ⟨_, rfl⟩
  rw [hkn] at c4 m1 hmac ⊢
  rw [hsn] at hmac ⊢
  clear hout hfl cR hs hk hkn hsn h1 h2
  go_enter Tryz.func111, Tryz.ntmps111
  go_wp2_with fail
  change Calls _ _ _ ((w.alloc (.cells (arrB (List.replicate 32 0)) 22)).alloc (.cells #[.slice ka kn kc] 43)) _
  refine hmac.mono ?_
  rintro e w3 ⟨rfl, m3⟩
  replace m1 := m1.trans m3
  replace c4 := c4.mod m3 nob
  obtain ⟨H, hH⟩ : ∃ H, w.heap.size = H := ⟨_, rfl⟩
  rw [hH] at c4 ⊢
  have HH := Lib.hid hH
  clear m3 hmac hH m0
  go_wp2_with (first
    | (refine wpList_store_arr rfl 22 _ _ rfl H 32 (arrB out) (arrB (List.replicate 32 0)) rfl rfl c4 size_b32 (by rw [arrB_size, hml]) (by rw [arrB_size]; rfl) (arrB_one _) ?_))
  exact bodyPost_ret (v := .agg (arrB out)) (ret_arr rfl _ _ H 32 5 _ rfl (c4.setRow _) Tryz.underlying22 size_b32 (by rw [arrB_size, hml])) rfl ⟨rfl, m1.setRow (.inr (by have := HH.out; omega)) _⟩

end Go.Proofs.YtakgnkjopbflbaaGreatDoor
