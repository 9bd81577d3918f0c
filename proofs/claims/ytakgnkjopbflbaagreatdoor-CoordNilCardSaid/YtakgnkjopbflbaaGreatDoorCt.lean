/- A nonce of two numbers: keys.Nonce. The condition: the second is a length. -/
import Derived.Test.YtakgnkjopbflbaaGreatDoorCs
namespace Go.Proofs.YtakgnkjopbflbaaGreatDoor
open Go.RowKit Go.Shelf

theorem size_b12 : (Tryz.prog.info? 161).map (·.size) = some 12 := by kernel_rfl
/-- A nonce. -/
def nonceL (a i : Nat) : List UInt8 := leB 8 a ++ leB 4 i
theorem nonceL_length (a i : Nat) : (nonceL a i).length = 12 := by simp [nonceL, leB_length]

set_option maxRecDepth 100000 in
set_option maxHeartbeats 1000000 in
theorem nonce_any (a i : Nat) (w : World) (hi : i ≤ 1099511627776) :
    Calls Tryz.prog 82 #[.int .u64 a, .int .i64 i] w fun e w' => e = .returned (.agg (arrB (nonceL a i))) ∧ Mod w w' Nob := by
  have m0 := ((Mod.refl w Nob).alloc (.cells (arrB (List.replicate 12 0)) 161)).alloc (.cells #[.int .u64 (a : Int)] 41)
  have c4 := (CellsAt.new w (arrB (List.replicate 12 0)) 161).alloc (.cells #[.int .u64 (a : Int)] 41)
  have cR := CellsAt.new (w.alloc (.cells (arrB (List.replicate 12 0)) 161)) #[.int .u64 (a : Int)] 41
  rw [World.size_alloc] at cR
  have hrow : RowIn ((w.alloc (.cells (arrB (List.replicate 12 0)) 161)).alloc (.cells #[.int .u64 (a : Int)] 41)) (.slice (some ⟨w.heap.size + 1, 0, none⟩) 1 1) ([a].map U64) :=
    .inl (.inr ⟨_, 0, 1, rfl, cR.lt, Nat.le_refl _, by unfold maxLen; omega, fun j u hu => by rw [Nat.zero_add, cR.cell j]; simpa [U64] using hu⟩)
  have hei := eights_any _ [a] _ hrow (by simp)
  have hc : IntKind.u64.wrap (i : Int) = (i : Int) := u64_wrap_id _ (by omega) (by omega)
  have hol := nonceL_length a i
  obtain ⟨out, ho⟩ : ∃ out, nonceL a i = out := ⟨_, rfl⟩
  rw [ho] at hol ⊢
  have HO := Lib.hid ho
  clear ho cR hrow
  go_enter Tryz.func82, Tryz.ntmps82
  go_wp2_with fail
  change Calls _ _ _ ((w.alloc (.cells (arrB (List.replicate 12 0)) 161)).alloc (.cells #[.int .u64 (a : Int)] 41)) _
  refine hei.mono ?_
  rintro e W2 ⟨a2, k2, rfl, hown, m1⟩
  replace m0 := m0.trans m1
  replace c4 := c4.mod m1 nob
  obtain ⟨W1, hW1⟩ : ∃ W1, (w.alloc (.cells (arrB (List.replicate 12 0)) 161)).alloc (.cells #[.int .u64 (a : Int)] 41) = W1 := ⟨_, rfl⟩
  have c1l : w.heap.size < W1.heap.size := by rw [← hW1]; simp; omega
  rw [hW1] at hown m1
  have hz := m1.size
  clear hei m1 hW1
  change W2.ownsRow W1.heap.size 5 1 (.slice a2 8 k2) 8 ((eightsL [a]).map B) at hown
  go_wp2_with fail
  refine (putlow_any W1.heap.size 8 a2 k2 (eightsL [a]) i 4 W2 hown (by omega) (by omega) hz).mono ?_
  rintro e W3 ⟨a3, k3, rfl, hown3, m3, _⟩
  have hout : eightsL [a] ++ leB 4 i = out := by rw [← HO.out]; simp [nonceL, eightsL]
  rw [hout] at hown3
  change W3.ownsRow W1.heap.size 5 1 (.slice a3 12 k3) 12 (out.map B) at hown3
  obtain ⟨g, rfl⟩ : ∃ g, a3 = some ⟨g, 0, none⟩ := by
    rcases hown3.2 with ⟨_, h0⟩ | ⟨g, cap', cur, h0, _⟩
    · omega
    · cases h0; exact ⟨g, rfl⟩
  have hcells := own_cell hown3
  have hW1z : w.heap.size < W1.heap.size := c1l
  replace m0 := m0.drop m3 (fun k hk => .inr (by have := (hown.lt k hk).1; omega))
  replace c4 := c4.mod m3 (fun hk => by have := (hown.lt _ hk).1; omega)
  have hto := run_toArray (P := Tryz.prog) 161 12 5 (some ⟨g, 0, none⟩) 12 k3 Tryz.underlying161 (Nat.le_refl _)
  obtain ⟨H, hH⟩ : ∃ H, w.heap.size = H := ⟨_, rfl⟩
  rw [hH] at c4 ⊢
  have HH := Lib.hid hH
  clear hH hout hown hown3 m3
  go_wp2_with (first
    | (refine wpList_load_cells rfl 161 _ rfl g 0 12 5 rfl (out.map B) Tryz.underlying161 size_b12 (by rw [List.length_map, hol]) (fun j v hv => by rw [Nat.zero_add]; exact hcells j v hv) ?_)
    | (refine wpList_store_arr rfl 161 _ _ rfl H 12 (arrB out) (arrB (List.replicate 12 0)) rfl rfl c4 size_b12 (by rw [arrB_size, hol]) (by rw [arrB_size]; rfl) (arrB_one _) ?_))
  exact bodyPost_ret (v := .agg (arrB out)) (ret_arr rfl _ _ H 12 5 _ rfl (c4.setRow _) Tryz.underlying161 size_b12 (by rw [arrB_size, hol])) rfl ⟨rfl, m0.setRow (.inr (by have := HH.out; omega)) _⟩

end Go.Proofs.YtakgnkjopbflbaaGreatDoor
