/- The helper Spoil: bytes of one's own are turned. No condition. -/
import Derived.Test.YtbpdmncobeiinaaPj
namespace Go.Proofs.Ytbpdmncobeiinaa
open Go.RowKit

theorem spoil_val (y : UInt8) : bits BinOp.xor IntKind.u8 (y.toNat : Int) 85 = ((y ^^^ 85).toNat : Int) := by
  have h : ∀ n : Fin 256, bits BinOp.xor IntKind.u8 ((n.val : Nat) : Int) 85 = (((UInt8.ofNat n.val) ^^^ 85).toNat : Int) := by decide +kernel
  have h2 := h ⟨y.toNat, y.toNat_lt⟩
  simpa using h2

set_option maxRecDepth 100000 in
set_option maxHeartbeats 1000000 in
theorem spoil_own (base n : Nat) (v : Value) (l : List UInt8) (w : World) (h : w.ownsRow base 5 1 v n (l.map B)) :
    Calls Try.prog 28 #[v] w fun e w' => e = .returned (.tuple #[]) ∧ Mod w w' (inBlock v) := by
  obtain ⟨a, c, rfl, hnc, hcm⟩ := owns_form h
  unfold maxLen at hcm
  go_enter Try.func28, Try.ntmps28
  go_wp2_with fail
  go_loopw [2] (fun i wr => ∃ k : Nat, k ≤ n ∧ i = .int .i64 k ∧ ∃ l' : List UInt8, wr.ownsRow base 5 1 (.slice a n c) n (l'.map B) ∧ Mod w wr (inBlock (.slice a n c))) (fun i _ => n - (intOf i).toNat)
  case atStart => exact ⟨0, Nat.zero_le _, rfl, l, h, Mod.refl _ _⟩
  case round =>
    obtain ⟨k, hk, rfl, l', hown, hm⟩ := hrel
    clear h
    by_cases hlt : k < n
    · have hll : l'.length = n := by have := hown.1; simpa using this
      obtain ⟨y, hy⟩ : ∃ y, l'[k]? = some y := ⟨_, List.getElem?_eq_getElem (by omega)⟩
      obtain ⟨g, rfl⟩ : ∃ g, a = some ⟨g, 0, none⟩ := by
        rcases hown.2 with ⟨_, h0⟩ | ⟨g, cap', cur, h0, _⟩
        · omega
        · cases h0; exact ⟨g, rfl⟩
      have hcell := own_cell hown k (B y) (by rw [List.getElem?_map, hy]; rfl)
      have hfree := owns_open2 hown k
      unfold B at hcell
      have hx := spoil_val y
      obtain ⟨z, hz⟩ : ∃ z, y ^^^ 85 = z := ⟨_, rfl⟩
      rw [hz] at hx
      have hset := owns_setN hown k (.int .u8 (z.toNat : Int))
      have hmap : (l'.map B).set k (.int .u8 (z.toNat : Int)) = (l'.set k z).map B := by rw [List.map_set]; rfl
      rw [hmap] at hset
      have HS := Lib.hid hset
      have m2 := hm.setCell (p := ⟨g, k, none⟩) (.inl (by simp [inBlock, Value.ownBlock])) (.int .u8 (z.toNat : Int))
      clear hset hmap hz hy hll hown
      go_wp2_with fail
      exact ⟨⟨k + 1, by omega, by go_num, _, HS.out, m2⟩, by simp [intOf]; omega⟩
    · obtain rfl : k = n := by omega
      go_wp2_with fail
      go_end0
      exact ⟨rfl, hm⟩

end Go.Proofs.Ytbpdmncobeiinaa
