/- What stands behind a message: sha.Pad; the constants: sha.Words. The condition: fewer than 2^40 bytes. -/
import Derived.Test.YtakgnkjopbflbaaGreatDoorCh
namespace Go.Proofs.YtakgnkjopbflbaaGreatDoor
open Go.RowKit

theorem zeroCells_u8 (n : Nat) : (Builtin.zeroCells (Value.int IntKind.u8 0).cells n).toList = List.replicate n (Value.int IntKind.u8 0) := by
  apply List.ext_getElem?
  intro i
  simp only [Builtin.zeroCells, Value.cells, Array.toList_map, List.getElem?_map, List.getElem?_replicate]
  by_cases h : i < n
  · simp [h, Nat.mod_one]
  · simp [h]

theorem next_pad (k : Nat) (hk : k ≤ 64) : Builtin.nextslicecap (1 + k) 1 ≤ 65 := by
  unfold Builtin.nextslicecap
  split
  · omega
  · simp

/-- A byte, and zeros behind it. -/
theorem run_pad (k : Nat) (w : World) (g base : Nat) (h : CellsAt w g #[.int .u8 128] 5) (hb : base ≤ g) (hk : k ≤ 64) : ∃ v' w', (Builtin.append_ #[43, 3] 43 #[.slice (some ⟨g, 0, none⟩) 1 1, .int .i64 (k : Int)]).run Tryz.prog w = .ok v' w' ∧
    w'.ownsRow base 5 1 v' (1 + k) (((128 : UInt8) :: List.replicate k 0).map B) ∧ Mod w w' Nob := by
  obtain ⟨i0, hi, hz0, hz1, hz2⟩ := info_parts info_u8
  have hold : (Builtin.firstCells i0.size 1 (.slice (some ⟨g, 0, none⟩) 1 1)).run Tryz.prog w.drew = .ok [Value.int .u8 128].toArray w.drew := by
    rw [hz1]
    exact run_loadCells_list (P := Tryz.prog) w.drew ⟨g, 0, none⟩ [.int .u8 128] (fun j v hv => by
      have hadd : (⟨g, 0, none⟩ : Addr).add j = ⟨g, j, none⟩ := by unfold Addr.add; split <;> simp_all
      rw [hadd, (h.mod (Mod.refl w Nob).drew nob).cell j]
      simpa using hv)
  by_cases h0 : k = 0
  · subst h0
    refine ⟨.slice (some ⟨g, 0, none⟩) 1 1, w, ?_, ⟨by simp, .inr ⟨g, 1, _, rfl, hb, h, Nat.le_refl _, by unfold maxLen; omega, rfl, rfl⟩⟩, Mod.refl _ _⟩
    have hw : IntKind.i64.wrap 0 = 0 := by decide
    simp [Builtin.append_, run_underlying Tryz.underlying43, run_underlying Tryz.underlying3, sizeOf, typeInfo, hi, asInt, asIntOf, hw, storeCells]
  · have hrun := Lib.run_append_grow_zeros (P := Tryz.prog) w 43 3 43 5 i0 (.int .u8 0) .i64 .i64 Tryz.underlying43 Tryz.underlying3 hi hz0 (some ⟨g, 0, none⟩) 1 1 [.int .u8 128] hold k (by omega) (by omega) (by omega) (by omega) (by rw [hz2]; omega) (by rw [hz2]; have := next_pad k hk; omega)
    have hge := grownCap_ge w (1 + k) 1 5
    have hle := grownCap_le_maxLen w (1 + k) 1 5 (by unfold maxLen; omega)
    refine ⟨_, _, hrun, ⟨by simp; omega, .inr ⟨w.heap.size, _, _, rfl, ?_, (CellsAt.new w.drew _ 5), hge, hle, ?_, ?_⟩⟩, (Mod.refl w Nob).drew.alloc _⟩
    · exact Nat.le_trans hb (Nat.le_of_lt h.lt)
    · have e : ∀ m, (Builtin.zeroCells (Value.int IntKind.u8 0).cells m).size = m := fun m => by rw [← Array.length_toList, zeroCells_u8]; simp
      rw [Array.size_append, Array.size_append, e, e]
      simp
      omega
    · rw [Array.toList_append, Array.toList_append, zeroCells_u8, zeroCells_u8, List.take_append_of_le_length (by simp; omega), List.take_of_length_le (by simp; omega)]
      simp [B]

/-- What stands behind a message of so many bytes. -/
def padL (n : Nat) : List UInt8 := (128 : UInt8) :: List.replicate ((119 - n % 64) % 64) 0 ++ beB 8 (n * 8)
theorem padL_length (n : Nat) : (padL n).length = 9 + (119 - n % 64) % 64 := by simp [padL, beB_length]; omega

set_option maxRecDepth 100000 in
set_option maxHeartbeats 1000000 in
theorem pad_any (n : Nat) (w : World) (hn : n ≤ 1099511627776) :
    Calls Tryz.prog 163 #[.int .i64 n] w fun e w' => ∃ a c, e = .returned (.slice a (padL n).length c) ∧ w'.ownsRow w.heap.size 5 1 (.slice a (padL n).length c) (padL n).length ((padL n).map B) ∧ Mod w w' Nob := by
  obtain ⟨k, hk⟩ : ∃ k, (119 - n % 64) % 64 = k := ⟨_, rfl⟩
  have hk64 : k ≤ 63 := by omega
  have hki : (119 - (n : Int) % 64) % 64 = (k : Int) := by omega
  obtain ⟨v', w', hrun, hown, hm⟩ := run_pad k (w.alloc (.cells #[.int .u8 128] 5)) w.heap.size w.heap.size (CellsAt.new w _ _) (Nat.le_refl _) (by omega)
  obtain ⟨a1, c1, rfl, _⟩ := owns_form hown
  rw [← hki] at hrun
  clear hki
  have hpl : padL n = (128 : UInt8) :: List.replicate k 0 ++ beB 8 (n * 8) := by unfold padL; rw [hk]
  have hlen : (padL n).length = 1 + k + 8 := by rw [padL_length, hk]; omega
  have HP := Lib.hid hpl
  rw [hlen]
  clear hpl hlen hk
  have hx8 : IntKind.u64.wrap ((n : Int) * 8) = ((n * 8 : Nat) : Int) := by rw [u64_wrap_id _ (by omega) (by omega)]; simp
  have hx : IntKind.u64.wrap (n : Int) = (n : Int) := u64_wrap_id _ (by omega) (by omega)
  go_enter Tryz.func163, Tryz.ntmps163
  go_wp2_with (at_builtin; refine wpList_append_run _ rfl _ _ _ _ rfl _ _ rfl rfl _ _ hrun ?_)
  refine (puthigh_any w.heap.size (1 + k) a1 c1 _ (n * 8) 8 w' hown (by omega) (by omega) (Nat.le_trans (by simp) hm.size)).mono ?_
  rintro e w3 ⟨a3, c3, rfl, hown3, hm3, _⟩
  go_wp2_with fail
  go_ret
  refine ⟨a3, c3, rfl, by rw [HP.out]; exact hown3, (((Mod.refl w Nob).alloc _).trans hm).drop hm3 (fun j hj => .inr (hown.lt j hj).1)⟩

end Go.Proofs.YtakgnkjopbflbaaGreatDoor
