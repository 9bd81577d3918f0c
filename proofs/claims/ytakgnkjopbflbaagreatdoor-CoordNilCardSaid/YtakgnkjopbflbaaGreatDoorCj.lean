/- The constants: sha.Words. No condition. -/
import Derived.Test.YtakgnkjopbflbaaGreatDoorCi
namespace Go.Proofs.YtakgnkjopbflbaaGreatDoor
open Go.RowKit

/-- The constants of all rounds. -/
def kList : List UInt32 := [1116352408, 1899447441, 3049323471, 3921009573, 961987163, 1508970993, 2453635748, 2870763221, 3624381080, 310598401, 607225278, 1426881987, 1925078388, 2162078206, 2614888103, 3248222580, 3835390401, 4022224774, 264347078, 604807628, 770255983, 1249150122, 1555081692, 1996064986, 2554220882, 2821834349, 2952996808, 3210313671, 3336571891, 3584528711, 113926993, 338241895, 666307205, 773529912, 1294757372, 1396182291, 1695183700, 1986661051, 2177026350, 2456956037, 2730485921, 2820302411, 3259730800, 3345764771, 3516065817, 3600352804, 4094571909, 275423344, 430227734, 506948616, 659060556, 883997877, 958139571, 1322822218, 1537002063, 1747873779, 1955562222, 2024104815, 2227730452, 2361852424, 2428436474, 2756734187, 3204031479, 3329325298]
theorem kList_length : kList.length = 64 := by kernel_rfl
set_option maxRecDepth 100000 in
set_option maxHeartbeats 2000000 in
theorem kwords_any (w : World) : Calls Tryz.prog 164 #[] w fun e w' => e = .returned (.agg (arr32 kList 64)) ∧ Mod w w' Nob := by
  have hsz := arr32_size kList 64 (by rw [kList_length]; omega)
  have hsz0 := arr32_size [] 64 (by simp)
  have hone := arr32_one kList 64
  go_enter Tryz.func164, Tryz.ntmps164
  go_upto_region 1 with fail
  rw [zeros64]
  have c0 := CellsAt.new w (arr32 [] 64) 275
  have m0 := (Mod.refl w Nob).alloc (.cells (arr32 [] 64) 275)
  obtain ⟨w1, hw1⟩ : ∃ w1, w.alloc (.cells (arr32 [] 64) 275) = w1 := ⟨_, rfl⟩
  rw [hw1] at c0 m0 ⊢
  clear hw1
  go_wp2_with (first
    | (refine wpList_build_is rfl 275 _ rfl (arr32 kList 64) (by kernel_rfl) ?_)
    | (refine wpList_store_arr rfl 275 _ _ rfl w.heap.size 64 (arr32 kList 64) (arr32 [] 64) rfl rfl c0 size_a64 hsz hsz0 hone ?_))
  exact bodyPost_ret (v := .agg (arr32 kList 64)) (ret_arr rfl _ _ w.heap.size 64 220 _ rfl (c0.setRow _) Tryz.underlying275 size_a64 hsz) rfl ⟨rfl, m0.setRow (.inr (Nat.le_refl _)) _⟩

end Go.Proofs.YtakgnkjopbflbaaGreatDoor
