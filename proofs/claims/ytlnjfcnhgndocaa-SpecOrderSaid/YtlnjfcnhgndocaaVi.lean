/- Which public numbers may be (spec.Right). No condition. -/
import Derived.Test.YtlnjfcnhgndocaaVh
namespace Go.Proofs.Ytlnjfcnhgndocaa
open Go.RowKit

/-- The public numbers that may be. -/
def fit (r k b wk : Int) : Prop := 1 ≤ r ∧ r ≤ 64 ∧ 1 ≤ k ∧ k ≤ 4 ∧ 1 ≤ b ∧ b ≤ 8 ∧ 1 ≤ wk ∧ wk ≤ 4 ∧ k * ((r - 1) / b + 1) < 32
instance (r k b wk : Int) : Decidable (fit r k b wk) := by unfold fit; infer_instance

set_option maxRecDepth 100000 in
set_option maxHeartbeats 1000000 in
theorem right_any (r k b wk : Int) (w : World) : Calls Try.prog 12 #[.agg #[.int .i64 r, .int .i64 k, .int .i64 b, .int .i64 wk]] w (Tells w (.int .i64 (if fit r k b wk then 0 else 1))) := by
  obtain ⟨e, he⟩ : ∃ e : Int, Hid (e = if fit r k b wk then 0 else 1) := ⟨_, rfl⟩
  rw [← he.out]
  have hB := (Mod.refl w Nob).alloc (.cells #[.int .i64 r, .int .i64 k, .int .i64 b, .int .i64 wk] 33)
  by_cases h8 : 1 ≤ r ∧ r ≤ 64 ∧ 1 ≤ k ∧ k ≤ 4 ∧ 1 ≤ b ∧ b ≤ 8 ∧ 1 ≤ wk ∧ wk ≤ 4
  · obtain ⟨r1, r2, k1, k2, b1, b2, w1, w2⟩ := h8
    go_enter Try.func12, Try.ntmps12
    go_wp2_with fail
    go_quiet (fail)
    have hq0 : 0 ≤ (r - 1) / b := Int.ediv_nonneg (by omega) (by omega)
    have hq1 : (r - 1) / b ≤ 63 := Int.le_trans (Int.ediv_le_self _ (by omega)) (by omega)
    have hwr : wrap64 (k * wrap64 ((r - 1) / b + 1)) = k * ((r - 1) / b + 1) := by
      obtain ⟨t, ht⟩ : ∃ t, (r - 1) / b = t := ⟨_, rfl⟩
      rw [ht] at hq0 hq1 ⊢
      have h1 : wrap64 (t + 1) = t + 1 := by unfold wrap64; omega
      rw [h1]
      have hk : k = 1 ∨ k = 2 ∨ k = 3 ∨ k = 4 := by omega
      rcases hk with rfl | rfl | rfl | rfl <;> (unfold wrap64; omega)
    have HW := Lib.hid hwr
    clear hwr hq0 hq1
    go_wp2_with fail
    · go_ret
      have hx := ‹32 ≤ wrap64 (k * wrap64 ((r - 1) / b + 1))›
      rw [HW.out] at hx
      have hn : ¬ fit r k b wk := fun hf => by have := hf.2.2.2.2.2.2.2.2; omega
      refine ⟨?_, hB.drewN nq⟩
      rw [he.out, if_neg hn]
      rfl
    · go_ret
      have hx := ‹wrap64 (k * wrap64 ((r - 1) / b + 1)) < 32›
      rw [HW.out] at hx
      have hn : fit r k b wk := ⟨r1, r2, k1, k2, b1, b2, w1, w2, hx⟩
      refine ⟨?_, hB.drewN nq⟩
      rw [he.out, if_pos hn]
      rfl
  · have hn : ¬ fit r k b wk := fun hf => h8 ⟨hf.1, hf.2.1, hf.2.2.1, hf.2.2.2.1, hf.2.2.2.2.1, hf.2.2.2.2.2.1, hf.2.2.2.2.2.2.1, hf.2.2.2.2.2.2.2.1⟩
    have HE : Hid (e = 1) := by rw [he.out, if_neg hn]; rfl
    have H8 := Lib.hid h8
    clear h8 hn
    go_enter Try.func12, Try.ntmps12
    go_wp2_with fail
    all_goals first
      | (go_ret
         refine ⟨?_, hB⟩
         rw [HE.out]
         rfl)
      | (exfalso
         apply H8.out
         omega)

end Go.Proofs.Ytlnjfcnhgndocaa
