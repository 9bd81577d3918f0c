/- The law SpecParams. No condition. -/
import Derived.Test.YtlnjfcnhgndocaaKb
import Derived.Test.YtlnjfcnhgndocaaVx
namespace Go.Proofs.Ytlnjfcnhgndocaa
open Go.RowKit Go.Shelf

theorem rounds_div (r b q : Int) (hb : 1 ≤ b) (h1 : r - q * b ≤ 0) (h2 : 1 ≤ r - q * b + b) : (r - 1) / b + 1 = q := by
  have e1 : (q - 1) * b = q * b - b := by rw [Int.sub_mul, Int.one_mul]
  have h3 : q - 1 ≤ (r - 1) / b := (Int.le_ediv_iff_mul_le (by omega)).2 (by omega)
  have h4 : (r - 1) / b < q := (Int.ediv_lt_iff_lt_mul (by omega)).2 (by omega)
  omega

set_option maxRecDepth 100000 in
set_option maxHeartbeats 2000000 in
theorem params_any (r k b wk : Int) (w : World) : Calls Try.prog 7 #[.agg #[.int .i64 r, .int .i64 k, .int .i64 b, .int .i64 wk]] w (Tells w (.bool true)) := by
  have hB := (Mod.refl w Nob).alloc (.cells #[.int .i64 r, .int .i64 k, .int .i64 b, .int .i64 wk] 33)
  have cB := CellsAt.new w #[.int .i64 r, .int .i64 k, .int .i64 b, .int .i64 wk] 33
  by_cases h8 : 1 ≤ r ∧ r ≤ 64 ∧ 1 ≤ k ∧ k ≤ 4 ∧ 1 ≤ b ∧ b ≤ 8 ∧ 1 ≤ wk ∧ wk ≤ 4
  · obtain ⟨r1, r2, k1, k2, b1, b2, w1, w2⟩ := h8
    go_enter Try.func7, Try.ntmps7
    go_wp2_with fail
    go_loop [4, 5] (fun bl n => ∃ q x y : Int, 0 ≤ q ∧ q ≤ 64 ∧ Hid (x = k * q) ∧ 0 ≤ x ∧ x ≤ 256 ∧ Hid (y = r - q * b) ∧ y ≤ 64 ∧ 1 ≤ y + b ∧ bl = .int .i64 x ∧ n = .int .i64 y) (fun _ n => (intOf n + 8).toNat)
    case atStart => exact ⟨0, 0, r, by omega, by omega, Lib.hid (by simp), by omega, by omega, Lib.hid (by simp), by omega, by omega, rfl, rfl⟩
    case round =>
      obtain ⟨q, x, y, q0, q1, hx, x0, x1, hy, y1, y2, rfl, rfl⟩ := hrel
      by_cases hlt : 0 < y
      · have hq63 : q + 1 ≤ 64 := by
          have h1 : q * 1 ≤ q * b := Int.mul_le_mul_of_nonneg_left b1 q0
          have h2 := hy.out
          omega
        have hx2 : Hid (x + k = k * (q + 1)) := by rw [hx.out, Int.mul_add, Int.mul_one]; exact Lib.hid rfl
        have hy2 : Hid (y - b = r - (q + 1) * b) := by rw [hy.out, Int.add_mul, Int.one_mul]; exact Lib.hid (by omega)
        have x2 : x + k ≤ 256 := by
          have h1 := hx2.out
          have h2 : k * (q + 1) ≤ 4 * 64 := Int.mul_le_mul k2 hq63 (by omega) (by omega)
          omega
        go_wp2_with fail
        go_round
        case rel => exact ⟨q + 1, x + k, y - b, by omega, hq63, hx2, by omega, x2, hy2, by omega, by omega, rfl, rfl⟩
        case measure => simp [intOf]; omega
      · have hdiv := rounds_div r b q b1 (by have := hy.out; omega) (by have := hy.out; omega)
        have hfit : Hid (fit r k b wk ↔ x < 32) := by
          refine Lib.hid ?_
          unfold fit
          rw [hdiv, ← hx.out]
          constructor
          · exact fun h => h.2.2.2.2.2.2.2.2
          · exact fun h => ⟨r1, r2, k1, k2, b1, b2, w1, w2, h⟩
        have HD := Lib.hid hdiv
        clear hdiv
        have cells (w' : World) (hm : Mod (w.alloc (.cells #[.int .i64 r, .int .i64 k, .int .i64 b, .int .i64 wk] 33)) w' Nob) : w'.cell? ⟨w.heap.size, 0, none⟩ = some (.int .i64 r) ∧ w'.cell? ⟨w.heap.size, 1, none⟩ = some (.int .i64 k) ∧ w'.cell? ⟨w.heap.size, 2, none⟩ = some (.int .i64 b) ∧ w'.cell? ⟨w.heap.size, 3, none⟩ = some (.int .i64 wk) :=
          ⟨(cB.mod hm nob).cell 0, (cB.mod hm nob).cell 1, (cB.mod hm nob).cell 2, (cB.mod hm nob).cell 3⟩
        by_cases hx32 : x < 32
        · have hR (W : World) := right_any r k b wk W
          simp only [if_pos (hfit.out.2 hx32)] at hR
          go_wp2_with fail
          refine (awake_spec _).mono ?_
          rintro e w1 ⟨rfl, m1⟩
          obtain ⟨z0, z1, z2, z3⟩ := cells w1 m1
          go_wp2_with fail
          refine (hR _).mono ?_
          rintro e w2 ⟨rfl, m2⟩
          go_wp2_with fail
          go_ret
          exact ⟨rfl, (hB.trans m1).trans m2⟩
        · have hR (W : World) := right_any r k b wk W
          simp only [if_neg (fun hf => hx32 (hfit.out.1 hf))] at hR
          go_wp2_with fail
          refine (awake_spec _).mono ?_
          rintro e w1 ⟨rfl, m1⟩
          obtain ⟨z0, z1, z2, z3⟩ := cells w1 m1
          go_wp2_with fail
          refine (hR _).mono ?_
          rintro e w2 ⟨rfl, m2⟩
          go_wp2_with fail
          go_ret
          exact ⟨rfl, (hB.trans m1).trans m2⟩
  · have hn : ¬ fit r k b wk := fun hf => h8 ⟨hf.1, hf.2.1, hf.2.2.1, hf.2.2.2.1, hf.2.2.2.2.1, hf.2.2.2.2.2.1, hf.2.2.2.2.2.2.1, hf.2.2.2.2.2.2.2.1⟩
    have hR (W : World) := right_any r k b wk W
    simp only [if_neg hn] at hR
    have H8 := Lib.hid h8
    clear h8 hn
    have cells (w' : World) (hm : Mod (w.alloc (.cells #[.int .i64 r, .int .i64 k, .int .i64 b, .int .i64 wk] 33)) w' Nob) : w'.cell? ⟨w.heap.size, 0, none⟩ = some (.int .i64 r) ∧ w'.cell? ⟨w.heap.size, 1, none⟩ = some (.int .i64 k) ∧ w'.cell? ⟨w.heap.size, 2, none⟩ = some (.int .i64 b) ∧ w'.cell? ⟨w.heap.size, 3, none⟩ = some (.int .i64 wk) :=
      ⟨(cB.mod hm nob).cell 0, (cB.mod hm nob).cell 1, (cB.mod hm nob).cell 2, (cB.mod hm nob).cell 3⟩
    go_enter Try.func7, Try.ntmps7
    go_wp2_with fail
    all_goals first
      | (exfalso; apply H8.out; omega)
      | (refine (awake_spec _).mono ?_
         rintro e w1 ⟨rfl, m1⟩
         obtain ⟨z0, z1, z2, z3⟩ := cells w1 m1
         go_wp2_with fail
         refine (hR _).mono ?_
         rintro e w2 ⟨rfl, m2⟩
         go_wp2_with fail
         go_ret
         exact ⟨rfl, (hB.trans m1).trans m2⟩)

theorem oks_int {k : IntKind} {ks : List CK} {cs : List Value} (h : Oks (.int k :: ks) cs) : ∃ a vs, cs = .int k a :: vs ∧ (Lit.int k a).wf = true ∧ Oks ks vs := by
  cases h with
  | cons h t => obtain ⟨a, rfl, ha⟩ := h; exact ⟨a, _, rfl, ha, t⟩
theorem oks_nil {cs : List Value} (h : Oks [] cs) : cs = [] := by cases h; rfl

theorem params_law (cs : List Value) (w : World) (h : Oks [.int .i64, .int .i64, .int .i64, .int .i64] cs) : Calls Try.prog 7 #[.agg cs.toArray] w (Tells w (.bool true)) := by
  obtain ⟨a, _, rfl, _, h⟩ := oks_int h
  obtain ⟨b, _, rfl, _, h⟩ := oks_int h
  obtain ⟨c, _, rfl, _, h⟩ := oks_int h
  obtain ⟨d, _, rfl, _, h⟩ := oks_int h
  obtain rfl := oks_nil h
  exact params_any a b c d w

end Go.Proofs.Ytlnjfcnhgndocaa
