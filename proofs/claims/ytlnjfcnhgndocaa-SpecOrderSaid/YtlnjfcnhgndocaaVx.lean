/- What a program that adds tells; awake. No condition. -/
import Derived.Test.YtlnjfcnhgndocaaVw
namespace Go.Proofs.Ytlnjfcnhgndocaa
open Go.RowKit Go.Shelf

theorem mapped_sums1 (num key v : W64) : ∃ s0, mapped 1 (sumOps 1) num key v = [⟨false, key, v, s0⟩] := ⟨_, rfl⟩
theorem mapped_sums2 (num key v : W64) : ∃ s0 s1, mapped 2 (sumOps 2) num key v = [⟨false, key, v, s0⟩, ⟨false, key, v, s1⟩] := ⟨_, _, rfl⟩
theorem mapped_sums3 (num key v : W64) : ∃ s0 s1 s2, mapped 3 (sumOps 3) num key v = [⟨false, key, v, s0⟩, ⟨false, key, v, s1⟩, ⟨false, key, v, s2⟩] := ⟨_, _, _, rfl⟩

theorem ran_add (a v : W64) : ran a v [addOp] = a + v := rfl
theorem ran_nil (a v : W64) : ran a v [] = a := rfl

theorem take_add (t : Tal) (key v s : W64) : (t.take [addOp] ⟨false, key, v, s⟩).f = upd t.f key (some ((t.f key).getD 0 + v)) := by
  unfold Tal.take
  cases h : t.f key with
  | none => simp
  | some x => simp [ran_add]

theorem upd_upd {β : Type} (f : W64 → β) (k : W64) (a b : β) : upd (upd f k a) k b = upd f k b := by
  funext x
  simp only [upd]
  split <;> rfl

/-- Of each pair: as many times its value as there are slots. -/
theorem pair_sums (K : Nat) (h1 : 1 ≤ K) (h3 : K ≤ 3) (t : Tal) (num key v : W64) : (t.pair K (sumOps K) [addOp] (num, key, v)).f = upd t.f key (some ((t.f key).getD 0 + BitVec.ofNat 64 K * v)) := by
  have hK : K = 1 ∨ K = 2 ∨ K = 3 := by omega
  unfold Tal.pair Tal.takes
  rcases hK with rfl | rfl | rfl
  · obtain ⟨s0, e⟩ := mapped_sums1 num key v
    simp only [e, List.foldl_cons, List.foldl_nil, take_add]
    simp
  · obtain ⟨s0, s1, e⟩ := mapped_sums2 num key v
    simp only [e, List.foldl_cons, List.foldl_nil, take_add, upd_upd, upd_same, Option.getD_some]
    have : BitVec.ofNat 64 2 * v = v + v := by
      have h : BitVec.ofNat 64 2 = 1 + 1 := rfl
      rw [h, BitVec.add_mul]; simp
    rw [this, BitVec.add_assoc]
  · obtain ⟨s0, s1, s2, e⟩ := mapped_sums3 num key v
    simp only [e, List.foldl_cons, List.foldl_nil, take_add, upd_upd, upd_same, Option.getD_some]
    have : BitVec.ofNat 64 3 * v = v + v + v := by
      have h : BitVec.ofNat 64 3 = 1 + 1 + 1 := rfl
      rw [h, BitVec.add_mul, BitVec.add_mul]; simp
    rw [this]
    simp only [BitVec.add_assoc]

theorem ProgAt.mono {n₀ n₁ : Nat} (hn : n₀ ≤ n₁) {w : World} {K : Nat} {a1 : Option Addr} {l1 c1 : Nat} {ms : List Op1} {a2 : Option Addr} {l2 c2 : Nat} {fs : List Op1} {a3 : Option Addr} {l3 c3 : Nat} {ns : List Op1}
    (h : ProgAt n₀ w K a1 l1 c1 ms a2 l2 c2 fs a3 l3 c3 ns) : ProgAt n₁ w K a1 l1 c1 ms a2 l2 c2 fs a3 l3 c3 ns :=
  ⟨h.k1, h.k4, ⟨h.m.at_.mono hn, h.m.len40, h.m.fine⟩, ⟨h.f.at_.mono hn, h.f.len40, h.f.fine⟩, ⟨h.n.at_.mono hn, h.n.len40, h.n.fine⟩⟩

theorem told_awake : Tal.told [] (Tal.pairs 1 (sumOps 1) [addOp] (numbered [(5, 1), (5, 2)])) = [(5, 3)] := by
  have h1 : (Tal.pairs 1 (sumOps 1) [addOp] (numbered [(5, 1), (5, 2)])).keys = [5] := by rfl
  have h2 : (Tal.pairs 1 (sumOps 1) [addOp] (numbered [(5, 1), (5, 2)])).f 5 = some 3 := by rfl
  unfold Tal.told
  rw [h1, List.mergeSort_singleton]
  simp only [List.map_cons, List.map_nil, h2, ran_nil, Option.getD_some]

set_option maxRecDepth 100000 in
set_option maxHeartbeats 1000000 in
theorem awake_spec (w : World) : Calls Try.prog 8 #[] w (Tells w (.bool true)) := by
  have hS : Calls Try.prog 10 #[.int .i64 1] w fun e w' =>
    ∃ a1 c1 a2 c2, e = .returned (.agg #[.int .i64 1, .slice a1 2 c1, .slice a2 1 c2, .slice none 0 0]) ∧ ProgAt w'.heap.size w' 1 a1 2 c1 (sumOps 1) a2 1 c2 [addOp] none 0 0 [] ∧ Mod w w' Nob := sums_any 1 (by omega) (by omega) w
  go_enter Try.func8, Try.ntmps8
  go_wp2_with fail
  refine hS.mono ?_
  rintro e w1 ⟨a1, c1, a2, c2, rfl, hP, m1⟩
  clear hS
  have hA := (Mod.refl w1 Nob).alloc (.cells #[.int .i64 5, .int .i64 1, .int .i64 5, .int .i64 2] 36)
  have cA := CellsAt.new w1 #[.int .i64 5, .int .i64 1, .int .i64 5, .int .i64 2] 36
  have hps : PairsAt (w1.heap.size + 1) (w1.alloc (.cells #[.int .i64 5, .int .i64 1, .int .i64 5, .int .i64 2] 36)) (.slice (some ⟨w1.heap.size, 0, none⟩) 2 2) [(5, 1), (5, 2)] := by
    refine .inr ⟨w1.heap.size, 0, 2, rfl, by omega, fun j p hj => ?_⟩
    have hj2 : j < 2 := (List.getElem?_eq_some_iff.1 hj).1
    obtain rfl | rfl : j = 0 ∨ j = 1 := by omega
    · simp at hj; subst hj
      exact ⟨cA.cell 0, cA.cell 1⟩
    · simp at hj; subst hj
      exact ⟨cA.cell 2, cA.cell 3⟩
  have hR : Calls Try.prog 9 #[.agg #[.int .i64 1, .slice a1 2 c1, .slice a2 1 c2, .slice none 0 0], .agg #[.int .i64 2, .int .i64 1, .int .i64 1, .int .i64 1], .slice (some ⟨w1.heap.size, 0, none⟩) 2 2] (w1.alloc (.cells #[.int .i64 5, .int .i64 1, .int .i64 5, .int .i64 2] 36)) fun e w' =>
      ∃ ov, e = .returned (.tuple #[ov, .int .i64 0]) ∧ w'.ownsRow 0 36 2 ov (Tal.told [] (Tal.pairs 1 (sumOps 1) [addOp] (numbered [(5, 1), (5, 2)]))).length (flatP (Tal.told [] (Tal.pairs 1 (sumOps 1) [addOp] (numbered [(5, 1), (5, 2)])))) ∧ (∀ j, inBlock ov j → (w1.alloc (.cells #[.int .i64 5, .int .i64 1, .int .i64 5, .int .i64 2] 36)).heap.size ≤ j) ∧ Mod (w1.alloc (.cells #[.int .i64 5, .int .i64 1, .int .i64 5, .int .i64 2] 36)) w' Nob :=
    run_job ((hP.mod hA (Nat.le_refl _)).mono (n₁ := w1.heap.size + 1) (by omega)) (by simp) 1 1 (some ⟨w1.heap.size, 0, none⟩) 2 [(5, 1), (5, 2)] hps (by decide)
  rw [told_awake] at hR
  go_wp2_with fail
  refine hR.mono ?_
  rintro e w2 ⟨ov, rfl, how, _, m2⟩
  replace m1 := (m1.trans hA).trans m2
  rcases how.2 with ⟨_, h0⟩ | ⟨g, cap, cur, rfl, _⟩
  · simp at h0
  have e0 : w2.cell? ⟨g, 0, none⟩ = some (.int .i64 5) := owns_cell how 0 _ rfl
  have e1 : w2.cell? ⟨g, 1, none⟩ = some (.int .i64 3) := owns_cell how 1 _ rfl
  clear hR hps hA cA how hP m2
  go_wp2_with fail
  go_ret
  exact ⟨rfl, m1⟩

end Go.Proofs.Ytlnjfcnhgndocaa
