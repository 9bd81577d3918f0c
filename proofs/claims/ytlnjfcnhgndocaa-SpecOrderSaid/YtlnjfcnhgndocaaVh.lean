/- A fold, a finish (vm.done, vm.Fold, vm.Finish). No condition. -/
import Derived.Test.YtlnjfcnhgndocaaVg
namespace Go.Proofs.Ytlnjfcnhgndocaa
open Go.RowKit

theorem sub_ops {k : Nat} : ∀ (ops : List Op1), (∀ o ∈ ops, GoodOp k o) → ∃ l : List {o : Op1 // GoodOp k o}, l.map (·.1) = ops
  | [], _ => ⟨[], rfl⟩
  | o :: ops, h => by
    obtain ⟨l, hl⟩ := sub_ops ops (fun x hx => h x (List.mem_cons_of_mem _ hx))
    exact ⟨⟨o, h o (List.mem_cons_self ..)⟩ :: l, by rw [List.map_cons, hl]⟩

theorem OpsAt.mono {n₀ n₁ : Nat} (hn : n₀ ≤ n₁) {A : World} {sv : Value} {ops : List Op1} : OpsAt n₀ A sv ops → OpsAt n₁ A sv ops
  | .inl e => .inl e
  | .inr ⟨b, off, cap, e, hb, hc⟩ => .inr ⟨b, off, cap, e, by omega, hc⟩

/-- What a part without slots leaves in register 0. -/
def ran (x y : W64) (ops : List Op1) : W64 := (Mach.run 0 ⟨[x, y, 0, 0, 0, 0, 0, 0], []⟩ ops).r.getD 0 0

section
variable {n₀ : Nat} {w w' : World} {K : Nat} {a1 : Option Addr} {l1 c1 : Nat} {ms : List Op1} {a2 : Option Addr} {l2 c2 : Nat} {fs : List Op1} {a3 : Option Addr} {l3 c3 : Nat} {ns : List Op1}

set_option maxRecDepth 100000 in
set_option maxHeartbeats 1000000 in
theorem done_any (h : ProgAt n₀ w K a1 l1 c1 ms a2 l2 c2 fs a3 l3 c3 ns) (hn : n₀ ≤ w.heap.size) (a : Option Addr) (len cap : Nat) (ops : List Op1) (hp : PartAt n₀ w 0 a len cap ops) (x y : W64) :
    Calls Try.prog 23 #[.agg #[.int .i64 K, .slice a1 l1 c1, .slice a2 l2 c2, .slice a3 l3 c3], .slice a len cap, I x, I y] w (Tells w (I (ran x y ops))) := by
  obtain ⟨lo, hlo⟩ := sub_ops ops (fun o ho => (hp.fine o ho).good)
  go_enter Try.func23, Try.ntmps23
  go_wp2_with fail
  have hB := (Mod.refl w Nob).alloc (.cells #[.int .i64 K, .slice a1 l1 c1, .slice a2 l2 c2, .slice a3 l3 c3] 30)
  obtain ⟨W, hW⟩ : ∃ W, w.alloc (.cells #[.int .i64 K, .slice a1 l1 c1, .slice a2 l2 c2, .slice a3 l3 c3] 30) = W := ⟨_, rfl⟩
  rw [hW] at hB ⊢
  have lW := hB.size
  refine (check_yes (h.mod hB hn) (by omega)).mono ?_
  rintro e w1 ⟨rfl, m1⟩
  replace m1 := hB.trans m1
  clear hB hW
  go_wp2_with fail
  go_region
  have hm2 := ((Mod.refl w1 Nob).alloc (.cells #[I x, I y, .int .i64 0, .int .i64 0, .int .i64 0, .int .i64 0, .int .i64 0, .int .i64 0, .slice none 0 0, .int .i64 0] 64)).drew
  have cM := (CellsAt.new w1 #[I x, I y, .int .i64 0, .int .i64 0, .int .i64 0, .int .i64 0, .int .i64 0, .int .i64 0, .slice none 0 0, .int .i64 0] 64).mod ((Mod.refl _ Nob).drew) nob
  have hsz : ((w1.alloc (.cells #[I x, I y, .int .i64 0, .int .i64 0, .int .i64 0, .int .i64 0, .int .i64 0, .int .i64 0, .slice none 0 0, .int .i64 0] 64)).drew).heap.size = w1.heap.size + 1 := by simp
  have lw1 := m1.size
  obtain ⟨W2, hW2⟩ : ∃ W2, (w1.alloc (.cells #[I x, I y, .int .i64 0, .int .i64 0, .int .i64 0, .int .i64 0, .int .i64 0, .int .i64 0, .slice none 0 0, .int .i64 0] 64)).drew = W2 := ⟨_, rfl⟩
  rw [hW2] at hm2 cM hsz ⊢
  have em : machine [x, y, 0, 0, 0, 0, 0, 0] (.slice none 0 0) 0 = #[I x, I y, .int .i64 0, .int .i64 0, .int .i64 0, .int .i64 0, .int .i64 0, .int .i64 0, .slice none 0 0, .int .i64 0] := by simp [machine]
  have hM : MachAt W2 w1.heap.size (.slice none 0 0) 0 0 ⟨[x, y, 0, 0, 0, 0, 0, 0], []⟩ := ⟨by rw [em]; exact cM, rfl, World.ownsRow_nil _ _ _ _, rfl, by simp [inBlock, Value.ownBlock]⟩
  have hm3 := m1.trans hm2
  clear hW2 em
  go_wp2_with fail
  refine (run_any w1.heap.size 0 (.slice none 0 0) 0 _ a len cap lo w1.heap.size W2 hM (by omega) (Nat.le_refl _) (fun j hj => by simp [inBlock, Value.ownBlock] at hj)
    (by rw [hlo]; exact ((hp.mod hm3 hn).at_).mono (by omega)) (by have h40 := hp.len40; rw [← hlo, List.length_map] at h40; omega) (by omega)).mono ?_
  rintro e w3 ⟨rfl, hR, hBe⟩
  rw [hlo] at hR
  have c0 := hR.cells.cell 0
  have h8 := hR.r8
  obtain ⟨R, hRR⟩ : ∃ R, Mach.run 0 ⟨[x, y, 0, 0, 0, 0, 0, 0], []⟩ ops = R := ⟨_, rfl⟩
  have HR := Lib.hid hRR
  rw [hRR] at c0 h8
  clear hRR hR hM cM
  obtain ⟨v, rest, hv⟩ : ∃ v rest, R.r = v :: rest := by
    cases hr : R.r with
    | nil => rw [hr] at h8; cases h8
    | cons v rest => exact ⟨v, rest, rfl⟩
  rw [hv] at c0
  simp [machine] at c0
  have hran : ran x y ops = v := by unfold ran; rw [HR.out, hv]; rfl
  go_wp2_with fail
  go_ret
  exact ⟨by rw [hran]; rfl, hm3.drop (T := fun k => w1.heap.size ≤ k) ⟨hBe.os, hBe.tape, hBe.output, hBe.size, fun k _ hn' => hBe.block k (by omega)⟩ (fun k hk => .inr (by omega))⟩

set_option maxRecDepth 100000 in
theorem fold_any (h : ProgAt n₀ w K a1 l1 c1 ms a2 l2 c2 fs a3 l3 c3 ns) (hn : n₀ ≤ w.heap.size) (x y : W64) :
    Calls Try.prog 16 #[.agg #[.int .i64 K, .slice a1 l1 c1, .slice a2 l2 c2, .slice a3 l3 c3], I x, I y] w (Tells w (I (ran x y fs))) := by
  have hB := (Mod.refl w Nob).alloc (.cells #[.int .i64 K, .slice a1 l1 c1, .slice a2 l2 c2, .slice a3 l3 c3] 30)
  go_enter Try.func16, Try.ntmps16
  go_wp2_with fail
  refine (done_any (h.mod hB hn) (by simp; omega) a2 l2 c2 fs (h.f.mod hB hn) x y).mono ?_
  rintro e w1 ⟨rfl, m1⟩
  go_wp2_with fail
  go_ret
  exact ⟨rfl, hB.trans m1⟩

set_option maxRecDepth 100000 in
theorem finish_any (h : ProgAt n₀ w K a1 l1 c1 ms a2 l2 c2 fs a3 l3 c3 ns) (hn : n₀ ≤ w.heap.size) (key v : W64) :
    Calls Try.prog 18 #[.agg #[.int .i64 K, .slice a1 l1 c1, .slice a2 l2 c2, .slice a3 l3 c3], I key, I v] w (Tells w (I (ran v key ns))) := by
  have hB := (Mod.refl w Nob).alloc (.cells #[.int .i64 K, .slice a1 l1 c1, .slice a2 l2 c2, .slice a3 l3 c3] 30)
  go_enter Try.func18, Try.ntmps18
  go_wp2_with fail
  refine (done_any (h.mod hB hn) (by simp; omega) a3 l3 c3 ns (h.n.mod hB hn) v key).mono ?_
  rintro e w1 ⟨rfl, m1⟩
  go_wp2_with fail
  go_ret
  exact ⟨rfl, hB.trans m1⟩

end
end Go.Proofs.Ytlnjfcnhgndocaa
