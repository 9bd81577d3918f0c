/- A part of a program that may be (vm.part). No condition. -/
import Derived.Test.YtlnjfcnhgndocaaVe
import Derived.WalkMore
import Derived.LoopN
namespace Go.Proofs.Ytlnjfcnhgndocaa
open Go.RowKit

/-- An operation that may be: its code too. -/
structure FineOp (k : Nat) (o : Op1) : Prop where
  good : GoodOp k o
  c1 : 1 ≤ o.code
  c12 : o.code ≤ 12
  m0 : o.code = 12 → 0 ≤ o.n.toInt
  m1 : o.code = 12 → o.n.toInt < k

set_option maxRecDepth 100000 in
set_option maxHeartbeats 2000000 in
theorem part_yes (k : Nat) (a : Option Addr) (len lc : Nat) (ops : List Op1) (n₀ : Nat) (w : World) (hn : n₀ ≤ w.heap.size) (hops : OpsAt n₀ w (.slice a len lc) ops) (hl : ops.length ≤ 40) (hf : ∀ o ∈ ops, FineOp k o) :
    Calls Try.prog 26 #[.slice a len lc, .int .i64 k] w (Tells w (.bool true)) := by
  rcases hops with ⟨a', cap, hv, rfl⟩ | ⟨b, off, cap, hv, hb, hc⟩
  · cases hv
    go_enter Try.func26, Try.ntmps26
    go_wp2_with fail
    go_step3
    go_wp2_with fail
    go_step3
    go_wp2_with fail
    refine wp_loop_once ?_
    go_wp2_with fail
    go_ret
    exact ⟨rfl, Mod.refl _ _⟩
  · cases hv
    obtain ⟨len, hlen⟩ : ∃ len, ops.length = len := ⟨_, rfl⟩
    rw [hlen] at hl ⊢
    have HL := Lib.hid hlen
    clear hlen
    go_enter Try.func26, Try.ntmps26
    go_wp2_with fail
    go_step3
    go_wp2_with fail
    go_step3
    go_wp2_with fail
    go_loopw [14] (fun i wr => ∃ q : Nat, q ≤ len ∧ i = .int .i64 q ∧ Mod w wr Nob) (fun i _ => len - (intOf i).toNat)
    case atStart => exact ⟨0, Nat.zero_le _, rfl, Mod.refl _ _⟩
    case round =>
      obtain ⟨q, hq, rfl, hm⟩ := hrel
      by_cases hlt : q < len
      · have hqo : q < ops.length := by rw [HL.out]; exact hlt
        have hfo := hf (ops[q]) (List.getElem_mem hqo)
        have hcx : ∀ (i : Nat) (v : Value), (ops[q]).cells[i]? = some v → wr.cell? ⟨b, off + (q * 6 + i), none⟩ = some v := fun i v h => (hm.cell (by omega) nob).trans (hc q _ (List.getElem?_eq_getElem hqo) i v h)
        obtain ⟨⟨oc, od, oa, ob, occ, on⟩, ho⟩ : ∃ o, ops[q] = o := ⟨_, rfl⟩
        rw [ho] at hcx hfo
        have k0 : wr.cell? ⟨b, off + q * 6, none⟩ = some (.int .i64 oc) := hcx 0 _ rfl
        have k1 : wr.cell? ⟨b, off + q * 6 + 1, none⟩ = some (.int .i64 od) := by rw [Nat.add_assoc]; exact hcx 1 _ rfl
        have k2 : wr.cell? ⟨b, off + q * 6 + 2, none⟩ = some (.int .i64 oa) := by rw [Nat.add_assoc]; exact hcx 2 _ rfl
        have k3 : wr.cell? ⟨b, off + q * 6 + 3, none⟩ = some (.int .i64 ob) := by rw [Nat.add_assoc]; exact hcx 3 _ rfl
        have k4 : wr.cell? ⟨b, off + q * 6 + 4, none⟩ = some (.int .i64 occ) := by rw [Nat.add_assoc]; exact hcx 4 _ rfl
        have k5 : wr.cell? ⟨b, off + q * 6 + 5, none⟩ = some (I on) := by rw [Nat.add_assoc]; exact hcx 5 _ rfl
        obtain ⟨⟨d0, d1, a0, a1, b0, bb1, cc0, cc1, _⟩, f1, f12, m0, m1⟩ := hfo
        dsimp only at d0 d1 a0 a1 b0 bb1 cc0 cc1 f1 f12 m0 m1
        clear hcx hc ho hf
        go_wp2_with fail
        refine wp_loop_rounds 5 ?_
        rw [rounds_succ]
        go_wp2_with fail
        rw [rounds_succ]
        go_wp2_with fail
        rw [rounds_succ]
        go_wp2_with fail
        rw [rounds_succ]
        go_wp2_with fail
        rw [rounds_succ]
        go_wp2_with fail
        all_goals first
          | exact ⟨⟨q + 1, by omega, by go_num, (hm.alloc _).alloc _⟩, by simp [intOf]; omega⟩
          | (exfalso
             have h12 : oc = 12 := by simpa using ‹(oc != 12) = false›
             have hm0 := m0 h12
             have hm1 := m1 h12
             omega)
      · obtain rfl : q = len := by omega
        go_wp2_with fail
        go_ret
        exact ⟨rfl, hm⟩

end Go.Proofs.Ytlnjfcnhgndocaa
