/- A program that may be, as the reference asks it (dominoref11.Check). No condition. -/
import Derived.Test.YtlnjfcnhgndocaaEa
namespace Go.Proofs.Ytlnjfcnhgndocaa
open Go.RowKit Go.Shelf

set_option maxRecDepth 100000 in
set_option maxHeartbeats 2000000 in
theorem refpart_yes (k : Nat) (a : Option Addr) (len lc : Nat) (ops : List Op1) (n₀ : Nat) (w : World) (hn : n₀ ≤ w.heap.size) (hops : OpsAt n₀ w (.slice a len lc) ops) (hl : ops.length ≤ 40) (hf : ∀ o ∈ ops, FineOp k o) :
    Calls Try.prog 19 #[.slice a len lc, .int .i64 k] w (Tells w (.bool true)) := by
  rcases hops with ⟨a', cap, hv, rfl⟩ | ⟨b, off, cap, hv, hb, hc⟩
  · cases hv
    go_enter Try.func19, Try.ntmps19
    go_wp2_with fail
    refine wp_loop_once ?_
    go_wp2_with fail
    go_ret
    exact ⟨rfl, Mod.refl _ _⟩
  · cases hv
    obtain ⟨len, hlen⟩ : ∃ len, ops.length = len := ⟨_, rfl⟩
    rw [hlen] at hl ⊢
    have HL := Lib.hid hlen
    clear hlen
    go_enter Try.func19, Try.ntmps19
    go_wp2_with fail
    go_loopw [5] (fun i wr => ∃ q : Nat, q ≤ len ∧ i = .int .i64 q ∧ Mod w wr Nob) (fun i _ => len - (intOf i).toNat)
    case atStart => exact ⟨0, Nat.zero_le _, rfl, Mod.refl _ _⟩
    case round =>
      obtain ⟨q, hq, rfl, hm⟩ := hrel
      by_cases hlt : q < len
      · have hqo : q < ops.length := by rw [HL.out]; exact hlt
        have hfo := hf (ops[q]) (List.getElem_mem hqo)
        have hcx : ∀ (i : Nat) (v : Value), (ops[q]).cells[i]? = some v → wr.cell? ⟨b, off + (q * 6 + i), none⟩ = some v := fun i v h => (hm.cell (by omega) nob).trans (hc q _ (List.getElem?_eq_getElem hqo) i v h)
        obtain ⟨⟨oc, od, oa, ob, occ, on⟩, ho⟩ : ∃ o, ops[q] = o := ⟨_, rfl⟩
        rw [ho] at hcx hfo
        have k0 : wr.cell? ⟨b, off + q * 6, none⟩ = some (.int .i64 oc) := hcx 0 _ rfl
        have k1 : wr.cell? ⟨b, off + q * 6 + 1, none⟩ = some (.int .i64 od) := by rw [Nat.add_assoc]; exact hcx 1 _ rfl
        have k2 : wr.cell? ⟨b, off + q * 6 + 2, none⟩ = some (.int .i64 oa) := by rw [Nat.add_assoc]; exact hcx 2 _ rfl
        have k3 : wr.cell? ⟨b, off + q * 6 + 3, none⟩ = some (.int .i64 ob) := by rw [Nat.add_assoc]; exact hcx 3 _ rfl
        have k4 : wr.cell? ⟨b, off + q * 6 + 4, none⟩ = some (.int .i64 occ) := by rw [Nat.add_assoc]; exact hcx 4 _ rfl
        have k5 : wr.cell? ⟨b, off + q * 6 + 5, none⟩ = some (I on) := by rw [Nat.add_assoc]; exact hcx 5 _ rfl
        obtain ⟨⟨d0, d1, a0, a1, b0, bb1, cc0, cc1, _⟩, f1, f12, m0, m1⟩ := hfo
        dsimp only at d0 d1 a0 a1 b0 bb1 cc0 cc1 f1 f12 m0 m1
        by_cases h12 : oc = 12
        · have e12 : (oc == 12) = true := by simpa using h12
          have hm0 := m0 h12
          have hm1 := m1 h12
          have H12 := Lib.hid h12
          clear hcx hc ho hf m0 m1 h12
          go_wp2_with fail
          exact ⟨⟨q + 1, by omega, by go_num, hm.alloc _⟩, by simp [intOf]; omega⟩
        · have e12 : (oc == 12) = false := by simpa using h12
          have H12 := Lib.hid h12
          clear hcx hc ho hf m0 m1 h12
          go_wp2_with fail
          exact ⟨⟨q + 1, by omega, by go_num, hm.alloc _⟩, by simp [intOf]; omega⟩
      · obtain rfl : q = len := by omega
        go_wp2_with fail
        go_ret
        refine ⟨?_, hm⟩
        simp
        omega

section
variable {n₀ : Nat} {w w' : World} {K : Nat} {a1 : Option Addr} {l1 c1 : Nat} {ms : List Op1} {a2 : Option Addr} {l2 c2 : Nat} {fs : List Op1} {a3 : Option Addr} {l3 c3 : Nat} {ns : List Op1}

set_option maxRecDepth 100000 in
set_option maxHeartbeats 1000000 in
theorem refcheck_yes (h : ProgAt n₀ w K a1 l1 c1 ms a2 l2 c2 fs a3 l3 c3 ns) (hn : n₀ ≤ w.heap.size) :
    Calls Try.prog 11 #[.agg #[.int .i64 K, .slice a1 l1 c1, .slice a2 l2 c2, .slice a3 l3 c3]] w (Tells w (.int .i64 0)) := by
  obtain ⟨k1, k4, hm, hf, hnn⟩ := h
  have hk1 : (1 : Int) ≤ (K : Int) := by omega
  have hk4 : (K : Int) ≤ 4 := by omega
  have hB := (Mod.refl w Nob).alloc (.cells #[.int .i64 K, .slice a1 l1 c1, .slice a2 l2 c2, .slice a3 l3 c3] 30)
  go_enter Try.func11, Try.ntmps11
  go_wp2_with fail
  have cB := CellsAt.new w #[.int .i64 K, .slice a1 l1 c1, .slice a2 l2 c2, .slice a3 l3 c3] 30
  obtain ⟨W, hW⟩ : ∃ W, w.alloc (.cells #[.int .i64 K, .slice a1 l1 c1, .slice a2 l2 c2, .slice a3 l3 c3] 30) = W := ⟨_, rfl⟩
  rw [hW] at hB cB ⊢
  have lW := hB.size
  refine (refpart_yes K a1 l1 c1 ms n₀ W (by omega) (hm.mod hB hn).at_ hm.len40 hm.fine).mono ?_
  rintro e w1 ⟨rfl, m1⟩
  have c1' := cB.mod m1 nob
  have e2 := c1'.cell 2
  simp at e2
  replace m1 := hB.trans m1
  have lw1 := m1.size
  go_wp2_with fail
  refine (refpart_yes 0 a2 l2 c2 fs n₀ w1 (by omega) (hf.mod m1 hn).at_ hf.len40 hf.fine).mono ?_
  rintro e w2 ⟨rfl, m2⟩
  have c2' := c1'.mod m2 nob
  have e3 := c2'.cell 3
  simp at e3
  replace m2 := m1.trans m2
  have lw2 := m2.size
  go_wp2_with fail
  refine (refpart_yes 0 a3 l3 c3 ns n₀ w2 (by omega) (hnn.mod m2 hn).at_ hnn.len40 hnn.fine).mono ?_
  rintro e w3 ⟨rfl, m3⟩
  go_wp2_with fail
  go_ret
  exact ⟨rfl, m2.trans m3⟩
end
end Go.Proofs.Ytlnjfcnhgndocaa
