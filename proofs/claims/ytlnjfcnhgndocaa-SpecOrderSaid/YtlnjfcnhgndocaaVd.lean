/- The library's iterators over a slice of operations (slices.Values) and over a slice of pairs (slices.All). The condition: the slice lies below n₀, and its reach is no greater than what may be. -/
import Derived.RangeFuncNested
import Derived.RangeFuncBound
import Derived.RangeFuncCalls
import Derived.RangeFuncLeaves
import Derived.Shelf.Abstract
import Derived.Shelf.RegionOpen
import Derived.OwnWalkIn
import Derived.TacticsInMore
import Derived.LoopNIn
import Derived.LoopIn
import Derived.Test.YtlnjfcnhgndocaaVb
namespace Go.Proofs.Ytlnjfcnhgndocaa
open Go.RowKit Go.Shelf
attribute [local go_sem] Oper.semAt_some

def Op1.cells (o : Op1) : Array Value := #[.int .i64 o.code, .int .i64 o.d, .int .i64 o.a, .int .i64 o.b, .int .i64 o.c, I o.n]
def Op1.val (o : Op1) : Value := .agg o.cells

/-- A slice of operations below n₀. -/
def OpsAt (n₀ : Nat) (W : World) (sv : Value) (ops : List Op1) : Prop :=
  (∃ a cap, sv = .slice a 0 cap ∧ ops = []) ∨ ∃ b off cap, sv = .slice (some ⟨b, off, none⟩) ops.length cap ∧ b < n₀ ∧ ∀ (j : Nat) (o : Op1), ops[j]? = some o → ∀ (i : Nat) (v : Value), o.cells[i]? = some v → W.cell? ⟨b, off + (j * 6 + i), none⟩ = some v

theorem OpsAt.below {n₀ : Nat} {A B : World} (h : Below n₀ A B) {sv : Value} {ops : List Op1} : OpsAt n₀ A sv ops → OpsAt n₀ B sv ops
  | .inl e => .inl e
  | .inr ⟨b, off, cap, e, hb, hc⟩ => .inr ⟨b, off, cap, e, hb, fun j o hj i v hi => (h.cell (p := ⟨b, off + (j * 6 + i), none⟩) hb).trans (hc j o hj i v hi)⟩

set_option maxRecDepth 100000 in
set_option maxHeartbeats 2000000 in
theorem values1_in {p : Op1 → Prop} (F : Fence) (n : Nat) (hF : F.fn 41) (hro : F.round = none) (hn : 1 ≤ n) (l Bs n₀ b off cap : Nat) (ops : List {o : Op1 // p o}) (hreach : ops.length ≤ 1000000) (hb : b < n₀) (J Jx : List {o : Op1 // p o} → World → Prop)
    (hY : ∀ pre x W, J pre W → pre.length < ops.length → YieldAt F (n - 1) Try.prog l #[x.1.val] W fun e W' => (e = .returned (.bool true) ∧ J (pre ++ [x]) W' ∧ Below n₀ W W') ∨ (e = .returned (.bool false) ∧ Jx (pre ++ [x]) W'))
    (W : World) (hJ : AbidesFrom W.heap.size J) (hnW : n₀ ≤ W.heap.size) (hBs : W.cell? ⟨Bs, 0, none⟩ = some (.slice (some ⟨b, off, none⟩) ops.length cap)) (hc : ∀ (j : Nat) (o : {o : Op1 // p o}), ops[j]? = some o → ∀ (i : Nat) (v : Value), o.1.cells[i]? = some v → W.cell? ⟨b, off + (j * 6 + i), none⟩ = some v) (h0 : J [] W) :
    CallsIn F n Try.prog 41 #[.func (.yield l) #[] #[], .pointer (some ⟨Bs, 0, none⟩)] W fun e W' => (∃ v, e = .returned v) ∧ ((∃ ys, ys = ops ∧ J ys W') ∨ (∃ pre, (∃ k, k ≤ ops.length ∧ pre = ops.take k) ∧ Jx pre W')) := by
  refine callsIn_of_wp Try.func41 rfl hF ?_ hro
  simp only [Try.ntmps41, List.size_toArray, List.length_cons, List.length_nil, Nat.reduceAdd, Nat.reduceSub, Array.replicate_succ, Array.replicate_zero, List.push_toArray, List.append_toArray, List.nil_append, List.cons_append]
  obtain ⟨len, hlen⟩ : ∃ len, ops.length = len := ⟨_, rfl⟩
  rw [hlen] at hBs hreach
  have HL := Lib.hid hlen
  clear hlen
  gi_wp2
  gi_loopw [7] (fun i wr => ∃ k : Nat, k ≤ len ∧ i = .int .i64 k ∧ J (ops.take k) wr ∧ Below n₀ W wr)
    (fun i _ => len - (intOf i).toNat)
  case atStart => exact ⟨0, Nat.zero_le _, rfl, h0, Below.refl _ _⟩
  case round =>
    obtain ⟨k, hk, rfl, hJs, hnx⟩ := hrel
    by_cases hlt : k < len
    · have hko : k < ops.length := by rw [HL.out]; exact hlt
      have hcx : ∀ (i : Nat) (v : Value), (ops[k]).1.cells[i]? = some v → wr.cell? ⟨b, off + (k * 6 + i), none⟩ = some v := fun i v h => (hnx.cell (p := ⟨b, off + (k * 6 + i), none⟩) hb).trans (hc k _ (List.getElem?_eq_getElem hko) i v h)
      have hT : Hid (ops.take (k + 1) = ops.take k ++ [ops[k]]) := by
        have := List.take_succ_eq_append_getElem hko
        exact this
      obtain ⟨⟨o, po⟩, ho⟩ : ∃ o, ops[k] = o := ⟨_, rfl⟩
      have hJa : J (ops.take k) (wr.alloc (.cells #[.int .i64 o.code, .int .i64 o.d, .int .i64 o.a, .int .i64 o.b, .int .i64 o.c, I o.n] 41)) := hJ _ _ _ none hJs (World.grownBy_alloc _ _ none) (fun r e => by cases e)
      obtain ⟨fn, tmps, assign, body, hy, hR⟩ := hY (ops.take k) (ops[k]) _ hJa (by simp; omega)
      have hnx' : Below n₀ W (wr.alloc (.cells #[.int .i64 o.code, .int .i64 o.d, .int .i64 o.a, .int .i64 o.b, .int .i64 o.c, I o.n] 41)) := hnx.alloc (Nat.le_trans hnW hnx.size) _
      rw [ho] at hcx hy hR hT
      dsimp only at hcx hy
      have k0 : wr.cell? ⟨b, off + k * 6, none⟩ = some (.int .i64 o.code) := hcx 0 _ rfl
      have k1 : wr.cell? ⟨b, off + k * 6 + 1, none⟩ = some (.int .i64 o.d) := by rw [Nat.add_assoc]; exact hcx 1 _ rfl
      have k2 : wr.cell? ⟨b, off + k * 6 + 2, none⟩ = some (.int .i64 o.a) := by rw [Nat.add_assoc]; exact hcx 2 _ rfl
      have k3 : wr.cell? ⟨b, off + k * 6 + 3, none⟩ = some (.int .i64 o.b) := by rw [Nat.add_assoc]; exact hcx 3 _ rfl
      have k4 : wr.cell? ⟨b, off + k * 6 + 4, none⟩ = some (.int .i64 o.c) := by rw [Nat.add_assoc]; exact hcx 4 _ rfl
      have k5 : wr.cell? ⟨b, off + k * 6 + 5, none⟩ = some (I o.n) := by rw [Nat.add_assoc]; exact hcx 5 _ rfl
      unfold Op1.val Op1.cells at hy
      dsimp only [I] at hy hR hnx' ⊢
      obtain ⟨pre, hpre⟩ : ∃ pre, ops.take k = pre := ⟨_, rfl⟩
      rw [hpre] at hJs hJa hR hT
      clear hcx hc ho hpre hY
      gi_wp2
      refine hR.mono ?_
      rintro e W3 (⟨rfl, hJ3, hk3⟩ | ⟨rfl, hJx3⟩)
      · gi_wp2
        go_roundw
        case rel => exact ⟨k + 1, by omega, by go_num, by rw [hT.out]; exact hJ3, hnx'.trans hk3⟩
        case measure => simp [intOf]; omega
      · gi_wp2
        refine bodyPost_ret (results_none rfl _ _ _) rfl ?_
        exact ⟨⟨_, rfl⟩, .inr ⟨_, ⟨k + 1, by rw [HL.out]; omega, hT.out.symm⟩, hJx3⟩⟩
    · obtain rfl : k = len := by omega
      gi_wp2
      go_end0
      exact ⟨⟨_, rfl⟩, .inl ⟨_, by rw [← HL.out]; exact List.take_length .. , hJs⟩⟩

set_option maxRecDepth 100000 in
set_option maxHeartbeats 1000000 in
theorem values1_nil_in {p : Op1 → Prop} (F : Fence) (n : Nat) (hF : F.fn 41) (hro : F.round = none) (l Bs : Nat) (a : Option Addr) (cap : Nat) (J : List {o : Op1 // p o} → World → Prop) (W : World) (hBs : W.cell? ⟨Bs, 0, none⟩ = some (.slice a 0 cap)) (h0 : J [] W) :
    CallsIn F n Try.prog 41 #[.func (.yield l) #[] #[], .pointer (some ⟨Bs, 0, none⟩)] W fun e W' => (∃ v, e = .returned v) ∧ J [] W' := by
  refine callsIn_of_wp Try.func41 rfl hF ?_ hro
  simp only [Try.ntmps41, List.size_toArray, List.length_cons, List.length_nil, Nat.reduceAdd, Nat.reduceSub, Array.replicate_succ, Array.replicate_zero, List.push_toArray, List.append_toArray, List.nil_append, List.cons_append]
  gi_wp2
  gi_loopw [7] (fun i wr => i = .int .i64 0 ∧ J [] wr) (fun _ _ => 0)
  case atStart => exact ⟨rfl, h0⟩
  case round =>
    obtain ⟨rfl, hJs⟩ := hrel
    gi_wp2
    go_end0
    exact ⟨⟨_, rfl⟩, hJs⟩

set_option maxHeartbeats 1000000 in
theorem values_in (F : Fence) (n : Nat) (hF : F.fn 27) (hro : F.round = none) (a : Option Addr) (len cap : Nat) (w : World) :
    CallsIn F n Try.prog 27 #[.slice a len cap] w fun e w' => e = .returned (.func (.func 41) #[] #[.pointer (some ⟨w.heap.size, 0, none⟩)]) ∧ w' = w.alloc (.cells #[.slice a len cap] 28) := by
  refine callsIn_of_wp Try.func27 rfl hF ?_ hro
  simp only [Try.ntmps27, List.size_toArray, List.length_cons, List.length_nil, Nat.reduceAdd, Nat.reduceSub, Array.replicate_succ, Array.replicate_zero, List.push_toArray, List.append_toArray, List.nil_append, List.cons_append]
  gi_wp2
  go_ret
  exact ⟨rfl, rfl⟩

/-- slices.Values of operations. -/
theorem values_stops {p : Op1 → Prop} (F : Fence) (n : Nat) (hF : F.fn 41) (hro : F.round = none) (hn : 1 ≤ n) (Bs n₀ : Nat) (sv : Value) (ops : List {o : Op1 // p o}) (hreach : ops.length ≤ 1000000) (w : World) (hBs : Bs < w.heap.size) (hn₀ : n₀ ≤ w.heap.size)
    (hc : w.cell? ⟨Bs, 0, none⟩ = some sv) (hI : OpsAt n₀ w sv (ops.map (·.1))) :
    SeqStopsK F n Try.prog 41 #[.pointer (some ⟨Bs, 0, none⟩)] (fun x : {o : Op1 // p o} => #[x.1.val]) (Below n₀) (fun ys => ys = ops) (fun _ => True) ops.length w := fun l J Jx W hW hJ _ hY h0 => by
  have hc' := (hW.cell (p := ⟨Bs, 0, none⟩) hBs).trans hc
  rcases hI.below (hW.mono hn₀) with ⟨a, cap, rfl, h0'⟩ | ⟨b, off, cap, rfl, hb, hcs⟩
  · obtain rfl : ops = [] := List.map_eq_nil_iff.1 h0'
    exact (values1_nil_in F n hF hro l Bs a cap J W hc' h0).mono fun e W' ⟨he, hj⟩ => ⟨he, .inl ⟨_, rfl, hj⟩⟩
  · rw [List.length_map] at hc'
    refine (values1_in F n hF hro hn l Bs n₀ b off cap ops hreach hb J Jx hY W hJ (Nat.le_trans hn₀ hW.size) hc' (fun j o hj => hcs j o.1 (by simp [hj])) h0).mono ?_
    rintro e W' ⟨he, ⟨ys, rfl, hj⟩ | ⟨pre, ⟨k, hk, rfl⟩, hj⟩⟩
    · exact ⟨he, .inl ⟨_, rfl, hj⟩⟩
    · exact ⟨he, .inr ⟨_, trivial, hj⟩⟩

end Go.Proofs.Ytlnjfcnhgndocaa
