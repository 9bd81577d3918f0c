/- The library's iterator slices.All over a slice of pairs. The condition: the slice lies below n₀, and it is no longer than 10^6. -/
import Derived.RangeFuncNested
import Derived.RangeFuncBound
import Derived.RangeFuncCalls
import Derived.RangeFuncLeaves
import Derived.Shelf.Abstract
import Derived.Shelf.RegionOpen
import Derived.OwnWalkIn
import Derived.TacticsInMore
import Derived.LoopNIn
import Derived.LoopIn
import Derived.Test.YtlnjfcnhgndocaaVb
namespace Go.Proofs.Ytlnjfcnhgndocaa
open Go.RowKit Go.Shelf
attribute [local go_sem] Oper.semAt_some

/-- A slice of pairs (a key, a value) below n₀. -/
def PairsAt (n₀ : Nat) (W : World) (sv : Value) (ps : List (W64 × W64)) : Prop :=
  (∃ a cap, sv = .slice a 0 cap ∧ ps = []) ∨ ∃ b off cap, sv = .slice (some ⟨b, off, none⟩) ps.length cap ∧ b < n₀ ∧ ∀ (j : Nat) (p : W64 × W64), ps[j]? = some p → W.cell? ⟨b, off + j * 2, none⟩ = some (I p.1) ∧ W.cell? ⟨b, off + j * 2 + 1, none⟩ = some (I p.2)

theorem PairsAt.below {n₀ : Nat} {A B : World} (h : Below n₀ A B) {sv : Value} {ps : List (W64 × W64)} : PairsAt n₀ A sv ps → PairsAt n₀ B sv ps
  | .inl e => .inl e
  | .inr ⟨b, off, cap, e, hb, hc⟩ => .inr ⟨b, off, cap, e, hb, fun j p hj => ⟨(h.cell (p := ⟨b, off + j * 2, none⟩) hb).trans (hc j p hj).1, (h.cell (p := ⟨b, off + j * 2 + 1, none⟩) hb).trans (hc j p hj).2⟩⟩

/-- The pairs, numbered. -/
def numbered (ps : List (W64 × W64)) : List (W64 × W64 × W64) := ps.zipIdx.map fun x => (BitVec.ofNat 64 x.2, x.1)
theorem numbered_length (ps : List (W64 × W64)) : (numbered ps).length = ps.length := by simp [numbered]
theorem numbered_take (ps : List (W64 × W64)) (k : Nat) (h : k < ps.length) : (numbered ps).take (k + 1) = (numbered ps).take k ++ [(BitVec.ofNat 64 k, ps[k])] := by
  rw [List.take_succ_eq_append_getElem (by rw [numbered_length]; exact h)]
  simp [numbered]

set_option maxRecDepth 100000 in
set_option maxHeartbeats 2000000 in
theorem all1_in (F : Fence) (n : Nat) (hF : F.fn 21) (hro : F.round = none) (hn : 1 ≤ n) (l Bs n₀ b off cap : Nat) (ps : List (W64 × W64)) (hreach : ps.length ≤ 1000000) (hb : b < n₀) (J Jx : List (W64 × W64 × W64) → World → Prop)
    (hY : ∀ pre x W, J pre W → pre.length < ps.length → YieldAt F (n - 1) Try.prog l #[I x.1, .agg #[I x.2.1, I x.2.2]] W fun e W' => (e = .returned (.bool true) ∧ J (pre ++ [x]) W' ∧ Below n₀ W W') ∨ (e = .returned (.bool false) ∧ Jx (pre ++ [x]) W'))
    (W : World) (hJ : AbidesFrom W.heap.size J) (hnW : n₀ ≤ W.heap.size) (hBs : W.cell? ⟨Bs, 0, none⟩ = some (.slice (some ⟨b, off, none⟩) ps.length cap)) (hc : ∀ (j : Nat) (p : W64 × W64), ps[j]? = some p → W.cell? ⟨b, off + j * 2, none⟩ = some (I p.1) ∧ W.cell? ⟨b, off + j * 2 + 1, none⟩ = some (I p.2)) (h0 : J [] W) :
    CallsIn F n Try.prog 21 #[.func (.yield l) #[] #[], .pointer (some ⟨Bs, 0, none⟩)] W fun e W' => (∃ v, e = .returned v) ∧ ((∃ ys, ys = numbered ps ∧ J ys W') ∨ (∃ pre, True ∧ Jx pre W')) := by
  refine callsIn_of_wp Try.func21 rfl hF ?_ hro
  simp only [Try.ntmps21, List.size_toArray, List.length_cons, List.length_nil, Nat.reduceAdd, Nat.reduceSub, Array.replicate_succ, Array.replicate_zero, List.push_toArray, List.append_toArray, List.nil_append, List.cons_append]
  obtain ⟨len, hlen⟩ : ∃ len, ps.length = len := ⟨_, rfl⟩
  rw [hlen] at hBs hreach
  have HL := Lib.hid hlen
  clear hlen
  gi_wp2
  gi_loopw [7] (fun i wr => ∃ k : Nat, k ≤ len ∧ i = .int .i64 k ∧ J ((numbered ps).take k) wr ∧ Below n₀ W wr)
    (fun i _ => len - (intOf i).toNat)
  case atStart => exact ⟨0, Nat.zero_le _, rfl, h0, Below.refl _ _⟩
  case round =>
    obtain ⟨k, hk, rfl, hJs, hnx⟩ := hrel
    by_cases hlt : k < len
    · have hko : k < ps.length := by rw [HL.out]; exact hlt
      obtain ⟨hc0, hc1⟩ := hc k _ (List.getElem?_eq_getElem hko)
      have hT := Lib.hid (numbered_take ps k hko)
      obtain ⟨⟨kk, vv⟩, ho⟩ : ∃ o, ps[k] = o := ⟨_, rfl⟩
      have k0 : wr.cell? ⟨b, off + k * 2, none⟩ = some (I kk) := (hnx.cell (p := ⟨b, off + k * 2, none⟩) hb).trans (by rw [hc0, ho])
      have k1 : wr.cell? ⟨b, off + k * 2 + 1, none⟩ = some (I vv) := (hnx.cell (p := ⟨b, off + k * 2 + 1, none⟩) hb).trans (by rw [hc1, ho])
      have hJa : J ((numbered ps).take k) (wr.alloc (.cells #[I kk, I vv] 36)) := hJ _ _ _ none hJs (World.grownBy_alloc _ _ none) (fun r e => by cases e)
      obtain ⟨fn, tmps, assign, body, hy, hR⟩ := hY ((numbered ps).take k) (BitVec.ofNat 64 k, kk, vv) _ hJa (by rw [List.length_take, numbered_length]; omega)
      have hnx' : Below n₀ W (wr.alloc (.cells #[I kk, I vv] 36)) := hnx.alloc (Nat.le_trans hnW hnx.size) _
      rw [ho] at hT
      dsimp only [I] at hy hR hnx' ⊢
      have hkk : (BitVec.ofNat 64 k).toInt = (k : Int) := by
        rw [BitVec.toInt_eq_toNat_cond, BitVec.toNat_ofNat, Nat.mod_eq_of_lt (by omega), if_pos (by omega)]
      rw [hkk] at hy
      clear hkk
      obtain ⟨pre, hpre⟩ : ∃ pre, (numbered ps).take k = pre := ⟨_, rfl⟩
      rw [hpre] at hJs hJa hR hT
      clear hc hc0 hc1 ho hpre hY
      gi_wp2
      refine hR.mono ?_
      rintro e W3 (⟨rfl, hJ3, hk3⟩ | ⟨rfl, hJx3⟩)
      · gi_wp2
        go_roundw
        case rel => exact ⟨k + 1, by omega, by go_num, by rw [hT.out]; exact hJ3, hnx'.trans hk3⟩
        case measure => simp [intOf]; omega
      · gi_wp2
        refine bodyPost_ret (results_none rfl _ _ _) rfl ?_
        exact ⟨⟨_, rfl⟩, .inr ⟨_, trivial, hJx3⟩⟩
    · obtain rfl : k = len := by omega
      gi_wp2
      go_end0
      exact ⟨⟨_, rfl⟩, .inl ⟨_, by rw [← HL.out, ← numbered_length]; exact List.take_length .. , hJs⟩⟩

set_option maxRecDepth 100000 in
set_option maxHeartbeats 1000000 in
theorem all1_nil_in (F : Fence) (n : Nat) (hF : F.fn 21) (hro : F.round = none) (l Bs : Nat) (a : Option Addr) (cap : Nat) (J : List (W64 × W64 × W64) → World → Prop) (W : World) (hBs : W.cell? ⟨Bs, 0, none⟩ = some (.slice a 0 cap)) (h0 : J [] W) :
    CallsIn F n Try.prog 21 #[.func (.yield l) #[] #[], .pointer (some ⟨Bs, 0, none⟩)] W fun e W' => (∃ v, e = .returned v) ∧ J [] W' := by
  refine callsIn_of_wp Try.func21 rfl hF ?_ hro
  simp only [Try.ntmps21, List.size_toArray, List.length_cons, List.length_nil, Nat.reduceAdd, Nat.reduceSub, Array.replicate_succ, Array.replicate_zero, List.push_toArray, List.append_toArray, List.nil_append, List.cons_append]
  gi_wp2
  gi_loopw [7] (fun i wr => i = .int .i64 0 ∧ J [] wr) (fun _ _ => 0)
  case atStart => exact ⟨rfl, h0⟩
  case round =>
    obtain ⟨rfl, hJs⟩ := hrel
    gi_wp2
    go_end0
    exact ⟨⟨_, rfl⟩, hJs⟩

set_option maxHeartbeats 1000000 in
theorem all_in (F : Fence) (n : Nat) (hF : F.fn 14) (hro : F.round = none) (a : Option Addr) (len cap : Nat) (w : World) :
    CallsIn F n Try.prog 14 #[.slice a len cap] w fun e w' => e = .returned (.func (.func 21) #[] #[.pointer (some ⟨w.heap.size, 0, none⟩)]) ∧ w' = w.alloc (.cells #[.slice a len cap] 22) := by
  refine callsIn_of_wp Try.func14 rfl hF ?_ hro
  simp only [Try.ntmps14, List.size_toArray, List.length_cons, List.length_nil, Nat.reduceAdd, Nat.reduceSub, Array.replicate_succ, Array.replicate_zero, List.push_toArray, List.append_toArray, List.nil_append, List.cons_append]
  gi_wp2
  go_ret
  exact ⟨rfl, rfl⟩

/-- slices.All of pairs. -/
theorem all_stops (F : Fence) (n : Nat) (hF : F.fn 21) (hro : F.round = none) (hn : 1 ≤ n) (Bs n₀ : Nat) (sv : Value) (ps : List (W64 × W64)) (hreach : ps.length ≤ 1000000) (w : World) (hBs : Bs < w.heap.size) (hn₀ : n₀ ≤ w.heap.size)
    (hc : w.cell? ⟨Bs, 0, none⟩ = some sv) (hI : PairsAt n₀ w sv ps) :
    SeqStopsK F n Try.prog 21 #[.pointer (some ⟨Bs, 0, none⟩)] (fun x : W64 × W64 × W64 => #[I x.1, .agg #[I x.2.1, I x.2.2]]) (Below n₀) (fun ys => ys = numbered ps) (fun _ => True) ps.length w := fun l J Jx W hW hJ _ hY h0 => by
  have hc' := (hW.cell (p := ⟨Bs, 0, none⟩) hBs).trans hc
  rcases hI.below (hW.mono hn₀) with ⟨a, cap, rfl, rfl⟩ | ⟨b, off, cap, rfl, hb, hcs⟩
  · exact (all1_nil_in F n hF hro l Bs a cap J W hc' h0).mono fun e W' ⟨he, hj⟩ => ⟨he, .inl ⟨_, rfl, hj⟩⟩
  · refine (all1_in F n hF hro hn l Bs n₀ b off cap ps hreach hb J Jx hY W hJ (Nat.le_trans hn₀ hW.size) hc' hcs h0).mono ?_
    rintro e W' ⟨he, ⟨ys, rfl, hj⟩ | ⟨pre, _, hj⟩⟩
    · exact ⟨he, .inl ⟨_, rfl, hj⟩⟩
    · exact ⟨he, .inr ⟨_, trivial, hj⟩⟩

end Go.Proofs.Ytlnjfcnhgndocaa
