/- The library's iterator slices.Backward over a slice of changes. The condition: the slice lies below n₀. -/
import Derived.RangeFuncNested
import Derived.RangeFuncBound
import Derived.RangeFuncCalls
import Derived.RangeFuncLeaves
import Derived.Shelf.Abstract
import Derived.Shelf.RegionOpen
import Derived.OwnWalkIn
import Derived.TacticsInMore
import Derived.LoopNIn
import Derived.LoopIn
import Derived.Test.YtbpdmncobeiinaaSb
namespace Go.Proofs.Ytbpdmncobeiinaa
open Go.RowKit Go.Shelf
attribute [local go_sem] Oper.semAt_some

abbrev W64 := BitVec 64
abbrev I (x : W64) : Value := .int .i64 x.toInt
/-- A slice, by its parts. -/
abbrev Sl := Option Addr × Nat × Nat
abbrev slv (t : Sl) : Value := .slice t.1 t.2.1 t.2.2
abbrev Ch := ByteArray × Sl × Bool

/-- A slice of changes below n₀. -/
def ChsAt (n₀ : Nat) (W : World) (sv : Value) (cs : List Ch) : Prop :=
  (∃ a cap, sv = .slice a 0 cap ∧ cs = []) ∨ ∃ b off cap, sv = .slice (some ⟨b, off, none⟩) cs.length cap ∧ b < n₀ ∧ ∀ (j : Nat) (c : Ch), cs[j]? = some c → W.cell? ⟨b, off + j * 3, none⟩ = some (.string c.1) ∧ W.cell? ⟨b, off + j * 3 + 1, none⟩ = some (slv c.2.1) ∧ W.cell? ⟨b, off + j * 3 + 2, none⟩ = some (.bool c.2.2)

theorem ChsAt.below {n₀ : Nat} {A B : World} (h : Below n₀ A B) {sv : Value} {cs : List Ch} : ChsAt n₀ A sv cs → ChsAt n₀ B sv cs
  | .inl e => .inl e
  | .inr ⟨b, off, cap, e, hb, hc⟩ => .inr ⟨b, off, cap, e, hb, fun j p hj => ⟨(h.cell (p := ⟨b, off + j * 3, none⟩) hb).trans (hc j p hj).1, (h.cell (p := ⟨b, off + j * 3 + 1, none⟩) hb).trans (hc j p hj).2.1, (h.cell (p := ⟨b, off + j * 3 + 2, none⟩) hb).trans (hc j p hj).2.2⟩⟩

/-- The changes, numbered, the last one first. -/
def rnumbered (cs : List Ch) : List (W64 × Ch) := (cs.zipIdx.map fun x => (BitVec.ofNat 64 x.2, x.1)).reverse
theorem rnumbered_length (cs : List Ch) : (rnumbered cs).length = cs.length := by simp [rnumbered]
theorem rnumbered_take (cs : List Ch) (m p : Nat) (h : p + 1 + m = cs.length) : (rnumbered cs).take (m + 1) = (rnumbered cs).take m ++ [(BitVec.ofNat 64 p, cs[p]'(by omega))] := by
  rw [List.take_succ_eq_append_getElem (by rw [rnumbered_length]; omega)]
  congr 2
  unfold rnumbered
  rw [List.getElem_reverse]
  simp only [List.length_map, List.length_zipIdx, List.getElem_map, List.getElem_zipIdx]
  have e : cs.length - 1 - m = p := by omega
  simp only [e, Nat.zero_add]

theorem toInt_small (k : Nat) (h : k < 4611686018427387904) : (BitVec.ofNat 64 k).toInt = (k : Int) := by
  rw [BitVec.toInt_eq_toNat_cond, BitVec.toNat_ofNat, Nat.mod_eq_of_lt (by omega), if_pos (by omega)]

/-- What lies below n₀, and the iterator's own cell, stay. -/
def KB (n₀ Bs : Nat) (A B : World) : Prop := Below n₀ A B ∧ B.cell? ⟨Bs, 0, none⟩ = A.cell? ⟨Bs, 0, none⟩
theorem KB.refl (n₀ Bs : Nat) (A : World) : KB n₀ Bs A A := ⟨Below.refl _ _, rfl⟩
theorem KB.trans {n₀ Bs : Nat} {A B C : World} (h : KB n₀ Bs A B) (k : KB n₀ Bs B C) : KB n₀ Bs A C := ⟨h.1.trans k.1, k.2.trans h.2⟩
theorem KB.of_mod {n₀ Bs : Nat} {A B : World} {S : Nat → Prop} (h : Mod A B S) (hn : n₀ ≤ A.heap.size) (hB : Bs < A.heap.size) (hS : ∀ k, S k → n₀ ≤ k ∧ k ≠ Bs) : KB n₀ Bs A B :=
  ⟨h.below hn (fun k hk => (hS k hk).1), h.cell hB (fun hs => (hS _ hs).2 rfl)⟩
theorem KB.put {n₀ Bs : Nat} {w : World} (hn : n₀ ≤ w.heap.size) (hB : Bs < w.heap.size) (W : World) (l : Nat) (o o' : Obj) (hl : w.heap.size ≤ l) (ho : W.heap[l]? = some o) (_ : o.isCells = false) (_ : o.isWalk = false) : KB n₀ Bs W (W.putObj l o') :=
  KB.of_mod ((Mod.refl W (· = l)).putObj (.inl rfl) o') (by have := heap_lt ho; omega) (by have := heap_lt ho; omega) (fun k (hk : k = l) => ⟨by omega, by omega⟩)

set_option maxRecDepth 100000 in
set_option maxHeartbeats 2000000 in
theorem back1_in (F : Fence) (n : Nat) (hF : F.fn 57) (hro : F.round = none) (hn : 1 ≤ n) (l Bs n₀ b off cap : Nat) (cs : List Ch) (hreach : cs.length ≤ 1073741824) (hb : b < n₀) (J Jx : List (W64 × Ch) → World → Prop)
    (hY : ∀ pre x W, J pre W → pre.length < cs.length → YieldAt F (n - 1) Try.prog l #[I x.1, .agg #[.string x.2.1, slv x.2.2.1, .bool x.2.2.2]] W fun e W' => (e = .returned (.bool true) ∧ J (pre ++ [x]) W' ∧ KB n₀ Bs W W') ∨ (e = .returned (.bool false) ∧ Jx (pre ++ [x]) W'))
    (W : World) (hBs : W.cell? ⟨Bs, 0, none⟩ = some (.slice (some ⟨b, off, none⟩) cs.length cap)) (hc : ∀ (j : Nat) (c : Ch), cs[j]? = some c → W.cell? ⟨b, off + j * 3, none⟩ = some (.string c.1) ∧ W.cell? ⟨b, off + j * 3 + 1, none⟩ = some (slv c.2.1) ∧ W.cell? ⟨b, off + j * 3 + 2, none⟩ = some (.bool c.2.2)) (h0 : J [] W) :
    CallsIn F n Try.prog 57 #[.func (.yield l) #[] #[], .pointer (some ⟨Bs, 0, none⟩)] W fun e W' => (∃ v, e = .returned v) ∧ ((∃ ys, ys = rnumbered cs ∧ J ys W') ∨ (∃ pre, True ∧ Jx pre W')) := by
  refine callsIn_of_wp Try.func57 rfl hF ?_ hro
  simp only [Try.ntmps57, List.size_toArray, List.length_cons, List.length_nil, Nat.reduceAdd, Nat.reduceSub, Array.replicate_succ, Array.replicate_zero, List.push_toArray, List.append_toArray, List.nil_append, List.cons_append]
  obtain ⟨len, hlen⟩ : ∃ len, cs.length = len := ⟨_, rfl⟩
  rw [hlen] at hBs hreach
  have HL := Lib.hid hlen
  clear hlen
  gi_wp2
  gi_loopw [3] (fun i wr => ∃ p m : Nat, p + m = len ∧ i = .int .i64 ((p : Int) - 1) ∧ J ((rnumbered cs).take m) wr ∧ KB n₀ Bs W wr)
    (fun i _ => (intOf i + 1).toNat)
  case atStart => exact ⟨len, 0, by omega, rfl, h0, KB.refl _ _ _⟩
  case round =>
    obtain ⟨p, m, hk, rfl, hJs, hnx⟩ := hrel
    cases p with
    | succ p =>
      have e0 : (((p + 1 : Nat) : Int) - 1) = (p : Int) := by omega
      rw [e0]
      have hko : p < cs.length := by rw [HL.out]; omega
      have hplen : p < len := by omega
      obtain ⟨hc0, hc1, hc2⟩ := hc p _ (List.getElem?_eq_getElem hko)
      have hT := Lib.hid (rnumbered_take cs m p (by rw [HL.out]; exact hk))
      obtain ⟨⟨nm, ⟨va, vn, vc⟩, is⟩, ho⟩ : ∃ o, cs[p] = o := ⟨_, rfl⟩
      have kb : wr.cell? ⟨Bs, 0, none⟩ = some (.slice (some ⟨b, off, none⟩) len cap) := hnx.2.trans hBs
      have k0 : wr.cell? ⟨b, off + p * 3, none⟩ = some (.string nm) := (hnx.1.cell (p := ⟨b, off + p * 3, none⟩) hb).trans (by rw [hc0, ho])
      have k1 : wr.cell? ⟨b, off + p * 3 + 1, none⟩ = some (.slice va vn vc) := (hnx.1.cell (p := ⟨b, off + p * 3 + 1, none⟩) hb).trans (by rw [hc1, ho])
      have k2 : wr.cell? ⟨b, off + p * 3 + 2, none⟩ = some (.bool is) := (hnx.1.cell (p := ⟨b, off + p * 3 + 2, none⟩) hb).trans (by rw [hc2, ho])
      obtain ⟨fn, tmps, assign, body, hy, hR⟩ := hY ((rnumbered cs).take m) (BitVec.ofNat 64 p, nm, (va, vn, vc), is) _ hJs (by rw [List.length_take, rnumbered_length, HL.out]; omega)
      rw [ho] at hT
      dsimp only [I, slv] at hy hR
      rw [toInt_small p (by omega)] at hy
      obtain ⟨pre, hpre⟩ : ∃ pre, (rnumbered cs).take m = pre := ⟨_, rfl⟩
      rw [hpre] at hJs hR hT
      clear hc hc0 hc1 hc2 ho hpre hY hBs e0
      gi_wp2
      refine hR.mono ?_
      rintro e W3 (⟨rfl, hJ3, hk3⟩ | ⟨rfl, hJx3⟩)
      · gi_wp2
        go_roundw
        case rel => exact ⟨p, m + 1, by omega, by first | rfl | go_num, by rw [hT.out]; exact hJ3, hnx.trans hk3⟩
        case measure => simp [intOf]
      · gi_wp2
        refine bodyPost_ret (results_none rfl _ _ _) rfl ?_
        exact ⟨⟨_, rfl⟩, .inr ⟨_, trivial, hJx3⟩⟩
    | zero =>
      obtain rfl : m = len := by omega
      have e0 : (((0 : Nat) : Int) - 1) = -1 := by omega
      rw [e0]
      clear e0
      gi_wp2
      go_end0
      exact ⟨⟨_, rfl⟩, .inl ⟨_, by rw [← HL.out, ← rnumbered_length]; exact List.take_length .. , hJs⟩⟩

set_option maxRecDepth 100000 in
set_option maxHeartbeats 1000000 in
theorem back1_nil_in (F : Fence) (n : Nat) (hF : F.fn 57) (hro : F.round = none) (l Bs : Nat) (a : Option Addr) (cap : Nat) (J : List (W64 × Ch) → World → Prop) (W : World) (hBs : W.cell? ⟨Bs, 0, none⟩ = some (.slice a 0 cap)) (h0 : J [] W) :
    CallsIn F n Try.prog 57 #[.func (.yield l) #[] #[], .pointer (some ⟨Bs, 0, none⟩)] W fun e W' => (∃ v, e = .returned v) ∧ J [] W' := by
  refine callsIn_of_wp Try.func57 rfl hF ?_ hro
  simp only [Try.ntmps57, List.size_toArray, List.length_cons, List.length_nil, Nat.reduceAdd, Nat.reduceSub, Array.replicate_succ, Array.replicate_zero, List.push_toArray, List.append_toArray, List.nil_append, List.cons_append]
  gi_wp2
  gi_loopw [3] (fun i wr => i = .int .i64 (-1) ∧ J [] wr) (fun _ _ => 0)
  case atStart => exact ⟨rfl, h0⟩
  case round =>
    obtain ⟨rfl, hJs⟩ := hrel
    gi_wp2
    go_end0
    exact ⟨⟨_, rfl⟩, hJs⟩

theorem back_any (a : Option Addr) (len cap : Nat) (w : World) :
    Calls Try.prog 37 #[.slice a len cap] w fun e w' => e = .returned (.func (.func 57) #[] #[.pointer (some ⟨w.heap.size, 0, none⟩)]) ∧ w' = w.alloc (.cells #[.slice a len cap] 64) := by
  go_enter Try.func37, Try.ntmps37
  go_wp2_with fail
  go_ret
  exact ⟨rfl, rfl⟩

/-- slices.Backward of changes. -/
theorem back_stops (F : Fence) (n : Nat) (hF : F.fn 57) (hro : F.round = none) (hn : 1 ≤ n) (Bs n₀ : Nat) (sv : Value) (cs : List Ch) (hreach : cs.length ≤ 1073741824) (w : World) (hBs : Bs < w.heap.size) (hn₀ : n₀ ≤ w.heap.size)
    (hc : w.cell? ⟨Bs, 0, none⟩ = some sv) (hI : ChsAt n₀ w sv cs) :
    SeqStopsK F n Try.prog 57 #[.pointer (some ⟨Bs, 0, none⟩)] (fun x : W64 × Ch => #[I x.1, .agg #[.string x.2.1, slv x.2.2.1, .bool x.2.2.2]]) (KB n₀ Bs) (fun ys => ys = rnumbered cs) (fun _ => True) cs.length w := fun l J Jx W hW _ _ hY h0 => by
  have hc' := (hW.cell (p := ⟨Bs, 0, none⟩) hBs).trans hc
  rcases hI.below (hW.mono hn₀) with ⟨a, cap, rfl, rfl⟩ | ⟨b, off, cap, rfl, hb, hcs⟩
  · exact (back1_nil_in F n hF hro l Bs a cap J W hc' h0).mono fun e W' ⟨he, hj⟩ => ⟨he, .inl ⟨_, rfl, hj⟩⟩
  · refine (back1_in F n hF hro hn l Bs n₀ b off cap cs hreach hb J Jx hY W hc' hcs h0).mono ?_
    rintro e W' ⟨he, ⟨ys, rfl, hj⟩ | ⟨pre, _, hj⟩⟩
    · exact ⟨he, .inl ⟨_, rfl, hj⟩⟩
    · exact ⟨he, .inr ⟨_, trivial, hj⟩⟩

end Go.Proofs.Ytbpdmncobeiinaa
