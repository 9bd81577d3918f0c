/- The blocks from a counter on: chacha.Blocks. The condition: the key has 32 bytes, the nonce 12. -/
import Derived.Test.YtaeociedjdgdfaaGreatDoorDa
import Derived.Test.YtaeociedjdgdfaaGreatDoorBh
import Derived.Test.YtaeociedjdgdfaaGreatDoorCq
namespace Go.Proofs.YtaeociedjdgdfaaGreatDoor
open Go.RowKit Go.Shelf
attribute [local go_sem] Oper.semAt_some

set_option maxRecDepth 100000 in
set_option maxHeartbeats 1000000 in
theorem blocks_any (ks ns : Array Value) (ctr : UInt32) (w : World) :
    Calls Tryz.prog 131 #[.agg ks, .agg ns, V32 ctr] w fun e w' => e = .returned (.func (.func 156) #[] #[.pointer (some ⟨w.heap.size + 1 + 1, 0, none⟩), .pointer (some ⟨w.heap.size, 0, none⟩), .pointer (some ⟨w.heap.size + 1, 0, none⟩)]) ∧
      w' = ((w.alloc (.cells ks 22)).alloc (.cells ns 47)).alloc (.cells #[V32 ctr] 99) := by
  go_enter Tryz.func131, Tryz.ntmps131
  go_wp2_with fail
  go_ret
  exact ⟨rfl, rfl⟩

/-- The counter of a block. -/
def ctrAt (ctr : UInt32) (j : Nat) : UInt32 := ctr + UInt32.ofNat j
theorem ctrAt_succ (ctr : UInt32) (j : Nat) : ctrAt ctr j + 1 = ctrAt ctr (j + 1) := by
  unfold ctrAt
  rw [UInt32.add_assoc]
  congr 1
  apply UInt32.toNat_inj.1
  simp
/-- What a round yields. -/
def BlockIs (key nonce : List UInt8) (ctr : UInt32) (pre : List Value) (x : Value) (_ : World) : Prop := x = .agg (arrB (blockL key (ctrAt ctr pre.length) nonce))

set_option maxRecDepth 100000 in
set_option maxHeartbeats 2000000 in
theorem blocks_in (n : Nat) (hn : 1 ≤ n) (l Bs N : Nat) (key nonce : List UInt8) (ctr : UInt32) (S : Nat → Prop) (hk : key.length = 32) (hnl : nonce.length = 12) (J Jx : List Value → World → Prop) (W : World) (hJa : AbidesFrom W.heap.size J)
    (hS1 : ¬ S Bs) (hS2 : ¬ S (Bs + 1)) (hN : ∀ pre W1, J pre W1 → pre.length < N)
    (hY : ∀ pre x W, J pre W → BlockIs key nonce ctr pre x W → pre.length < N → YieldAt Fence.wide (n - 1) Tryz.prog l #[x] W fun e W' => (e = .returned (.bool true) ∧ J (pre ++ [x]) W' ∧ KX S W W') ∨ (e = .returned (.bool false) ∧ Jx (pre ++ [x]) W'))
    (h1 : CellsAt W Bs (arrB key) 22) (h2 : CellsAt W (Bs + 1) (arrB nonce) 47) (h3 : CellsAt W (Bs + 1 + 1) #[V32 ctr] 99) (h0 : J [] W) :
    CallsIn Fence.wide n Tryz.prog 156 #[.func (.yield l) #[] #[], .pointer (some ⟨Bs + 1 + 1, 0, none⟩), .pointer (some ⟨Bs, 0, none⟩), .pointer (some ⟨Bs + 1, 0, none⟩)] W fun e W' => (∃ v, e = .returned v) ∧ ∃ pre, Jx pre W' := by
  refine callsIn_of_wp Tryz.func156 rfl trivial ?_ rfl
  simp only [Tryz.ntmps156, List.size_toArray, List.length_cons, List.length_nil, Nat.reduceAdd, Nat.reduceSub, Array.replicate_succ, Array.replicate_zero, List.push_toArray, List.append_toArray, List.nil_append, List.cons_append]
  have c3 := h3.cell 0
  simp at c3
  have hc0 : V32 ctr = V32 (ctrAt ctr 0) := by unfold ctrAt; simp
  gi_wp2
  gi_loopg [5] N (fun k t wr => ∃ j : Nat, j + k = N ∧ t = V32 (ctrAt ctr j) ∧ ∃ xs : List Value, xs.length = j ∧ J xs wr ∧ W.heap.size ≤ wr.heap.size ∧ CellsAt wr Bs (arrB key) 22 ∧ CellsAt wr (Bs + 1) (arrB nonce) 47)
  case atStart => exact ⟨0, by omega, rfl, [], rfl, h0, Nat.le_refl _, h1, h2⟩
  case round =>
    clear h0 h1 h2 h3 c3 hc0
    obtain ⟨j, hj, rfl, xs, hxl, hJs, hsz, h1, h2⟩ := hrel
    have hlt := hN xs wr hJs
    have hblk := block_any key nonce (ctrAt ctr j) wr hk hnl
    have ks : Box ((arrB key).size = 32) := ⟨by rw [arrB_size, hk]⟩
    have ns : Box ((arrB nonce).size = 12) := ⟨by rw [arrB_size, hnl]⟩
    have hadd := n32_add (ctrAt ctr j) 1
    rw [ctrAt_succ] at hadd
    have hone : n32 1 = 1 := rfl
    rw [hone] at hadd
    obtain ⟨c, hc⟩ : ∃ c, ctrAt ctr j = c := ⟨_, rfl⟩
    obtain ⟨c', hc'⟩ : ∃ c', ctrAt ctr (j + 1) = c' := ⟨_, rfl⟩
    obtain ⟨out, ho⟩ : ∃ out, blockL key (ctrAt ctr j) nonce = out := ⟨_, rfl⟩
    rw [ho] at hblk
    rw [hc] at hblk hadd
    rw [hc'] at hadd
    have HO : Box (blockL key (ctrAt ctr xs.length) nonce = out) := ⟨by rw [hxl, ho]⟩
    have HC : Box (ctrAt ctr (j + 1) = c') := ⟨hc'⟩
    have HJ := Lib.hid hj
    have HX := Lib.hid hxl
    rw [hc]
    have hblk2 := (callsIn_wide (n := n - 1)).2 hblk
    clear hc hc' ho hj hblk
    gi_wp2_with (first
      | (refine wpListIn_load_arr rfl 22 _ rfl Bs 32 5 rfl (arrB key) (by exact h1) Tryz.underlying22 size_b32 ks.out ?_)
      | (refine wpListIn_load_arr rfl 47 _ rfl (Bs + 1) 12 5 rfl (arrB nonce) (by exact h2) Tryz.underlying47 size_b12 ns.out ?_))
    refine ⟨trivial, hblk2.mono ?_⟩
    rintro e W2 ⟨rfl, m1⟩
    have hJ2 := hJa xs wr W2 none hJs (grown_of_mod m1) (fun r e => by cases e)
    have h1' := h1.mod m1 nob
    have h2' := h2.mod m1 nob
    have hsz2 := Nat.le_trans hsz m1.size
    obtain ⟨fn, tmps, assign, body, hy, hR⟩ := hY xs (.agg (arrB out)) W2 hJ2 (by show _ = _; rw [HO.out]) hlt
    have HXS : Hid ((xs ++ [Value.agg (arrB out)]).length = j + 1) := by rw [List.length_append, hxl]; exact rfl
    clear hblk2 hJs hY hxl h1 h2 m1 hone
    gi_wp2
    refine hR.mono ?_
    rintro e W3 (⟨rfl, hJ3, hk3⟩ | ⟨rfl, hJx3⟩)
    · have b1 := hk3.cells h1' hS1
      have b2 := hk3.cells h2' hS2
      have hz3 := Nat.le_trans hsz2 hk3.size
      clear hk3 h1' h2' hsz2
      gi_wp2
      go_roundg (gk - 1)
      case measure => have := HJ.out; have := HX.out; omega
      case rel => exact ⟨j + 1, by have := HJ.out; have := HX.out; omega, by rw [HC.out], _, HXS.out, hJ3, hz3, b1, b2⟩
    · gi_wp2
      go_end0
      exact ⟨⟨_, rfl⟩, _, hJx3⟩

/-- chacha.Blocks, as it is ranged over. -/
theorem blocks_ever (n : Nat) (hn : 1 ≤ n) (Bs N : Nat) (key nonce : List UInt8) (ctr : UInt32) (S : Nat → Prop) (hk : key.length = 32) (hnl : nonce.length = 12) (w : World) (hS1 : ¬ S Bs) (hS2 : ¬ S (Bs + 1))
    (h1 : CellsAt w Bs (arrB key) 22) (h2 : CellsAt w (Bs + 1) (arrB nonce) 47) (h3 : CellsAt w (Bs + 1 + 1) #[V32 ctr] 99) :
    SeqEver n Tryz.prog 156 #[.pointer (some ⟨Bs + 1 + 1, 0, none⟩), .pointer (some ⟨Bs, 0, none⟩), .pointer (some ⟨Bs + 1, 0, none⟩)] (fun x : Value => #[x]) (KX S) (BlockIs key nonce ctr) (fun _ => True) N w := fun l J Jx W hW hJ hJx hN hY h0 => by
  refine (blocks_in n hn l Bs N key nonce ctr S hk hnl J Jx W hJ hS1 hS2 hN hY ((hW.block Bs h1.lt).trans h1) ((hW.block (Bs + 1) h2.lt).trans h2) ((hW.block (Bs + 1 + 1) h3.lt).trans h3) h0).mono ?_
  rintro e W' ⟨he, pre, hx⟩
  exact ⟨he, pre, trivial, hx⟩

end Go.Proofs.YtaeociedjdgdfaaGreatDoor
