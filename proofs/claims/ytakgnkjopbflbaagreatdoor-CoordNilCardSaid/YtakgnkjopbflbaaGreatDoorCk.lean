/- Bytes piece by piece: slices.Chunk. No condition but sizes. -/
import Derived.RangeFuncNested
import Derived.RangeFuncBound
import Derived.RangeFuncCalls
import Derived.RangeFuncLeaves
import Derived.Shelf.Abstract
import Derived.Shelf.RegionOpen
import Derived.OwnWalkIn
import Derived.TacticsInMore
import Derived.LoopNIn
import Derived.LoopIn
import Derived.Sort.QuietIn
import Derived.Test.YtakgnkjopbflbaaGreatDoorCj
namespace Go.Proofs.YtakgnkjopbflbaaGreatDoor
open Go.RowKit Go.Shelf
attribute [local go_sem] Oper.semAt_some

/-- How long a piece is. -/
def pieceLen (N q j : Nat) : Nat := min q (N - q * j)
/-- A piece. -/
def pieceV (b o N q j : Nat) : Value := .slice (some ⟨b, o + q * j, none⟩) (pieceLen N q j) (pieceLen N q j)
/-- How many pieces there are. -/
def pieceN (N q : Nat) : Nat := (N + (q - 1)) / q
theorem pieceN_iff (N q j : Nat) (hq : 1 ≤ q) : j < pieceN N q ↔ q * j < N := by
  unfold pieceN
  rw [Nat.lt_div_iff_mul_lt (by omega), Nat.mul_comm j q]
  omega

/-- The iterator's own cells stay. -/
def KC (Bs : Nat) (A B : World) : Prop := B.heap[Bs]? = A.heap[Bs]? ∧ B.heap[Bs + 1]? = A.heap[Bs + 1]?
theorem KC.refl (Bs : Nat) (A : World) : KC Bs A A := ⟨rfl, rfl⟩
theorem KC.trans {Bs : Nat} {A B C : World} (h : KC Bs A B) (k : KC Bs B C) : KC Bs A C := ⟨k.1.trans h.1, k.2.trans h.2⟩
theorem KC.cells {Bs : Nat} {A B : World} (h : KC Bs A B) {cs : Array Value} {t : TypeId} (c : CellsAt A Bs cs t) : CellsAt B Bs cs t := h.1.trans c
theorem KC.cells1 {Bs : Nat} {A B : World} (h : KC Bs A B) {cs : Array Value} {t : TypeId} (c : CellsAt A (Bs + 1) cs t) : CellsAt B (Bs + 1) cs t := h.2.trans c

theorem run_piece (W : World) (b o N c P e : Nat) (he : 1 ≤ e) (hP : P + e ≤ N) (hN : N ≤ c) :
    (Instr.slice 43 (.slice (some ⟨b, o, none⟩) N c) (some (.int .i64 (P : Int))) (some (.int .i64 ((P + e : Nat) : Int))) (some (.int .i64 ((P + e : Nat) : Int)))).run Tryz.prog W = .ok (.slice (some ⟨b, o + P, none⟩) e e) W := by
  have hel := elem_u8
  rw [run_slice_lhm W 43 (some ⟨b, o, none⟩) N c (by rw [hel]; exact Tryz.underlying43) .i64 .i64 .i64 _ _ _ (by omega) (by omega) (Int.le_refl _) (by omega), hel, size_u8]
  rw [Int.toNat_natCast, Int.toNat_natCast]
  have h0 : e ≠ 0 := by omega
  have h1 : P + e - P = e := by omega
  simp [Result.andThen, sliced, Addr.add, h1]
  rw [if_neg h0]
  split
  · rename_i hp; rw [hp]; rfl
  · rfl

set_option maxRecDepth 100000 in
set_option maxHeartbeats 1000000 in
theorem chunk_any (a : Option Addr) (n c : Nat) (q : Nat) (hq : 1 ≤ q) (w : World) :
    Calls Tryz.prog 125 #[.slice a n c, .int .i64 q] w fun e w' => e = .returned (.func (.func 143) #[] #[.pointer (some ⟨w.heap.size, 0, none⟩), .pointer (some ⟨w.heap.size + 1, 0, none⟩)]) ∧
      w' = (w.alloc (.cells #[.slice a n c] 43)).alloc (.cells #[.int .i64 q] 3) := by
  have hq2 : ¬ (q : Int) < 1 := by omega
  go_enter Tryz.func125, Tryz.ntmps125
  go_wp2_with fail
  go_ret
  exact ⟨rfl, rfl⟩

set_option maxRecDepth 100000 in
set_option maxHeartbeats 2000000 in
theorem chunk_in (n : Nat) (hn : 1 ≤ n) (l Bs b o N c q : Nat) (hq : 1 ≤ q) (hq2 : q ≤ 1000) (hN : N ≤ c) (hN2 : N ≤ 1099511627776) (J Jx : Nat → World → Prop)
    (hY : ∀ j W, J j W → j < pieceN N q → YieldAt Fence.wide (n - 1) Tryz.prog l #[pieceV b o N q j] W fun e W' => (e = .returned (.bool true) ∧ J (j + 1) W' ∧ KC Bs W W') ∨ (e = .returned (.bool false) ∧ Jx (j + 1) W'))
    (hJd : ∀ j A B, J j A → (∃ k, B = A.drewN k) → J j B)
    (W : World) (hb1 : CellsAt W Bs #[.slice (some ⟨b, o, none⟩) N c] 43) (hb2 : CellsAt W (Bs + 1) #[.int .i64 q] 3) (h0 : J 0 W) :
    CallsIn Fence.wide n Tryz.prog 143 #[.func (.yield l) #[] #[], .pointer (some ⟨Bs, 0, none⟩), .pointer (some ⟨Bs + 1, 0, none⟩)] W fun e W' => (∃ v, e = .returned v) ∧ (J (pieceN N q) W' ∨ ∃ j, Jx j W') := by
  refine callsIn_of_wp Tryz.func143 rfl trivial ?_ rfl
  simp only [Tryz.ntmps143, List.size_toArray, List.length_cons, List.length_nil, Nat.reduceAdd, Nat.reduceSub, Array.replicate_succ, Array.replicate_zero, List.push_toArray, List.append_toArray, List.nil_append, List.cons_append]
  gi_wp2
  gi_loopw [4, 5] (fun i _ wr => ∃ j : Nat, j ≤ pieceN N q ∧ i = .int .i64 ((q * j : Nat) : Int) ∧ J j wr ∧ KC Bs W wr)
    (fun i _ _ => (N + q - (intOf i).toNat))
  case atStart => exact ⟨0, Nat.zero_le _, by simp, h0, KC.refl _ _⟩
  case round =>
    obtain ⟨j, hj, rfl, hJs, hk⟩ := hrel
    have c1 := (hk.cells hb1).cell 0
    have c2 := (hk.cells1 hb2).cell 0
    simp at c1 c2
    by_cases hlt : j < pieceN N q
    · have hlt2 := (pieceN_iff N q j hq).1 hlt
      obtain ⟨e, he⟩ : ∃ e, pieceLen N q j = e := ⟨_, rfl⟩
      have heb : 1 ≤ e ∧ e = min q (N - q * j) := by rw [← he]; unfold pieceLen; omega
      obtain ⟨P, hP⟩ : ∃ P, q * j = P := ⟨_, rfl⟩
      rw [hP] at hlt2 heb
      rw [hP]
      have hrun := fun W => run_piece W b o N c P e heb.1 (by omega) hN
      simp only [Int.natCast_add] at hrun
      have hdl : (P : Int) < (N : Int) := by omega
      have hsl : ∀ W, (Instr.slice 43 (.slice (some ⟨b, o, none⟩) N c) (some (.int .i64 (P : Int))) none none).run Tryz.prog W = .ok (.slice (some ⟨b, o + P, none⟩) (N - P) (c - P)) W := fun W => by
        have he := elem_u8
        rw [run_slice_l W 43 (some ⟨b, o, none⟩) N c (by rw [he]; exact Tryz.underlying43) .i64 (P : Int) (by omega) (by omega), he, size_u8]
        have hcP : c ≠ P := by omega
        simp [Result.andThen, sliced, Addr.add, hcP]
      have HP := Lib.hid hP
      have HE := Lib.hid he
      have hif : (if N - P < q then ((N - P : Nat) : Int) else (q : Int)) = (e : Int) := by split <;> omega
      have hpe : (P : Int) + (e : Int) ≤ 1099511627776 := by omega
      have he1 := heb.1
      have heq : e ≤ q := by omega
      have hePN : P + e ≤ N := by omega
      clear hP he heb
      gi_wp2
      gi_quiet (fail)
      have hJ2 := hJd _ _ (wr.drewN nq) hJs ⟨nq, rfl⟩
      have hk2 : KC Bs W (wr.drewN nq) := hk.trans ⟨rfl, rfl⟩
      have c1' : (wr.drewN nq).cell? ⟨Bs, 0, none⟩ = some (.slice (some ⟨b, o, none⟩) N c) := c1
      obtain ⟨V, hV⟩ : ∃ V, wr.drewN nq = V := ⟨_, rfl⟩
      rw [hV] at hJ2 hk2 c1' ⊢
      clear hV hJs hk c1 c2 hif hsl
      obtain ⟨fn, tmps, assign, body, hy, hR⟩ := hY j V hJ2 hlt
      unfold pieceV at hy
      rw [HP.out, HE.out] at hy
      clear hY hJ2
      gi_wp2
      refine hR.mono ?_
      rintro e0 W3 (⟨rfl, hJ3, hk3⟩ | ⟨rfl, hJx3⟩)
      · have hk4 := hk2.trans hk3
        have c2' : W3.cell? ⟨Bs + 1, 0, none⟩ = some (.int .i64 q) := by
          have := (hk4.cells1 hb2).cell 0
          simpa using this
        have hsum : (P : Int) + (q : Int) ≤ 1099511628776 := by omega
        clear hb1 hb2 hk3 c1'
        gi_wp2
        go_roundw
        case rel =>
          have e5 : q * (j + 1) = P + q := by rw [Nat.mul_succ, HP.out]
          exact ⟨j + 1, hlt, by rw [e5]; go_num, hJ3, hk4⟩
        case measure => simp [intOf]; omega
      · gi_wp2
        refine bodyPost_ret (results_none rfl _ _ _) rfl ?_
        exact ⟨⟨_, rfl⟩, .inr ⟨_, hJx3⟩⟩
    · obtain rfl : j = pieceN N q := by omega
      have hge : ¬ q * pieceN N q < N := fun h => hlt ((pieceN_iff N q _ hq).2 h)
      obtain ⟨P, hP⟩ : ∃ P, q * pieceN N q = P := ⟨_, rfl⟩
      rw [hP] at hge ⊢
      have hge2 : ¬ (P : Int) < (N : Int) := by omega
      clear hP hb1 hb2 hY
      gi_wp2
      go_end0
      exact ⟨⟨_, rfl⟩, .inl hJs⟩

theorem grown_drewN (w : World) (n : Nat) (row : Option Nat) : w.grownBy (w.drewN n) row := ⟨rfl, rfl, rfl, Nat.le_refl _, fun _ _ _ => rfl⟩

/-- slices.Chunk of bytes. -/
theorem chunk_stops (n : Nat) (hn : 1 ≤ n) (Bs b o N c q : Nat) (hq : 1 ≤ q) (hq2 : q ≤ 1000) (hN : N ≤ c) (hN2 : N ≤ 1099511627776) (w : World) (h1 : CellsAt w Bs #[.slice (some ⟨b, o, none⟩) N c] 43) (h2 : CellsAt w (Bs + 1) #[.int .i64 q] 3) :
    SeqStopsK Fence.wide n Tryz.prog 143 #[.pointer (some ⟨Bs, 0, none⟩), .pointer (some ⟨Bs + 1, 0, none⟩)] (fun x : Fin (pieceN N q) => #[pieceV b o N q x.val]) (KC Bs) (fun ys => ys.map Fin.val = List.range (pieceN N q)) (fun _ => True) (pieceN N q) w := fun l J Jx W hW hJ hJx hY h0 => by
  have e1 : CellsAt W Bs #[.slice (some ⟨b, o, none⟩) N c] 43 := (hW.block Bs h1.lt).trans h1
  have e2 : CellsAt W (Bs + 1) #[.int .i64 q] 3 := (hW.block (Bs + 1) h2.lt).trans h2
  refine (chunk_in n hn l Bs b o N c q hq hq2 hN hN2 (fun j W => ∃ p : List (Fin (pieceN N q)), p.map Fin.val = List.range j ∧ J p W) (fun _ W => ∃ p, Jx p W) ?_ ?_ W e1 e2 ⟨[], rfl, h0⟩).mono ?_
  · rintro j W1 ⟨p, hp, hJp⟩ hlt
    have hpl : p.length < pieceN N q := by
      have := congrArg List.length hp
      simp at this
      omega
    obtain ⟨fn, tmps, assign, body, hy, hR⟩ := hY p ⟨j, hlt⟩ W1 hJp hpl
    refine ⟨fn, tmps, assign, body, hy, hR.mono ?_⟩
    rintro e W' (⟨he, h3, h4⟩ | ⟨he, h3⟩)
    · exact .inl ⟨he, ⟨_, by rw [List.map_append, hp, List.range_succ]; rfl, h3⟩, h4⟩
    · exact .inr ⟨he, _, h3⟩
  · rintro j A B' ⟨p, hp, hJp⟩ ⟨k, rfl⟩
    exact ⟨p, hp, hJ p A _ none hJp (grown_drewN A k none) (fun r e => by cases e)⟩
  · rintro e W' ⟨he, ⟨p, hp, hJp⟩ | ⟨_, p, hJp⟩⟩
    · exact ⟨he, .inl ⟨p, hp, hJp⟩⟩
    · exact ⟨he, .inr ⟨p, trivial, hJp⟩⟩

end Go.Proofs.YtakgnkjopbflbaaGreatDoor
