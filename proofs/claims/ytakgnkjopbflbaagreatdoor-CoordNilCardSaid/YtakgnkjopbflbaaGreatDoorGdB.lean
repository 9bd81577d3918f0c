/- What stands while a coordinator's tasks are counted. No condition. -/
import Derived.Test.YtakgnkjopbflbaaGreatDoorGdA
import Derived.Test.YtakgnkjopbflbaaGreatDoorBn
import Derived.Test.YtakgnkjopbflbaaGreatDoorJg
import Derived.Test.YtakgnkjopbflbaaGreatDoorBi
import Derived.Test.YtakgnkjopbflbaaGreatDoorBm
namespace Go.Proofs.YtakgnkjopbflbaaGreatDoor
open Go.RowKit Go.Shelf
set_option linter.unusedSimpArgs false

structure TskV where
  kd : Int
  rd : Int
  a : Int
  b : Int
  u : Bool
def parA (r k b wk : Nat) : Array Value := #[.int .i64 r, .int .i64 k, .int .i64 b, .int .i64 wk]
def tskE (x : Nat × TskV) : Array Value := #[.int .i64 x.1, taskA x.2.kd x.2.rd x.2.a x.2.b x.2.u]
def KT (Bs : Nat) (A B : World) : Prop := B.heap[Bs]? = A.heap[Bs]?

set_option maxRecDepth 100000 in
set_option maxHeartbeats 400000 in
theorem tasks_any (r k b wk : Nat) (w : World) : Calls Tryz.prog 26 #[.agg (parA r k b wk)] w fun e w' => e = .returned (.func (.func 55) #[] #[.pointer (some ⟨w.heap.size, 0, none⟩)]) ∧ w' = w.alloc (.cells (parA r k b wk) 24) := by
  unfold parA
  go_enter Tryz.func26, Tryz.ntmps26
  go_wp2_with fail
  go_ret
  exact ⟨rfl, rfl⟩

set_option maxRecDepth 100000 in
set_option maxHeartbeats 4000000 in
theorem tasks_in (n : Nat) (hn : 2 ≤ n) (l Bs : Nat) (r k b wk : Nat) (hf : fitQ r k b wk) (N : Nat) (hNN : (planP r k b).count = N) (J Jx : List (Nat × TskV) → World → Prop) (W : World) (hJa : AbidesFrom W.heap.size J)
    (hY : ∀ pre y W1, J pre W1 → y.1 < N → pre.length < N → YieldAt Fence.wide (n - 1) Tryz.prog l (tskE y) W1 fun e W' => (e = .returned (.bool true) ∧ J (pre ++ [y]) W' ∧ KT Bs W1 W') ∨ (e = .returned (.bool false) ∧ Jx (pre ++ [y]) W'))
    (h1 : CellsAt W Bs (parA r k b wk) 24) (h0 : J [] W) :
    CallsIn Fence.wide n Tryz.prog 55 #[.func (.yield l) #[] #[], .pointer (some ⟨Bs, 0, none⟩)] W fun e W' => (∃ v, e = .returned v) ∧ ((∃ ys, ys.map (·.1) = List.range N ∧ J ys W') ∨ (∃ pre, Jx pre W')) := by
  have hc := count_q r k b wk hf
  rw [hNN] at hc
  have htk := fun i hi => task_w r k b wk hf i hi
  rw [hNN] at htk
  have HTK := Lib.hid htk
  have HC := Lib.hid hc
  have hN1 := (plan_nums (planP_ok hf)).2.2.2.2.2
  rw [hNN] at hN1
  clear htk hc hNN hf
  unfold parA at h1
  refine callsIn_of_wp Tryz.func55 rfl trivial ?_ rfl
  simp only [Tryz.ntmps55, List.size_toArray, List.length_cons, List.length_nil, Nat.reduceAdd, Nat.reduceSub, Array.replicate_succ, Array.replicate_zero, List.push_toArray, List.append_toArray, List.nil_append, List.cons_append]
  gi_wp2
  refine wpIn_scope_straight ?_
  gi_wp2
  refine wpIn_label ?_
  have c0 := h1.cell 0
  have c1 := h1.cell 1
  have c2 := h1.cell 2
  have c3 := h1.cell 3
  simp at c0 c1 c2 c3
  gi_wp2
  refine ⟨trivial, fun _ => by omega, ((callsIn_wide (n := n - 1)).2 (HC.out W)).mono ?_⟩
  rintro e W1 ⟨rfl, m1⟩
  replace h0 := hJa _ _ _ none h0 (grown_of_mod m1) (fun r e => by cases e)
  replace h1 := h1.mod m1 nob
  have hz := m1.size
  replace hJa : AbidesFrom W1.heap.size J := fun s A B row hs hg hr => hJa s A B row hs hg (fun r e => ⟨Nat.le_trans hz (hr r e).1, (hr r e).2⟩)
  clear m1 hz c0 c1 c2 c3
  gi_wp2
  gi_loopw [3, 4, 5, 8] (fun _ _ _ i wr => ∃ j : Nat, j ≤ N ∧ i = .int .i64 j ∧ ∃ ys, ys.map (·.1) = List.range j ∧ J ys wr ∧ CellsAt wr Bs #[.int .i64 r, .int .i64 k, .int .i64 b, .int .i64 wk] 24) (fun _ _ _ i _ => N - (intOf i).toNat)
  case atStart => exact ⟨0, Nat.zero_le _, rfl, [], rfl, h0, h1⟩
  case round =>
    clear h0 h1
    obtain ⟨j, hj, rfl, ys, hys, hJs, h1⟩ := hrel
    by_cases hlt : j < N
    · have hlt2 : (j : Int) < N := by omega
      have hyl : ys.length = j := by have := congrArg List.length hys; simpa using this
      have HYS := Lib.hid hys
      have HYL := Lib.hid hyl
      have hcall := HTK.out j hlt wr
      have c0 := h1.cell 0
      have c1 := h1.cell 1
      have c2 := h1.cell 2
      have c3 := h1.cell 3
      simp at c0 c1 c2 c3
      clear hys hyl
      gi_wp2
      refine ⟨trivial, fun _ => by omega, ((callsIn_wide (n := n - 1)).2 hcall).mono ?_⟩
      rintro e W2 ⟨⟨kd, rd, a, bb, u, rfl⟩, m1⟩
      unfold taskA
      have mA := m1.alloc (.cells #[.int .i64 kd, .int .i64 rd, .int .i64 a, .int .i64 bb, .bool u] 141)
      replace hJs := hJa _ _ _ none hJs (grown_of_mod mA) (fun r e => by cases e)
      replace h1 := h1.mod mA nob
      obtain ⟨fn, tmps, assign, body, hy, hR⟩ := hY ys ⟨j, ⟨kd, rd, a, bb, u⟩⟩ _ hJs hlt (by rw [HYL.out]; exact hlt)
      unfold tskE taskA at hy
      dsimp only at hy
      clear mA m1 hcall c0 c1 c2 c3
      gi_wp2
      refine ⟨fun _ => by omega, hR.mono ?_⟩
      rintro e0 W3 (⟨rfl, hJ3, hk3⟩ | ⟨rfl, hJx3⟩)
      · have h3 : CellsAt W3 Bs #[.int .i64 r, .int .i64 k, .int .i64 b, .int .i64 wk] 24 := hk3.trans h1
        gi_wp2
        go_roundw
        case rel => exact ⟨j + 1, by omega, by go_num, ys ++ [(j, ⟨kd, rd, a, bb, u⟩)], by rw [List.map_append, HYS.out, List.range_succ]; rfl, hJ3, h3⟩
        case measure => simp [intOf]; omega
      · gi_wp2
        rw [Exit.noGoto_normal]
        go_end0
        exact ⟨⟨_, rfl⟩, .inr ⟨_, hJx3⟩⟩
    · obtain rfl : j = N := by omega
      gi_wp2
      rw [Exit.noGoto_normal]
      go_end0
      exact ⟨⟨_, rfl⟩, .inl ⟨ys, hys, hJs⟩⟩

/-- All tasks. -/
theorem tasks_stops (n : Nat) (hn : 2 ≤ n) (Bs r k b wk N : Nat) (hf : fitQ r k b wk) (hN : (planP r k b).count = N) (w : World) (h1 : CellsAt w Bs (parA r k b wk) 24) :
    SeqStopsK Fence.wide n Tryz.prog 55 #[.pointer (some ⟨Bs, 0, none⟩)] (fun y : Fin N × TskV => tskE (y.1.val, y.2)) (KT Bs) (fun ys => ys.map (fun y => y.1.val) = List.range N) (fun _ => True) N w := fun l J Jx W hW hJ _ hY h0 => by
  refine (tasks_in n hn l Bs r k b wk hf N hN (fun ys W => ∃ p : List (Fin N × TskV), p.map (fun y => (y.1.val, y.2)) = ys ∧ J p W) (fun _ W => ∃ p, Jx p W) W ?_ ?_ ((hW.block Bs h1.lt).trans h1) ⟨[], rfl, h0⟩).mono ?_
  · rintro s A C row ⟨p, hp, hJp⟩ hg hr
    exact ⟨p, hp, hJ p A C row hJp hg hr⟩
  · rintro pre y W1 ⟨p, hp, hJp⟩ hlt hpl
    have hpl2 : p.length < N := by rw [← hp, List.length_map] at hpl; exact hpl
    obtain ⟨fn, tmps, assign, body, hy, hR⟩ := hY p (⟨y.1, hlt⟩, y.2) W1 hJp hpl2
    refine ⟨fn, tmps, assign, body, hy, hR.mono ?_⟩
    rintro e W' (⟨he, h3, h4⟩ | ⟨he, h3⟩)
    · exact .inl ⟨he, ⟨_, by rw [List.map_append, hp]; rfl, h3⟩, h4⟩
    · exact .inr ⟨he, _, h3⟩
  · rintro e W' ⟨he, ⟨ys, hys, p, hp, hJp⟩ | ⟨_, p, hJp⟩⟩
    · exact ⟨he, .inl ⟨p, by rw [← hys, ← hp, List.map_map]; rfl, hJp⟩⟩
    · exact ⟨he, .inr ⟨p, trivial, hJp⟩⟩
end Go.Proofs.YtakgnkjopbflbaaGreatDoor

namespace Go.Proofs.YtakgnkjopbflbaaGreatDoor
open Go.RowKit Go.Shelf
set_option linter.unusedSimpArgs false

theorem fill_at (place : Nat → Option (Nat × Nat)) (i off : Nat) (L L' pre old post vs : List Value) (v : Value) (rest : List (Nat × Value)) (hL : L = pre ++ (old ++ post)) (hL' : L' = pre ++ (vs ++ post)) (hp : place i = some (off, vs.length)) (hv : v.cells = vs.toArray) (h1 : pre.length = off) (h2 : old.length = vs.length) :
    Instr.fill place L.toArray ((i, v) :: rest) = Instr.fill place L'.toArray rest := by
  rw [hL, hL']
  exact fill_one place i off pre old post vs v rest hp hv h1 h2

section
variable {P : Program} {ops : Array Oper} {rest : List Oper} {o : Oper} {a : Act} {w : World} {Q : Exit → Act → World → Prop}
theorem wpList_build2 (hg : o.guard = none) (t : TypeId) (i j : Nat) (x y : Operand) (ho : o.op = .build t #[(i, x), (j, y)]) (u v : Value) (hx : a.eval x = u) (hy : a.eval y = v) (cs : Array Value) (hb : P.built t [(i, u), (j, v)] = some cs)
    (h : wpList P ops Q rest (a.put o.dst (.agg cs)) w) : wpList P ops Q (o :: rest) a w :=
  wpList_build_is hg t _ ho cs (by simpa [hx, hy] using hb) h
end
theorem exec_build9 {P : Program} {o : Oper} {a : Act} (t : TypeId) (i1 i2 i3 i4 i5 i6 i7 i8 i9 : Nat) (x1 x2 x3 x4 x5 x6 x7 x8 x9 : Operand) (v1 v2 v3 v4 v5 v6 v7 v8 v9 : Value)
    (ho : o.op = .build t #[(i1, x1), (i2, x2), (i3, x3), (i4, x4), (i5, x5), (i6, x6), (i7, x7), (i8, x8), (i9, x9)]) (h1 : a.eval x1 = v1) (h2 : a.eval x2 = v2) (h3 : a.eval x3 = v3) (h4 : a.eval x4 = v4) (h5 : a.eval x5 = v5) (h6 : a.eval x6 = v6) (h7 : a.eval x7 = v7) (h8 : a.eval x8 = v8) (h9 : a.eval x9 = v9) (cells : Array Value)
    (hb : P.built t [(i1, v1), (i2, v2), (i3, v3), (i4, v4), (i5, v5), (i6, v6), (i7, v7), (i8, v8), (i9, v9)] = some cells) (w : World) : (execOp a.eval o).run P w = .ok (.value (.agg cells)) w :=
  exec_build t _ ho cells (by simpa [h1, h2, h3, h4, h5, h6, h7, h8, h9] using hb) w

/-- A pair of words, as a map's key. -/
def keyP (k : Nat × Nat) : Value := .agg #[.int .u64 k.1, .int .u64 k.2]
def ringL (job : List UInt8) (m : Value) : List Value := job.map B ++ [m]
theorem built_ring (job : List UInt8) (hj : job.length = 32) (m : Nat) : Tryz.prog.built 135 [(0, .agg (arrB job)), (1, .map (some m))] = some (ringL job (.map (some m))).toArray := by
  have e : ∀ parts, Tryz.prog.built 135 parts = Instr.fill (fun i => #[(0, 32), (32, 1)][i]?) (ringL zl32 (.map none)).toArray parts := fun parts => by kernel_rfl
  rw [e, fill_at _ 0 0 (ringL zl32 (.map none)) (ringL job (.map none)) [] (zl32.map B) [.map none] (job.map B) _ _ rfl rfl (by rw [List.length_map, hj]; rfl) rfl rfl (by simp [zl32, hj]),
    fill_at _ 1 32 (ringL job (.map none)) (ringL job (.map (some m))) (job.map B) [.map none] [] [.map (some m)] _ _ rfl rfl rfl rfl (by simp [hj]) rfl]
  rfl

/-- A coordinator. -/
def cooL (t j : Value) (job : List UInt8) (p : List Value) (ring needs : Value) (ep : Nat) (done : Value) (state : Int) (att sent : Nat) (taken starts leases : Value) : List Value :=
  [t, j] ++ (job.map B ++ (p ++ [ring, needs, .int .u64 ep, done, .int .i64 state, .int .u64 att, .int .u64 sent, taken, starts, leases]))
def p0L : List Value := [.int .i64 0, .int .i64 0, .int .i64 0, .int .i64 0]
theorem built_coord (t j : Option Addr) (job : List UInt8) (hj : job.length = 32) (p : List Value) (hp : p.length = 4) (r : Option Addr) (ep : Nat) (da : Option Addr) (dn dc : Nat) (m1 m2 : Nat) :
    Tryz.prog.built 80 [(0, .pointer t), (1, .pointer j), (2, .agg (arrB job)), (3, .agg p.toArray), (4, .pointer r), (6, .int .u64 ep), (7, .slice da dn dc), (11, .map (some m1)), (12, .map (some m2))] =
      some (cooL (.pointer t) (.pointer j) job p (.pointer r) (.slice none 0 0) ep (.slice da dn dc) 0 0 0 (.map (some m1)) (.map (some m2)) (.slice none 0 0)).toArray := by
  have e : ∀ parts, Tryz.prog.built 80 parts = Instr.fill (fun i => #[(0, 1), (1, 1), (2, 32), (34, 4), (38, 1), (39, 1), (40, 1), (41, 1), (42, 1), (43, 1), (44, 1), (45, 1), (46, 1), (47, 1)][i]?) (cooL (.pointer none) (.pointer none) zl32 p0L (.pointer none) (.slice none 0 0) 0 (.slice none 0 0) 0 0 0 (.map none) (.map none) (.slice none 0 0)).toArray parts := fun parts => by kernel_rfl
  have hz : zl32.length = 32 := rfl
  rw [e]
  rw [fill_at _ 0 0 (cooL (.pointer none) (.pointer none) zl32 p0L (.pointer none) (.slice none 0 0) 0 (.slice none 0 0) 0 0 0 (.map none) (.map none) (.slice none 0 0)) (cooL (.pointer t) (.pointer none) zl32 p0L (.pointer none) (.slice none 0 0) 0 (.slice none 0 0) 0 0 0 (.map none) (.map none) (.slice none 0 0)) ([]) ([.pointer none]) (([.pointer none] ++ zl32.map B ++ p0L ++ [.pointer none] ++ [.slice none 0 0] ++ [.int .u64 (0 : Nat)] ++ [.slice none 0 0] ++ [.int .i64 0, .int .u64 ((0 : Nat) : Int), .int .u64 ((0 : Nat) : Int)] ++ [.map none] ++ [.map none] ++ [.slice none 0 0])) ([.pointer t]) _ _ (by simp [cooL]) (by simp [cooL]) rfl rfl (by simp [hz, hj, hp, p0L]) rfl]
  rw [fill_at _ 1 1 (cooL (.pointer t) (.pointer none) zl32 p0L (.pointer none) (.slice none 0 0) 0 (.slice none 0 0) 0 0 0 (.map none) (.map none) (.slice none 0 0)) (cooL (.pointer t) (.pointer j) zl32 p0L (.pointer none) (.slice none 0 0) 0 (.slice none 0 0) 0 0 0 (.map none) (.map none) (.slice none 0 0)) (([.pointer t])) ([.pointer none]) ((zl32.map B ++ p0L ++ [.pointer none] ++ [.slice none 0 0] ++ [.int .u64 (0 : Nat)] ++ [.slice none 0 0] ++ [.int .i64 0, .int .u64 ((0 : Nat) : Int), .int .u64 ((0 : Nat) : Int)] ++ [.map none] ++ [.map none] ++ [.slice none 0 0])) ([.pointer j]) _ _ (by simp [cooL]) (by simp [cooL]) rfl rfl (by simp [hz, hj, hp, p0L]) rfl]
  rw [fill_at _ 2 2 (cooL (.pointer t) (.pointer j) zl32 p0L (.pointer none) (.slice none 0 0) 0 (.slice none 0 0) 0 0 0 (.map none) (.map none) (.slice none 0 0)) (cooL (.pointer t) (.pointer j) job p0L (.pointer none) (.slice none 0 0) 0 (.slice none 0 0) 0 0 0 (.map none) (.map none) (.slice none 0 0)) (([.pointer t] ++ [.pointer j])) (zl32.map B) ((p0L ++ [.pointer none] ++ [.slice none 0 0] ++ [.int .u64 (0 : Nat)] ++ [.slice none 0 0] ++ [.int .i64 0, .int .u64 ((0 : Nat) : Int), .int .u64 ((0 : Nat) : Int)] ++ [.map none] ++ [.map none] ++ [.slice none 0 0])) (job.map B) _ _ (by simp [cooL]) (by simp [cooL]) (by rw [List.length_map, hj]; rfl) rfl (by simp [hz, hj, hp, p0L]) (by simp [hz, hj])]
  rw [fill_at _ 3 34 (cooL (.pointer t) (.pointer j) job p0L (.pointer none) (.slice none 0 0) 0 (.slice none 0 0) 0 0 0 (.map none) (.map none) (.slice none 0 0)) (cooL (.pointer t) (.pointer j) job p (.pointer none) (.slice none 0 0) 0 (.slice none 0 0) 0 0 0 (.map none) (.map none) (.slice none 0 0)) (([.pointer t] ++ [.pointer j] ++ job.map B)) (p0L) (([.pointer none] ++ [.slice none 0 0] ++ [.int .u64 (0 : Nat)] ++ [.slice none 0 0] ++ [.int .i64 0, .int .u64 ((0 : Nat) : Int), .int .u64 ((0 : Nat) : Int)] ++ [.map none] ++ [.map none] ++ [.slice none 0 0])) (p) _ _ (by simp [cooL]) (by simp [cooL]) (by rw [hp]; rfl) rfl (by simp [hz, hj, hp, p0L]) (by rw [hp]; rfl)]
  rw [fill_at _ 4 38 (cooL (.pointer t) (.pointer j) job p (.pointer none) (.slice none 0 0) 0 (.slice none 0 0) 0 0 0 (.map none) (.map none) (.slice none 0 0)) (cooL (.pointer t) (.pointer j) job p (.pointer r) (.slice none 0 0) 0 (.slice none 0 0) 0 0 0 (.map none) (.map none) (.slice none 0 0)) (([.pointer t] ++ [.pointer j] ++ job.map B ++ p)) ([.pointer none]) (([.slice none 0 0] ++ [.int .u64 (0 : Nat)] ++ [.slice none 0 0] ++ [.int .i64 0, .int .u64 ((0 : Nat) : Int), .int .u64 ((0 : Nat) : Int)] ++ [.map none] ++ [.map none] ++ [.slice none 0 0])) ([.pointer r]) _ _ (by simp [cooL]) (by simp [cooL]) rfl rfl (by simp [hz, hj, hp, p0L]) rfl]
  rw [fill_at _ 6 40 (cooL (.pointer t) (.pointer j) job p (.pointer r) (.slice none 0 0) 0 (.slice none 0 0) 0 0 0 (.map none) (.map none) (.slice none 0 0)) (cooL (.pointer t) (.pointer j) job p (.pointer r) (.slice none 0 0) ep (.slice none 0 0) 0 0 0 (.map none) (.map none) (.slice none 0 0)) (([.pointer t] ++ [.pointer j] ++ job.map B ++ p ++ [.pointer r] ++ [.slice none 0 0])) ([.int .u64 (0 : Nat)]) (([.slice none 0 0] ++ [.int .i64 0, .int .u64 ((0 : Nat) : Int), .int .u64 ((0 : Nat) : Int)] ++ [.map none] ++ [.map none] ++ [.slice none 0 0])) ([.int .u64 (ep : Nat)]) _ _ (by simp [cooL]) (by simp [cooL]) rfl rfl (by simp [hz, hj, hp, p0L]) rfl]
  rw [fill_at _ 7 41 (cooL (.pointer t) (.pointer j) job p (.pointer r) (.slice none 0 0) ep (.slice none 0 0) 0 0 0 (.map none) (.map none) (.slice none 0 0)) (cooL (.pointer t) (.pointer j) job p (.pointer r) (.slice none 0 0) ep (.slice da dn dc) 0 0 0 (.map none) (.map none) (.slice none 0 0)) (([.pointer t] ++ [.pointer j] ++ job.map B ++ p ++ [.pointer r] ++ [.slice none 0 0] ++ [.int .u64 (ep : Nat)])) ([.slice none 0 0]) (([.int .i64 0, .int .u64 ((0 : Nat) : Int), .int .u64 ((0 : Nat) : Int)] ++ [.map none] ++ [.map none] ++ [.slice none 0 0])) ([.slice da dn dc]) _ _ (by simp [cooL]) (by simp [cooL]) rfl rfl (by simp [hz, hj, hp, p0L]) rfl]
  rw [fill_at _ 11 45 (cooL (.pointer t) (.pointer j) job p (.pointer r) (.slice none 0 0) ep (.slice da dn dc) 0 0 0 (.map none) (.map none) (.slice none 0 0)) (cooL (.pointer t) (.pointer j) job p (.pointer r) (.slice none 0 0) ep (.slice da dn dc) 0 0 0 (.map (some m1)) (.map none) (.slice none 0 0)) (([.pointer t] ++ [.pointer j] ++ job.map B ++ p ++ [.pointer r] ++ [.slice none 0 0] ++ [.int .u64 (ep : Nat)] ++ [.slice da dn dc] ++ [.int .i64 0, .int .u64 ((0 : Nat) : Int), .int .u64 ((0 : Nat) : Int)])) ([.map none]) (([.map none] ++ [.slice none 0 0])) ([.map (some m1)]) _ _ (by simp [cooL]) (by simp [cooL]) rfl rfl (by simp [hz, hj, hp, p0L]) rfl]
  rw [fill_at _ 12 46 (cooL (.pointer t) (.pointer j) job p (.pointer r) (.slice none 0 0) ep (.slice da dn dc) 0 0 0 (.map (some m1)) (.map none) (.slice none 0 0)) (cooL (.pointer t) (.pointer j) job p (.pointer r) (.slice none 0 0) ep (.slice da dn dc) 0 0 0 (.map (some m1)) (.map (some m2)) (.slice none 0 0)) (([.pointer t] ++ [.pointer j] ++ job.map B ++ p ++ [.pointer r] ++ [.slice none 0 0] ++ [.int .u64 (ep : Nat)] ++ [.slice da dn dc] ++ [.int .i64 0, .int .u64 ((0 : Nat) : Int), .int .u64 ((0 : Nat) : Int)] ++ [.map (some m1)])) ([.map none]) (([.slice none 0 0])) ([.map (some m2)]) _ _ (by simp [cooL]) (by simp [cooL]) rfl rfl (by simp [hz, hj, hp, p0L]) rfl]
  rfl
end Go.Proofs.YtakgnkjopbflbaaGreatDoor

namespace Go.Proofs.YtakgnkjopbflbaaGreatDoor
open Go.RowKit Go.Shelf
set_option linter.unusedSimpArgs false

set_option maxRecDepth 100000 in
set_option maxHeartbeats 1000000 in
theorem ring_new (job : List UInt8) (hj : job.length = 32) (w : World) : Calls Tryz.prog 24 #[.agg (arrB job)] w fun e w' => ∃ R M, e = .returned (.pointer (some ⟨R, 0, none⟩)) ∧ w.heap.size ≤ R ∧ w.heap.size ≤ M ∧ M ≠ R ∧ MapAt keyP w' M (fun _ => none) ∧ CellsAt w' R (ringL job (.map (some M))).toArray 135 ∧ Mod w w' Nob := by
  have hmm := @run_makeMap Tryz.prog
  have hb := built_ring job hj
  have cJ := CellsAt.new w (arrB job) 22
  have hjs : (arrB job).size = 32 := by rw [arrB_size, hj]
  go_enter Tryz.func24, Tryz.ntmps24
  iterate 13 (first | go_values | go_skip | go_guarded | go_step | go_back)
  have mA := (Mod.refl w Nob).alloc (.cells (arrB job) 22)
  obtain ⟨W, hW⟩ : ∃ W, w.alloc (.cells (arrB job) 22) = W := ⟨_, rfl⟩
  rw [hW] at cJ mA ⊢
  obtain ⟨H, hH⟩ : ∃ H, w.heap.size = H := ⟨_, rfl⟩
  rw [hH] at cJ ⊢
  have hz : W.heap.size = H + 1 := by rw [← hW, ← hH]; simp
  have HZ := Lib.hid hz
  have HH := Lib.hid hH
  clear hW hH hz
  (first | go_values | go_skip | go_guarded | go_step | go_back)
  refine wpList_load_arr rfl 22 _ rfl H 32 5 rfl (arrB job) cJ Tryz.underlying22 size_b32 hjs ?_
  obtain ⟨J, hJ⟩ : ∃ J, arrB job = J := ⟨_, rfl⟩
  rw [hJ] at hb ⊢
  iterate 3 (first | go_values | go_skip | go_guarded | go_step | go_back)
  refine wpList_build2 rfl 135 0 1 (.tmp 3) (.tmp 4) rfl (.agg J) (.map (some W.heap.size)) rfl rfl _ (hb W.heap.size) ?_
  obtain ⟨cs, hcs⟩ : ∃ cs, (ringL job (.map (some W.heap.size))).toArray = cs := ⟨_, rfl⟩
  rw [hcs]
  have hM := MapAt.new keyP W
  have mC := (Mod.refl (W.alloc (.map #[] 0)) Nob).alloc (.cells cs 135)
  have hM2 := hM.mod mC nob
  have hR := new_at (w := W.alloc (.map #[] 0)) (cs := cs) (t := 135) (g := W.heap.size + 1) (by simp)
  have mF := (mA.alloc (.map #[] 0)).trans mC
  go_wp2_with fail
  go_ret
  refine ⟨W.heap.size + 1, W.heap.size, rfl, by have := mA.size; omega, mA.size, by omega, hM2, ?_, mF⟩
  rw [hcs]
  exact hR
end Go.Proofs.YtakgnkjopbflbaaGreatDoor

namespace Go.Proofs.YtakgnkjopbflbaaGreatDoor
open Go.RowKit Go.Shelf
set_option linter.unusedSimpArgs false

theorem cells_ne {w : World} {a b : Nat} {cs cs' : Array Value} {t t' : TypeId} (h : CellsAt w a cs t) (k : CellsAt w b cs' t') (ht : t ≠ t') : a ≠ b := fun e => by
  subst e
  have := Option.some.inj (h.symm.trans k)
  injection this with _ h2 _
  exact ht h2
theorem map_ne {K : Type} [DecidableEq K] {enc : K → Value} {w : World} {a b : Nat} {f : K → Option Value} {cs : Array Value} {t : TypeId} (h : MapAt enc w a f) (k : CellsAt w b cs t) : a ≠ b := fun e => by
  subst e
  obtain ⟨es, nx, h1, _⟩ := h
  have := Option.some.inj (h1.symm.trans k)
  cases this

theorem info_u64c : (Tryz.prog.info? 41).map (fun i => (i.zero, i.size, i.bytes)) = some (some (.int .u64 0), 1, 8) := by kernel_rfl
theorem make_u64 (n : Nat) (w : World) (hn : n ≤ 1000) : ∃ w', (Instr.makeSlice 39 (.int .i64 (n : Int)) (.int .i64 (n : Int))).run Tryz.prog w = .ok (.slice (some ⟨w.heap.size, 0, none⟩) n n) w' ∧
    CellsAt w' w.heap.size (List.replicate n (Value.int .u64 0)).toArray 41 ∧ Mod w w' Nob := by
  obtain ⟨j0, hj, hz0, hz1, hz2⟩ := info_parts info_u64c
  obtain ⟨w', h1, h2, h3⟩ := run_make_full (P := Tryz.prog) w w.heap.size 39 41 j0 _ 1 Tryz.underlying39 hj hz0 hz1 .i64 .i64 n (by rw [hz2]; omega) (by unfold maxLen; omega) (Nat.le_refl _)
  refine ⟨w', h1, ?_, (Mod.refl w Nob).grown h3 (fun k hk => by cases hk)⟩
  have h4 := cells_of_own h2
  have e : (madeCells (Value.int IntKind.u64 0).cells (n * 1)).toList = List.replicate n (Value.int .u64 0) := by
    rw [Nat.mul_one]
    exact toList_madeCells_one _ n
  rwa [e] at h4

/-- An int, as a map's key. -/
def keyI (k : Int) : Value := .int .i64 k
/-- What a coordinator consists of, when it is made. -/
structure CooN (B tb J : Nat) (job : List UInt8) (par : List Value) (N : Nat) (w : World) (C R M D M1 M2 : Nat) : Prop where
  c : CellsAt w C (cooL (.pointer (some ⟨tb, 0, none⟩)) (.pointer (some ⟨J, 0, none⟩)) job par (.pointer (some ⟨R, 0, none⟩)) (.slice none 0 0) 1 (.slice (some ⟨D, 0, none⟩) N N) 0 0 0 (.map (some M1)) (.map (some M2)) (.slice none 0 0)).toArray 80
  r : CellsAt w R (ringL job (.map (some M))).toArray 135
  m : MapAt keyP w M (fun _ => none)
  d : CellsAt w D (List.replicate N (Value.int .u64 0)).toArray 41
  m1 : MapAt keyP w M1 (fun _ => none)
  m2 : MapAt keyI w M2 (fun _ => none)
  lc : B ≤ C
/-- What the operations yield. -/
def P7 (B tb J : Nat) (job : List UInt8) (par : List Value) (N : Nat) : Nat → Value → World → Prop
  | 0, v, _ => v = .pointer (some ⟨tb, 0, none⟩)
  | 1, v, _ => v = .pointer (some ⟨J, 0, none⟩)
  | 2, v, _ => v = .agg (arrB job)
  | 3, v, _ => v = .agg par.toArray
  | 4, v, _ => v = .agg (arrB job)
  | 5, v, w => ∃ R M, v = .pointer (some ⟨R, 0, none⟩) ∧ MapAt keyP w M (fun _ => none) ∧ CellsAt w R (ringL job (.map (some M))).toArray 135
  | 6, v, _ => v = .int .u64 1
  | 7, v, _ => v = .agg par.toArray
  | 8, v, _ => v = .int .i64 N
  | 9, v, w => ∃ D, v = .slice (some ⟨D, 0, none⟩) N N ∧ CellsAt w D (List.replicate N (Value.int .u64 0)).toArray 41
  | 10, v, w => ∃ M, v = .map (some M) ∧ MapAt keyP w M (fun _ => none)
  | 11, v, w => ∃ M, v = .map (some M) ∧ MapAt keyI w M (fun _ => none)
  | 12, v, w => ∃ R M D M1 M2, v = .agg (cooL (.pointer (some ⟨tb, 0, none⟩)) (.pointer (some ⟨J, 0, none⟩)) job par (.pointer (some ⟨R, 0, none⟩)) (.slice none 0 0) 1 (.slice (some ⟨D, 0, none⟩) N N) 0 0 0 (.map (some M1)) (.map (some M2)) (.slice none 0 0)).toArray ∧
      CellsAt w R (ringL job (.map (some M))).toArray 135 ∧ MapAt keyP w M (fun _ => none) ∧ CellsAt w D (List.replicate N (Value.int .u64 0)).toArray 41 ∧ MapAt keyP w M1 (fun _ => none) ∧ MapAt keyI w M2 (fun _ => none)
  | 13, v, w => ∃ C R M D M1 M2, v = .pointer (some ⟨C, 0, none⟩) ∧ CooN B tb J job par N w C R M D M1 M2
  | 14, v, w => ∃ X, v = .pointer (some ⟨X, 0, none⟩) ∧ B ≤ X ∧ CellsAt w X #[.pointer none] 25
  | _, _, _ => True
theorem CooN.mod {B tb J : Nat} {job : List UInt8} {par : List Value} {N : Nat} {w w' : World} {C R M D M1 M2 : Nat} (h : CooN B tb J job par N w C R M D M1 M2) (hm : Mod w w' Nob) : CooN B tb J job par N w' C R M D M1 M2 :=
  ⟨h.c.mod hm nob, h.r.mod hm nob, h.m.mod hm nob, h.d.mod hm nob, h.m1.mod hm nob, h.m2.mod hm nob, h.lc⟩
/-- A pointer to a coordinator is written into a variable. -/
theorem CooN.put {B tb J : Nat} {job : List UInt8} {par : List Value} {N : Nat} {w : World} {C R M D M1 M2 X : Nat} {cs : Array Value} (h : CooN B tb J job par N w C R M D M1 M2) (hX : CellsAt w X cs 25) (v : Value) : CooN B tb J job par N (w.setCell ⟨X, 0, none⟩ v) C R M D M1 M2 := by
  have hm : Mod w (w.setCell ⟨X, 0, none⟩ v) (· = X) := (Mod.refl w (· = X)).setCell (p := ⟨X, 0, none⟩) (.inl rfl) v
  exact ⟨h.c.mod hm (cells_ne h.c hX (by decide)), h.r.mod hm (cells_ne h.r hX (by decide)), h.m.mod hm (map_ne h.m hX), h.d.mod hm (cells_ne h.d hX (by decide)), h.m1.mod hm (map_ne h.m1 hX), h.m2.mod hm (map_ne h.m2 hX), h.lc⟩
theorem P7.mod {B tb J : Nat} {job : List UInt8} {par : List Value} {N : Nat} {i : Nat} {v : Value} {w w' : World} (h : P7 B tb J job par N i v w) (hm : Mod w w' Nob) : P7 B tb J job par N i v w' := by
  unfold P7 at h ⊢
  split at h
  · exact h
  · exact h
  · exact h
  · exact h
  · exact h
  · obtain ⟨R, M, h1, h2, h3⟩ := h; exact ⟨R, M, h1, h2.mod hm nob, h3.mod hm nob⟩
  · exact h
  · exact h
  · exact h
  · obtain ⟨D, h1, h2⟩ := h; exact ⟨D, h1, h2.mod hm nob⟩
  · obtain ⟨M, h1, h2⟩ := h; exact ⟨M, h1, h2.mod hm nob⟩
  · obtain ⟨M, h1, h2⟩ := h; exact ⟨M, h1, h2.mod hm nob⟩
  · obtain ⟨R, M, D, M1, M2, h1, h2, h3, h4, h5, h6⟩ := h; exact ⟨R, M, D, M1, M2, h1, h2.mod hm nob, h3.mod hm nob, h4.mod hm nob, h5.mod hm nob, h6.mod hm nob⟩
  · obtain ⟨C, R, M, D, M1, M2, h1, h2⟩ := h; exact ⟨C, R, M, D, M1, M2, h1, h2.mod hm⟩
  · obtain ⟨X, h1, h2, h3⟩ := h; exact ⟨X, h1, h2, h3.mod hm nob⟩
  · trivial
/-- .. and behind all. -/
def F7 (B tb J : Nat) (job : List UInt8) (par : List Value) (N : Nat) (v : Value) (w : World) : Prop :=
  ∃ X C R M D M1 M2, v = .pointer (some ⟨X, 0, none⟩) ∧ B ≤ X ∧ CellsAt w X #[.pointer (some ⟨C, 0, none⟩)] 25 ∧ CooN B tb J job par N w C R M D M1 M2
theorem F7.mod {B tb J : Nat} {job : List UInt8} {par : List Value} {N : Nat} {v : Value} {w w' : World} (h : F7 B tb J job par N v w) (hm : Mod w w' Nob) : F7 B tb J job par N v w' := by
  obtain ⟨X, C, R, M, D, M1, M2, h1, h2, h3, h4⟩ := h
  exact ⟨X, C, R, M, D, M1, M2, h1, h2, h3.mod hm nob, h4.mod hm⟩

/-- What holds while they come up. -/
structure I7 (B tb J : Nat) (job : List UInt8) (par : List Value) (N : Nat) (w0 : World) (L : Nat → Bool) (f : Nat → Value) (w : World) : Prop where
  md : Mod w0 w Nob
  p : L 15 = false → ∀ i < 15, L i = true → P7 B tb J job par N i (f i) w
  e : L 15 = true → (∀ i < 15, L i = true) ∧ F7 B tb J job par N (f 14) w
section
variable {B tb J : Nat} {job : List UInt8} {par : List Value} {N : Nat} {w0 : World} {L : Nat → Bool} {f : Nat → Value} {w w' : World}
theorem I7.not15 (h : I7 B tb J job par N w0 L f w) {i : Nat} (hi : i < 15) (hL : L i = false) : L 15 = false := by
  cases h15 : L 15 with
  | false => rfl
  | true => have := (h.e h15).1 i hi; rw [hL] at this; cases this
theorem I7.step (h : I7 B tb J job par N w0 L f w) (i : Nat) (hi : i < 15) (hL : L i = false) (v : Value) (hm : Mod w w' Nob) (hv : P7 B tb J job par N i v w') :
    I7 B tb J job par N w0 (fun j => if j = i then true else L j) (fun j => if j = i then v else f j) w' := by
  have h15 := h.not15 hi hL
  refine ⟨h.md.trans hm, fun _ j hj hLj => ?_, fun h15' => ?_⟩
  · by_cases hji : j = i
    · subst hji; rw [if_pos rfl]; exact hv
    · rw [if_neg hji] at hLj ⊢
      exact (h.p h15 j hj hLj).mod hm
  · rw [if_neg (by omega), h15] at h15'
    cases h15'
/-- What an operation waits for has come up. -/
theorem dep_of {o : Oper} (haft : ∀ e ∈ o.after, Region.binds .any e = true → L e.on = true) (j : Nat) (h : (o.after.any fun e => Region.binds .any e && e.on == j) = true) : L j = true := by
  rw [← Array.any_toList, List.any_eq_true] at h
  obtain ⟨e, he, h2⟩ := h
  rw [Bool.and_eq_true, beq_iff_eq] at h2
  rw [← h2.2]
  exact haft e (Array.mem_toList_iff.1 he) h2.1
end
/-- An operation whose run is known. -/
theorem op_of_run {P : Program} {o : Oper} {a : Act} {w w' : World} {v : Value} {K : Act → World → Prop} {Q : Exit → Act → World → Prop} (h : (execOp a.eval o).run P w = .ok (.value v) w') (hK : K (a.put o.dst v) w') : o.wp P a w K Q := by
  unfold Oper.wp
  simp [h]
  exact hK
/-- A whole array, loaded. -/
theorem load_run {P : Program} {o : Oper} {a : Act} {w : World} (ty : TypeId) (x : Operand) (ho : o.op = .load ty x) (g : Nat) (hx : a.eval x = .pointer (some ⟨g, 0, none⟩)) (cs : List Value) (d : TypeDesc) (hc : CellsAt w g cs.toArray ty) (hu : P.underlying ty = some d) (hd : d.isRow = true) (hi : (P.info? ty).map (·.size) = some cs.length) :
    (execOp a.eval o).run P w = .ok (.value (.agg cs.toArray)) w := by
  have hr : w.rangeAt g 0 cs := fun q u hq => by rw [Nat.zero_add, hc.cell q]; simpa using hq
  unfold execOp
  simp only [ho, hx, Instr.loadAt, Instr.sureAddr, Sem.run_bind, Sem.run_pure, Result.andThen_ok, run_loadVar_mid w g 0 ty cs d hr hu hd hi]
/-- The frame. -/
def fr7 (tb b H J : Nat) (jv par sv : Value) (f : Nat → Value) : Array Value := #[.pointer (some ⟨tb, 0, none⟩), .pointer (some ⟨b, 0, none⟩), jv, par, .nilFunc, sv, undef, undef, .pointer (some ⟨H, 0, none⟩), .pointer (some ⟨H + 1, 0, none⟩), undef, undef, .pointer none, .int .i64 0, .int .u64 1, .int .i64 0, .pointer (some ⟨J, 0, none⟩), f 14, undef, undef, undef, undef, undef, undef, .tuple #[.int .u64 1, .int .i64 0], .pointer (some ⟨tb, 0, none⟩), .tuple #[.int .u64 1, .int .i64 0], .int .u64 1, .int .i64 0, .int .i64 0, .bool false, undef, .tuple #[.pointer (some ⟨J, 0, none⟩), .int .i64 0], .pointer (some ⟨b, 0, none⟩), .pointer (some ⟨tb, 0, none⟩), jv, .int .u64 1, .nilFunc, sv, .agg #[.nilFunc, sv], .tuple #[.pointer (some ⟨J, 0, none⟩), .int .i64 0], .pointer (some ⟨J, 0, none⟩), .int .i64 0, .int .i64 0, .bool false, undef, f 0, f 1, f 2, f 3, f 4, f 5, f 6, f 7, f 8, f 9, f 10, f 11, f 12, f 13, undef, undef, undef, undef, undef, undef, undef, undef, undef, undef, undef, undef, undef, undef, undef, undef, undef, undef, undef, undef, undef, undef, undef, undef, undef, undef, undef, undef, undef, undef, undef, undef, undef, undef, undef, undef, undef, undef, undef, undef, undef]
end Go.Proofs.YtakgnkjopbflbaaGreatDoor

namespace Go.Proofs.YtakgnkjopbflbaaGreatDoor
open Go.RowKit Go.Shelf
set_option linter.unusedSimpArgs false

theorem info_intc : (Tryz.prog.info? 3).map (fun i => (i.zero, i.size, i.bytes)) = some (some (.int .i64 0), 1, 8) := by kernel_rfl
theorem info_rowc : (Tryz.prog.info? 84).map (fun i => (i.zero, i.size, i.bytes)) = some (some (.slice none 0 0), 1, 24) := by kernel_rfl
theorem flat3 : ∀ (ss : List Sp3) (q : Nat) (s : Sp3), ss[q]? = some s → ∀ i u, (spotC s)[i]? = some u → (ss.flatMap spotC)[q * 3 + i]? = some u
  | [], q, s, h, _, _, _ => by simp at h
  | a :: ss, 0, s, h, i, u, hi => by
    simp at h
    subst h
    rw [List.flatMap_cons, Nat.zero_mul, Nat.zero_add, List.getElem?_append_left (List.getElem?_eq_some_iff.1 hi).1]
    exact hi
  | a :: ss, q + 1, s, h, i, u, hi => by
    rw [List.flatMap_cons, List.getElem?_append_right (by simp [spotC]; omega)]
    have := flat3 ss q s (by simpa using h) i u hi
    rw [← this]
    congr 1
    simp [spotC]
    omega

/-- A coordinator in memory, whose needs are a row of its own. -/
structure CooG (Lo tb J : Nat) (job : List UInt8) (par : List Value) (N : Nat) (nv : Value) (w : World) (C R M D M1 M2 : Nat) : Prop where
  c : CellsAt w C (cooL (.pointer (some ⟨tb, 0, none⟩)) (.pointer (some ⟨J, 0, none⟩)) job par (.pointer (some ⟨R, 0, none⟩)) nv 1 (.slice (some ⟨D, 0, none⟩) N N) 0 0 0 (.map (some M1)) (.map (some M2)) (.slice none 0 0)).toArray 80
  r : CellsAt w R (ringL job (.map (some M))).toArray 135
  m : MapAt keyP w M (fun _ => none)
  d : CellsAt w D (List.replicate N (Value.int .u64 0)).toArray 41
  m1 : MapAt keyP w M1 (fun _ => none)
  m2 : MapAt keyI w M2 (fun _ => none)
  lc : Lo ≤ C
section
variable {Lo tb J : Nat} {job : List UInt8} {par : List Value} {N : Nat} {nv : Value} {w w' : World} {C R M D M1 M2 : Nat}
theorem CooG.of (h : CooN Lo tb J job par N w C R M D M1 M2) : CooG Lo tb J job par N (.slice none 0 0) w C R M D M1 M2 := ⟨h.c, h.r, h.m, h.d, h.m1, h.m2, h.lc⟩
theorem CooG.mod {S : Nat → Prop} (h : CooG Lo tb J job par N nv w C R M D M1 M2) (hm : Mod w w' S) (hS : ∀ k, S k → k ≠ C ∧ k ≠ R ∧ k ≠ M ∧ k ≠ D ∧ k ≠ M1 ∧ k ≠ M2) : CooG Lo tb J job par N nv w' C R M D M1 M2 :=
  ⟨h.c.mod hm (fun k => (hS _ k).1 rfl), h.r.mod hm (fun k => (hS _ k).2.1 rfl), h.m.mod hm (fun k => (hS _ k).2.2.1 rfl), h.d.mod hm (fun k => (hS _ k).2.2.2.1 rfl), h.m1.mod hm (fun k => (hS _ k).2.2.2.2.1 rfl), h.m2.mod hm (fun k => (hS _ k).2.2.2.2.2 rfl), h.lc⟩
theorem CooG.nob (h : CooG Lo tb J job par N nv w C R M D M1 M2) (hm : Mod w w' Nob) : CooG Lo tb J job par N nv w' C R M D M1 M2 := h.mod hm (fun _ h => h.elim)
/-- All of it lies below. -/
theorem CooG.lt (h : CooG Lo tb J job par N nv w C R M D M1 M2) : C < w.heap.size ∧ R < w.heap.size ∧ M < w.heap.size ∧ D < w.heap.size ∧ M1 < w.heap.size ∧ M2 < w.heap.size := ⟨h.c.lt, h.r.lt, h.m.lt, h.d.lt, h.m1.lt, h.m2.lt⟩
theorem coo_len (h : job.length = 32) (hp : par.length = 4) (t j ring needs : Value) (ep : Nat) (done : Value) (state : Int) (att sent : Nat) (taken starts leases : Value) : (cooL t j job par ring needs ep done state att sent taken starts leases).length = 48 := by simp [cooL, h, hp]
/-- The needs are written. -/
theorem CooG.needs (h : CooG Lo tb J job par N nv w C R M D M1 M2) (hj : job.length = 32) (hp : par.length = 4) (v : Value) : CooG Lo tb J job par N v (w.setCell ⟨C, 39, none⟩ v) C R M D M1 M2 := by
  have hm : Mod w (w.setCell ⟨C, 39, none⟩ v) (· = C) := (Mod.refl w (· = C)).setCell (p := ⟨C, 39, none⟩) (.inl rfl) v
  refine ⟨?_, h.r.mod hm (cells_ne h.r h.c (by decide)), h.m.mod hm (map_ne h.m h.c), h.d.mod hm (cells_ne h.d h.c (by decide)), h.m1.mod hm (map_ne h.m1 h.c), h.m2.mod hm (map_ne h.m2 h.c), h.lc⟩
  have := h.c.set 39 v
  have e : (cooL (.pointer (some ⟨tb, 0, none⟩)) (.pointer (some ⟨J, 0, none⟩)) job par (.pointer (some ⟨R, 0, none⟩)) nv 1 (.slice (some ⟨D, 0, none⟩) N N) 0 0 0 (.map (some M1)) (.map (some M2)) (.slice none 0 0)).toArray.setIfInBounds 39 v =
      (cooL (.pointer (some ⟨tb, 0, none⟩)) (.pointer (some ⟨J, 0, none⟩)) job par (.pointer (some ⟨R, 0, none⟩)) v 1 (.slice (some ⟨D, 0, none⟩) N N) 0 0 0 (.map (some M1)) (.map (some M2)) (.slice none 0 0)).toArray := by
    have hl : ([Value.pointer (some ⟨tb, 0, none⟩), .pointer (some ⟨J, 0, none⟩)] ++ (job.map B ++ (par ++ [Value.pointer (some ⟨R, 0, none⟩)]))).length = 39 := by simp [hj, hp]
    have sp : ∀ u : Value, cooL (.pointer (some ⟨tb, 0, none⟩)) (.pointer (some ⟨J, 0, none⟩)) job par (.pointer (some ⟨R, 0, none⟩)) u 1 (.slice (some ⟨D, 0, none⟩) N N) 0 0 0 (.map (some M1)) (.map (some M2)) (.slice none 0 0) =
        ([Value.pointer (some ⟨tb, 0, none⟩), .pointer (some ⟨J, 0, none⟩)] ++ (job.map B ++ (par ++ [Value.pointer (some ⟨R, 0, none⟩)]))) ++ (u :: [.int .u64 ((1 : Nat) : Int), .slice (some ⟨D, 0, none⟩) N N, .int .i64 0, .int .u64 ((0 : Nat) : Int), .int .u64 ((0 : Nat) : Int), .map (some M1), .map (some M2), .slice none 0 0]) := fun u => by simp [cooL]
    rw [sp nv, sp v, List.setIfInBounds_toArray, List.set_append_right _ _ (by rw [hl]; exact Nat.le_refl _), hl]
    rfl
  rw [e] at this
  exact this
end

/-- What stands while the needs are told. -/
structure NewI (w : World) (B1 b tb J H X Lo : Nat) (x : StoB) (job : List UInt8) (par : List Value) (N : Nat) (jc : Array Value) (C R M D M1 M2 n : Nat) (W : World) : Prop where
  p : CellsAt W (H + 1) par.toArray 24
  σ : StoreAt W b sto0 x
  τ : TruAt W tb ⟨1, 0, 0⟩
  j : CellsAt W J jc 121
  x : CellsAt W X #[.pointer (some ⟨C, 0, none⟩)] 25
  coo : ∃ na nc xs, xs.length = n ∧ CooG Lo tb J job par N (.slice na n nc) W C R M D M1 M2 ∧ W.ownsRow B1 84 1 (.slice na n nc) n xs
  md : Mod w W (· = tb)
  sz : B1 ≤ W.heap.size
/-- All of it lies below. -/
structure NewL (B1 b tb J H X : Nat) (x : StoB) (C R M D M1 M2 : Nat) : Prop where
  foot : ∀ k, x.foot b k → k < B1
  tb : tb < B1
  J : J < B1
  H : H + 1 < B1
  X : X < B1
  cs : C < B1 ∧ R < B1 ∧ M < B1 ∧ D < B1 ∧ M1 < B1 ∧ M2 < B1
section
variable {w W W' : World} {B1 b tb J H X Lo : Nat} {x : StoB} {job : List UInt8} {par : List Value} {N : Nat} {jc : Array Value} {C R M D M1 M2 n : Nat}
theorem NewI.still (h : NewI w B1 b tb J H X Lo x job par N jc C R M D M1 M2 n W) (hm : Mod W W' Nob) : NewI w B1 b tb J H X Lo x job par N jc C R M D M1 M2 n W' := by
  obtain ⟨na, nc, xs, h1, h2, h3⟩ := h.coo
  exact ⟨h.p.mod hm nob, h.σ.mod hm (fun _ h => h.elim), h.τ.mod hm nob, h.j.mod hm nob, h.x.mod hm nob, ⟨na, nc, xs, h1, h2.nob hm, owns_mod h3 hm (fun _ _ => Go.Proofs.YtakgnkjopbflbaaGreatDoor.nob)⟩, h.md.trans hm.nob, Nat.le_trans h.sz hm.size⟩
theorem NewI.grown (hl : NewL B1 b tb J H X x C R M D M1 M2) (hw : w.heap.size ≤ B1) (h : NewI w B1 b tb J H X Lo x job par N jc C R M D M1 M2 n W) {row : Option Nat} (hg : W.grownBy W' row) (hr : ∀ r, row = some r → B1 ≤ r ∧ ∃ o : Obj, W.heap[r]? = some o ∧ o.isCells = false) : NewI w B1 b tb J H X Lo x job par N jc C R M D M1 M2 n W' := by
  obtain ⟨na, nc, xs, h1, h2, h3⟩ := h.coo
  have hm : Mod W W' (fun k => row = some k) := (Mod.refl W _).grown hg (fun k e => .inl e)
  have hlo : ∀ k, row = some k → B1 ≤ k := fun k e => (hr k e).1
  obtain ⟨c1, c2, c3, c4, c5, c6⟩ := hl.cs
  refine ⟨h.p.mod hm (fun e => by have := hlo _ e; have := hl.H; omega), h.σ.mod hm (fun k e hf => by have := hlo _ e; have := hl.foot k hf; omega), h.τ.mod hm (fun e => by have := hlo _ e; have := hl.tb; omega), h.j.mod hm (fun e => by have := hlo _ e; have := hl.J; omega), h.x.mod hm (fun e => by have := hlo _ e; have := hl.X; omega),
    ⟨na, nc, xs, h1, h2.mod hm (fun k e => by have := hlo _ e; refine ⟨?_, ?_, ?_, ?_, ?_, ?_⟩ <;> omega), owns_mod h3 hm (fun k hk e => ?_)⟩, h.md.drop hm (fun k e => .inr (by have := hlo _ e; omega)), Nat.le_trans h.sz hm.size⟩
  obtain ⟨o, ho, hc⟩ := owns_cells h3 k hk
  obtain ⟨_, o', ho', hc'⟩ := hr k e
  rw [ho] at ho'
  cases ho'
  rw [hc] at hc'
  cases hc'
end
end Go.Proofs.YtakgnkjopbflbaaGreatDoor
