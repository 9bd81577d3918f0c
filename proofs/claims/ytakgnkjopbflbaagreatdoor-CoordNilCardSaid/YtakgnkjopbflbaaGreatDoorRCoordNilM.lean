/-
  CoordNil: a coordinator of no trust, of no store, no coordinator at all. No condition.
-/
import Derived.Test.YtakgnkjopbflbaaGreatDoorGdK
import Derived.Test.YtakgnkjopbflbaaGreatDoorJh
import Derived.Deep.LoopGhost
import Derived.Still
import Derived.Test.YtakgnkjopbflbaaGreatDoorGdB
import Derived.Test.YtakgnkjopbflbaaGreatDoorDs
import Derived.Test.YtakgnkjopbflbaaGreatDoorRows
import Derived.WalkKit
import Derived.ProofKit
import Derived.LaidMore
import Derived.OpenShut
import Derived.Stop.Joined
import Derived.Lib.SmallJoins
import Derived.ChangeOld
import Derived.Below
import Derived.Test.YtakgnkjopbflbaaGreatDoorCards
import Derived.Test.YtakgnkjopbflbaaGreatDoorTie
import Derived.SevenTiedAt
namespace Go.Proofs.YtakgnkjopbflbaaGreatDoor
open Go.RowKit Go.Shelf
set_option linter.unusedSimpArgs false

set_option maxRecDepth 100000 in
set_option maxHeartbeats 1000000 in
theorem step_nilC (wv : Value) (w : World) : Calls Tryz.prog 10 #[.pointer none, wv, .nilFunc, .nilFunc] w fun e w' => e = .returned (.int .i64 2) ∧ w' = w := by
  go_enter Tryz.func10, Tryz.ntmps10
  go_wp2_with fail
  go_ret
  exact ⟨rfl, rfl⟩
set_option maxRecDepth 100000 in
set_option maxHeartbeats 1000000 in
theorem state_nilC (w : World) : Calls Tryz.prog 12 #[.pointer none] w fun e w' => e = .returned (.int .i64 0) ∧ w' = w := by
  go_enter Tryz.func12, Tryz.ntmps12
  go_wp2_with fail
  go_ret
  exact ⟨rfl, rfl⟩
set_option maxRecDepth 100000 in
set_option maxHeartbeats 1000000 in
theorem done_nilC (w : World) : Calls Tryz.prog 13 #[.pointer none] w fun e w' => e = .returned (.slice none 0 0) ∧ w' = w := by
  go_enter Tryz.func13, Tryz.ntmps13
  go_wp2_with fail
  go_ret
  exact ⟨rfl, rfl⟩
set_option maxRecDepth 100000 in
set_option maxHeartbeats 1000000 in
theorem epoch_nilC (w : World) : Calls Tryz.prog 14 #[.pointer none] w fun e w' => e = .returned (.int .u64 0) ∧ w' = w := by
  go_enter Tryz.func14, Tryz.ntmps14
  go_wp2_with fail
  go_ret
  exact ⟨rfl, rfl⟩
set_option maxRecDepth 100000 in
set_option maxHeartbeats 1000000 in
theorem wire_new (w : World) : Calls Tryz.prog 11 #[] w fun e w' => ∃ b, e = .returned (.pointer (some ⟨b, 0, none⟩)) ∧ Mod w w' Nob ∧ w.heap.size ≤ b := by
  have hb : (Tryz.prog.built 113 []).isSome := by kernel_rfl
  have mB := fun o => (Mod.refl w Nob).alloc o
  go_enter Tryz.func11, Tryz.ntmps11
  go_wp2_with fail
  go_ret
  exact ⟨_, rfl, mB _, Nat.le_refl _⟩
set_option maxRecDepth 100000 in
set_option maxHeartbeats 1000000 in
theorem eight_len (v : Nat) (w : World) : Calls Tryz.prog 15 #[.int .u64 v] w fun e w' => ∃ a c, e = .returned (.slice a 8 c) ∧ Mod w w' Nob := by
  obtain ⟨j0, hj, hz0, hz1, hz2⟩ := info_parts info_u8
  go_enter Tryz.func15, Tryz.ntmps15
  go_wp2_with fail
  go_loopw [3, 4] (fun b i wr => ∃ (j : Nat) (a : Option Addr) (c : Nat) (xs : List Value), j ≤ 8 ∧ b = .slice a j c ∧ i = .int .i64 (j : Int) ∧ wr.ownsRow w.heap.size 5 1 (.slice a j c) j xs ∧ Mod w wr Nob) (fun _ i _ => (8 - intOf i).toNat)
  case atStart => exact ⟨0, none, 0, [], by omega, rfl, rfl, ⟨rfl, .inl ⟨rfl, rfl⟩⟩, Mod.refl _ _⟩
  case round =>
    obtain ⟨j, a, c, xs, hj8, rfl, rfl, hown, hm⟩ := hrel
    by_cases hlt : j < 8
    · have hlt' : (j : Int) < 8 := by omega
      have h0 := hm.size
      have hown1 := fun o => owns_mod hown ((Mod.refl wr Nob).alloc o) (fun _ _ => nob)
      go_wp2_with (at_builtin; refine wpList_append_one _ rfl _ _ 43 rfl w.heap.size 5 j0 _ 1 1 Tryz.underlying43 hj hz0 hz1 hz2 rfl (by decide) (.slice a j c) j _ rfl (hown1 _) wr.heap.size 1 [_] 5 rfl rfl (CellsAt.new wr _ _) (by simp [Value.oneCell']) (by unfold maxLen; omega) (by omega) (by simp; omega) ?_)
      intro v' w3 hown3 hg3 hin3
      obtain ⟨a3, c3, rfl, _⟩ := owns_form hown3
      have hm4 := ((Mod.refl wr (inBlock (.slice a j c))).alloc _).grown hg3 (fun k hk => .inl hk)
      have hm5 := hm.drop hm4 (fun k hk => .inr (hown.lt k hk).1)
      clear hg3 hin3 hm4 hown1 hown
      go_wp2_with fail
      refine ⟨⟨j + 1, a3, c3, _, by omega, rfl, by simp, hown3, hm5⟩, by simp [intOf]; omega⟩
    · obtain rfl : j = 8 := by omega
      go_wp2_with fail
      go_ret
      exact ⟨a, c, rfl, hm⟩

set_option maxRecDepth 100000 in
set_option maxHeartbeats 1000000 in
theorem begin_nilTr (w : World) : Calls Tryz.prog 22 #[.pointer none] w fun e w' => e = .returned (.tuple #[.int .u64 0, .int .i64 2]) ∧ w' = w := by
  go_enter Tryz.func22, Tryz.ntmps22
  go_wp2_with fail
  exact bodyPost_ret (v := .tuple #[.int .u64 0, .int .i64 2]) (by simp [results, Tryz.f22, go_sem]) rfl ⟨rfl, rfl⟩

set_option maxRecDepth 100000 in
set_option maxHeartbeats 2000000 in
theorem coord_nilT (sp : Value) (job : List UInt8) (pv : Array Value) (w : World) :
    Calls Tryz.prog 6 #[.pointer none, sp, .agg (arrB job), .agg pv, .nilFunc, .nilFunc] w fun e w' => e = .returned (.tuple #[.pointer none, .int .i64 2]) ∧ Mod w w' Nob := by
  have mB := ((Mod.refl w Nob).alloc (.cells (arrB job) 22)).alloc (.cells pv 24)
  refine (callsIn_wide (n := 6)).1 ?_
  refine callsIn_of_wp_marks Tryz.func6 rfl trivial ?_ rfl
  simp only [Tryz.ntmps6, List.size_toArray, List.length_cons, List.length_nil, Nat.reduceAdd, Nat.reduceSub, Array.replicate_succ, Array.replicate_zero, List.push_toArray, List.append_toArray, List.nil_append, List.cons_append]
  refine wpIn_wide.2 ?_
  go_wp2_with fail
  refine (begin_nilTr _).mono ?_
  rintro e W1 ⟨rfl, rfl⟩
  go_wp2_with fail
  refine ⟨.tuple #[.pointer none, .int .i64 2], ?_, ?_⟩
  · simp [results, Tryz.f6, go_sem]
  · exact ⟨rfl, mB⟩

set_option maxRecDepth 100000 in
set_option maxHeartbeats 2000000 in
theorem coord_nilS (tb : Nat) (job : List UInt8) (hj : job.length = 32) (pv : Array Value) (w : World) (hτ : TruAt w tb ⟨0, 0, 0⟩) :
    Calls Tryz.prog 6 #[.pointer (some ⟨tb, 0, none⟩), .pointer none, .agg (arrB job), .agg pv, .nilFunc, .nilFunc] w fun e w' => e = .returned (.tuple #[.pointer none, .int .i64 2]) ∧ Mod w w' (· = tb) := by
  have cJ := (CellsAt.new w (arrB job) 22).alloc (.cells pv 24)
  have mB := ((Mod.refl w Nob).alloc (.cells (arrB job) 22)).alloc (.cells pv 24)
  have hbE : Tryz.prog.built 72 [(0, .nilFunc), (1, .nilFunc)] = some #[.nilFunc, .nilFunc] := by kernel_rfl
  have HBE := Lib.hid hbE
  clear hbE
  have hjs : (arrB job).size = 32 := by rw [arrB_size, hj]
  refine (callsIn_wide (n := 6)).1 ?_
  refine callsIn_of_wp_marks Tryz.func6 rfl trivial ?_ rfl
  simp only [Tryz.ntmps6, List.size_toArray, List.length_cons, List.length_nil, Nat.reduceAdd, Nat.reduceSub, Array.replicate_succ, Array.replicate_zero, List.push_toArray, List.append_toArray, List.nil_append, List.cons_append]
  refine wpIn_wide.2 ?_
  go_wp2_with fail
  change Calls _ _ _ ((w.alloc (.cells (arrB job) 22)).alloc (.cells pv 24)) _
  obtain ⟨W, hW⟩ : ∃ W, (w.alloc (.cells (arrB job) 22)).alloc (.cells pv 24) = W := ⟨_, rfl⟩
  rw [hW] at cJ mB ⊢
  obtain ⟨H, hH⟩ : ∃ H, w.heap.size = H := ⟨_, rfl⟩
  rw [hH] at cJ ⊢
  have HH := Lib.hid hH
  clear hW hH
  have hτ1 := hτ.mod mB nob
  have htH : tb < H := by rw [← HH.out]; exact CellsAt.lt hτ
  clear hτ
  refine (trust_begin tb ⟨0, 0, 0⟩ W hτ1 (by simp)).mono ?_
  rintro e W1 ⟨rfl, _, m1⟩
  replace cJ := cJ.mod m1 (by omega)
  replace mB := (mB.nob (T := (· = tb))).trans m1
  clear m1 hτ1
  have hbe := begin_nilS (some ⟨tb, 0, none⟩) job 1 W1
  unfold eyes0 at hbe
  go_wp2_with (first
    | (refine wpList_load_arr rfl 22 _ rfl H 32 5 rfl (arrB job) cJ Tryz.underlying22 size_b32 hjs ?_)
    | (refine wpList_build2 rfl 72 0 1 (.tmp 37) (.tmp 38) rfl .nilFunc .nilFunc rfl rfl _ HBE.out ?_))
  refine hbe.mono ?_
  rintro e W2 ⟨rfl, m1⟩
  replace mB := mB.trans m1.nob
  clear hbe m1
  go_wp2_with fail
  refine ⟨.tuple #[.pointer none, .int .i64 2], ?_, ?_⟩
  · simp [results, Tryz.f6, go_sem]
  · exact ⟨rfl, mB⟩
end Go.Proofs.YtakgnkjopbflbaaGreatDoor

namespace Go.Proofs.YtakgnkjopbflbaaGreatDoor
open Go.RowKit Go.Shelf
set_option linter.unusedSimpArgs false

def z32V : List Value := List.replicate 32 (.int .u8 0)
/-- A job without a program and pairs. -/
def jobA (k p0 p1 p2 p3 : Int) (iv : Value) : Array Value := #[.int .u8 0, .int .u8 0, .int .u8 0, .int .u8 0, .int .u8 0, .int .u8 0, .int .u8 0, .int .u8 0, .int .u8 0, .int .u8 0, .int .u8 0, .int .u8 0, .int .u8 0, .int .u8 0, .int .u8 0, .int .u8 0, .int .u8 0, .int .u8 0, .int .u8 0, .int .u8 0, .int .u8 0, .int .u8 0, .int .u8 0, .int .u8 0, .int .u8 0, .int .u8 0, .int .u8 0, .int .u8 0, .int .u8 0, .int .u8 0, .int .u8 0, .int .u8 0, .int .u64 0, .int .i64 k, .slice none 0 0, .slice none 0 0, .slice none 0 0, .int .i64 p0, .int .i64 p1, .int .i64 p2, .int .i64 p3, iv]
def lenJ : Value → Nat
  | .slice _ n _ => n
  | _ => 0
theorem size_job : (Tryz.prog.info? 62).map (·.size) = some 42 := by kernel_rfl
theorem u_rem (p : Int) (m : Nat) (hm : 0 < m) (h6 : m ≤ 6) : ∃ r : Nat, 1 ≤ r ∧ r ≤ m ∧ wrap64 (1 + wrap64 ((IntKind.u64.wrap p).tmod (m : Int))) = r := by
  have hu : 0 ≤ IntKind.u64.wrap p := by unfold IntKind.wrap; simp [IntKind.signed, IntKind.bits]; omega
  rw [Int.tmod_eq_emod_of_nonneg hu]
  have h0 := Int.emod_nonneg (IntKind.u64.wrap p) (show (m : Int) ≠ 0 by omega)
  have h1 := Int.emod_lt_of_pos (IntKind.u64.wrap p) (show (0 : Int) < m by omega)
  generalize IntKind.u64.wrap p % (m : Int) = y at h0 h1
  rw [w64 (x := y) h0 (by omega), w64 (by omega) (by omega)]
  exact ⟨(1 + y).toNat, by omega, by omega, by omega⟩

theorem right_nums0 : ∀ q : Fin 7, ∀ a : Fin 3, ∀ b : Fin 4, 1 ≤ q.val → 1 ≤ b.val → (7 < IntKind.i64.wrap ((a.val : Int) * IntKind.i64.wrap ((IntKind.i64.wrap (IntKind.i64.wrap ((q.val : Int) + (b.val : Int)) - 1)).tdiv (b.val : Int))) → 2 ≤ q.val) ∧
    (IntKind.i64.wrap ((a.val : Int) * IntKind.i64.wrap ((IntKind.i64.wrap (IntKind.i64.wrap ((q.val : Int) + (b.val : Int)) - 1)).tdiv (b.val : Int))) ≤ 7 → (a.val : Int) * (((q.val : Int) - 1) / (b.val : Int) + 1) < 32) := by decide +kernel
theorem right_nums (q : Nat) (hq : q < 7) (a : Nat) (ha : a < 3) (b : Nat) (hb : b < 4) (h1 : 1 ≤ q) (h2 : 1 ≤ b) : (7 < IntKind.i64.wrap ((a : Int) * IntKind.i64.wrap ((IntKind.i64.wrap (IntKind.i64.wrap ((q : Int) + (b : Int)) - 1)).tdiv (b : Int))) → 2 ≤ q) ∧
    (IntKind.i64.wrap ((a : Int) * IntKind.i64.wrap ((IntKind.i64.wrap (IntKind.i64.wrap ((q : Int) + (b : Int)) - 1)).tdiv (b : Int))) ≤ 7 → (a : Int) * (((q : Int) - 1) / (b : Int) + 1) < 32) := right_nums0 ⟨q, hq⟩ ⟨a, ha⟩ ⟨b, hb⟩ h1 h2

set_option maxRecDepth 100000 in
set_option maxHeartbeats 1000000 in
theorem info_pair : (Tryz.prog.info? 118).map (fun i => (i.zero, i.size, i.bytes)) = some (some (.agg #[.int .i64 0, .int .i64 0]), 2, 16) := by kernel_rfl

set_option maxRecDepth 100000 in
set_option maxHeartbeats 1000000 in
theorem part_nil (k : Int) (w : World) : Calls Tryz.prog 75 #[.slice none 0 0, .int .i64 k] w fun e w' => e = .returned (.bool true) ∧ w' = w := by
  go_enter Tryz.func75, Tryz.ntmps75
  go_wp2_with fail
  refine wp_loop_once ?_
  go_wp2_with fail
  go_ret
  exact ⟨rfl, rfl⟩

set_option maxRecDepth 100000 in
set_option maxHeartbeats 1000000 in
theorem check_nil (k : Nat) (h1 : 1 ≤ k) (h4 : k ≤ 4) (w : World) : Calls Tryz.prog 40 #[.agg #[.int .i64 k, .slice none 0 0, .slice none 0 0, .slice none 0 0]] w fun e w' => e = .returned (.int .i64 0) ∧ Mod w w' Nob := by
  have hk1 : (1 : Int) ≤ (k : Int) := by omega
  have hk4 : (k : Int) ≤ 4 := by omega
  have hB := (Mod.refl w Nob).alloc (.cells #[.int .i64 k, .slice none 0 0, .slice none 0 0, .slice none 0 0] 59)
  have cB := CellsAt.new w #[.int .i64 k, .slice none 0 0, .slice none 0 0, .slice none 0 0] 59
  go_enter Tryz.func40, Tryz.ntmps40
  go_wp2_with fail
  obtain ⟨W, hW⟩ : ∃ W, w.alloc (.cells #[.int .i64 k, .slice none 0 0, .slice none 0 0, .slice none 0 0] 59) = W := ⟨_, rfl⟩
  rw [hW] at hB cB ⊢
  have q1 := cB.cell 1
  have q2 := cB.cell 2
  have q3 := cB.cell 3
  simp at q1 q2 q3
  refine (part_nil _ W).mono ?_
  rintro e W' ⟨rfl, rfl⟩
  go_wp2_with fail
  refine (part_nil _ _).mono ?_
  rintro e W'' ⟨rfl, rfl⟩
  go_wp2_with fail
  refine (part_nil _ _).mono ?_
  rintro e W3 ⟨rfl, rfl⟩
  go_wp2_with fail
  go_ret
  exact ⟨rfl, hB⟩

set_option maxRecDepth 100000 in
set_option maxHeartbeats 8000000 in
theorem right_play (p0 p1 p2 p3 : Int) (w : World) : Calls Tryz.prog 21 #[.agg (jobA 0 p0 p1 p2 p3 (.slice none 0 0))] w fun e w' => ∃ (r1 q r2 r3 : Nat) (a : Option Addr) (n c : Nat), e = .returned (.agg (jobA r1 q r1 r2 r3 (.slice a n c))) ∧ fitQ q r1 r2 r3 ∧ Mod w w' Nob := by
  have cX := (CellsAt.new w (jobA 0 p0 p1 p2 p3 (.slice none 0 0)) 62).alloc (.cells (jobA 0 0 0 0 0 (.slice none 0 0)) 62)
  have cR := new_at (w := w.alloc (.cells (jobA 0 p0 p1 p2 p3 (.slice none 0 0)) 62)) (cs := jobA 0 0 0 0 0 (.slice none 0 0)) (t := 62) (g := w.heap.size + 1) (by simp)
  have mB := ((Mod.refl w Nob).alloc (.cells (jobA 0 p0 p1 p2 p3 (.slice none 0 0)) 62)).alloc (.cells (jobA 0 0 0 0 0 (.slice none 0 0)) 62)
  obtain ⟨r0, a0, b0, e0⟩ := u_rem p0 6 (by omega) (by omega)
  obtain ⟨r1, a1, b1, e1⟩ := u_rem p1 2 (by omega) (by omega)
  obtain ⟨r2, a2, b2, e2⟩ := u_rem p2 3 (by omega) (by omega)
  obtain ⟨r3, a3, b3, e3⟩ := u_rem p3 3 (by omega) (by omega)
  have E0 := Lib.hid e0
  have E1 := Lib.hid e1
  have E2 := Lib.hid e2
  have E3 := Lib.hid e3
  clear e0 e1 e2 e3
  unfold jobA
  go_enter Tryz.func21, Tryz.ntmps21
  go_wp2_with fail
  have E0' : wrap64 (1 + wrap64 ((IntKind.u64.wrap p0).tmod 6)) = (r0 : Int) := E0.out
  have E1' : wrap64 (1 + wrap64 ((IntKind.u64.wrap p1).tmod 2)) = (r1 : Int) := E1.out
  have E2' : wrap64 (1 + wrap64 ((IntKind.u64.wrap p2).tmod 3)) = (r2 : Int) := E2.out
  have E3' : wrap64 (1 + wrap64 ((IntKind.u64.wrap p3).tmod 3)) = (r3 : Int) := E3.out
  rw [E0', E1', E2', E3']
  clear E0' E1' E2' E3' E0 E1 E2 E3 cX cR mB
  have mB := ((Mod.refl w Nob).alloc (.cells (jobA 0 r0 r1 r2 r3 (.slice none 0 0)) 62)).alloc (.cells (jobA 0 0 0 0 0 (.slice none 0 0)) 62)
  have cX := (CellsAt.new w (jobA 0 r0 r1 r2 r3 (.slice none 0 0)) 62).alloc (.cells (jobA 0 0 0 0 0 (.slice none 0 0)) 62)
  have cR := new_at (w := w.alloc (.cells (jobA 0 r0 r1 r2 r3 (.slice none 0 0)) 62)) (cs := jobA 0 0 0 0 0 (.slice none 0 0)) (t := 62) (g := w.heap.size + 1) (by simp)
  change Code.wp _ _ _ _ ((w.alloc (.cells (jobA 0 r0 r1 r2 r3 (.slice none 0 0)) 62)).alloc (.cells (jobA 0 0 0 0 0 (.slice none 0 0)) 62))
  obtain ⟨W, hW⟩ : ∃ W, (w.alloc (.cells (jobA 0 r0 r1 r2 r3 (.slice none 0 0)) 62)).alloc (.cells (jobA 0 0 0 0 0 (.slice none 0 0)) 62) = W := ⟨_, rfl⟩
  rw [hW] at cX cR mB ⊢
  obtain ⟨H, hH⟩ : ∃ H, w.heap.size = H := ⟨_, rfl⟩
  rw [hH] at cX cR ⊢
  have HH := Lib.hid hH
  have hwH : w.heap.size ≤ H := by omega
  clear hW hH
  go_loopg [] r0 (fun k wr => 1 ≤ k ∧ k ≤ 6 ∧ CellsAt wr H (jobA 0 k r1 r2 r3 (.slice none 0 0)) 62 ∧ CellsAt wr (H + 1) (jobA 0 0 0 0 0 (.slice none 0 0)) 62 ∧ Mod w wr Nob)
  case atStart => exact ⟨a0, b0, cX, cR, mB⟩
  case round =>
    clear cX cR mB
    obtain ⟨k1, k6, cX, cR, mB⟩ := hrel
    have mD := (Mod.refl wr Nob).drew
    replace cX := cX.mod mD nob
    replace cR := cR.mod mD nob
    replace mB := mB.trans mD
    have y37 : wr.drew.cell? ⟨H, 37, none⟩ = some (.int .i64 gk) := cX.cell 37
    have y38 : wr.drew.cell? ⟨H, 38, none⟩ = some (.int .i64 r1) := cX.cell 38
    have y39 : wr.drew.cell? ⟨H, 39, none⟩ = some (.int .i64 r2) := cX.cell 39
    simp at y37 y38 y39
    have hr2 : r2 ≠ 0 := by omega
    go_wp2_with fail
    refine wp_region_still_lit (by kernel_rfl) (by kernel_rfl) ?_
    repeat still_step
    refine wpStill_nil ?_
    change Exit.then _ _ _ _ wr.drew
    obtain ⟨V, hV⟩ : ∃ V, wr.drew = V := ⟨_, rfl⟩
    rw [hV] at cX cR mB ⊢
    clear hV mD
    have z37 := cX.cell 37
    have f37 := cX.free 37
    have c37 := cX.set 37 (.int .i64 ((gk : Int) - 1))
    simp [jobA] at z37 c37
    clear y37 y38 y39
    obtain ⟨n1, n2⟩ := right_nums gk (by omega) r1 (by omega) r2 (by omega) k1 (by omega)
    have N2 := Box.mk n2
    have y33 : V.cell? ⟨H, 33, none⟩ = some (.int .i64 0) := cX.cell 33
    have y34 : V.cell? ⟨H, 34, none⟩ = some (.slice none 0 0) := cX.cell 34
    have y35 : V.cell? ⟨H, 35, none⟩ = some (.slice none 0 0) := cX.cell 35
    have y36 : V.cell? ⟨H, 36, none⟩ = some (.slice none 0 0) := cX.cell 36
    have y38 : V.cell? ⟨H, 38, none⟩ = some (.int .i64 r1) := cX.cell 38
    have hHV := cX.lt
    have N1 := Box.mk n1
    clear n1 n2
    go_wp2_with fail
    · have hq2 := N1.out ‹_›
      go_roundg (gk - 1)
      case measure => omega
      case rel =>
        have e : ((gk : Int) - 1) = ((gk - 1 : Nat) : Int) := by omega
        rw [e] at c37 ⊢
        exact ⟨by omega, by omega, c37, cR.mod ((Mod.refl V (· = H)).setCell (p := ⟨H, 37, none⟩) (.inl rfl) _) (by omega), mB.setCell (p := ⟨H, 37, none⟩) (.inr hwH) _⟩
    · have hfit := N2.out ‹_›
      have mG := mB.alloc (.cells #[.int .i64 r1, .slice none 0 0, .slice none 0 0, .slice none 0 0] 59)
      have cG := CellsAt.new V #[.int .i64 r1, .slice none 0 0, .slice none 0 0, .slice none 0 0] 59
      replace cX := cX.alloc (.cells #[.int .i64 r1, .slice none 0 0, .slice none 0 0, .slice none 0 0] 59)
      have hR0 := cR.lt
      replace cR := cR.alloc (.cells #[.int .i64 r1, .slice none 0 0, .slice none 0 0, .slice none 0 0] 59)
      obtain ⟨V1, hV1⟩ : ∃ V1, V.alloc (.cells #[.int .i64 r1, .slice none 0 0, .slice none 0 0, .slice none 0 0] 59) = V1 := ⟨_, rfl⟩
      obtain ⟨G, hG⟩ : ∃ G, V.heap.size = G := ⟨_, rfl⟩
      rw [hV1] at mG cG cX cR ⊢
      rw [hG] at cG ⊢
      have hwG : w.heap.size ≤ G := by have := mB.1; omega
      have hHG : H < G := by omega
      have hHG1 : H + 1 < G := by omega
      clear hG
      clear hV1 y33 y34 y35 y36 y38 z37 f37 c37 hHV mB
      refine (check_nil r1 (by omega) (by omega) _).mono ?_
      rintro e V2 ⟨rfl, h2⟩
      replace cX := cX.mod h2 nob
      replace cR := cR.mod h2 nob
      replace cG := cG.mod h2 nob
      replace mG := mG.trans h2
      clear h2
      have y0 : V2.cell? ⟨G, 0, none⟩ = some (.int .i64 r1) := cG.cell 0
      have y1 : V2.cell? ⟨G, 1, none⟩ = some (.slice none 0 0) := cG.cell 1
      have y2 : V2.cell? ⟨G, 2, none⟩ = some (.slice none 0 0) := cG.cell 2
      have y3 : V2.cell? ⟨G, 3, none⟩ = some (.slice none 0 0) := cG.cell 3
      have y33 : V2.cell? ⟨H, 33, none⟩ = some (.int .i64 0) := cX.cell 33
      have y34 : V2.cell? ⟨H, 34, none⟩ = some (.slice none 0 0) := cX.cell 34
      have y35 : V2.cell? ⟨H, 35, none⟩ = some (.slice none 0 0) := cX.cell 35
      have y36 : V2.cell? ⟨H, 36, none⟩ = some (.slice none 0 0) := cX.cell 36
      have y37 : V2.cell? ⟨H, 37, none⟩ = some (.int .i64 gk) := cX.cell 37
      have y41 : V2.cell? ⟨H, 41, none⟩ = some (.slice none 0 0) := cX.cell 41
      have hHV := cX.lt
      have k1' : (1 : Int) ≤ (gk : Int) := by omega
      have f33 := cX.free 33
      have f34 := cX.free 34
      have f35 := cX.free 35
      have f36 := cX.free 36
      go_wp2_with fail
      have hmin : (min 0 (gk : Int)).toNat = 0 := by omega
      rw [hmin]
      replace cX := (((cX.set 33 (.int .i64 r1)).set 34 (.slice none 0 0)).set 35 (.slice none 0 0)).set 36 (.slice none 0 0)
      replace cR := (((cR.mod ((Mod.refl V2 (· = H)).setCell (p := ⟨H, 33, none⟩) (.inl rfl) (.int .i64 r1)) (by omega)).mod ((Mod.refl _ (· = H)).setCell (p := ⟨H, 34, none⟩) (.inl rfl) (.slice none 0 0)) (by omega)).mod ((Mod.refl _ (· = H)).setCell (p := ⟨H, 35, none⟩) (.inl rfl) (.slice none 0 0)) (by omega)).mod ((Mod.refl _ (· = H)).setCell (p := ⟨H, 36, none⟩) (.inl rfl) (.slice none 0 0)) (by omega)
      replace mG := (((mG.setCell (p := ⟨H, 33, none⟩) (.inr hwH) (.int .i64 r1)).setCell (p := ⟨H, 34, none⟩) (.inr hwH) (.slice none 0 0)).setCell (p := ⟨H, 35, none⟩) (.inr hwH) (.slice none 0 0)).setCell (p := ⟨H, 36, none⟩) (.inr hwH) (.slice none 0 0)
      obtain ⟨V3, hV3⟩ : ∃ V3, (((V2.setCell ⟨H, 33, none⟩ (.int .i64 r1)).setCell ⟨H, 34, none⟩ (.slice none 0 0)).setCell ⟨H, 35, none⟩ (.slice none 0 0)).setCell ⟨H, 36, none⟩ (.slice none 0 0) = V3 := ⟨_, rfl⟩
      rw [hV3] at cX cR mG ⊢
      clear hV3 cG y0 y1 y2 y3 y33 y34 y35 y36 y37 y41 f33 f34 f35 f36 hHV hmin
      simp [jobA] at cX
      have cX : CellsAt V3 H (jobA r1 gk r1 r2 r3 (.slice none 0 0)) 62 := cX
      obtain ⟨B0, hB0⟩ : ∃ B0, V3.heap.size = B0 := ⟨_, rfl⟩
      have hHB : H < B0 := by have := cX.lt; omega
      have hHB1 : H + 1 < B0 := by have := cR.lt; omega
      have hB1 : B0 ≤ V3.heap.size := by omega
      clear hB0
      obtain ⟨j0, hj, hz0, hz1, hz2⟩ := info_parts info_pair
      go_loopw [4] (fun b wr => ∃ (i : Nat) (a : Option Addr) (c : Nat) (xs : List Value), i ≤ gk ∧ b = .slice a i c ∧ wr.ownsRow B0 118 2 (.slice a i c) i xs ∧ CellsAt wr H (jobA r1 gk r1 r2 r3 (.slice none 0 0)) 62 ∧ CellsAt wr (H + 1) (jobA 0 0 0 0 0 (.slice none 0 0)) 62 ∧ Mod w wr Nob ∧ B0 ≤ wr.heap.size) (fun b _ => gk - lenJ b)
      case atStart => exact ⟨0, none, 0, [], by omega, rfl, ⟨rfl, .inl ⟨rfl, rfl⟩⟩, cX, cR, mG, hB1⟩
      case round =>
        clear cX cR mG hB1
        obtain ⟨i, a, c, xs, hik, rfl, hown, cX, cR, mB, hB1⟩ := hrel
        have y37 : wr.cell? ⟨H, 37, none⟩ = some (.int .i64 gk) := cX.cell 37
        by_cases hlt : i < gk
        · have hlt' : (i : Int) < (gk : Int) := by omega
          have hi3 : ((i : Int).tmod 3) = ((i % 3 : Nat) : Int) := by rw [Int.tmod_eq_emod_of_nonneg (by omega)]; omega
          obtain ⟨q, hq⟩ : ∃ q, i % 3 = q := ⟨_, rfl⟩
          rw [hq] at hi3
          clear hq
          have hown1 := owns_mod hown ((Mod.refl wr Nob).alloc (.cells #[.int .i64 q, .int .i64 1] 118)) (fun _ _ => nob)
          go_wp2_with (at_builtin; refine wpList_append_one _ rfl _ _ 60 rfl B0 118 j0 _ 2 16 Tryz.underlying60 hj hz0 hz1 hz2 rfl (by decide) (.slice a i c) i _ rfl hown1 wr.heap.size 1 [.int .i64 q, .int .i64 1] 118 rfl rfl (CellsAt.new wr _ _) (by simp [Value.oneCell']) (by unfold maxLen; omega) (by omega) (by simp; omega) ?_)
          intro v' w4 hown4 hg4 hin4
          obtain ⟨a4, c4, rfl, _⟩ := owns_form hown4
          have hm4 := ((Mod.refl wr (inBlock (.slice a i c))).alloc (.cells #[.int .i64 q, .int .i64 1] 118)).grown hg4 (fun k hk => .inl hk)
          have hin : ∀ k, inBlock (.slice a i c) k → B0 ≤ k := fun k hk => (hown1.lt k hk).1
          replace cX := cX.mod hm4 (fun h => by have := hin _ h; omega)
          replace cR := cR.mod hm4 (fun h => by have := hin _ h; omega)
          have hm5 := mB.drop hm4 (fun k hk => .inr (by have := hin _ hk; omega))
          have hs4 := hm4.size
          clear hg4 hin4 hm4 hown1 hin
          go_wp2_with fail
          refine ⟨⟨i + 1, a4, c4, _, by omega, rfl, hown4, cX, cR, hm5, by omega⟩, by simp [lenJ]; omega⟩
        · obtain rfl : i = gk := by omega
          have hnlt : ¬ (i : Int) < (i : Int) := by omega
          have y41 : wr.cell? ⟨H, 41, none⟩ = some (.slice none 0 0) := cX.cell 41
          have f41 := cX.free 41
          have c41 := cX.set 41 (.slice a i c)
          simp [jobA] at c41
          have c41 : CellsAt (wr.setCell ⟨H, 41, none⟩ (.slice a i c)) H (jobA r1 i r1 r2 r3 (.slice a i c)) 62 := c41
          replace cR := cR.mod ((Mod.refl wr (· = H)).setCell (p := ⟨H, 41, none⟩) (.inl rfl) (.slice a i c)) (by omega)
          replace mB := mB.setCell (p := ⟨H, 41, none⟩) (.inr hwH) (.slice a i c)
          obtain ⟨V5, hV5⟩ : ∃ V5, wr.setCell ⟨H, 41, none⟩ (.slice a i c) = V5 := ⟨_, rfl⟩
          rw [hV5] at cR c41 mB
          have HV := Box.mk hV5
          clear hV5
          go_wp2_with (first
            | (rw [HV.out]; refine wpList_load_row rfl 62 _ rfl H rfl 62 (jobA r1 i r1 r2 r3 (.slice a i c)) (0, 0) _ c41 Tryz.underlying62 rfl size_job ?_)
            | (refine wpList_store_row rfl 62 _ _ rfl (H + 1) (jobA r1 i r1 r2 r3 (.slice a i c)) rfl rfl 62 (jobA 0 0 0 0 0 (.slice none 0 0)) cR size_job rfl (by simp [jobA, Value.oneCell']) ?_))
          refine bodyPost_ret (v := .agg (jobA r1 i r1 r2 r3 (.slice a i c))) ?_ rfl ⟨r1, i, r2, r3, ⟨a, i, c, rfl⟩, ⟨by omega, by omega, by omega, by omega, by omega, by omega, by omega, by omega, hfit⟩, mB.setRow (.inr (by omega)) _⟩
          exact results_cell_row rfl _ _ (H + 1) 62 _ (0, 0) _ rfl (cR.setRow _) Tryz.underlying62 rfl size_job

theorem size_parH : (Tryz.prog.info? 24).map (·.size) = some 4 := by kernel_rfl
theorem field_parH (k p0 p1 p2 p3 : Int) (v : Value) (W : World) : (Instr.field 62 (.agg (jobA k p0 p1 p2 p3 v)) 3).run Tryz.prog W = .ok (.agg #[.int .i64 p0, .int .i64 p1, .int .i64 p2, .int .i64 p3]) W := by
  unfold jobA
  kernel_rfl
set_option maxRecDepth 100000 in
set_option maxHeartbeats 1000000 in
/-- The law's public parameters are in the range. -/
theorem public_play (p0 p1 p2 p3 : Int) (w : World) : Calls Tryz.prog 5 #[.agg #[.int .i64 p0, .int .i64 p1, .int .i64 p2, .int .i64 p3]] w fun e w' => ∃ (r k bk wk : Nat), e = .returned (.agg (parA r k bk wk)) ∧ fitQ r k bk wk ∧ Mod w w' Nob := by
  have hb : Tryz.prog.built 62 [(3, .agg #[.int .i64 p0, .int .i64 p1, .int .i64 p2, .int .i64 p3])] = some (jobA 0 p0 p1 p2 p3 (.slice none 0 0)) := by kernel_rfl
  have HB := Lib.hid hb
  clear hb
  go_enter Tryz.func5, Tryz.ntmps5
  have cR := new_at (w := w.alloc (.cells #[.int .i64 p0, .int .i64 p1, .int .i64 p2, .int .i64 p3] 24)) (cs := #[.int .i64 0, .int .i64 0, .int .i64 0, .int .i64 0]) (t := 24) (g := w.heap.size + 1) (by simp)
  have mB := ((Mod.refl w Nob).alloc (.cells #[.int .i64 p0, .int .i64 p1, .int .i64 p2, .int .i64 p3] 24)).alloc (.cells #[.int .i64 0, .int .i64 0, .int .i64 0, .int .i64 0] 24)
  go_wp2_with fail
  obtain ⟨W, hW⟩ : ∃ W, (w.alloc (.cells #[.int .i64 p0, .int .i64 p1, .int .i64 p2, .int .i64 p3] 24)).alloc (.cells #[.int .i64 0, .int .i64 0, .int .i64 0, .int .i64 0] 24) = W := ⟨_, rfl⟩
  rw [hW] at cR mB ⊢
  clear hW
  refine (right_play p0 p1 p2 p3 W).mono ?_
  rintro e W' ⟨r1, q, r2, r3, a, n, c, rfl, hf, hm⟩
  replace cR := cR.mod hm nob
  replace mB := mB.trans hm
  clear hm HB
  have hF := field_parH r1 q r1 r2 r3 (.slice a n c) W'
  obtain ⟨jv, hjv⟩ : ∃ jv, Value.agg (jobA r1 q r1 r2 r3 (.slice a n c)) = jv := ⟨_, rfl⟩
  rw [hjv] at hF ⊢
  clear hjv
  go_wp2_with (first
    | (refine wpList_store_row rfl 24 _ _ rfl (w.heap.size + 1) #[.int .i64 q, .int .i64 r1, .int .i64 r2, .int .i64 r3] rfl rfl 24 _ cR size_parH rfl (by simp [Value.oneCell']) ?_))
  refine bodyPost_ret (v := .agg (parA q r1 r2 r3)) ?_ rfl ⟨q, r1, r2, r3, rfl, hf, mB.setRow (.inr (by omega)) _⟩
  exact results_cell_row rfl _ _ (w.heap.size + 1) 24 _ (0, 0) _ rfl (cR.setRow _) Tryz.underlying24 rfl size_parH
end Go.Proofs.YtakgnkjopbflbaaGreatDoor

namespace Go.Proofs.YtakgnkjopbflbaaGreatDoor
open Go.RowKit Go.Shelf
set_option linter.unusedSimpArgs false

theorem coo_gets (t j : Value) (job : List UInt8) (p : List Value) (ring needs : Value) (ep : Nat) (done : Value) (state : Int) (att sent : Nat) (taken starts leases : Value) (hj : job.length = 32) (hp : p.length = 4) :
    (cooL t j job p ring needs ep done state att sent taken starts leases)[40]? = some (.int .u64 ep) ∧ (cooL t j job p ring needs ep done state att sent taken starts leases)[41]? = some done ∧
    (cooL t j job p ring needs ep done state att sent taken starts leases)[42]? = some (.int .i64 state) := by
  refine ⟨?_, ?_, ?_⟩ <;> simp [cooL, List.getElem?_append, hj, hp]

section
variable {Lo tb J : Nat} {job : List UInt8} {par : List Value} {N : Nat} {nv : Value} {w : World} {C R M D M1 M2 : Nat}
set_option maxRecDepth 100000 in
set_option maxHeartbeats 1000000 in
theorem state_at (h : CooG Lo tb J job par N nv w C R M D M1 M2) (hj : job.length = 32) (hp : par.length = 4) : Calls Tryz.prog 12 #[.pointer (some ⟨C, 0, none⟩)] w fun e w' => e = .returned (.int .i64 0) ∧ w' = w := by
  have y := h.c.cell 42
  simp only [List.getElem?_toArray, (coo_gets _ _ job par _ _ _ _ _ _ _ _ _ _ hj hp).2.2] at y
  go_enter Tryz.func12, Tryz.ntmps12
  go_wp2_with fail
  go_ret
  exact ⟨rfl, rfl⟩
set_option maxRecDepth 100000 in
set_option maxHeartbeats 1000000 in
theorem epoch_at (h : CooG Lo tb J job par N nv w C R M D M1 M2) (hj : job.length = 32) (hp : par.length = 4) : Calls Tryz.prog 14 #[.pointer (some ⟨C, 0, none⟩)] w fun e w' => e = .returned (.int .u64 1) ∧ w' = w := by
  have y := h.c.cell 40
  simp only [List.getElem?_toArray, (coo_gets _ _ job par _ _ _ _ _ _ _ _ _ _ hj hp).1] at y
  go_enter Tryz.func14, Tryz.ntmps14
  go_wp2_with fail
  go_ret
  exact ⟨rfl, rfl⟩
set_option maxRecDepth 100000 in
set_option maxHeartbeats 1000000 in
theorem clone_u64 (g : Nat) (xs : List Value) (w : World) (h : CellsAt w g xs.toArray 41) (h1 : ∀ u ∈ xs, u.oneCell' = true) (hn : xs.length < 1073741824) :
    Calls Tryz.prog 38 #[.slice (some ⟨g, 0, none⟩) xs.length xs.length] w fun e w' => ∃ a c, e = .returned (.slice a xs.length c) ∧ w'.ownsRow w.heap.size 41 1 (.slice a xs.length c) xs.length xs ∧ Mod w w' Nob := by
  obtain ⟨i0, hi, hz0, hz1, hz2⟩ := info_parts info_u64
  have hne := @Lib.run_eql_slice_nil Tryz.prog
  have ho := h.alloc (.cells #[] 41)
  have hown := World.ownsRow_made (base := w.heap.size) (e := 41) (size := 1) w #[] 0 (Nat.le_refl _) (by unfold maxLen; omega) (by simp)
  have hc : ∀ j u, xs[j]? = some u → (w.alloc (.cells #[] 41)).cell? ((⟨g, 0, none⟩ : Addr).add j) = some u := fun j u hj => by rw [Addr.add_lit, Nat.zero_add, ho.cell j]; simpa using hj
  obtain ⟨v', w', hrun, r1, r2, r3, r4⟩ := run_append_at (P := Tryz.prog) (w.alloc (.cells #[] 41)) 39 39 41 i0 _ 1 8 Tryz.underlying39 hi hz0 hz1 hz2 rfl (by omega) w.heap.size (.slice (some ⟨w.heap.size, 0, none⟩) 0 0) 0 [] (by simpa using hown) ⟨g, 0, none⟩ xs.length xs.length xs (by omega) hc h1 (by unfold maxLen; omega) (by omega) (by simp)
  go_enter Tryz.func38, Tryz.ntmps38
  go_wp2_with (at_builtin; refine wpList_append_run (P := Tryz.prog) _ rfl (.tmp 5) (.tmp 6) 39 39 rfl _ _ rfl rfl v' w' hrun ?_)
  go_ret
  rw [Nat.zero_add, List.nil_append] at r1
  obtain ⟨a', c', rfl, _, _⟩ := owns_form r1
  exact ⟨a', c', rfl, r1, ((Mod.refl w Nob).alloc _).grown r2 (fun k hk => by simp [Value.ownBlock] at hk; omega)⟩
set_option maxRecDepth 100000 in
set_option maxHeartbeats 1000000 in
theorem done_at (h : CooG Lo tb J job par N nv w C R M D M1 M2) (hj : job.length = 32) (hp : par.length = 4) (hN : N < 1073741824) : Calls Tryz.prog 13 #[.pointer (some ⟨C, 0, none⟩)] w fun e w' => ∃ a c, e = .returned (.slice a N c) ∧ w'.ownsRow w.heap.size 41 1 (.slice a N c) N (List.replicate N (Value.int .u64 0)) ∧ Mod w w' Nob := by
  have y := h.c.cell 41
  simp only [List.getElem?_toArray, (coo_gets _ _ job par _ _ _ _ _ _ _ _ _ _ hj hp).2.1] at y
  have hcl := clone_u64 D (List.replicate N (.int .u64 0)) w h.d (fun u hu => by rw [(List.mem_replicate.1 hu).2]; rfl) (by simpa using hN)
  simp only [List.length_replicate] at hcl
  go_enter Tryz.func13, Tryz.ntmps13
  go_wp2_with fail
  refine hcl.mono ?_
  rintro r w' ⟨a, c, rfl, h1, h2⟩
  go_wp2_with fail
  go_ret
  exact ⟨a, c, rfl, h1, h2⟩
end
end Go.Proofs.YtakgnkjopbflbaaGreatDoor

namespace Go.Proofs.YtakgnkjopbflbaaGreatDoor
open Go.RowKit Go.Shelf
set_option linter.unusedSimpArgs false

theorem count_one : (planP 1 1 1).count = 6 := by decide +kernel
theorem fit_one : fitQ ((1 : Nat) : Int) ((1 : Nat) : Int) ((1 : Nat) : Int) ((1 : Nat) : Int) := by unfold fitQ; decide

set_option maxRecDepth 100000 in
set_option maxHeartbeats 4000000 in
theorem awake_coord (w : World) : Calls Tryz.prog 9 #[] w fun e w' => e = .returned (.bool true) ∧ Mod w w' Nob := by
  go_enter Tryz.func9, Tryz.ntmps9
  go_wp2_with fail
  refine (trust_new w).mono ?_
  rintro e W1 ⟨rfl, hτ1, m1⟩
  obtain ⟨tb, htb⟩ : ∃ y, w.heap.size = y := ⟨_, rfl⟩
  rw [htb] at hτ1 ⊢
  have htl1 : tb < W1.heap.size := CellsAt.lt (show CellsAt W1 tb _ _ from hτ1)
  go_wp2_with fail
  refine (new_any W1).mono ?_
  rintro e W2 ⟨b, x, rfl, hσ2, m2, hft⟩
  have hτ2 := hτ1.mod m2 nob
  have mm := m1.trans m2
  have hfar : ¬ x.foot b tb := fun h => by have := hft _ h; omega
  clear hτ1 m1 m2 hft
  go_wp2_with fail
  have hN := coord_new b tb x zl32 rfl 1 1 1 1 fit_one .nilFunc (.inl rfl) W2 hσ2 hτ2 hfar
  rw [count_one] at hN
  change Calls _ _ #[_, _, .agg (arrB zl32), .agg (parA 1 1 1 1), .nilFunc, .nilFunc] _ _
  refine hN.mono ?_
  rintro e W3 ⟨C, J, R, M, D, M1, M2, na, nc, rfl, hC, _, _, _, m3⟩
  have mm3 := mm.drop m3 (fun k (hk : k = tb) => .inr (by omega))
  clear hN mm m3 hσ2 hτ2
  go_wp2_with fail
  refine (epoch_at hC rfl rfl).mono ?_
  rintro e W4 ⟨rfl, rfl⟩
  go_wp2_with fail
  refine (done_at hC rfl rfl (by omega)).mono ?_
  rintro e W5 ⟨da, dc, rfl, _, m5⟩
  have hC5 := hC.nob m5
  have mm5 := mm3.trans m5
  clear hC m5 mm3
  go_wp2_with fail
  refine (state_at hC5 rfl rfl).mono ?_
  rintro e W6 ⟨rfl, rfl⟩
  go_wp2_with fail
  go_ret
  exact ⟨rfl, mm5⟩

set_option maxRecDepth 100000 in
set_option maxHeartbeats 4000000 in
theorem nil_coord (job : List UInt8) (hj : job.length = 32) (p0 p1 p2 p3 : Int) (w : World) : Calls Tryz.prog 3 #[.agg (arrB job), .agg #[.int .i64 p0, .int .i64 p1, .int .i64 p2, .int .i64 p3]] w fun e w' => e = .returned (.bool true) ∧ Mod w w' Nob := by
  have cJ := (CellsAt.new w (arrB job) 22).alloc (.cells #[.int .i64 p0, .int .i64 p1, .int .i64 p2, .int .i64 p3] 24)
  have cP := new_at (w := w.alloc (.cells (arrB job) 22)) (cs := #[.int .i64 p0, .int .i64 p1, .int .i64 p2, .int .i64 p3]) (t := 24) (g := w.heap.size + 1) (by simp)
  have mB := ((Mod.refl w Nob).alloc (.cells (arrB job) 22)).alloc (.cells #[.int .i64 p0, .int .i64 p1, .int .i64 p2, .int .i64 p3] 24)
  have hjs : (arrB job).size = 32 := by rw [arrB_size, hj]
  go_enter Tryz.func3, Tryz.ntmps3
  go_wp2_with fail
  change Calls _ _ _ ((w.alloc (.cells (arrB job) 22)).alloc (.cells #[.int .i64 p0, .int .i64 p1, .int .i64 p2, .int .i64 p3] 24)) _
  obtain ⟨W, hW⟩ : ∃ W, (w.alloc (.cells (arrB job) 22)).alloc (.cells #[.int .i64 p0, .int .i64 p1, .int .i64 p2, .int .i64 p3] 24) = W := ⟨_, rfl⟩
  rw [hW] at cJ cP mB ⊢
  obtain ⟨H, hH⟩ : ∃ H, w.heap.size = H := ⟨_, rfl⟩
  rw [hH] at cJ cP ⊢
  have HH := Lib.hid hH
  clear hW hH
  refine (public_play p0 p1 p2 p3 W).mono ?_
  rintro e W1 ⟨r, k, bk, wk, rfl, hf, m1⟩
  replace cJ := cJ.mod m1 nob
  replace cP := cP.mod m1 nob
  replace mB := mB.trans m1
  clear m1
  go_wp2_with (refine wpList_store_row rfl 24 _ _ rfl (H + 1) (parA r k bk wk) rfl rfl 24 _ cP size_parH rfl (by simp [parA, Value.oneCell']) ?_)
  replace cJ := And.intro (cJ.mod ((Mod.refl W1 (· = H + 1)).setRow (g := H + 1) (.inl rfl) (parA r k bk wk)) (by omega)) (cP.setRow (parA r k bk wk))
  replace mB := mB.setRow (g := H + 1) (.inr (by have := HH.out; omega)) (parA r k bk wk)
  obtain ⟨W2, hW2⟩ : ∃ W2, W1.setRow (H + 1) (parA r k bk wk) = W2 := ⟨_, rfl⟩
  rw [hW2] at cJ mB ⊢
  clear hW2 cP
  have hrg : ∀ W, CellsAt W H (arrB job) 22 → W.rangeAt H 0 (job.map B) := fun W h q u hq => by rw [Nat.zero_add, h.cell q]; simpa [arrB] using hq
  have hrp : ∀ W, CellsAt W (H + 1) (parA r k bk wk) 24 → W.rangeAt (H + 1) 0 (parA r k bk wk).toList := fun W h q u hq => by rw [Nat.zero_add, h.cell q]; simpa using hq
  refine wp_no_panic ?_
  have mD := (Mod.refl W2 Nob).drew
  replace cJ := And.intro (cJ.1.mod mD nob) (cJ.2.mod mD nob)
  replace mB := mB.trans mD
  refine wp_region_U (S := fun W => CellsAt W H (arrB job) 22 ∧ CellsAt W (H + 1) (parA r k bk wk) 24) 3 (by kernel_rfl) ?_
  change wpAnyU _ _ _ _ _ _ _ _ _ W2.drew
  obtain ⟨W2d, hVd⟩ : ∃ V, W2.drew = V := ⟨_, rfl⟩
  rw [hVd] at cJ mB ⊢
  clear hVd mD
  refine wpAnyU_take (i := 1) (v := .agg (arrB job)) rfl (by kernel_rfl) (by kernel_rfl) (by kernel_rfl) (by kernel_rfl) (by kernel_rfl) (fun _ _ _ h => h) (yieldsIf_load_mid (by rfl) 22 _ rfl H 0 rfl (job.map B) _ (fun W h => hrg W h.1) Tryz.underlying22 rfl (by rw [List.length_map, hj]; exact size_b32)) cJ ?_
  try simp only [Act.put, List.getElem_toArray, List.getElem_cons_zero, List.getElem_cons_succ, List.setIfInBounds_toArray, List.set_cons_zero, List.set_cons_succ]
  refine wpAnyU_take (i := 2) (v := .agg (parA r k bk wk)) rfl (by kernel_rfl) (by kernel_rfl) (by kernel_rfl) (by kernel_rfl) (by kernel_rfl) (fun _ _ _ h => h) (yieldsIf_load_mid (by rfl) 24 _ rfl (H + 1) 0 rfl (parA r k bk wk).toList _ (fun W h => hrp W h.2) Tryz.underlying24 rfl size_parH) cJ ?_
  try simp only [Act.put, List.getElem_toArray, List.getElem_cons_zero, List.getElem_cons_succ, List.setIfInBounds_toArray, List.set_cons_zero, List.set_cons_succ]
  refine wpAnyU_one 0 _ (by kernel_rfl) rfl (fun K hK => ?_)
  go_simp
  refine (new_any W2d).mono ?_
  rintro e V1 ⟨b, x, rfl, _, m1, _⟩
  replace cJ := And.intro (cJ.1.mod m1 nob) (cJ.2.mod m1 nob)
  replace mB := mB.trans m1
  clear m1
  go_wp2_with fail
  refine hK.out _ _ (fun _ => cJ) ?_
  clear hK K
  try simp only [Act.put, List.getElem_toArray, List.getElem_cons_zero, List.getElem_cons_succ, List.setIfInBounds_toArray, List.set_cons_zero, List.set_cons_succ]
  refine wpAnyU_last (by kernel_rfl) (by simp) ?_
  refine wpAny_one 3 _ (by kernel_rfl) rfl (fun K hK => ?_)
  go_simp
  refine (coord_nilT _ job (parA r k bk wk) V1).mono ?_
  rintro e V2 ⟨rfl, m1⟩
  replace cJ := And.intro (cJ.1.mod m1 nob) (cJ.2.mod m1 nob)
  replace mB := mB.trans m1
  clear m1
  go_wp2_with fail
  refine hK.out _ _ ?_
  clear hK K
  try simp only [Act.put, List.getElem_toArray, List.getElem_cons_zero, List.getElem_cons_succ, List.setIfInBounds_toArray, List.set_cons_zero, List.set_cons_succ]
  refine wpAny_take (i := 4) (v := .tuple #[.pointer none, .int .i64 2]) rfl (by kernel_rfl) (by kernel_rfl) (by kernel_rfl) (fun _ _ _ h => h) (Or.inl ⟨by rfl, fun W => by go_simp⟩) ?_
  try simp only [Act.put, List.getElem_toArray, List.getElem_cons_zero, List.getElem_cons_succ, List.setIfInBounds_toArray, List.set_cons_zero, List.set_cons_succ]
  refine wpAny_take (i := 5) (v := .pointer none) rfl (by kernel_rfl) (by kernel_rfl) (by kernel_rfl) (fun _ _ _ h => h) (Or.inl ⟨by rfl, fun W => by go_simp⟩) ?_
  try simp only [Act.put, List.getElem_toArray, List.getElem_cons_zero, List.getElem_cons_succ, List.setIfInBounds_toArray, List.set_cons_zero, List.set_cons_succ]
  refine wpAny_take (i := 6) (v := .int .i64 2) rfl (by kernel_rfl) (by kernel_rfl) (by kernel_rfl) (fun _ _ _ h => h) (Or.inl ⟨by rfl, fun W => by go_simp⟩) ?_
  try simp only [Act.put, List.getElem_toArray, List.getElem_cons_zero, List.getElem_cons_succ, List.setIfInBounds_toArray, List.set_cons_zero, List.set_cons_succ]
  refine wpAny_take (i := 7) (v := .pointer none) rfl (by kernel_rfl) (by kernel_rfl) (by kernel_rfl) (fun _ _ _ h => h) (Or.inl ⟨by rfl, fun W => by go_simp⟩) ?_
  try simp only [Act.put, List.getElem_toArray, List.getElem_cons_zero, List.getElem_cons_succ, List.setIfInBounds_toArray, List.set_cons_zero, List.set_cons_succ]
  refine wpAny_take (i := 8) (v := .int .i64 2) rfl (by kernel_rfl) (by kernel_rfl) (by kernel_rfl) (fun _ _ _ h => h) (Or.inl ⟨by rfl, fun W => by go_simp⟩) ?_
  try simp only [Act.put, List.getElem_toArray, List.getElem_cons_zero, List.getElem_cons_succ, List.setIfInBounds_toArray, List.set_cons_zero, List.set_cons_succ]
  refine wpAny_done (by kernel_rfl) ?_ _
  try simp only [Act.put, List.getElem_toArray, List.getElem_cons_zero, List.getElem_cons_succ]
  go_wp2_with fail
  refine wp_no_panic ?_
  have mD := (Mod.refl V2 Nob).drew
  replace cJ := And.intro (cJ.1.mod mD nob) (cJ.2.mod mD nob)
  replace mB := mB.trans mD
  refine wp_region_U (S := fun W => CellsAt W H (arrB job) 22 ∧ CellsAt W (H + 1) (parA r k bk wk) 24) 3 (by kernel_rfl) ?_
  change wpAnyU _ _ _ _ _ _ _ _ _ V2.drew
  obtain ⟨V2d, hVd⟩ : ∃ V, V2.drew = V := ⟨_, rfl⟩
  rw [hVd] at cJ mB ⊢
  clear hVd mD
  refine wpAnyU_take (i := 1) (v := .agg (arrB job)) rfl (by kernel_rfl) (by kernel_rfl) (by kernel_rfl) (by kernel_rfl) (by kernel_rfl) (fun _ _ _ h => h) (yieldsIf_load_mid (by rfl) 22 _ rfl H 0 rfl (job.map B) _ (fun W h => hrg W h.1) Tryz.underlying22 rfl (by rw [List.length_map, hj]; exact size_b32)) cJ ?_
  try simp only [Act.put, List.getElem_toArray, List.getElem_cons_zero, List.getElem_cons_succ, List.setIfInBounds_toArray, List.set_cons_zero, List.set_cons_succ]
  refine wpAnyU_take (i := 2) (v := .agg (parA r k bk wk)) rfl (by kernel_rfl) (by kernel_rfl) (by kernel_rfl) (by kernel_rfl) (by kernel_rfl) (fun _ _ _ h => h) (yieldsIf_load_mid (by rfl) 24 _ rfl (H + 1) 0 rfl (parA r k bk wk).toList _ (fun W h => hrp W h.2) Tryz.underlying24 rfl size_parH) cJ ?_
  try simp only [Act.put, List.getElem_toArray, List.getElem_cons_zero, List.getElem_cons_succ, List.setIfInBounds_toArray, List.set_cons_zero, List.set_cons_succ]
  refine wpAnyU_one 0 _ (by kernel_rfl) rfl (fun K hK => ?_)
  go_simp
  refine (trust_new V2d).mono ?_
  rintro e V3 ⟨rfl, hτ, m1⟩
  have hlo : w.heap.size ≤ V2d.heap.size := mB.size
  obtain ⟨tb, htb⟩ : ∃ tb, V2d.heap.size = tb := ⟨_, rfl⟩
  rw [htb] at hτ hlo ⊢
  have HT1 : H < tb := by rw [← htb]; exact CellsAt.lt cJ.1
  have HT2 : H + 1 < tb := by rw [← htb]; exact CellsAt.lt cJ.2
  clear htb
  replace cJ := And.intro (cJ.1.mod m1 nob) (cJ.2.mod m1 nob)
  replace mB := mB.trans m1
  clear m1
  go_wp2_with fail
  refine hK.out _ _ (fun _ => cJ) ?_
  clear hK K
  try simp only [Act.put, List.getElem_toArray, List.getElem_cons_zero, List.getElem_cons_succ, List.setIfInBounds_toArray, List.set_cons_zero, List.set_cons_succ]
  refine wpAnyU_last (by kernel_rfl) (by simp) ?_
  refine wpAny_one 3 _ (by kernel_rfl) rfl (fun K hK => ?_)
  go_simp
  refine (coord_nilS tb job hj (parA r k bk wk) V3 hτ).mono ?_
  rintro e V4 ⟨rfl, m1⟩
  replace mB := mB.drop m1 (fun k (hk : k = tb) => .inr (by omega))
  clear m1 hτ
  go_wp2_with fail
  refine hK.out _ _ ?_
  clear hK K
  try simp only [Act.put, List.getElem_toArray, List.getElem_cons_zero, List.getElem_cons_succ, List.setIfInBounds_toArray, List.set_cons_zero, List.set_cons_succ]
  refine wpAny_take (i := 4) (v := .tuple #[.pointer none, .int .i64 2]) rfl (by kernel_rfl) (by kernel_rfl) (by kernel_rfl) (fun _ _ _ h => h) (Or.inl ⟨by rfl, fun W => by go_simp⟩) ?_
  try simp only [Act.put, List.getElem_toArray, List.getElem_cons_zero, List.getElem_cons_succ, List.setIfInBounds_toArray, List.set_cons_zero, List.set_cons_succ]
  refine wpAny_take (i := 5) (v := .pointer none) rfl (by kernel_rfl) (by kernel_rfl) (by kernel_rfl) (fun _ _ _ h => h) (Or.inl ⟨by rfl, fun W => by go_simp⟩) ?_
  try simp only [Act.put, List.getElem_toArray, List.getElem_cons_zero, List.getElem_cons_succ, List.setIfInBounds_toArray, List.set_cons_zero, List.set_cons_succ]
  refine wpAny_take (i := 6) (v := .int .i64 2) rfl (by kernel_rfl) (by kernel_rfl) (by kernel_rfl) (fun _ _ _ h => h) (Or.inl ⟨by rfl, fun W => by go_simp⟩) ?_
  try simp only [Act.put, List.getElem_toArray, List.getElem_cons_zero, List.getElem_cons_succ, List.setIfInBounds_toArray, List.set_cons_zero, List.set_cons_succ]
  refine wpAny_take (i := 7) (v := .pointer none) rfl (by kernel_rfl) (by kernel_rfl) (by kernel_rfl) (fun _ _ _ h => h) (Or.inl ⟨by rfl, fun W => by go_simp⟩) ?_
  try simp only [Act.put, List.getElem_toArray, List.getElem_cons_zero, List.getElem_cons_succ, List.setIfInBounds_toArray, List.set_cons_zero, List.set_cons_succ]
  refine wpAny_take (i := 8) (v := .int .i64 2) rfl (by kernel_rfl) (by kernel_rfl) (by kernel_rfl) (fun _ _ _ h => h) (Or.inl ⟨by rfl, fun W => by go_simp⟩) ?_
  try simp only [Act.put, List.getElem_toArray, List.getElem_cons_zero, List.getElem_cons_succ, List.setIfInBounds_toArray, List.set_cons_zero, List.set_cons_succ]
  refine wpAny_done (by kernel_rfl) ?_ _
  try simp only [Act.put, List.getElem_toArray, List.getElem_cons_zero, List.getElem_cons_succ]
  go_wp2_with fail
  clear cJ hrg hrp
  refine (awake_coord V4).mono ?_
  rintro e V5 ⟨rfl, m1⟩
  replace mB := mB.trans m1
  clear m1
  go_wp2_with fail
  refine (wire_new V5).mono ?_
  rintro e V6 ⟨wb, rfl, m1, _⟩
  replace mB := mB.trans m1
  clear m1
  go_wp2_with fail
  refine (step_nilC _ V6).mono ?_
  rintro e V7 ⟨rfl, rfl⟩
  go_wp2_with fail
  refine (state_nilC _).mono ?_
  rintro e V8 ⟨rfl, rfl⟩
  go_wp2_with fail
  refine (done_nilC _).mono ?_
  rintro e V9 ⟨rfl, rfl⟩
  go_wp2_with fail
  refine (epoch_nilC _).mono ?_
  rintro e V10 ⟨rfl, rfl⟩
  go_wp2_with fail
  refine (eight_len 1 _).mono ?_
  rintro e V11 ⟨a, c, rfl, m1⟩
  replace mB := mB.trans m1
  clear m1
  go_wp2_with fail
  go_ret
  exact ⟨rfl, mB⟩
end Go.Proofs.YtakgnkjopbflbaaGreatDoor

namespace Go.Proofs.YtakgnkjopbflbaaGreatDoor.coordNil
open Go.ChangeShapes Go.WideShapes Go.ChangeAt Go.RowKit
set_option linter.unusedVariables false

theorem own : ownKnob Tryz.prog.godebug = none := by kernel_rfl
theorem laidOut : laidOutB Tryz.prog = true := by kernel_rfl
theorem door_met (os : Os) (args : Array Value) : laidMetH Tryz.prog Rows.coordNilRow.laid ((World.doorLaid Tryz.prog 400 os).forCall (fun _ _ => 0) ⟨#[], args, []⟩).memory :=
  laidMetH_of_parts3 (fuel := 8) (laidMet_of_run' 8 (by kernel_rfl) (by kernel_rfl)) (by kernel_rfl) (by kernel_rfl)

theorem byte_wf {n : Int} (h : (Lit.int .u8 n).wf = true) : ∃ x : UInt8, Value.int .u8 n = B x := by
  have h2 : 0 ≤ n ∧ n < 256 := by
    simp [Lit.wf, IntKind.min, IntKind.max, IntKind.signed, IntKind.bits] at h
    omega
  refine ⟨UInt8.ofNat n.toNat, ?_⟩
  unfold B
  rw [UInt8.toNat_ofNat_of_lt' (by show _ < 256; omega)]
  congr 1
  omega
theorem all_bytes : ∀ l : List Value, (∀ v ∈ l, ∃ x : UInt8, v = B x) → ∃ job : List UInt8, l = job.map B
  | [], _ => ⟨[], rfl⟩
  | v :: l, h => by
    obtain ⟨x, rfl⟩ := h v (by simp)
    obtain ⟨job, rfl⟩ := all_bytes l (fun u hu => h u (by simp [hu]))
    exact ⟨x :: job, rfl⟩

set_option maxRecDepth 100000 in
theorem lifted (os : Os) (started : os.Started) (H : Type) (enc : TypeId × Value → H) :
    ReturnsInHanded {} Tryz.checked os 3 .any (fun w args => (Rows.coordNilSpec.pre enc Tryz.prog Tryz.f3 [] false w args ∧ laidMetH Tryz.prog Rows.coordNilRow.laid w) ∧ sizedMet enc Tryz.prog Tryz.f3 (OpenSpec.ofChange Rows.coordNilSpec) false w args)
      (Rows.coordNilSpec.post enc Tryz.prog Tryz.f3 false true false false) := by
  refine returnsInHanded_of_change_and (C := Tryz.checked) (X := fun w _ => laidMetH Tryz.prog Rows.coordNilRow.laid w) (fun _ _ _ hh h => h.of_heap hh) own started (by kernel_rfl) Tryz.func3
    (ChangeSpec.witness_shaped (enc := enc) (C := Tryz.checked) (os := os) (X := fun w _ => laidMetH Tryz.prog Rows.coordNilRow.laid w) false (World.doorLaid Tryz.prog 400 os) #[.agg (Array.replicate 32 (.int .u8 0)), .agg #[.int .i64 0, .int .i64 0, .int .i64 0, .int .i64 0]] 8 rfl (World.shaped_of_RefB (by kernel_rfl) (by kernel_rfl)) (by kernel_rfl) (by kernel_rfl) (by kernel_rfl) (door_met os _)) ?_
  intro W base args ds gs before hval0 hW _ _ hL _
  have hval : ∀ (j : Nat) t v, Tryz.f3.params[j]? = some t → args[j]? = some v → Value.okWide Tryz.prog W .any base t v := hval0
  have hW' := hW
  obtain ⟨p, q, hA0, hV, rfl, hfz, hnd⟩ := hW
  have hA : DataW.TrodAll enc Tryz.prog W 0 (fun _ => true) true Tryz.f3.params.toList args.toList ds p := hA0
  rw [Tryz.params3] at hA hval
  obtain ⟨v0, vs0, d0, ds0, p0, q0, hargs, rfl, rfl, h0, r0⟩ := trodAll_cons hA
  obtain ⟨v1, vs1, d1, ds1, p1, q1, rfl, rfl, rfl, h1, r1⟩ := trodAll_cons r0
  obtain ⟨rfl, rfl, rfl⟩ := trodAll_nil r1
  obtain rfl : args = #[v0, v1] := by cases args; simp_all
  obtain ⟨rfl, rfl⟩ := trodVars_none hV
  have k0 := h0
  have lt0 : ∀ x ∈ p0, x.block < W.heap.size := by obtain ⟨m, hm⟩ := k0; exact DataW.trod_lt m _ _ _ hm
  have k1 := h1
  have lt1 : ∀ x ∈ p1, x.block < W.heap.size := by obtain ⟨m, hm⟩ := k1; exact DataW.trod_lt m _ _ _ hm
  obtain ⟨job, hjl, rfl⟩ : ∃ job : List UInt8, job.length = 32 ∧ v0 = .agg (arrB job) := by
    have hv0 := hval 0 22 v0 rfl rfl
    simp only [Value.okWide, Tryz.underlying22] at hv0
    obtain ⟨cs, rfl, hsz, _⟩ := hv0
    obtain ⟨fuel, hf⟩ := h0
    obtain ⟨xs, m, rfl, hx, hlen, hn, hel⟩ := DataW.trod_array Tryz.underlying22 hf
    have e1 : Tryz.prog.cellsOf 5 = 1 := by kernel_rfl
    have e32 : Tryz.prog.cellsOf 22 = 32 := by kernel_rfl
    rw [e1] at hel
    rw [e32] at hlen
    change cs.toList.length = 32 at hlen
    change ∀ i, i < 32 → DataW.trod _ _ _ _ _ _ _ _ ((cs.toList.drop (i * 1)).take 1) = _ at hel
    obtain ⟨job, hjob⟩ := all_bytes cs.toList (fun v hv => by
      obtain ⟨i, hi, rfl⟩ := List.mem_iff_getElem.1 hv
      have h5 := hel i (by omega)
      rw [Nat.mul_one, List.drop_eq_getElem_cons hi, List.take_succ_cons, List.take_zero, List.getElem?_eq_getElem (by omega)] at h5
      obtain ⟨k, h6, _, h7⟩ := DataW.trod_int Tryz.underlying5 h5
      obtain ⟨x, hx2⟩ := byte_wf h7
      exact ⟨x, by rw [← hx2]; exact (List.cons.inj h6).1⟩)
    refine ⟨job, by rw [hjob, List.length_map] at hlen; exact hlen, ?_⟩
    unfold arrB
    rw [← hjob]
  obtain ⟨g0, g1, g2, g3, rfl⟩ : ∃ g0 g1 g2 g3 : Int, v1 = .agg #[.int .i64 g0, .int .i64 g1, .int .i64 g2, .int .i64 g3] := by
    obtain ⟨c0, c1, c2, c3, y0, y1, y2, y3, m, rfl, _, _, t0, t1, t2, t3⟩ := Go.Joins.open_agg4 Tryz.underlying24 (by kernel_rfl) (by kernel_rfl) (hval 1 24 v1 rfl rfl) h1
    obtain ⟨n0, z0, _, _⟩ := DataW.trod_int Tryz.underlying3 t0
    obtain ⟨n1, z1, _, _⟩ := DataW.trod_int Tryz.underlying3 t1
    obtain ⟨n2, z2, _, _⟩ := DataW.trod_int Tryz.underlying3 t2
    obtain ⟨n3, z3, _, _⟩ := DataW.trod_int Tryz.underlying3 t3
    cases z0; cases z1; cases z2; cases z3
    exact ⟨n0, n1, n2, n3, rfl⟩
  clear hA0 hval0
  refine (nil_coord job hjl g0 g1 g2 g3 W).mono fun r W' ⟨he, hm⟩ => ?_
  have bel : Below W.heap.size W W' := ⟨hm.os, hm.tape, hm.output, hm.size, fun k hk => hm.block k hk nob⟩
  subst he
  exact ⟨_, rfl, _, _, _, [], _, [], hW', trodAll_mk1 (shut_bool Tryz.underlying4 _), (trodAll_cons_mk (Below.trod laidOut (by kernel_rfl) (of_decide_eq_true (by kernel_rfl)) k0 bel lt0) (trodAll_cons_mk (Below.trod laidOut (by kernel_rfl) (of_decide_eq_true (by kernel_rfl)) k1 bel lt1) trodAll_mk0)), rfl, bel.frame _, fun h => by cases h⟩

theorem over : Rows.coordNilRow.holds Tryz.pinned (OpenSpec.ofChange Rows.coordNilSpec) :=
  OpenClaim.holds_of_wide 3 Tryz.f3 rfl rfl rfl rfl rfl rfl rfl ⟨rfl, rfl, rfl, rfl, rfl⟩ rfl rfl rfl rfl rfl (by kernel_rfl) Tryz.func3 (by kernel_rfl)
    (of_decide_eq_true (by kernel_rfl)) (by unfold Func.isWrapper; first | (rw [if_pos (by decide +kernel)]; kernel_rfl) | (rw [if_neg (by decide +kernel)]; exact ⟨rfl, rfl⟩))
    (fun os started H enc _ => lifted os started H enc)

theorem proved : Rows.CoordNilCardSaid :=
  Claim7.holds_tied_plain_at .later [] [.data, .data, .data] true (true, "be9e971a0d4b5163b86d2ee7048fba0b96f90ce47237ae00478bafff251b5760") false
    over (fun _ h => by cases h) (by kernel_rfl) (fun _ h => by cases h) coordNil_row_tie rfl ⟨rfl, rfl⟩ (by kernel_rfl) rfl
    (fun f fn hf hfn => by
      obtain rfl : f = 3 := Option.some.inj ((show Tryz.prog.funcNamed "domino/dominolaw24.CoordNil" = some 3 by kernel_rfl).symm.trans hf) |>.symm
      obtain rfl : fn = Tryz.f3 := (Option.some.inj (Tryz.func3.symm.trans hfn)).symm
      exact ⟨by kernel_rfl, fun j t ht => by
        rw [Tryz.params3] at ht
        have hm : t ∈ [22, 24] := by simpa using Array.mem_of_getElem? ht
        have hall : ([22, 24].all fun u => !Tryz.prog.wantsStandIn u) = true := by kernel_rfl
        exact (show Tryz.prog.wantsStandIn t = false by simpa using List.all_eq_true.1 hall t hm)⟩)
    (by kernel_rfl)
#print axioms proved
end Go.Proofs.YtakgnkjopbflbaaGreatDoor.coordNil
