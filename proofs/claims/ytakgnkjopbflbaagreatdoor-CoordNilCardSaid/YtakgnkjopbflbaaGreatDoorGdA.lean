/- The spots that a task reads: shape.Reads. What is told: that they are at most two. The condition: public numbers that may be. -/
import Derived.Test.YtakgnkjopbflbaaGreatDoorBc
import Derived.Shelf.Small.Bits
import Derived.Shelf.Strconv.Itoa0
import Derived.Test.YtakgnkjopbflbaaGreatDoorProg
import Derived.Deep.QuietTactic
import Derived.Test.YtakgnkjopbflbaaGreatDoorBd
import Derived.StillTailTactics
import Derived.Test.YtakgnkjopbflbaaGreatDoorBj
import Derived.Test.YtakgnkjopbflbaaGreatDoorBf
import Derived.Still
import Derived.Laws.OwnMore
namespace Go.Proofs.YtakgnkjopbflbaaGreatDoor

/-- So many rounds have so many stages. -/
def tri (k : Nat) : Nat := k * (k + 1) / 2
/-- The stage and the step of a round, looked for from a stage on; (0, 0): there is none. -/
def stpGo : Nat → Nat → Nat → Nat × Nat
  | 0, _, _ => (0, 0)
  | f + 1, s, a => if a < s then (s, s - a) else stpGo f (s + 1) (a - s)
def stp (k r : Nat) : Nat × Nat := stpGo k 1 r
theorem stpGo_zero : ∀ f s a, 0 < s → ((stpGo f s a).1 = 0 ↔ (stpGo f s a).2 = 0)
  | 0, _, _, _ => by simp [stpGo]
  | f + 1, s, a, h => by
    unfold stpGo
    by_cases h1 : a < s
    · simp only [if_pos h1]; omega
    · simp only [if_neg h1]; exact stpGo_zero f (s + 1) (a - s) (by omega)
theorem stpGo_le : ∀ f s a, 0 < s → (stpGo f s a).2 ≤ (stpGo f s a).1 ∧ (stpGo f s a).1 < s + f
  | 0, s, _, h => by simp [stpGo]; exact h
  | f + 1, s, a, h => by
    unfold stpGo
    by_cases h1 : a < s
    · simp only [if_pos h1]; omega
    · simp only [if_neg h1]; have := stpGo_le f (s + 1) (a - s) (by omega); omega
theorem stp_le (k r : Nat) : (stp k r).2 ≤ (stp k r).1 ∧ (stp k r).1 ≤ k := by
  have := stpGo_le k 1 r (by omega)
  unfold stp
  omega
theorem stp_zero (k r : Nat) : (stp k r).1 = 0 ↔ (stp k r).2 = 0 := stpGo_zero k 1 r (by omega)
theorem stp_in : ∀ k < 6, ∀ r < tri k, 0 < (stp k r).1 := by decide +kernel
/-- How far the places of a round's pairs are apart; 0: there is no such round. -/
def farN (k r : Nat) : Nat := if (stp k r).1 = 0 then 0 else 2 ^ ((stp k r).2 - 1)
def upB (k r a : Nat) : Bool := decide ((stp k r).1 ≠ 0) && decide (a < 2 ^ k) && decide (a / 2 ^ ((stp k r).2 - 1) % 2 = 0) && decide (a / 2 ^ (stp k r).1 % 2 = 0)

/-- How many blocks and rounds there are. -/
structure Plan where
  k : Nat
  input : Nat
  e : Nat
def Plan.all (x : Plan) : Nat := 2 ^ x.e
def Plan.rounds (x : Plan) : Nat := tri x.e
def Plan.half (x : Plan) : Nat := x.all / 2
def Plan.pads (x : Plan) : Nat := x.input
def Plan.sorts (x : Plan) : Nat := x.pads + x.all - x.k * x.input
def Plan.folds (x : Plan) : Nat := x.sorts + x.rounds * x.half
def Plan.lasts (x : Plan) : Nat := x.folds + x.all
def Plan.count (x : Plan) : Nat := x.lasts + x.rounds * x.half
/-- A plan that may be. -/
structure Plan.ok (x : Plan) : Prop where
  k1 : 1 ≤ x.k
  k4 : x.k ≤ 4
  i1 : 1 ≤ x.input
  i64 : x.input ≤ 31
  e1 : 1 ≤ x.e
  e5 : x.e ≤ 5
  fit : x.k * x.input < x.all
theorem Plan.ok.all32 {x : Plan} (h : x.ok) : 2 ≤ x.all ∧ x.all ≤ 32 ∧ x.all = 2 * x.half ∧ x.rounds ≤ 15 ∧ 1 ≤ x.rounds := by
  obtain ⟨k, i, e⟩ := x
  have h1 := h.e1
  have h5 := h.e5
  dsimp only at h1 h5
  unfold Plan.half Plan.rounds Plan.all
  dsimp only
  have : e = 1 ∨ e = 2 ∨ e = 3 ∨ e = 4 ∨ e = 5 := by omega
  rcases this with rfl | rfl | rfl | rfl | rfl <;> decide
/-- A task: its kind, its round, its two places, up. -/
structure Tsk where
  kind : Nat
  round : Nat
  a : Nat
  b : Nat
  up : Bool
/-- The i-th pair of all rounds. -/
def Plan.pairA (x : Plan) (i : Nat) : Nat :=
  let far := farN x.e (i / x.half)
  let at' := i % x.half
  at' / far * far * 2 + at' % far
def Plan.pair (x : Plan) (kind i : Nat) : Tsk := ⟨kind, i / x.half + 1, x.pairA i, x.pairA i + farN x.e (i / x.half), upB x.e (i / x.half) (x.pairA i)⟩
def Plan.task (x : Plan) (n : Nat) : Tsk :=
  if n < x.pads then ⟨1, 0, n, 0, false⟩
  else if n < x.sorts then ⟨2, 0, n - x.pads + x.k * x.input, 0, false⟩
  else if n < x.folds then x.pair 3 (n - x.sorts)
  else if n < x.lasts then ⟨4, 0, n - x.folds, 0, false⟩
  else x.pair 5 (n - x.lasts)

/-- A spot: its phase, its round, its address. -/
structure Spt where
  phase : Nat
  round : Nat
  addr : Nat
def behindS (phase ahead round a : Nat) : Spt := if round = 0 then ⟨ahead, 0, a⟩ else ⟨phase, round, a⟩
def Plan.reads (x : Plan) (n : Nat) : List Spt :=
  let t := x.task n
  if t.kind = 1 then [⟨0, 0, t.a⟩]
  else if t.kind = 3 then [behindS 2 1 (t.round - 1) t.a, behindS 2 1 (t.round - 1) t.b]
  else if t.kind = 4 then behindS 2 1 x.rounds t.a :: (if t.a = 0 then [] else [⟨4, 0, t.a - 1⟩])
  else if t.kind = 5 then [behindS 5 3 (t.round - 1) t.a, behindS 5 3 (t.round - 1) t.b]
  else []
def Plan.paired (x : Plan) (round a : Nat) : Nat :=
  let far := farN x.e (round - 1)
  (round - 1) * x.half + a / (2 * far) * far + a % far
/-- The task that writes a spot. -/
def Plan.makes (x : Plan) (s : Spt) : Option Nat :=
  if x.all ≤ s.addr then none
  else if s.phase = 1 ∧ s.round = 0 ∧ s.addr < x.k * x.input then some (s.addr / x.k)
  else if s.phase = 1 ∧ s.round = 0 then some (x.pads + s.addr - x.k * x.input)
  else if s.phase = 2 ∧ 1 ≤ s.round ∧ s.round ≤ x.rounds then some (x.sorts + x.paired s.round s.addr)
  else if (s.phase = 3 ∨ s.phase = 4) ∧ s.round = 0 then some (x.folds + s.addr)
  else if s.phase = 5 ∧ 1 ≤ s.round ∧ s.round ≤ x.rounds then some (x.lasts + x.paired s.round s.addr)
  else none
end Go.Proofs.YtakgnkjopbflbaaGreatDoor

namespace Go.Proofs.YtakgnkjopbflbaaGreatDoor
open Go.Shelf
def lays128_ren : Go.Shelf.Ren := ⟨fun | 128 => 162 | n => n, fun | 51 => 220 | 3 => 3 | 4 => 4 | 46 => 49 | 5 => 5 | 9 => 9 | n => n, fun | n => n⟩
theorem lays128 : Go.Proofs.Lays.n128 Tryz.prog lays128_ren := {
  mixed := by kernel_rfl
  f128 := Tryz.func162.trans (congrArg some (by kernel_rfl))
  t3 := Tryz.underlying3
  a3 := Tryz.isAgg3
  z3 := Tryz.sizeOf3
  v3 := Tryz.zeroValue3
  t4 := Tryz.underlying4
  a4 := Tryz.isAgg4
  z4 := Tryz.sizeOf4
  v4 := Tryz.zeroValue4
  t5 := Tryz.underlying5
  a5 := Tryz.isAgg5
  z5 := Tryz.sizeOf5
  v5 := Tryz.zeroValue5
  t9 := Tryz.underlying9
  a9 := Tryz.isAgg9
  z9 := Tryz.sizeOf9
  v9 := Tryz.zeroValue9
  t46 := Tryz.underlying49
  a46 := Tryz.isAgg49
  z46 := Tryz.sizeOf49
  v46 := Tryz.zeroValue49
  t51 := Tryz.underlying220
  a51 := Tryz.isAgg220
  z51 := Tryz.sizeOf220
  v51 := Tryz.zeroValue220 }
/-- bits.Len32: "Len32 returns the minimum number of bits required to represent x; the result is 0 for x == 0.": IT RETURNS 'Lib.bitLen x'; the world is as it was. ('h0', 'h1': x is a uint32.) (LAID: no walk: one application.) -/
theorem shelf_bits_Len32 (x : Int) (w : World) (h0 : 0 ≤ x) (h1 : x ≤ 4294967295) :
    Calls Tryz.prog 162 #[.int .u32 x] w fun e w' => e = .returned (.int .i64 (Lib.bitLen x.toNat)) ∧ w' = w := Any.bits_Len32 lays128 x w h0 h1
def lays125_ren : Go.Shelf.Ren := ⟨fun | 125 => 142 | 128 => 162 | 129 => 158 | n => n, fun | 46 => 49 | 3 => 3 | 51 => 220 | 53 => 41 | 4 => 4 | 5 => 5 | 9 => 9 | n => n, fun | n => n⟩
theorem lays125 : Go.Proofs.Lays.n125 Tryz.prog lays125_ren := {
  mixed := by kernel_rfl
  f125 := Tryz.func142.trans (congrArg some (by kernel_rfl))
  f128 := Tryz.func162.trans (congrArg some (by kernel_rfl))
  f129 := Tryz.func158.trans (congrArg some (by kernel_rfl))
  t3 := Tryz.underlying3
  a3 := Tryz.isAgg3
  z3 := Tryz.sizeOf3
  v3 := Tryz.zeroValue3
  t4 := Tryz.underlying4
  a4 := Tryz.isAgg4
  z4 := Tryz.sizeOf4
  v4 := Tryz.zeroValue4
  t5 := Tryz.underlying5
  a5 := Tryz.isAgg5
  z5 := Tryz.sizeOf5
  v5 := Tryz.zeroValue5
  t9 := Tryz.underlying9
  a9 := Tryz.isAgg9
  z9 := Tryz.sizeOf9
  v9 := Tryz.zeroValue9
  t46 := Tryz.underlying49
  a46 := Tryz.isAgg49
  z46 := Tryz.sizeOf49
  v46 := Tryz.zeroValue49
  t51 := Tryz.underlying220
  a51 := Tryz.isAgg220
  z51 := Tryz.sizeOf220
  v51 := Tryz.zeroValue220
  t53 := Tryz.underlying41
  a53 := Tryz.isAgg41
  z53 := Tryz.sizeOf41
  v53 := Tryz.zeroValue41 }
/-- bits.Len: "Len returns the minimum number of bits required to represent x; the result is 0 for x == 0.": IT RETURNS 'Lib.bitLen x'; the world is as it was. (A uint has 64 bits in the model.) ITS CALLEE bits.Len64 IS MET BY ITS OWN CONTRACT OFF THE SHELF (lay that first). (LAID: no walk: one application.) -/
theorem bits_Len (x : Int) (w : World) (h0 : 0 ≤ x) (h1 : x ≤ 18446744073709551615) :
    Calls Tryz.prog 142 #[.int .u64 x] w fun e w' => e = .returned (.int .i64 (Lib.bitLen x.toNat)) ∧ w' = w := Any.bits_Len lays125 x w h0 h1
def lays129_ren : Go.Shelf.Ren := ⟨fun | 129 => 158 | n => n, fun | 53 => 41 | 3 => 3 | 4 => 4 | 46 => 49 | 5 => 5 | 9 => 9 | n => n, fun | n => n⟩
theorem lays129 : Go.Proofs.Lays.n129 Tryz.prog lays129_ren := {
  mixed := by kernel_rfl
  f129 := Tryz.func158.trans (congrArg some (by kernel_rfl))
  t3 := Tryz.underlying3
  a3 := Tryz.isAgg3
  z3 := Tryz.sizeOf3
  v3 := Tryz.zeroValue3
  t4 := Tryz.underlying4
  a4 := Tryz.isAgg4
  z4 := Tryz.sizeOf4
  v4 := Tryz.zeroValue4
  t5 := Tryz.underlying5
  a5 := Tryz.isAgg5
  z5 := Tryz.sizeOf5
  v5 := Tryz.zeroValue5
  t9 := Tryz.underlying9
  a9 := Tryz.isAgg9
  z9 := Tryz.sizeOf9
  v9 := Tryz.zeroValue9
  t46 := Tryz.underlying49
  a46 := Tryz.isAgg49
  z46 := Tryz.sizeOf49
  v46 := Tryz.zeroValue49
  t53 := Tryz.underlying41
  a53 := Tryz.isAgg41
  z53 := Tryz.sizeOf41
  v53 := Tryz.zeroValue41 }
/-- bits.Len64: "Len64 returns the minimum number of bits required to represent x; the result is 0 for x == 0.": IT RETURNS 'Lib.bitLen x'; the world is as it was. ('h0', 'h1': x is a uint64.) (LAID: no walk: one application.) -/
theorem shelf_bits_Len64 (x : Int) (w : World) (h0 : 0 ≤ x) (h1 : x ≤ 18446744073709551615) :
    Calls Tryz.prog 158 #[.int .u64 x] w fun e w' => e = .returned (.int .i64 (Lib.bitLen x.toNat)) ∧ w' = w := Any.bits_Len64 lays129 x w h0 h1
end Go.Proofs.YtakgnkjopbflbaaGreatDoor

namespace Go.Proofs.YtakgnkjopbflbaaGreatDoor
open Go.RowKit

theorem pow_vals {k : Nat} (hk : k < 6) : ∃ n : Nat, 2 ^ k = n ∧ 1 ≤ n ∧ n ≤ 32 ∧ bits .and .i64 (n : Int) ((n : Int) - 1) = 0 ∧ Lib.bitLen n = k + 1 := by
  refine ⟨2 ^ k, rfl, ?_⟩
  have : k = 0 ∨ k = 1 ∨ k = 2 ∨ k = 3 ∨ k = 4 ∨ k = 5 := by omega
  rcases this with rfl | rfl | rfl | rfl | rfl | rfl <;> refine ⟨by decide, by decide, by decide +kernel, by decide +kernel⟩

set_option maxRecDepth 100000 in
set_option maxHeartbeats 1000000 in
theorem stages_any (k n : Nat) (hk : k < 6) (hkn : 2 ^ k = n) (w : World) : Calls Tryz.prog 121 #[.int .i64 n] w fun e w' => e = .returned (.int .i64 k) ∧ w' = w := by
  obtain ⟨n', hn, h1, h2, h3, h4⟩ := pow_vals hk
  obtain rfl : n = n' := hkn.symm.trans hn
  clear hkn hn
  have hb := bits_Len (n : Int) w (by omega) (by omega)
  rw [Int.toNat_natCast, h4] at hb
  clear h4
  go_enter Tryz.func121, Tryz.ntmps121
  go_wp2_with fail
  refine hb.mono ?_
  rintro e w' ⟨rfl, rfl⟩
  go_wp2_with fail
  go_ret
  exact ⟨rfl, rfl⟩

set_option maxRecDepth 100000 in
set_option maxHeartbeats 1000000 in
theorem rounds_any (k n : Nat) (hk : k < 6) (hkn : 2 ^ k = n) (w : World) : Calls Tryz.prog 93 #[.int .i64 n] w fun e w' => e = .returned (.int .i64 (tri k)) ∧ w' = w := by
  have ht : tri k = k * (k + 1) / 2 := rfl
  have hkk : k * (k + 1) ≤ 30 := by
    have : k = 0 ∨ k = 1 ∨ k = 2 ∨ k = 3 ∨ k = 4 ∨ k = 5 := by omega
    rcases this with rfl | rfl | rfl | rfl | rfl | rfl <;> decide
  go_enter Tryz.func93, Tryz.ntmps93
  go_wp2_with fail
  refine (stages_any k n hk hkn w).mono ?_
  rintro e w' ⟨rfl, rfl⟩
  go_wp2_with fail
  go_ret
  refine ⟨?_, rfl⟩
  have e1 : wrap64 ((k : Int) * ((k : Int) + 1)) = ((k * (k + 1) : Nat) : Int) := by
    have : ((k : Int) * ((k : Int) + 1)) = ((k * (k + 1) : Nat) : Int) := by push_cast; rfl
    rw [this]
    unfold wrap64
    omega
  have e2 : wrap64 ((((k * (k + 1) : Nat) : Int)).tdiv 2) = ((tri k : Nat) : Int) := by
    rw [ht, Int.tdiv_eq_ediv_of_nonneg (by omega)]
    unfold wrap64
    omega
  rw [← e2, ← e1]
  rfl

set_option maxRecDepth 100000 in
set_option maxHeartbeats 1000000 in
theorem padded_any (n k : Nat) (h1 : 1 ≤ n) (h32 : n ≤ 32) (hk : Lib.bitLen (n - 1) = k) (w : World) : Calls Tryz.prog 120 #[.int .i64 n] w fun e w' => e = .returned (.int .i64 (2 ^ k : Nat)) ∧ w' = w := by
  have hb := bits_Len ((n - 1 : Nat) : Int) w (by omega) (by omega)
  rw [Int.toNat_natCast, hk] at hb
  have em : max 1 (min (n : Int) 65536) = n := by omega
  have e1 : ((n : Int) - 1) = ((n - 1 : Nat) : Int) := by omega
  have hk5 : k ≤ 5 := by
    rw [← hk]
    have : ∀ m < 32, Lib.bitLen m ≤ 5 := by decide +kernel
    exact this _ (by omega)
  go_enter Tryz.func120, Tryz.ntmps120
  go_wp2_with fail
  refine hb.mono ?_
  rintro e w' ⟨rfl, rfl⟩
  clear hb e1 hk em
  have hk6 : k = 0 ∨ k = 1 ∨ k = 2 ∨ k = 3 ∨ k = 4 ∨ k = 5 := by omega
  rcases hk6 with rfl | rfl | rfl | rfl | rfl | rfl <;> (go_wp2_with fail; go_ret; exact ⟨rfl, rfl⟩)

set_option maxRecDepth 100000 in
set_option maxHeartbeats 1000000 in
theorem step_any (k n r : Nat) (hk : k < 6) (hkn : 2 ^ k = n) (hr : r < 1000) (w : World) : Calls Tryz.prog 123 #[.int .i64 n, .int .i64 r] w fun e w' => e = .returned (.tuple #[.int .i64 (stp k r).1, .int .i64 (stp k r).2, .bool (decide (0 < (stp k r).1))]) ∧ w' = w := by
  have hsr := stp_le k r
  go_enter Tryz.func123, Tryz.ntmps123
  go_wp2_with fail
  go_step3
  go_wp2_with fail
  go_step3
  go_wp2_with fail
  go_loopw [7, 8, 9, 10] (fun a b c s wr => ∃ v q : Nat, a = .int .i64 v ∧ b = .int .i64 0 ∧ c = .int .i64 0 ∧ s = .int .i64 ((q : Int) + 1) ∧ q ≤ k ∧ v ≤ r ∧ stpGo (k - q) (q + 1) v = stp k r ∧ wr = w) (fun _ _ _ s _ => k + 1 - (intOf s).toNat)
  case atStart => exact ⟨r, 0, rfl, rfl, rfl, rfl, Nat.zero_le _, Nat.le_refl _, rfl, rfl⟩
  case round =>
    obtain ⟨v, q, rfl, rfl, rfl, rfl, hq, hv, hst, rfl⟩ := hrel
    have HST := Lib.hid hst
    clear hst
    go_wp2_with fail
    refine (stages_any k n hk hkn wr).mono ?_
    rintro e w' ⟨rfl, rfl⟩
    by_cases hqk : q < k
    · have e0 : decide ((q : Int) + 1 ≤ (k : Int)) = true := by simp; omega
      have hun : stpGo (k - q) (q + 1) v = if v < q + 1 then (q + 1, q + 1 - v) else stpGo (k - (q + 1)) (q + 1 + 1) (v - (q + 1)) := by
        rw [show k - q = (k - (q + 1)) + 1 by omega]
        rfl
      by_cases hvq : v < q + 1
      · have h1 : (stp k r).1 = q + 1 ∧ (stp k r).2 = q + 1 - v := by rw [← HST.out, hun, if_pos hvq]; exact ⟨rfl, rfl⟩
        have HS1 := Lib.hid h1
        clear h1 hun hsr
        go_wp2_with fail
        rw [Exit.noGoto_ret]
        refine bodyPost_ret (v := .tuple #[.int .i64 ((q : Int) + 1), .int .i64 ((q : Int) + 1 - v), .bool true]) (by simp [results, Tryz.f123, go_sem]) rfl ⟨?_, rfl⟩
        rw [HS1.out.1, HS1.out.2]
        congr 3
        · simp
          omega
      · have h1 : stpGo (k - (q + 1)) (q + 1 + 1) (v - (q + 1)) = stp k r := by rw [← HST.out, hun, if_neg hvq]
        have HS1 := Lib.hid h1
        clear h1 hun hsr
        go_wp2_with fail
        go_roundw
        case rel => exact ⟨v - (q + 1), q + 1, by go_num, rfl, rfl, by go_num, by omega, by omega, HS1.out, trivial⟩
        case measure => simp [intOf]; omega
    · have h1 : (stp k r).1 = 0 ∧ (stp k r).2 = 0 := by
        rw [← HST.out, show k - q = 0 by omega]
        exact ⟨rfl, rfl⟩
      have HS1 := Lib.hid h1
      clear h1 hsr
      go_wp2_with fail
      rw [Exit.noGoto_ret]
      refine bodyPost_ret (v := .tuple #[.int .i64 0, .int .i64 0, .bool false]) (by simp [results, Tryz.f123, go_sem]) rfl ⟨?_, rfl⟩
      rw [HS1.out.1, HS1.out.2]
      rfl

set_option maxRecDepth 100000 in
set_option maxHeartbeats 1000000 in
theorem far_any (k n r : Nat) (hk : k < 6) (hkn : 2 ^ k = n) (hr : r < 1000) (w : World) : Calls Tryz.prog 95 #[.int .i64 n, .int .i64 r] w fun e w' => e = .returned (.int .i64 (farN k r)) ∧ w' = w := by
  have hc := step_any k n r hk hkn hr w
  have hle := stp_le k r
  have hz := stp_zero k r
  have hf : farN k r = if (stp k r).1 = 0 then 0 else 2 ^ ((stp k r).2 - 1) := rfl
  obtain ⟨⟨s, t⟩, hst⟩ : ∃ p, stp k r = p := ⟨_, rfl⟩
  rw [hst] at hc hle hz hf
  dsimp only at hc hle hz hf
  have HF := Lib.hid hf
  clear hf hst
  by_cases h0 : s = 0
  · subst h0
    obtain rfl : t = 0 := hz.1 rfl
    rw [show decide (0 < 0) = false from rfl] at hc
    clear hle hz
    go_enter Tryz.func95, Tryz.ntmps95
    go_wp2_with fail
    refine hc.mono ?_
    rintro e w' ⟨rfl, rfl⟩
    go_wp2_with fail
    go_ret
    exact ⟨by rw [HF.out]; rfl, rfl⟩
  · have h1 : decide (0 < s) = true := by simp; omega
    have ht : 1 ≤ t := by have := mt hz.2 h0; omega
    rw [h1] at hc
    clear hz h1
    have ht6 : t = 1 ∨ t = 2 ∨ t = 3 ∨ t = 4 ∨ t = 5 := by omega
    go_enter Tryz.func95, Tryz.ntmps95
    go_wp2_with fail
    refine hc.mono ?_
    rintro e w' ⟨rfl, rfl⟩
    clear hc hle ht
    rcases ht6 with rfl | rfl | rfl | rfl | rfl <;> (go_wp2_with fail; go_ret; exact ⟨by rw [HF.out, if_neg h0]; rfl, rfl⟩)

/-- The bits of an address. -/
theorem up_bits : ∀ a : Nat, a < 32 → ∀ s : Nat, s < 6 → bits .and .i64 ((a : Int) / 2 ^ s) 1 = ((a / 2 ^ s % 2 : Nat) : Int) := by decide +kernel

set_option maxRecDepth 100000 in
set_option maxHeartbeats 1000000 in
theorem up_any (k n r a : Nat) (hk : k < 6) (hkn : 2 ^ k = n) (hr : r < 1000) (ha : a < n) (w : World) : Calls Tryz.prog 122 #[.int .i64 n, .int .i64 r, .int .i64 a] w fun e w' => e = .returned (.bool (upB k r a)) ∧ w' = w := by
  have hc := step_any k n r hk hkn hr w
  have hle := stp_le k r
  have hz := stp_zero k r
  have hf : upB k r a = (decide ((stp k r).1 ≠ 0) && decide (a < 2 ^ k) && decide (a / 2 ^ ((stp k r).2 - 1) % 2 = 0) && decide (a / 2 ^ (stp k r).1 % 2 = 0)) := rfl
  have hn32 : n ≤ 32 := by obtain ⟨_, h1, _, h2, _⟩ := pow_vals hk; omega
  obtain ⟨⟨s, t⟩, hst⟩ : ∃ p, stp k r = p := ⟨_, rfl⟩
  rw [hst] at hc hle hz hf
  dsimp only at hc hle hz hf
  rw [hkn, decide_eq_true ha, Bool.and_true] at hf
  have HF := Lib.hid hf
  clear hf hst
  by_cases h0 : s = 0
  · subst h0
    obtain rfl : t = 0 := hz.1 rfl
    rw [show decide (0 < 0) = false from rfl] at hc
    clear hle hz
    go_enter Tryz.func122, Tryz.ntmps122
    go_wp2_with fail
    refine hc.mono ?_
    rintro e w' ⟨rfl, rfl⟩
    go_wp2_with fail
    go_ret
    exact ⟨by rw [HF.out]; rfl, rfl⟩
  · have h1 : decide (0 < s) = true := by simp; omega
    have ht : 1 ≤ t := by have := mt hz.2 h0; omega
    rw [h1] at hc
    clear hz h1
    have ht6 : t = 1 ∨ t = 2 ∨ t = 3 ∨ t = 4 ∨ t = 5 := by omega
    go_enter Tryz.func122, Tryz.ntmps122
    go_wp2_with fail
    refine hc.mono ?_
    rintro e w' ⟨rfl, rfl⟩
    have hsm : min s 64 = s := by omega
    have b1 := up_bits a (by omega) (t - 1) (by omega)
    have b2 := up_bits a (by omega) s (by omega)
    have B1 := Lib.hid b1
    have B2 := Lib.hid b2
    have HSM := Lib.hid hsm
    clear hc hle ht b1 b2 hsm
    go_wp2_with fail
    · have hx := ‹bits BinOp.and IntKind.i64 ((a : Int) / 2 ^ (t - 1)) 1 = 0›
      rw [B1.out] at hx
      go_ret
      refine ⟨?_, rfl⟩
      rw [HF.out, decide_eq_true (p := a / 2 ^ (t - 1) % 2 = 0) (by omega), decide_eq_true (p := s ≠ 0) h0, Bool.and_true, Bool.true_and]
      show Ending.returned (Value.bool (bits BinOp.and IntKind.i64 ((a : Int) / 2 ^ min s 64) 1 == 0)) = _
      rw [HSM.out, B2.out]
      congr 2
      by_cases h2 : a / 2 ^ s % 2 = 0
      · rw [h2]; rfl
      · rw [decide_eq_false h2]
        exact beq_eq_false_iff_ne.2 (by omega)
    · have hx := ‹¬ bits BinOp.and IntKind.i64 ((a : Int) / 2 ^ (t - 1)) 1 = 0›
      rw [B1.out] at hx
      go_ret
      refine ⟨?_, rfl⟩
      rw [HF.out, decide_eq_false (p := a / 2 ^ (t - 1) % 2 = 0) (by omega), Bool.and_false, Bool.false_and]
      rfl
end Go.Proofs.YtakgnkjopbflbaaGreatDoor

namespace Go.Proofs.YtakgnkjopbflbaaGreatDoor
open Go.RowKit
set_option linter.unusedSimpArgs false

/-- The public numbers that may be. -/
def fitQ (r k b wk : Int) : Prop := 1 ≤ r ∧ r ≤ 64 ∧ 1 ≤ k ∧ k ≤ 4 ∧ 1 ≤ b ∧ b ≤ 8 ∧ 1 ≤ wk ∧ wk ≤ 4 ∧ k * ((r - 1) / b + 1) < 32
instance (r k b wk : Int) : Decidable (fitQ r k b wk) := by unfold fitQ; infer_instance

set_option maxRecDepth 100000 in
set_option maxHeartbeats 1000000 in
theorem right_q (r k b wk : Int) (w : World) : Calls Tryz.prog 119 #[.agg #[.int .i64 r, .int .i64 k, .int .i64 b, .int .i64 wk]] w fun e w' => e = .returned (.int .i64 (if fitQ r k b wk then 0 else 1)) ∧ Mod w w' Nob := by
  obtain ⟨e, he⟩ : ∃ e : Int, Hid (e = if fitQ r k b wk then 0 else 1) := ⟨_, rfl⟩
  rw [← he.out]
  have hB := (Mod.refl w Nob).alloc (.cells #[.int .i64 r, .int .i64 k, .int .i64 b, .int .i64 wk] 24)
  by_cases h8 : 1 ≤ r ∧ r ≤ 64 ∧ 1 ≤ k ∧ k ≤ 4 ∧ 1 ≤ b ∧ b ≤ 8 ∧ 1 ≤ wk ∧ wk ≤ 4
  · obtain ⟨r1, r2, k1, k2, b1, b2, w1, w2⟩ := h8
    go_enter Tryz.func119, Tryz.ntmps119
    go_wp2_with fail
    go_quiet (fail)
    have hq0 : 0 ≤ (r - 1) / b := Int.ediv_nonneg (by omega) (by omega)
    have hq1 : (r - 1) / b ≤ 63 := Int.le_trans (Int.ediv_le_self _ (by omega)) (by omega)
    have hwr : wrap64 (k * wrap64 ((r - 1) / b + 1)) = k * ((r - 1) / b + 1) := by
      obtain ⟨t, ht⟩ : ∃ t, (r - 1) / b = t := ⟨_, rfl⟩
      rw [ht] at hq0 hq1 ⊢
      have h1 : wrap64 (t + 1) = t + 1 := by unfold wrap64; omega
      rw [h1]
      have hk : k = 1 ∨ k = 2 ∨ k = 3 ∨ k = 4 := by omega
      rcases hk with rfl | rfl | rfl | rfl <;> (unfold wrap64; omega)
    have HW := Lib.hid hwr
    clear hwr hq0 hq1
    go_wp2_with fail
    · go_ret
      have hx := ‹32 ≤ wrap64 (k * wrap64 ((r - 1) / b + 1))›
      rw [HW.out] at hx
      have hn : ¬ fitQ r k b wk := fun hf => by have := hf.2.2.2.2.2.2.2.2; omega
      refine ⟨?_, hB.drewN nq⟩
      rw [he.out, if_neg hn]
      rfl
    · go_ret
      have hx := ‹wrap64 (k * wrap64 ((r - 1) / b + 1)) < 32›
      rw [HW.out] at hx
      have hn : fitQ r k b wk := ⟨r1, r2, k1, k2, b1, b2, w1, w2, hx⟩
      refine ⟨?_, hB.drewN nq⟩
      rw [he.out, if_pos hn]
      rfl
  · have hn : ¬ fitQ r k b wk := fun hf => h8 ⟨hf.1, hf.2.1, hf.2.2.1, hf.2.2.2.1, hf.2.2.2.2.1, hf.2.2.2.2.2.1, hf.2.2.2.2.2.2.1, hf.2.2.2.2.2.2.2.1⟩
    have HE : Hid (e = 1) := by rw [he.out, if_neg hn]; rfl
    have H8 := Lib.hid h8
    clear h8 hn
    go_enter Tryz.func119, Tryz.ntmps119
    go_wp2_with fail
    all_goals first
      | (go_ret
         refine ⟨?_, hB⟩
         rw [HE.out]
         rfl)
      | (exfalso
         apply H8.out
         omega)


theorem w64 {x : Int} (h0 : 0 ≤ x) (h1 : x ≤ 1000000) : wrap64 x = x := by unfold wrap64; omega
/-- The plan of public numbers. -/
def planP (r k b : Nat) : Plan := ⟨k, (r - 1) / b + 1, Lib.bitLen (k * ((r - 1) / b + 1))⟩
theorem len_in : ∀ m < 32, 1 ≤ m → 1 ≤ Lib.bitLen m ∧ Lib.bitLen m ≤ 5 ∧ m < 2 ^ Lib.bitLen m := by decide +kernel
theorem ediv_nat {r b : Nat} (h : 1 ≤ r) : ((r : Int) - 1) / b + 1 = (((r - 1) / b + 1 : Nat) : Int) := by
  have : (r : Int) - 1 = ((r - 1 : Nat) : Int) := by omega
  rw [this, Int.natCast_add, Int.natCast_ediv]
  rfl
theorem planP_ok {r k b wk : Nat} (h : fitQ r k b wk) : (planP r k b).ok := by
  obtain ⟨h1, h2, h3, h4, h5, h6, h7, h8, h9⟩ := h
  have e := ediv_nat (r := r) (b := b) (by omega)
  rw [e] at h9
  have h9' : k * ((r - 1) / b + 1) < 32 := by exact_mod_cast h9
  have hp : 1 ≤ k * ((r - 1) / b + 1) := Nat.mul_pos (by omega) (Nat.succ_pos _)
  obtain ⟨l1, l2, l3⟩ := len_in _ h9' hp
  have hi : (r - 1) / b + 1 ≤ k * ((r - 1) / b + 1) := Nat.le_mul_of_pos_left _ (by omega)
  exact ⟨by show 1 ≤ k; omega, by show k ≤ 4; omega, Nat.le_add_left _ _, Nat.le_of_lt_succ (Nat.lt_of_le_of_lt hi h9'), l1, l2, l3⟩

theorem blocks_nums {r k b wk m : Nat} (hf : fitQ r k b wk) (hm : (r - 1) / b + 1 = m) : 1 ≤ m ∧ m ≤ 64 ∧ wrap64 (((r : Int) - 1) / b + 1) = (m : Int) ∧ wrap64 ((k : Int) * (m : Int)) = ((k * m : Nat) : Int) ∧ wrap64 (((k * m : Nat) : Int) + 1) = ((k * m + 1 : Nat) : Int) ∧ k * m < 32 := by
  obtain ⟨h1, h2, h3, h4, h5, h6, h7, h8, h9⟩ := id hf
  have e := ediv_nat (r := r) (b := b) (by omega)
  rw [e, hm] at h9
  have h9' : k * m < 32 := by exact_mod_cast h9
  rw [hm] at e
  have hm64 : 1 ≤ m ∧ m ≤ 64 := by
    have h := Nat.div_le_self (r - 1) b
    generalize (r - 1) / b = y at h hm
    omega
  refine ⟨hm64.1, hm64.2, ?_, ?_, ?_, h9'⟩
  · rw [e]
    exact w64 (by omega) (by omega)
  · rw [show ((k : Int) * (m : Int)) = ((k * m : Nat) : Int) by push_cast; rfl]
    generalize k * m = y at h9'
    exact w64 (by omega) (by omega)
  · generalize k * m = y at h9'
    rw [w64 (by omega) (by omega)]
    omega

set_option maxRecDepth 100000 in
set_option maxHeartbeats 1000000 in
theorem blocks_q (r k b wk : Nat) (hf : fitQ r k b wk) (w : World) : Calls Tryz.prog 92 #[.agg #[.int .i64 r, .int .i64 k, .int .i64 b, .int .i64 wk]] w fun e w' => e = .returned (.tuple #[.int .i64 (planP r k b).input, .int .i64 (planP r k b).all]) ∧ Mod w w' Nob := by
  have hr := right_q r k b wk
  have hb0 : (b : Int) ≠ 0 := by have := hf.2.2.2.2.1; omega
  have hr1 : (1 : Int) ≤ r := hf.1
  have hr2 : (r : Int) ≤ 64 := hf.2.1
  have hb1 : (1 : Int) ≤ b := hf.2.2.2.2.1
  have hb2 : (b : Int) ≤ 8 := hf.2.2.2.2.2.1
  obtain ⟨m, hm⟩ : ∃ m, (r - 1) / b + 1 = m := ⟨_, rfl⟩
  obtain ⟨hm1, hm64, hE2, hkm, hE, h9'⟩ := blocks_nums hf hm
  have hp := padded_any (k * m + 1) (planP r k b).e (by omega) (by omega) (by rw [← hm]; rfl)
  have hpi : (planP r k b).input = m := hm
  obtain ⟨N, hN⟩ : ∃ N, 2 ^ (planP r k b).e = N := ⟨_, rfl⟩
  have hpa : (planP r k b).all = N := hN
  rw [hpi, hpa]
  rw [hN] at hp
  have HP := Lib.hid hp
  have HE := Lib.hid hE
  have HE2 := Lib.hid hE2
  have HKM := Lib.hid hkm
  clear hpi hpa hN hp hE hE2 hkm h9' hm
  go_enter Tryz.func92, Tryz.ntmps92
  go_wp2_with fail
  have cB := CellsAt.new w #[.int .i64 r, .int .i64 k, .int .i64 b, .int .i64 wk] 24
  have mB := (Mod.refl w Nob).alloc (.cells #[.int .i64 r, .int .i64 k, .int .i64 b, .int .i64 wk] 24)
  obtain ⟨W, hW⟩ : ∃ W, w.alloc (.cells #[.int .i64 r, .int .i64 k, .int .i64 b, .int .i64 wk] 24) = W := ⟨_, rfl⟩
  rw [hW] at cB mB ⊢
  refine (hr W).mono ?_
  rw [if_pos hf]
  rintro e0 W1 ⟨rfl, m1⟩
  replace cB := cB.mod m1 nob
  replace mB := mB.trans m1
  have q0 := cB.cell 0
  have q1 := cB.cell 1
  have q2 := cB.cell 2
  simp at q0 q1 q2
  clear hr m1 hW hf cB
  go_wp2_with fail
  rw [HE2.out, HKM.out, HE.out]
  refine (HP.out W1).mono ?_
  rintro e1 W2 ⟨rfl, rfl⟩
  go_wp2_with fail
  exact bodyPost_ret (v := .tuple #[.int .i64 m, .int .i64 N]) (by simp [results, Tryz.f92, go_sem]) rfl ⟨rfl, mB⟩
end Go.Proofs.YtakgnkjopbflbaaGreatDoor

namespace Go.Proofs.YtakgnkjopbflbaaGreatDoor
open Go.RowKit
set_option linter.unusedSimpArgs false

def plan0 (k : Int) : Array Value := #[.int .i64 k, .int .i64 0, .int .i64 0, .int .i64 0, .int .i64 0, .int .i64 0, .int .i64 0, .int .i64 0, .int .i64 0, .int .i64 0]
def planC (k i n r f p s fo l c : Int) : Array Value := #[.int .i64 k, .int .i64 i, .int .i64 n, .int .i64 r, .int .i64 f, .int .i64 p, .int .i64 s, .int .i64 fo, .int .i64 l, .int .i64 c]

set_option maxRecDepth 100000 in
set_option maxHeartbeats 2000000 in
theorem of_walk (r k b wk I N R F : Nat) (c6 c7 c8 c9 : Int) (HB : Hid (∀ w, Calls Tryz.prog 92 #[.agg #[.int .i64 r, .int .i64 k, .int .i64 b, .int .i64 wk]] w fun e w' => e = .returned (.tuple #[.int .i64 I, .int .i64 N]) ∧ Mod w w' Nob))
    (HR : Hid (∀ w, Calls Tryz.prog 93 #[.int .i64 N] w fun e w' => e = .returned (.int .i64 R) ∧ w' = w)) (hN : (1 : Int) ≤ N) (hN32 : (N : Int) ≤ 32) (hF : Hid ((N : Int) / 2 = F)) (e6 : Hid (wrap64 (wrap64 ((I : Int) + N) - wrap64 ((k : Int) * I)) = c6))
    (e7 : Hid (wrap64 (c6 + wrap64 ((R : Int) * F)) = c7)) (e8 : Hid (wrap64 (c7 + N) = c8)) (e9 : Hid (wrap64 (c8 + wrap64 ((R : Int) * F)) = c9)) (w : World) :
    Calls Tryz.prog 54 #[.agg #[.int .i64 r, .int .i64 k, .int .i64 b, .int .i64 wk]] w fun e w' => e = .returned (.agg (planC k I N R F I c6 c7 c8 c9)) ∧ Mod w w' Nob := by
  have mB := (((Mod.refl w Nob).alloc (.cells #[.int .i64 r, .int .i64 k, .int .i64 b, .int .i64 wk] 24)).alloc (.cells (plan0 0) 137)).alloc (.cells (plan0 k) 137)
  have cX := new_at (w := (w.alloc (.cells #[.int .i64 r, .int .i64 k, .int .i64 b, .int .i64 wk] 24)).alloc (.cells (plan0 0) 137)) (cs := plan0 k) (t := 137) (g := w.heap.size + 1 + 1) (by simp)
  have cR := (new_at (w := w.alloc (.cells #[.int .i64 r, .int .i64 k, .int .i64 b, .int .i64 wk] 24)) (cs := plan0 0) (t := 137) (g := w.heap.size + 1) (by simp)).alloc (.cells (plan0 k) 137)
  go_enter Tryz.func54, Tryz.ntmps54
  go_wp2_with fail
  change Calls _ _ _ (((w.alloc (.cells #[.int .i64 r, .int .i64 k, .int .i64 b, .int .i64 wk] 24)).alloc (.cells (plan0 0) 137)).alloc (.cells (plan0 k) 137)) _
  obtain ⟨W, hW⟩ : ∃ W, ((w.alloc (.cells #[.int .i64 r, .int .i64 k, .int .i64 b, .int .i64 wk] 24)).alloc (.cells (plan0 0) 137)).alloc (.cells (plan0 k) 137) = W := ⟨_, rfl⟩
  rw [hW] at mB cX cR ⊢
  obtain ⟨H, hH⟩ : ∃ H, w.heap.size = H := ⟨_, rfl⟩
  rw [hH] at cX cR ⊢
  have HH := Lib.hid hH
  have hHa : w.heap.size ≤ H + 1 + 1 := by omega
  have hHb : w.heap.size ≤ H + 1 := by omega
  clear hW hH
  refine (HB.out W).mono ?_
  rintro e0 W1 ⟨rfl, m1⟩
  replace cX := cX.mod m1 nob
  replace cR := cR.mod m1 nob
  replace mB := mB.trans m1
  clear m1
  have hN0 : (N : Int) ≠ 0 := by omega
  unfold plan0 at cX
  have k1 := cX.cell 1
  have f1 := cX.free 1
  have s1 := cX.set 1 (.int .i64 I)
  have k2 := s1.cell 2
  have f2 := s1.free 2
  have s2 := s1.set 2 (.int .i64 N)
  have q2 := s2.cell 2
  have m2 := (mB.setCell (p := ⟨H + 1 + 1, 1, none⟩) (.inr hHa) (.int .i64 I)).setCell (p := ⟨H + 1 + 1, 2, none⟩) (.inr hHa) (.int .i64 N)
  have r2 := (cR.mod ((Mod.refl W1 (· = H + 1 + 1)).setCell (p := ⟨H + 1 + 1, 1, none⟩) (.inl rfl) (.int .i64 I)) (by omega)).mod ((Mod.refl _ (· = H + 1 + 1)).setCell (p := ⟨H + 1 + 1, 2, none⟩) (.inl rfl) (.int .i64 N)) (by omega)
  simp at k1 k2 q2 s2
  clear s1 cX mB
  go_wp2_with fail
  clear hN0
  obtain ⟨V, hV⟩ : ∃ V, (W1.setCell ⟨H + 1 + 1, 1, none⟩ (.int .i64 I)).setCell ⟨H + 1 + 1, 2, none⟩ (.int .i64 N) = V := ⟨_, rfl⟩
  rw [hV] at m2 r2 q2 s2 ⊢
  clear hV k1 f1 k2 f2 cR W1 q2
  have mD := (Mod.refl V Nob).drew
  replace s2 := s2.mod mD nob
  replace r2 := r2.mod mD nob
  replace m2 := m2.trans mD
  clear mD
  have hF2 := hF.out
  have hw : IntKind.i64.wrap (F : Int) = F := by rw [← hF2]; exact IntWalk.i64_in _ (by omega)
  refine wp_no_panic ?_
  refine wp_region_U (S := fun W => W.cell? ⟨H + 1 + 1, 2, none⟩ = some (.int .i64 N)) 9 (by kernel_rfl) ?_
  change wpAnyU _ _ _ _ _ _ _ _ _ V.drew
  obtain ⟨V0, hV⟩ : ∃ W, V.drew = W := ⟨_, rfl⟩
  rw [hV] at m2 r2 s2 ⊢
  clear hV V
  have hS0 := s2.cell 2
  simp at hS0
  refine wpAnyU_takeP (i := 0) (v := .pointer (some ⟨H + 1 + 1, 2, none⟩)) rfl (by kernel_rfl) (by kernel_rfl) (by kernel_rfl) (by decide) (fun _ _ _ h => h) (Or.inl ⟨by rfl, fun W => by go_simp⟩) (fun _ => hS0) ?_
  try simp only [Act.put, List.getElem_toArray, List.getElem_cons_zero, List.getElem_cons_succ, List.setIfInBounds_toArray, List.set_cons_zero, List.set_cons_succ]
  refine wpAnyU_take (i := 1) (v := .int .i64 N) rfl (by kernel_rfl) (by kernel_rfl) (by kernel_rfl) (by kernel_rfl) (by kernel_rfl) (fun _ _ _ h => h) (Or.inl ⟨by rfl, fun W hS => by go_simp⟩) hS0 ?_
  try simp only [Act.put, List.getElem_toArray, List.getElem_cons_zero, List.getElem_cons_succ, List.setIfInBounds_toArray, List.set_cons_zero, List.set_cons_succ]
  refine wpAnyU_takeP (i := 3) (v := .pointer (some ⟨H + 1 + 1, 2, none⟩)) rfl (by kernel_rfl) (by kernel_rfl) (by kernel_rfl) (by decide) (fun _ _ _ h => h) (Or.inl ⟨by rfl, fun W => by go_simp⟩) (fun _ => hS0) ?_
  try simp only [Act.put, List.getElem_toArray, List.getElem_cons_zero, List.getElem_cons_succ, List.setIfInBounds_toArray, List.set_cons_zero, List.set_cons_succ]
  refine wpAnyU_take (i := 4) (v := .int .i64 N) rfl (by kernel_rfl) (by kernel_rfl) (by kernel_rfl) (by kernel_rfl) (by kernel_rfl) (fun _ _ _ h => h) (Or.inl ⟨by rfl, fun W hS => by go_simp⟩) hS0 ?_
  try simp only [Act.put, List.getElem_toArray, List.getElem_cons_zero, List.getElem_cons_succ, List.setIfInBounds_toArray, List.set_cons_zero, List.set_cons_succ]
  refine wpAnyU_takeP (i := 5) (v := .int .i64 F) rfl (by kernel_rfl) (by kernel_rfl) (by kernel_rfl) (by decide) (fun _ _ _ h => h) (Or.inl ⟨by rfl, fun W => by go_simp⟩) (fun _ => hS0) ?_
  try simp only [Act.put, List.getElem_toArray, List.getElem_cons_zero, List.getElem_cons_succ, List.setIfInBounds_toArray, List.set_cons_zero, List.set_cons_succ]
  refine wpAnyU_one 2 _ (by kernel_rfl) rfl (fun K hK => ?_)
  go_simp
  refine (HR.out V0).mono ?_
  rintro r V0' ⟨rfl, rfl⟩
  go_wp2_with fail
  refine hK.out _ _ (fun _ => hS0) ?_
  clear hK K
  try simp only [Act.put, List.getElem_toArray, List.getElem_cons_zero, List.getElem_cons_succ, List.setIfInBounds_toArray, List.set_cons_zero, List.set_cons_succ]
  refine wpAnyU_takeP (i := 6) (v := .pointer (some ⟨H + 1 + 1, 3, none⟩)) rfl (by kernel_rfl) (by kernel_rfl) (by kernel_rfl) (by decide) (fun _ _ _ h => h) (Or.inl ⟨by rfl, fun W => by go_simp⟩) (fun _ => hS0) ?_
  try simp only [Act.put, List.getElem_toArray, List.getElem_cons_zero, List.getElem_cons_succ, List.setIfInBounds_toArray, List.set_cons_zero, List.set_cons_succ]
  have k3 := s2.cell 3
  have f3 := s2.free 3
  have t3 := s2.set 3 (.int .i64 R)
  simp at k3 t3
  replace m2 := m2.setCell (p := ⟨H + 1 + 1, 3, none⟩) (.inr hHa) (.int .i64 R)
  replace r2 := r2.mod ((Mod.refl _ (· = H + 1 + 1)).setCell (p := ⟨H + 1 + 1, 3, none⟩) (.inl rfl) (.int .i64 R)) (by omega)
  refine wpAnyU_one 7 _ (by kernel_rfl) rfl (fun K hK => ?_)
  go_wp2_with fail
  rename_i hx1
  clear hx1
  obtain ⟨V1, hV⟩ : ∃ W, V0'.setCell ⟨H + 1 + 1, 3, none⟩ (.int .i64 R) = W := ⟨_, rfl⟩
  rw [hV] at m2 r2 t3 ⊢
  clear hV k3 f3 s2 hS0 V0'
  have hS0 := t3.cell 2
  simp at hS0
  refine hK.out _ _ (fun _ => hS0) ?_
  clear hK K
  try simp only [Act.put, List.getElem_toArray, List.getElem_cons_zero, List.getElem_cons_succ, List.setIfInBounds_toArray, List.set_cons_zero, List.set_cons_succ]
  refine wpAnyU_takeP (i := 8) (v := .pointer (some ⟨H + 1 + 1, 4, none⟩)) rfl (by kernel_rfl) (by kernel_rfl) (by kernel_rfl) (by decide) (fun _ _ _ h => h) (Or.inl ⟨by rfl, fun W => by go_simp⟩) (fun _ => hS0) ?_
  try simp only [Act.put, List.getElem_toArray, List.getElem_cons_zero, List.getElem_cons_succ, List.setIfInBounds_toArray, List.set_cons_zero, List.set_cons_succ]
  refine wpAnyU_last (by kernel_rfl) (by simp) ?_
  have k4 := t3.cell 4
  have f4 := t3.free 4
  have t4 := t3.set 4 (.int .i64 F)
  simp at k4 t4
  replace m2 := m2.setCell (p := ⟨H + 1 + 1, 4, none⟩) (.inr hHa) (.int .i64 F)
  replace r2 := r2.mod ((Mod.refl _ (· = H + 1 + 1)).setCell (p := ⟨H + 1 + 1, 4, none⟩) (.inl rfl) (.int .i64 F)) (by omega)
  refine wpAny_one 9 _ (by kernel_rfl) rfl (fun K hK => ?_)
  go_wp2_with fail
  obtain ⟨V2, hV⟩ : ∃ W, V1.setCell ⟨H + 1 + 1, 4, none⟩ (.int .i64 F) = W := ⟨_, rfl⟩
  rw [hV] at m2 r2 t4 ⊢
  rename_i hx1
  clear hx1
  refine hK.out _ _ ?_
  clear hK K hV k4 f4 t3 hS0 V1
  try simp only [Act.put, List.getElem_toArray, List.getElem_cons_zero, List.getElem_cons_succ, List.setIfInBounds_toArray, List.set_cons_zero, List.set_cons_succ]
  refine wpAny_done (by kernel_rfl) ?_ _
  try simp only [Act.put, List.getElem_toArray, List.getElem_cons_zero, List.getElem_cons_succ]
  obtain ⟨V1, hV⟩ : ∃ W, V2 = W := ⟨_, rfl⟩
  subst hV
  have s2 := t4
  clear t4
  clear hF2 hw HB HR hN hN32
  have l1 := s2.cell 1
  have l5 := s2.cell 5
  have f5 := s2.free 5
  have t5 := s2.set 5 (.int .i64 I)
  replace m2 := (m2.setCell (p := ⟨H + 1 + 1, 5, none⟩) (.inr hHa) (.int .i64 I))
  replace r2 := (r2.mod ((Mod.refl _ (· = H + 1 + 1)).setCell (p := ⟨H + 1 + 1, 5, none⟩) (.inl rfl) (.int .i64 I)) (by omega))
  simp at l1 l5
  repeat (first | go_values | go_skip | go_guarded | go_step | go_upon | go_back)
  have nx := s2.cell 2
  simp at nx
  rw [nx]
  go_simp
  simp at t5
  obtain ⟨V3, hV⟩ : ∃ W, V2.setCell ⟨H + 1 + 1, 5, none⟩ (.int .i64 I) = W := ⟨_, rfl⟩
  rw [hV] at m2 r2 t5 ⊢
  replace s2 : CellsAt V3 (H + 1 + 1) #[.int .i64 k, .int .i64 I, .int .i64 N, .int .i64 R, .int .i64 F, .int .i64 I, .int .i64 0, .int .i64 0, .int .i64 0, .int .i64 0] 137 := t5
  clear hV l1 l5 nx f5 t5 V2
  have l0 := s2.cell 0
  have l1 := s2.cell 1
  have l2 := s2.cell 2
  have l5 := s2.cell 5
  have l6 := s2.cell 6
  have f6 := s2.free 6
  have t6 := s2.set 6 (.int .i64 c6)
  replace m2 := (m2.setCell (p := ⟨H + 1 + 1, 6, none⟩) (.inr hHa) (.int .i64 c6))
  replace r2 := (r2.mod ((Mod.refl _ (· = H + 1 + 1)).setCell (p := ⟨H + 1 + 1, 6, none⟩) (.inl rfl) (.int .i64 c6)) (by omega))
  simp at l0 l1 l2 l5 l6
  have eq := e6.out
  repeat (first | go_values | go_skip | go_guarded | go_step | go_upon | go_back)
  clear eq
  have nx := s2.cell 3
  simp at nx
  rw [nx]
  go_simp
  simp at t6
  obtain ⟨V4, hV⟩ : ∃ W, V3.setCell ⟨H + 1 + 1, 6, none⟩ (.int .i64 c6) = W := ⟨_, rfl⟩
  rw [hV] at m2 r2 t6 ⊢
  replace s2 : CellsAt V4 (H + 1 + 1) #[.int .i64 k, .int .i64 I, .int .i64 N, .int .i64 R, .int .i64 F, .int .i64 I, .int .i64 c6, .int .i64 0, .int .i64 0, .int .i64 0] 137 := t6
  clear hV l0 l1 l2 l5 l6 nx f6 t6 V3
  have l3 := s2.cell 3
  have l4 := s2.cell 4
  have l6 := s2.cell 6
  have l7 := s2.cell 7
  have f7 := s2.free 7
  have t7 := s2.set 7 (.int .i64 c7)
  replace m2 := (m2.setCell (p := ⟨H + 1 + 1, 7, none⟩) (.inr hHa) (.int .i64 c7))
  replace r2 := (r2.mod ((Mod.refl _ (· = H + 1 + 1)).setCell (p := ⟨H + 1 + 1, 7, none⟩) (.inl rfl) (.int .i64 c7)) (by omega))
  simp at l3 l4 l6 l7
  have eq := e7.out
  repeat (first | go_values | go_skip | go_guarded | go_step | go_upon | go_back)
  clear eq
  have nx := s2.cell 2
  simp at nx
  rw [nx]
  go_simp
  simp at t7
  obtain ⟨V5, hV⟩ : ∃ W, V4.setCell ⟨H + 1 + 1, 7, none⟩ (.int .i64 c7) = W := ⟨_, rfl⟩
  rw [hV] at m2 r2 t7 ⊢
  replace s2 : CellsAt V5 (H + 1 + 1) #[.int .i64 k, .int .i64 I, .int .i64 N, .int .i64 R, .int .i64 F, .int .i64 I, .int .i64 c6, .int .i64 c7, .int .i64 0, .int .i64 0] 137 := t7
  clear hV l3 l4 l6 l7 nx f7 t7 V4
  have l2 := s2.cell 2
  have l7 := s2.cell 7
  have l8 := s2.cell 8
  have f8 := s2.free 8
  have t8 := s2.set 8 (.int .i64 c8)
  replace m2 := (m2.setCell (p := ⟨H + 1 + 1, 8, none⟩) (.inr hHa) (.int .i64 c8))
  replace r2 := (r2.mod ((Mod.refl _ (· = H + 1 + 1)).setCell (p := ⟨H + 1 + 1, 8, none⟩) (.inl rfl) (.int .i64 c8)) (by omega))
  simp at l2 l7 l8
  have eq := e8.out
  repeat (first | go_values | go_skip | go_guarded | go_step | go_upon | go_back)
  clear eq
  have nx := s2.cell 3
  simp at nx
  rw [nx]
  go_simp
  simp at t8
  obtain ⟨V6, hV⟩ : ∃ W, V5.setCell ⟨H + 1 + 1, 8, none⟩ (.int .i64 c8) = W := ⟨_, rfl⟩
  rw [hV] at m2 r2 t8 ⊢
  replace s2 : CellsAt V6 (H + 1 + 1) #[.int .i64 k, .int .i64 I, .int .i64 N, .int .i64 R, .int .i64 F, .int .i64 I, .int .i64 c6, .int .i64 c7, .int .i64 c8, .int .i64 0] 137 := t8
  clear hV l2 l7 l8 nx f8 t8 V5
  have l3 := s2.cell 3
  have l4 := s2.cell 4
  have l8 := s2.cell 8
  have l9 := s2.cell 9
  have f9 := s2.free 9
  have t9 := s2.set 9 (.int .i64 c9)
  replace m2 := (m2.setCell (p := ⟨H + 1 + 1, 9, none⟩) (.inr hHa) (.int .i64 c9))
  replace r2 := (r2.mod ((Mod.refl _ (· = H + 1 + 1)).setCell (p := ⟨H + 1 + 1, 9, none⟩) (.inl rfl) (.int .i64 c9)) (by omega))
  simp at l3 l4 l8 l9
  have eq := e9.out
  repeat (first | go_values | go_skip | go_guarded | go_step | go_upon | go_back)
  clear eq
  have l0 := s2.cell 0
  have l1 := s2.cell 1
  have l2 := s2.cell 2
  have l5 := s2.cell 5
  have l6 := s2.cell 6
  have l7 := s2.cell 7
  simp at l0 l1 l2 l5 l6 l7
  go_simp
  simp at t9
  obtain ⟨V7, hV⟩ : ∃ W, V6.setCell ⟨H + 1 + 1, 9, none⟩ (.int .i64 c9) = W := ⟨_, rfl⟩
  rw [hV] at m2 r2 t9 ⊢
  replace s2 : CellsAt V7 (H + 1 + 1) #[.int .i64 k, .int .i64 I, .int .i64 N, .int .i64 R, .int .i64 F, .int .i64 I, .int .i64 c6, .int .i64 c7, .int .i64 c8, .int .i64 c9] 137 := t9
  clear hV l3 l4 l8 l9 l0 l1 l2 l5 l6 l7 f9 t9 V6
  unfold plan0 at r2
  have l0 := s2.cell 0
  have l1 := s2.cell 1
  have l2 := s2.cell 2
  have l3 := s2.cell 3
  have l4 := s2.cell 4
  have l5 := s2.cell 5
  have l6 := s2.cell 6
  have l7 := s2.cell 7
  have l8 := s2.cell 8
  have l9 := s2.cell 9
  have u0 := r2.cell 0
  have u1 := r2.cell 1
  have u2 := r2.cell 2
  have u3 := r2.cell 3
  have u4 := r2.cell 4
  have u5 := r2.cell 5
  have u6 := r2.cell 6
  have u7 := r2.cell 7
  have u8 := r2.cell 8
  have u9 := r2.cell 9
  have f0 := r2.free 0
  have f1 := r2.free 1
  have f2 := r2.free 2
  have f3 := r2.free 3
  have f4 := r2.free 4
  have f5 := r2.free 5
  have f6 := r2.free 6
  have f7 := r2.free 7
  have f8 := r2.free 8
  have f9 := r2.free 9
  simp at l0 l1 l2 l3 l4 l5 l6 l7 l8 l9 u0 u1 u2 u3 u4 u5 u6 u7 u8 u9
  go_wp2_with fail
  clear l0 u0 f0 l1 u1 f1 l2 u2 f2 l3 u3 f3 l4 u4 f4 l5 u5 f5 l6 u6 f6 l7 u7 f7 l8 u8 f8 l9 u9 f9 s2
  have z0 := r2.set 0 (.int .i64 k)
  have z1 := z0.set 1 (.int .i64 I)
  have z2 := z1.set 2 (.int .i64 N)
  have z3 := z2.set 3 (.int .i64 R)
  have z4 := z3.set 4 (.int .i64 F)
  have z5 := z4.set 5 (.int .i64 I)
  have z6 := z5.set 6 (.int .i64 c6)
  have z7 := z6.set 7 (.int .i64 c7)
  have z8 := z7.set 8 (.int .i64 c8)
  have z9 := z8.set 9 (.int .i64 c9)
  have mF := ((((((((((m2.setCell (p := ⟨H + 1, 0, none⟩) (.inr hHb) (.int .i64 k)).setCell (p := ⟨H + 1, 1, none⟩) (.inr hHb) (.int .i64 I)).setCell (p := ⟨H + 1, 2, none⟩) (.inr hHb) (.int .i64 N)).setCell (p := ⟨H + 1, 3, none⟩) (.inr hHb) (.int .i64 R)).setCell (p := ⟨H + 1, 4, none⟩) (.inr hHb) (.int .i64 F)).setCell (p := ⟨H + 1, 5, none⟩) (.inr hHb) (.int .i64 I)).setCell (p := ⟨H + 1, 6, none⟩) (.inr hHb) (.int .i64 c6)).setCell (p := ⟨H + 1, 7, none⟩) (.inr hHb) (.int .i64 c7)).setCell (p := ⟨H + 1, 8, none⟩) (.inr hHb) (.int .i64 c8)).setCell (p := ⟨H + 1, 9, none⟩) (.inr hHb) (.int .i64 c9))
  simp at z9
  clear r2 m2 z0 z1 z2 z3 z4 z5 z6 z7 z8
  obtain ⟨V9, hV⟩ : ∃ W, ((((((((((V7.setCell ⟨H + 1, 0, none⟩ (.int .i64 k)).setCell ⟨H + 1, 1, none⟩ (.int .i64 I)).setCell ⟨H + 1, 2, none⟩ (.int .i64 N)).setCell ⟨H + 1, 3, none⟩ (.int .i64 R)).setCell ⟨H + 1, 4, none⟩ (.int .i64 F)).setCell ⟨H + 1, 5, none⟩ (.int .i64 I)).setCell ⟨H + 1, 6, none⟩ (.int .i64 c6)).setCell ⟨H + 1, 7, none⟩ (.int .i64 c7)).setCell ⟨H + 1, 8, none⟩ (.int .i64 c8)).setCell ⟨H + 1, 9, none⟩ (.int .i64 c9)) = W := ⟨_, rfl⟩
  rw [hV] at mF z9 ⊢
  clear hV V7
  have l0 := z9.cell 0
  have l1 := z9.cell 1
  have l2 := z9.cell 2
  have l3 := z9.cell 3
  have l4 := z9.cell 4
  have l5 := z9.cell 5
  have l6 := z9.cell 6
  have l7 := z9.cell 7
  have l8 := z9.cell 8
  have l9 := z9.cell 9
  simp at l0 l1 l2 l3 l4 l5 l6 l7 l8 l9
  refine bodyPost_ret (v := .agg (planC k I N R F I c6 c7 c8 c9)) ?_ rfl ⟨rfl, mF⟩
  simp [results, Tryz.f54, go_sem, l0, l1, l2, l3, l4, l5, l6, l7, l8, l9]
  rfl

def Plan.cells (x : Plan) : Array Value := #[.int .i64 x.k, .int .i64 x.input, .int .i64 x.all, .int .i64 x.rounds, .int .i64 x.half, .int .i64 x.pads, .int .i64 x.sorts, .int .i64 x.folds, .int .i64 x.lasts, .int .i64 x.count]
theorem plan_nums {x : Plan} (h : x.ok) : (x.all : Int) / 2 = x.half ∧ wrap64 (wrap64 ((x.input : Int) + x.all) - wrap64 ((x.k : Int) * x.input)) = x.sorts ∧ wrap64 ((x.sorts : Int) + wrap64 ((x.rounds : Int) * x.half)) = x.folds ∧
    wrap64 ((x.folds : Int) + x.all) = x.lasts ∧ wrap64 ((x.lasts : Int) + wrap64 ((x.rounds : Int) * x.half)) = x.count ∧ x.count ≤ 1000 := by
  obtain ⟨a2, a32, ah, ar, _⟩ := h.all32
  have hfit := h.fit
  have i31 := h.i64
  have hRF : x.rounds * x.half ≤ 15 * 16 := Nat.mul_le_mul ar (by omega)
  have n2 : x.sorts = x.input + x.all - x.k * x.input := rfl
  have n3 : x.folds = x.sorts + x.rounds * x.half := rfl
  have n4 : x.lasts = x.folds + x.all := rfl
  have n5 : x.count = x.lasts + x.rounds * x.half := rfl
  have e1 : ((x.k : Int) * x.input) = ((x.k * x.input : Nat) : Int) := by push_cast; rfl
  have e2 : ((x.rounds : Int) * x.half) = ((x.rounds * x.half : Nat) : Int) := by push_cast; rfl
  rw [e1, e2]
  generalize x.rounds * x.half = Q at *
  generalize x.k * x.input = P at *
  generalize x.all = N at *
  generalize x.input = I at *
  generalize x.half = F at *
  generalize x.sorts = c6 at *
  generalize x.folds = c7 at *
  generalize x.lasts = c8 at *
  generalize x.count = c9 at *
  subst n2 n3 n4 n5
  refine ⟨by omega, ?_, ?_, ?_, ?_, by omega⟩
  · rw [w64 (x := (I : Int) + N) (by omega) (by omega), w64 (x := (P : Int)) (by omega) (by omega), w64 (by omega) (by omega)]; omega
  · rw [w64 (x := (Q : Int)) (by omega) (by omega), w64 (by omega) (by omega)]; omega
  · rw [w64 (by omega) (by omega)]; omega
  · rw [w64 (x := (Q : Int)) (by omega) (by omega), w64 (by omega) (by omega)]; omega

theorem of_q (r k b wk : Nat) (hf : fitQ r k b wk) (w : World) : Calls Tryz.prog 54 #[.agg #[.int .i64 r, .int .i64 k, .int .i64 b, .int .i64 wk]] w fun e w' => e = .returned (.agg (planP r k b).cells) ∧ Mod w w' Nob := by
  have hbl := blocks_q r k b wk hf
  have hok := planP_ok hf
  obtain ⟨h1, h2, h3, h4, h5, _⟩ := plan_nums hok
  have a32 := hok.all32
  exact of_walk r k b wk _ _ (planP r k b).rounds (planP r k b).half _ _ _ _ hbl (rounds_any (planP r k b).e (planP r k b).all (by have := hok.e5; omega) rfl) (by omega) (by omega) h1 h2 h3 h4 h5 w

set_option maxRecDepth 100000 in
set_option maxHeartbeats 400000 in
theorem count_q (r k b wk : Nat) (hf : fitQ r k b wk) (w : World) : Calls Tryz.prog 25 #[.agg #[.int .i64 r, .int .i64 k, .int .i64 b, .int .i64 wk]] w fun e w' => e = .returned (.int .i64 (planP r k b).count) ∧ Mod w w' Nob := by
  have ho := of_q r k b wk hf
  obtain ⟨x, hx⟩ : ∃ x, planP r k b = x := ⟨_, rfl⟩
  rw [hx] at ho ⊢
  unfold Plan.cells at ho
  clear hx hf
  have HO := Lib.hid ho
  clear ho
  have mB := (Mod.refl w Nob).alloc (.cells #[.int .i64 r, .int .i64 k, .int .i64 b, .int .i64 wk] 24)
  go_enter Tryz.func25, Tryz.ntmps25
  go_wp2_with fail
  refine (HO.out _).mono ?_
  rintro e w1 ⟨rfl, m1⟩
  replace m1 := mB.trans m1
  have hfd : ∀ V, (Instr.field 137 (.agg #[.int .i64 x.k, .int .i64 x.input, .int .i64 x.all, .int .i64 x.rounds, .int .i64 x.half, .int .i64 x.pads, .int .i64 x.sorts, .int .i64 x.folds, .int .i64 x.lasts, .int .i64 x.count]) 9).run Tryz.prog V = .ok (.int .i64 x.count) V := fun V => by kernel_rfl
  go_wp2_with fail
  go_ret
  exact ⟨rfl, m1⟩
end Go.Proofs.YtakgnkjopbflbaaGreatDoor

namespace Go.Proofs.YtakgnkjopbflbaaGreatDoor
open Go.RowKit
set_option linter.unusedSimpArgs false

/-- It answers a bool; a spot; a task. -/
def AnsB (e : Ending) : Prop := ∃ b, e = .returned (.bool b)
def spotA (x y z : Int) : Value := .agg #[.int .i64 x, .int .i64 y, .int .i64 z]
def AnsS (e : Ending) : Prop := ∃ x y z : Int, e = .returned (spotA x y z)
def taskA (k r a b : Int) (u : Bool) : Value := .agg #[.int .i64 k, .int .i64 r, .int .i64 a, .int .i64 b, .bool u]
def AnsT (e : Ending) : Prop := ∃ k r a b u, e = .returned (taskA k r a b u)
def AnsI (e : Ending) : Prop := ∃ x : Int, e = .returned (.int .i64 x)
theorem far_in : ∀ k < 6, ∀ r < tri k, 1 ≤ farN k r ∧ farN k r ≤ 16 := by decide +kernel

set_option maxRecDepth 100000 in
set_option maxHeartbeats 1000000 in
theorem up_w (k n r : Nat) (a : Int) (hk : k < 6) (hkn : 2 ^ k = n) (hr : r < 1000) (w : World) : Calls Tryz.prog 122 #[.int .i64 n, .int .i64 r, .int .i64 a] w fun e w' => AnsB e ∧ w' = w := by
  have hc := step_any k n r hk hkn hr w
  have hle := stp_le k r
  have hz := stp_zero k r
  obtain ⟨⟨s, t⟩, hst⟩ : ∃ p, stp k r = p := ⟨_, rfl⟩
  rw [hst] at hc hle hz
  dsimp only at hc hle hz
  clear hst hkn
  by_cases h0 : s = 0
  · subst h0
    obtain rfl : t = 0 := hz.1 rfl
    rw [show decide (0 < 0) = false from rfl] at hc
    clear hle hz
    go_enter Tryz.func122, Tryz.ntmps122
    go_wp2_with fail
    refine hc.mono ?_
    rintro e w' ⟨rfl, rfl⟩
    go_wp2_with fail
    go_ret
    exact ⟨⟨_, rfl⟩, rfl⟩
  · have h1 : decide (0 < s) = true := by simp; omega
    have ht : 1 ≤ t := by have := mt hz.2 h0; omega
    rw [h1] at hc
    clear hz h1
    go_enter Tryz.func122, Tryz.ntmps122
    go_wp2_with fail
    refine hc.mono ?_
    rintro e w' ⟨rfl, rfl⟩
    clear hc
    go_wp2_with fail
    all_goals (go_ret; exact ⟨⟨_, rfl⟩, rfl⟩)

set_option maxRecDepth 100000 in
set_option maxHeartbeats 1000000 in
theorem behind_w (ph ah rd a : Int) (w : World) : Calls Tryz.prog 57 #[.int .i64 ph, .int .i64 ah, .int .i64 rd, .int .i64 a] w fun e w' => AnsS e ∧ Mod w w' Nob := by
  go_enter Tryz.func57, Tryz.ntmps57
  go_wp2_with fail
  · refine bodyPost_ret (v := spotA ah 0 a) ?_ rfl ⟨⟨_, _, _, rfl⟩, (Mod.refl w Nob).alloc _⟩
    simp [results, Tryz.f57, go_sem, spotA]
  · refine bodyPost_ret (v := spotA ph rd a) ?_ rfl ⟨⟨_, _, _, rfl⟩, (Mod.refl w Nob).alloc _⟩
    simp [results, Tryz.f57, go_sem, spotA]

/-- An element. -/
theorem plan_field (x : Plan) (V : World) : (Instr.field 137 (.agg x.cells) 3).run Tryz.prog V = .ok (.int .i64 x.rounds) V := by kernel_rfl

set_option maxRecDepth 100000 in
set_option maxHeartbeats 2000000 in
theorem pair_w (x : Plan) (hok : x.ok) (kind : Int) (i : Nat) (hi : i < x.rounds * x.half) (w : World) : Calls Tryz.prog 94 #[.agg x.cells, .int .i64 kind, .int .i64 i] w fun e w' => AnsT e ∧ Mod w w' Nob := by
  obtain ⟨a2, a32, ah, ar, _⟩ := hok.all32
  have hh : 1 ≤ x.half := by omega
  have hr : i / x.half < x.rounds := Nat.div_lt_of_lt_mul (by rw [Nat.mul_comm]; exact hi)
  have hr' : i / x.half < tri x.e := hr
  obtain ⟨f1, f16⟩ := far_in x.e (by have := hok.e5; omega) _ hr'
  have hfar := far_any x.e x.all (i / x.half) (by have := hok.e5; omega) rfl (by omega)
  have hup := up_w x.e x.all (i / x.half)
  have hup2 := fun a => hup a (by have := hok.e5; omega) rfl (by omega)
  have hr3 : i / x.half < 1000 := by omega
  have hi2 : i < 1000 := Nat.lt_of_lt_of_le hi (Nat.le_trans (Nat.mul_le_mul ar (show x.half ≤ 16 by omega)) (by decide))
  have hdiv : ((i : Int) / (x.half : Int)) = ((i / x.half : Nat) : Int) := rfl
  unfold Plan.cells
  generalize x.half = F at *
  generalize x.rounds = R at *
  generalize x.all = N at *
  generalize i / F = r at *
  generalize farN x.e r = f at *
  have HF := Lib.hid hfar
  have HU := Lib.hid hup2
  have hF0 : (F : Int) ≠ 0 := by omega
  have hf0 : (f : Int) ≠ 0 := by omega
  have hrw : wrap64 (r : Int) = r := w64 (by omega) (by omega)
  have HRW := Lib.hid hrw
  clear hrw hr3 hfar hup hup2 hi hr hr' a2 a32 ah ar hok f16
  go_enter Tryz.func94, Tryz.ntmps94
  go_wp2_with fail
  have cX := (CellsAt.new w #[.int .i64 x.k, .int .i64 x.input, .int .i64 N, .int .i64 R, .int .i64 F, .int .i64 x.pads, .int .i64 x.sorts, .int .i64 x.folds, .int .i64 x.lasts, .int .i64 x.count] 137).alloc (.cells #[.int .i64 0, .int .i64 0, .int .i64 0, .int .i64 0, .bool false] 141)
  have cT := new_at (w := w.alloc (.cells #[.int .i64 x.k, .int .i64 x.input, .int .i64 N, .int .i64 R, .int .i64 F, .int .i64 x.pads, .int .i64 x.sorts, .int .i64 x.folds, .int .i64 x.lasts, .int .i64 x.count] 137)) (cs := #[.int .i64 0, .int .i64 0, .int .i64 0, .int .i64 0, .bool false]) (t := 141) (g := w.heap.size + 1) (by simp)
  have mB := ((Mod.refl w Nob).alloc (.cells #[.int .i64 x.k, .int .i64 x.input, .int .i64 N, .int .i64 R, .int .i64 F, .int .i64 x.pads, .int .i64 x.sorts, .int .i64 x.folds, .int .i64 x.lasts, .int .i64 x.count] 137)).alloc (.cells #[.int .i64 0, .int .i64 0, .int .i64 0, .int .i64 0, .bool false] 141)
  obtain ⟨W, hW⟩ : ∃ W, (w.alloc (.cells #[.int .i64 x.k, .int .i64 x.input, .int .i64 N, .int .i64 R, .int .i64 F, .int .i64 x.pads, .int .i64 x.sorts, .int .i64 x.folds, .int .i64 x.lasts, .int .i64 x.count] 137)).alloc (.cells #[.int .i64 0, .int .i64 0, .int .i64 0, .int .i64 0, .bool false] 141) = W := ⟨_, rfl⟩
  rw [hW] at cX cT mB ⊢
  rw [HRW.out]
  obtain ⟨H, hH⟩ : ∃ H, w.heap.size = H := ⟨_, rfl⟩
  rw [hH] at cX cT ⊢
  have HH := Lib.hid hH
  clear hW hH
  have mD := (Mod.refl W Nob).drew
  replace cX := cX.mod mD nob
  replace cT := cT.mod mD nob
  replace mB := mB.trans mD
  have q2 := cX.cell 2
  have q4 := cX.cell 4
  simp at q2 q4
  have hc := HF.out W.drew
  have hFn : F ≠ 0 := by omega
  have hfn : f ≠ 0 := by omega
  refine wp_region_still_lit (by kernel_rfl) (by kernel_rfl) ?_
  repeat still_step
  still_call hc
  repeat still_step
  refine wpStill_nil ?_
  change Exit.then _ _ _ _ W.drew
  obtain ⟨V, hV⟩ : ∃ V, W.drew = V := ⟨_, rfl⟩
  rw [hV] at cX cT mB ⊢
  obtain ⟨t, ht⟩ : ∃ t, (i : Int).tmod F = t := ⟨_, rfl⟩
  rw [ht]
  clear hV mD hc q2 q4 W ht
  go_wp2_with fail
  have mD := (Mod.refl V Nob).drew
  replace cX := cX.mod mD nob
  replace cT := cT.mod mD nob
  replace mB := mB.trans mD
  refine wp_region_still_lit (by kernel_rfl) (by kernel_rfl) ?_
  repeat still_step
  refine wpStill_nil ?_
  change Exit.then _ _ _ _ V.drew
  obtain ⟨V1, hV⟩ : ∃ W, V.drew = W := ⟨_, rfl⟩
  rw [hV] at cX cT mB ⊢
  generalize IntKind.i64.wrap (IntKind.i64.wrap (IntKind.i64.wrap (IntKind.i64.wrap (t.tdiv f) * f) * 2) + t.tmod f) = av
  clear hV mD V hF0 hf0 hFn hfn hdiv
  have q2 := cX.cell 2
  simp at q2
  go_wp2_with fail
  refine (HU.out _ V1).mono ?_
  rintro e w' ⟨⟨bb, rfl⟩, rfl⟩
  have u0 := cT.cell 0
  have u1 := cT.cell 1
  have u2 := cT.cell 2
  have u3 := cT.cell 3
  have u4 := cT.cell 4
  have f0 := cT.free 0
  have f1 := cT.free 1
  have f2 := cT.free 2
  have f3 := cT.free 3
  have f4 := cT.free 4
  simp at u0 u1 u2 u3 u4
  have hb : w.heap.size ≤ H + 1 := by have := HH.out; omega
  go_wp2_with fail
  have z := ((((cT.set 0 (.int .i64 kind)).set 1 (.int .i64 (wrap64 ((r : Int) + 1)))).set 2 (.int .i64 av)).set 3 (.int .i64 (wrap64 (av + f)))).set 4 (.bool bb)
  have mF := ((((mB.setCell (p := ⟨H + 1, 0, none⟩) (.inr hb) (.int .i64 kind)).setCell (p := ⟨H + 1, 1, none⟩) (.inr hb) (.int .i64 (wrap64 ((r : Int) + 1)))).setCell (p := ⟨H + 1, 2, none⟩) (.inr hb) (.int .i64 av)).setCell (p := ⟨H + 1, 3, none⟩) (.inr hb) (.int .i64 (wrap64 (av + f)))).setCell (p := ⟨H + 1, 4, none⟩) (.inr hb) (.bool bb)
  simp at z
  refine bodyPost_ret (v := taskA kind (wrap64 ((r : Int) + 1)) av (wrap64 (av + f)) bb) ?_ rfl ⟨⟨_, _, _, _, _, rfl⟩, mF⟩
  exact results_cell_row rfl _ _ (H + 1) 141 _ (0, 0) _ rfl z Tryz.underlying141 rfl (by kernel_rfl)
end Go.Proofs.YtakgnkjopbflbaaGreatDoor

namespace Go.Proofs.YtakgnkjopbflbaaGreatDoor
open Go.RowKit
set_option linter.unusedSimpArgs false

theorem task_fin {w W : World} {g : Nat} (hg : w.heap.size ≤ g) (cT : CellsAt W g #[.int .i64 0, .int .i64 0, .int .i64 0, .int .i64 0, .bool false] 141) (mB : Mod w W Nob) (kd rd a b : Int) (u : Bool) (tm : Array Value)
    (h4 : tm.getD 4 undef = .pointer (some ⟨g, 0, none⟩)) (h5 : tm.getD 5 undef = .bool true) :
    bodyPost Tryz.prog Tryz.f56 (fun e w' => (∃ kd rd a b u, e = .returned (.tuple #[taskA kd rd a b u, .bool true])) ∧ Mod w w' Nob) Exit.ret { tmps := tm, defers := [] }
      (((((W.setCell ⟨g, 0, none⟩ (.int .i64 kd)).setCell ⟨g, 1, none⟩ (.int .i64 rd)).setCell ⟨g, 2, none⟩ (.int .i64 a)).setCell ⟨g, 3, none⟩ (.int .i64 b)).setCell ⟨g, 4, none⟩ (.bool u)) := by
  have z := ((((cT.set 0 (.int .i64 kd)).set 1 (.int .i64 rd)).set 2 (.int .i64 a)).set 3 (.int .i64 b)).set 4 (.bool u)
  have mF := ((((mB.setCell (p := ⟨g, 0, none⟩) (.inr hg) (.int .i64 kd)).setCell (p := ⟨g, 1, none⟩) (.inr hg) (.int .i64 rd)).setCell (p := ⟨g, 2, none⟩) (.inr hg) (.int .i64 a)).setCell (p := ⟨g, 3, none⟩) (.inr hg) (.int .i64 b)).setCell (p := ⟨g, 4, none⟩) (.inr hg) (.bool u)
  obtain ⟨V, hV⟩ : ∃ V, ((((W.setCell ⟨g, 0, none⟩ (.int .i64 kd)).setCell ⟨g, 1, none⟩ (.int .i64 rd)).setCell ⟨g, 2, none⟩ (.int .i64 a)).setCell ⟨g, 3, none⟩ (.int .i64 b)).setCell ⟨g, 4, none⟩ (.bool u) = V := ⟨_, rfl⟩
  rw [hV] at z mF ⊢
  have l0 := z.cell 0
  have l1 := z.cell 1
  have l2 := z.cell 2
  have l3 := z.cell 3
  have l4 := z.cell 4
  simp at l0 l1 l2 l3 l4
  refine bodyPost_ret (v := .tuple #[taskA kd rd a b u, .bool true]) ?_ rfl ⟨⟨_, _, _, _, _, rfl⟩, mF⟩
  simp only [Array.getD_eq_getD_getElem?] at h4 h5
  simp [results, Tryz.f56, go_sem, h4, h5, l0, l1, l2, l3, l4, taskA]

set_option maxRecDepth 100000 in
set_option maxHeartbeats 2000000 in
theorem task_w (r k b wk : Nat) (hf : fitQ r k b wk) (n : Nat) (hn : n < (planP r k b).count) (w : World) : Calls Tryz.prog 56 #[.agg #[.int .i64 r, .int .i64 k, .int .i64 b, .int .i64 wk], .int .i64 n] w fun e w' => (∃ kd rd a b u, e = .returned (.tuple #[taskA kd rd a b u, .bool true])) ∧ Mod w w' Nob := by
  have ho := of_q r k b wk hf
  have hok := planP_ok hf
  obtain ⟨x, hx⟩ : ∃ x, planP r k b = x := ⟨_, rfl⟩
  rw [hx] at ho hok hn
  clear hx hf
  have hp := pair_w x hok
  have hc := (plan_nums hok).2.2.2.2.2
  have n3 : x.folds = x.sorts + x.rounds * x.half := rfl
  have n5 : x.count = x.lasts + x.rounds * x.half := rfl
  have n4 : x.lasts = x.folds + x.all := rfl
  unfold Plan.cells at ho hp
  generalize x.rounds * x.half = Q at hp n3 n5
  generalize x.pads = P at *
  generalize x.sorts = S at *
  generalize x.folds = F at *
  generalize x.lasts = L at *
  generalize x.count = C at *
  have HP := Lib.hid hp
  have HO := Lib.hid ho
  have N3 := Lib.hid n3
  have N4 := Lib.hid n4
  have N5 := Lib.hid n5
  have hn2 : (n : Int) < C := by omega
  have HC := Lib.hid hc
  clear hp ho n3 n4 n5 hn hok hc
  have mB := ((Mod.refl w Nob).alloc (.cells #[.int .i64 r, .int .i64 k, .int .i64 b, .int .i64 wk] 24)).alloc (.cells #[.int .i64 0, .int .i64 0, .int .i64 0, .int .i64 0, .bool false] 141)
  have cT := new_at (w := w.alloc (.cells #[.int .i64 r, .int .i64 k, .int .i64 b, .int .i64 wk] 24)) (cs := #[.int .i64 0, .int .i64 0, .int .i64 0, .int .i64 0, .bool false]) (t := 141) (g := w.heap.size + 1) (by simp)
  go_enter Tryz.func56, Tryz.ntmps56
  go_wp2_with fail
  change Calls _ _ _ ((w.alloc (.cells #[.int .i64 r, .int .i64 k, .int .i64 b, .int .i64 wk] 24)).alloc (.cells #[.int .i64 0, .int .i64 0, .int .i64 0, .int .i64 0, .bool false] 141)) _
  obtain ⟨W, hW⟩ : ∃ W, (w.alloc (.cells #[.int .i64 r, .int .i64 k, .int .i64 b, .int .i64 wk] 24)).alloc (.cells #[.int .i64 0, .int .i64 0, .int .i64 0, .int .i64 0, .bool false] 141) = W := ⟨_, rfl⟩
  rw [hW] at cT mB ⊢
  obtain ⟨H, hH⟩ : ∃ H, w.heap.size = H := ⟨_, rfl⟩
  rw [hH] at cT ⊢
  have hb : w.heap.size ≤ H + 1 := by omega
  clear hW hH
  refine (HO.out W).mono ?_
  rintro e W1 ⟨rfl, m1⟩
  have cX := CellsAt.new W1 #[.int .i64 x.k, .int .i64 x.input, .int .i64 x.all, .int .i64 x.rounds, .int .i64 x.half, .int .i64 P, .int .i64 S, .int .i64 F, .int .i64 L, .int .i64 C] 137
  have m2 := (Mod.refl W1 Nob).alloc (.cells #[.int .i64 x.k, .int .i64 x.input, .int .i64 x.all, .int .i64 x.rounds, .int .i64 x.half, .int .i64 P, .int .i64 S, .int .i64 F, .int .i64 L, .int .i64 C] 137)
  replace cT := (cT.mod m1 nob).mod m2 nob
  replace mB := (mB.trans m1).trans m2


  have u0 := cT.cell 0
  have u1 := cT.cell 1
  have u2 := cT.cell 2
  have u3 := cT.cell 3
  have u4 := cT.cell 4
  have f0 := cT.free 0
  have f1 := cT.free 1
  have f2 := cT.free 2
  have f3 := cT.free 3
  have f4 := cT.free 4
  simp at u0 u1 u2 u3 u4
  go_wp2_with fail
  · exact task_fin hb cT mB _ _ _ _ _ _ rfl rfl
  · exact task_fin hb cT mB _ _ _ _ _ _ rfl rfl
  · have e : wrap64 ((n : Int) - S) = ((n - S : Nat) : Int) := by
      have := HC.out
      rw [w64 (by omega) (by omega)]
      omega
    rw [e]
    refine (HP.out 3 (n - S) (by have := N3.out; have := N4.out; have := N5.out; omega) _).mono ?_
    rintro e w3 ⟨⟨kd, rd, a, b, u, rfl⟩, m3⟩
    unfold taskA
    clear u0 u1 u2 u3 u4 f0 f1 f2 f3 f4
    replace cT := cT.mod m3 nob
    replace mB := mB.trans m3
    have u0 := cT.cell 0
    have u1 := cT.cell 1
    have u2 := cT.cell 2
    have u3 := cT.cell 3
    have u4 := cT.cell 4
    have f0 := cT.free 0
    have f1 := cT.free 1
    have f2 := cT.free 2
    have f3 := cT.free 3
    have f4 := cT.free 4
    simp at u0 u1 u2 u3 u4
    go_wp2_with fail
    exact task_fin hb cT mB _ _ _ _ _ _ rfl rfl
  · exact task_fin hb cT mB _ _ _ _ _ _ rfl rfl
  · have e : wrap64 ((n : Int) - L) = ((n - L : Nat) : Int) := by
      have := HC.out
      rw [w64 (by omega) (by omega)]
      omega
    rw [e]
    refine (HP.out 5 (n - L) (by have := N3.out; have := N4.out; have := N5.out; omega) _).mono ?_
    rintro e w3 ⟨⟨kd, rd, a, b, u, rfl⟩, m3⟩
    unfold taskA
    clear u0 u1 u2 u3 u4 f0 f1 f2 f3 f4
    replace cT := cT.mod m3 nob
    replace mB := mB.trans m3
    have u0 := cT.cell 0
    have u1 := cT.cell 1
    have u2 := cT.cell 2
    have u3 := cT.cell 3
    have u4 := cT.cell 4
    have f0 := cT.free 0
    have f1 := cT.free 1
    have f2 := cT.free 2
    have f3 := cT.free 3
    have f4 := cT.free 4
    simp at u0 u1 u2 u3 u4
    go_wp2_with fail
    exact task_fin hb cT mB _ _ _ _ _ _ rfl rfl
end Go.Proofs.YtakgnkjopbflbaaGreatDoor

namespace Go.Proofs.YtakgnkjopbflbaaGreatDoor
open Go.RowKit
set_option linter.unusedSimpArgs false

set_option maxRecDepth 100000 in
set_option maxHeartbeats 2000000 in
theorem paired_w (x : Plan) (hok : x.ok) (rd a : Int) (h1 : 1 ≤ rd) (hr : rd ≤ x.rounds) (w : World) : Calls Tryz.prog 58 #[.agg x.cells, .int .i64 rd, .int .i64 a] w fun e w' => AnsI e ∧ Mod w w' Nob := by
  obtain ⟨a2, a32, ah, ar, _⟩ := hok.all32
  obtain ⟨r, hrd⟩ : ∃ r : Nat, rd = (r : Int) + 1 := ⟨(rd - 1).toNat, by omega⟩
  subst hrd
  have hr' : r < tri x.e := by have : x.rounds = tri x.e := rfl; omega
  obtain ⟨f1, f16⟩ := far_in x.e (by have := hok.e5; omega) r hr'
  have hfar := far_any x.e x.all r (by have := hok.e5; omega) rfl (by omega)
  unfold Plan.cells
  have hr3 : r < 1000 := by omega
  generalize farN x.e r = f at *
  have HF := Lib.hid hfar
  have hrw : wrap64 ((r : Int) + 1 - 1) = r := by rw [w64 (by omega) (by omega)]; omega
  have hrw2 : (r : Int) + 1 - 1 = r := by omega
  have HRW := Lib.hid hrw
  have hfn : f ≠ 0 := by omega
  have h2f : IntKind.i64.wrap (2 * (f : Int)) = 2 * (f : Int) := IntWalk.i64_in _ (by omega)
  have hne : ¬ IntKind.i64.wrap (2 * (f : Int)) = 0 := by rw [h2f]; omega
  have HNE := Lib.hid hne
  generalize x.half = F at *
  clear hfar hr hr' a2 a32 ah ar hok hrw h2f hne
  have mB := (Mod.refl w Nob).alloc (.cells #[.int .i64 x.k, .int .i64 x.input, .int .i64 x.all, .int .i64 x.rounds, .int .i64 F, .int .i64 x.pads, .int .i64 x.sorts, .int .i64 x.folds, .int .i64 x.lasts, .int .i64 x.count] 137)
  have cX := CellsAt.new w #[.int .i64 x.k, .int .i64 x.input, .int .i64 x.all, .int .i64 x.rounds, .int .i64 F, .int .i64 x.pads, .int .i64 x.sorts, .int .i64 x.folds, .int .i64 x.lasts, .int .i64 x.count] 137
  go_enter Tryz.func58, Tryz.ntmps58
  go_wp2_with fail
  obtain ⟨W, hW⟩ : ∃ W, w.alloc (.cells #[.int .i64 x.k, .int .i64 x.input, .int .i64 x.all, .int .i64 x.rounds, .int .i64 F, .int .i64 x.pads, .int .i64 x.sorts, .int .i64 x.folds, .int .i64 x.lasts, .int .i64 x.count] 137) = W := ⟨_, rfl⟩
  rw [hW] at cX mB ⊢
  clear hW
  refine (HF.out W).mono ?_
  rintro e W1 ⟨rfl, rfl⟩
  go_wp2_with fail
  have mD := (Mod.refl W1 Nob).drew
  replace cX := cX.mod mD nob
  replace mB := mB.trans mD
  have q4 := cX.cell 4
  simp at q4
  refine wp_region_still_lit (by kernel_rfl) (by kernel_rfl) ?_
  have hne := HNE.out
  repeat still_step
  refine wpStill_nil ?_
  change Exit.then _ _ _ _ W1.drew
  generalize IntKind.i64.wrap (IntKind.i64.wrap (IntKind.i64.wrap (IntKind.i64.wrap r * F) + IntKind.i64.wrap (IntKind.i64.wrap (a.tdiv (IntKind.i64.wrap (2 * f))) * f)) + a.tmod f) = res
  clear hne
  go_wp2_with fail
  go_ret
  exact ⟨⟨_, rfl⟩, mB⟩

set_option maxRecDepth 100000 in
set_option maxHeartbeats 4000000 in
theorem makes_w (r k b wk : Nat) (hf : fitQ r k b wk) (ph rd ad : Int) (w : World) : Calls Tryz.prog 28 #[.agg #[.int .i64 r, .int .i64 k, .int .i64 b, .int .i64 wk], spotA ph rd ad] w fun e w' => AnsI e ∧ Mod w w' Nob := by
  have ho := of_q r k b wk hf
  have hok := planP_ok hf
  obtain ⟨x, hx⟩ : ∃ x, planP r k b = x := ⟨_, rfl⟩
  rw [hx] at ho hok
  clear hx hf
  have hp := paired_w x hok
  have hk1 := hok.k1
  unfold spotA
  unfold Plan.cells at ho hp
  have hkn : x.k ≠ 0 := by omega
  have HP := Lib.hid hp
  have HO := Lib.hid ho
  clear hp ho hok
  generalize x.k = K at *
  generalize x.rounds = R at *
  generalize x.all = N at *
  go_enter Tryz.func28, Tryz.ntmps28
  go_wp2_with fail
  have cS := new_at (w := w.alloc (.cells #[.int .i64 r, .int .i64 k, .int .i64 b, .int .i64 wk] 24)) (cs := #[.int .i64 ph, .int .i64 rd, .int .i64 ad]) (t := 88) (g := w.heap.size + 1) (by simp)
  have mB := ((Mod.refl w Nob).alloc (.cells #[.int .i64 r, .int .i64 k, .int .i64 b, .int .i64 wk] 24)).alloc (.cells #[.int .i64 ph, .int .i64 rd, .int .i64 ad] 88)
  obtain ⟨W, hW⟩ : ∃ W, (w.alloc (.cells #[.int .i64 r, .int .i64 k, .int .i64 b, .int .i64 wk] 24)).alloc (.cells #[.int .i64 ph, .int .i64 rd, .int .i64 ad] 88) = W := ⟨_, rfl⟩
  rw [hW] at cS mB ⊢
  obtain ⟨H, hH⟩ : ∃ H, w.heap.size = H := ⟨_, rfl⟩
  rw [hH] at cS ⊢
  clear hW hH
  refine (HO.out W).mono ?_
  rintro e W1 ⟨rfl, m1⟩
  have mX := (Mod.refl W1 Nob).alloc (.cells #[.int .i64 K, .int .i64 x.input, .int .i64 N, .int .i64 R, .int .i64 x.half, .int .i64 x.pads, .int .i64 x.sorts, .int .i64 x.folds, .int .i64 x.lasts, .int .i64 x.count] 137)
  have cX := CellsAt.new W1 #[.int .i64 K, .int .i64 x.input, .int .i64 N, .int .i64 R, .int .i64 x.half, .int .i64 x.pads, .int .i64 x.sorts, .int .i64 x.folds, .int .i64 x.lasts, .int .i64 x.count] 137
  replace cS := (cS.mod m1 nob).mod mX nob
  replace mB := (mB.trans m1).trans mX
  clear m1 mX
  have q0 := cS.cell 0
  have q1 := cS.cell 1
  have q2 := cS.cell 2
  simp at q0 q1 q2
  go_wp2_with fail
  all_goals try (go_ret; exact ⟨⟨_, rfl⟩, mB⟩)
  · have hrd : rd ≤ R := by assumption
    have h1d : 1 ≤ rd := by assumption
    have mD := (Mod.refl (W1.alloc (.cells #[.int .i64 K, .int .i64 x.input, .int .i64 N, .int .i64 R, .int .i64 x.half, .int .i64 x.pads, .int .i64 x.sorts, .int .i64 x.folds, .int .i64 x.lasts, .int .i64 x.count] 137)) Nob).drew
    replace cS := cS.mod mD nob
    replace cX := cX.mod mD nob
    replace mB := mB.trans mD
    clear mD q0 q1 q2
    refine wp_no_panic ?_
    refine wp_region_U (S := fun V => CellsAt V W1.heap.size #[.int .i64 K, .int .i64 x.input, .int .i64 N, .int .i64 R, .int .i64 x.half, .int .i64 x.pads, .int .i64 x.sorts, .int .i64 x.folds, .int .i64 x.lasts, .int .i64 x.count] 137 ∧ CellsAt V (H + 1) #[.int .i64 ph, .int .i64 rd, .int .i64 ad] 88) 9 (by kernel_rfl) ?_
    change wpAnyU _ _ _ _ _ _ _ _ _ (W1.alloc (.cells #[.int .i64 K, .int .i64 x.input, .int .i64 N, .int .i64 R, .int .i64 x.half, .int .i64 x.pads, .int .i64 x.sorts, .int .i64 x.folds, .int .i64 x.lasts, .int .i64 x.count] 137)).drew
    obtain ⟨V, hV⟩ : ∃ V, (W1.alloc (.cells #[.int .i64 K, .int .i64 x.input, .int .i64 N, .int .i64 R, .int .i64 x.half, .int .i64 x.pads, .int .i64 x.sorts, .int .i64 x.folds, .int .i64 x.lasts, .int .i64 x.count] 137)).drew = V := ⟨_, rfl⟩
    rw [hV] at cS cX mB ⊢
    obtain ⟨B, hB⟩ : ∃ B, W1.heap.size = B := ⟨_, rfl⟩
    rw [hB] at cX ⊢
    clear hV hB
    have hS0 := And.intro cX cS
    refine wpAnyU_takeP (i := 0) (v := .pointer (some ⟨B, 6, none⟩)) rfl (by kernel_rfl) (by kernel_rfl) (by kernel_rfl) (by decide) (fun _ _ _ h => h) (Or.inl ⟨by rfl, fun W => by go_simp⟩) (fun _ => hS0) ?_
    try simp only [Act.put, List.getElem_toArray, List.getElem_cons_zero, List.getElem_cons_succ, List.setIfInBounds_toArray, List.set_cons_zero, List.set_cons_succ]
    refine wpAnyU_take (i := 1) (v := .int .i64 x.sorts) rfl (by kernel_rfl) (by kernel_rfl) (by kernel_rfl) (by kernel_rfl) (by kernel_rfl) (fun _ _ _ h => h) (Or.inl ⟨by rfl, fun W hS => by have y := hS.1.cell 6; simp at y; go_simp⟩) hS0 ?_
    try simp only [Act.put, List.getElem_toArray, List.getElem_cons_zero, List.getElem_cons_succ, List.setIfInBounds_toArray, List.set_cons_zero, List.set_cons_succ]
    refine wpAnyU_take (i := 2) (v := .agg #[.int .i64 K, .int .i64 x.input, .int .i64 N, .int .i64 R, .int .i64 x.half, .int .i64 x.pads, .int .i64 x.sorts, .int .i64 x.folds, .int .i64 x.lasts, .int .i64 x.count]) rfl (by kernel_rfl) (by kernel_rfl) (by kernel_rfl) (by kernel_rfl) (by kernel_rfl) (fun _ _ _ h => h) (Or.inl ⟨by rfl, fun W hS => by have y0 := hS.1.cell 0; have y1 := hS.1.cell 1; have y2 := hS.1.cell 2; have y3 := hS.1.cell 3; have y4 := hS.1.cell 4; have y5 := hS.1.cell 5; have y6 := hS.1.cell 6; have y7 := hS.1.cell 7; have y8 := hS.1.cell 8; have y9 := hS.1.cell 9; simp at y0 y1 y2 y3 y4 y5 y6 y7 y8 y9; go_simp⟩) hS0 ?_
    try simp only [Act.put, List.getElem_toArray, List.getElem_cons_zero, List.getElem_cons_succ, List.setIfInBounds_toArray, List.set_cons_zero, List.set_cons_succ]
    refine wpAnyU_takeP (i := 3) (v := .pointer (some ⟨H + 1, 1, none⟩)) rfl (by kernel_rfl) (by kernel_rfl) (by kernel_rfl) (by decide) (fun _ _ _ h => h) (Or.inl ⟨by rfl, fun W => by go_simp⟩) (fun _ => hS0) ?_
    try simp only [Act.put, List.getElem_toArray, List.getElem_cons_zero, List.getElem_cons_succ, List.setIfInBounds_toArray, List.set_cons_zero, List.set_cons_succ]
    refine wpAnyU_take (i := 4) (v := .int .i64 rd) rfl (by kernel_rfl) (by kernel_rfl) (by kernel_rfl) (by kernel_rfl) (by kernel_rfl) (fun _ _ _ h => h) (Or.inl ⟨by rfl, fun W hS => by have y := hS.2.cell 1; simp at y; go_simp⟩) hS0 ?_
    try simp only [Act.put, List.getElem_toArray, List.getElem_cons_zero, List.getElem_cons_succ, List.setIfInBounds_toArray, List.set_cons_zero, List.set_cons_succ]
    refine wpAnyU_takeP (i := 5) (v := .pointer (some ⟨H + 1, 2, none⟩)) rfl (by kernel_rfl) (by kernel_rfl) (by kernel_rfl) (by decide) (fun _ _ _ h => h) (Or.inl ⟨by rfl, fun W => by go_simp⟩) (fun _ => hS0) ?_
    try simp only [Act.put, List.getElem_toArray, List.getElem_cons_zero, List.getElem_cons_succ, List.setIfInBounds_toArray, List.set_cons_zero, List.set_cons_succ]
    refine wpAnyU_take (i := 6) (v := .int .i64 ad) rfl (by kernel_rfl) (by kernel_rfl) (by kernel_rfl) (by kernel_rfl) (by kernel_rfl) (fun _ _ _ h => h) (Or.inl ⟨by rfl, fun W hS => by have y := hS.2.cell 2; simp at y; go_simp⟩) hS0 ?_
    try simp only [Act.put, List.getElem_toArray, List.getElem_cons_zero, List.getElem_cons_succ, List.setIfInBounds_toArray, List.set_cons_zero, List.set_cons_succ]
    refine wpAnyU_one 7 _ (by kernel_rfl) rfl (fun K hK => ?_)
    go_simp
    refine (HP.out rd ad h1d hrd V).mono ?_
    rintro r V1 ⟨⟨res, rfl⟩, m1⟩
    replace mB := mB.trans m1
    replace cX := cX.mod m1 nob
    replace cS := cS.mod m1 nob
    have hS0 := And.intro cX cS
    go_wp2_with fail
    refine hK.out _ _ (fun _ => hS0) ?_
    clear hK K
    try simp only [Act.put, List.getElem_toArray, List.getElem_cons_zero, List.getElem_cons_succ, List.setIfInBounds_toArray, List.set_cons_zero, List.set_cons_succ]
    refine wpAnyU_takeP (i := 8) (v := .int .i64 (IntKind.i64.wrap (x.sorts + res))) rfl (by kernel_rfl) (by kernel_rfl) (by kernel_rfl) (by decide) (fun _ _ _ h => h) (Or.inl ⟨by rfl, fun W => by go_simp⟩) (fun _ => hS0) ?_
    try simp only [Act.put, List.getElem_toArray, List.getElem_cons_zero, List.getElem_cons_succ, List.setIfInBounds_toArray, List.set_cons_zero, List.set_cons_succ]
    refine wpAnyU_last (by kernel_rfl) (by simp) ?_
    refine wpAny_take (i := 9) (v := .int .i64 (IntKind.i64.wrap (x.sorts + res))) rfl (by kernel_rfl) (by kernel_rfl) (by kernel_rfl) (fun _ _ _ h => h) (Or.inl ⟨by rfl, fun W => by go_simp⟩) ?_
    try simp only [Act.put, List.getElem_toArray, List.getElem_cons_zero, List.getElem_cons_succ, List.setIfInBounds_toArray, List.set_cons_zero, List.set_cons_succ]
    refine wpAny_done (by kernel_rfl) ?_ _
    try simp only [Act.put, List.getElem_toArray, List.getElem_cons_zero, List.getElem_cons_succ]
    go_wp2_with fail
    go_ret
    exact ⟨⟨_, rfl⟩, mB⟩
  · have hrd : rd ≤ R := by assumption
    have h1d : 1 ≤ rd := by assumption
    have mD := (Mod.refl (W1.alloc (.cells #[.int .i64 K, .int .i64 x.input, .int .i64 N, .int .i64 R, .int .i64 x.half, .int .i64 x.pads, .int .i64 x.sorts, .int .i64 x.folds, .int .i64 x.lasts, .int .i64 x.count] 137)) Nob).drew
    replace cS := cS.mod mD nob
    replace cX := cX.mod mD nob
    replace mB := mB.trans mD
    clear mD q0 q1 q2
    refine wp_no_panic ?_
    refine wp_region_U (S := fun V => CellsAt V W1.heap.size #[.int .i64 K, .int .i64 x.input, .int .i64 N, .int .i64 R, .int .i64 x.half, .int .i64 x.pads, .int .i64 x.sorts, .int .i64 x.folds, .int .i64 x.lasts, .int .i64 x.count] 137 ∧ CellsAt V (H + 1) #[.int .i64 ph, .int .i64 rd, .int .i64 ad] 88) 9 (by kernel_rfl) ?_
    change wpAnyU _ _ _ _ _ _ _ _ _ (W1.alloc (.cells #[.int .i64 K, .int .i64 x.input, .int .i64 N, .int .i64 R, .int .i64 x.half, .int .i64 x.pads, .int .i64 x.sorts, .int .i64 x.folds, .int .i64 x.lasts, .int .i64 x.count] 137)).drew
    obtain ⟨V, hV⟩ : ∃ V, (W1.alloc (.cells #[.int .i64 K, .int .i64 x.input, .int .i64 N, .int .i64 R, .int .i64 x.half, .int .i64 x.pads, .int .i64 x.sorts, .int .i64 x.folds, .int .i64 x.lasts, .int .i64 x.count] 137)).drew = V := ⟨_, rfl⟩
    rw [hV] at cS cX mB ⊢
    obtain ⟨B, hB⟩ : ∃ B, W1.heap.size = B := ⟨_, rfl⟩
    rw [hB] at cX ⊢
    clear hV hB
    have hS0 := And.intro cX cS
    refine wpAnyU_takeP (i := 0) (v := .pointer (some ⟨B, 8, none⟩)) rfl (by kernel_rfl) (by kernel_rfl) (by kernel_rfl) (by decide) (fun _ _ _ h => h) (Or.inl ⟨by rfl, fun W => by go_simp⟩) (fun _ => hS0) ?_
    try simp only [Act.put, List.getElem_toArray, List.getElem_cons_zero, List.getElem_cons_succ, List.setIfInBounds_toArray, List.set_cons_zero, List.set_cons_succ]
    refine wpAnyU_take (i := 1) (v := .int .i64 x.lasts) rfl (by kernel_rfl) (by kernel_rfl) (by kernel_rfl) (by kernel_rfl) (by kernel_rfl) (fun _ _ _ h => h) (Or.inl ⟨by rfl, fun W hS => by have y := hS.1.cell 8; simp at y; go_simp⟩) hS0 ?_
    try simp only [Act.put, List.getElem_toArray, List.getElem_cons_zero, List.getElem_cons_succ, List.setIfInBounds_toArray, List.set_cons_zero, List.set_cons_succ]
    refine wpAnyU_take (i := 2) (v := .agg #[.int .i64 K, .int .i64 x.input, .int .i64 N, .int .i64 R, .int .i64 x.half, .int .i64 x.pads, .int .i64 x.sorts, .int .i64 x.folds, .int .i64 x.lasts, .int .i64 x.count]) rfl (by kernel_rfl) (by kernel_rfl) (by kernel_rfl) (by kernel_rfl) (by kernel_rfl) (fun _ _ _ h => h) (Or.inl ⟨by rfl, fun W hS => by have y0 := hS.1.cell 0; have y1 := hS.1.cell 1; have y2 := hS.1.cell 2; have y3 := hS.1.cell 3; have y4 := hS.1.cell 4; have y5 := hS.1.cell 5; have y6 := hS.1.cell 6; have y7 := hS.1.cell 7; have y8 := hS.1.cell 8; have y9 := hS.1.cell 9; simp at y0 y1 y2 y3 y4 y5 y6 y7 y8 y9; go_simp⟩) hS0 ?_
    try simp only [Act.put, List.getElem_toArray, List.getElem_cons_zero, List.getElem_cons_succ, List.setIfInBounds_toArray, List.set_cons_zero, List.set_cons_succ]
    refine wpAnyU_takeP (i := 3) (v := .pointer (some ⟨H + 1, 1, none⟩)) rfl (by kernel_rfl) (by kernel_rfl) (by kernel_rfl) (by decide) (fun _ _ _ h => h) (Or.inl ⟨by rfl, fun W => by go_simp⟩) (fun _ => hS0) ?_
    try simp only [Act.put, List.getElem_toArray, List.getElem_cons_zero, List.getElem_cons_succ, List.setIfInBounds_toArray, List.set_cons_zero, List.set_cons_succ]
    refine wpAnyU_take (i := 4) (v := .int .i64 rd) rfl (by kernel_rfl) (by kernel_rfl) (by kernel_rfl) (by kernel_rfl) (by kernel_rfl) (fun _ _ _ h => h) (Or.inl ⟨by rfl, fun W hS => by have y := hS.2.cell 1; simp at y; go_simp⟩) hS0 ?_
    try simp only [Act.put, List.getElem_toArray, List.getElem_cons_zero, List.getElem_cons_succ, List.setIfInBounds_toArray, List.set_cons_zero, List.set_cons_succ]
    refine wpAnyU_takeP (i := 5) (v := .pointer (some ⟨H + 1, 2, none⟩)) rfl (by kernel_rfl) (by kernel_rfl) (by kernel_rfl) (by decide) (fun _ _ _ h => h) (Or.inl ⟨by rfl, fun W => by go_simp⟩) (fun _ => hS0) ?_
    try simp only [Act.put, List.getElem_toArray, List.getElem_cons_zero, List.getElem_cons_succ, List.setIfInBounds_toArray, List.set_cons_zero, List.set_cons_succ]
    refine wpAnyU_take (i := 6) (v := .int .i64 ad) rfl (by kernel_rfl) (by kernel_rfl) (by kernel_rfl) (by kernel_rfl) (by kernel_rfl) (fun _ _ _ h => h) (Or.inl ⟨by rfl, fun W hS => by have y := hS.2.cell 2; simp at y; go_simp⟩) hS0 ?_
    try simp only [Act.put, List.getElem_toArray, List.getElem_cons_zero, List.getElem_cons_succ, List.setIfInBounds_toArray, List.set_cons_zero, List.set_cons_succ]
    refine wpAnyU_one 7 _ (by kernel_rfl) rfl (fun K hK => ?_)
    go_simp
    refine (HP.out rd ad h1d hrd V).mono ?_
    rintro r V1 ⟨⟨res, rfl⟩, m1⟩
    replace mB := mB.trans m1
    replace cX := cX.mod m1 nob
    replace cS := cS.mod m1 nob
    have hS0 := And.intro cX cS
    go_wp2_with fail
    refine hK.out _ _ (fun _ => hS0) ?_
    clear hK K
    try simp only [Act.put, List.getElem_toArray, List.getElem_cons_zero, List.getElem_cons_succ, List.setIfInBounds_toArray, List.set_cons_zero, List.set_cons_succ]
    refine wpAnyU_takeP (i := 8) (v := .int .i64 (IntKind.i64.wrap (x.lasts + res))) rfl (by kernel_rfl) (by kernel_rfl) (by kernel_rfl) (by decide) (fun _ _ _ h => h) (Or.inl ⟨by rfl, fun W => by go_simp⟩) (fun _ => hS0) ?_
    try simp only [Act.put, List.getElem_toArray, List.getElem_cons_zero, List.getElem_cons_succ, List.setIfInBounds_toArray, List.set_cons_zero, List.set_cons_succ]
    refine wpAnyU_last (by kernel_rfl) (by simp) ?_
    refine wpAny_take (i := 9) (v := .int .i64 (IntKind.i64.wrap (x.lasts + res))) rfl (by kernel_rfl) (by kernel_rfl) (by kernel_rfl) (fun _ _ _ h => h) (Or.inl ⟨by rfl, fun W => by go_simp⟩) ?_
    try simp only [Act.put, List.getElem_toArray, List.getElem_cons_zero, List.getElem_cons_succ, List.setIfInBounds_toArray, List.set_cons_zero, List.set_cons_succ]
    refine wpAny_done (by kernel_rfl) ?_ _
    try simp only [Act.put, List.getElem_toArray, List.getElem_cons_zero, List.getElem_cons_succ]
    go_wp2_with fail
    go_ret
    exact ⟨⟨_, rfl⟩, mB⟩
end Go.Proofs.YtakgnkjopbflbaaGreatDoor

namespace Go.Proofs.YtakgnkjopbflbaaGreatDoor
open Go.RowKit
set_option linter.unusedSimpArgs false

abbrev Sp3 := Int × Int × Int
def spotC (s : Sp3) : List Value := [.int .i64 s.1, .int .i64 s.2.1, .int .i64 s.2.2]
def AnsR (w : World) (e : Ending) (w' : World) : Prop := ∃ (v : Value) (ss : List Sp3), e = .returned v ∧ w'.ownsRow w.heap.size 88 3 v ss.length (ss.flatMap spotC) ∧ ss.length ≤ 2

theorem info_spot : (Tryz.prog.info? 88).map (fun i => (i.zero, i.size, i.bytes)) = some (some (.agg #[.int .i64 0, .int .i64 0, .int .i64 0]), 3, 24) := by kernel_rfl

set_option maxRecDepth 100000 in
set_option maxHeartbeats 4000000 in
theorem reads_w (r k b wk : Nat) (hf : fitQ r k b wk) (n : Nat) (hn : n < (planP r k b).count) (w : World) : Calls Tryz.prog 27 #[.agg #[.int .i64 r, .int .i64 k, .int .i64 b, .int .i64 wk], .int .i64 n] w fun e w' => AnsR w e w' ∧ Mod w w' Nob := by
  have ht := task_w r k b wk hf n hn
  have ho := of_q r k b wk hf
  obtain ⟨x, hx⟩ : ∃ x, planP r k b = x := ⟨_, rfl⟩
  rw [hx] at ho
  clear hx hf hn
  have hfd := plan_field x
  unfold Plan.cells at ho hfd
  generalize x.rounds = R at *
  have HT := Lib.hid ht
  have HO := Lib.hid ho
  clear ht ho
  have cP := CellsAt.new w #[.int .i64 r, .int .i64 k, .int .i64 b, .int .i64 wk] 24
  have mB := (Mod.refl w Nob).alloc (.cells #[.int .i64 r, .int .i64 k, .int .i64 b, .int .i64 wk] 24)
  have lz : w.heap.size < (w.alloc (.cells #[.int .i64 r, .int .i64 k, .int .i64 b, .int .i64 wk] 24)).heap.size := by simp
  go_enter Tryz.func27, Tryz.ntmps27
  go_wp2_with fail
  obtain ⟨W, hW⟩ : ∃ W, w.alloc (.cells #[.int .i64 r, .int .i64 k, .int .i64 b, .int .i64 wk] 24) = W := ⟨_, rfl⟩
  rw [hW] at cP mB lz ⊢
  obtain ⟨H, hH⟩ : ∃ H, w.heap.size = H := ⟨_, rfl⟩
  rw [hH] at cP lz ⊢
  have HH := Lib.hid hH
  clear hW hH
  refine (HT.out W).mono ?_
  rintro e W1 ⟨⟨kd, rd, a, bb, u, rfl⟩, m1⟩
  unfold taskA
  have mX := (Mod.refl W1 Nob).alloc (.cells #[.int .i64 kd, .int .i64 rd, .int .i64 a, .int .i64 bb, .bool u] 141)
  have cX := CellsAt.new W1 #[.int .i64 kd, .int .i64 rd, .int .i64 a, .int .i64 bb, .bool u] 141
  replace cP := (cP.mod m1 nob).mod mX nob
  replace mB := (mB.trans m1).trans mX
  replace lz := Nat.lt_of_lt_of_le lz (Nat.le_trans m1.size mX.size)
  clear m1 mX
  go_wp2_with fail
  · go_ret
    have hown := World.ownsRow_lit (base := w.heap.size) (e := 88) (size := 3) (W1.alloc (.cells #[.int .i64 kd, .int .i64 rd, .int .i64 a, .int .i64 bb, .bool u] 141)) #[.int .i64 0, .int .i64 0, .int .i64 a] 1 mB.size (by decide) rfl
    rw [World.size_alloc] at hown
    exact ⟨⟨_, [(0, 0, a)], rfl, hown, Nat.le_succ 1⟩, mB.alloc _⟩
  · have mD := (Mod.refl (W1.alloc (.cells #[.int .i64 kd, .int .i64 rd, .int .i64 a, .int .i64 bb, .bool u] 141)) Nob).drew
    replace cX := cX.mod mD nob
    replace cP := cP.mod mD nob
    replace mB := mB.trans mD
    clear mD
    refine wp_no_panic ?_
    refine wp_region_U (S := fun V => CellsAt V W1.heap.size #[.int .i64 kd, .int .i64 rd, .int .i64 a, .int .i64 bb, .bool u] 141 ∧ CellsAt V H #[.int .i64 r, .int .i64 k, .int .i64 b, .int .i64 wk] 24) 13 (by kernel_rfl) ?_
    change wpAnyU _ _ _ _ _ _ _ _ _ (W1.alloc (.cells #[.int .i64 kd, .int .i64 rd, .int .i64 a, .int .i64 bb, .bool u] 141)).drew
    obtain ⟨V, hV⟩ : ∃ V, (W1.alloc (.cells #[.int .i64 kd, .int .i64 rd, .int .i64 a, .int .i64 bb, .bool u] 141)).drew = V := ⟨_, rfl⟩
    rw [hV] at cX cP mB ⊢
    obtain ⟨B, hB⟩ : ∃ B, W1.heap.size = B := ⟨_, rfl⟩
    rw [hB] at cX ⊢
    clear hV hB
    have hS0 := And.intro cX cP
    refine wpAnyU_takeP (i := 0) (v := .pointer (some ⟨B, 1, none⟩)) rfl (by kernel_rfl) (by kernel_rfl) (by kernel_rfl) (by decide) (fun _ _ _ h => h) (Or.inl ⟨by rfl, fun W => by go_simp⟩) (fun _ => hS0) ?_
    try simp only [Act.put, List.getElem_toArray, List.getElem_cons_zero, List.getElem_cons_succ, List.setIfInBounds_toArray, List.set_cons_zero, List.set_cons_succ]
    refine wpAnyU_take (i := 1) (v := .int .i64 rd) rfl (by kernel_rfl) (by kernel_rfl) (by kernel_rfl) (by kernel_rfl) (by kernel_rfl) (fun _ _ _ h => h) (Or.inl ⟨by rfl, fun W hS => by have y := hS.1.cell 1; simp at y; go_simp⟩) hS0 ?_
    try simp only [Act.put, List.getElem_toArray, List.getElem_cons_zero, List.getElem_cons_succ, List.setIfInBounds_toArray, List.set_cons_zero, List.set_cons_succ]
    refine wpAnyU_takeP (i := 2) (v := .int .i64 (IntKind.i64.wrap (rd - 1))) rfl (by kernel_rfl) (by kernel_rfl) (by kernel_rfl) (by decide) (fun _ _ _ h => h) (Or.inl ⟨by rfl, fun W => by go_simp⟩) (fun _ => hS0) ?_
    try simp only [Act.put, List.getElem_toArray, List.getElem_cons_zero, List.getElem_cons_succ, List.setIfInBounds_toArray, List.set_cons_zero, List.set_cons_succ]
    refine wpAnyU_takeP (i := 3) (v := .pointer (some ⟨B, 2, none⟩)) rfl (by kernel_rfl) (by kernel_rfl) (by kernel_rfl) (by decide) (fun _ _ _ h => h) (Or.inl ⟨by rfl, fun W => by go_simp⟩) (fun _ => hS0) ?_
    try simp only [Act.put, List.getElem_toArray, List.getElem_cons_zero, List.getElem_cons_succ, List.setIfInBounds_toArray, List.set_cons_zero, List.set_cons_succ]
    refine wpAnyU_take (i := 4) (v := .int .i64 a) rfl (by kernel_rfl) (by kernel_rfl) (by kernel_rfl) (by kernel_rfl) (by kernel_rfl) (fun _ _ _ h => h) (Or.inl ⟨by rfl, fun W hS => by have y := hS.1.cell 2; simp at y; go_simp⟩) hS0 ?_
    try simp only [Act.put, List.getElem_toArray, List.getElem_cons_zero, List.getElem_cons_succ, List.setIfInBounds_toArray, List.set_cons_zero, List.set_cons_succ]
    refine wpAnyU_takeP (i := 6) (v := .pointer (some ⟨B, 1, none⟩)) rfl (by kernel_rfl) (by kernel_rfl) (by kernel_rfl) (by decide) (fun _ _ _ h => h) (Or.inl ⟨by rfl, fun W => by go_simp⟩) (fun _ => hS0) ?_
    try simp only [Act.put, List.getElem_toArray, List.getElem_cons_zero, List.getElem_cons_succ, List.setIfInBounds_toArray, List.set_cons_zero, List.set_cons_succ]
    refine wpAnyU_take (i := 7) (v := .int .i64 rd) rfl (by kernel_rfl) (by kernel_rfl) (by kernel_rfl) (by kernel_rfl) (by kernel_rfl) (fun _ _ _ h => h) (Or.inl ⟨by rfl, fun W hS => by have y := hS.1.cell 1; simp at y; go_simp⟩) hS0 ?_
    try simp only [Act.put, List.getElem_toArray, List.getElem_cons_zero, List.getElem_cons_succ, List.setIfInBounds_toArray, List.set_cons_zero, List.set_cons_succ]
    refine wpAnyU_takeP (i := 8) (v := .int .i64 (IntKind.i64.wrap (rd - 1))) rfl (by kernel_rfl) (by kernel_rfl) (by kernel_rfl) (by decide) (fun _ _ _ h => h) (Or.inl ⟨by rfl, fun W => by go_simp⟩) (fun _ => hS0) ?_
    try simp only [Act.put, List.getElem_toArray, List.getElem_cons_zero, List.getElem_cons_succ, List.setIfInBounds_toArray, List.set_cons_zero, List.set_cons_succ]
    refine wpAnyU_takeP (i := 9) (v := .pointer (some ⟨B, 3, none⟩)) rfl (by kernel_rfl) (by kernel_rfl) (by kernel_rfl) (by decide) (fun _ _ _ h => h) (Or.inl ⟨by rfl, fun W => by go_simp⟩) (fun _ => hS0) ?_
    try simp only [Act.put, List.getElem_toArray, List.getElem_cons_zero, List.getElem_cons_succ, List.setIfInBounds_toArray, List.set_cons_zero, List.set_cons_succ]
    refine wpAnyU_take (i := 10) (v := .int .i64 bb) rfl (by kernel_rfl) (by kernel_rfl) (by kernel_rfl) (by kernel_rfl) (by kernel_rfl) (fun _ _ _ h => h) (Or.inl ⟨by rfl, fun W hS => by have y := hS.1.cell 3; simp at y; go_simp⟩) hS0 ?_
    try simp only [Act.put, List.getElem_toArray, List.getElem_cons_zero, List.getElem_cons_succ, List.setIfInBounds_toArray, List.set_cons_zero, List.set_cons_succ]
    refine wpAnyU_one 5 _ (by kernel_rfl) rfl (fun K hK => ?_)
    go_simp
    refine (behind_w 2 1 (IntKind.i64.wrap (rd - 1)) a _).mono ?_
    rintro e V1 ⟨⟨x1, y1, z1, rfl⟩, m1⟩
    unfold spotA
    replace mB := mB.trans m1
    replace cX := cX.mod m1 nob
    replace cP := cP.mod m1 nob
    have hS0 := And.intro cX cP
    go_wp2_with fail
    refine hK.out _ _ (fun _ => hS0) ?_
    clear hK K m1
    try simp only [Act.put, List.getElem_toArray, List.getElem_cons_zero, List.getElem_cons_succ, List.setIfInBounds_toArray, List.set_cons_zero, List.set_cons_succ]
    refine wpAnyU_one 11 _ (by kernel_rfl) rfl (fun K hK => ?_)
    go_simp
    refine (behind_w 2 1 (IntKind.i64.wrap (rd - 1)) bb _).mono ?_
    rintro e V2 ⟨⟨x2, y2, z2, rfl⟩, m2⟩
    unfold spotA
    replace mB := mB.trans m2
    replace cX := cX.mod m2 nob
    replace cP := cP.mod m2 nob
    have hS0 := And.intro cX cP
    go_wp2_with fail
    refine hK.out _ _ (fun _ => hS0) ?_
    clear hK K m2
    try simp only [Act.put, List.getElem_toArray, List.getElem_cons_zero, List.getElem_cons_succ, List.setIfInBounds_toArray, List.set_cons_zero, List.set_cons_succ]
    have mF := mB.alloc (.cells #[.int .i64 x1, .int .i64 y1, .int .i64 z1, .int .i64 x2, .int .i64 y2, .int .i64 z2] 88)
    have hown := World.ownsRow_lit (base := w.heap.size) (e := 88) (size := 3) V2 #[.int .i64 x1, .int .i64 y1, .int .i64 z1, .int .i64 x2, .int .i64 y2, .int .i64 z2] 2 mB.size (by decide) rfl
    refine wpAnyU_one 12 _ (by kernel_rfl) rfl (fun K hK => ?_)
    go_wp2_with fail
    refine hK.out _ _ (fun _ => And.intro (cX.alloc _) (cP.alloc _)) ?_
    clear hK K
    try simp only [Act.put, List.getElem_toArray, List.getElem_cons_zero, List.getElem_cons_succ, List.setIfInBounds_toArray, List.set_cons_zero, List.set_cons_succ]
    refine wpAnyU_last (by kernel_rfl) (by simp) ?_
    refine wpAny_take (i := 13) (v := .slice (some ⟨V2.heap.size, 0, none⟩) 2 2) rfl (by kernel_rfl) (by kernel_rfl) (by kernel_rfl) (fun _ _ _ h => h) (Or.inl ⟨by rfl, fun W => by go_simp⟩) ?_
    try simp only [Act.put, List.getElem_toArray, List.getElem_cons_zero, List.getElem_cons_succ, List.setIfInBounds_toArray, List.set_cons_zero, List.set_cons_succ]
    refine wpAny_done (by kernel_rfl) ?_ _
    try simp only [Act.put, List.getElem_toArray, List.getElem_cons_zero, List.getElem_cons_succ]
    go_wp2_with fail
    go_ret
    exact ⟨⟨_, [(x1, y1, z1), (x2, y2, z2)], rfl, hown, Nat.le_refl 2⟩, mF⟩
  · have mD := (Mod.refl (W1.alloc (.cells #[.int .i64 kd, .int .i64 rd, .int .i64 a, .int .i64 bb, .bool u] 141)) Nob).drew
    replace cX := cX.mod mD nob
    replace cP := cP.mod mD nob
    replace mB := mB.trans mD
    clear mD
    refine wp_no_panic ?_
    refine wp_region_U (S := fun V => CellsAt V W1.heap.size #[.int .i64 kd, .int .i64 rd, .int .i64 a, .int .i64 bb, .bool u] 141 ∧ CellsAt V H #[.int .i64 r, .int .i64 k, .int .i64 b, .int .i64 wk] 24) 7 (by kernel_rfl) ?_
    change wpAnyU _ _ _ _ _ _ _ _ _ (W1.alloc (.cells #[.int .i64 kd, .int .i64 rd, .int .i64 a, .int .i64 bb, .bool u] 141)).drew
    obtain ⟨V, hV⟩ : ∃ V, (W1.alloc (.cells #[.int .i64 kd, .int .i64 rd, .int .i64 a, .int .i64 bb, .bool u] 141)).drew = V := ⟨_, rfl⟩
    rw [hV] at cX cP mB ⊢
    obtain ⟨B, hB⟩ : ∃ B, W1.heap.size = B := ⟨_, rfl⟩
    rw [hB] at cX ⊢
    clear hV hB
    have hS0 := And.intro cX cP
    refine wpAnyU_take (i := 0) (v := .agg #[.int .i64 r, .int .i64 k, .int .i64 b, .int .i64 wk]) rfl (by kernel_rfl) (by kernel_rfl) (by kernel_rfl) (by kernel_rfl) (by kernel_rfl) (fun _ _ _ h => h) (Or.inl ⟨by rfl, fun W hS => by have y0 := hS.2.cell 0; have y1 := hS.2.cell 1; have y2 := hS.2.cell 2; have y3 := hS.2.cell 3; simp at y0 y1 y2 y3; go_simp⟩) hS0 ?_
    try simp only [Act.put, List.getElem_toArray, List.getElem_cons_zero, List.getElem_cons_succ, List.setIfInBounds_toArray, List.set_cons_zero, List.set_cons_succ]
    refine wpAnyU_takeP (i := 3) (v := .pointer (some ⟨B, 2, none⟩)) rfl (by kernel_rfl) (by kernel_rfl) (by kernel_rfl) (by decide) (fun _ _ _ h => h) (Or.inl ⟨by rfl, fun W => by go_simp⟩) (fun _ => hS0) ?_
    try simp only [Act.put, List.getElem_toArray, List.getElem_cons_zero, List.getElem_cons_succ, List.setIfInBounds_toArray, List.set_cons_zero, List.set_cons_succ]
    refine wpAnyU_take (i := 4) (v := .int .i64 a) rfl (by kernel_rfl) (by kernel_rfl) (by kernel_rfl) (by kernel_rfl) (by kernel_rfl) (fun _ _ _ h => h) (Or.inl ⟨by rfl, fun W hS => by have y := hS.1.cell 2; simp at y; go_simp⟩) hS0 ?_
    try simp only [Act.put, List.getElem_toArray, List.getElem_cons_zero, List.getElem_cons_succ, List.setIfInBounds_toArray, List.set_cons_zero, List.set_cons_succ]
    refine wpAnyU_one 1 _ (by kernel_rfl) rfl (fun K hK => ?_)
    go_simp
    refine (HO.out V).mono ?_
    rintro e V1 ⟨rfl, m1⟩
    replace mB := mB.trans m1
    replace cX := cX.mod m1 nob
    replace cP := cP.mod m1 nob
    have hS0 := And.intro cX cP
    go_wp2_with fail
    refine hK.out _ _ (fun _ => hS0) ?_
    clear hK K m1
    try simp only [Act.put, List.getElem_toArray, List.getElem_cons_zero, List.getElem_cons_succ, List.setIfInBounds_toArray, List.set_cons_zero, List.set_cons_succ]
    refine wpAnyU_takeP (i := 2) (v := .int .i64 R) rfl (by kernel_rfl) (by kernel_rfl) (by kernel_rfl) (by decide) (fun _ _ _ h => h) (Or.inl ⟨by rfl, fun W => by go_simp⟩) (fun _ => hS0) ?_
    try simp only [Act.put, List.getElem_toArray, List.getElem_cons_zero, List.getElem_cons_succ, List.setIfInBounds_toArray, List.set_cons_zero, List.set_cons_succ]
    refine wpAnyU_one 5 _ (by kernel_rfl) rfl (fun K hK => ?_)
    go_simp
    refine (behind_w 2 1 R a _).mono ?_
    rintro e V2 ⟨⟨x1, y1, z1, rfl⟩, m1⟩
    unfold spotA
    replace mB := mB.trans m1
    replace cX := cX.mod m1 nob
    replace cP := cP.mod m1 nob
    have hS0 := And.intro cX cP
    go_wp2_with fail
    refine hK.out _ _ (fun _ => hS0) ?_
    clear hK K m1
    try simp only [Act.put, List.getElem_toArray, List.getElem_cons_zero, List.getElem_cons_succ, List.setIfInBounds_toArray, List.set_cons_zero, List.set_cons_succ]
    have hown := World.ownsRow_lit (base := w.heap.size) (e := 88) (size := 3) V2 #[.int .i64 x1, .int .i64 y1, .int .i64 z1] 1 mB.size (by decide) rfl
    have cX3 := cX.alloc (.cells #[.int .i64 x1, .int .i64 y1, .int .i64 z1] 88)
    have cP3 := cP.alloc (.cells #[.int .i64 x1, .int .i64 y1, .int .i64 z1] 88)
    replace mB := mB.alloc (.cells #[.int .i64 x1, .int .i64 y1, .int .i64 z1] 88)
    have hbs := Nat.le_trans (Nat.le_of_lt (cX.lt)) (Nat.le_refl _)
    refine wpAnyU_one 6 _ (by kernel_rfl) rfl (fun K hK => ?_)
    go_wp2_with fail
    rename_i hx1
    clear hx1
    refine hK.out _ _ (fun _ => And.intro cX3 cP3) ?_
    clear hK K cX cP hbs
    try simp only [Act.put, List.getElem_toArray, List.getElem_cons_zero, List.getElem_cons_succ, List.setIfInBounds_toArray, List.set_cons_zero, List.set_cons_succ]
    refine wpAnyU_last (by kernel_rfl) (by simp) ?_
    refine wpAny_take (i := 7) (v := .slice (some ⟨V2.heap.size, 0, none⟩) 1 1) rfl (by kernel_rfl) (by kernel_rfl) (by kernel_rfl) (fun _ _ _ h => h) (Or.inl ⟨by rfl, fun W => by go_simp⟩) ?_
    try simp only [Act.put, List.getElem_toArray, List.getElem_cons_zero, List.getElem_cons_succ, List.setIfInBounds_toArray, List.set_cons_zero, List.set_cons_succ]
    refine wpAny_done (by kernel_rfl) ?_ _
    try simp only [Act.put, List.getElem_toArray, List.getElem_cons_zero, List.getElem_cons_succ]
    obtain ⟨V3, hV⟩ : ∃ V, V2.alloc (.cells #[.int .i64 x1, .int .i64 y1, .int .i64 z1] 88) = V := ⟨_, rfl⟩
    obtain ⟨G, hG⟩ : ∃ G, V2.heap.size = G := ⟨_, rfl⟩
    rw [hV] at hown cX3 cP3 mB ⊢
    rw [hG] at hown ⊢
    clear hV hG
    have q2 := cX3.cell 2
    simp at q2
    obtain ⟨i0, hi, hz0, hz1, hz2⟩ : ∃ i, Tryz.prog.info? 88 = some i ∧ i.zero = some (.agg #[.int .i64 0, .int .i64 0, .int .i64 0]) ∧ i.size = 3 ∧ i.bytes = 24 := by
      have h := info_spot
      cases hx : Tryz.prog.info? 88 with
      | none => rw [hx] at h; cases h
      | some i => rw [hx] at h; simp at h; exact ⟨i, rfl, h.1, h.2.1, h.2.2⟩
    have hsz := mB.size
    have hnw := new_at (w := V3) (cs := #[.int .i64 4, .int .i64 0, .int .i64 (wrap64 (a - 1))]) (t := 88) (g := V3.heap.size) rfl
    have mA := (Mod.refl V3 Nob).alloc (.cells #[.int .i64 4, .int .i64 0, .int .i64 (wrap64 (a - 1))] 88)
    obtain ⟨v', w', hrun, r1, r2, r3, r4⟩ := run_append_at (P := Tryz.prog) (V3.alloc (.cells #[.int .i64 4, .int .i64 0, .int .i64 (wrap64 (a - 1))] 88)) 85 85 88 i0 _ 3 24 Tryz.underlying85 hi hz0 hz1 hz2 rfl (by omega) w.heap.size _ 1 _ (hown.alloc _) ⟨V3.heap.size, 0, none⟩ 1 1 [.int .i64 4, .int .i64 0, .int .i64 (wrap64 (a - 1))] rfl
      (fun j u hj => by rw [Addr.add_lit, Nat.zero_add, hnw.cell j]; simpa using hj) (by intro y hy; simp at hy; rcases hy with rfl | rfl | rfl <;> rfl) (by unfold maxLen; omega) (by omega) (Nat.le_trans hsz mA.size)
    have mF := (mB.trans mA).grown r2 (fun k hk => by
      cases hk
      exact .inr (hown.lt _ rfl).1)
    go_wp2_with (at_builtin; refine wpList_append_run (P := Tryz.prog) _ rfl (.tmp 51) (.tmp 56) 85 85 rfl _ _ rfl rfl v' w' hrun ?_)
    · go_ret
      exact ⟨⟨_, [(x1, y1, z1), (4, 0, wrap64 (a - 1))], rfl, r1, Nat.le_refl 2⟩, mF⟩
    · go_ret
      exact ⟨⟨_, [(x1, y1, z1)], rfl, hown, Nat.le_succ 1⟩, mB⟩
  · have mD := (Mod.refl (W1.alloc (.cells #[.int .i64 kd, .int .i64 rd, .int .i64 a, .int .i64 bb, .bool u] 141)) Nob).drew
    replace cX := cX.mod mD nob
    replace cP := cP.mod mD nob
    replace mB := mB.trans mD
    clear mD
    refine wp_no_panic ?_
    refine wp_region_U (S := fun V => CellsAt V W1.heap.size #[.int .i64 kd, .int .i64 rd, .int .i64 a, .int .i64 bb, .bool u] 141 ∧ CellsAt V H #[.int .i64 r, .int .i64 k, .int .i64 b, .int .i64 wk] 24) 13 (by kernel_rfl) ?_
    change wpAnyU _ _ _ _ _ _ _ _ _ (W1.alloc (.cells #[.int .i64 kd, .int .i64 rd, .int .i64 a, .int .i64 bb, .bool u] 141)).drew
    obtain ⟨V, hV⟩ : ∃ V, (W1.alloc (.cells #[.int .i64 kd, .int .i64 rd, .int .i64 a, .int .i64 bb, .bool u] 141)).drew = V := ⟨_, rfl⟩
    rw [hV] at cX cP mB ⊢
    obtain ⟨B, hB⟩ : ∃ B, W1.heap.size = B := ⟨_, rfl⟩
    rw [hB] at cX ⊢
    clear hV hB
    have hS0 := And.intro cX cP
    refine wpAnyU_takeP (i := 0) (v := .pointer (some ⟨B, 1, none⟩)) rfl (by kernel_rfl) (by kernel_rfl) (by kernel_rfl) (by decide) (fun _ _ _ h => h) (Or.inl ⟨by rfl, fun W => by go_simp⟩) (fun _ => hS0) ?_
    try simp only [Act.put, List.getElem_toArray, List.getElem_cons_zero, List.getElem_cons_succ, List.setIfInBounds_toArray, List.set_cons_zero, List.set_cons_succ]
    refine wpAnyU_take (i := 1) (v := .int .i64 rd) rfl (by kernel_rfl) (by kernel_rfl) (by kernel_rfl) (by kernel_rfl) (by kernel_rfl) (fun _ _ _ h => h) (Or.inl ⟨by rfl, fun W hS => by have y := hS.1.cell 1; simp at y; go_simp⟩) hS0 ?_
    try simp only [Act.put, List.getElem_toArray, List.getElem_cons_zero, List.getElem_cons_succ, List.setIfInBounds_toArray, List.set_cons_zero, List.set_cons_succ]
    refine wpAnyU_takeP (i := 2) (v := .int .i64 (IntKind.i64.wrap (rd - 1))) rfl (by kernel_rfl) (by kernel_rfl) (by kernel_rfl) (by decide) (fun _ _ _ h => h) (Or.inl ⟨by rfl, fun W => by go_simp⟩) (fun _ => hS0) ?_
    try simp only [Act.put, List.getElem_toArray, List.getElem_cons_zero, List.getElem_cons_succ, List.setIfInBounds_toArray, List.set_cons_zero, List.set_cons_succ]
    refine wpAnyU_takeP (i := 3) (v := .pointer (some ⟨B, 2, none⟩)) rfl (by kernel_rfl) (by kernel_rfl) (by kernel_rfl) (by decide) (fun _ _ _ h => h) (Or.inl ⟨by rfl, fun W => by go_simp⟩) (fun _ => hS0) ?_
    try simp only [Act.put, List.getElem_toArray, List.getElem_cons_zero, List.getElem_cons_succ, List.setIfInBounds_toArray, List.set_cons_zero, List.set_cons_succ]
    refine wpAnyU_take (i := 4) (v := .int .i64 a) rfl (by kernel_rfl) (by kernel_rfl) (by kernel_rfl) (by kernel_rfl) (by kernel_rfl) (fun _ _ _ h => h) (Or.inl ⟨by rfl, fun W hS => by have y := hS.1.cell 2; simp at y; go_simp⟩) hS0 ?_
    try simp only [Act.put, List.getElem_toArray, List.getElem_cons_zero, List.getElem_cons_succ, List.setIfInBounds_toArray, List.set_cons_zero, List.set_cons_succ]
    refine wpAnyU_takeP (i := 6) (v := .pointer (some ⟨B, 1, none⟩)) rfl (by kernel_rfl) (by kernel_rfl) (by kernel_rfl) (by decide) (fun _ _ _ h => h) (Or.inl ⟨by rfl, fun W => by go_simp⟩) (fun _ => hS0) ?_
    try simp only [Act.put, List.getElem_toArray, List.getElem_cons_zero, List.getElem_cons_succ, List.setIfInBounds_toArray, List.set_cons_zero, List.set_cons_succ]
    refine wpAnyU_take (i := 7) (v := .int .i64 rd) rfl (by kernel_rfl) (by kernel_rfl) (by kernel_rfl) (by kernel_rfl) (by kernel_rfl) (fun _ _ _ h => h) (Or.inl ⟨by rfl, fun W hS => by have y := hS.1.cell 1; simp at y; go_simp⟩) hS0 ?_
    try simp only [Act.put, List.getElem_toArray, List.getElem_cons_zero, List.getElem_cons_succ, List.setIfInBounds_toArray, List.set_cons_zero, List.set_cons_succ]
    refine wpAnyU_takeP (i := 8) (v := .int .i64 (IntKind.i64.wrap (rd - 1))) rfl (by kernel_rfl) (by kernel_rfl) (by kernel_rfl) (by decide) (fun _ _ _ h => h) (Or.inl ⟨by rfl, fun W => by go_simp⟩) (fun _ => hS0) ?_
    try simp only [Act.put, List.getElem_toArray, List.getElem_cons_zero, List.getElem_cons_succ, List.setIfInBounds_toArray, List.set_cons_zero, List.set_cons_succ]
    refine wpAnyU_takeP (i := 9) (v := .pointer (some ⟨B, 3, none⟩)) rfl (by kernel_rfl) (by kernel_rfl) (by kernel_rfl) (by decide) (fun _ _ _ h => h) (Or.inl ⟨by rfl, fun W => by go_simp⟩) (fun _ => hS0) ?_
    try simp only [Act.put, List.getElem_toArray, List.getElem_cons_zero, List.getElem_cons_succ, List.setIfInBounds_toArray, List.set_cons_zero, List.set_cons_succ]
    refine wpAnyU_take (i := 10) (v := .int .i64 bb) rfl (by kernel_rfl) (by kernel_rfl) (by kernel_rfl) (by kernel_rfl) (by kernel_rfl) (fun _ _ _ h => h) (Or.inl ⟨by rfl, fun W hS => by have y := hS.1.cell 3; simp at y; go_simp⟩) hS0 ?_
    try simp only [Act.put, List.getElem_toArray, List.getElem_cons_zero, List.getElem_cons_succ, List.setIfInBounds_toArray, List.set_cons_zero, List.set_cons_succ]
    refine wpAnyU_one 5 _ (by kernel_rfl) rfl (fun K hK => ?_)
    go_simp
    refine (behind_w 5 3 (IntKind.i64.wrap (rd - 1)) a _).mono ?_
    rintro e V1 ⟨⟨x1, y1, z1, rfl⟩, m1⟩
    unfold spotA
    replace mB := mB.trans m1
    replace cX := cX.mod m1 nob
    replace cP := cP.mod m1 nob
    have hS0 := And.intro cX cP
    go_wp2_with fail
    refine hK.out _ _ (fun _ => hS0) ?_
    clear hK K m1
    try simp only [Act.put, List.getElem_toArray, List.getElem_cons_zero, List.getElem_cons_succ, List.setIfInBounds_toArray, List.set_cons_zero, List.set_cons_succ]
    refine wpAnyU_one 11 _ (by kernel_rfl) rfl (fun K hK => ?_)
    go_simp
    refine (behind_w 5 3 (IntKind.i64.wrap (rd - 1)) bb _).mono ?_
    rintro e V2 ⟨⟨x2, y2, z2, rfl⟩, m2⟩
    unfold spotA
    replace mB := mB.trans m2
    replace cX := cX.mod m2 nob
    replace cP := cP.mod m2 nob
    have hS0 := And.intro cX cP
    go_wp2_with fail
    refine hK.out _ _ (fun _ => hS0) ?_
    clear hK K m2
    try simp only [Act.put, List.getElem_toArray, List.getElem_cons_zero, List.getElem_cons_succ, List.setIfInBounds_toArray, List.set_cons_zero, List.set_cons_succ]
    have mF := mB.alloc (.cells #[.int .i64 x1, .int .i64 y1, .int .i64 z1, .int .i64 x2, .int .i64 y2, .int .i64 z2] 88)
    have hown := World.ownsRow_lit (base := w.heap.size) (e := 88) (size := 3) V2 #[.int .i64 x1, .int .i64 y1, .int .i64 z1, .int .i64 x2, .int .i64 y2, .int .i64 z2] 2 mB.size (by decide) rfl
    refine wpAnyU_one 12 _ (by kernel_rfl) rfl (fun K hK => ?_)
    go_wp2_with fail
    refine hK.out _ _ (fun _ => And.intro (cX.alloc _) (cP.alloc _)) ?_
    clear hK K
    try simp only [Act.put, List.getElem_toArray, List.getElem_cons_zero, List.getElem_cons_succ, List.setIfInBounds_toArray, List.set_cons_zero, List.set_cons_succ]
    refine wpAnyU_last (by kernel_rfl) (by simp) ?_
    refine wpAny_take (i := 13) (v := .slice (some ⟨V2.heap.size, 0, none⟩) 2 2) rfl (by kernel_rfl) (by kernel_rfl) (by kernel_rfl) (fun _ _ _ h => h) (Or.inl ⟨by rfl, fun W => by go_simp⟩) ?_
    try simp only [Act.put, List.getElem_toArray, List.getElem_cons_zero, List.getElem_cons_succ, List.setIfInBounds_toArray, List.set_cons_zero, List.set_cons_succ]
    refine wpAny_done (by kernel_rfl) ?_ _
    try simp only [Act.put, List.getElem_toArray, List.getElem_cons_zero, List.getElem_cons_succ]
    go_wp2_with fail
    go_ret
    exact ⟨⟨_, [(x1, y1, z1), (x2, y2, z2)], rfl, hown, Nat.le_refl 2⟩, mF⟩
  · go_ret
    exact ⟨⟨_, [], rfl, World.ownsRow_nil _ _ _ _, by decide⟩, mB⟩
end Go.Proofs.YtakgnkjopbflbaaGreatDoor
