/- Numbers put behind bytes: octet.PutLow, PutHigh. No condition but sizes. -/
import Derived.Test.YtakgnkjopbflbaaGreatDoorCa
namespace Go.Proofs.YtakgnkjopbflbaaGreatDoor
open Go.RowKit

theorem leB_get : ∀ (k v j : Nat), j < k → (leB k v)[j]? = some (UInt8.ofNat (v / 256 ^ j))
  | 0, _, _, h => by omega
  | k + 1, v, 0, _ => by simp [leB]
  | k + 1, v, j + 1, h => by
    simp only [leB, List.getElem?_cons_succ]
    rw [leB_get k (v / 256) j (by omega), Nat.div_div_eq_div_mul, Nat.pow_succ, Nat.mul_comm]
/-- So many bytes of a number, the highest first. -/
def beB (k v : Nat) : List UInt8 := (leB k v).reverse
theorem beB_length (k v : Nat) : (beB k v).length = k := by simp [beB, leB_length]
theorem beB_get (k v j : Nat) (h : j < k) : (beB k v)[j]? = some (UInt8.ofNat (v / 256 ^ (k - 1 - j))) := by
  unfold beB
  rw [List.getElem?_reverse (by rw [leB_length]; exact h), leB_length]
  exact leB_get k v _ (by omega)
theorem take_snoc {α : Type} (l : List α) (i : Nat) (x : α) (h : l[i]? = some x) : l.take (i + 1) = l.take i ++ [x] := by rw [List.take_add_one, h]; rfl
theorem byte_of (x j : Nat) : IntKind.u8.wrap ((x : Int) / 2 ^ (8 * j)) = ((UInt8.ofNat (x / 256 ^ j)).toNat : Int) := by
  rw [IntKind.wrap_u8, pow256]
  simp

/-- A row of bytes that has grown. -/
def GrewB (w : World) (base : Nat) (v : Value) (n : Nat) (l : List UInt8) (e : Ending) (w' : World) : Prop :=
  ∃ a c, e = .returned (.slice a n c) ∧ w'.ownsRow base 5 1 (.slice a n c) n (l.map B) ∧ Mod w w' (inBlock v) ∧ ∀ k, inBlock (.slice a n c) k → inBlock v k ∨ w.heap.size ≤ k

/-- Where a row of bytes stands that grows in a loop. -/
def GrowsB (w : World) (base : Nat) (v : Value) (n : Nat) (l : List UInt8) (b : Value) (wr : World) : Prop :=
  ∃ a c, b = .slice a n c ∧ wr.ownsRow base 5 1 (.slice a n c) n (l.map B) ∧ Mod w wr (inBlock v) ∧ ∀ k, inBlock (.slice a n c) k → inBlock v k ∨ w.heap.size ≤ k

theorem GrowsB.start {w : World} {base n : Nat} {va : Option Addr} {vc : Nat} {l : List UInt8} (h : w.ownsRow base 5 1 (.slice va n vc) n (l.map B)) : GrowsB w base (.slice va n vc) n l (.slice va n vc) w :=
  ⟨va, vc, rfl, h, Mod.refl _ _, fun _ h => .inl h⟩
/-- A byte more. -/
theorem GrowsB.more {w wr w3 : World} {base n : Nat} {v : Value} {l : List UInt8} {a : Option Addr} {c : Nat} {v' : Value} {x : UInt8} {o : Obj} (hm : Mod w wr (inBlock v)) (hin : ∀ k, inBlock (.slice a n c) k → inBlock v k ∨ w.heap.size ≤ k)
    {xs : List Value} (hown : w3.ownsRow base 5 1 v' (n + 1) xs) (hxs : xs = l.map B ++ [B x]) (hg : (wr.alloc o).grownBy w3 (Value.slice a n c).ownBlock) (hin2 : ∀ k, inBlock v' k → inBlock (.slice a n c) k ∨ (wr.alloc o).heap.size ≤ k) :
    GrowsB w base v (n + 1) (l ++ [x]) v' w3 := by
  subst hxs
  obtain ⟨a', c', rfl, _⟩ := owns_form hown
  have h0 := hm.size
  refine ⟨a', c', rfl, by simpa using hown, (hm.alloc o).grown hg (fun k hk => hin k hk), fun k hk => ?_⟩
  rcases hin2 k hk with h1 | h1
  · exact hin k h1
  · simp at h1
    exact .inr (by omega)

set_option maxRecDepth 100000 in
set_option maxHeartbeats 1000000 in
theorem putlow_any (base n : Nat) (va : Option Addr) (vc : Nat) (l : List UInt8) (x k : Nat) (w : World) (h : w.ownsRow base 5 1 (.slice va n vc) n (l.map B)) (hk : k ≤ 8) (hn : n ≤ 1099511627776) (hb : base ≤ w.heap.size) :
    Calls Tryz.prog 116 #[.slice va n vc, .int .u64 x, .int .i64 k] w (GrewB w base (.slice va n vc) (n + k) (l ++ leB k x)) := by
  obtain ⟨j0, hj, hz0, hz1, hz2⟩ := info_parts info_u8
  go_enter Tryz.func116, Tryz.ntmps116
  go_wp2_with fail
  go_loopw [0, 7, 9] (fun b _ i wr => ∃ j : Nat, j ≤ k ∧ i = .int .i64 j ∧ GrowsB w base (.slice va n vc) (n + j) (l ++ (leB k x).take j) b wr) (fun _ _ i _ => k - (intOf i).toNat)
  case atStart => exact ⟨0, Nat.zero_le _, rfl, by simpa using GrowsB.start h⟩
  case round =>
    obtain ⟨j, hjk, rfl, a, c, rfl, hown, hm, hin⟩ := hrel
    have h0 := hm.size
    by_cases hlt : j < k
    · have hnext := take_snoc (leB k x) j _ (leB_get k x j hlt)
      have hby := byte_of x j
      obtain ⟨y, hy⟩ : ∃ y, UInt8.ofNat (x / 256 ^ j) = y := ⟨_, rfl⟩
      rw [hy] at hnext hby
      obtain ⟨t, ht⟩ : ∃ t, (leB k x).take j = t := ⟨_, rfl⟩
      rw [ht] at hnext hown
      have HN := Lib.hid hnext
      clear hnext ht hy h
      have hown1 := owns_mod hown ((Mod.refl wr Nob).alloc (.cells #[.int .u8 (y.toNat : Int)] 5)) (fun _ _ => nob)
      obtain ⟨P, hP⟩ : ∃ P, n + j = P := ⟨_, rfl⟩
      rw [hP] at hown hown1 hin
      rw [hP]
      have hP2 : P ≤ 1099511627784 := by omega
      have HP := Lib.hid hP
      clear hP hown
      go_wp2_with (at_builtin; refine wpList_append_one _ rfl _ _ 43 rfl base 5 j0 _ 1 1 Tryz.underlying43 hj hz0 hz1 hz2 rfl (by decide) (.slice a P c) P _ rfl hown1 wr.heap.size 1 [.int .u8 (y.toNat : Int)] 5 rfl rfl (CellsAt.new wr _ _) (by simp [Value.oneCell']) (by unfold maxLen; omega) (by omega) (by simp; omega) ?_)
      intro v' w3 hown3 hg3 hin3
      have hG := GrowsB.more (l := l ++ t) (x := y) hm hin hown3 (by simp [B]) hg3 (by simpa using hin3)
      clear hown3 hg3 hin3 hown1
      go_wp2_with fail
      exact ⟨⟨j + 1, by omega, by go_num, by rw [HN.out, ← Nat.add_assoc, HP.out, ← List.append_assoc]; exact hG⟩, by simp [intOf]; omega⟩
    · obtain rfl : j = k := by omega
      have hall : (leB j x).take j = leB j x := List.take_of_length_le (by rw [leB_length]; omega)
      rw [hall] at hown
      go_wp2_with fail
      go_ret
      exact ⟨a, c, rfl, hown, hm, hin⟩

set_option maxRecDepth 100000 in
set_option maxHeartbeats 1000000 in
theorem puthigh_any (base n : Nat) (va : Option Addr) (vc : Nat) (l : List UInt8) (x k : Nat) (w : World) (h : w.ownsRow base 5 1 (.slice va n vc) n (l.map B)) (hk : k ≤ 8) (hn : n ≤ 1099511627776) (hb : base ≤ w.heap.size) :
    Calls Tryz.prog 166 #[.slice va n vc, .int .u64 x, .int .i64 k] w (GrewB w base (.slice va n vc) (n + k) (l ++ beB k x)) := by
  obtain ⟨j0, hj, hz0, hz1, hz2⟩ := info_parts info_u8
  go_enter Tryz.func166, Tryz.ntmps166
  go_wp2_with fail
  go_loopw [0, 7, 9] (fun b _ i wr => ∃ j : Nat, j ≤ k ∧ i = .int .i64 j ∧ GrowsB w base (.slice va n vc) (n + j) (l ++ (beB k x).take j) b wr) (fun _ _ i _ => k - (intOf i).toNat)
  case atStart => exact ⟨0, Nat.zero_le _, rfl, by simpa using GrowsB.start h⟩
  case round =>
    obtain ⟨j, hjk, rfl, a, c, rfl, hown, hm, hin⟩ := hrel
    have h0 := hm.size
    by_cases hlt : j < k
    · have hnext := take_snoc (beB k x) j _ (beB_get k x j hlt)
      have hby := byte_of x (k - 1 - j)
      obtain ⟨y, hy⟩ : ∃ y, UInt8.ofNat (x / 256 ^ (k - 1 - j)) = y := ⟨_, rfl⟩
      rw [hy] at hnext hby
      obtain ⟨t, ht⟩ : ∃ t, (beB k x).take j = t := ⟨_, rfl⟩
      rw [ht] at hnext hown
      have HN := Lib.hid hnext
      clear hnext ht hy h
      have hown1 := owns_mod hown ((Mod.refl wr Nob).alloc (.cells #[.int .u8 (y.toNat : Int)] 5)) (fun _ _ => nob)
      obtain ⟨P, hP⟩ : ∃ P, n + j = P := ⟨_, rfl⟩
      rw [hP] at hown hown1 hin
      rw [hP]
      have hP2 : P ≤ 1099511627784 := by omega
      have HP := Lib.hid hP
      clear hP hown
      go_wp2_with (at_builtin; refine wpList_append_one _ rfl _ _ 43 rfl base 5 j0 _ 1 1 Tryz.underlying43 hj hz0 hz1 hz2 rfl (by decide) (.slice a P c) P _ rfl hown1 wr.heap.size 1 [.int .u8 (y.toNat : Int)] 5 rfl rfl (CellsAt.new wr _ _) (by simp [Value.oneCell']) (by unfold maxLen; omega) (by omega) (by simp; omega) ?_)
      intro v' w3 hown3 hg3 hin3
      have hG := GrowsB.more (l := l ++ t) (x := y) hm hin hown3 (by simp [B]) hg3 (by simpa using hin3)
      clear hown3 hg3 hin3 hown1
      go_wp2_with fail
      exact ⟨⟨j + 1, by omega, by go_num, by rw [HN.out, ← Nat.add_assoc, HP.out, ← List.append_assoc]; exact hG⟩, by simp [intOf]; omega⟩
    · obtain rfl : j = k := by omega
      have hall : (beB j x).take j = beB j x := List.take_of_length_le (by rw [beB_length]; omega)
      rw [hall] at hown
      go_wp2_with fail
      go_ret
      exact ⟨a, c, rfl, hown, hm, hin⟩

end Go.Proofs.YtakgnkjopbflbaaGreatDoor
