/- Turned words; octet.High; ct.Same, ct.Equal. No condition but sizes. -/
import Derived.Test.YtakgnkjopbflbaaGreatDoorCe
namespace Go.Proofs.YtakgnkjopbflbaaGreatDoor
open Go.RowKit

abbrev U32 (x : UInt32) : Value := .int .u32 (x.toNat : Int)

/-- A word, turned to the left. -/
def rot32 (x : UInt32) (r : Nat) : UInt32 := UInt32.ofNat ((x.toNat * 2 ^ r) % 4294967296 ||| x.toNat / 2 ^ (32 - r))

theorem rot_val (x : UInt32) (r : Nat) : bits BinOp.or IntKind.u32 (IntKind.u32.wrap ((x.toNat : Int) * 2 ^ r)) ((x.toNat : Int) / 2 ^ (32 - r)) = ((rot32 x r).toNat : Int) := by
  have hx := x.toNat_lt
  have e1 : IntKind.u32.wrap ((x.toNat : Int) * 2 ^ r) = ((x.toNat * 2 ^ r % 4294967296 : Nat) : Int) := by rw [IntKind.wrap_u32]; simp
  have e2 : (x.toNat : Int) / 2 ^ (32 - r) = ((x.toNat / 2 ^ (32 - r) : Nat) : Int) := by simp
  have hq : x.toNat / 2 ^ (32 - r) < 4294967296 := Nat.lt_of_le_of_lt (Nat.div_le_self _ _) hx
  have hp : x.toNat * 2 ^ r % 4294967296 < 4294967296 := Nat.mod_lt _ (by omega)
  rw [e1, e2]
  have h := (bits_nat .u32 32 (by decide) wraps_u32 _ _ (show x.toNat * 2 ^ r % 4294967296 < 2 ^ 32 from hp) (show x.toNat / 2 ^ (32 - r) < 2 ^ 32 from hq)).2
  rw [h]
  have hor : (x.toNat * 2 ^ r % 4294967296 ||| x.toNat / 2 ^ (32 - r)) < 2 ^ 32 := Nat.or_lt_two_pow hp hq
  unfold rot32
  rw [UInt32.toNat_ofNat_of_lt' hor]

theorem rot_val2 (x : UInt32) (r : Nat) : bits BinOp.or IntKind.u32 ((x.toNat : Int) * 2 ^ r % 4294967296) ((x.toNat : Int) / 2 ^ (32 - r)) = ((rot32 x r).toNat : Int) := by
  have h := rot_val x r
  rw [IntKind.wrap_u32] at h
  exact h

set_option maxRecDepth 100000 in
set_option maxHeartbeats 400000 in
theorem rotl_any (x : UInt32) (k : Int) (r : Nat) (hr : bits BinOp.and IntKind.u64 (IntKind.u64.wrap k) 31 = (r : Int)) (h32 : r < 32) (w : World) :
    Calls Tryz.prog 168 #[U32 x, .int .i64 k] w fun e w' => e = .returned (U32 (rot32 x r)) ∧ w' = w := by
  have hv := Lib.hid (rot_val2 x r)
  go_enter Tryz.func168, Tryz.ntmps168
  go_wp2_with fail
  go_ret
  exact ⟨by rw [hv.out]; rfl, rfl⟩

set_option maxRecDepth 100000 in
set_option maxHeartbeats 400000 in
theorem rotated_any (x : UInt32) (n : Int) (r : Nat) (h0 : 0 ≤ n) (h31 : n ≤ 31) (hr : bits BinOp.and IntKind.u64 (IntKind.u64.wrap (-n)) 31 = (r : Int)) (h32 : r < 32) (w : World) :
    Calls Tryz.prog 174 #[U32 x, .int .i64 n] w fun e w' => e = .returned (U32 (rot32 x r)) ∧ w' = w := by
  have hc := rotl_any x (-n) r hr h32
  clear hr
  go_enter Tryz.func174, Tryz.ntmps174
  go_wp2_with fail
  refine (hc _).mono ?_
  rintro e w1 ⟨rfl, rfl⟩
  go_wp2_with fail
  go_ret
  exact ⟨rfl, rfl⟩

/-- The number of bytes, the highest first. -/
def beN (l : List UInt8) : Nat := leN l.reverse
theorem beN_snoc (l : List UInt8) (b : UInt8) : beN (l ++ [b]) = b.toNat + 256 * beN l := by simp [beN, leN]
theorem beN_lt (l : List UInt8) : beN l < 256 ^ l.length := by
  have := leN_lt l.reverse
  rw [List.length_reverse] at this
  exact this

theorem high_step (u : Nat) (x : UInt8) (hu : u < 72057594037927936) : bits BinOp.or IntKind.u64 (IntKind.u64.wrap ((u : Int) * 256)) (IntKind.u64.wrap (x.toNat : Int)) = ((x.toNat + 256 * u : Nat) : Int) := by
  have hx := x.toNat_lt
  have e1 : IntKind.u64.wrap ((u : Int) * 256) = (256 * u : Int) := by rw [IntKind.wrap_u64]; omega
  have e2 : IntKind.u64.wrap (x.toNat : Int) = (x.toNat : Int) := u64_wrap_id _ (by omega) (by omega)
  rw [e1, e2, bits_join .u64 64 (by decide) wraps_u64 8 (256 * u : Int) (x.toNat : Int) (by omega) (by omega) (by omega) (by omega) (by omega) (by omega)]
  omega

set_option maxRecDepth 100000 in
set_option maxHeartbeats 1000000 in
theorem high_any (v : Value) (l : List UInt8) (n : Nat) (w : World) (hv : BytesAt w v l) (hn : n ≤ l.length) (h8 : n ≤ 8) :
    Calls Tryz.prog 175 #[v, .int .i64 n] w fun e w' => e = .returned (.int .u64 (beN (l.take n) : Nat)) ∧ w' = w := by
  obtain ⟨a, c, rfl, hlc, hcm⟩ := hv.form
  rw [List.length_map] at hlc hv ⊢
  unfold maxLen at hcm
  obtain ⟨N, hN⟩ : ∃ N, l.length = N := ⟨_, rfl⟩
  rw [hN] at hlc hn hv ⊢
  have HN := Lib.hid hN
  clear hN
  go_enter Tryz.func175, Tryz.ntmps175
  go_wp2_with fail
  go_loop [5, 6, 8] (fun v _ i => ∃ k : Nat, k ≤ n ∧ i = .int .i64 k ∧ v = .int .u64 (beN (l.take k) : Nat)) (fun _ _ i => n - (intOf i).toNat)
  case atStart => exact ⟨0, Nat.zero_le _, rfl, rfl⟩
  case round =>
    obtain ⟨k, hk, rfl, rfl⟩ := hrel
    by_cases hlt : k < n
    · obtain ⟨x, hx⟩ : ∃ x, l[k]? = some x := ⟨_, List.getElem?_eq_getElem (by rw [HN.out]; omega)⟩
      obtain ⟨b, o, rfl, hc⟩ := row_at hv k (B x) (by rw [List.getElem?_map, hx]; rfl)
      unfold B at hc
      obtain ⟨u, hu⟩ : ∃ u, beN (l.take k) = u := ⟨_, rfl⟩
      have hlen : (l.take k).length = k := by rw [List.length_take, HN.out]; omega
      have hul : u < 72057594037927936 := by
        have h1 := beN_lt (l.take k)
        rw [hlen, hu] at h1
        have h2 : 256 ^ k ≤ 256 ^ 7 := Nat.pow_le_pow_right (by omega) (by omega)
        have h3 : (256 : Nat) ^ 7 = 72057594037927936 := by decide
        omega
      have hnext : beN (l.take (k + 1)) = x.toNat + 256 * u := by rw [take_snoc l k x hx, beN_snoc, hu]
      have hst := high_step u x hul
      have HU := Lib.hid hnext
      have HS := Lib.hid hst
      clear hx hv hnext hst hul hlen
      rw [hu]
      clear hu
      go_wp2_with fail
      exact ⟨⟨k + 1, by omega, by go_num, by rw [HU.out, HS.out]⟩, by simp [intOf]; omega⟩
    · obtain rfl : k = n := by omega
      clear hv
      go_wp2_with fail
      go_ret
      exact ⟨rfl, rfl⟩

theorem same_zero (x : UInt8) : bits BinOp.xor IntKind.u64 (bits BinOp.or IntKind.u64 (bits BinOp.xor IntKind.u64 (x.toNat : Int) 0) (IntKind.u64.wrap (-(bits BinOp.xor IntKind.u64 (x.toNat : Int) 0))) / 9223372036854775808) 1 = if x = 0 then 1 else 0 := by
  have h : ∀ n : Fin 256, bits BinOp.xor IntKind.u64 (bits BinOp.or IntKind.u64 (bits BinOp.xor IntKind.u64 ((n.val : Nat) : Int) 0) (IntKind.u64.wrap (-(bits BinOp.xor IntKind.u64 ((n.val : Nat) : Int) 0))) / 9223372036854775808) 1 = if n.val = 0 then 1 else 0 := by decide +kernel
  have h2 := h ⟨x.toNat, x.toNat_lt⟩
  have e : (x = 0) ↔ x.toNat = 0 := by rw [← UInt8.toNat_inj]; rfl
  simp only [e]
  exact h2

/-- 1, if it is so. -/
def oneIf (b : Bool) : Int := bif b then 1 else 0

set_option maxRecDepth 100000 in
set_option maxHeartbeats 1000000 in
theorem same_zero_any (x : UInt8) (w : World) :
    Calls Tryz.prog 136 #[.int .u64 (x.toNat : Int), .int .u64 0] w fun e w' => e = .returned (.int .u64 (oneIf (x == 0))) ∧ w' = w := by
  have hx := Lib.hid (same_zero x)
  go_enter Tryz.func136, Tryz.ntmps136
  go_wp2_with fail
  go_ret
  refine ⟨?_, rfl⟩
  have e : oneIf (x == 0) = if x = 0 then 1 else 0 := by
    unfold oneIf
    by_cases h : x = 0
    · subst h; rfl
    · rw [if_neg h, beq_eq_false_iff_ne.2 h]; rfl
  rw [e]
  exact congrArg (fun z => Ending.returned (.int .u64 z)) hx.out

theorem or_xor_zero (d x y : UInt8) : d ||| (x ^^^ y) = 0 ↔ d = 0 ∧ x = y := by
  rw [UInt8.or_eq_zero_iff, UInt8.xor_eq_zero_iff]

theorem take_eq_snoc (l m : List UInt8) (k : Nat) (x y : UInt8) (hx : l[k]? = some x) (hy : m[k]? = some y) : l.take (k + 1) = m.take (k + 1) ↔ l.take k = m.take k ∧ x = y := by
  rw [take_snoc l k x hx, take_snoc m k y hy]
  constructor
  · intro h
    have h1 := (List.append_inj' h rfl)
    exact ⟨h1.1, by simpa using h1.2⟩
  · rintro ⟨h1, rfl⟩
    rw [h1]

set_option maxRecDepth 100000 in
set_option maxHeartbeats 1000000 in
theorem equal_any (a1 a2 : Option Addr) (n1 c1 n2 c2 : Nat) (l m : List UInt8) (w : World) (h1 : BytesAt w (.slice a1 n1 c1) l) (h2 : BytesAt w (.slice a2 n2 c2) m) (e1 : l.length = n1) (e2 : m.length = n2) :
    Calls Tryz.prog 114 #[.slice a1 n1 c1, .slice a2 n2 c2] w fun e w' => e = .returned (.int .u64 (oneIf (decide (l = m)))) ∧ ∃ n, w' = w.drewN n := by
  obtain ⟨_, _, hf1, hl1, hm1⟩ := h1.form
  obtain ⟨_, _, hf2, hl2, hm2⟩ := h2.form
  cases hf1; cases hf2
  rw [List.length_map] at hl1 hl2 h1 h2 ⊢
  rw [List.length_map]
  clear e1 e2
  unfold maxLen at hm1 hm2
  obtain ⟨N, hN⟩ : ∃ N, l.length = N := ⟨_, rfl⟩
  obtain ⟨M, hM⟩ : ∃ M, m.length = M := ⟨_, rfl⟩
  rw [hN] at h1 hl1 ⊢
  rw [hM] at h2 hl2 ⊢
  have HN := Lib.hid hN
  have HM := Lib.hid hM
  clear hN hM
  by_cases hne : N = M
  · subst hne
    obtain ⟨res, hres⟩ : ∃ res, oneIf (decide (l = m)) = res := ⟨_, rfl⟩
    rw [hres]
    have HR := Lib.hid hres
    clear hres
    go_enter Tryz.func114, Tryz.ntmps114
    go_wp2_with fail
    go_loopw [5, 6, 14] (fun v _ i wr => ∃ k : Nat, k ≤ N ∧ i = .int .i64 k ∧ (∃ n, wr = w.drewN n) ∧ ∃ d : UInt8, v = .int .u8 (d.toNat : Int) ∧ (d = 0 ↔ l.take k = m.take k)) (fun _ _ i _ => N - (intOf i).toNat)
    case atStart => exact ⟨0, Nat.zero_le _, rfl, ⟨0, rfl⟩, 0, rfl, by simp⟩
    case round =>
      obtain ⟨k, hk, rfl, ⟨n, rfl⟩, d, rfl, hd⟩ := hrel
      by_cases hlt : k < N
      · obtain ⟨x, hx⟩ : ∃ x, l[k]? = some x := ⟨_, List.getElem?_eq_getElem (by rw [HN.out]; exact hlt)⟩
        obtain ⟨y, hy⟩ : ∃ y, m[k]? = some y := ⟨_, List.getElem?_eq_getElem (by rw [HM.out]; exact hlt)⟩
        obtain ⟨b, o, rfl, hc⟩ := row_at h1 k (B x) (by rw [List.getElem?_map, hx]; rfl)
        obtain ⟨b2, o2, rfl, hc2⟩ := row_at h2 k (B y) (by rw [List.getElem?_map, hy]; rfl)
        unfold B at hc hc2
        have hst := take_eq_snoc l m k x y hx hy
        have hor := or_xor_zero d x y
        rw [hd, ← hst] at hor
        have hx8 := xor_u8 x y
        have ho8 := or_u8 d (x ^^^ y)
        obtain ⟨z, hz⟩ : ∃ z, x ^^^ y = z := ⟨_, rfl⟩
        rw [hz] at hx8 ho8
        obtain ⟨d2, hd2⟩ : ∃ d2, d ||| z = d2 := ⟨_, rfl⟩
        rw [hd2] at ho8
        have hO2 : d2 = 0 ↔ l.take (k + 1) = m.take (k + 1) := by rw [← hd2, ← hz]; exact hor
        clear hor hst hd hx hy h1 h2 hz hd2
        have HO := Lib.hid hO2
        clear hO2
        go_wp2_with fail
        go_quiet (fail)
        go_wp2_with fail
        exact ⟨⟨k + 1, by omega, by go_num, ⟨n + nq, rfl⟩, d2, rfl, HO.out⟩, by simp [intOf]; omega⟩
      · obtain rfl : k = N := by omega
        have hfin : oneIf (d == 0) = res := by
          rw [← HR.out]
          congr 1
          rw [List.take_of_length_le (by rw [HN.out]; omega), List.take_of_length_le (by rw [HM.out]; omega)] at hd
          rw [Bool.eq_iff_iff]
          simpa using hd
        have HF := Lib.hid hfin
        have hdw : IntKind.u64.wrap (d.toNat : Int) = (d.toNat : Int) := by have := d.toNat_lt; exact u64_wrap_id _ (by omega) (by omega)
        have hc := same_zero_any d (w.drewN n)
        rw [HF.out] at hc
        clear h1 h2 hfin hd
        go_wp2_with fail
        refine hc.mono ?_
        rintro e w1 ⟨rfl, rfl⟩
        go_wp2_with fail
        go_ret
        exact ⟨rfl, n, rfl⟩
  · have hlm : decide (l = m) = false := by
      rw [decide_eq_false_iff_not]
      intro h; subst h
      exact hne (HN.out.symm.trans HM.out)
    rw [hlm]
    go_enter Tryz.func114, Tryz.ntmps114
    go_wp2_with fail
    go_ret
    exact ⟨rfl, 0, rfl⟩

end Go.Proofs.YtakgnkjopbflbaaGreatDoor
