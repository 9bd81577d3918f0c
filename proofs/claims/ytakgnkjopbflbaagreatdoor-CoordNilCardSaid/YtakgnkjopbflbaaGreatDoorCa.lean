/- Numbers as bytes: octet.Low. No condition but lengths. -/
import Derived.Lib.EndianBits
import Derived.Test.YtakgnkjopbflbaaGreatDoorBc
namespace Go.Proofs.YtakgnkjopbflbaaGreatDoor
open Go.RowKit

/-- The number of bytes, the lowest first. -/
def leN : List UInt8 → Nat
  | [] => 0
  | b :: l => b.toNat + 256 * leN l
/-- So many bytes of a number, the lowest first. -/
def leB : Nat → Nat → List UInt8
  | 0, _ => []
  | k + 1, v => UInt8.ofNat v :: leB k (v / 256)

theorem leN_lt : ∀ l : List UInt8, leN l < 256 ^ l.length
  | [] => by simp [leN]
  | b :: l => by
    have := leN_lt l
    have hb := b.toNat_lt
    simp only [leN, List.length_cons, Nat.pow_succ]
    omega
theorem leB_length : ∀ (k v : Nat), (leB k v).length = k
  | 0, _ => rfl
  | k + 1, v => by simp [leB, leB_length k]
theorem leN_leB : ∀ (k v : Nat), leN (leB k v) = v % 256 ^ k
  | 0, v => by simp [leB, leN, Nat.mod_one]
  | k + 1, v => by
    simp only [leB, leN, leN_leB k]
    have h : (UInt8.ofNat v).toNat = v % 256 := by simp
    rw [h, Nat.pow_succ, Nat.mul_comm (256 ^ k) 256, Nat.mod_mul]
theorem leB_leN : ∀ l : List UInt8, leB l.length (leN l) = l
  | [] => rfl
  | b :: l => by
    have hb := b.toNat_lt
    simp only [leN, List.length_cons, leB]
    have h1 : (b.toNat + 256 * leN l) / 256 = leN l := by omega
    have h2 : UInt8.ofNat (b.toNat + 256 * leN l) = b := by
      apply UInt8.toNat_inj.1
      simp
    rw [h1, h2, leB_leN l]
theorem leN_snoc : ∀ (l : List UInt8) (b : UInt8), leN (l ++ [b]) = leN l + b.toNat * 256 ^ l.length
  | [], b => by simp [leN]
  | c :: l, b => by
    simp only [List.cons_append, leN, leN_snoc l b, List.length_cons, Nat.pow_succ]
    rw [Nat.mul_add, ← Nat.add_assoc, Nat.mul_left_comm]
    congr 1
    rw [Nat.mul_comm (256 ^ l.length) 256]

theorem pow256 (k : Nat) : 256 ^ k = 2 ^ (8 * k) := by rw [Nat.pow_mul]
theorem pow_le64 {k : Nat} (hk : k < 8) : 256 ^ k * 256 ≤ 18446744073709551616 := by
  have h : 256 ^ (k + 1) ≤ 256 ^ 8 := Nat.pow_le_pow_right (by omega) (by omega)
  rw [Nat.pow_succ] at h
  simpa using h
/-- A byte more. -/
theorem low_step (u k : Nat) (x : UInt8) (hu : u < 256 ^ k) (hk : k < 8) : bits BinOp.or IntKind.u64 (u : Int) (IntKind.u64.wrap (IntKind.u64.wrap (x.toNat : Int) * 2 ^ (8 * k))) = ((u + x.toNat * 256 ^ k : Nat) : Int) := by
  have hx := x.toNat_lt
  have h64 := pow_le64 hk
  have hm : x.toNat * 256 ^ k < 18446744073709551616 := by
    have : x.toNat * 256 ^ k ≤ 255 * 256 ^ k := Nat.mul_le_mul_right _ (by omega)
    have hp : 0 < 256 ^ k := Nat.pow_pos (by omega)
    omega
  have hu64 : u < 18446744073709551616 := by omega
  have e1 : IntKind.u64.wrap (x.toNat : Int) = (x.toNat : Int) := u64_wrap_id _ (by omega) (by omega)
  have e2 : ((x.toNat : Int) * 2 ^ (8 * k)) = ((x.toNat * 256 ^ k : Nat) : Int) := by rw [pow256]; simp
  rw [e1, e2]
  generalize hy : x.toNat * 256 ^ k = y at hm ⊢
  rw [u64_wrap_id _ (by omega) (by omega)]
  rw [bits_join_low .u64 64 (by decide) wraps_u64 (8 * k) (u : Int) (y : Int) (by omega) (by rw [pow256] at hu; exact_mod_cast hu) (by omega) (by omega) (by rw [← hy, pow256]; simp) (by omega)]
  simp

set_option maxRecDepth 100000 in
set_option maxHeartbeats 1000000 in
theorem low_any (v : Value) (l : List UInt8) (n : Nat) (w : World) (hv : BytesAt w v l) (hn : n ≤ l.length) (h8 : n ≤ 8) :
    Calls Tryz.prog 80 #[v, .int .i64 n] w fun e w' => e = .returned (.int .u64 (leN (l.take n) : Nat)) ∧ w' = w := by
  obtain ⟨a, c, rfl, hlc, hcm⟩ := hv.form
  rw [List.length_map] at hlc ⊢
  unfold maxLen at hcm
  obtain ⟨N, hN⟩ : ∃ N, l.length = N := ⟨_, rfl⟩
  rw [hN] at hlc hn ⊢
  have HN := Lib.hid hN
  clear hN
  go_enter Tryz.func80, Tryz.ntmps80
  go_wp2_with fail
  go_loop [5, 6, 8] (fun v _ i => ∃ k : Nat, k ≤ n ∧ i = .int .i64 k ∧ v = .int .u64 (leN (l.take k) : Nat)) (fun _ _ i => n - (intOf i).toNat)
  case atStart => exact ⟨0, Nat.zero_le _, rfl, rfl⟩
  case round =>
    obtain ⟨k, hk, rfl, rfl⟩ := hrel
    by_cases hlt : k < n
    · obtain ⟨x, hx⟩ : ∃ x, l[k]? = some x := ⟨_, List.getElem?_eq_getElem (by rw [HN.out]; omega)⟩
      obtain ⟨b, o, rfl, hc⟩ : ∃ b o, a = some ⟨b, o, none⟩ ∧ w.cell? ⟨b, o + k, none⟩ = some (.int .u8 (x.toNat : Int)) := by
        rcases hv with (⟨h1, h2⟩ | ⟨b, o, cap, h1, _, _, _, h4⟩) | ⟨h1, _⟩
        · have := congrArg List.length h2
          simp [HN.out] at this; omega
        · cases h1
          exact ⟨b, o, rfl, h4 k _ (by rw [List.getElem?_map, hx]; rfl)⟩
        · have := congrArg List.length h1
          simp [HN.out] at this; omega
      obtain ⟨u, hu⟩ : ∃ u, leN (l.take k) = u := ⟨_, rfl⟩
      have hlen : (l.take k).length = k := by rw [List.length_take, HN.out]; omega
      have hul : u < 256 ^ k := by rw [← hu]; have := leN_lt (l.take k); rw [hlen] at this; exact this
      have hnext : leN (l.take (k + 1)) = u + x.toNat * 256 ^ k := by
        have h2 : l.take (k + 1) = l.take k ++ [x] := by rw [List.take_add_one, hx]; rfl
        rw [h2, leN_snoc, hu, hlen]
      have hst := low_step u k x hul (by omega)
      rw [hu]
      have HU := Lib.hid hnext
      have HS := Lib.hid hst
      clear hu hx hv hnext hst hul hlen
      go_wp2_with fail
      exact ⟨⟨k + 1, by omega, by go_num, by rw [HU.out, HS.out]⟩, by simp [intOf]; omega⟩
    · obtain rfl : k = n := by omega
      clear hv
      go_wp2_with fail
      go_ret
      exact ⟨rfl, rfl⟩

end Go.Proofs.YtakgnkjopbflbaaGreatDoor
