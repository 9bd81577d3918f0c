/- The helper Plain of two like lists: texts, bytes. No condition. -/
import Derived.Test.YtbpdmncobeiinaaPl
namespace Go.Proofs.Ytbpdmncobeiinaa
open Go.RowKit

theorem eq_str (a : ByteArray) (w : World) : Calls Try.prog 65 #[.string a, .string a] w fun e w' => e = .returned (.bool true) ∧ w' = w := by
  go_enter Try.func65, Try.ntmps65
  go_wp2_with fail
  go_ret
  exact ⟨by simp, rfl⟩
theorem eq_byte (a : UInt8) (w : World) : Calls Try.prog 63 #[.int .u8 (a.toNat : Int), .int .u8 (a.toNat : Int)] w fun e w' => e = .returned (.bool true) ∧ w' = w := by
  go_enter Try.func63, Try.ntmps63
  go_wp2_with fail
  go_ret
  exact ⟨by simp, rfl⟩

/-- A cell of a row. -/
theorem RowIn.at {w : World} {a : Option Addr} {n c : Nat} {xs : List Value} (h : RowIn w (.slice a n c) xs) (k : Nat) (x : Value) (hx : xs[k]? = some x) : ∃ b o, a = some ⟨b, o, none⟩ ∧ w.cell? ⟨b, o + k, none⟩ = some x := by
  rcases h with (⟨h1, rfl⟩ | ⟨b, o, cap, h1, _, _, _, h2⟩) | ⟨rfl, _⟩
  · simp at hx
  · cases h1
    exact ⟨b, o, rfl, h2 k x hx⟩
  · simp at hx

set_option maxRecDepth 100000 in
set_option maxHeartbeats 2000000 in
theorem same_str (u v : Value) (ns : List ByteArray) (w : World) (hu : RowIn w u (ns.map Value.string)) (hv : RowIn w v (ns.map Value.string)) :
    Calls Try.prog 64 #[u, v, .func (.func 65) #[] #[]] w (Looks w (.bool true)) := by
  obtain ⟨ua, uc, huf, _, hcu⟩ := hu.form
  obtain ⟨va, vc, hvf, _, hcv⟩ := hv.form
  rw [List.length_map] at huf hvf
  subst huf; subst hvf
  obtain ⟨n, hn⟩ : ∃ n, ns.length = n := ⟨_, rfl⟩
  rw [hn] at hu hv ⊢
  have HN := Lib.hid hn
  have hnc : n ≤ 9223372036854775807 := by
    have : (ns.map Value.string).length = n := by simp [hn]
    unfold maxLen at hcu
    omega
  clear hn hcu hcv
  have dn : ((n : Int) == (n : Int)) = true := by simp
  go_enter Try.func64, Try.ntmps64
  go_wp2_with fail
  go_loopw [7] (fun i wr => ∃ k : Nat, k ≤ n ∧ i = .int .i64 k ∧ ∃ m, wr = w.drewN m) (fun i _ => n - (intOf i).toNat)
  case atStart => exact ⟨0, Nat.zero_le _, rfl, 0, rfl⟩
  case round =>
    obtain ⟨k, hk, rfl, m, hm⟩ := hrel
    by_cases hlt : k < n
    · obtain ⟨x, hx⟩ : ∃ x, ns[k]? = some x := ⟨_, List.getElem?_eq_getElem (by rw [HN.out]; exact hlt)⟩
      have hmm : Mod w wr Nob := by rw [hm]; exact (Mod.refl w Nob).drewN m
      obtain ⟨bu, ou, rfl, cu⟩ := (hu.mod hmm (fun _ _ => nob)).at k (.string x) (by rw [List.getElem?_map, hx]; rfl)
      obtain ⟨bv, ov, rfl, cv⟩ := (hv.mod hmm (fun _ _ => nob)).at k (.string x) (by rw [List.getElem?_map, hx]; rfl)
      have HMM := Lib.hid hm
      clear hu hv hx hm
      go_wp2_with fail
      go_quiet ((go_at_call 65; exact Calls.quiet_of_same (eq_str x _)))
      go_wp2_with fail
      refine ⟨⟨k + 1, by omega, by go_num, m + nq, by rw [HMM.out, World.drewN_drewN]⟩, by simp [intOf]; omega⟩
    · obtain rfl : k = n := by omega
      have HMM := Lib.hid hm
      clear hm
      go_wp2_with fail
      go_ret
      exact ⟨rfl, m, HMM.out⟩

set_option maxRecDepth 100000 in
theorem plain_str (u v : Value) (ns : List ByteArray) (w : World) (hu : RowIn w u (ns.map Value.string)) (hv : RowIn w v (ns.map Value.string)) :
    Calls Try.prog 49 #[u, v] w (Looks w (.bool true)) := by
  have hs := same_str u v ns w hu hv
  obtain ⟨ua, uc, huf, _, _⟩ := hu.form
  obtain ⟨va, vc, hvf, _, _⟩ := hv.form
  rw [List.length_map] at huf hvf
  obtain ⟨n, hn⟩ : ∃ n, ns.length = n := ⟨_, rfl⟩
  rw [hn] at huf hvf
  subst huf; subst hvf
  clear hu hv hn
  go_enter Try.func49, Try.ntmps49
  go_wp2_with fail
  refine hs.mono ?_
  rintro e w1 ⟨rfl, m, rfl⟩
  go_wp2_with fail
  go_ret
  exact ⟨rfl, m, rfl⟩

set_option maxRecDepth 100000 in
set_option maxHeartbeats 2000000 in
theorem same_byte (u v : Value) (ns : List UInt8) (w : World) (hu : RowIn w u (ns.map B)) (hv : RowIn w v (ns.map B)) :
    Calls Try.prog 62 #[u, v, .func (.func 63) #[] #[]] w (Looks w (.bool true)) := by
  obtain ⟨ua, uc, huf, _, hcu⟩ := hu.form
  obtain ⟨va, vc, hvf, _, hcv⟩ := hv.form
  rw [List.length_map] at huf hvf
  subst huf; subst hvf
  obtain ⟨n, hn⟩ : ∃ n, ns.length = n := ⟨_, rfl⟩
  rw [hn] at hu hv ⊢
  have HN := Lib.hid hn
  have hnc : n ≤ 9223372036854775807 := by
    have : (ns.map B).length = n := by simp [hn]
    unfold maxLen at hcu
    omega
  clear hn hcu hcv
  have dn : ((n : Int) == (n : Int)) = true := by simp
  go_enter Try.func62, Try.ntmps62
  go_wp2_with fail
  go_loopw [7] (fun i wr => ∃ k : Nat, k ≤ n ∧ i = .int .i64 k ∧ ∃ m, wr = w.drewN m) (fun i _ => n - (intOf i).toNat)
  case atStart => exact ⟨0, Nat.zero_le _, rfl, 0, rfl⟩
  case round =>
    obtain ⟨k, hk, rfl, m, hm⟩ := hrel
    by_cases hlt : k < n
    · obtain ⟨x, hx⟩ : ∃ x, ns[k]? = some x := ⟨_, List.getElem?_eq_getElem (by rw [HN.out]; exact hlt)⟩
      have hmm : Mod w wr Nob := by rw [hm]; exact (Mod.refl w Nob).drewN m
      obtain ⟨bu, ou, rfl, cu⟩ := (hu.mod hmm (fun _ _ => nob)).at k (B x) (by rw [List.getElem?_map, hx]; rfl)
      obtain ⟨bv, ov, rfl, cv⟩ := (hv.mod hmm (fun _ _ => nob)).at k (B x) (by rw [List.getElem?_map, hx]; rfl)
      unfold B at cu cv
      have HMM := Lib.hid hm
      clear hu hv hx hm
      go_wp2_with fail
      go_quiet ((go_at_call 63; exact Calls.quiet_of_same (eq_byte x _)))
      go_wp2_with fail
      refine ⟨⟨k + 1, by omega, by go_num, m + nq, by rw [HMM.out, World.drewN_drewN]⟩, by simp [intOf]; omega⟩
    · obtain rfl : k = n := by omega
      have HMM := Lib.hid hm
      clear hm
      go_wp2_with fail
      go_ret
      exact ⟨rfl, m, HMM.out⟩

set_option maxRecDepth 100000 in
theorem plain_byte (u v : Value) (ns : List UInt8) (w : World) (hu : RowIn w u (ns.map B)) (hv : RowIn w v (ns.map B)) :
    Calls Try.prog 48 #[u, v] w (Looks w (.bool true)) := by
  have hs := same_byte u v ns w hu hv
  obtain ⟨ua, uc, huf, _, _⟩ := hu.form
  obtain ⟨va, vc, hvf, _, _⟩ := hv.form
  rw [List.length_map] at huf hvf
  obtain ⟨n, hn⟩ : ∃ n, ns.length = n := ⟨_, rfl⟩
  rw [hn] at huf hvf
  subst huf; subst hvf
  clear hu hv hn
  go_enter Try.func48, Try.ntmps48
  go_wp2_with fail
  refine hs.mono ?_
  rintro e w1 ⟨rfl, m, rfl⟩
  go_wp2_with fail
  go_ret
  exact ⟨rfl, m, rfl⟩

end Go.Proofs.Ytbpdmncobeiinaa
