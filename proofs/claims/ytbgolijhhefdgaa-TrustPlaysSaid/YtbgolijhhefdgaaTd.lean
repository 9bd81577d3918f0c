/- The walk of TrustBounds: it returns true and writes nothing that was there. No condition. -/
import Derived.Test.YtbgolijhhefdgaaTc
namespace Go.Proofs.Ytbgolijhhefdgaa
open Go.RowKit

theorem notmem_nil {b : Nat} : ¬ b ∈ ([] : List Nat) := by simp

theorem one_new {a : Nat} {b : Nat} (h : a ≤ b) : ∀ x, x ∈ [b] → x ∈ ([] : List Nat) ∨ a ≤ x := by
  intro x hx; simp at hx; omega

theorem begin_ok' (b : Nat) (t : Tr) (n : Int) (w : World) (ht : TrAt w b t) (h0 : 0 ≤ t.E) (h : t.E < 60) (hn : t.E + 1 = n) :
    Calls Try.prog 10 #[.pointer (some ⟨b, 0, none⟩)] w (Did w b (.tuple #[.int .u64 n, .int .i64 0]) { t with E := n }) := by
  subst hn; exact begin_ok b t w ht h0 h
theorem start_ok' (b : Nat) (t : Tr) (n : Int) (w : World) (ht : TrAt w b t) (h0 : 0 ≤ t.S) (h : t.S < 300) (hn : t.S + 1 = n) :
    Calls Try.prog 14 #[.pointer (some ⟨b, 0, none⟩)] w (Did w b (.tuple #[.int .u64 n, .int .i64 0]) { t with S := n }) := by
  subst hn; exact start_ok b t w ht h0 h

def BndI (most : Int) (mk : Int → Tr) (w : World) (b : Nat) (i : Value) (wr : World) : Prop :=
  ∃ (k : Nat) (m : Int), 1 ≤ k ∧ (k : Int) ≤ most + 3 ∧ i = .int .u64 k ∧ ((k : Int) ≤ most → m + 1 = k) ∧ (most < k → m = most) ∧
    TrAt wr b (mk m) ∧ Mod w wr [] ∧ w.heap.size ≤ b

set_option maxHeartbeats 1000000 in
theorem bounds_false (w : World) : Calls Try.prog 4 #[.bool false] w (Yes w) := by
  go_enter Try.func4, Try.ntmps4
  go_wp2_with fail
  refine (new_ok w).mono ?_
  rintro e w1 ⟨b, rfl, hb, ht, hm⟩
  go_wp2_with fail
  refine (awake_yes w1).mono ?_
  rintro e w2 ⟨rfl, hm2⟩
  have ht2 := ht.mod hm2 notmem_nil
  have hm3 := hm.trans hm2
  clear ht hm hm2
  go_wp2_with fail
  go_loopw [5] (fun i wr => BndI 60 (fun m => ⟨m, 0, 0, 0, 0⟩) w b i wr) (fun i _ => (100 - intOf i).toNat)
  case atStart => exact ⟨1, 0, by omega, by omega, rfl, by omega, by omega, ht2, hm3, hb⟩
  case round =>
    obtain ⟨k, m, h1, hk, rfl, hi1, hi2, htr, hmr, _⟩ := hrel
    by_cases hle : (k : Int) ≤ 62
    · by_cases h60 : (k : Int) ≤ 60
      · have hmk := Lib.hid (hi1 h60)
        clear hi1 hi2
        go_wp2_with fail
        refine (begin_ok' b _ k wr htr (by have := hmk.out; simp; omega) (by have := hmk.out; simp; omega) hmk.out).mono ?_
        rintro e w4 ⟨rfl, ht4, hm4⟩
        go_wp2_with fail
        go_roundw
        case rel => exact ⟨k + 1, k, by omega, by omega, by go_num, by omega, by omega, ht4, hmr.drop hm4 (one_new hb), hb⟩
        case measure => simp [intOf]; omega
      · have hmk := hi2 (by omega)
        subst hmk
        clear hi1 hi2
        have hdk : decide ((k : Int) ≤ 60) = false := by simp; omega
        go_wp2_with fail
        refine (begin_no b _ wr htr (by simp)).mono ?_
        rintro e w4 ⟨rfl, ht4, hm4⟩
        go_wp2_with fail
        go_roundw
        case rel => exact ⟨k + 1, 60, by omega, by omega, by go_num, by omega, by omega, ht4, hmr.drop hm4 (one_new hb), hb⟩
        case measure => simp [intOf]; omega
    · clear hi1 hi2
      go_wp2_with fail
      go_ret
      exact ⟨rfl, hmr⟩

set_option maxHeartbeats 1000000 in
theorem bounds_true (w : World) : Calls Try.prog 4 #[.bool true] w (Yes w) := by
  go_enter Try.func4, Try.ntmps4
  go_wp2_with fail
  refine (new_ok w).mono ?_
  rintro e w1 ⟨b, rfl, hb, ht, hm⟩
  go_wp2_with fail
  refine (awake_yes w1).mono ?_
  rintro e w2 ⟨rfl, hm2⟩
  have ht2 := ht.mod hm2 notmem_nil
  have hm3 := hm.trans hm2
  clear ht hm hm2
  go_wp2_with fail
  go_loopw [5] (fun i wr => BndI 300 (fun m => ⟨0, 0, 0, m, 0⟩) w b i wr) (fun i _ => (400 - intOf i).toNat)
  case atStart => exact ⟨1, 0, by omega, by omega, rfl, by omega, by omega, ht2, hm3, hb⟩
  case round =>
    obtain ⟨k, m, h1, hk, rfl, hi1, hi2, htr, hmr, _⟩ := hrel
    by_cases hle : (k : Int) ≤ 302
    · by_cases h60 : (k : Int) ≤ 300
      · have hmk := Lib.hid (hi1 h60)
        clear hi1 hi2
        go_wp2_with fail
        refine (start_ok' b _ k wr htr (by have := hmk.out; simp; omega) (by have := hmk.out; simp; omega) hmk.out).mono ?_
        rintro e w4 ⟨rfl, ht4, hm4⟩
        go_wp2_with fail
        go_roundw
        case rel => exact ⟨k + 1, k, by omega, by omega, by go_num, by omega, by omega, ht4, hmr.drop hm4 (one_new hb), hb⟩
        case measure => simp [intOf]; omega
      · have hmk := hi2 (by omega)
        subst hmk
        clear hi1 hi2
        have hdk : decide ((k : Int) ≤ 300) = false := by simp; omega
        go_wp2_with fail
        refine (start_no b _ wr htr (by simp)).mono ?_
        rintro e w4 ⟨rfl, ht4, hm4⟩
        go_wp2_with fail
        go_roundw
        case rel => exact ⟨k + 1, 300, by omega, by omega, by go_num, by omega, by omega, ht4, hmr.drop hm4 (one_new hb), hb⟩
        case measure => simp [intOf]; omega
    · clear hi1 hi2
      go_wp2_with fail
      go_ret
      exact ⟨rfl, hmr⟩

theorem bounds_walk (starts : Bool) (w : World) : Calls Try.prog 4 #[.bool starts] w (Yes w) := by
  cases starts
  · exact bounds_false w
  · exact bounds_true w

end Go.Proofs.Ytbgolijhhefdgaa
