/- The walk of TrustEpochs: it returns true and writes nothing that was there. No condition. -/
import Derived.Test.YtbgolijhhefdgaaTe
namespace Go.Proofs.Ytbgolijhhefdgaa
open Go.RowKit

theorem move_ok' (b : Nat) (t : Tr) (n : Int) (w : World) (ht : TrAt w b t) (hC0 : 0 ≤ t.C) (hC : t.C < 1000) (h0 : t.E ≠ 0) (hn : n = t.E) :
    Calls Try.prog 11 #[.pointer (some ⟨b, 0, none⟩), .int .u64 n] w (Did w b (.int .i64 0) { t with C := t.C + 1, W := t.E }) := by
  subst hn; exact move_ok b t w ht hC0 hC h0

theorem move_bad (b : Nat) (t : Tr) (n : Int) (w : World) (ht : TrAt w b t) (hn : n = 0 ∨ n ≠ t.E) :
    Calls Try.prog 11 #[.pointer (some ⟨b, 0, none⟩), .int .u64 n] w (Did w b (.int .i64 13) t) := by
  by_cases h : n = 0
  · subst h; exact move_zero b t w ht
  · exact move_no b t n w ht h (by omega)

def EpI (w : World) (len : Nat) (b : Nat) (ep co wri i : Value) (wr : World) : Prop :=
  ∃ (k : Nat) (E C W : Int), k ≤ len ∧ k ≤ 100 ∧ i = .int .i64 k ∧ 0 ≤ E ∧ E ≤ 60 ∧ 0 ≤ C ∧ C ≤ k ∧ ep = .int .u64 E ∧ co = .int .u64 C ∧ wri = .int .u64 W ∧ TrAt wr b ⟨E, C, W, 0, 0⟩ ∧ Mod w wr []

set_option maxRecDepth 100000 in
set_option maxHeartbeats 2000000 in
theorem epochs_walk (a : Option Addr) (len cap : Nat) (w : World) (hrow : Rowed w [.int .i64] a len cap) : Calls Try.prog 3 #[.slice a len cap] w (Yes w) := by
  rcases rowed_ints hrow with h0 | ⟨sb, so, rfl, hsb, hlen, zs, hcell⟩
  · subst h0
    clear hrow
    go_enter Try.func3, Try.ntmps3
    go_wp2_with fail
    refine (new_ok w).mono ?_
    rintro e w1 ⟨b, rfl, hb, ht, hm⟩
    go_wp2_with fail
    refine (awake_yes w1).mono ?_
    rintro e w2 ⟨rfl, hm2⟩
    have hm3 := hm.trans hm2
    clear ht hm hm2
    go_wp2_with fail
    refine wp_loop_once ?_
    go_wp2_with fail
    go_ret
    exact ⟨rfl, hm3⟩
  · clear hrow
    go_enter Try.func3, Try.ntmps3
    go_wp2_with fail
    refine (new_ok w).mono ?_
    rintro e w1 ⟨b, rfl, hb, ht, hm⟩
    go_wp2_with fail
    refine (awake_yes w1).mono ?_
    rintro e w2 ⟨rfl, hm2⟩
    have ht2 := ht.mod hm2 notmem_nil
    have hm3 := hm.trans hm2
    clear ht hm hm2
    go_wp2_with fail
    go_loopw [4, 5, 6, 7] (fun ep co wri i wr => EpI w len b ep co wri i wr) (fun _ _ _ i _ => (len - intOf i).toNat)
    case atStart => exact ⟨0, 0, 0, 0, by omega, by omega, rfl, by omega, by omega, by omega, by omega, rfl, rfl, rfl, ht2, hm3⟩
    case round =>
      obtain ⟨k, E, C, W, hk, hk2, rfl, hE0, hE1, hC0, hC1, rfl, rfl, rfl, htr, hmr⟩ := hrel
      by_cases hlt : k < len ∧ k < 100
      · obtain ⟨hl1, hl2⟩ := hlt
        obtain ⟨c0, hwf⟩ := hcell k hl1
        have hz := bounds_i64 hwf
        clear hwf
        obtain ⟨z, hzz⟩ : ∃ z, zs k = z := ⟨_, rfl⟩
        rw [hzz] at c0 hz
        have hc1 : wr.cell? ⟨sb, so + k, none⟩ = some (.int .i64 z) := by rw [hmr.cell hsb notmem_nil, c0]
        clear hzz hcell c0
        obtain ⟨n, hn⟩ : ∃ n, (IntKind.u64.wrap z).tmod 8 = n := ⟨_, rfl⟩
        have hnb : 0 ≤ n ∧ n < 8 := by
          have h1 : 0 ≤ IntKind.u64.wrap z := by unfold IntKind.wrap; simp [IntKind.signed, IntKind.bits]; omega
          rw [Int.tmod_eq_emod_of_nonneg h1] at hn
          omega
        obtain ⟨hn0, hn1⟩ := hnb
        obtain ⟨q, hq⟩ : ∃ q, n.tmod 3 = q := ⟨_, rfl⟩
        have hqb : 0 ≤ q ∧ q < 3 ∧ (n = 0 → q = 0) := by
          rw [Int.tmod_eq_emod_of_nonneg hn0] at hq
          omega
        obtain ⟨hq0, hq1, hq2⟩ := hqb
        by_cases hA : n = 0
        · subst hA
          have hq3 := hq2 rfl
          subst hq3
          clear hq2 hq
          by_cases hE : E < 60
          · go_wp2_with fail
            refine (begin_ok b _ wr htr (by simp; omega) (by simp; omega)).mono ?_
            rintro e w4 ⟨rfl, ht4, hm4⟩
            go_wp2_with fail
            go_roundw
            case rel => exact ⟨k + 1, E + 1, C, W, by omega, by omega, by go_num, by omega, by omega, by omega, by omega, rfl, rfl, rfl, ht4, hmr.drop hm4 (one_new hb)⟩
            case measure => simp [intOf]; omega
          · have hE2 : (E == 0) = false := by simp; omega
            go_wp2_with fail
            refine (move_ok b _ wr htr (by simp; omega) (by simp; omega) (by simp; omega)).mono ?_
            rintro e w4 ⟨rfl, ht4, hm4⟩
            go_wp2_with fail
            refine (count_any b _ w4 ht4).mono ?_
            rintro e w5 ⟨rfl, rfl⟩
            go_wp2_with fail
            refine (writer_any b _ w4 ht4).mono ?_
            rintro e w5 ⟨rfl, rfl⟩
            go_wp2_with fail
            go_roundw
            case rel => exact ⟨k + 1, E, C + 1, E, by omega, by omega, by go_num, by omega, by omega, by omega, by omega, rfl, rfl, rfl, ht4, hmr.drop hm4 (one_new hb)⟩
            case measure => simp [intOf]; omega
        · have hA2 : (n == 0) = false := by simpa using hA
          clear hA hq2
          by_cases hB : 0 < q ∧ q ≤ E
          · obtain ⟨hB1, hB2⟩ := hB
            have hB3 : (q == 0) = false := by simp; omega
            have hB4 : decide (E < q) = false := by simp; omega
            go_wp2_with fail
            refine (move_bad b _ (E - q) wr htr (by simp; omega)).mono ?_
            rintro e w4 ⟨rfl, ht4, hm4⟩
            go_wp2_with fail
            refine (count_any b _ w4 ht4).mono ?_
            rintro e w5 ⟨rfl, rfl⟩
            go_wp2_with fail
            refine (writer_any b _ w4 ht4).mono ?_
            rintro e w5 ⟨rfl, rfl⟩
            go_wp2_with fail
            go_roundw
            case rel => exact ⟨k + 1, E, C, W, by omega, by omega, by go_num, by omega, by omega, by omega, by omega, rfl, rfl, rfl, ht4, hmr.drop hm4 (one_new hb)⟩
            case measure => simp [intOf]; omega
          · by_cases hE : E = 0
            · subst hE
              by_cases hq5 : q = 0
              · subst hq5
                clear hB
                go_wp2_with fail
                refine (move_bad b _ 0 wr htr (by simp)).mono ?_
                rintro e w4 ⟨rfl, ht4, hm4⟩
                go_wp2_with fail
                refine (count_any b _ w4 ht4).mono ?_
                rintro e w5 ⟨rfl, rfl⟩
                go_wp2_with fail
                refine (writer_any b _ w4 ht4).mono ?_
                rintro e w5 ⟨rfl, rfl⟩
                go_wp2_with fail
                go_roundw
                case rel => exact ⟨k + 1, 0, C, W, by omega, by omega, by go_num, by omega, by omega, by omega, by omega, rfl, rfl, rfl, ht4, hmr.drop hm4 (one_new hb)⟩
                case measure => simp [intOf]; omega
              · have hq6 : decide (0 < q) = true := by simp; omega
                clear hB hq5
                go_wp2_with fail
                refine (move_bad b _ 0 wr htr (by simp)).mono ?_
                rintro e w4 ⟨rfl, ht4, hm4⟩
                go_wp2_with fail
                refine (count_any b _ w4 ht4).mono ?_
                rintro e w5 ⟨rfl, rfl⟩
                go_wp2_with fail
                refine (writer_any b _ w4 ht4).mono ?_
                rintro e w5 ⟨rfl, rfl⟩
                go_wp2_with fail
                go_roundw
                case rel => exact ⟨k + 1, 0, C, W, by omega, by omega, by go_num, by omega, by omega, by omega, by omega, rfl, rfl, rfl, ht4, hmr.drop hm4 (one_new hb)⟩
                case measure => simp [intOf]; omega
            · have hE2 : decide (0 < E) = true := by simp; omega
              by_cases hq5 : q = 0
              · subst hq5
                clear hB
                go_wp2_with fail
                refine (move_ok b _ wr htr (by simp; omega) (by simp; omega) (by simp; omega)).mono ?_
                rintro e w4 ⟨rfl, ht4, hm4⟩
                go_wp2_with fail
                refine (count_any b _ w4 ht4).mono ?_
                rintro e w5 ⟨rfl, rfl⟩
                go_wp2_with fail
                refine (writer_any b _ w4 ht4).mono ?_
                rintro e w5 ⟨rfl, rfl⟩
                go_wp2_with fail
                go_roundw
                case rel => exact ⟨k + 1, E, C + 1, E, by omega, by omega, by go_num, by omega, by omega, by omega, by omega, rfl, rfl, rfl, ht4, hmr.drop hm4 (one_new hb)⟩
                case measure => simp [intOf]; omega
              · have hq6 : decide (E < q) = true := by simp; omega
                clear hB hq5
                go_wp2_with fail
                refine (move_ok b _ wr htr (by simp; omega) (by simp; omega) (by simp; omega)).mono ?_
                rintro e w4 ⟨rfl, ht4, hm4⟩
                go_wp2_with fail
                refine (count_any b _ w4 ht4).mono ?_
                rintro e w5 ⟨rfl, rfl⟩
                go_wp2_with fail
                refine (writer_any b _ w4 ht4).mono ?_
                rintro e w5 ⟨rfl, rfl⟩
                go_wp2_with fail
                go_roundw
                case rel => exact ⟨k + 1, E, C + 1, E, by omega, by omega, by go_num, by omega, by omega, by omega, by omega, rfl, rfl, rfl, ht4, hmr.drop hm4 (one_new hb)⟩
                case measure => simp [intOf]; omega
      · by_cases hl1 : k < len
        · have h100 : ¬ k < 100 := by omega
          clear hlt hcell
          go_wp2_with fail
          go_ret
          exact ⟨rfl, hmr⟩
        · clear hlt hcell
          go_wp2_with fail
          go_ret
          exact ⟨rfl, hmr⟩

end Go.Proofs.Ytbgolijhhefdgaa
