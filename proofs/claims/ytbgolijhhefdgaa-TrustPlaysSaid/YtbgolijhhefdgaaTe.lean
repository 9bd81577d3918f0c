/- The walk of TrustTicks: it returns true and writes nothing that was there. No condition. -/
import Derived.Test.YtbgolijhhefdgaaTd
import Derived.Test.YtbgolijhhefdgaaKb
import Derived.Deep.Slices
namespace Go.Proofs.Ytbgolijhhefdgaa
open Go.RowKit

/-- A slice of integers that came in, opened. -/
theorem rowed_ints {k : IntKind} {w : World} {a : Option Addr} {len cap : Nat} (h : Rowed w [.int k] a len cap) :
    len = 0 ∨ ∃ b o, a = some ⟨b, o, none⟩ ∧ b < w.heap.size ∧ len ≤ 9223372036854775807 ∧ ∃ z : Nat → Int, ∀ i, i < len → w.cell? ⟨b, o + i, none⟩ = some (.int k (z i)) ∧ (Lit.int k (z i)).wf = true := by
  obtain ⟨h1, h2, _, h3 | ⟨b, o, h4, h5, h6⟩⟩ := h
  · exact .inl h3
  · right
    refine ⟨b, o, h4, h5, by omega, ?_⟩
    have h7 : ∀ i, i < len → ∃ z, w.cell? ⟨b, o + i, none⟩ = some (.int k z) ∧ (Lit.int k z).wf = true := by
      intro i hi
      obtain ⟨cs, hok, hc⟩ := h6 i hi
      cases hok with
      | cons hv ht =>
        obtain ⟨z, rfl, hz⟩ := hv
        have := hc 0 _ rfl
        exact ⟨z, by simpa using this, hz⟩
    exact Go.Deep.choose_lt h7

theorem Mod.cell {w w' : World} {bs : List Nat} (h : Mod w w' bs) {b o : Nat} (hb : b < w.heap.size) (hn : ¬ b ∈ bs) : w'.cell? ⟨b, o, none⟩ = w.cell? ⟨b, o, none⟩ :=
  World.cell?_of_block (w := w) (h.block b hb hn)

/-- The test of one round of TrustTicks is false. -/
theorem tick_facts (now n : Int) (h0 : 0 ≤ now) (h1 : now ≤ 99000000) :
    now ≤ passed now n ∧ passed now n ≤ now + 1000000 ∧ (0 ≤ n → n ≤ 1000000 → passed now n = now + n) ∧ (n < 0 → passed now n = now) := by
  unfold passed
  omega

set_option maxHeartbeats 1000000 in
theorem ticks_walk (a : Option Addr) (len cap : Nat) (w : World) (hrow : Rowed w [.int .i64] a len cap) : Calls Try.prog 5 #[.slice a len cap] w (Yes w) := by
  rcases rowed_ints hrow with h0 | ⟨sb, so, rfl, hsb, hlen, zs, hcell⟩
  · subst h0
    clear hrow
    go_enter Try.func5, Try.ntmps5
    go_wp2_with fail
    refine (new_ok w).mono ?_
    rintro e w1 ⟨b, rfl, hb, ht, hm⟩
    go_wp2_with fail
    refine (awake_yes w1).mono ?_
    rintro e w2 ⟨rfl, hm2⟩
    have hm3 := hm.trans hm2
    clear ht hm hm2
    go_wp2_with fail
    refine wp_loop_once ?_
    go_wp2_with fail
    go_ret
    exact ⟨rfl, hm3⟩
  · clear hrow
    go_enter Try.func5, Try.ntmps5
    go_wp2_with fail
    refine (new_ok w).mono ?_
    rintro e w1 ⟨b, rfl, hb, ht, hm⟩
    go_wp2_with fail
    refine (awake_yes w1).mono ?_
    rintro e w2 ⟨rfl, hm2⟩
    have ht2 := ht.mod hm2 notmem_nil
    have hm3 := hm.trans hm2
    clear ht hm hm2
    go_wp2_with fail
    go_loopw [4, 5] (fun now i wr => ∃ (k : Nat) (n : Int), k ≤ len ∧ k ≤ 100 ∧ i = .int .i64 k ∧ 0 ≤ n ∧ n ≤ 1000000 * k ∧ now = .int .i64 n ∧ TrAt wr b ⟨0, 0, 0, 0, n⟩ ∧ Mod w wr []) (fun _ i _ => (len - intOf i).toNat)
    case atStart => exact ⟨0, 0, by omega, by omega, rfl, by omega, by omega, rfl, ht2, hm3⟩
    case round =>
      obtain ⟨k, now, hk, hk2, rfl, hn0, hn1, rfl, htr, hmr⟩ := hrel
      by_cases hlt : k < len ∧ k < 100
      · obtain ⟨hl1, hl2⟩ := hlt
        obtain ⟨c0, hwf⟩ := hcell k hl1
        have hz := bounds_i64 hwf
        clear hwf
        obtain ⟨z, hzz⟩ : ∃ z, zs k = z := ⟨_, rfl⟩
        rw [hzz] at c0 hz
        obtain ⟨f1, f2, f3, f4⟩ := tick_facts now z hn0 (by omega)
        have hc1 : wr.cell? ⟨sb, so + k, none⟩ = some (.int .i64 z) := by rw [hmr.cell hsb notmem_nil, c0]
        have hp := pass_any b _ z wr htr hn0 (by simp; omega)
        obtain ⟨p, hpp⟩ : ∃ p, passed now z = p := ⟨_, rfl⟩
        simp only [hpp] at f1 f2 f3 f4 hp
        clear hpp hzz
        go_wp2_with fail
        refine hp.mono ?_
        rintro e w4 ⟨rfl, ht4, hm4⟩
        have hc2 : w4.cell? ⟨sb, so + k, none⟩ = some (.int .i64 z) := by rw [hm4.cell (by have := hmr.size; omega) (by simp; omega), hc1]
        go_wp2_with fail
        refine (tick_any b _ w4 ht4).mono ?_
        rintro e w5 ⟨rfl, rfl⟩
        have hg := hmr.drop hm4 (one_new hb)
        clear hc1 hcell
        by_cases z0 : z < 0
        · have hq := f4 z0
          subst hq
          clear f1 f2 f3 f4
          go_wp2_with fail
          go_roundw
          case rel => exact ⟨k + 1, p, by omega, by omega, by go_num, by omega, by omega, rfl, ht4, hg⟩
          case measure => simp [intOf]; omega
        · by_cases z1 : z ≤ 1000000
          · have hq := f3 (by omega) z1
            subst hq
            clear f1 f2 f3 f4
            go_wp2_with fail
            go_roundw
            case rel => exact ⟨k + 1, now + z, by omega, by omega, by go_num, by omega, by omega, rfl, ht4, hg⟩
            case measure => simp [intOf]; omega
          · clear f3 f4
            go_wp2_with fail
            go_roundw
            case rel => exact ⟨k + 1, p, by omega, by omega, by go_num, by omega, by omega, rfl, ht4, hg⟩
            case measure => simp [intOf]; omega
      · by_cases hl1 : k < len
        · have h100 : ¬ k < 100 := by omega
          clear hlt hcell
          go_wp2_with fail
          go_ret
          exact ⟨rfl, hmr⟩
        · clear hlt hcell
          go_wp2_with fail
          go_ret
          exact ⟨rfl, hmr⟩

end Go.Proofs.Ytbgolijhhefdgaa
