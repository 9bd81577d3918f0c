/- The walk of TrustPlays: it returns true and writes nothing that was there, for every script. No condition. -/
import Derived.Test.YtbgolijhhefdgaaTg
namespace Go.Proofs.Ytbgolijhhefdgaa
open Go.RowKit

theorem oks_op {cs : List Value} (h : Oks [.int .i64, .int .i64, .int .u64, .bool] cs) : ∃ (kd n ep : Int) (rt : Bool), cs = [.int .i64 kd, .int .i64 n, .int .u64 ep, .bool rt] ∧ (Lit.int .i64 n).wf = true ∧ (Lit.int .u64 ep).wf = true := by
  cases h with
  | cons h1 t => cases t with
    | cons h2 t => cases t with
      | cons h3 t => cases t with
        | cons h4 t =>
          cases t
          obtain ⟨kd, rfl, _⟩ := h1
          obtain ⟨n, rfl, hn⟩ := h2
          obtain ⟨ep, rfl, he⟩ := h3
          obtain ⟨rt, rfl⟩ := h4
          exact ⟨kd, n, ep, rt, rfl, hn, he⟩

/-- What a fork is. -/
def Forked (w : World) (b : Nat) (t : Tr) (e : Ending) (w' : World) : Prop := ∃ f, e = .returned (.pointer (some ⟨f, 0, none⟩)) ∧ w.heap.size ≤ f ∧ TrAt w' f t ∧ TrAt w' b t ∧ Mod w w' []

theorem fork_ok (b : Nat) (t : Tr) (w : World) (ht : TrAt w b t) : Calls Try.prog 20 #[.pointer (some ⟨b, 0, none⟩)] w (Forked w b t) :=
  (fork_any b t w ht).mono fun e w' ⟨he, hw⟩ => by
    subst hw
    exact ⟨w.heap.size, he, Nat.le_refl _, CellsAt.new w t.cells 46, ht.mod ((Mod.refl _ _).alloc _) notmem_nil, (Mod.refl _ _).alloc _⟩

set_option maxRecDepth 100000 in
set_option maxHeartbeats 16000000 in
theorem plays_walk (a : Option Addr) (len cap : Nat) (w : World) (hrow : Rowed w [.int .i64, .int .i64, .int .u64, .bool] a len cap) : Calls Try.prog 6 #[.slice a len cap] w (Yes w) := by
  obtain ⟨hl1, hl2, _, h0 | ⟨sb, so, rfl, hsb, hcell⟩⟩ := hrow
  · subst h0
    go_enter Try.func6, Try.ntmps6
    go_wp2_with fail
    refine (new_ok w).mono ?_
    rintro e w1 ⟨b, rfl, hb, ht, hm⟩
    go_wp2_with fail
    refine (awake_yes _).mono ?_
    rintro e w2 ⟨rfl, hm2⟩
    have hm3 := (hm.alloc (.cells tr0.cells 40 (0, 0))).trans hm2
    clear ht hm hm2
    go_wp2_with fail
    refine wp_loop_once ?_
    go_wp2_with fail
    go_ret
    exact ⟨rfl, hm3⟩
  · go_enter Try.func6, Try.ntmps6
    go_wp2_with fail
    refine (new_ok w).mono ?_
    rintro e w1 ⟨b, rfl, hb, ht, hm⟩
    go_wp2_with fail
    refine (awake_yes _).mono ?_
    rintro e w2 ⟨rfl, hm2⟩
    have hrf := (CellsAt.new w1 tr0.cells 40).mod hm2 notmem_nil
    have ht2 := (ht.mod ((Mod.refl w1 []).alloc (.cells tr0.cells 40 (0, 0))) notmem_nil).mod hm2 notmem_nil
    have hm3 := (hm.alloc (.cells tr0.cells 40 (0, 0))).trans hm2
    have hne : b ≠ w1.heap.size := by have := CellsAt.lt ht; omega
    have hrb : w.heap.size ≤ w1.heap.size := hm.size
    obtain ⟨rb, hrbx⟩ : ∃ x, w1.heap.size = x := ⟨_, rfl⟩
    rw [hrbx] at hrf hne hrb ⊢
    clear ht hm hm2 hrbx
    go_wp2_with fail
    go_loopw [3, 5] (fun tp i wr => PlI w len rb tp i wr) (fun _ i _ => (len - intOf i).toNat)
    case atStart => exact ⟨0, b, tr0, by omega, by omega, rfl, rfl, by simp [Tr.fine, tr0], ht2, hrf, hm3, hb, hne⟩
    case round =>
      clear ht2 hrf hm3 hb hne
      obtain ⟨k, b, ⟨E, C, W, S, T⟩, hk, hk2, rfl, rfl, ⟨hE0, hE1, hC0, hC1, hS0, hS1, hT0, hT1⟩, htr, hrf, hmr, hb, hne⟩ := hrel
      simp only at hE0 hE1 hC0 hC1 hS0 hS1 hT0 hT1
      by_cases hlt : k < len ∧ k < 150
      · obtain ⟨hl3, hl4⟩ := hlt
        obtain ⟨cs, hok, hcs⟩ := hcell k hl3
        obtain ⟨kd, n, ep, rt, rfl, hn, he⟩ := oks_op hok
        have x0 : wr.cell? ⟨sb, so + k * 4, none⟩ = some (.int .i64 kd) := by rw [hmr.cell hsb notmem_nil]; exact hcs 0 _ rfl
        have x1 : wr.cell? ⟨sb, so + k * 4 + 1, none⟩ = some (.int .i64 n) := by rw [hmr.cell hsb notmem_nil]; exact hcs 1 _ rfl
        have x2 : wr.cell? ⟨sb, so + k * 4 + 2, none⟩ = some (.int .u64 ep) := by rw [hmr.cell hsb notmem_nil]; exact hcs 2 _ rfl
        have x3 : wr.cell? ⟨sb, so + k * 4 + 3, none⟩ = some (.bool rt) := by rw [hmr.cell hsb notmem_nil]; exact hcs 3 _ rfl
        clear hcell hok hcs
        by_cases h1 : kd = 1
        · subst h1
          by_cases hE : E < 60
          ·
            go_wp2_with fail
            have hta := htr.mod ((Mod.refl wr []).alloc (.cells #[.int .i64 1, .int .i64 n, .int .u64 ep, .bool rt] 42 (0, 0))) notmem_nil
            have hra := hrf.mod ((Mod.refl wr []).alloc (.cells #[.int .i64 1, .int .i64 n, .int .u64 ep, .bool rt] 42 (0, 0))) notmem_nil
            have hma := hmr.alloc (.cells #[.int .i64 1, .int .i64 n, .int .u64 ep, .bool rt] 42 (0, 0))
            have hbl := CellsAt.lt htr
            have hrl := CellsAt.lt hrf
            refine (begin_ok b _ _ hta hE0 hE).mono ?_
            rintro e w4 ⟨rfl, ht4, hm4⟩
            have hr4 := hra.mod hm4 (by simp; omega)
            have hma4 := hma.drop hm4 (one_new hb)
            go_wp2_with fail
            refine (rbegin_ok rb _ _ hr4 hE0 hE).mono ?_
            rintro e w5 ⟨rfl, hr5, hm5⟩
            have ht5 := ht4.mod hm5 (by simp; omega)
            have hma5 := hma4.drop hm5 (one_new hrb)
            clear hta hra hma ht4 hm4 hr4 hma4 hm5
            have d0 := hr5.c0
            have d1 := hr5.c1
            have d2 := hr5.c2
            have d4 := hr5.c4
            simp only at d0 d1 d2 d4
            go_wp2_with fail
            go_quiet ((first
              | (go_at_call 22; exact epoch_q ht5)
              | (go_at_call 12; exact count_q ht5)
              | (go_at_call 13; exact writer_q ht5)
              | (go_at_call 16; exact tick_q ht5)))
            go_wp2_with fail
            go_roundw
            case rel => exact ⟨k + 1, b, ⟨E + 1, C, W, S, T⟩, by omega, by omega, by go_num, rfl, by simp [Tr.fine]; omega, ht5, hr5, hma5.drewN _, hb, hne⟩
            case measure => simp [intOf]; omega
          ·
            go_wp2_with fail
            have hta := htr.mod ((Mod.refl wr []).alloc (.cells #[.int .i64 1, .int .i64 n, .int .u64 ep, .bool rt] 42 (0, 0))) notmem_nil
            have hra := hrf.mod ((Mod.refl wr []).alloc (.cells #[.int .i64 1, .int .i64 n, .int .u64 ep, .bool rt] 42 (0, 0))) notmem_nil
            have hma := hmr.alloc (.cells #[.int .i64 1, .int .i64 n, .int .u64 ep, .bool rt] 42 (0, 0))
            have hbl := CellsAt.lt htr
            have hrl := CellsAt.lt hrf
            refine (begin_no b _ _ hta (by simp; omega)).mono ?_
            rintro e w4 ⟨rfl, ht4, hm4⟩
            have hr4 := hra.mod hm4 (by simp; omega)
            have hma4 := hma.drop hm4 (one_new hb)
            go_wp2_with fail
            refine (rbegin_no rb _ _ hr4 (by simp; omega)).mono ?_
            rintro e w5 ⟨rfl, hr5, hm5⟩
            have ht5 := ht4.mod hm5 (by simp; omega)
            have hma5 := hma4.drop hm5 (one_new hrb)
            clear hta hra hma ht4 hm4 hr4 hma4 hm5
            have d0 := hr5.c0
            have d1 := hr5.c1
            have d2 := hr5.c2
            have d4 := hr5.c4
            simp only at d0 d1 d2 d4
            go_wp2_with fail
            go_quiet ((first
              | (go_at_call 22; exact epoch_q ht5)
              | (go_at_call 12; exact count_q ht5)
              | (go_at_call 13; exact writer_q ht5)
              | (go_at_call 16; exact tick_q ht5)))
            go_wp2_with fail
            go_roundw
            case rel => exact ⟨k + 1, b, ⟨E, C, W, S, T⟩, by omega, by omega, by go_num, rfl, by simp [Tr.fine]; omega, ht5, hr5, hma5.drewN _, hb, hne⟩
            case measure => simp [intOf]; omega
        · have hk1 : (kd == 1) = false := by simpa using h1
          by_cases h2 : kd = 2
          · subst h2
            cases rt with
            | true =>
              have r0 := (hrf.mod ((Mod.refl wr []).alloc (.cells #[.int .i64 2, .int .i64 n, .int .u64 ep, .bool true] 42 (0, 0))) notmem_nil).c0
              simp only at r0
              by_cases hE : E = 0
              · subst hE
                go_wp2_with fail
                have hta := htr.mod ((Mod.refl wr []).alloc (.cells #[.int .i64 2, .int .i64 n, .int .u64 ep, .bool true] 42 (0, 0))) notmem_nil
                have hra := hrf.mod ((Mod.refl wr []).alloc (.cells #[.int .i64 2, .int .i64 n, .int .u64 ep, .bool true] 42 (0, 0))) notmem_nil
                have hma := hmr.alloc (.cells #[.int .i64 2, .int .i64 n, .int .u64 ep, .bool true] 42 (0, 0))
                have hbl := CellsAt.lt htr
                have hrl := CellsAt.lt hrf
                refine (move_bad b _ 0 _ hta (.inl rfl)).mono ?_
                rintro e w4 ⟨rfl, ht4, hm4⟩
                have hr4 := hra.mod hm4 (by simp; omega)
                have hma4 := hma.drop hm4 (one_new hb)
                go_wp2_with fail
                refine (rmove_bad rb _ 0 _ hr4 (.inl rfl)).mono ?_
                rintro e w5 ⟨rfl, hr5, hm5⟩
                have ht5 := ht4.mod hm5 (by simp; omega)
                have hma5 := hma4.drop hm5 (one_new hrb)
                clear hta hra hma ht4 hm4 hr4 hma4 hm5
                have d0 := hr5.c0
                have d1 := hr5.c1
                have d2 := hr5.c2
                have d4 := hr5.c4
                simp only at d0 d1 d2 d4
                go_wp2_with fail
                go_quiet ((first
                  | (go_at_call 22; exact epoch_q ht5)
                  | (go_at_call 12; exact count_q ht5)
                  | (go_at_call 13; exact writer_q ht5)
                  | (go_at_call 16; exact tick_q ht5)))
                go_wp2_with fail
                go_roundw
                case rel => exact ⟨k + 1, b, ⟨0, C, W, S, T⟩, by omega, by omega, by go_num, rfl, by simp [Tr.fine]; omega, ht5, hr5, hma5.drewN _, hb, hne⟩
                case measure => simp [intOf]; omega
              ·
                go_wp2_with fail
                have hta := htr.mod ((Mod.refl wr []).alloc (.cells #[.int .i64 2, .int .i64 n, .int .u64 ep, .bool true] 42 (0, 0))) notmem_nil
                have hra := hrf.mod ((Mod.refl wr []).alloc (.cells #[.int .i64 2, .int .i64 n, .int .u64 ep, .bool true] 42 (0, 0))) notmem_nil
                have hma := hmr.alloc (.cells #[.int .i64 2, .int .i64 n, .int .u64 ep, .bool true] 42 (0, 0))
                have hbl := CellsAt.lt htr
                have hrl := CellsAt.lt hrf
                refine (move_ok b _ _ hta hC0 (by simp; omega) hE).mono ?_
                rintro e w4 ⟨rfl, ht4, hm4⟩
                have hr4 := hra.mod hm4 (by simp; omega)
                have hma4 := hma.drop hm4 (one_new hb)
                go_wp2_with fail
                refine (rmove_ok rb _ _ hr4 hC0 (by simp; omega) hE).mono ?_
                rintro e w5 ⟨rfl, hr5, hm5⟩
                have ht5 := ht4.mod hm5 (by simp; omega)
                have hma5 := hma4.drop hm5 (one_new hrb)
                clear hta hra hma ht4 hm4 hr4 hma4 hm5
                have d0 := hr5.c0
                have d1 := hr5.c1
                have d2 := hr5.c2
                have d4 := hr5.c4
                simp only at d0 d1 d2 d4
                go_wp2_with fail
                go_quiet ((first
                  | (go_at_call 22; exact epoch_q ht5)
                  | (go_at_call 12; exact count_q ht5)
                  | (go_at_call 13; exact writer_q ht5)
                  | (go_at_call 16; exact tick_q ht5)))
                go_wp2_with fail
                go_roundw
                case rel => exact ⟨k + 1, b, ⟨E, C + 1, E, S, T⟩, by omega, by omega, by go_num, rfl, by simp [Tr.fine]; omega, ht5, hr5, hma5.drewN _, hb, hne⟩
                case measure => simp [intOf]; omega
            | false =>
              by_cases hE : E = 0
              · subst hE
                have hbad : ep = 0 ∨ ep ≠ 0 := by omega
                go_wp2_with fail
                have hta := htr.mod ((Mod.refl wr []).alloc (.cells #[.int .i64 2, .int .i64 n, .int .u64 ep, .bool false] 42 (0, 0))) notmem_nil
                have hra := hrf.mod ((Mod.refl wr []).alloc (.cells #[.int .i64 2, .int .i64 n, .int .u64 ep, .bool false] 42 (0, 0))) notmem_nil
                have hma := hmr.alloc (.cells #[.int .i64 2, .int .i64 n, .int .u64 ep, .bool false] 42 (0, 0))
                have hbl := CellsAt.lt htr
                have hrl := CellsAt.lt hrf
                refine (move_bad b _ ep _ hta hbad).mono ?_
                rintro e w4 ⟨rfl, ht4, hm4⟩
                have hr4 := hra.mod hm4 (by simp; omega)
                have hma4 := hma.drop hm4 (one_new hb)
                go_wp2_with fail
                refine (rmove_bad rb _ ep _ hr4 hbad).mono ?_
                rintro e w5 ⟨rfl, hr5, hm5⟩
                have ht5 := ht4.mod hm5 (by simp; omega)
                have hma5 := hma4.drop hm5 (one_new hrb)
                clear hta hra hma ht4 hm4 hr4 hma4 hm5
                have d0 := hr5.c0
                have d1 := hr5.c1
                have d2 := hr5.c2
                have d4 := hr5.c4
                simp only at d0 d1 d2 d4
                go_wp2_with fail
                go_quiet ((first
                  | (go_at_call 22; exact epoch_q ht5)
                  | (go_at_call 12; exact count_q ht5)
                  | (go_at_call 13; exact writer_q ht5)
                  | (go_at_call 16; exact tick_q ht5)))
                go_wp2_with fail
                go_roundw
                case rel => exact ⟨k + 1, b, ⟨0, C, W, S, T⟩, by omega, by omega, by go_num, rfl, by simp [Tr.fine]; omega, ht5, hr5, hma5.drewN _, hb, hne⟩
                case measure => simp [intOf]; omega
              · by_cases hq : ep = E
                · subst hq
                  go_wp2_with fail
                  have hta := htr.mod ((Mod.refl wr []).alloc (.cells #[.int .i64 2, .int .i64 n, .int .u64 ep, .bool false] 42 (0, 0))) notmem_nil
                  have hra := hrf.mod ((Mod.refl wr []).alloc (.cells #[.int .i64 2, .int .i64 n, .int .u64 ep, .bool false] 42 (0, 0))) notmem_nil
                  have hma := hmr.alloc (.cells #[.int .i64 2, .int .i64 n, .int .u64 ep, .bool false] 42 (0, 0))
                  have hbl := CellsAt.lt htr
                  have hrl := CellsAt.lt hrf
                  refine (move_ok b _ _ hta hC0 (by simp; omega) hE).mono ?_
                  rintro e w4 ⟨rfl, ht4, hm4⟩
                  have hr4 := hra.mod hm4 (by simp; omega)
                  have hma4 := hma.drop hm4 (one_new hb)
                  go_wp2_with fail
                  refine (rmove_ok rb _ _ hr4 hC0 (by simp; omega) hE).mono ?_
                  rintro e w5 ⟨rfl, hr5, hm5⟩
                  have ht5 := ht4.mod hm5 (by simp; omega)
                  have hma5 := hma4.drop hm5 (one_new hrb)
                  clear hta hra hma ht4 hm4 hr4 hma4 hm5
                  have d0 := hr5.c0
                  have d1 := hr5.c1
                  have d2 := hr5.c2
                  have d4 := hr5.c4
                  simp only at d0 d1 d2 d4
                  go_wp2_with fail
                  go_quiet ((first
                    | (go_at_call 22; exact epoch_q ht5)
                    | (go_at_call 12; exact count_q ht5)
                    | (go_at_call 13; exact writer_q ht5)
                    | (go_at_call 16; exact tick_q ht5)))
                  go_wp2_with fail
                  go_roundw
                  case rel => exact ⟨k + 1, b, ⟨ep, C + 1, ep, S, T⟩, by omega, by omega, by go_num, rfl, by simp [Tr.fine]; omega, ht5, hr5, hma5.drewN _, hb, hne⟩
                  case measure => simp [intOf]; omega
                · have hbad : ep = 0 ∨ ep ≠ E := .inr hq
                  clear hq
                  go_wp2_with fail
                  have hta := htr.mod ((Mod.refl wr []).alloc (.cells #[.int .i64 2, .int .i64 n, .int .u64 ep, .bool false] 42 (0, 0))) notmem_nil
                  have hra := hrf.mod ((Mod.refl wr []).alloc (.cells #[.int .i64 2, .int .i64 n, .int .u64 ep, .bool false] 42 (0, 0))) notmem_nil
                  have hma := hmr.alloc (.cells #[.int .i64 2, .int .i64 n, .int .u64 ep, .bool false] 42 (0, 0))
                  have hbl := CellsAt.lt htr
                  have hrl := CellsAt.lt hrf
                  refine (move_bad b _ ep _ hta hbad).mono ?_
                  rintro e w4 ⟨rfl, ht4, hm4⟩
                  have hr4 := hra.mod hm4 (by simp; omega)
                  have hma4 := hma.drop hm4 (one_new hb)
                  go_wp2_with fail
                  refine (rmove_bad rb _ ep _ hr4 hbad).mono ?_
                  rintro e w5 ⟨rfl, hr5, hm5⟩
                  have ht5 := ht4.mod hm5 (by simp; omega)
                  have hma5 := hma4.drop hm5 (one_new hrb)
                  clear hta hra hma ht4 hm4 hr4 hma4 hm5
                  have d0 := hr5.c0
                  have d1 := hr5.c1
                  have d2 := hr5.c2
                  have d4 := hr5.c4
                  simp only at d0 d1 d2 d4
                  go_wp2_with fail
                  go_quiet ((first
                    | (go_at_call 22; exact epoch_q ht5)
                    | (go_at_call 12; exact count_q ht5)
                    | (go_at_call 13; exact writer_q ht5)
                    | (go_at_call 16; exact tick_q ht5)))
                  go_wp2_with fail
                  go_roundw
                  case rel => exact ⟨k + 1, b, ⟨E, C, W, S, T⟩, by omega, by omega, by go_num, rfl, by simp [Tr.fine]; omega, ht5, hr5, hma5.drewN _, hb, hne⟩
                  case measure => simp [intOf]; omega
          · have hk2 : (kd == 2) = false := by simpa using h2
            by_cases h3 : kd = 3
            · subst h3
              by_cases hE : S < 300
              ·
                go_wp2_with fail
                have hta := htr.mod ((Mod.refl wr []).alloc (.cells #[.int .i64 3, .int .i64 n, .int .u64 ep, .bool rt] 42 (0, 0))) notmem_nil
                have hra := hrf.mod ((Mod.refl wr []).alloc (.cells #[.int .i64 3, .int .i64 n, .int .u64 ep, .bool rt] 42 (0, 0))) notmem_nil
                have hma := hmr.alloc (.cells #[.int .i64 3, .int .i64 n, .int .u64 ep, .bool rt] 42 (0, 0))
                have hbl := CellsAt.lt htr
                have hrl := CellsAt.lt hrf
                refine (start_ok b _ _ hta hS0 hE).mono ?_
                rintro e w4 ⟨rfl, ht4, hm4⟩
                have hr4 := hra.mod hm4 (by simp; omega)
                have hma4 := hma.drop hm4 (one_new hb)
                go_wp2_with fail
                refine (rstart_ok rb _ _ hr4 hS0 hE).mono ?_
                rintro e w5 ⟨rfl, hr5, hm5⟩
                have ht5 := ht4.mod hm5 (by simp; omega)
                have hma5 := hma4.drop hm5 (one_new hrb)
                clear hta hra hma ht4 hm4 hr4 hma4 hm5
                have d0 := hr5.c0
                have d1 := hr5.c1
                have d2 := hr5.c2
                have d4 := hr5.c4
                simp only at d0 d1 d2 d4
                go_wp2_with fail
                go_quiet ((first
                  | (go_at_call 22; exact epoch_q ht5)
                  | (go_at_call 12; exact count_q ht5)
                  | (go_at_call 13; exact writer_q ht5)
                  | (go_at_call 16; exact tick_q ht5)))
                go_wp2_with fail
                go_roundw
                case rel => exact ⟨k + 1, b, ⟨E, C, W, S + 1, T⟩, by omega, by omega, by go_num, rfl, by simp [Tr.fine]; omega, ht5, hr5, hma5.drewN _, hb, hne⟩
                case measure => simp [intOf]; omega
              ·
                go_wp2_with fail
                have hta := htr.mod ((Mod.refl wr []).alloc (.cells #[.int .i64 3, .int .i64 n, .int .u64 ep, .bool rt] 42 (0, 0))) notmem_nil
                have hra := hrf.mod ((Mod.refl wr []).alloc (.cells #[.int .i64 3, .int .i64 n, .int .u64 ep, .bool rt] 42 (0, 0))) notmem_nil
                have hma := hmr.alloc (.cells #[.int .i64 3, .int .i64 n, .int .u64 ep, .bool rt] 42 (0, 0))
                have hbl := CellsAt.lt htr
                have hrl := CellsAt.lt hrf
                refine (start_no b _ _ hta (by simp; omega)).mono ?_
                rintro e w4 ⟨rfl, ht4, hm4⟩
                have hr4 := hra.mod hm4 (by simp; omega)
                have hma4 := hma.drop hm4 (one_new hb)
                go_wp2_with fail
                refine (rstart_no rb _ _ hr4 (by simp; omega)).mono ?_
                rintro e w5 ⟨rfl, hr5, hm5⟩
                have ht5 := ht4.mod hm5 (by simp; omega)
                have hma5 := hma4.drop hm5 (one_new hrb)
                clear hta hra hma ht4 hm4 hr4 hma4 hm5
                have d0 := hr5.c0
                have d1 := hr5.c1
                have d2 := hr5.c2
                have d4 := hr5.c4
                simp only at d0 d1 d2 d4
                go_wp2_with fail
                go_quiet ((first
                  | (go_at_call 22; exact epoch_q ht5)
                  | (go_at_call 12; exact count_q ht5)
                  | (go_at_call 13; exact writer_q ht5)
                  | (go_at_call 16; exact tick_q ht5)))
                go_wp2_with fail
                go_roundw
                case rel => exact ⟨k + 1, b, ⟨E, C, W, S, T⟩, by omega, by omega, by go_num, rfl, by simp [Tr.fine]; omega, ht5, hr5, hma5.drewN _, hb, hne⟩
                case measure => simp [intOf]; omega
            · have hk3 : (kd == 3) = false := by simpa using h3
              by_cases h4 : kd = 4
              · subst h4
                by_cases hE : E < 60
                ·
                  go_wp2_with fail
                  have hta := htr.mod ((Mod.refl wr []).alloc (.cells #[.int .i64 4, .int .i64 n, .int .u64 ep, .bool rt] 42 (0, 0))) notmem_nil
                  have hra := hrf.mod ((Mod.refl wr []).alloc (.cells #[.int .i64 4, .int .i64 n, .int .u64 ep, .bool rt] 42 (0, 0))) notmem_nil
                  have hma := hmr.alloc (.cells #[.int .i64 4, .int .i64 n, .int .u64 ep, .bool rt] 42 (0, 0))
                  have hbl := CellsAt.lt htr
                  have hrl := CellsAt.lt hrf
                  refine (fork_ok b _ _ hta).mono ?_
                  rintro e w4 ⟨f, rfl, hlf, htf4, ht4, hm4⟩
                  have hr4 := hra.mod hm4 notmem_nil
                  have hma4 := hma.trans hm4
                  have hfn : f ≠ b ∧ f ≠ rb := by have h1 := hta.lt; have h2 := hra.lt; omega
                  obtain ⟨hfb, hfr⟩ := hfn
                  have hlf2 : w.heap.size ≤ f := by have h1 := hma.size; omega
                  go_wp2_with fail
                  refine (begin_ok b _ _ ht4 hE0 hE).mono ?_
                  rintro e w6 ⟨rfl, ht6, hm6⟩
                  have hr6 := hr4.mod hm6 (by simp; omega)
                  have htf6 := htf4.mod hm6 (by simp; omega)
                  have hma6 := hma4.drop hm6 (one_new hb)
                  go_wp2_with fail
                  refine (pass_any b _ 9 _ ht6 hT0 hT1).mono ?_
                  rintro e w5 ⟨rfl, ht7, hm5⟩
                  have hr5 := hr6.mod hm5 (by simp; omega)
                  have ht5 := htf6.mod hm5 (by simp; omega)
                  have hma5 := hma6.drop hm5 (one_new hb)
                  clear hta hra hma hr4 hma4 hm4 ht4 htf4 hlf ht6 hm6 hr6 htf6 hma6 ht7 hm5
                  have d0 := hr5.c0
                  have d1 := hr5.c1
                  have d2 := hr5.c2
                  have d4 := hr5.c4
                  simp only at d0 d1 d2 d4
                  go_wp2_with fail
                  go_quiet ((first
                    | (go_at_call 22; exact epoch_q ht5)
                    | (go_at_call 12; exact count_q ht5)
                    | (go_at_call 13; exact writer_q ht5)
                    | (go_at_call 16; exact tick_q ht5)))
                  go_wp2_with fail
                  go_roundw
                  case rel => exact ⟨k + 1, f, ⟨E, C, W, S, T⟩, by omega, by omega, by go_num, rfl, by simp [Tr.fine]; omega, ht5, hr5, hma5.drewN _, hlf2, hfr⟩
                  case measure => simp [intOf]; omega
                ·
                  go_wp2_with fail
                  have hta := htr.mod ((Mod.refl wr []).alloc (.cells #[.int .i64 4, .int .i64 n, .int .u64 ep, .bool rt] 42 (0, 0))) notmem_nil
                  have hra := hrf.mod ((Mod.refl wr []).alloc (.cells #[.int .i64 4, .int .i64 n, .int .u64 ep, .bool rt] 42 (0, 0))) notmem_nil
                  have hma := hmr.alloc (.cells #[.int .i64 4, .int .i64 n, .int .u64 ep, .bool rt] 42 (0, 0))
                  have hbl := CellsAt.lt htr
                  have hrl := CellsAt.lt hrf
                  refine (fork_ok b _ _ hta).mono ?_
                  rintro e w4 ⟨f, rfl, hlf, htf4, ht4, hm4⟩
                  have hr4 := hra.mod hm4 notmem_nil
                  have hma4 := hma.trans hm4
                  have hfn : f ≠ b ∧ f ≠ rb := by have h1 := hta.lt; have h2 := hra.lt; omega
                  obtain ⟨hfb, hfr⟩ := hfn
                  have hlf2 : w.heap.size ≤ f := by have h1 := hma.size; omega
                  go_wp2_with fail
                  refine (begin_no b _ _ ht4 (by simp; omega)).mono ?_
                  rintro e w6 ⟨rfl, ht6, hm6⟩
                  have hr6 := hr4.mod hm6 (by simp; omega)
                  have htf6 := htf4.mod hm6 (by simp; omega)
                  have hma6 := hma4.drop hm6 (one_new hb)
                  go_wp2_with fail
                  refine (pass_any b _ 9 _ ht6 hT0 hT1).mono ?_
                  rintro e w5 ⟨rfl, ht7, hm5⟩
                  have hr5 := hr6.mod hm5 (by simp; omega)
                  have ht5 := htf6.mod hm5 (by simp; omega)
                  have hma5 := hma6.drop hm5 (one_new hb)
                  clear hta hra hma hr4 hma4 hm4 ht4 htf4 hlf ht6 hm6 hr6 htf6 hma6 ht7 hm5
                  have d0 := hr5.c0
                  have d1 := hr5.c1
                  have d2 := hr5.c2
                  have d4 := hr5.c4
                  simp only at d0 d1 d2 d4
                  go_wp2_with fail
                  go_quiet ((first
                    | (go_at_call 22; exact epoch_q ht5)
                    | (go_at_call 12; exact count_q ht5)
                    | (go_at_call 13; exact writer_q ht5)
                    | (go_at_call 16; exact tick_q ht5)))
                  go_wp2_with fail
                  go_roundw
                  case rel => exact ⟨k + 1, f, ⟨E, C, W, S, T⟩, by omega, by omega, by go_num, rfl, by simp [Tr.fine]; omega, ht5, hr5, hma5.drewN _, hlf2, hfr⟩
                  case measure => simp [intOf]; omega
              · have hk4 : (kd == 4) = false := by simpa using h4
                clear h1 h2 h3 h4
                go_wp2_with fail
                have hta := htr.mod ((Mod.refl wr []).alloc (.cells #[.int .i64 kd, .int .i64 n, .int .u64 ep, .bool rt] 42 (0, 0))) notmem_nil
                have hra := hrf.mod ((Mod.refl wr []).alloc (.cells #[.int .i64 kd, .int .i64 n, .int .u64 ep, .bool rt] 42 (0, 0))) notmem_nil
                have hma := hmr.alloc (.cells #[.int .i64 kd, .int .i64 n, .int .u64 ep, .bool rt] 42 (0, 0))
                have hbl := CellsAt.lt htr
                have hrl := CellsAt.lt hrf
                have hoa := CellsAt.new wr #[.int .i64 kd, .int .i64 n, .int .u64 ep, .bool rt] 42
                refine (pass_any b _ n _ hta hT0 hT1).mono ?_
                rintro e w4 ⟨rfl, ht4, hm4⟩
                have hr4 := hra.mod hm4 (by simp; omega)
                have hma4 := hma.drop hm4 (one_new hb)
                have ho4 := hoa.mod hm4 (by simp; omega)
                have y1 := ho4.cell 1
                simp at y1
                go_wp2_with fail
                refine (rpass_any rb _ n _ hr4 hT0 hT1).mono ?_
                rintro e w5 ⟨rfl, hr5, hm5⟩
                have ht5 := ht4.mod hm5 (by simp; omega)
                have hma5 := hma4.drop hm5 (one_new hrb)
                obtain ⟨p, hpp⟩ : ∃ p, passed T n = p := ⟨_, rfl⟩
                have hpb : 0 ≤ p ∧ p ≤ 1099511627776 := by rw [← hpp]; unfold passed; omega
                obtain ⟨hp0, hp1⟩ := hpb
                rw [hpp] at ht5 hr5
                clear hpp hta hra hma hoa ht4 hm4 hr4 hma4 ho4 y1 hm5
                have d0 := hr5.c0
                have d1 := hr5.c1
                have d2 := hr5.c2
                have d4 := hr5.c4
                simp only at d0 d1 d2 d4
                go_wp2_with fail
                go_quiet ((first
                  | (go_at_call 22; exact epoch_q ht5)
                  | (go_at_call 12; exact count_q ht5)
                  | (go_at_call 13; exact writer_q ht5)
                  | (go_at_call 16; exact tick_q ht5)))
                go_wp2_with fail
                go_roundw
                case rel => exact ⟨k + 1, b, ⟨E, C, W, S, p⟩, by omega, by omega, by go_num, rfl, by simp [Tr.fine]; omega, ht5, hr5, hma5.drewN _, hb, hne⟩
                case measure => simp [intOf]; omega
      · clear hcell
        by_cases hl1 : k < len
        · have h100 : ¬ k < 150 := by omega
          clear hlt
          go_wp2_with fail
          go_ret
          exact ⟨rfl, hmr⟩
        · clear hlt
          go_wp2_with fail
          go_ret
          exact ⟨rfl, hmr⟩

end Go.Proofs.Ytbgolijhhefdgaa
