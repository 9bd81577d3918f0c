/- The walk of StorePlays: it returns true and writes nothing that was there, for every script. No condition. -/
import Derived.Deep.RegionHeld3
import Derived.Test.YtbpdmncobeiinaaPr
import Derived.Test.YtbpdmncobeiinaaWd
namespace Go.Proofs.Ytbpdmncobeiinaa
open Go.RowKit

theorem PairO.parts {w0 w : World} {b rb : Nat} {σ : Sto} {x : StoB} {L : List RC} {O : List (List RC)} {y : RefB} {q : Nat} {t : TypeId} {kd n : Int} {nm tq : ByteArray} {v : Value} (h : PairO w0 w b rb σ x L O y q #[.int .i64 kd, .int .i64 n, .string nm, .string tq, v] t) :
    w.cell? ⟨q, 1, none⟩ = some (.int .i64 n) ∧ w.cell? ⟨q, 2, none⟩ = some (.string nm) ∧ w.cell? ⟨q, 3, none⟩ = some (.string tq) := by
  have h1 := h.cells.cell 1
  have h2 := h.cells.cell 2
  have h3 := h.cells.cell 3
  simp at h1 h2 h3
  exact ⟨h1, h2, h3⟩

/-- What is so between two rounds. -/
def PlayR (w0 : World) (rb len : Nat) (s i : Value) (wr : World) : Prop :=
  ∃ (k b : Nat) (σ : Sto) (x : StoB) (L : List RC) (O : List (List RC)) (y : RefB), k ≤ len ∧ k ≤ 60 ∧ i = .int .i64 (k : Nat) ∧ s = .pointer (some ⟨b, 0, none⟩) ∧ Pair w0 wr b rb σ x L O y ∧ Agree k (64 * k) σ L O

/-- A new pair. -/
theorem new_pair {w w1 : World} {b : Nat} {x : StoB} (hs : StoreAt w1 b sto0 x) (hm : Mod w w1 Nob) (hf : ∀ k, x.foot b k → w.heap.size ≤ k) :
    Pair w (w1.alloc (.cells #[.slice none 0 0, .slice none 0 0] 48)) b w1.heap.size sto0 x [] [] ⟨.slice none 0 0, .slice none 0 0, fun _ => False⟩ := by
  have m1 := (Mod.refl w1 Nob).alloc (.cells #[.slice none 0 0, .slice none 0 0] 48)
  have hn : ∀ k, ¬ inBlock (.slice none 0 0) k := fun k hk => by simp [inBlock, Value.ownBlock] at hk
  have h0 := hm.size
  refine ⟨⟨hs.still m1, ⟨CellsAt.new _ _ _, hn _, fun k hk => hk.elim, ⟨[], rfl, fun i c u hi _ => by simp at hi, World.ownsRow_nil _ _ _ _, fun k hk => (hn k hk).elim⟩, ⟨[], rfl, fun i u o hi _ => by simp at hi, World.ownsRow_nil _ _ _ _⟩⟩⟩, hm.trans m1, fun k hk => hf k (.inl hk), fun k hk => ?_, fun k hk hf2 => ?_, fun k hk hf2 => ?_⟩
  · rcases hk with rfl | hk
    · exact h0
    · exact (hn k hk).elim
  · have := hs.foot_lt k (.inl hk)
    rcases hf2 with (rfl | h1) | h1
    · omega
    · exact hn k h1
    · exact h1
  · have := hs.foot_lt k hf2
    rcases hk with rfl | hk
    · omega
    · exact hn k hk

set_option maxRecDepth 100000 in
set_option maxHeartbeats 8000000 in
theorem plays_walk (a : Option Addr) (len cap : Nat) (w : World) (hrow : OpsIn w a len cap) : Calls Try.prog 5 #[.slice a len cap] w (YesN w) := by
  obtain ⟨hl1, hl2, hops⟩ := hrow
  go_enter Try.func5, Try.ntmps5
  go_wp2_with fail
  refine (new_any w).mono ?_
  rintro e w1 ⟨b, x, rfl, hs, hm, hf⟩
  have hpair := new_pair hs hm hf
  obtain ⟨rb, hrb⟩ : ∃ rb, w1.heap.size = rb := ⟨_, rfl⟩
  obtain ⟨w2, hw2⟩ : ∃ w2, w1.alloc (.cells #[.slice none 0 0, .slice none 0 0] 48) = w2 := ⟨_, rfl⟩
  rw [hw2, hrb] at hpair
  clear hs hm hf
  go_wp2_with fail
  clear hw2 hrb
  refine (awake_store w2).mono ?_
  rintro e w3 ⟨rfl, hm3⟩
  have hpair3 := hpair.still hm3
  clear hpair hm3
  go_wp2_with fail
  go_loopw [3, 5] (fun s i wr => PlayR w rb len s i wr) (fun _ i _ => (len - intOf i).toNat)
  case atStart => exact ⟨0, b, sto0, x, [], [], _, by omega, by omega, rfl, rfl, hpair3, agree0⟩
  case round =>
    clear hpair3
    obtain ⟨k, b, σ, x, L, O, y, hk, hk2, rfl, rfl, hp, ha⟩ := hrel
    have mr := hp.mod
    by_cases hlt : k < len ∧ k < 60
    · obtain ⟨hl3, hk6⟩ := hlt
      obtain ⟨sb, so, rfl, hsb, hall⟩ : ∃ sb so, a = some ⟨sb, so, none⟩ ∧ sb < w.heap.size ∧ ∀ i, i < len → ∃ kd n nm tq v l, OpAt w sb (so + i * 5) kd n nm tq v l := by
        rcases hops with h0 | ⟨sb, so, h1, h2, h3⟩
        · omega
        · exact ⟨sb, so, h1, h2, h3⟩
      obtain ⟨kd, n, nm, tq, v, l, hop⟩ := hall k hl3
      obtain ⟨va, vc, hvf, _, _⟩ := hop.bytes.form
      rw [List.length_map] at hvf
      subst hvf
      have hn63 : n ≤ 9223372036854775807 := by have := hop.wfn; simp [Lit.wf, IntKind.min, IntKind.max, IntKind.signed, IntKind.bits] at this; omega
      have hsz := hop.snm
      have hbytes := hop.bytes
      obtain ⟨vn, hvn⟩ : ∃ vn, l.length = vn := ⟨_, rfl⟩
      have x0 : wr.cell? ⟨sb, so + k * 5, none⟩ = some (.int .i64 kd) := by rw [mr.cell hsb nob]; exact hop.c0
      have x1 : wr.cell? ⟨sb, so + k * 5 + 1, none⟩ = some (.int .i64 n) := by rw [mr.cell hsb nob]; exact hop.c1
      have x2 : wr.cell? ⟨sb, so + k * 5 + 2, none⟩ = some (.string nm) := by rw [mr.cell hsb nob]; exact hop.c2
      have x3 : wr.cell? ⟨sb, so + k * 5 + 3, none⟩ = some (.string tq) := by rw [mr.cell hsb nob]; exact hop.c3
      have x4 : wr.cell? ⟨sb, so + k * 5 + 4, none⟩ = some (.slice va l.length vc) := by rw [mr.cell hsb nob]; exact hop.c4
      rw [hvn] at x4 hbytes
      have HV := Lib.hid hvn
      clear hvn hop hall hops
      by_cases e1 : kd = 1
      · subst e1
        have hP0 : PairO w (wr.alloc (.cells #[.int .i64 1, .int .i64 n, .string nm, .string tq, .slice va vn vc] 50)) b rb σ x L O y wr.heap.size #[.int .i64 1, .int .i64 n, .string nm, .string tq, .slice va vn vc] 50 := ⟨hp.still ((Mod.refl wr Nob).alloc _), CellsAt.new wr _ _, fun hk => by have := hp.footS _ (.inl hk); omega, fun hk => by have := hp.footR _ (.inl hk); omega⟩
        obtain ⟨q, hq⟩ : ∃ q, wr.heap.size = q := ⟨_, rfl⟩
        obtain ⟨W1, hW1⟩ : ∃ W1, wr.alloc (.cells #[.int .i64 1, .int .i64 n, .string nm, .string tq, .slice va vn vc] 50) = W1 := ⟨_, rfl⟩
        rw [hW1, hq] at hP0
        have g0 := hP0.cells.cell 0
        have g1 := hP0.cells.cell 1
        have g2 := hP0.cells.cell 2
        have g3 := hP0.cells.cell 3
        have g4 := hP0.cells.cell 4
        simp at g0 g1 g2 g3 g4
        go_wp2_with fail
        clear hW1 hq hp mr x0 x1 x2 x3 x4
        have hPd := hP0.still ((Mod.refl W1 Nob).drew)
        go_region_held3 (fun w' => w'.cell? ⟨q, 1, none⟩ = some (.int .i64 n) ∧ w'.cell? ⟨q, 2, none⟩ = some (.string nm) ∧ w'.cell? ⟨q, 3, none⟩ = some (.string tq)) (first | exact P2.parts | exact P1.parts | exact hPd.parts | exact hP0.parts | go_keep | assumption)
          (first
            | (go_at_call 14; refine (twin_replay hPd ha hk6 nm n).mono ?_; rintro e w1 ⟨ok, σ1, x1, rfl, P1, N1⟩)
            | (go_at_call 19; refine (N1 _ P1).mono ?_; rintro e w2 ⟨rfl, L1, O1, y1, P2, A2⟩))
        clear hP0 hPd P1 N1
        have g2 := P2.cells.cell 2
        simp at g2
        go_wp2_with fail
        refine (shows_yes b rb (k + 1) (64 * (k + 1)) σ1 x1 L1 O1 y1 nm _ P2.pair.both A2 (by omega) (by omega)).mono ?_
        rintro e w8 ⟨rfl, m8⟩
        have P8 := P2.still m8
        have g3 := P8.cells.cell 3
        simp at g3
        go_wp2_with fail
        refine (shows_yes b rb (k + 1) (64 * (k + 1)) σ1 x1 L1 O1 y1 tq _ P8.pair.both A2 (by omega) (by omega)).mono ?_
        rintro e w9 ⟨rfl, m9⟩
        have P9 := P8.pair.still m9
        clear m8 m9 g3 P8
        go_wp2_with fail
        exact ⟨⟨k + 1, b, σ1, x1, L1, O1, y1, by omega, by omega, by go_num, rfl, P9, A2⟩, by simp [intOf]; omega⟩
      by_cases e2 : kd = 2
      · subst e2
        have hP0 : PairO w (wr.alloc (.cells #[.int .i64 2, .int .i64 n, .string nm, .string tq, .slice va vn vc] 50)) b rb σ x L O y wr.heap.size #[.int .i64 2, .int .i64 n, .string nm, .string tq, .slice va vn vc] 50 := ⟨hp.still ((Mod.refl wr Nob).alloc _), CellsAt.new wr _ _, fun hk => by have := hp.footS _ (.inl hk); omega, fun hk => by have := hp.footR _ (.inl hk); omega⟩
        obtain ⟨q, hq⟩ : ∃ q, wr.heap.size = q := ⟨_, rfl⟩
        obtain ⟨W1, hW1⟩ : ∃ W1, wr.alloc (.cells #[.int .i64 2, .int .i64 n, .string nm, .string tq, .slice va vn vc] 50) = W1 := ⟨_, rfl⟩
        rw [hW1, hq] at hP0
        have g0 := hP0.cells.cell 0
        have g1 := hP0.cells.cell 1
        have g2 := hP0.cells.cell 2
        have g3 := hP0.cells.cell 3
        have g4 := hP0.cells.cell 4
        simp at g0 g1 g2 g3 g4
        go_wp2_with fail
        clear hW1 hq hp mr x0 x1 x2 x3 x4
        have hPd := hP0.still ((Mod.refl W1 Nob).drew)
        go_region_held3 (fun w' => w'.cell? ⟨q, 1, none⟩ = some (.int .i64 n) ∧ w'.cell? ⟨q, 2, none⟩ = some (.string nm) ∧ w'.cell? ⟨q, 3, none⟩ = some (.string tq)) (first | exact P2.parts | exact P1.parts | exact hPd.parts | exact hP0.parts | go_keep | assumption)
          (first
            | (go_at_call 10; refine (twin_swap hPd ha hk6 nm tq).mono ?_; rintro e w1 ⟨ok, σ1, x1, rfl, P1, N1⟩)
            | (go_at_call 20; refine (N1 _ P1).mono ?_; rintro e w2 ⟨rfl, L1, O1, y1, P2, A2⟩))
        clear hP0 hPd P1 N1
        have g2 := P2.cells.cell 2
        simp at g2
        go_wp2_with fail
        refine (shows_yes b rb (k + 1) (64 * (k + 1)) σ1 x1 L1 O1 y1 nm _ P2.pair.both A2 (by omega) (by omega)).mono ?_
        rintro e w8 ⟨rfl, m8⟩
        have P8 := P2.still m8
        have g3 := P8.cells.cell 3
        simp at g3
        go_wp2_with fail
        refine (shows_yes b rb (k + 1) (64 * (k + 1)) σ1 x1 L1 O1 y1 tq _ P8.pair.both A2 (by omega) (by omega)).mono ?_
        rintro e w9 ⟨rfl, m9⟩
        have P9 := P8.pair.still m9
        clear m8 m9 g3 P8
        go_wp2_with fail
        exact ⟨⟨k + 1, b, σ1, x1, L1, O1, y1, by omega, by omega, by go_num, rfl, P9, A2⟩, by simp [intOf]; omega⟩
      by_cases e3 : kd = 3
      · subst e3
        have hP0 : PairO w (wr.alloc (.cells #[.int .i64 3, .int .i64 n, .string nm, .string tq, .slice va vn vc] 50)) b rb σ x L O y wr.heap.size #[.int .i64 3, .int .i64 n, .string nm, .string tq, .slice va vn vc] 50 := ⟨hp.still ((Mod.refl wr Nob).alloc _), CellsAt.new wr _ _, fun hk => by have := hp.footS _ (.inl hk); omega, fun hk => by have := hp.footR _ (.inl hk); omega⟩
        obtain ⟨q, hq⟩ : ∃ q, wr.heap.size = q := ⟨_, rfl⟩
        obtain ⟨W1, hW1⟩ : ∃ W1, wr.alloc (.cells #[.int .i64 3, .int .i64 n, .string nm, .string tq, .slice va vn vc] 50) = W1 := ⟨_, rfl⟩
        rw [hW1, hq] at hP0
        have g0 := hP0.cells.cell 0
        have g1 := hP0.cells.cell 1
        have g2 := hP0.cells.cell 2
        have g3 := hP0.cells.cell 3
        have g4 := hP0.cells.cell 4
        simp at g0 g1 g2 g3 g4
        go_wp2_with fail
        clear hW1 hq hp mr x0 x1 x2 x3 x4
        have hPd := hP0.still ((Mod.refl W1 Nob).drew)
        go_region_held3 (fun w' => w'.cell? ⟨q, 1, none⟩ = some (.int .i64 n) ∧ w'.cell? ⟨q, 2, none⟩ = some (.string nm) ∧ w'.cell? ⟨q, 3, none⟩ = some (.string tq)) (first | exact P2.parts | exact P1.parts | exact hPd.parts | exact hP0.parts | go_keep | assumption)
          (first
            | (go_at_call 12; refine (twin_delete hPd ha hk6 nm).mono ?_; rintro e w1 ⟨ok, σ1, x1, rfl, P1, N1⟩)
            | (go_at_call 21; refine (N1 _ P1).mono ?_; rintro e w2 ⟨rfl, L1, O1, y1, P2, A2⟩))
        clear hP0 hPd P1 N1
        have g2 := P2.cells.cell 2
        simp at g2
        go_wp2_with fail
        refine (shows_yes b rb (k + 1) (64 * (k + 1)) σ1 x1 L1 O1 y1 nm _ P2.pair.both A2 (by omega) (by omega)).mono ?_
        rintro e w8 ⟨rfl, m8⟩
        have P8 := P2.still m8
        have g3 := P8.cells.cell 3
        simp at g3
        go_wp2_with fail
        refine (shows_yes b rb (k + 1) (64 * (k + 1)) σ1 x1 L1 O1 y1 tq _ P8.pair.both A2 (by omega) (by omega)).mono ?_
        rintro e w9 ⟨rfl, m9⟩
        have P9 := P8.pair.still m9
        clear m8 m9 g3 P8
        go_wp2_with fail
        exact ⟨⟨k + 1, b, σ1, x1, L1, O1, y1, by omega, by omega, by go_num, rfl, P9, A2⟩, by simp [intOf]; omega⟩
      by_cases e4 : kd = 4
      · subst e4
        have hP0 : PairO w (wr.alloc (.cells #[.int .i64 4, .int .i64 n, .string nm, .string tq, .slice va vn vc] 50)) b rb σ x L O y wr.heap.size #[.int .i64 4, .int .i64 n, .string nm, .string tq, .slice va vn vc] 50 := ⟨hp.still ((Mod.refl wr Nob).alloc _), CellsAt.new wr _ _, fun hk => by have := hp.footS _ (.inl hk); omega, fun hk => by have := hp.footR _ (.inl hk); omega⟩
        obtain ⟨q, hq⟩ : ∃ q, wr.heap.size = q := ⟨_, rfl⟩
        obtain ⟨W1, hW1⟩ : ∃ W1, wr.alloc (.cells #[.int .i64 4, .int .i64 n, .string nm, .string tq, .slice va vn vc] 50) = W1 := ⟨_, rfl⟩
        rw [hW1, hq] at hP0
        have g0 := hP0.cells.cell 0
        have g1 := hP0.cells.cell 1
        have g2 := hP0.cells.cell 2
        have g3 := hP0.cells.cell 3
        have g4 := hP0.cells.cell 4
        simp at g0 g1 g2 g3 g4
        go_wp2_with fail
        clear hW1 hq hp mr x0 x1 x2 x3 x4
        have hPd := hP0.still ((Mod.refl W1 Nob).drew)
        go_region_held3 (fun w' => w'.cell? ⟨q, 1, none⟩ = some (.int .i64 n) ∧ w'.cell? ⟨q, 2, none⟩ = some (.string nm) ∧ w'.cell? ⟨q, 3, none⟩ = some (.string tq)) (first | exact P2.parts | exact P1.parts | exact hPd.parts | exact hP0.parts | go_keep | assumption)
          (first
            | (go_at_call 17; refine (twin_roll hPd ha hk6 n).mono ?_; rintro e w1 ⟨ok, σ1, x1, rfl, P1, N1⟩)
            | (go_at_call 22; refine (N1 _ P1).mono ?_; rintro e w2 ⟨rfl, L1, O1, y1, P2, A2⟩))
        clear hP0 hPd P1 N1
        have g2 := P2.cells.cell 2
        simp at g2
        go_wp2_with fail
        refine (shows_yes b rb (k + 1) (64 * (k + 1)) σ1 x1 L1 O1 y1 nm _ P2.pair.both A2 (by omega) (by omega)).mono ?_
        rintro e w8 ⟨rfl, m8⟩
        have P8 := P2.still m8
        have g3 := P8.cells.cell 3
        simp at g3
        go_wp2_with fail
        refine (shows_yes b rb (k + 1) (64 * (k + 1)) σ1 x1 L1 O1 y1 tq _ P8.pair.both A2 (by omega) (by omega)).mono ?_
        rintro e w9 ⟨rfl, m9⟩
        have P9 := P8.pair.still m9
        clear m8 m9 g3 P8
        go_wp2_with fail
        exact ⟨⟨k + 1, b, σ1, x1, L1, O1, y1, by omega, by omega, by go_num, rfl, P9, A2⟩, by simp [intOf]; omega⟩
      by_cases e5 : kd = 5
      · subst e5
        have hP0 : PairO w (wr.alloc (.cells #[.int .i64 5, .int .i64 n, .string nm, .string tq, .slice va vn vc] 50)) b rb σ x L O y wr.heap.size #[.int .i64 5, .int .i64 n, .string nm, .string tq, .slice va vn vc] 50 := ⟨hp.still ((Mod.refl wr Nob).alloc _), CellsAt.new wr _ _, fun hk => by have := hp.footS _ (.inl hk); omega, fun hk => by have := hp.footR _ (.inl hk); omega⟩
        obtain ⟨q, hq⟩ : ∃ q, wr.heap.size = q := ⟨_, rfl⟩
        obtain ⟨W1, hW1⟩ : ∃ W1, wr.alloc (.cells #[.int .i64 5, .int .i64 n, .string nm, .string tq, .slice va vn vc] 50) = W1 := ⟨_, rfl⟩
        rw [hW1, hq] at hP0
        have g0 := hP0.cells.cell 0
        have g1 := hP0.cells.cell 1
        have g2 := hP0.cells.cell 2
        have g3 := hP0.cells.cell 3
        have g4 := hP0.cells.cell 4
        simp at g0 g1 g2 g3 g4
        go_wp2_with fail
        clear hW1 hq hp mr x0 x1 x2 x3 x4
        have hPd := hP0.still ((Mod.refl W1 Nob).drew)
        go_region_held3 (fun w' => w'.cell? ⟨q, 1, none⟩ = some (.int .i64 n) ∧ w'.cell? ⟨q, 2, none⟩ = some (.string nm) ∧ w'.cell? ⟨q, 3, none⟩ = some (.string tq)) (first | exact P2.parts | exact P1.parts | exact hPd.parts | exact hP0.parts | go_keep | assumption)
          (first
            | (go_at_call 11; refine (twin_flip hPd ha hk6 nm n hn63).mono ?_; rintro e w1 ⟨ok, σ1, x1, rfl, P1, N1⟩)
            | (go_at_call 23; refine (N1 _ P1).mono ?_; rintro e w2 ⟨rfl, L1, O1, y1, P2, A2⟩))
        clear hP0 hPd P1 N1
        have g2 := P2.cells.cell 2
        simp at g2
        go_wp2_with fail
        refine (shows_yes b rb (k + 1) (64 * (k + 1)) σ1 x1 L1 O1 y1 nm _ P2.pair.both A2 (by omega) (by omega)).mono ?_
        rintro e w8 ⟨rfl, m8⟩
        have P8 := P2.still m8
        have g3 := P8.cells.cell 3
        simp at g3
        go_wp2_with fail
        refine (shows_yes b rb (k + 1) (64 * (k + 1)) σ1 x1 L1 O1 y1 tq _ P8.pair.both A2 (by omega) (by omega)).mono ?_
        rintro e w9 ⟨rfl, m9⟩
        have P9 := P8.pair.still m9
        clear m8 m9 g3 P8
        go_wp2_with fail
        exact ⟨⟨k + 1, b, σ1, x1, L1, O1, y1, by omega, by omega, by go_num, rfl, P9, A2⟩, by simp [intOf]; omega⟩
      by_cases e6 : kd = 6
      · subst e6
        have hP0 : PairO w (wr.alloc (.cells #[.int .i64 6, .int .i64 n, .string nm, .string tq, .slice va vn vc] 50)) b rb σ x L O y wr.heap.size #[.int .i64 6, .int .i64 n, .string nm, .string tq, .slice va vn vc] 50 := ⟨hp.still ((Mod.refl wr Nob).alloc _), CellsAt.new wr _ _, fun hk => by have := hp.footS _ (.inl hk); omega, fun hk => by have := hp.footR _ (.inl hk); omega⟩
        obtain ⟨q, hq⟩ : ∃ q, wr.heap.size = q := ⟨_, rfl⟩
        obtain ⟨W1, hW1⟩ : ∃ W1, wr.alloc (.cells #[.int .i64 6, .int .i64 n, .string nm, .string tq, .slice va vn vc] 50) = W1 := ⟨_, rfl⟩
        rw [hW1, hq] at hP0
        have g0 := hP0.cells.cell 0
        have g1 := hP0.cells.cell 1
        have g2 := hP0.cells.cell 2
        have g3 := hP0.cells.cell 3
        have g4 := hP0.cells.cell 4
        simp at g0 g1 g2 g3 g4
        go_wp2_with fail
        clear hW1 hq hp mr x0 x1 x2 x3 x4
        refine (fork_in hP0 ha hk6).mono ?_
        rintro e w2 ⟨b2, x2, rfl, F2⟩
        have F3 := F2.still ((Mod.refl w2 Nob).alloc (.cells #[.int .u8 7] 5))
        have hv7 := byte_new w2 7
        simp at hv7
        go_wp2_with fail
        refine (put_gone F3 ha hk6 _ _ hv7).mono ?_
        rintro e w4 ⟨x4, rfl, F4⟩
        clear F3 F2 hv7 hP0
        go_wp2_with fail
        refine (roll_gone _ F4 ha hk6 (by unfold maxLen; decide)).mono ?_
        rintro e w5 ⟨ok, rfl, P2⟩
        have A2 := ha.mono (show k ≤ k + 1 by omega) (show 64 * k ≤ 64 * (k + 1) by omega)
        have g2 := P2.cells.cell 2
        simp at g2
        clear F4
        go_wp2_with fail
        refine (shows_yes b2 rb (k + 1) (64 * (k + 1)) σ x2 L O y nm _ P2.pair.both A2 (by omega) (by omega)).mono ?_
        rintro e w8 ⟨rfl, m8⟩
        have P8 := P2.still m8
        have g3 := P8.cells.cell 3
        simp at g3
        go_wp2_with fail
        refine (shows_yes b2 rb (k + 1) (64 * (k + 1)) σ x2 L O y tq _ P8.pair.both A2 (by omega) (by omega)).mono ?_
        rintro e w9 ⟨rfl, m9⟩
        have P9 := P8.pair.still m9
        clear m8 m9 g3 P8
        go_wp2_with fail
        exact ⟨⟨k + 1, b2, σ, x2, L, O, y, by omega, by omega, by go_num, rfl, P9, A2⟩, by simp [intOf]; omega⟩
      have b1 : (kd == 1) = false := beq_eq_false_iff_ne.2 e1
      have b2 : (kd == 2) = false := beq_eq_false_iff_ne.2 e2
      have b3 : (kd == 3) = false := beq_eq_false_iff_ne.2 e3
      have b4 : (kd == 4) = false := beq_eq_false_iff_ne.2 e4
      have b5 : (kd == 5) = false := beq_eq_false_iff_ne.2 e5
      have b6 : (kd == 6) = false := beq_eq_false_iff_ne.2 e6
      clear e1 e2 e3 e4 e5 e6
      by_cases h300 : 300 < vn
      ·
        have hP0 : PairO w (wr.alloc (.cells #[.int .i64 kd, .int .i64 n, .string nm, .string tq, .slice va vn vc] 50)) b rb σ x L O y wr.heap.size #[.int .i64 kd, .int .i64 n, .string nm, .string tq, .slice va vn vc] 50 := ⟨hp.still ((Mod.refl wr Nob).alloc _), CellsAt.new wr _ _, fun hk => by have := hp.footS _ (.inl hk); omega, fun hk => by have := hp.footR _ (.inl hk); omega⟩

        have A2 := ha.mono (show k ≤ k + 1 by omega) (show 64 * k ≤ 64 * (k + 1) by omega)
        have P9 := hP0.pair
        clear hP0
        go_wp2_with fail
        exact ⟨⟨k + 1, b, σ, x, L, O, y, by omega, by omega, by go_num, rfl, P9, A2⟩, by simp [intOf]; omega⟩
      ·
        have hP0 : PairO w (wr.alloc (.cells #[.int .i64 kd, .int .i64 n, .string nm, .string tq, .slice va vn vc] 50)) b rb σ x L O y wr.heap.size #[.int .i64 kd, .int .i64 n, .string nm, .string tq, .slice va vn vc] 50 := ⟨hp.still ((Mod.refl wr Nob).alloc _), CellsAt.new wr _ _, fun hk => by have := hp.footS _ (.inl hk); omega, fun hk => by have := hp.footR _ (.inl hk); omega⟩
        obtain ⟨q, hq⟩ : ∃ q, wr.heap.size = q := ⟨_, rfl⟩
        obtain ⟨W1, hW1⟩ : ∃ W1, wr.alloc (.cells #[.int .i64 kd, .int .i64 n, .string nm, .string tq, .slice va vn vc] 50) = W1 := ⟨_, rfl⟩
        rw [hW1, hq] at hP0
        have g0 := hP0.cells.cell 0
        have g1 := hP0.cells.cell 1
        have g2 := hP0.cells.cell 2
        have g3 := hP0.cells.cell 3
        have g4 := hP0.cells.cell 4
        simp at g0 g1 g2 g3 g4
        go_wp2_with fail
        clear hW1 hq hp mr x0 x1 x2 x3 x4

        have hle : vn ≤ 300 := by omega
        clear h300
        refine (own_in hP0 hbytes HV.out hle).mono ?_
        rintro e w2 ⟨g, rfl, I2⟩
        have g2 := I2.po.cells.cell 2
        simp at g2
        clear hP0
        go_wp2_with fail
        refine (put_in I2 ha hk6 nm).mono ?_
        rintro e w3 ⟨x3, rfl, I3⟩
        have g2 := I3.po.cells.cell 2
        have g4 := I3.po.cells.cell 4
        simp at g2 g4
        clear I2
        go_wp2_with fail
        refine (put_ref_in I3 ha hk6 nm _ hbytes).mono ?_
        rintro e w4 ⟨y4, rfl, I4⟩
        have g4 := I4.po.cells.cell 4
        simp at g4
        clear I3
        go_wp2_with fail
        refine (kept_in I4 _ hbytes).mono ?_
        rintro e w5 ⟨rfl, I5⟩
        clear I4
        go_wp2_with fail
        refine (spoil_in I5).mono ?_
        rintro e w6 ⟨rfl, P2⟩
        have A2 := (ha.put nm l (by rw [HV.out]; exact hle) hsz).mono (Nat.le_refl _) (show 64 * k + 1 ≤ 64 * (k + 1) by omega)
        have g2 := P2.cells.cell 2
        simp at g2
        clear I5
        go_wp2_with fail
        refine (shows_yes b rb (k + 1) (64 * (k + 1)) (σ.put nm l) x3 (putL L nm l) (O ++ [L]) y4 nm _ P2.pair.both A2 (by omega) (by omega)).mono ?_
        rintro e w8 ⟨rfl, m8⟩
        have P8 := P2.still m8
        have g3 := P8.cells.cell 3
        simp at g3
        go_wp2_with fail
        refine (shows_yes b rb (k + 1) (64 * (k + 1)) (σ.put nm l) x3 (putL L nm l) (O ++ [L]) y4 tq _ P8.pair.both A2 (by omega) (by omega)).mono ?_
        rintro e w9 ⟨rfl, m9⟩
        have P9 := P8.pair.still m9
        clear m8 m9 g3 P8
        go_wp2_with fail
        exact ⟨⟨k + 1, b, (σ.put nm l), x3, (putL L nm l), (O ++ [L]), y4, by omega, by omega, by go_num, rfl, P9, A2⟩, by simp [intOf]; omega⟩
    · have d0 : (decide ((k : Int) < (len : Int)) && decide ((k : Int) < 60)) = false := by
        rw [Bool.and_eq_false_iff]
        by_cases h : k < len
        · exact .inr (by simp; omega)
        · exact .inl (by simp; omega)
      by_cases h1 : k < len
      · have h2 : ¬ k < 60 := by omega
        clear hlt d0
        go_wp2_with fail
        go_ret
        exact ⟨rfl, mr⟩
      · clear hlt d0
        go_wp2_with fail
        go_ret
        exact ⟨rfl, mr⟩

end Go.Proofs.Ytbpdmncobeiinaa
