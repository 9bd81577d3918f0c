/- What Replay and Flip of a store do. The condition: fewer than 2^30 changes, and what is shown is short. -/
import Derived.Test.YtbpdmncobeiinaaSd
namespace Go.Proofs.Ytbpdmncobeiinaa
open Go.RowKit

/-- A version of a name, as a value in memory. -/
theorem StoreAt.version {w : World} {b : Nat} {σ : Sto} {x : StoB} {nm : ByteArray} {k : Nat} {l : List UInt8} (h : StoreAt w b σ x) (hs : (σ.vers nm)[k]? = some l) :
    ∃ bb oo c a' c', (Instr.lookup 63 (.map (some x.mv)) (.string nm) false).run Try.prog w = .ok (.slice (some ⟨bb, oo, none⟩) (σ.vers nm).length c) w ∧
      w.cell? ⟨bb, oo + k, none⟩ = some (.slice a' l.length c') ∧ Held w x.held (.slice a' l.length c') l ∧ (σ.vers nm).length ≤ 9223372036854775807 := by
  obtain ⟨f, hf, hf2⟩ := h.vers
  obtain ⟨a, c, hv, h1, h2, us, h3, h4, h5, h6⟩ := vers_of (hf2 nm)
  have hk : k < (σ.vers nm).length := (List.getElem?_eq_some_iff.1 hs).1
  have hu : us[k]? = some (us[k]'(by omega)) := List.getElem?_eq_getElem (by omega)
  have hh := h6 k _ l hu hs
  obtain ⟨a', c', hform, _⟩ := hh.1.form
  rw [List.length_map] at hform
  have hrun := run_lookup_at (P := Try.prog) (T := 63) Try.underlying63 keyS zero_vers hf nm false
  rw [hv] at hrun
  rcases h3 with ⟨h3, h7⟩ | ⟨bb, oo, cap, h3, _, _, _, h7⟩
  · rw [h7] at h5; simp at h5; omega
  · simp only [Value.slice.injEq] at h3
    obtain ⟨rfl, _, rfl⟩ := h3
    have hc := h7 k _ hu
    rw [hform] at hc hh
    exact ⟨bb, oo, _, a', c', hrun, hc, hh, by unfold maxLen at h2; omega⟩

set_option maxRecDepth 100000 in
set_option maxHeartbeats 1000000 in
theorem replay_yes (b : Nat) (σ : Sto) (x : StoB) (nm : ByteArray) (k : Nat) (l : List UInt8) (w : World) (h : StoreAt w b σ x) (hs : (σ.vers nm)[k]? = some l) (hn : σ.changes.length < 1073741824) :
    Calls Try.prog 14 #[.pointer (some ⟨b, 0, none⟩), .string nm, .int .i64 k] w (DidS w b x (.bool true) (σ.set nm (some l))) := by
  have hk : k < (σ.vers nm).length := (List.getElem?_eq_some_iff.1 hs).1
  have hh := versions_any b σ x nm w h
  obtain ⟨bb, oo, c, a', c', hrun, hcell, hheld, hmax⟩ := h.version hs
  have c1 := h.cells.cell 1
  simp at c1
  obtain ⟨n, hnn⟩ : ∃ n, (σ.vers nm).length = n := ⟨_, rfl⟩
  rw [hnn] at hh hrun hk hmax
  clear hnn
  have hk0 : (0 : Int) ≤ (k : Int) := by omega
  go_enter Try.func14, Try.ntmps14
  go_wp2_with fail
  refine hh.mono ?_
  rintro e w1 ⟨rfl, rfl⟩
  clear hh
  go_wp2_with fail
  refine (set_some b σ x nm _ l _ h hheld hn).mono ?_
  rintro e w1 ⟨x1, rfl, h1, s1⟩
  go_wp2_with fail
  go_ret
  exact ⟨x1, rfl, h1, s1⟩

set_option maxRecDepth 100000 in
set_option maxHeartbeats 400000 in
theorem replay_no (b : Nat) (σ : Sto) (x : StoB) (nm : ByteArray) (k : Int) (w : World) (h : StoreAt w b σ x) (hs : k < 0 ∨ ((σ.vers nm).length : Int) ≤ k) :
    Calls Try.prog 14 #[.pointer (some ⟨b, 0, none⟩), .string nm, .int .i64 k] w (DidS w b x (.bool false) σ) := by
  have hh := versions_any b σ x nm w h
  obtain ⟨n, hnn⟩ : ∃ n, (σ.vers nm).length = n := ⟨_, rfl⟩
  rw [hnn] at hh hs
  by_cases h0 : k < 0
  · clear hh
    go_enter Try.func14, Try.ntmps14
    go_wp2_with fail
    go_ret
    exact ⟨x, rfl, h, StepS.refl _ _ _⟩
  · have h1 : (n : Int) ≤ k := hs.resolve_left h0
    clear hs
    go_enter Try.func14, Try.ntmps14
    go_wp2_with fail
    refine hh.mono ?_
    rintro e w1 ⟨rfl, rfl⟩
    clear hh
    go_wp2_with fail
    go_ret
    exact ⟨x, rfl, h, StepS.refl _ _ _⟩

theorem xor_val (y : UInt8) (r : Nat) (h : r < 8) : bits BinOp.xor IntKind.u8 (y.toNat : Int) (IntKind.u8.wrap (2 ^ r)) = ((y ^^^ (1 <<< UInt8.ofNat r)).toNat : Int) := by
  have key : ∀ (a : Fin 256) (r : Fin 8), bits BinOp.xor IntKind.u8 ((UInt8.ofNat a.val).toNat : Int) (IntKind.u8.wrap (2 ^ r.val)) = (((UInt8.ofNat a.val) ^^^ (1 <<< UInt8.ofNat r.val)).toNat : Int) := by decide +kernel
  have := key ⟨y.toNat, y.toNat_lt⟩ ⟨r, h⟩
  simpa using this

/-- A bit of bytes turned. -/
def flipped (l : List UInt8) (k : Nat) : List UInt8 := l.set (k / 8) ((l.getD (k / 8) 0) ^^^ (1 <<< (UInt8.ofNat (k % 8))))

set_option maxRecDepth 100000 in
set_option maxHeartbeats 1000000 in
theorem flip_yes (b : Nat) (σ : Sto) (x : StoB) (nm : ByteArray) (k : Nat) (l : List UInt8) (w : World) (h : StoreAt w b σ x) (hs : σ.shows nm = some l) (hk : k / 8 < l.length) (hl : l.length ≤ 1099511627776) (hn : σ.changes.length < 1073741824) :
    Calls Try.prog 11 #[.pointer (some ⟨b, 0, none⟩), .string nm, .int .i64 k] w (DidS w b x (.bool true) (σ.set nm (some (flipped l k)))) := by
  have hh1 := has_any b σ x nm w h
  rw [hs, Option.isSome_some] at hh1
  obtain ⟨a1, k1, hv1, hr1⟩ := h.shown hs
  have hq1 := hr1 w false (Mod.refl w Nob)
  simp only [Bool.false_eq_true, if_false] at hq1
  have c0 := h.cells.cell 0
  simp at c0
  clear hr1
  have hk0 : (0 : Int) ≤ (k : Int) := by omega
  obtain ⟨q, hq⟩ : ∃ q, k / 8 = q := ⟨_, rfl⟩
  obtain ⟨r, hr⟩ : ∃ r, k % 8 = r := ⟨_, rfl⟩
  have hr8 : r < 8 := by omega
  have hfl : Hid (flipped l k = l.set q ((l.getD q 0) ^^^ (1 <<< (UInt8.ofNat r)))) := by unfold Hid flipped; rw [hq, hr]
  have hw : wrap64 (q : Int) = (q : Int) := by unfold wrap64; omega
  have hw1 : (k : Int) / 8 = (q : Int) := by omega
  have hw3 : (k : Int) % 8 = (r : Int) := by omega
  have hw4 : (k : Int).tmod 8 = (r : Int) := by rw [Int.tmod_eq_emod_of_nonneg (by omega)]; omega
  have hw2 : decide ((k : Int) < 0) = false := by simp
  have HL := Lib.hid hl
  rw [hq] at hk
  clear hl hq hr
  go_enter Try.func11, Try.ntmps11
  go_wp2_with fail
  refine hh1.mono ?_
  rintro e w1 ⟨rfl, rfl⟩
  clear hh1
  go_wp2_with fail
  refine (clone_bytes _ _ _ hv1.1 HL.out).mono ?_
  rintro e w1 ⟨v1, rfl, hown, hm, _⟩
  obtain ⟨g, cap, rfl, hgb, hgl, hcells, hfrees⟩ := owns_open hown (by omega)
  have hcell : w1.cell? ⟨g, q, none⟩ = some (B (l.getD q 0)) := hcells q _ (by simp [List.getD, hk])
  have hfree := hfrees q
  obtain ⟨y, hy⟩ : ∃ y, l.getD q 0 = y := ⟨_, rfl⟩
  rw [hy] at hcell
  unfold B at hcell
  have hw5 : IntKind.i64.wrap (q : Int) = (q : Int) := by rw [IntKind.wrap_i64]; have := HL.out; omega
  have hi0 : (0 : Int) ≤ (q : Int) := by omega
  have hi1 : (q : Int) < (l.length : Int) := by omega
  have hstill := h.still hm
  clear hq1 hv1 c0 hcells hfrees
  have HO := Lib.hid hown
  clear hown
  go_wp2_with fail
  go_still_tail 9, (by kernel_rfl)
  have hx8 := xor_val y r hr8
  obtain ⟨z, hz⟩ : ∃ z, (y ^^^ (1 <<< UInt8.ofNat r)) = z := ⟨_, rfl⟩
  rw [hz] at hx8
  rw [hy, hz] at hfl
  clear hz hw3 hw4 hr8 hy
  change wpList _ _ _ _ _ w1.drew
  go_wp2_with fail
  have hset := owns_set HO.out q (.int .u8 (z.toNat : Int))
  have hrow : RowIn _ _ _ := .inl (RowAt.of_owns hset)
  have hmap : (l.map B).set q (.int .u8 (z.toNat : Int)) = (l.set q z).map B := by rw [List.map_set]; rfl
  rw [hmap] at hrow
  have hgf : ¬ x.foot b g := fun hf => by have := h.foot_lt g hf; omega
  have hM := (Mod.refl w1 (· = g)).setCell (p := ⟨g, q, none⟩) (.inl rfl) (.int .u8 (z.toNat : Int))
  have hst2 := hstill.mod hM (fun k hk => by rw [hk]; exact hgf)
  have hst3 := (hst2.mod ((Mod.refl _ Nob).drew) (fun _ h => h.elim)).hold_more (· = g) (fun k hk => by rw [hk]; exact ⟨Nat.lt_of_lt_of_le hgl hM.size, fun ho => hgf (.inl ho)⟩)
  have hlen : (l.set q z).length = l.length := by simp
  refine (set_some b σ _ nm _ (l.set q z) _ hst3 ⟨by exact hrow, fun k hk => .inr (by simp [inBlock, Value.ownBlock] at hk; omega)⟩ hn).mono ?_
  rintro e w2 ⟨x2, rfl, h2, s2⟩
  clear hst2 hst3 hrow hset hM hmap
  go_wp2_with fail
  go_ret
  refine ⟨x2, rfl, by rw [hfl.out]; exact h2, ?_⟩
  refine StepS.trans (x' := { x with held := fun k => x.held k ∨ k = g }) ⟨(hm.nob.setCell (.inr hgb) _).drew, fun k hk => .inl hk, fun k hk => .inl hk, fun k hk => hk.imp (fun h => h) (fun h => by omega)⟩ s2

set_option maxRecDepth 100000 in
set_option maxHeartbeats 400000 in
theorem flip_none (b : Nat) (σ : Sto) (x : StoB) (nm : ByteArray) (k : Int) (w : World) (h : StoreAt w b σ x) (hs : σ.shows nm = none) :
    Calls Try.prog 11 #[.pointer (some ⟨b, 0, none⟩), .string nm, .int .i64 k] w (DidS w b x (.bool false) σ) := by
  have hh1 := has_any b σ x nm w h
  rw [hs, Option.isSome_none] at hh1
  go_enter Try.func11, Try.ntmps11
  go_wp2_with fail
  refine hh1.mono ?_
  rintro e w1 ⟨rfl, rfl⟩
  clear hh1
  go_wp2_with fail
  go_ret
  exact ⟨x, rfl, h, StepS.refl _ _ _⟩

set_option maxRecDepth 100000 in
set_option maxHeartbeats 400000 in
theorem flip_no (b : Nat) (σ : Sto) (x : StoB) (nm : ByteArray) (k : Int) (l : List UInt8) (w : World) (h : StoreAt w b σ x) (hs : σ.shows nm = some l) (hk : k < 0 ∨ (l.length : Int) ≤ k / 8) (hk2 : k ≤ 9223372036854775807) :
    Calls Try.prog 11 #[.pointer (some ⟨b, 0, none⟩), .string nm, .int .i64 k] w (DidS w b x (.bool false) σ) := by
  have hh1 := has_any b σ x nm w h
  rw [hs, Option.isSome_some] at hh1
  by_cases h0 : k < 0
  · clear hk
    go_enter Try.func11, Try.ntmps11
    go_wp2_with fail
    refine hh1.mono ?_
    rintro e w1 ⟨rfl, rfl⟩
    clear hh1
    go_wp2_with fail
    go_ret
    exact ⟨x, rfl, h, StepS.refl _ _ _⟩
  · have h1 := hk.resolve_left h0
    obtain ⟨a1, k1, hv1, hr1⟩ := h.shown hs
    have hq1 := hr1 w false (Mod.refl w Nob)
    simp only [Bool.false_eq_true, if_false] at hq1
    have c0 := h.cells.cell 0
    simp at c0
    obtain ⟨n, rfl⟩ := Int.eq_ofNat_of_zero_le (show 0 ≤ k by omega)
    obtain ⟨q, hq⟩ : ∃ q, n / 8 = q := ⟨_, rfl⟩
    have hw : wrap64 (q : Int) = (q : Int) := by unfold wrap64; omega
    have hw1 : (n : Int) / 8 = (q : Int) := by omega
    have hw2 : decide ((n : Int) < 0) = false := by simp
    have hge : l.length ≤ q := by omega
    clear hr1 hk h1 h0 hk2 hq
    go_enter Try.func11, Try.ntmps11
    go_wp2_with fail
    refine hh1.mono ?_
    rintro e w1 ⟨rfl, rfl⟩
    clear hh1
    go_wp2_with fail
    go_ret
    exact ⟨x, rfl, h, StepS.refl _ _ _⟩

end Go.Proofs.Ytbpdmncobeiinaa
