/- The document's store: Swap. No condition but sizes. -/
import Derived.Test.YtbpdmncobeiinaaPd
namespace Go.Proofs.Ytbpdmncobeiinaa
open Go.RowKit

theorem RefAt.form {w : World} {b : Nat} {L : List RC} {O : List (List RC)} {y : RefB} (h : RefAt w b L O y) : ∃ a c, y.lv = .slice a L.length c ∧ L.length ≤ c ∧ c ≤ 9223372036854775807 := by
  obtain ⟨a, c, h1, h2, h3⟩ := h.row.form
  exact ⟨a, c, h1, h2, by unfold maxLen at h3; omega⟩

/-- All that a walk wants of a cell of the document's store. -/
theorem RefAt.read {w : World} {b : Nat} {L : List RC} {O : List (List RC)} {y : RefB} {a : Option Addr} {cap : Nat} (h : RefAt w b L O y) (hf : y.lv = .slice a L.length cap) (k : Nat) (c : RC) (hc : L[k]? = some c) :
    ∃ g ba bn bc aa an ac, a = some ⟨g, 0, none⟩ ∧ w.cell? ⟨b, 0, none⟩ = some (.slice (some ⟨g, 0, none⟩) L.length cap) ∧ RcAt w y.held c (.slice ba bn bc, .slice aa an ac) ∧
      w.cell? ⟨g, k * 4, none⟩ = some (.string c.1) ∧ w.cell? ⟨g, k * 4 + 1, none⟩ = some (.bool c.2.1.isSome) ∧ w.cell? ⟨g, k * 4 + 2, none⟩ = some (.slice ba bn bc) ∧ w.cell? ⟨g, k * 4 + 3, none⟩ = some (.slice aa an ac) := by
  have c0 := h.cells.cell 0
  have hrow := h.row
  rw [hf] at c0 hrow
  obtain ⟨g, ⟨uv, av⟩, rfl, ⟨hb, hu⟩, k0, k1, k2, k3⟩ := hrow.get k c hc
  obtain ⟨ba, bn, bc, rfl⟩ : ∃ a n c, uv = .slice a n c := by obtain ⟨a, c, e, _⟩ := hb.1.form; exact ⟨_, _, _, e⟩
  obtain ⟨aa, an, ac, rfl⟩ : ∃ a n c, av = .slice a n c := by obtain ⟨_, hc2, _⟩ := hu; obtain ⟨a, c, e, _⟩ := hc2.form; exact ⟨_, _, _, e⟩
  exact ⟨g, ba, bn, bc, aa, an, ac, rfl, by simpa using c0, ⟨hb, hu⟩, k0, k1, k2, k3⟩

def swapL (L : List RC) (k1 k2 : Nat) (c1 c2 : RC) : List RC := if k1 = k2 then L else (L.set k1 c1).set k2 c2

set_option maxRecDepth 100000 in
set_option maxHeartbeats 4000000 in
theorem ref_swap_yes (b : Nat) (L : List RC) (O : List (List RC)) (y : RefB) (n1 n2 : ByteArray) (l1 l2 : List UInt8) (w : World) (h : RefAt w b L O y) (hs1 : shows_ L n1 = some l1) (hs2 : shows_ L n2 = some l2) (hL : L.length < 1000000) :
    Calls Try.prog 20 #[.pointer (some ⟨b, 0, none⟩), .string n1, .string n2] w
      (DidR w b y (.bool true) (swapL L (place L n1) (place L n2) (n1, some l2, vers_ L n1) (n2, some l1, vers_ L n2)) O) := by
  have ht1 := shown_any b L O y n1 w h
  obtain ⟨vs1, hc1, he1, hth1⟩ := shown_yes hs1
  obtain ⟨vs2, hc2, he2, hth2⟩ := shown_yes hs2
  have ht2 := fun n => shown_any b L O y n2 (w.drewN n) (h.still ((Mod.refl w Nob).drewN n))
  rw [vers_of_there hth1 hc1, vers_of_there hth2 hc2]
  rw [he1] at ht1
  simp only [he2] at ht2
  clear he1 he2 hs1 hs2 hth1 hth2
  obtain ⟨K1, hK1⟩ : ∃ K, place L n1 = K := ⟨_, rfl⟩
  obtain ⟨K2, hK2⟩ : ∃ K, place L n2 = K := ⟨_, rfl⟩
  rw [hK1] at ht1 hc1 ⊢
  simp only [hK2] at ht2 hc2 ⊢
  clear hK1 hK2
  have hKL1 := (List.getElem?_eq_some_iff.1 hc1).1
  have hKL2 := (List.getElem?_eq_some_iff.1 hc2).1
  obtain ⟨la, lc, hlv, hlc, hcm⟩ := h.form
  go_enter Try.func20, Try.ntmps20
  go_wp2_with fail
  refine ht1.mono ?_
  rintro e w1 ⟨rfl, n, rfl⟩
  go_wp2_with fail
  refine (ht2 n).mono ?_
  rintro e w1 ⟨rfl, n', rfl⟩
  have m0 := ((Mod.refl w Nob).drewN n).drewN n'
  obtain ⟨W, hW⟩ : ∃ W, (w.drewN n).drewN n' = W := ⟨_, rfl⟩
  rw [hW] at m0 ⊢
  clear hW ht1 ht2
  have h1 := h.still m0
  obtain ⟨g, ba, bn, bc, aa, an, ac, rfl, c0, hr1, k0, k1, k2, k3⟩ := h1.read hlv K1 _ hc1
  obtain ⟨g', ba', bn', bc', aa', an', ac', hgg, _, hr2, j0, j1, j2, j3⟩ := h1.read hlv K2 _ hc2
  cases hgg
  dsimp only at k0 k1 k2 k3 j0 j1 j2 j3
  simp only [Option.isSome_some] at k1 j1
  obtain ⟨N, hN⟩ : ∃ N, L.length = N := ⟨_, rfl⟩
  rw [hN] at c0 hlc
  have hKN1 : K1 < N := by omega
  have hKN2 : K2 < N := by omega
  have HN := Lib.hid hN
  have HR1 := Lib.hid hr1
  have HR2 := Lib.hid hr2
  clear hlv hc1 hc2 hN hr1 hr2
  go_wp2_with fail
  have hbW : b < W.heap.size := cell_lt c0
  have hgW : g < W.heap.size := cell_lt k0
  go_region
  · have x9 := ((CellsAt.new W #[.string n1, .bool true, .slice ba bn bc, .slice aa an ac] 83).alloc (.cells #[.string n2, .bool true, .slice ba' bn' bc', .slice aa' an' ac'] 83)).mod ((Mod.refl _ Nob).drew) nob
    have x10 := (CellsAt.new (W.alloc (.cells #[.string n1, .bool true, .slice ba bn bc, .slice aa an ac] 83)) #[.string n2, .bool true, .slice ba' bn' bc', .slice aa' an' ac'] 83).mod ((Mod.refl _ Nob).drew) nob
    have mA := (((Mod.refl W Nob).alloc (.cells #[.string n1, .bool true, .slice ba bn bc, .slice aa an ac] 83)).alloc (.cells #[.string n2, .bool true, .slice ba' bn' bc', .slice aa' an' ac'] 83)).drew
    rw [World.size_alloc] at x10
    obtain ⟨W2, hW2⟩ : ∃ W2, ((W.alloc (.cells #[.string n1, .bool true, .slice ba bn bc, .slice aa an ac] 83)).alloc (.cells #[.string n2, .bool true, .slice ba' bn' bc', .slice aa' an' ac'] 83)).drew = W2 := ⟨_, rfl⟩
    rw [hW2] at x9 x10 mA ⊢
    obtain ⟨p, hp⟩ : ∃ p, W.heap.size = p := ⟨_, rfl⟩
    rw [hp] at x9 x10 ⊢
    obtain ⟨q, hq⟩ : ∃ q, p + 1 = q := ⟨_, rfl⟩
    rw [hq] at x10 ⊢
    have hpq : p ≠ q := by omega
    have hpW : W.heap.size ≤ p := by omega
    have hqW : W.heap.size ≤ q := by omega
    clear hW2 hp hq
    clear c0 k0 k1 k2 k3 j0 j1 j2 j3
    have mP := (Mod.refl W2 (· = p)).setCell (p := ⟨p, 2, none⟩) (.inl rfl) (.slice ba' bn' bc')
    have mQ := (Mod.refl (W2.setCell ⟨p, 2, none⟩ (.slice ba' bn' bc')) (· = q)).setCell (p := ⟨q, 2, none⟩) (.inl rfl) (.slice ba bn bc)
    have y9 := (x9.set 2 (.slice ba' bn' bc')).mod mQ hpq
    have y10 := (x10.mod mP (fun e => hpq e.symm)).set 2 (.slice ba bn bc)
    have m3 : Mod W ((W2.setCell ⟨p, 2, none⟩ (.slice ba' bn' bc')).setCell ⟨q, 2, none⟩ (.slice ba bn bc)) Nob := (mA.setCell (p := ⟨p, 2, none⟩) (.inr hpW) _).setCell (p := ⟨q, 2, none⟩) (.inr hqW) _
    have e2 := x9.cell 2
    have e3 := x10.cell 2
    have e4 := (x10.mod mP (fun e => hpq e.symm)).cell 2
    have f2 := x9.free 2
    have f3 := (x10.mod mP (fun e => hpq e.symm)).free 2
    have d0 := y9.cell 0
    have d1 := y9.cell 1
    have d2 := y9.cell 2
    have d3 := y9.cell 3
    simp at d0 d1 d2 d3 e2 e3 e4
    by_cases hKK : K1 = K2
    · subst hKK
      go_wp2_with fail
      go_ret
      refine ⟨y, rfl, ?_, StepR.of_mod (m0.trans m3)⟩
      unfold swapL
      rw [if_pos rfl]
      exact h1.still m3
    · have dk : ((K1 : Int) == (K2 : Int)) = false := by simp; omega
      go_wp2_with fail
      refine (ref_set b L O y K1 (n1, some l2, vs1) (.slice ba' bn' bc') (.slice aa an ac) _ (h1.still m3) (by rw [HN.out]; exact hKN1) hL ⟨HR2.out.1.mono m3 (fun _ h => h.elim) (fun _ h => h), HR1.out.2.mono m3 (fun _ h => h.elim) (fun _ h => h)⟩).mono ?_
      rintro e w2 ⟨y2, rfl, h2, hk2⟩
      have hqo : ¬ y.own b q := fun ho => by have := h1.foot_lt q (.inl ho); omega
      have z10 := y10.mod hk2.mod hqo
      have g0 := z10.cell 0
      have g1 := z10.cell 1
      have g2 := z10.cell 2
      have g3 := z10.cell 3
      simp at g0 g1 g2 g3
      have hho : ∀ k, y.own b k → ¬ y.held k := fun k ho hh => (h.hold k hh).2 ho
      have hra : RcAt w2 y2.held (n2, some l1, vs2) (.slice ba bn bc, .slice aa' an' ac') := ⟨(HR1.out.1.mono m3 (fun _ h => h.elim) (fun _ h => h)).mono hk2.mod hho hk2.held, (HR2.out.2.mono m3 (fun _ h => h.elim) (fun _ h => h)).mono hk2.mod hho hk2.held⟩
      have HRA := Lib.hid hra
      clear d0 d1 d2 d3 e2 e3 e4 f2 f3 y9 y10 x9 x10 mP mQ hra
      go_wp2_with fail
      refine (ref_set b (L.set K1 (n1, some l2, vs1)) O y2 K2 (n2, some l1, vs2) (.slice ba bn bc) (.slice aa' an' ac') _ h2 (by rw [List.length_set, HN.out]; exact hKN2) (by rw [List.length_set]; exact hL) HRA.out).mono ?_
      rintro e w4 ⟨y4, rfl, h4, hk4⟩
      go_wp2_with fail
      go_ret
      refine ⟨y4, rfl, ?_, ((StepR.of_mod (m0.trans m3)).trans hk2).trans hk4⟩
      unfold swapL
      rw [if_neg hKK]
      exact h4
  · have x10 := ((CellsAt.new W #[.string n2, .bool true, .slice ba' bn' bc', .slice aa' an' ac'] 83).alloc (.cells #[.string n1, .bool true, .slice ba bn bc, .slice aa an ac] 83)).mod ((Mod.refl _ Nob).drew) nob
    have x9 := (CellsAt.new (W.alloc (.cells #[.string n2, .bool true, .slice ba' bn' bc', .slice aa' an' ac'] 83)) #[.string n1, .bool true, .slice ba bn bc, .slice aa an ac] 83).mod ((Mod.refl _ Nob).drew) nob
    have mA := (((Mod.refl W Nob).alloc (.cells #[.string n2, .bool true, .slice ba' bn' bc', .slice aa' an' ac'] 83)).alloc (.cells #[.string n1, .bool true, .slice ba bn bc, .slice aa an ac] 83)).drew
    rw [World.size_alloc] at x9
    obtain ⟨W2, hW2⟩ : ∃ W2, ((W.alloc (.cells #[.string n2, .bool true, .slice ba' bn' bc', .slice aa' an' ac'] 83)).alloc (.cells #[.string n1, .bool true, .slice ba bn bc, .slice aa an ac] 83)).drew = W2 := ⟨_, rfl⟩
    rw [hW2] at x9 x10 mA ⊢
    obtain ⟨q, hq⟩ : ∃ q, W.heap.size = q := ⟨_, rfl⟩
    rw [hq] at x9 x10 ⊢
    obtain ⟨p, hp⟩ : ∃ p, q + 1 = p := ⟨_, rfl⟩
    rw [hp] at x9 ⊢
    have hpq : p ≠ q := by omega
    have hpW : W.heap.size ≤ p := by omega
    have hqW : W.heap.size ≤ q := by omega
    clear hW2 hp hq
    clear c0 k0 k1 k2 k3 j0 j1 j2 j3
    have mP := (Mod.refl W2 (· = p)).setCell (p := ⟨p, 2, none⟩) (.inl rfl) (.slice ba' bn' bc')
    have mQ := (Mod.refl (W2.setCell ⟨p, 2, none⟩ (.slice ba' bn' bc')) (· = q)).setCell (p := ⟨q, 2, none⟩) (.inl rfl) (.slice ba bn bc)
    have y9 := (x9.set 2 (.slice ba' bn' bc')).mod mQ hpq
    have y10 := (x10.mod mP (fun e => hpq e.symm)).set 2 (.slice ba bn bc)
    have m3 : Mod W ((W2.setCell ⟨p, 2, none⟩ (.slice ba' bn' bc')).setCell ⟨q, 2, none⟩ (.slice ba bn bc)) Nob := (mA.setCell (p := ⟨p, 2, none⟩) (.inr hpW) _).setCell (p := ⟨q, 2, none⟩) (.inr hqW) _
    have e2 := x9.cell 2
    have e3 := x10.cell 2
    have e4 := (x10.mod mP (fun e => hpq e.symm)).cell 2
    have f2 := x9.free 2
    have f3 := (x10.mod mP (fun e => hpq e.symm)).free 2
    have d0 := y9.cell 0
    have d1 := y9.cell 1
    have d2 := y9.cell 2
    have d3 := y9.cell 3
    simp at d0 d1 d2 d3 e2 e3 e4
    by_cases hKK : K1 = K2
    · subst hKK
      go_wp2_with fail
      go_ret
      refine ⟨y, rfl, ?_, StepR.of_mod (m0.trans m3)⟩
      unfold swapL
      rw [if_pos rfl]
      exact h1.still m3
    · have dk : ((K1 : Int) == (K2 : Int)) = false := by simp; omega
      go_wp2_with fail
      refine (ref_set b L O y K1 (n1, some l2, vs1) (.slice ba' bn' bc') (.slice aa an ac) _ (h1.still m3) (by rw [HN.out]; exact hKN1) hL ⟨HR2.out.1.mono m3 (fun _ h => h.elim) (fun _ h => h), HR1.out.2.mono m3 (fun _ h => h.elim) (fun _ h => h)⟩).mono ?_
      rintro e w2 ⟨y2, rfl, h2, hk2⟩
      have hqo : ¬ y.own b q := fun ho => by have := h1.foot_lt q (.inl ho); omega
      have z10 := y10.mod hk2.mod hqo
      have g0 := z10.cell 0
      have g1 := z10.cell 1
      have g2 := z10.cell 2
      have g3 := z10.cell 3
      simp at g0 g1 g2 g3
      have hho : ∀ k, y.own b k → ¬ y.held k := fun k ho hh => (h.hold k hh).2 ho
      have hra : RcAt w2 y2.held (n2, some l1, vs2) (.slice ba bn bc, .slice aa' an' ac') := ⟨(HR1.out.1.mono m3 (fun _ h => h.elim) (fun _ h => h)).mono hk2.mod hho hk2.held, (HR2.out.2.mono m3 (fun _ h => h.elim) (fun _ h => h)).mono hk2.mod hho hk2.held⟩
      have HRA := Lib.hid hra
      clear d0 d1 d2 d3 e2 e3 e4 f2 f3 y9 y10 x9 x10 mP mQ hra
      go_wp2_with fail
      refine (ref_set b (L.set K1 (n1, some l2, vs1)) O y2 K2 (n2, some l1, vs2) (.slice ba bn bc) (.slice aa' an' ac') _ h2 (by rw [List.length_set, HN.out]; exact hKN2) (by rw [List.length_set]; exact hL) HRA.out).mono ?_
      rintro e w4 ⟨y4, rfl, h4, hk4⟩
      go_wp2_with fail
      go_ret
      refine ⟨y4, rfl, ?_, ((StepR.of_mod (m0.trans m3)).trans hk2).trans hk4⟩
      unfold swapL
      rw [if_neg hKK]
      exact h4

end Go.Proofs.Ytbpdmncobeiinaa
