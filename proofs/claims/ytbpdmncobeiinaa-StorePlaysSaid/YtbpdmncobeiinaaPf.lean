/- The document's store: Swap that does not, Flip. No condition but sizes. -/
import Derived.Test.YtbpdmncobeiinaaPe
import Derived.Test.YtbpdmncobeiinaaSe
namespace Go.Proofs.Ytbpdmncobeiinaa
open Go.RowKit

set_option maxRecDepth 100000 in
set_option maxHeartbeats 1000000 in
theorem ref_swap_no (b : Nat) (L : List RC) (O : List (List RC)) (y : RefB) (n1 n2 : ByteArray) (w : World) (h : RefAt w b L O y) (hs : shows_ L n1 = none ∨ shows_ L n2 = none) :
    Calls Try.prog 20 #[.pointer (some ⟨b, 0, none⟩), .string n1, .string n2] w (Looks w (.bool false)) := by
  have ht1 := shown_any b L O y n1 w h
  have ht2 := fun n => shown_any b L O y n2 (w.drewN n) (h.still ((Mod.refl w Nob).drewN n))
  by_cases h1 : shows_ L n1 = none
  · rw [shown_no h1] at ht1
    obtain ⟨z, hz⟩ : ∃ z, shownVal L n2 = .int .i64 z := ⟨_, rfl⟩
    rw [hz] at ht2
    clear hz hs
    go_enter Try.func20, Try.ntmps20
    go_wp2_with fail
    refine ht1.mono ?_
    rintro e w1 ⟨rfl, n, rfl⟩
    go_wp2_with fail
    refine (ht2 n).mono ?_
    rintro e w1 ⟨rfl, n', rfl⟩
    go_wp2_with fail
    go_ret
    exact ⟨rfl, _, rfl⟩
  · have h2 := hs.resolve_left h1
    simp only [shown_no h2] at ht2
    obtain ⟨l, hl⟩ := Option.ne_none_iff_exists'.1 h1
    obtain ⟨_, _, he, _⟩ := shown_yes hl
    rw [he] at ht1
    obtain ⟨K, hK⟩ : ∃ K, place L n1 = K := ⟨_, rfl⟩
    rw [hK] at ht1
    clear he hs hl h1 h2 hK
    go_enter Try.func20, Try.ntmps20
    go_wp2_with fail
    refine ht1.mono ?_
    rintro e w1 ⟨rfl, n, rfl⟩
    go_wp2_with fail
    refine (ht2 n).mono ?_
    rintro e w1 ⟨rfl, n', rfl⟩
    go_wp2_with fail
    go_ret
    exact ⟨rfl, _, rfl⟩

set_option maxRecDepth 100000 in
set_option maxHeartbeats 1000000 in
theorem ref_flip_no (b : Nat) (L : List RC) (O : List (List RC)) (y : RefB) (nm : ByteArray) (k : Int) (w : World) (h : RefAt w b L O y) (hs : ∀ l, shows_ L nm = some l → k < 0 ∨ (l.length : Int) ≤ k / 8) (hk2 : k ≤ 9223372036854775807) :
    Calls Try.prog 23 #[.pointer (some ⟨b, 0, none⟩), .string nm, .int .i64 k] w (Looks w (.bool false)) := by
  have ht := shown_any b L O y nm w h
  cases hb : shows_ L nm with
  | none =>
    rw [shown_no hb] at ht
    go_enter Try.func23, Try.ntmps23
    go_wp2_with fail
    refine ht.mono ?_
    rintro e w1 ⟨rfl, n, rfl⟩
    go_wp2_with fail
    go_ret
    exact ⟨rfl, _, rfl⟩
  | some l =>
    obtain ⟨vs, hc, he, _⟩ := shown_yes hb
    replace hs := hs l hb
    rw [he] at ht
    clear he hb
    obtain ⟨K, hK⟩ : ∃ K, place L nm = K := ⟨_, rfl⟩
    rw [hK] at ht hc
    clear hK
    have hKL := (List.getElem?_eq_some_iff.1 hc).1
    obtain ⟨la, lc, hlv, hlc, hcm⟩ := h.form
    obtain ⟨M, hM⟩ : ∃ M, l.length = M := ⟨_, rfl⟩
    rw [hM] at hs
    go_enter Try.func23, Try.ntmps23
    go_wp2_with fail
    refine ht.mono ?_
    rintro e w1 ⟨rfl, n, rfl⟩
    have m0 := (Mod.refl w Nob).drewN n
    obtain ⟨W, hW⟩ : ∃ W, w.drewN n = W := ⟨_, rfl⟩
    rw [hW] at m0 ⊢
    have h1 := h.still m0
    obtain ⟨g, ba, bn, bc, aa, an, ac, rfl, c0, ⟨hb, _⟩, k0, k1, k2, k3⟩ := h1.read hlv K _ hc
    obtain ⟨ba2, bc2, hbf, _, _⟩ := hb.1.form
    rw [List.length_map] at hbf
    cases hbf
    dsimp only [Option.getD_some] at k2
    rw [hM] at k2
    obtain ⟨N, hN⟩ : ∃ N, L.length = N := ⟨_, rfl⟩
    rw [hN] at c0 hlc
    have hKN : K < N := by omega
    clear hlv hc hN hb k0 k1 k3 hM
    by_cases hk0 : k < 0
    · have d0 : decide (k < 0) = true := by simpa using hk0
      go_wp2_with fail
      go_ret
      exact ⟨rfl, n, hW.symm⟩
    · have d0 : decide (k < 0) = false := by simpa using hk0
      have hk1 : (M : Int) ≤ k / 8 := hs.resolve_left hk0
      have hq : wrap64 (k / 8) = k / 8 := by unfold wrap64; omega
      have hq2 : k.tdiv 8 = k / 8 := by rw [Int.tdiv_eq_ediv_of_nonneg (by omega)]
      have d1 : decide ((M : Int) ≤ k / 8) = true := by simpa using hk1
      clear hs
      go_wp2_with fail
      go_ret
      exact ⟨rfl, n, hW.symm⟩

set_option maxRecDepth 100000 in
set_option maxHeartbeats 2000000 in
theorem ref_flip_yes (b : Nat) (L : List RC) (O : List (List RC)) (y : RefB) (nm : ByteArray) (k : Nat) (l : List UInt8) (w : World) (h : RefAt w b L O y) (hs : shows_ L nm = some l) (hk : k / 8 < l.length) (hl : l.length ≤ 1099511627776) (hL : L.length < 1000000) :
    Calls Try.prog 23 #[.pointer (some ⟨b, 0, none⟩), .string nm, .int .i64 k] w (DidR w b y (.bool true) (L.set (place L nm) (nm, some (flipped l k), vers_ L nm)) O) := by
  have ht := shown_any b L O y nm w h
  obtain ⟨vs, hc, he, hth⟩ := shown_yes hs
  rw [vers_of_there hth hc]
  rw [he] at ht
  clear he hs hth
  obtain ⟨K, hK⟩ : ∃ K, place L nm = K := ⟨_, rfl⟩
  rw [hK] at ht hc ⊢
  clear hK
  have hKL := (List.getElem?_eq_some_iff.1 hc).1
  obtain ⟨la, lc, hlv, hlc, hcm⟩ := h.form
  have hk0 : (0 : Int) ≤ (k : Int) := by omega
  obtain ⟨q, hq⟩ : ∃ q, k / 8 = q := ⟨_, rfl⟩
  obtain ⟨r, hr⟩ : ∃ r, k % 8 = r := ⟨_, rfl⟩
  have hr8 : r < 8 := by omega
  have hfl : Hid (flipped l k = l.set q ((l.getD q 0) ^^^ (1 <<< (UInt8.ofNat r)))) := by unfold Hid flipped; rw [hq, hr]
  have hw : wrap64 (q : Int) = (q : Int) := by unfold wrap64; omega
  have hw1 : (k : Int) / 8 = (q : Int) := by omega
  have hw3 : (k : Int) % 8 = (r : Int) := by omega
  have hw4 : (k : Int).tmod 8 = (r : Int) := by rw [Int.tmod_eq_emod_of_nonneg (by omega)]; omega
  have hw2 : decide ((k : Int) < 0) = false := by simp
  rw [hq] at hk
  obtain ⟨M, hM⟩ : ∃ M, l.length = M := ⟨_, rfl⟩
  have HL := Lib.hid hl
  have HM := Lib.hid hM
  rw [hM] at hk hl
  clear hq hr hM
  go_enter Try.func23, Try.ntmps23
  go_wp2_with fail
  refine ht.mono ?_
  rintro e w1 ⟨rfl, n, rfl⟩
  have m0 := (Mod.refl w Nob).drewN n
  obtain ⟨W, hW⟩ : ∃ W, w.drewN n = W := ⟨_, rfl⟩
  rw [hW] at m0 ⊢
  clear hW
  have h1 := h.still m0
  obtain ⟨g, ba, bn, bc, aa, an, ac, rfl, c0, hra, k0, k1, k2, k3⟩ := h1.read hlv K _ hc
  obtain ⟨ba2, bc2, hbf, _, _⟩ := hra.1.1.form
  rw [List.length_map] at hbf
  cases hbf
  have HR := Lib.hid hra
  dsimp only [Option.getD_some] at k0 k1 k2 k3
  simp only [Option.isSome_some] at k1
  have hbyt : BytesAt W (.slice ba l.length bc) l := hra.1.1
  rw [HM.out] at k2 hbyt
  have mA := (Mod.refl W Nob).alloc (.cells #[.string nm, .bool true, .slice ba M bc, .slice aa an ac] 83)
  have cA := CellsAt.new W #[.string nm, .bool true, .slice ba M bc, .slice aa an ac] 83
  have hbA := hbyt.mod mA (fun _ _ => nob)
  have cN := CellsAt.new W #[.string ⟨#[]⟩, .bool false, .slice none 0 0, .slice none 0 0] 83
  have n0 := cN.cell 0
  have n1 := cN.cell 1
  have n2 := cN.cell 2
  have n3 := cN.cell 3
  have nf := cN.free
  simp at n0 n1 n2 n3
  obtain ⟨N, hN⟩ : ∃ N, L.length = N := ⟨_, rfl⟩
  rw [hN] at c0 hlc
  have hKN : K < N := by omega
  have HN := Lib.hid hN
  have hd9 : decide ((M : Int) ≤ (q : Int)) = false := by simp; omega
  clear hlv hc hN hra hbyt
  go_wp2_with fail
  refine (copy_bytes _ l _ hbA HL.out).mono ?_
  rintro e w5 ⟨v5, rfl, ho5, hm5⟩
  rw [HM.out] at ho5
  obtain ⟨g5, cap5, rfl, hgb, hgl, hcells, hfrees⟩ := owns_open ho5 (by omega)
  obtain ⟨p, hp⟩ : ∃ p, W.heap.size = p := ⟨_, rfl⟩
  have c5 := cA.mod hm5 nob
  rw [World.size_alloc] at hgb
  rw [hp] at c5 hgb ⊢
  have hgp : g5 ≠ p := by omega
  have z2 := c5.cell 2
  have zf := c5.free 2
  simp at z2
  have mS := (Mod.refl w5 (· = p)).setCell (p := ⟨p, 2, none⟩) (.inl rfl) (.slice (some ⟨g5, 0, none⟩) M cap5)
  have c6 := c5.set 2 (.slice (some ⟨g5, 0, none⟩) M cap5)
  have hgj : ∀ j, inBlock (.slice (some ⟨g5, 0, none⟩) M cap5) j → ¬ j = p := fun j hj e => by
    have e2 : g5 = j := by simpa [inBlock, Value.ownBlock] using hj
    exact hgp (e2.trans e)
  have ho6 := owns_mod ho5 mS hgj
  have hl5 : ((l.map B)[q]? : Option Value) = some (B (l.getD q 0)) := by
    have : q < l.length := by rw [HM.out]; exact hk
    simp [List.getD, this]
  have q6 := own_cell ho6 q _ hl5
  have q6f := owns_open2 ho6 q
  obtain ⟨yb, hy⟩ : ∃ yb, l.getD q 0 = yb := ⟨_, rfl⟩
  rw [hy] at q6
  unfold B at q6
  have hw5 : IntKind.i64.wrap (q : Int) = (q : Int) := by rw [IntKind.wrap_i64]; omega
  have hi0 : (0 : Int) ≤ (q : Int) := by omega
  have hi1 : (q : Int) < (M : Int) := by omega
  clear k0 k1 k2 k3 c0 n0 n1 n2 n3 nf hcells hfrees hl5 hbA cN
  go_wp2_with fail
  obtain ⟨W6, hW6⟩ : ∃ W6, w5.setCell ⟨p, 2, none⟩ (.slice (some ⟨g5, 0, none⟩) M cap5) = W6 := ⟨_, rfl⟩
  rw [hW6] at mS c6 ho6 q6 q6f ⊢
  clear hW6 z2 zf
  have s0 := c6.cell 0
  have s1 := c6.cell 1
  have s2 := c6.cell 2
  have s3 := c6.cell 3
  simp at s0 s1 s2 s3
  have hx8 := xor_val yb r hr8
  obtain ⟨z, hz⟩ : ∃ z, (yb ^^^ (1 <<< UInt8.ofNat r)) = z := ⟨_, rfl⟩
  rw [hz] at hx8
  rw [hy, hz] at hfl
  have hx9 : bits BinOp.xor IntKind.u8 (yb.toNat : Int) (2 ^ min (IntKind.u64.wrap (r : Int)).toNat 8 % 256) = (z.toNat : Int) := by
    have e1 : IntKind.u64.wrap (r : Int) = r := by unfold IntKind.wrap; simp [IntKind.signed, IntKind.bits]; omega
    rw [e1, Int.toNat_natCast, Nat.min_eq_left (by omega), ← hx8]
    simp [IntKind.wrap, IntKind.signed, IntKind.bits]
  clear hz hr8 hy
  go_still_tail 16, (by kernel_rfl)
  clear hw3 hw4
  change wpList _ _ _ _ _ W6.drew
  go_wp2_with fail
  have ho7 := owns_mod (owns_set ho6 q (.int .u8 (z.toNat : Int))) ((Mod.refl _ Nob).drew) (fun _ _ => nob)
  have hmap : (l.map B).set q (.int .u8 (z.toNat : Int)) = (l.set q z).map B := by rw [List.map_set]; rfl
  rw [hmap, ← hfl.out] at ho7
  have hWg : W.heap.size ≤ g5 := by omega
  have m7 : Mod W (W6.setCell ⟨g5, q, none⟩ (.int .u8 (z.toNat : Int))).drew Nob := (((mA.trans hm5).drop mS (fun j (hj : j = p) => .inr (by omega))).setCell (p := ⟨g5, q, none⟩) (.inr hWg) _).drew
  have hlt7 := (ho7.lt g5 rfl).2
  have hgo : ¬ y.own b g5 := fun ho => by have := h1.foot_lt g5 (.inl ho); omega
  have h7 := (h1.still m7).hold_more (· = g5) (fun j (hj : j = g5) => by rw [hj]; exact ⟨hlt7, hgo⟩)
  refine (ref_set b L O { y with held := fun j => y.held j ∨ j = g5 } K (nm, some (flipped l k), vs) (.slice (some ⟨g5, 0, none⟩) M cap5) (.slice aa an ac) _ h7 (by rw [HN.out]; exact hKN) hL ⟨⟨BytesAt.of_owns ho7, fun j hj => .inr ?_⟩, HR.out.2.mono m7 (fun _ h => h.elim) (fun _ h => .inl h)⟩).mono ?_
  · have e2 : g5 = j := by simpa [inBlock, Value.ownBlock] using hj
    exact e2.symm
  rintro e w8 ⟨y8, rfl, h8, hk8⟩
  go_wp2_with fail
  go_ret
  refine ⟨y8, rfl, h8, ?_⟩
  have hm8 := m0.trans m7
  exact StepR.trans (y' := { y with held := fun j => y.held j ∨ j = g5 }) ⟨hm8.nob, fun j hj => .inl hj, fun j hj => .inl hj, fun j hj => hj.imp (fun h => h) (fun (e : j = g5) => by have := m0.size; omega)⟩ hk8

end Go.Proofs.Ytbpdmncobeiinaa
