/- The document's store: Delete, Replay, Swap, Flip. No condition but sizes. -/
import Derived.Test.YtbpdmncobeiinaaPc
namespace Go.Proofs.Ytbpdmncobeiinaa
open Go.RowKit

/-- What reads the document's store, in the word of what does something. -/
theorem Looks.did {w : World} {b : Nat} {L : List RC} {O : List (List RC)} {y : RefB} {v : Value} {e : Ending} {w' : World} (h : RefAt w b L O y) (hd : Looks w v e w') : DidR w b y v L O e w' := by
  obtain ⟨he, n, rfl⟩ := hd
  exact ⟨y, he, h.still ((Mod.refl w Nob).drewN n), StepR.of_mod ((Mod.refl w Nob).drewN n)⟩


theorem held_none (w : World) (H : Nat → Prop) : Held w H (.slice none 0 0) [] := ⟨BytesAt.nil w, fun k hk => by simp [inBlock, Value.ownBlock] at hk⟩

/-- 'set', behind memory that was made. -/
theorem ref_set_after {b : Nat} {L : List RC} {O : List (List RC)} {y : RefB} {k : Nat} {w W W8 : World} (h : RefAt w b L O y) (hm : Mod w W Nob) (hk : k < L.length) (hL : L.length < 1000000) (m8 : Mod W W8 Nob) {c : RC} {bv av : Value} (hc : Mod W W8 Nob → RcAt W8 y.held c (bv, av))
    {Q : Ending → World → Prop} (hQ : ∀ e w', DidR w b y (.tuple #[]) (L.set k c) O e w' → Q e w') : Calls Try.prog 41 #[.pointer (some ⟨b, 0, none⟩), .int .i64 k, .agg #[.string c.1, .bool c.2.1.isSome, bv, av]] W8 Q := by
  have m := hm.trans m8
  refine (ref_set b L O y k c bv av W8 (h.still m) hk hL (hc m8)).mono fun e w' hd => hQ e w' ?_
  obtain ⟨y', he, h', hs⟩ := hd
  exact ⟨y', he, h', (StepR.of_mod m).trans hs⟩

theorem vers_of_there {L : List RC} {nm : ByteArray} {c : RC} (h : there L nm = true) (hc : L[place L nm]? = some c) : vers_ L nm = c.2.2 := by simp [vers_, h, hc]

set_option maxRecDepth 100000 in
set_option maxHeartbeats 2000000 in
theorem ref_delete_yes (b : Nat) (L : List RC) (O : List (List RC)) (y : RefB) (nm : ByteArray) (l : List UInt8) (w : World) (h : RefAt w b L O y) (hs : shows_ L nm = some l) (hL : L.length < 1000000) :
    Calls Try.prog 21 #[.pointer (some ⟨b, 0, none⟩), .string nm] w (DidR w b y (.bool true) (L.set (place L nm) (nm, none, vers_ L nm)) O) := by
  have ht := shown_any b L O y nm w h
  obtain ⟨vs, hc, he, hth⟩ := shown_yes hs
  have hv : vers_ L nm = vs := vers_of_there hth hc
  rw [he] at ht
  rw [hv]
  clear he hs hv hth
  obtain ⟨K, hK⟩ : ∃ K, place L nm = K := ⟨_, rfl⟩
  rw [hK] at ht hc ⊢
  clear hK
  have hKL := (List.getElem?_eq_some_iff.1 hc).1
  obtain ⟨la, lc, hlv, hlc, hcm⟩ := h.row.form
  unfold maxLen at hcm
  go_enter Try.func21, Try.ntmps21
  go_wp2_with fail
  refine ht.mono ?_
  rintro e w1 ⟨rfl, n, rfl⟩
  have m0 := (Mod.refl w Nob).drewN n
  obtain ⟨W, hW⟩ : ∃ W, w.drewN n = W := ⟨_, rfl⟩
  rw [hW] at m0 ⊢
  clear hW
  have h1 := h.still m0
  have c0 := h1.cells.cell 0
  have hrow := h1.row
  rw [hlv] at c0 hrow
  simp at c0
  obtain ⟨g, ⟨uv, av⟩, rfl, ⟨hb, hu⟩, k0, k1, k2, k3⟩ := hrow.get K _ hc
  obtain ⟨ba, bn, bc, rfl⟩ : ∃ a n c, uv = .slice a n c := by obtain ⟨a, c, e, _⟩ := hb.1.form; exact ⟨_, _, _, e⟩
  obtain ⟨aa, an, ac, rfl⟩ : ∃ a n c, av = .slice a n c := by obtain ⟨_, hc2, _⟩ := hu; obtain ⟨a, c, e, _⟩ := hc2.form; exact ⟨_, _, _, e⟩
  dsimp only at hu k0 k1 k2 k3
  have cN := CellsAt.new W #[.string ⟨#[]⟩, .bool false, .slice none 0 0, .slice none 0 0] 83
  have n0 := cN.cell 0
  have n1 := cN.cell 1
  have n2 := cN.cell 2
  have n3 := cN.cell 3
  have nf := cN.free
  simp at n0 n1 n2 n3
  obtain ⟨N, hN⟩ : ∃ N, L.length = N := ⟨_, rfl⟩
  rw [hN] at c0 hlc
  have hKN : K < N := by omega
  have HN := Lib.hid hN
  clear hrow hlv hc hN hb
  go_wp2_with fail
  refine ref_set_after h m0 (by rw [HN.out]; exact hKN) hL (W8 := _) (by (repeat (first | exact Mod.refl _ _ | refine Mod.setCell ?_ (.inr (by simp)) _ | refine Mod.alloc ?_ _ | refine Mod.drew ?_))) (c := (nm, none, vs)) (fun m8 => ⟨held_none _ _, hu.mono m8 (fun _ h => h.elim) (fun _ h => h)⟩) ?_
  rintro e w2 ⟨y2, rfl, h2, hk2⟩
  go_wp2_with fail
  go_ret
  exact ⟨y2, rfl, h2, hk2⟩

set_option maxRecDepth 100000 in
set_option maxHeartbeats 400000 in
theorem ref_delete_no (b : Nat) (L : List RC) (O : List (List RC)) (y : RefB) (nm : ByteArray) (w : World) (h : RefAt w b L O y) (hs : shows_ L nm = none) :
    Calls Try.prog 21 #[.pointer (some ⟨b, 0, none⟩), .string nm] w (Looks w (.bool false)) := by
  have ht := shown_any b L O y nm w h
  rw [shown_no hs] at ht
  go_enter Try.func21, Try.ntmps21
  go_wp2_with fail
  refine ht.mono ?_
  rintro e w1 ⟨rfl, n, rfl⟩
  go_wp2_with fail
  go_ret
  exact ⟨rfl, _, rfl⟩

set_option maxRecDepth 100000 in
set_option maxHeartbeats 2000000 in
theorem ref_replay_yes (b : Nat) (L : List RC) (O : List (List RC)) (y : RefB) (nm : ByteArray) (k : Nat) (l : List UInt8) (w : World) (h : RefAt w b L O y) (hs : (vers_ L nm)[k]? = some l) (hL : L.length < 1000000) :
    Calls Try.prog 19 #[.pointer (some ⟨b, 0, none⟩), .string nm, .int .i64 k] w (DidR w b y (.bool true) (L.set (place L nm) (nm, some l, vers_ L nm)) O) := by
  have ht := at_any b L O y nm w h
  have hth : there L nm = true := by
    cases hb : there L nm with
    | true => rfl
    | false => simp [vers_, hb] at hs
  obtain ⟨⟨nm', oo, vs⟩, hc, hnm⟩ := there_some hth
  obtain rfl : nm' = nm := hnm
  have hv : vers_ L nm' = vs := vers_of_there hth hc
  rw [hth] at ht
  rw [hv] at hs ⊢
  clear hv hth
  obtain ⟨K, hK⟩ : ∃ K, place L nm' = K := ⟨_, rfl⟩
  rw [hK] at ht hc ⊢
  clear hK
  have hKL := (List.getElem?_eq_some_iff.1 hc).1
  have hks := (List.getElem?_eq_some_iff.1 hs).1
  obtain ⟨la, lc, hlv, hlc, hcm⟩ := h.row.form
  unfold maxLen at hcm
  go_enter Try.func19, Try.ntmps19
  go_wp2_with fail
  refine ht.mono ?_
  rintro e w1 ⟨rfl, n, rfl⟩
  have m0 := (Mod.refl w Nob).drewN n
  obtain ⟨W, hW⟩ : ∃ W, w.drewN n = W := ⟨_, rfl⟩
  rw [hW] at m0 ⊢
  clear hW
  have h1 := h.still m0
  have c0 := h1.cells.cell 0
  have hrow := h1.row
  rw [hlv] at c0 hrow
  simp at c0
  obtain ⟨g, ⟨uv, av⟩, rfl, ⟨hb, hu⟩, k0, k1, k2, k3⟩ := hrow.get K _ hc
  obtain ⟨ba, bn, bc, rfl⟩ : ∃ a n c, uv = .slice a n c := by obtain ⟨a, c, e, _⟩ := hb.1.form; exact ⟨_, _, _, e⟩
  have hu' := hu
  obtain ⟨us, r1, r2, r3, r4⟩ := hu'
  obtain ⟨lu, hlu⟩ : ∃ u, us[k]? = some u := ⟨_, List.getElem?_eq_getElem (by dsimp only at r3; omega)⟩
  have hheld := r4 k lu l hlu hs
  obtain ⟨ag, ao, ac, rfl, ha1, ha2, ha3, hax⟩ : ∃ b o cap, av = .slice (some ⟨b, o, none⟩) us.length cap ∧ b < W.heap.size ∧ us.length ≤ cap ∧ cap ≤ maxLen ∧ ∀ (i : Nat) x, us[i]? = some x → W.cell? ⟨b, o + i, none⟩ = some x := by
    rcases r1 with ⟨_, h0⟩ | h0
    · rw [h0] at hlu; simp at hlu
    · exact h0
  obtain ⟨xa, xn, xc, rfl⟩ : ∃ a n c, lu = .slice a n c := by obtain ⟨a, c, e, _⟩ := hheld.1.form; exact ⟨_, _, _, e⟩
  have hx := hax k _ hlu
  dsimp only at hu k0 k1 k2 k3 r3
  obtain ⟨M, hM⟩ : ∃ M, us.length = M := ⟨_, rfl⟩
  rw [hM] at k3 hu ha2 r3
  rw [← r3] at hks
  unfold maxLen at ha3
  clear r3
  have cN := CellsAt.new W #[.string ⟨#[]⟩, .bool false, .slice none 0 0, .slice none 0 0] 83
  have n0 := cN.cell 0
  have n1 := cN.cell 1
  have n2 := cN.cell 2
  have n3 := cN.cell 3
  have nf := cN.free
  simp at n0 n1 n2 n3
  obtain ⟨oi, hoi⟩ : ∃ oi, oo.isSome = oi := ⟨_, rfl⟩
  rw [hoi] at k1
  obtain ⟨N, hN⟩ : ∃ N, L.length = N := ⟨_, rfl⟩
  rw [hN] at c0 hlc
  have hKN : K < N := by omega
  have HN := Lib.hid hN
  have HH := Lib.hid hheld
  clear hrow hlv hc hN hb hax r4 r2 r1 hlu hM hheld hoi
  go_wp2_with fail
  have mA := (Mod.refl W Nob).alloc (.cells #[.string nm', .bool oi, .slice ba bn bc, .slice (some ⟨ag, ao, none⟩) M ac] 83)
  have cC := CellsAt.new W #[.string nm', .bool oi, .slice ba bn bc, .slice (some ⟨ag, ao, none⟩) M ac] 83
  have hx2 : (W.alloc (.cells #[.string nm', .bool oi, .slice ba bn bc, .slice (some ⟨ag, ao, none⟩) M ac] 83)).cell? ⟨ag, ao + k, none⟩ = some (.slice xa xn xc) := by rw [mA.cell ha1 nob]; exact hx
  obtain ⟨W2, hW2⟩ : ∃ W2, W.alloc (.cells #[.string nm', .bool oi, .slice ba bn bc, .slice (some ⟨ag, ao, none⟩) M ac] 83) = W2 := ⟨_, rfl⟩
  rw [hW2] at cC mA hx2 ⊢
  have e0 := cC.cell 0
  have e1 := cC.cell 1
  have e2 := cC.cell 2
  have e3 := cC.cell 3
  have ef := cC.free
  simp at e0 e1 e2 e3
  have nag : ag ≠ W.heap.size := by omega
  clear hW2 n0 n1 n2 n3 nf hx
  go_region
  have cD := ((cC.set 1 (.bool true)).set 2 (.slice xa xn xc)).mod ((Mod.refl _ Nob).drew) nob
  have mD : Mod W ((W2.setCell ⟨W.heap.size, 1, none⟩ (.bool true)).setCell ⟨W.heap.size, 2, none⟩ (.slice xa xn xc)).drew Nob := ((mA.setCell (p := ⟨W.heap.size, 1, none⟩) (.inr (Nat.le_refl _)) _).setCell (p := ⟨W.heap.size, 2, none⟩) (.inr (Nat.le_refl _)) _).drew
  obtain ⟨W3, hW3⟩ : ∃ W3, ((W2.setCell ⟨W.heap.size, 1, none⟩ (.bool true)).setCell ⟨W.heap.size, 2, none⟩ (.slice xa xn xc)).drew = W3 := ⟨_, rfl⟩
  rw [hW3] at cD mD ⊢
  have d0 := cD.cell 0
  have d1 := cD.cell 1
  have d2 := cD.cell 2
  have d3 := cD.cell 3
  simp at d0 d1 d2 d3
  clear hW3 e0 e1 e2 e3 ef cC hx2 mA cN k0 k1 k2 k3 c0
  go_wp2_with fail
  refine ref_set_after h m0 (by rw [HN.out]; exact hKN) hL (W8 := _) mD (c := (nm', some l, vs)) (fun m8 => ⟨HH.out.mono m8 (fun _ h => h.elim) (fun _ h => h), hu.mono m8 (fun _ h => h.elim) (fun _ h => h)⟩) ?_
  rintro e w2 ⟨y2, rfl, h2, hk2⟩
  go_wp2_with fail
  go_ret
  exact ⟨y2, rfl, h2, hk2⟩

set_option maxRecDepth 100000 in
set_option maxHeartbeats 2000000 in
theorem ref_replay_no (b : Nat) (L : List RC) (O : List (List RC)) (y : RefB) (nm : ByteArray) (k : Int) (w : World) (h : RefAt w b L O y) (hs : k < 0 ∨ ((vers_ L nm).length : Int) ≤ k) :
    Calls Try.prog 19 #[.pointer (some ⟨b, 0, none⟩), .string nm, .int .i64 k] w (Looks w (.bool false)) := by
  have ht := at_any b L O y nm w h
  cases hb : there L nm with
  | false =>
    rw [hb] at ht
    go_enter Try.func19, Try.ntmps19
    go_wp2_with fail
    refine ht.mono ?_
    rintro e w1 ⟨rfl, n, rfl⟩
    go_wp2_with fail
    go_ret
    exact ⟨rfl, _, rfl⟩
  | true =>
    obtain ⟨c, hc, _⟩ := there_some hb
    have hv : vers_ L nm = c.2.2 := vers_of_there hb hc
    rw [hb] at ht
    rw [hv] at hs
    clear hv hb
    obtain ⟨M, hM⟩ : ∃ M, c.2.2.length = M := ⟨_, rfl⟩
    rw [hM] at hs
    obtain ⟨K, hK⟩ : ∃ K, place L nm = K := ⟨_, rfl⟩
    rw [hK] at ht hc
    clear hK
    have hKL := (List.getElem?_eq_some_iff.1 hc).1
    obtain ⟨la, lc, hlv, hlc, hcm⟩ := h.row.form
    unfold maxLen at hcm
    go_enter Try.func19, Try.ntmps19
    go_wp2_with fail
    refine ht.mono ?_
    rintro e w1 ⟨rfl, n, rfl⟩
    have h1 := h.still ((Mod.refl w Nob).drewN n)
    have c0 := h1.cells.cell 0
    have hrow := h1.row
    rw [hlv] at c0 hrow
    simp at c0
    obtain ⟨g, u, rfl, ⟨_, us, hu, _, hul, _⟩, k0, k1, k2, k3⟩ := hrow.get K _ hc
    obtain ⟨ua, uc, huf, _, _⟩ := hu.form
    rw [hul, hM] at huf
    rw [huf] at k3
    obtain ⟨N, hN⟩ : ∃ N, L.length = N := ⟨_, rfl⟩
    rw [hN] at c0 hKL hlc
    clear hrow hlv hN hc hu hul huf
    by_cases hk0 : k < 0
    · have d0 : decide (k < 0) = true := by simpa using hk0
      go_wp2_with fail
      go_ret
      exact ⟨rfl, _, rfl⟩
    · have d0 : decide (k < 0) = false := by simpa using hk0
      have hk1 : (M : Int) ≤ k := hs.resolve_left hk0
      have d1 : decide ((M : Int) ≤ k) = true := by simpa using hk1
      clear hs
      go_wp2_with fail
      go_ret
      exact ⟨rfl, _, rfl⟩

end Go.Proofs.Ytbpdmncobeiinaa
