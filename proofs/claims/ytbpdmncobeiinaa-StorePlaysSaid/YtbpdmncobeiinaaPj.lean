/- The document's store: Roll. No condition but sizes. -/
import Derived.Test.YtbpdmncobeiinaaPi
namespace Go.Proofs.Ytbpdmncobeiinaa
open Go.RowKit

/-- What a name showed among elder cells: the last one counts. -/
def shownIn (D : List RC) (nm : ByteArray) : Option (List UInt8) := D.foldl (fun acc d => bif decide (d.1 = nm) then d.2.1 else acc) none
def rollL (L D : List RC) : List RC := L.map fun c => (c.1, shownIn D c.1, c.2.2)

theorem shownIn_snoc (D : List RC) (i : Nat) (d : RC) (h : D[i]? = some d) (nm : ByteArray) : shownIn (D.take (i + 1)) nm = bif decide (d.1 = nm) then d.2.1 else shownIn (D.take i) nm := by
  obtain ⟨h1, h2⟩ := List.getElem?_eq_some_iff.1 h
  rw [List.take_succ_eq_append_getElem h1, h2]
  unfold shownIn
  rw [List.foldl_append]
  rfl

set_option maxRecDepth 100000 in
set_option maxHeartbeats 1000000 in
theorem ref_roll_no (b : Nat) (L : List RC) (O : List (List RC)) (y : RefB) (n : Int) (w : World) (h : RefAt w b L O y) (hn : n < 0 ∨ (O.length : Int) < n) :
    Calls Try.prog 22 #[.pointer (some ⟨b, 0, none⟩), .int .i64 n] w (Looks w (.bool false)) := by
  obtain ⟨us, hus, helt, hol⟩ := h.olds
  obtain ⟨oa, oc, hov, _, _⟩ := owns_form hol
  have c1 := h.cells.cell 1
  rw [hov] at c1
  simp at c1
  obtain ⟨P, hP⟩ : ∃ P, O.length = P := ⟨_, rfl⟩
  rw [hP] at c1 hn
  clear hol hP hov
  by_cases h0 : n < 0
  · have d0 : decide (n < 0) = true := by simpa using h0
    go_enter Try.func22, Try.ntmps22
    go_wp2_with fail
    go_ret
    exact ⟨rfl, 0, rfl⟩
  · have d0 : decide (n < 0) = false := by simpa using h0
    have h1 : (P : Int) < n := hn.resolve_left h0
    have d1 : decide ((P : Int) < n) = true := by simpa using h1
    go_enter Try.func22, Try.ntmps22
    go_wp2_with fail
    go_ret
    exact ⟨rfl, 0, rfl⟩

set_option maxRecDepth 100000 in
set_option maxHeartbeats 1000000 in
theorem ref_roll_zero (b : Nat) (L : List RC) (O : List (List RC)) (y : RefB) (w : World) (h : RefAt w b L O y) :
    Calls Try.prog 22 #[.pointer (some ⟨b, 0, none⟩), .int .i64 0] w (Looks w (.bool true)) := by
  obtain ⟨us, hus, helt, hol⟩ := h.olds
  obtain ⟨oa, oc, hov, _, _⟩ := owns_form hol
  have c1 := h.cells.cell 1
  rw [hov] at c1
  simp at c1
  obtain ⟨P, hP⟩ : ∃ P, O.length = P := ⟨_, rfl⟩
  rw [hP] at c1
  clear hol hP hov
  go_enter Try.func22, Try.ntmps22
  go_wp2_with fail
  go_ret
  exact ⟨rfl, 0, rfl⟩

/-- A row of cells that is being written. -/
def RowW (w0 w : World) (H : Nat → Prop) (ga : Option Addr) (cap : Nat) (X : List RC) : Prop :=
  ∃ vs : List (Value × Value), vs.length = X.length ∧ (∀ (i : Nat) c u, X[i]? = some c → vs[i]? = some u → RcAt w H c u) ∧ w.ownsRow w0.heap.size 83 4 (.slice ga X.length cap) X.length (rcCells X vs)

theorem rcCells_set2 : ∀ (cs : List RC) (vs : List (Value × Value)), vs.length = cs.length → ∀ (k : Nat) (nm : ByteArray) (o0 o : Option (List UInt8)) (vv : List (List UInt8)) (b0 a0 bv : Value), cs[k]? = some (nm, o0, vv) → vs[k]? = some (b0, a0) →
    rcCells (cs.set k (nm, o, vv)) (vs.set k (bv, a0)) = ((rcCells cs vs).set (k * 4 + 1) (.bool o.isSome)).set (k * 4 + 2) bv
  | [], _, _, _, _, _, _, _, _, _, _, h, _ => by simp at h
  | c0 :: cs, [], h, _, _, _, _, _, _, _, _, _, _ => by simp at h
  | c0 :: cs, v0 :: vs, _, 0, nm, o0, o, vv, b0, a0, bv, h1, h2 => by
    simp at h1 h2
    subst h1; subst h2
    simp [rcCells]
  | c0 :: cs, v0 :: vs, h, k + 1, nm, o0, o, vv, b0, a0, bv, h1, h2 => by
    have ih := rcCells_set2 cs vs (by simpa using h) k nm o0 o vv b0 a0 bv (by simpa using h1) (by simpa using h2)
    rw [show (k + 1) * 4 + 1 = (k * 4 + 1) + 4 by omega, show (k + 1) * 4 + 2 = (k * 4 + 2) + 4 by omega]
    simp only [List.set_cons_succ]
    have e : ∀ cs vs (c0 : RC) (v0 : Value × Value), rcCells (c0 :: cs) (v0 :: vs) = .string c0.1 :: .bool c0.2.1.isSome :: v0.1 :: v0.2 :: rcCells cs vs := fun cs vs c0 v0 => by simp [rcCells]
    rw [e, e, ih]
    simp [List.set_cons_succ]

/-- Its cells, read. -/
theorem RowW.get {w0 w : World} {H : Nat → Prop} {ga : Option Addr} {cap : Nat} {X : List RC} (h : RowW w0 w H ga cap X) (k : Nat) (c : RC) (hc : X[k]? = some c) :
    ∃ g a0 an ac b0 bn bc, ga = some ⟨g, 0, none⟩ ∧ w0.heap.size ≤ g ∧ g < w.heap.size ∧ w.cell? ⟨g, k * 4, none⟩ = some (.string c.1) ∧ w.cell? ⟨g, k * 4 + 1, none⟩ = some (.bool c.2.1.isSome) ∧ w.cell? ⟨g, k * 4 + 2, none⟩ = some (.slice b0 bn bc) ∧ w.cell? ⟨g, k * 4 + 3, none⟩ = some (.slice a0 an ac) ∧ (∀ i, w.frozen? ⟨g, i, none⟩ = false) ∧ RcAt w H c (.slice b0 bn bc, .slice a0 an ac) := by
  obtain ⟨vs, h1, h2, h3⟩ := h
  have hlt := (List.getElem?_eq_some_iff.1 hc).1
  obtain ⟨⟨uv, av⟩, hu⟩ : ∃ u, vs[k]? = some u := ⟨_, List.getElem?_eq_getElem (by omega)⟩
  have hr := h2 k c _ hc hu
  obtain ⟨b0, bn, bc, rfl⟩ : ∃ a n c, uv = .slice a n c := by obtain ⟨a, c, e, _⟩ := hr.1.1.form; exact ⟨_, _, _, e⟩
  obtain ⟨a0, an, ac, rfl⟩ : ∃ a n c, av = .slice a n c := by obtain ⟨_, hc2, _⟩ := hr.2; obtain ⟨a, c, e, _⟩ := hc2.form; exact ⟨_, _, _, e⟩
  obtain ⟨k0, k1, k2, k3⟩ := rcCells_get X vs h1 k c _ hc hu
  obtain ⟨g, rfl⟩ : ∃ g, ga = some ⟨g, 0, none⟩ := by
    rcases h3.2 with ⟨_, h0⟩ | ⟨g, cap', cur, h0, _⟩
    · omega
    · cases h0; exact ⟨g, rfl⟩
  have hl := h3.lt g rfl
  exact ⟨g, a0, an, ac, b0, bn, bc, rfl, hl.1, hl.2, own_cell h3 _ _ k0, own_cell h3 _ _ k1, own_cell h3 _ _ k2, own_cell h3 _ _ k3, owns_open2 h3, hr⟩

theorem RowW.set {w0 w : World} {H : Nat → Prop} {g cap : Nat} {X : List RC} (h : RowW w0 w H (some ⟨g, 0, none⟩) cap X) (hH : ∀ k, H k → k < w0.heap.size) (k : Nat) (nm : ByteArray) (o0 o : Option (List UInt8)) (vv : List (List UInt8)) (hc : X[k]? = some (nm, o0, vv)) (bv : Value) (hb : Held w H bv (o.getD [])) :
    RowW w0 ((w.setCell ⟨g, k * 4 + 1, none⟩ (.bool o.isSome)).setCell ⟨g, k * 4 + 2, none⟩ bv) H (some ⟨g, 0, none⟩) cap (X.set k (nm, o, vv)) := by
  obtain ⟨vs, h1, h2, h3⟩ := h
  have hlt := (List.getElem?_eq_some_iff.1 hc).1
  obtain ⟨⟨b0, a0⟩, hu⟩ : ∃ u, vs[k]? = some u := ⟨_, List.getElem?_eq_getElem (by omega)⟩
  have hg := (h3.lt g rfl).1
  have hm : Mod w ((w.setCell ⟨g, k * 4 + 1, none⟩ (.bool o.isSome)).setCell ⟨g, k * 4 + 2, none⟩ bv) (· = g) := ((Mod.refl w (· = g)).setCell (p := ⟨g, k * 4 + 1, none⟩) (.inl rfl) _).setCell (p := ⟨g, k * 4 + 2, none⟩) (.inl rfl) _
  have hS : ∀ j, j = g → ¬ H j := fun j hj hh => by have := hH j hh; omega
  have w2 := owns_setN (owns_setN h3 (k * 4 + 1) (.bool o.isSome)) (k * 4 + 2) bv
  rw [← rcCells_set2 X vs h1 k nm o0 o vv b0 a0 bv hc hu] at w2
  refine ⟨vs.set k (bv, a0), by simp [h1], fun i c u hi hj => ?_, by rw [List.length_set]; exact w2⟩
  rw [List.getElem?_set] at hi hj
  by_cases hik : k = i
  · rw [if_pos hik] at hi hj
    rw [if_pos (by omega)] at hi
    rw [if_pos (by omega)] at hj
    cases hi; cases hj
    exact ⟨hb.mono hm hS (fun _ h => h), (h2 k _ _ hc hu).2.mono hm hS (fun _ h => h)⟩
  · rw [if_neg hik] at hi hj
    exact (h2 i c u hi hj).mono hm hS (fun _ h => h)

theorem RowW.still {w0 w w' : World} {H : Nat → Prop} {ga : Option Addr} {cap : Nat} {X : List RC} (h : RowW w0 w H ga cap X) (hm : Mod w w' Nob) : RowW w0 w' H ga cap X := by
  obtain ⟨vs, h1, h2, h3⟩ := h
  exact ⟨vs, h1, fun i c u hi hj => (h2 i c u hi hj).mono hm (fun _ h => h.elim) (fun _ h => h), owns_mod h3 hm (fun _ _ => nob)⟩

set_option maxRecDepth 100000 in
set_option maxHeartbeats 4000000 in
theorem ref_roll_yes (b : Nat) (L : List RC) (O : List (List RC)) (y : RefB) (n : Nat) (D : List RC) (w : World) (h : RefAt w b L O y) (_ : 0 < n) (hn : n ≤ O.length) (hD : O[O.length - n]? = some D) (hL : L.length < 1000000) (hO : O.length < 1000000) :
    Calls Try.prog 22 #[.pointer (some ⟨b, 0, none⟩), .int .i64 n] w (DidR w b y (.bool true) (rollL L D) O) := by
  obtain ⟨us, hus, helt, hol⟩ := h.olds
  obtain ⟨oa, oc, hov, _, _⟩ := owns_form hol
  obtain ⟨q, hq⟩ : ∃ q, O.length - n = q := ⟨_, rfl⟩
  rw [hq] at hD
  have hqO := (List.getElem?_eq_some_iff.1 hD).1
  obtain ⟨u, hu⟩ : ∃ u, us[q]? = some u := ⟨_, List.getElem?_eq_getElem (by omega)⟩
  have hrD := helt q u D hu hD
  obtain ⟨da, dc, rfl, hdc, hdm⟩ := hrD.form
  obtain ⟨og, rfl⟩ : ∃ g, oa = some ⟨g, 0, none⟩ := by
    rw [hov] at hol
    rcases hol.2 with ⟨_, h0⟩ | ⟨g, cap', cur, h0, _⟩
    · omega
    · cases h0; exact ⟨g, rfl⟩
  have c1 := h.cells.cell 1
  have c0 := h.cells.cell 0
  rw [hov] at c1 hol
  have hqc := own_cell hol q _ hu
  obtain ⟨la, lc, hlv, hlc, hcm⟩ := h.form
  rw [hlv] at c0
  simp at c0 c1
  obtain ⟨P, hP⟩ : ∃ P, O.length = P := ⟨_, rfl⟩
  rw [hP] at c1 hn hq hO
  obtain ⟨M, hM⟩ : ∃ M, D.length = M := ⟨_, rfl⟩
  obtain ⟨N, hN⟩ : ∃ N, L.length = N := ⟨_, rfl⟩
  rw [hM] at hqc hdc
  have hM63 : M ≤ 9223372036854775807 := by unfold maxLen at hdm; omega
  rw [hN] at c0 hlc hL
  have hsub : (P : Int) - (n : Int) = (q : Int) := by omega
  have hwq : IntKind.i64.wrap (q : Int) = (q : Int) := by rw [IntKind.wrap_i64]; omega
  have hqP : q < P := by omega
  have dn : decide ((P : Int) < (n : Int)) = false := by simp; omega
  have dz : ((n : Int) == 0) = false := by simp; omega
  go_enter Try.func22, Try.ntmps22
  go_wp2_with fail
  go_quiet (fail)
  obtain ⟨W, hW⟩ : ∃ W, w.drewN nq = W := ⟨_, rfl⟩
  have m0 : Mod w W Nob := by rw [← hW]; exact (Mod.refl w Nob).drewN nq
  rw [hW]
  clear hW
  have h1 := h.still m0
  obtain ⟨vs, hv1, hv2, ho, hh⟩ := h1.row
  have hone := rc_one L vs hv2
  rw [hlv] at ho
  obtain ⟨i0, hi, hz0, hz1, hz2⟩ := info_parts info_cell
  obtain ⟨v6, w1, hrun, r6, g6, _⟩ := run_append_src (P := Try.prog) W 45 45 83 i0 _ 4 72 Try.underlying45 hi hz0 hz1 hz2 rfl (by omega) W.heap.size (.slice none 0 0) 0 [] (World.ownsRow_nil _ _ _ _) (.slice la L.length lc) L.length (rcCells L vs) (SrcAt.of_owns ho) hone (by unfold maxLen; omega) (by omega) (Nat.le_refl _)
  simp only [Nat.zero_add, List.nil_append] at r6 hrun
  obtain ⟨ga, cap, rfl, hgc, _⟩ := owns_form r6
  have m6 : Mod W w1 Nob := (Mod.refl W Nob).grown g6 (fun k hk => by simp [Value.ownBlock] at hk)
  have hR : RowW W w1 y.held ga cap L := ⟨vs, hv1, fun i c u hi hj => (hv2 i c u hi hj).mono m6 (fun _ h => h.elim) (fun _ h => h), r6⟩
  have hHl : ∀ k, y.held k → k < W.heap.size := fun k hk => (h1.hold k hk).1
  have hcb := (h1.cells.cell 0)
  rw [hlv] at hcb
  simp at hcb
  rw [hN] at hrun hcb hgc
  have HN := Lib.hid hN
  have HM := Lib.hid hM
  have HD := Lib.hid hrD
  have HLV := Lib.hid hlv
  clear hv1 hv2 hone ho hh hi hz0 hz1 hz2 r6 g6 c0 c1 hqc hol hu hus helt hlv hsub hwq hD hrD
  go_wp2_with (at_builtin; refine wpList_append_run (P := Try.prog) _ rfl _ _ 45 45 rfl _ _ rfl rfl _ w1 hrun ?_)
  clear hN hM hP
  go_loopw [7] (fun i wr => ∃ k : Nat, k ≤ N ∧ i = .int .i64 k ∧ ∃ X : List RC, X.length = N ∧ (∀ j, X[j]? = (L[j]?).map fun c => if j < k then (c.1, shownIn D c.1, c.2.2) else c) ∧ RowW W wr y.held ga cap X ∧ Mod W wr Nob) (fun i _ => N - (intOf i).toNat)
  case atStart => exact ⟨0, Nat.zero_le _, rfl, L, HN.out, fun j => by simp, hR, m6⟩
  case round =>
    obtain ⟨wo, rfl⟩ : ∃ wo : World, wo = wr := ⟨_, rfl⟩
    obtain ⟨k, hk, rfl, X, hXl, hX, hRX, hmX⟩ := hrel
    clear hR
    by_cases hlt : k < N
    · obtain ⟨c, hc⟩ : ∃ c, L[k]? = some c := ⟨_, List.getElem?_eq_getElem (by rw [HN.out]; exact hlt)⟩
      have hXk : X[k]? = some c := by rw [hX k, hc]; simp
      obtain ⟨g, a0, an, ac, b0, bn, bc, rfl, hgW, hgl, z0, z1, z2, z3, zf, hra⟩ := hRX.get k c hXk
      have hR2 := hRX.set hHl k c.1 c.2.1 none c.2.2 hXk (.slice none 0 0) (held_none _ _)
      have m2 : Mod W ((wo.setCell ⟨g, k * 4 + 1, none⟩ (.bool false)).setCell ⟨g, k * 4 + 2, none⟩ (.slice none 0 0)) Nob := (hmX.setCell (p := ⟨g, k * 4 + 1, none⟩) (.inr hgW) _).setCell (p := ⟨g, k * 4 + 2, none⟩) (.inr hgW) _
      have hkX : k < X.length := by omega
      go_wp2_with fail
      clear z0 z1 z2 z3 zf hra hrun
      go_loopw [8] (fun i wr => ∃ q : Nat, q ≤ M ∧ i = .int .i64 q ∧ RowW W wr y.held (some ⟨g, 0, none⟩) cap (X.set k (c.1, shownIn (D.take q) c.1, c.2.2)) ∧ Mod W wr Nob) (fun i _ => M - (intOf i).toNat)
      case atStart => exact ⟨0, Nat.zero_le _, rfl, hR2, m2⟩
      case round =>
        obtain ⟨q', hq', rfl, hRr, hmr⟩ := hrel
        clear hR2 m2
        have hXs : (X.set k (c.1, shownIn (D.take q') c.1, c.2.2))[k]? = some (c.1, shownIn (D.take q') c.1, c.2.2) := by rw [List.getElem?_set, if_pos rfl, if_pos hkX]
        by_cases hql : q' < M
        · obtain ⟨d, hd⟩ : ∃ d, D[q']? = some d := ⟨_, List.getElem?_eq_getElem (by rw [HM.out]; exact hql)⟩
          have hsn := shownIn_snoc D q' d hd c.1
          have hDr := HD.out.mono (m0.trans hmr) (fun _ h => h.elim) (fun _ h => h)
          obtain ⟨gd, ⟨du, dav⟩, hda, hdr, x0, x1, x2, _⟩ := hDr.get q' d hd
          obtain ⟨gd0, ud0, hda0, _, y0, _⟩ := HD.out.get q' d hd
          rw [hda] at hda0
          cases hda0
          have hgdW : gd < W.heap.size := Nat.lt_of_lt_of_le (cell_lt y0) m0.size
          obtain ⟨db, dn', dc', rfl⟩ : ∃ a n c, du = .slice a n c := by obtain ⟨a, c, e, _⟩ := hdr.1.1.form; exact ⟨_, _, _, e⟩
          dsimp only at x0 x1 x2
          obtain ⟨g', a0', an', ac', b0', bn', bc', hgg, _, hgl', z0, z1, z2, z3, zf, hra'⟩ := hRr.get k _ hXs
          cases hgg
          dsimp only at z0 z1
          subst hda
          have hne : gd ≠ g := by omega
          have HDR := Lib.hid hdr
          obtain ⟨o, hoo⟩ : ∃ o, d.2.1.isSome = o := ⟨_, rfl⟩
          rw [hoo] at x1
          obtain ⟨os, hos⟩ : ∃ os, (shownIn (D.take q') c.1).isSome = os := ⟨_, rfl⟩
          rw [hos] at z1
          have HSN := Lib.hid hsn
          clear hsn hDr y0 hdr hos hra'
          by_cases heq : d.1 = c.1
          · have e0 : (d.1.toList == c.1.toList) = true := by rw [heq]; simp
            go_wp2_with fail
            go_quiet (fail)
            obtain ⟨W7, hW7⟩ : ∃ W7, wr.drewN nq = W7 := ⟨_, rfl⟩
            have m7 : Mod wr W7 Nob := by rw [← hW7]; exact (Mod.refl wr Nob).drewN nq
            rw [hW7]
            clear hW7
            have hR7 := hRr.still m7
            have p1 : W7.cell? ⟨gd, q' * 4 + 1, none⟩ = some (.bool o) := by rw [m7.cell (cell_lt x1) nob]; exact x1
            have p2 : W7.cell? ⟨gd, q' * 4 + 2, none⟩ = some (.slice db dn' dc') := by rw [m7.cell (cell_lt x2) nob]; exact x2
            have r1 : W7.cell? ⟨g, k * 4 + 1, none⟩ = some (.bool os) := by rw [m7.cell (cell_lt z1) nob]; exact z1
            have r2 : W7.cell? ⟨g, k * 4 + 2, none⟩ = some (.slice b0' bn' bc') := by rw [m7.cell (cell_lt z2) nob]; exact z2
            obtain ⟨_, _, _, _, _, _, _, hg8, _, _, _, _, _, _, rf, _⟩ := hR7.get k _ hXs
            cases hg8
            have hset := hR7.set hHl k c.1 _ d.2.1 c.2.2 hXs (.slice db dn' dc') ((HDR.out.1).mono m7 (fun _ h => h.elim) (fun _ h => h))
            rw [List.set_set, hoo] at hset
            have HSET := Lib.hid hset
            have m9 := ((hmr.trans m7).setCell (p := ⟨g, k * 4 + 1, none⟩) (.inr hgW) (.bool o)).setCell (p := ⟨g, k * 4 + 2, none⟩) (.inr hgW) (.slice db dn' dc')
            have hsh : shownIn (D.take (q' + 1)) c.1 = d.2.1 := by rw [HSN.out, heq]; simp
            have HSH := Lib.hid hsh
            clear hset hsh x0 x1 x2 z0 z1 z2 z3 zf hR7 hd e0
            go_wp2_with fail
            go_region
            go_wp2_with fail
            exact ⟨⟨q' + 1, by omega, by go_num, by rw [HSH.out]; exact HSET.out.still (Mod.refl _ Nob).drew, m9.drew⟩, by simp [intOf]; omega⟩
          · have e0 : (d.1.toList == c.1.toList) = false := by
              cases hb : (d.1.toList == c.1.toList)
              · rfl
              · exact absurd (names_eq (by simpa using hb)) heq
            have hsh : shownIn (D.take (q' + 1)) c.1 = shownIn (D.take q') c.1 := by rw [HSN.out]; simp [heq]
            have HSH := Lib.hid hsh
            clear hsh hd
            go_wp2_with fail
            go_quiet (fail)
            go_wp2_with fail
            exact ⟨⟨q' + 1, by omega, by go_num, by rw [HSH.out]; exact hRr.still ((Mod.refl wr Nob).drewN nq), hmr.drewN nq⟩, by simp [intOf]; omega⟩
        · obtain rfl : q' = M := by omega
          have hall : D.take q' = D := List.take_of_length_le (by rw [HM.out]; exact Nat.le_refl _)
          rw [hall] at hRr
          go_wp2_with fail
          refine ⟨⟨k + 1, by omega, by go_num, X.set k (c.1, shownIn D c.1, c.2.2), by rw [List.length_set]; exact hXl, fun j => ?_, hRr, hmr⟩, by simp [intOf]; omega⟩
          rw [List.getElem?_set]
          by_cases hkj : k = j
          · subst hkj
            rw [if_pos rfl, if_pos hkX, hc]
            simp
          · rw [if_neg hkj, hX j]
            congr 1
            funext c'
            have : j < k ↔ j < k + 1 := by omega
            simp [this]
    · obtain rfl : k = N := by omega
      have hXL : X = rollL L D := by
        apply List.ext_getElem?
        intro j
        rw [hX j]
        unfold rollL
        rw [List.getElem?_map]
        cases hj : L[j]? with
        | none => rfl
        | some c' =>
          have : j < k := by rw [← HN.out]; exact (List.getElem?_eq_some_iff.1 hj).1
          simp [this]
      have h2 := h1.still hmX
      have k0 := h2.cells.cell 0
      have kf := h2.cells.free 0
      rw [HLV.out, HN.out] at k0
      simp at k0
      clear hX hrun
      go_wp2_with fail
      go_ret
      obtain ⟨vs', e1, e2, e3⟩ := hRX
      rw [hXL] at e1 e2 e3
      have hlen : (rollL L D).length = k := by rw [← hXL]; exact hXl
      rw [hlen] at e1 e3
      have mS := (Mod.refl wo (· = b)).setCell (p := ⟨b, 0, none⟩) (.inl rfl) (.slice ga k cap)
      have hbW := h1.cells.lt
      have mB : Mod W (wo.setCell ⟨b, 0, none⟩ (.slice ga k cap)) (· = b) := (hmX.nob (T := (· = b))).drop mS (fun j hj => .inl hj)
      have hne : ∀ j, j = b → ¬ y.held j := fun j hj hh => (h.hold j hh).2 (.inl hj)
      have hblk : ∀ j, inBlock (.slice ga k cap) j → W.heap.size ≤ j ∧ j < wo.heap.size := fun j hj => e3.lt j hj
      obtain ⟨us2, u1, u2, u3⟩ := h1.olds
      refine ⟨⟨.slice ga k cap, y.ov, fun j => y.held j ∨ inBlock (.slice ga k cap) j⟩, rfl, ⟨h2.cells.set 0 _, h.ne, fun j hj => ?_, ⟨vs', by rw [hlen]; exact e1, fun i c u hi hj => (e2 i c u hi hj).mono mS hne (fun _ h => .inl h), ?_, fun j hj => .inr hj⟩, us2, u1, fun i u o hi hj => (u2 i u o hi hj).mono mB hne (fun _ h => .inl h), owns_mod u3 mB (fun j hj (e : j = b) => h.ne (e ▸ hj))⟩, ?_⟩
      · rcases hj with hj | hj
        · exact ⟨Nat.lt_of_lt_of_le (h1.hold j hj).1 mB.size, (h1.hold j hj).2⟩
        · have h5 := hblk j hj
          refine ⟨Nat.lt_of_lt_of_le h5.2 mS.size, ?_⟩
          rintro (h6 | h6)
          · have h6 : j = b := h6
            omega
          · have := h1.foot_lt j (.inl (.inr h6)); omega
      · rw [hlen]
        exact owns_base (owns_mod e3 mS (fun j hj (e : j = b) => by have := (hblk j hj).1; omega))
      · have hw := m0.size
        exact ⟨((m0.nob (T := (· = b))).drop mB (fun j hj => .inl hj)).wide (fun j hj => .inl (.inl hj)), fun j hj => .inl hj, fun j hj => .inl hj, fun j hj => hj.imp (fun h => h) (fun h => by have := (hblk j h).1; omega)⟩

end Go.Proofs.Ytbpdmncobeiinaa
