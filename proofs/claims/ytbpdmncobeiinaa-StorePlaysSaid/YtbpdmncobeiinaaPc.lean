/- One cell of the document's store is set. No condition but sizes. -/
import Derived.StillTailTactics
import Derived.Test.YtbpdmncobeiinaaPb
import Derived.Test.YtbpdmncobeiinaaWh
namespace Go.Proofs.Ytbpdmncobeiinaa
open Go.RowKit

theorem RefAt.hold_more {w : World} {b : Nat} {L : List RC} {O : List (List RC)} {y : RefB} (h : RefAt w b L O y) (T : Nat → Prop) (hT : ∀ k, T k → k < w.heap.size ∧ ¬ y.own b k) : RefAt w b L O { y with held := fun k => y.held k ∨ T k } := by
  have hM := Mod.refl w Nob
  obtain ⟨us, h1, h2, h3⟩ := h.olds
  exact ⟨h.cells, h.ne, fun k hk => hk.elim (h.hold k) (hT k), h.row.mono hM (fun _ h => h.elim) (fun _ h => .inl h), us, h1, fun i u o hi hj => (h2 i u o hi hj).mono hM (fun _ h => h.elim) (fun _ h => .inl h), h3⟩

/-- What was turned while the document's store did something. -/
structure StepR (b : Nat) (w : World) (y : RefB) (w' : World) (y' : RefB) : Prop where
  mod : Mod w w' (y.own b)
  own : ∀ k, y'.own b k → y.own b k ∨ w.heap.size ≤ k
  held : ∀ k, y.held k → y'.held k
  fresh : ∀ k, y'.held k → y.held k ∨ w.heap.size ≤ k

theorem StepR.refl (b : Nat) (w : World) (y : RefB) : StepR b w y w y := ⟨Mod.refl _ _, fun _ h => .inl h, fun _ h => h, fun _ h => .inl h⟩
theorem StepR.trans {b : Nat} {w w' w'' : World} {y y' y'' : RefB} (h : StepR b w y w' y') (k : StepR b w' y' w'' y'') : StepR b w y w'' y'' :=
  ⟨h.mod.drop k.mod h.own,
   fun i hi => (k.own i hi).elim (h.own i) (fun h1 => .inr (Nat.le_trans h.mod.size h1)),
   fun i hi => k.held i (h.held i hi),
   fun i hi => (k.fresh i hi).elim (h.fresh i) (fun h1 => .inr (Nat.le_trans h.mod.size h1))⟩
theorem StepR.of_mod {b : Nat} {w w' : World} {y : RefB} (h : Mod w w' Nob) : StepR b w y w' y := ⟨h.nob, fun _ h => .inl h, fun _ h => h, fun _ h => .inl h⟩
theorem StepR.foot {b : Nat} {w w' : World} {y y' : RefB} (h : StepR b w y w' y') : ∀ k, y'.foot b k → y.foot b k ∨ w.heap.size ≤ k := by
  rintro k (hk | hk)
  · exact (h.own k hk).imp .inl (fun h => h)
  · exact (h.fresh k hk).imp .inr (fun h => h)

def DidR (w : World) (b : Nat) (y : RefB) (v : Value) (L : List RC) (O : List (List RC)) (e : Ending) (w' : World) : Prop :=
  ∃ y', e = .returned v ∧ RefAt w' b L O y' ∧ StepR b w y w' y'

theorem owns_copy2 {w : World} {base : Nat} {t : TypeId} {size : Nat} {g n c : Nat} {xs : List Value} (h : w.ownsRow base t size (.slice (some ⟨g, 0, none⟩) n c) n xs) : xs.length = n * size ∧ ∀ j u, xs[j]? = some u → w.cell? ((⟨g, 0, none⟩ : Addr).add j) = some u := ⟨h.1, h.cells (g := g) rfl⟩

theorem owns_setN {w : World} {base : Nat} {e : TypeId} {size g cap n : Nat} {xs : List Value} (h : w.ownsRow base e size (.slice (some ⟨g, 0, none⟩) n cap) n xs) (q : Nat) (u : Value) :
    (w.setCell ⟨g, q, none⟩ u).ownsRow base e size (.slice (some ⟨g, 0, none⟩) n cap) n (xs.set q u) := by
  obtain ⟨hl, ⟨h, _⟩ | ⟨g', cap', cur, h, hb, hg, hn, hc, hs, ht⟩⟩ := h
  · cases h
  · cases h
    refine ⟨by simpa using hl, .inr ⟨g, cap, cur.setIfInBounds q u, rfl, hb, ?_, hn, hc, by simpa using hs, ?_⟩⟩
    · simp only [World.setCell, Array.getElem?_modify, if_true]
      rw [hg]; rfl
    · rw [← ht, Array.toList_setIfInBounds, List.take_set]

theorem owns_open2 {w : World} {base : Nat} {e : TypeId} {size g cap n : Nat} {xs : List Value} (h : w.ownsRow base e size (.slice (some ⟨g, 0, none⟩) n cap) n xs) (i : Nat) : w.frozen? ⟨g, i, none⟩ = false := by
  rcases h.2 with ⟨h, _⟩ | ⟨g', cap', cur, h, hb, hg, _⟩
  · cases h
  · cases h
    simp [World.frozen?, hg]

theorem info_cell : (Try.prog.info? 83).map (fun i => (i.zero, i.size, i.bytes)) = some (some (.agg #[.string ⟨#[]⟩, .bool false, .slice none 0 0, .slice none 0 0]), 4, 72) := by kernel_rfl

theorem rc_one {w : World} {H : Nat → Prop} (cs : List RC) (vs : List (Value × Value)) (h : ∀ (i : Nat) c u, cs[i]? = some c → vs[i]? = some u → RcAt w H c u) : ∀ u ∈ rcCells cs vs, u.oneCell' = true := by
  intro u hu
  unfold rcCells at hu
  obtain ⟨l, hl, hu⟩ := List.mem_flatten.1 hu
  obtain ⟨⟨c, v⟩, hz, rfl⟩ := List.mem_map.1 hl
  obtain ⟨i, hi⟩ := List.getElem?_of_mem hz
  rw [List.getElem?_zip_eq_some] at hi
  obtain ⟨h1, us, h2, _⟩ := h i c v hi.1 hi.2
  obtain ⟨_, _, e1, _⟩ := h1.1.form
  obtain ⟨_, _, e2, _⟩ := h2.form
  simp only [List.mem_cons, List.not_mem_nil, or_false] at hu
  rcases hu with rfl | rfl | rfl | rfl
  · rfl
  · rfl
  · rw [e1]; rfl
  · rw [e2]; rfl

theorem rcCells_set : ∀ (cs : List RC) (vs : List (Value × Value)), vs.length = cs.length → ∀ (k : Nat) (c : RC) (u : Value × Value), k < cs.length →
    rcCells (cs.set k c) (vs.set k u) = ((((rcCells cs vs).set (k * 4) (.string c.1)).set (k * 4 + 1) (.bool c.2.1.isSome)).set (k * 4 + 2) u.1).set (k * 4 + 3) u.2
  | [], _, _, _, _, _, h => by cases h
  | c0 :: cs, [], h, _, _, _, _ => by simp at h
  | c0 :: cs, v0 :: vs, _, 0, c, u, _ => by simp [rcCells]
  | c0 :: cs, v0 :: vs, h, k + 1, c, u, hk => by
    have ih := rcCells_set cs vs (by simpa using h) k c u (by simpa using hk)
    rw [show (k + 1) * 4 = k * 4 + 4 by omega]
    simp only [List.set_cons_succ]
    have e : ∀ cs vs (c0 : RC) (v0 : Value × Value), rcCells (c0 :: cs) (v0 :: vs) = .string c0.1 :: .bool c0.2.1.isSome :: v0.1 :: v0.2 :: rcCells cs vs := fun cs vs c0 v0 => by simp [rcCells]
    rw [e, e, ih]
    simp [List.set_cons_succ]

set_option maxRecDepth 100000 in
set_option maxHeartbeats 2000000 in
theorem ref_set (b : Nat) (L : List RC) (O : List (List RC)) (y : RefB) (k : Nat) (c : RC) (bv av : Value) (w : World) (h : RefAt w b L O y) (hk : k < L.length) (hL : L.length < 1000000) (hc : RcAt w y.held c (bv, av)) :
    Calls Try.prog 41 #[.pointer (some ⟨b, 0, none⟩), .int .i64 k, .agg #[.string c.1, .bool c.2.1.isSome, bv, av]] w (DidR w b y (.tuple #[]) (L.set k c) O) := by
  obtain ⟨i0, hi, hz0, hz1, hz2⟩ := info_parts info_cell
  obtain ⟨vs, hv1, hv2, ho, hh⟩ := h.row
  obtain ⟨la, lc, hlv, hlc, hcm⟩ := owns_form ho
  rw [hlv] at ho
  have h1 := rc_one L vs hv2
  obtain ⟨ba, bn, bc, rfl⟩ : ∃ a n c, bv = .slice a n c := by obtain ⟨a, c, e, _⟩ := hc.1.1.form; exact ⟨_, _, _, e⟩
  obtain ⟨aa, an, ac, rfl⟩ : ∃ a n c, av = .slice a n c := by obtain ⟨_, hc2, _⟩ := hc.2; obtain ⟨a, c, e, _⟩ := hc2.form; exact ⟨_, _, _, e⟩
  obtain ⟨g, rfl⟩ : ∃ g, la = some ⟨g, 0, none⟩ := by
    rcases ho.2 with ⟨_, h0⟩ | ⟨g, cap', cur, h0, _⟩
    · omega
    · cases h0; exact ⟨g, rfl⟩
  have mA := (Mod.refl w Nob).alloc (.cells #[.string c.1, .bool c.2.1.isSome, .slice ba bn bc, .slice aa an ac] 83)
  have cB := CellsAt.new w #[.string c.1, .bool c.2.1.isSome, .slice ba bn bc, .slice aa an ac] 83
  obtain ⟨hl, hcp⟩ := owns_copy2 (owns_mod ho mA (fun _ _ => nob))
  obtain ⟨v', w', hrun, r1, r2, r3, r4⟩ := run_append_at (P := Try.prog) (w.alloc (.cells #[.string c.1, .bool c.2.1.isSome, .slice ba bn bc, .slice aa an ac] 83)) 45 45 83 i0 _ 4 72 Try.underlying45 hi hz0 hz1 hz2 rfl (by omega) (w.heap.size + 1) (.slice none 0 0) 0 [] (World.ownsRow_nil _ _ _ _) ⟨g, 0, none⟩ L.length lc (rcCells L vs) (by omega) hcp h1 (by unfold maxLen; omega) (by omega) (by simp)
  obtain ⟨va, vc, rfl, _, _⟩ := owns_form r1
  obtain ⟨g2, rfl⟩ : ∃ g, va = some ⟨g, 0, none⟩ := by
    rcases r1.2 with ⟨_, h0⟩ | ⟨g, cap', cur, h0, _⟩
    · omega
    · cases h0; exact ⟨g, rfl⟩
  simp only [Nat.zero_add, List.nil_append] at r1 hrun
  have hg2 := (r1.lt g2 rfl)
  have hA := h.cells.mod mA nob
  have c0 := hA.cell 0
  rw [hlv] at c0
  simp at c0
  have mN := (Mod.refl (w.alloc (.cells #[.string c.1, .bool c.2.1.isSome, .slice ba bn bc, .slice aa an ac] 83)) Nob).grown r2 (fun k hk => by simp [Value.ownBlock] at hk)
  have mG := mA.trans mN
  have hG := h.cells.mod mG nob
  have hbw := h.cells.lt
  have g0 := hG.cell 0
  have gf := hG.free 0
  simp at g0
  have cB2 := cB.mod mN nob
  have mS := (Mod.refl w' (· = b)).setCell (p := ⟨b, 0, none⟩) (.inl rfl) (.slice (some ⟨g2, 0, none⟩) L.length vc)
  have hS := hG.set 0 (.slice (some ⟨g2, 0, none⟩) L.length vc)
  have cB3 := cB2.mod mS (by omega)
  have ho2 := owns_mod r1 mS (fun j hj (e : j = b) => by
    have e2 : g2 = j := by simpa [inBlock, Value.ownBlock] using hj
    omega)
  obtain ⟨W1, hW1⟩ : ∃ W1, w'.setCell ⟨b, 0, none⟩ (.slice (some ⟨g2, 0, none⟩) L.length vc) = W1 := ⟨_, rfl⟩
  obtain ⟨N, hN⟩ : ∃ N, L.length = N := ⟨_, rfl⟩
  rw [hN] at c0 hk hL hlc hrun hW1
  go_enter Try.func41, Try.ntmps41
  go_wp2_with (at_builtin; refine wpList_append_run (P := Try.prog) _ rfl _ _ 45 45 rfl _ _ rfl rfl _ w' hrun ?_)
  rw [hN, hW1] at hS cB3 ho2 mS
  have s0 := hS.cell 0
  have b0 := cB3.cell 0
  have b1 := cB3.cell 1
  have b2 := cB3.cell 2
  have b3 := cB3.cell 3
  simp at s0 b0 b1 b2 b3
  have lW := heap_lt cB3
  have kq0 : ∀ j, j < 4 → ∃ q, W1.cell? ⟨g2, k * 4 + j, none⟩ = some q := fun j hj => ⟨_, own_cell ho2 (k * 4 + j) ((rcCells L vs)[k * 4 + j]'(by rw [hl, hN]; omega)) (List.getElem?_eq_getElem _)⟩
  obtain ⟨q0, z0⟩ := kq0 0 (by omega)
  obtain ⟨q1, z1⟩ := kq0 1 (by omega)
  obtain ⟨q2, z2⟩ := kq0 2 (by omega)
  obtain ⟨q3, z3⟩ := kq0 3 (by omega)
  rw [Nat.add_zero] at z0
  have zf := fun i => (owns_open2 ho2) i
  clear hW1 g0 gf c0 hrun kq0
  go_still_tail 7, (by kernel_rfl)
  change wpList _ _ _ _ _ W1.drew
  go_wp2_with fail
  go_end0
  have w1 := owns_setN ho2 (k * 4) (.string c.1)
  have w2 := owns_setN w1 (k * 4 + 1) (.bool c.2.1.isSome)
  have w3 := owns_setN w2 (k * 4 + 2) (.slice ba bn bc)
  have w4 := owns_setN w3 (k * 4 + 3) (.slice aa an ac)
  rw [← rcCells_set L vs hv1 k c (.slice ba bn bc, .slice aa an ac) (by rw [hN]; exact hk)] at w4
  have mW : Mod W1 ((((W1.setCell ⟨g2, k * 4, none⟩ (.string c.1)).setCell ⟨g2, k * 4 + 1, none⟩ (.bool c.2.1.isSome)).setCell ⟨g2, k * 4 + 2, none⟩ (.slice ba bn bc)).setCell ⟨g2, k * 4 + 3, none⟩ (.slice aa an ac)).drew (· = g2) :=
    (((((Mod.refl W1 (· = g2)).setCell (p := ⟨g2, k * 4, none⟩) (.inl rfl) _).setCell (p := ⟨g2, k * 4 + 1, none⟩) (.inl rfl) _).setCell (p := ⟨g2, k * 4 + 2, none⟩) (.inl rfl) _).setCell (p := ⟨g2, k * 4 + 3, none⟩) (.inl rfl) _).drew
  have w5 := owns_mod w4 ((Mod.refl _ Nob).drew) (fun _ _ => nob)
  obtain ⟨W5, hW5⟩ : ∃ W5, ((((W1.setCell ⟨g2, k * 4, none⟩ (.string c.1)).setCell ⟨g2, k * 4 + 1, none⟩ (.bool c.2.1.isSome)).setCell ⟨g2, k * 4 + 2, none⟩ (.slice ba bn bc)).setCell ⟨g2, k * 4 + 3, none⟩ (.slice aa an ac)).drew = W5 := ⟨_, rfl⟩
  rw [hW5] at mW w5 ⊢
  clear hW5 w1 w2 w3 w4
  have hg3 : w.heap.size + 1 ≤ g2 := hg2.1
  have mB : Mod w W5 (· = b) := ((mG.nob (T := (· = b))).drop mS (fun j hj => .inl hj)).drop mW (fun j (hj : j = g2) => .inr (by omega))
  have hne : ∀ j, j = b → ¬ y.held j := fun j hj hh => (h.hold j hh).2 (.inl hj)
  have hlt5 : g2 < W5.heap.size := (w5.lt g2 rfl).2
  have hov : ∀ j, inBlock y.ov j → j < w.heap.size := fun j hj => h.foot_lt j (.inl (.inr hj))
  obtain ⟨us, u1, u2, u3⟩ := h.olds
  have hgb : g2 ≠ b := by omega
  refine ⟨⟨.slice (some ⟨g2, 0, none⟩) N vc, y.ov, fun j => y.held j ∨ j = g2⟩, rfl, ⟨hS.mod mW (fun e => hgb e.symm), h.ne, fun j hj => ?_, ⟨vs.set k (.slice ba bn bc, .slice aa an ac), by simp [hv1], fun i c' u' hi' hj' => ?_, ?_, fun j hj => .inr ?_⟩, us, u1, fun i u o hi' hj' => (u2 i u o hi' hj').mono mB hne (fun _ h => .inl h), owns_mod u3 mB (fun j hj (e : j = b) => h.ne (e ▸ hj))⟩, ?_⟩
  · rcases hj with hj | hj
    · exact ⟨Nat.lt_of_lt_of_le (h.hold j hj).1 mB.size, (h.hold j hj).2⟩
    · have hj : j = g2 := hj
      refine ⟨by omega, ?_⟩
      rintro (h5 | h5)
      · omega
      · have := hov j h5; omega
  · rw [List.getElem?_set] at hi' hj'
    by_cases hik : k = i
    · rw [if_pos hik] at hi' hj'
      rw [if_pos (by rw [hN]; omega)] at hi'
      rw [if_pos (by omega)] at hj'
      cases hi'; cases hj'
      exact hc.mono mB hne (fun _ h => .inl h)
    · rw [if_neg hik] at hi' hj'
      exact (hv2 i c' u' hi' hj').mono mB hne (fun _ h => .inl h)
  · rw [List.length_set, hN]
    exact owns_base w5
  · have e2 : g2 = j := by simpa [inBlock, Value.ownBlock] using hj
    exact e2.symm
  · exact ⟨mB.wide (fun j hj => .inl (.inl hj)), fun j hj => .inl hj, fun j hj => .inl hj, fun j hj => hj.imp (fun h => h) (fun (e : j = g2) => by omega)⟩

end Go.Proofs.Ytbpdmncobeiinaa
