/- What a store's method 'set' does. The condition: fewer than 2^30 changes. -/
import Derived.Test.YtakgnkjopbflbaaGreatDoorSa
namespace Go.Proofs.YtakgnkjopbflbaaGreatDoor
open Go.RowKit

theorem chCells_snoc (cs : List (ByteArray × Option (List UInt8))) (vs : List Value) (h : vs.length = cs.length) (c : ByteArray × Option (List UInt8)) (v : Value) :
    chCells (cs ++ [c]) (vs ++ [v]) = chCells cs vs ++ [.string c.1, v, .bool c.2.isSome] := by
  unfold chCells
  rw [List.zip_append h.symm]
  simp

/-- What 'was' is. -/
theorem was_of {w : World} {H : Nat → Prop} {fo : Option Value} {so : Option (List UInt8)} (h : OptHeld w H fo so) : ∃ a n c, fo.getD (.slice none 0 0) = .slice a n c ∧ ChHeld w H so (.slice a n c) ∧ fo.isSome = so.isSome := by
  cases fo <;> cases so
  · exact ⟨none, 0, 0, rfl, rfl, rfl⟩
  · exact h.elim
  · exact h.elim
  · obtain ⟨a, c, hf, _⟩ := h.1.form
    refine ⟨a, _, c, hf, ?_, rfl⟩
    have h' : Held w H _ _ := h
    rwa [hf] at h'

/-- The parts of 'set' put together. -/
theorem set_done {w w1 w2 w3 : World} {b : Nat} {σ : Sto} {x : StoB} {nm : ByteArray} {f : ByteArray → Option Value} {vs : List Value} {u cv : Value} {so : Option (List UInt8)} {fo : Option Value} (h : StoreAt w b σ x)
    (hv1 : vs.length = σ.changes.length) (hv2 : ∀ (i : Nat) c v, σ.changes[i]? = some c → vs[i]? = some v → ChHeld w x.held c.2 v) (_hch : w.ownsRow 0 224 3 x.cv σ.changes.length (chCells σ.changes vs))
    (hw1 : ChHeld w x.held (σ.shows nm) u) (hin : ∀ k, inBlock cv k → inBlock x.cv k ∨ w.heap.size ≤ k)
    (hown : w1.ownsRow 0 224 3 cv (σ.changes.length + 1) (chCells σ.changes vs ++ [.string nm, u, .bool (σ.shows nm).isSome])) (hm1 : Mod w w1 (inBlock x.cv))
    (hc2 : CellsAt w2 b (#[Value.map (some x.ms), .map (some x.mv), x.cv, x.pv].setIfInBounds 2 cv) 99) (hm2 : Mod w1 w2 (· = b)) (hmap : MapAt .string w3 x.ms (upd f nm fo)) (hm3 : Mod w2 w3 (· = x.ms))
    (hf : ∀ nm, OptHeld w x.held (f nm) (σ.shows nm)) (hfo : (fo = none ∧ so = none) ∨ ∃ v l, fo = some v ∧ so = some l ∧ Held w x.held v l) :
    DidS w b x (.tuple #[]) (σ.set nm so) (.returned (.tuple #[])) w3 := by
  have hlt := h.foot_lt
  have hnew : ∀ k, inBlock cv k → ¬ x.own b k ∨ inBlock x.cv k := fun k hk => (hin k hk).elim .inr (fun h1 => .inl fun h2 => by have := hlt k (.inl h2); omega)
  have hM : Mod w w3 (fun k => inBlock x.cv k ∨ k = b ∨ k = x.ms) :=
    ((hm1.wide (fun k hk => .inl (.inl hk))).drop hm2 (fun k hk => .inl (.inr (.inl hk)))).drop hm3 (fun k hk => .inl (.inr (.inr hk)))
  have hS : ∀ k, (inBlock x.cv k ∨ k = b ∨ k = x.ms) → ¬ x.held k := fun k hk hh => (h.hold k hh).2 (by
    rcases hk with hk | rfl | rfl
    · exact .inr (.inr (.inr (.inl hk)))
    · exact .inl rfl
    · exact .inr (.inl rfl))
  have hcvn : ∀ k, inBlock cv k → k ≠ b ∧ k ≠ x.ms ∧ k ≠ x.mv ∧ ¬ inBlock x.pv k := fun k hk => by
    rcases hin k hk with h1 | h1
    · exact h.nec k h1
    · have l1 := hlt b (.inl (.inl rfl))
      have l2 := hlt x.ms (.inl (.inr (.inl rfl)))
      have l3 := hlt x.mv (.inl (.inr (.inr (.inl rfl))))
      exact ⟨by omega, by omega, by omega, fun h2 => by have := hlt k (.inl (.inr (.inr (.inr (.inr h2))))); omega⟩
  obtain ⟨g, hg, hg2⟩ := h.vers
  refine ⟨{ x with cv := cv }, rfl, ?_, hM.wide (fun k hk => .inl ?_), ?_, fun _ h => h, fun _ h => .inl h⟩
  · refine ⟨hc2.mod hm3 (fun e => h.ne1 e), h.ne1, h.ne2, h.ne3, hcvn, h.nep, fun k hk => ⟨Nat.lt_of_lt_of_le (h.hold k hk).1 hM.size, fun ho => ?_⟩, ?_, ?_, ?_, ?_⟩
    · rcases ho with ho | ho | ho | ho | ho
      · exact (h.hold k hk).2 (.inl ho)
      · exact (h.hold k hk).2 (.inr (.inl ho))
      · exact (h.hold k hk).2 (.inr (.inr (.inl ho)))
      · rcases hin k ho with h1 | h1
        · exact (h.hold k hk).2 (.inr (.inr (.inr (.inl h1))))
        · have := (h.hold k hk).1; omega
      · exact (h.hold k hk).2 (.inr (.inr (.inr (.inr ho))))
    · refine ⟨_, hmap, fun n => ?_⟩
      show OptHeld w3 x.held (upd f nm fo n) (upd σ.shows nm so n)
      by_cases hn : n = nm
      · subst hn
        rw [upd_same, upd_same]
        rcases hfo with ⟨rfl, rfl⟩ | ⟨v, l, rfl, rfl, hv⟩
        · trivial
        · exact hv.mono hM hS (fun _ h => h)
      · rw [upd_other _ _ hn, upd_other _ _ hn]
        exact (hf n).mono hM hS (fun _ h => h)
    · exact ⟨g, hg.mod hM (by rintro (h1 | h1 | h1); exact (h.nec _ h1).2.2.1 rfl; exact h.ne2 h1.symm; exact h.ne3 h1.symm), fun n => (hg2 n).mono hM hS (fun _ h => h)⟩
    · refine ⟨vs ++ [u], by simp [Sto.set, hv1], fun i c v hi hj => ?_, ?_⟩
      · unfold Sto.set at hi
        simp only at hi
        by_cases hlt' : i < σ.changes.length
        · rw [List.getElem?_append_left hlt'] at hi
          rw [List.getElem?_append_left (by omega)] at hj
          exact (hv2 i c v hi hj).mono hM hS (fun _ h => h)
        · rw [List.getElem?_append_right (by omega)] at hi
          rw [List.getElem?_append_right (by omega), hv1] at hj
          have h0 : i - σ.changes.length = 0 := by
            have := (List.getElem?_eq_some_iff.1 hi).1
            simp at this
            omega
          rw [h0] at hi hj
          simp at hi hj
          subst hi; subst hj
          exact hw1.mono hM hS (fun _ h => h)
      · have e1 : (σ.set nm so).changes = σ.changes ++ [(nm, σ.shows nm)] := rfl
        rw [e1, chCells_snoc _ _ hv1]
        have := owns_mod (owns_mod hown hm2 (fun k hk e => (hcvn k hk).1 e)) hm3 (fun k hk e => (hcvn k hk).2.1 e)
        simpa using this
    · exact owns_mod h.puts hM (by rintro k hk (h1 | h1 | h1); exact (h.nec k h1).2.2.2 hk; exact (h.nep k hk).1 h1; exact (h.nep k hk).2.1 h1)
  · rcases hk with h1 | h1 | h1
    · exact .inr (.inr (.inr (.inl h1)))
    · exact .inl h1
    · exact .inr (.inl h1)
  · rintro k (ho | ho | ho | ho | ho)
    · exact .inl (.inl ho)
    · exact .inl (.inr (.inl ho))
    · exact .inl (.inr (.inr (.inl ho)))
    · exact (hin k ho).imp (fun h => .inr (.inr (.inr (.inl h)))) (fun h => h)
    · exact .inl (.inr (.inr (.inr (.inr ho))))

set_option maxRecDepth 100000 in
set_option maxHeartbeats 2000000 in
theorem set_some (b : Nat) (σ : Sto) (x : StoB) (nm : ByteArray) (v : Value) (l : List UInt8) (w : World) (h : StoreAt w b σ x) (hv : Held w x.held v l) (hn : σ.changes.length < 1073741824) :
    Calls Tryz.prog 88 #[.pointer (some ⟨b, 0, none⟩), .string nm, v, .bool true] w (DidS w b x (.tuple #[]) (σ.set nm (some l))) := by
  obtain ⟨i0, hi, hz0, hz1, hz2⟩ := info_parts info_change
  obtain ⟨f, hf, hf2⟩ := h.shows
  obtain ⟨vs, hv1, hv2, hch⟩ := h.chs
  obtain ⟨wa, wn, wc, hwas, hw1, hw2⟩ := was_of (hf2 nm)
  have c0 := h.cells.cell 0
  have c2 := h.cells.cell 2
  simp at c0 c2
  obtain ⟨av, cv, rfl, _⟩ := hv.1.form
  rw [List.length_map] at *
  have f2 := h.cells.free 2
  go_enter Tryz.func88, Tryz.ntmps88
  go_wp2_with (first
    | (at_lookup; refine wpList_lookup_at rfl _ _ 95 true rfl 9 43 (.slice none 0 0) Tryz.underlying95 keyS zero_bytes rfl hf nm rfl ?_)
    | (at_builtin; refine wpList_append_one _ rfl _ _ 97 rfl 0 224 i0 _ 3 48 Tryz.underlying97 hi hz0 hz1 hz2 rfl (by decide) _ _ _ rfl (hch.alloc _) w.heap.size 1 [.string nm, .slice wa wn wc, .bool (σ.shows nm).isSome] 224 rfl rfl (CellsAt.new w _ _) (by simp [Value.oneCell']) (by unfold maxLen; omega) (by omega) (Nat.zero_le _) ?_))
  intro v1 w1 hown1 hg1 hin1
  have hm1 := ((Mod.refl w (inBlock x.cv)).alloc (.cells #[.string nm, .slice wa wn wc, .bool (σ.shows nm).isSome] 224)).grown hg1 (fun k hk => .inl hk)
  have hnb : ¬ inBlock x.cv b := fun hk => (h.nec b hk).1 rfl
  have hc1 := h.cells.mod hm1 hnb
  have d0 := hc1.cell 0
  have d2 := hc1.cell 2
  have e2 := hc1.free 2
  simp at d0 d2
  obtain ⟨a1, k1, rfl, _, _⟩ := owns_form hown1
  clear hz0 hz1 hz2 hi f2 c0 c2
  have hc2 := hc1.set 2 (.slice a1 (σ.changes.length + 1) k1)
  have hm2 := (Mod.refl w1 (· = b)).setCell (p := ⟨b, 2, none⟩) (.inl rfl) (.slice a1 (σ.changes.length + 1) k1)
  have hm12 := (hm1.wide (T := fun k => inBlock x.cv k ∨ k = b) (fun k hk => .inl (.inl hk))).drop hm2 (fun k hk => .inl (.inr hk))
  have hf2' := hf.mod hm12 (by rintro (hk | hk); exact (h.nec _ hk).2.1 rfl; exact h.ne1 hk.symm)
  have d0' := hc2.cell 0
  simp at d0'
  go_wp2_with (at_mapUpdate; refine wpList_mapUpdate_at rfl _ _ _ 95 rfl 9 43 Tryz.underlying95 keyS rfl hf2' nm rfl _ rfl ?_)
  intro w3 hmap3 hg3
  have hm3 := (Mod.refl _ (· = x.ms)).grown hg3 (fun k hk => .inl (Option.some.inj hk).symm)
  go_wp2_with fail
  go_end0
  exact set_done h hv1 hv2 hch hw1 (fun k hk => (hin1 k hk).imp (fun h => h) (fun h => by omega)) hown1 hm1 hc2 hm2 hmap3 hm3 hf2 (.inr ⟨_, l, rfl, rfl, hv⟩)

set_option maxRecDepth 100000 in
set_option maxHeartbeats 2000000 in
theorem set_none (b : Nat) (σ : Sto) (x : StoB) (nm : ByteArray) (w : World) (h : StoreAt w b σ x) (hn : σ.changes.length < 1073741824) :
    Calls Tryz.prog 88 #[.pointer (some ⟨b, 0, none⟩), .string nm, .slice none 0 0, .bool false] w (DidS w b x (.tuple #[]) (σ.set nm none)) := by
  obtain ⟨i0, hi, hz0, hz1, hz2⟩ := info_parts info_change
  obtain ⟨f, hf, hf2⟩ := h.shows
  obtain ⟨vs, hv1, hv2, hch⟩ := h.chs
  obtain ⟨wa, wn, wc, hwas, hw1, hw2⟩ := was_of (hf2 nm)
  have c0 := h.cells.cell 0
  have c2 := h.cells.cell 2
  simp at c0 c2
  have f2 := h.cells.free 2
  go_enter Tryz.func88, Tryz.ntmps88
  go_wp2_with (first
    | (at_lookup; refine wpList_lookup_at rfl _ _ 95 true rfl 9 43 (.slice none 0 0) Tryz.underlying95 keyS zero_bytes rfl hf nm rfl ?_)
    | (at_builtin; refine wpList_append_one _ rfl _ _ 97 rfl 0 224 i0 _ 3 48 Tryz.underlying97 hi hz0 hz1 hz2 rfl (by decide) _ _ _ rfl (hch.alloc _) w.heap.size 1 [.string nm, .slice wa wn wc, .bool (σ.shows nm).isSome] 224 rfl rfl (CellsAt.new w _ _) (by simp [Value.oneCell']) (by unfold maxLen; omega) (by omega) (Nat.zero_le _) ?_))
  intro v1 w1 hown1 hg1 hin1
  have hm1 := ((Mod.refl w (inBlock x.cv)).alloc (.cells #[.string nm, .slice wa wn wc, .bool (σ.shows nm).isSome] 224)).grown hg1 (fun k hk => .inl hk)
  have hnb : ¬ inBlock x.cv b := fun hk => (h.nec b hk).1 rfl
  have hc1 := h.cells.mod hm1 hnb
  have d0 := hc1.cell 0
  have d2 := hc1.cell 2
  have e2 := hc1.free 2
  simp at d0 d2
  obtain ⟨a1, k1, rfl, _, _⟩ := owns_form hown1
  clear hz0 hz1 hz2 hi f2 c0 c2
  have hc2 := hc1.set 2 (.slice a1 (σ.changes.length + 1) k1)
  have hm2 := (Mod.refl w1 (· = b)).setCell (p := ⟨b, 2, none⟩) (.inl rfl) (.slice a1 (σ.changes.length + 1) k1)
  have hm12 := (hm1.wide (T := fun k => inBlock x.cv k ∨ k = b) (fun k hk => .inl (.inl hk))).drop hm2 (fun k hk => .inl (.inr hk))
  have hf2' := hf.mod hm12 (by rintro (hk | hk); exact (h.nec _ hk).2.1 rfl; exact h.ne1 hk.symm)
  have d0' := hc2.cell 0
  simp at d0'
  go_wp2_with (at_delete; refine wpList_delete_at rfl _ _ 95 9 rfl 9 43 Tryz.underlying95 keyS rfl hf2' nm rfl ?_)
  intro w3 hmap3 hg3
  have hm3 := (Mod.refl _ (· = x.ms)).grown hg3 (fun k hk => .inl (Option.some.inj hk).symm)
  go_wp2_with fail
  go_end0
  exact set_done h hv1 hv2 hch hw1 (fun k hk => (hin1 k hk).imp (fun h => h) (fun h => by omega)) hown1 hm1 hc2 hm2 hmap3 hm3 hf2 (.inl ⟨rfl, rfl⟩)

end Go.Proofs.YtakgnkjopbflbaaGreatDoor
