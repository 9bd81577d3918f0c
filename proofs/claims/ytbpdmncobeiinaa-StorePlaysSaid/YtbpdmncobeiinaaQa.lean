/- The document's store, plainly: names that rise. No condition. -/
import Derived.Sort.Walk0
import Derived.Test.YtbpdmncobeiinaaPn
namespace Go.Proofs.Ytbpdmncobeiinaa
open Go.RowKit

/-- Names rise. -/
def Rise (L : List RC) : Prop := L.Pairwise fun a b => a.1.toList < b.1.toList

theorem less_iff (a b : ByteArray) : less a b = true ↔ a.toList < b.toList := by
  unfold less
  rw [Go.Proofs.bytesLess_eq]
  simp

theorem place_cons (c : RC) (L : List RC) (nm : ByteArray) : place (c :: L) nm = bif less c.1 nm then place L nm + 1 else 0 := by
  unfold place
  rw [List.takeWhile_cons]
  cases h : less c.1 nm <;> simp

theorem there_iff (L : List RC) (nm : ByteArray) : there L nm = true ↔ ∃ c, L[place L nm]? = some c ∧ c.1 = nm := by
  constructor
  · exact there_some
  · rintro ⟨c, hc, rfl⟩
    unfold there
    rw [hc]
    simp

/-- Where a cell stands. -/
theorem place_of : ∀ (L : List RC), Rise L → ∀ (k : Nat) (c : RC), L[k]? = some c → place L c.1 = k ∧ there L c.1 = true
  | [], _, _, _, h => by simp at h
  | c0 :: L, hr, 0, c, h => by
    simp at h
    subst h
    have hn : less c0.1 c0.1 = false := by
      cases h : less c0.1 c0.1
      · rfl
      · exact absurd ((less_iff _ _).1 h) (List.lt_irrefl _)
    have hp : place (c0 :: L) c0.1 = 0 := by rw [place_cons, hn]; rfl
    exact ⟨hp, (there_iff _ _).2 ⟨c0, by rw [hp]; rfl, rfl⟩⟩
  | c0 :: L, hr, k + 1, c, h => by
    have hr' := List.pairwise_cons.1 hr
    have hc : L[k]? = some c := by simpa using h
    have hlt := hr'.1 c (List.mem_of_getElem? hc)
    obtain ⟨i1, i2⟩ := place_of L hr'.2 k c hc
    have hp : place (c0 :: L) c.1 = k + 1 := by rw [place_cons, (less_iff _ _).2 hlt, i1]; rfl
    exact ⟨hp, (there_iff _ _).2 ⟨c, by rw [hp]; simpa using hc, rfl⟩⟩

theorem there_mem (L : List RC) (hr : Rise L) (nm : ByteArray) : there L nm = true ↔ nm ∈ L.map (·.1) := by
  constructor
  · intro h
    obtain ⟨c, hc, rfl⟩ := there_some h
    exact List.mem_map_of_mem (List.mem_of_getElem? hc)
  · intro h
    obtain ⟨c, hc, rfl⟩ := List.mem_map.1 h
    obtain ⟨k, hk⟩ := List.getElem?_of_mem hc
    exact (place_of L hr k c hk).2

/-- What a cell says of its name. -/
theorem says_of (L : List RC) (hr : Rise L) (k : Nat) (c : RC) (hc : L[k]? = some c) : shows_ L c.1 = c.2.1 ∧ vers_ L c.1 = c.2.2 := by
  obtain ⟨h1, h2⟩ := place_of L hr k c hc
  exact ⟨by simp [shows_, h2, h1, hc], by simp [vers_, h2, h1, hc]⟩
theorem says_not (L : List RC) (nm : ByteArray) (h : there L nm = false) : shows_ L nm = none ∧ vers_ L nm = [] := ⟨by simp [shows_, h], by simp [vers_, h]⟩

theorem rise_names (L M : List RC) (h : L.map (·.1) = M.map (·.1)) (hr : Rise L) : Rise M := by
  have e : ∀ X : List RC, Rise X ↔ (X.map (·.1)).Pairwise fun a b => a.toList < b.toList := fun X => by
    unfold Rise
    rw [List.pairwise_map]
  rw [e] at hr ⊢
  rw [← h]
  exact hr

theorem set_names (L : List RC) (k : Nat) (c x : RC) (hc : L[k]? = some c) (hx : x.1 = c.1) : (L.set k x).map (·.1) = L.map (·.1) := by
  apply List.ext_getElem?
  intro j
  rw [List.getElem?_map, List.getElem?_map, List.getElem?_set]
  by_cases h : k = j
  · subst h
    rw [if_pos rfl, if_pos (List.getElem?_eq_some_iff.1 hc).1, hc]
    simp [hx]
  · rw [if_neg h]

/-- A cell is set. -/
theorem set_says (L : List RC) (hr : Rise L) (k : Nat) (c : RC) (hc : L[k]? = some c) (o : Option (List UInt8)) (vs : List (List UInt8)) :
    Rise (L.set k (c.1, o, vs)) ∧ (∀ n, shows_ (L.set k (c.1, o, vs)) n = upd (shows_ L) c.1 o n) ∧ ∀ n, vers_ (L.set k (c.1, o, vs)) n = upd (vers_ L) c.1 vs n := by
  have hn := set_names L k c (c.1, o, vs) hc rfl
  have hr2 := rise_names L _ hn.symm hr
  have hlt := (List.getElem?_eq_some_iff.1 hc).1
  have hk : (L.set k (c.1, o, vs))[k]? = some (c.1, o, vs) := by rw [List.getElem?_set, if_pos rfl, if_pos hlt]
  have key : ∀ n, shows_ (L.set k (c.1, o, vs)) n = upd (shows_ L) c.1 o n ∧ vers_ (L.set k (c.1, o, vs)) n = upd (vers_ L) c.1 vs n := fun n => by
    by_cases h : n = c.1
    · subst h
      rw [upd_same, upd_same]
      exact says_of _ hr2 k _ hk
    · rw [upd_other _ _ h, upd_other _ _ h]
      cases ht : there L n with
      | true =>
        obtain ⟨d, hd, rfl⟩ := there_some ht
        obtain ⟨j, hj⟩ : ∃ j, place L d.1 = j := ⟨_, rfl⟩
        rw [hj] at hd
        have hkj : k ≠ j := fun e => by
          subst e
          rw [hc] at hd
          cases hd
          exact h rfl
        have hd2 : (L.set k (c.1, o, vs))[j]? = some d := by rw [List.getElem?_set, if_neg hkj]; exact hd
        obtain ⟨a1, a2⟩ := says_of L hr j d hd
        obtain ⟨b1, b2⟩ := says_of _ hr2 j d hd2
        exact ⟨b1.trans a1.symm, b2.trans a2.symm⟩
      | false =>
        have ht2 : there (L.set k (c.1, o, vs)) n = false := by
          cases hb : there (L.set k (c.1, o, vs)) n
          · rfl
          · rw [there_mem _ hr2, hn, ← there_mem L hr] at hb
            rw [hb] at ht
            cases ht
        obtain ⟨a1, a2⟩ := says_not L n ht
        obtain ⟨b1, b2⟩ := says_not _ n ht2
        exact ⟨b1.trans a1.symm, b2.trans a2.symm⟩
  exact ⟨hr2, fun n => (key n).1, fun n => (key n).2⟩

theorem says_mem (L : List RC) (hr : Rise L) (c : RC) (hc : c ∈ L) : shows_ L c.1 = c.2.1 ∧ vers_ L c.1 = c.2.2 := by
  obtain ⟨k, hk⟩ := List.getElem?_of_mem hc
  exact says_of L hr k c hk

theorem insL_cons (c : RC) (L : List RC) (k : Nat) (nm : ByteArray) : insL (c :: L) (k + 1) nm = c :: insL L k nm := by simp [insL]
theorem insL_zero (L : List RC) (nm : ByteArray) : insL L 0 nm = (nm, none, []) :: L := by simp [insL]

theorem ins_rise : ∀ (L : List RC), Rise L → ∀ nm : ByteArray, there L nm = false → Rise (insL L (place L nm) nm) ∧ ∀ c, c ∈ insL L (place L nm) nm ↔ c = (nm, none, []) ∨ c ∈ L
  | [], _, nm, _ => by
    have h : place [] nm = 0 := rfl
    rw [h, insL_zero]
    exact ⟨List.pairwise_singleton _ _, fun c => by simp⟩
  | c0 :: L, hr, nm, ht => by
    have hr' := List.pairwise_cons.1 hr
    cases hl : less c0.1 nm with
    | true =>
      have hp : place (c0 :: L) nm = place L nm + 1 := by rw [place_cons, hl]; rfl
      have ht2 : there L nm = false := by
        cases hb : there L nm
        · rfl
        · obtain ⟨c, hc, e⟩ := there_some hb
          have : there (c0 :: L) nm = true := (there_iff _ _).2 ⟨c, by rw [hp]; simpa using hc, e⟩
          rw [this] at ht
          cases ht
      obtain ⟨i1, i2⟩ := ins_rise L hr'.2 nm ht2
      rw [hp, insL_cons]
      refine ⟨List.pairwise_cons.2 ⟨fun c hc => ?_, i1⟩, fun c => ?_⟩
      · rcases (i2 c).1 hc with rfl | h
        · exact (less_iff _ _).1 hl
        · exact hr'.1 c h
      · rw [List.mem_cons, i2, List.mem_cons]
        constructor
        · rintro (h | h | h)
          · exact .inr (.inl h)
          · exact .inl h
          · exact .inr (.inr h)
        · rintro (h | h | h)
          · exact .inr (.inl h)
          · exact .inl h
          · exact .inr (.inr h)
    | false =>
      have hp : place (c0 :: L) nm = 0 := by rw [place_cons, hl]; rfl
      have hne : c0.1 ≠ nm := fun e => by
        have : there (c0 :: L) nm = true := (there_iff _ _).2 ⟨c0, by rw [hp]; rfl, e⟩
        rw [this] at ht
        cases ht
      have hlt : nm.toList < c0.1.toList := by
        have h1 : ¬ c0.1.toList < nm.toList := fun h => by rw [(less_iff _ _).2 h] at hl; cases hl
        by_cases h2 : nm.toList < c0.1.toList
        · exact h2
        · exact absurd (names_eq (List.le_antisymm (List.not_lt.1 h2) (List.not_lt.1 h1))) hne
      rw [hp, insL_zero]
      refine ⟨List.pairwise_cons.2 ⟨fun c hc => ?_, hr⟩, fun c => by rw [List.mem_cons]⟩
      rcases List.mem_cons.1 hc with rfl | h
      · exact hlt
      · exact List.lt_trans hlt (hr'.1 c h)

/-- A name that is not there yet gets a cell: nothing is said otherwise. -/
theorem ins_says (L : List RC) (hr : Rise L) (nm : ByteArray) (ht : there L nm = false) : (∀ n, shows_ (insL L (place L nm) nm) n = shows_ L n) ∧ ∀ n, vers_ (insL L (place L nm) nm) n = vers_ L n := by
  obtain ⟨h1, h2⟩ := ins_rise L hr nm ht
  have key : ∀ n, shows_ (insL L (place L nm) nm) n = shows_ L n ∧ vers_ (insL L (place L nm) nm) n = vers_ L n := fun n => by
    by_cases hn : n = nm
    · subst hn
      obtain ⟨a1, a2⟩ := says_not L n ht
      obtain ⟨b1, b2⟩ := says_mem _ h1 (n, none, []) ((h2 _).2 (.inl rfl))
      exact ⟨b1.trans a1.symm, b2.trans a2.symm⟩
    · cases hb : there L n with
      | true =>
        obtain ⟨c, hc, rfl⟩ := there_some hb
        have hm := List.mem_of_getElem? hc
        obtain ⟨a1, a2⟩ := says_mem L hr c hm
        obtain ⟨b1, b2⟩ := says_mem _ h1 c ((h2 c).2 (.inr hm))
        exact ⟨b1.trans a1.symm, b2.trans a2.symm⟩
      | false =>
        have hb2 : there (insL L (place L nm) nm) n = false := by
          cases hq : there (insL L (place L nm) nm) n
          · rfl
          · obtain ⟨c, hc, e⟩ := there_some hq
            rcases (h2 c).1 (List.mem_of_getElem? hc) with rfl | hm
            · exact absurd e.symm hn
            · have : there L n = true := (there_mem L hr n).2 (e ▸ List.mem_map_of_mem hm)
              rw [this] at hb
              cases hb
        obtain ⟨a1, a2⟩ := says_not L n hb
        obtain ⟨b1, b2⟩ := says_not _ n hb2
        exact ⟨b1.trans a1.symm, b2.trans a2.symm⟩
  exact ⟨fun n => (key n).1, fun n => (key n).2⟩

end Go.Proofs.Ytbpdmncobeiinaa
