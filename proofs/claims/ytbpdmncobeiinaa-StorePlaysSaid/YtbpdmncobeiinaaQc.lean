/- The store and the document's store, plainly: rolled back they agree; their names. No condition. -/
import Derived.Test.YtbpdmncobeiinaaQb
namespace Go.Proofs.Ytbpdmncobeiinaa
open Go.RowKit

theorem fold_none (nm : ByteArray) : ∀ (D : List RC) (acc : Option (List UInt8)), (∀ d ∈ D, d.1 ≠ nm) → D.foldl (fun acc d => bif decide (d.1 = nm) then d.2.1 else acc) acc = acc
  | [], _, _ => rfl
  | d :: D, acc, h => by
    have h1 := h d List.mem_cons_self
    rw [List.foldl_cons, decide_eq_false h1]
    exact fold_none nm D acc (fun e he => h e (List.mem_cons_of_mem _ he))

theorem fold_some (nm : ByteArray) : ∀ (D : List RC) (acc : Option (List UInt8)) (c : RC), Rise D → c ∈ D → c.1 = nm → D.foldl (fun acc d => bif decide (d.1 = nm) then d.2.1 else acc) acc = c.2.1
  | [], _, _, _, h, _ => by cases h
  | d :: D, acc, c, hr, hc, hn => by
    have hr' := List.pairwise_cons.1 hr
    rw [List.foldl_cons]
    rcases List.mem_cons.1 hc with rfl | hc
    · rw [decide_eq_true hn]
      exact fold_none nm D _ (fun e he h => by
        have := hr'.1 e he
        rw [h, hn] at this
        exact List.lt_irrefl _ this)
    · exact fold_some nm D _ c hr'.2 hc hn

theorem shownIn_says (D : List RC) (hr : Rise D) (nm : ByteArray) : shownIn D nm = shows_ D nm := by
  unfold shownIn
  cases ht : there D nm with
  | true =>
    obtain ⟨c, hc, rfl⟩ := there_some ht
    have hm := List.mem_of_getElem? hc
    rw [fold_some c.1 D none c hr hm rfl, (says_mem D hr c hm).1]
  | false =>
    rw [(says_not D nm ht).1]
    refine fold_none nm D none (fun d hd h => ?_)
    have : there D nm = true := (there_mem D hr nm).2 (h ▸ List.mem_map_of_mem hd)
    rw [this] at ht; cases ht

theorem rollL_names (L D : List RC) : (rollL L D).map (·.1) = L.map (·.1) := by simp [rollL, List.map_map, Function.comp_def]
theorem rollL_says (L D : List RC) (hL : Rise L) (n : ByteArray) : shows_ (rollL L D) n = (if there L n = true then shownIn D n else none) ∧ vers_ (rollL L D) n = vers_ L n := by
  have hr := rise_names L _ (rollL_names L D).symm hL
  have ht := there_names _ L hr hL (rollL_names L D) n
  cases hb : there L n with
  | true =>
    obtain ⟨c, hc, rfl⟩ := there_some hb
    have hm := List.mem_of_getElem? hc
    have hm2 : (c.1, shownIn D c.1, c.2.2) ∈ rollL L D := List.mem_map_of_mem (f := fun c : RC => (c.1, shownIn D c.1, c.2.2)) hm
    obtain ⟨a1, a2⟩ := says_mem _ hr _ hm2
    obtain ⟨b1, b2⟩ := says_mem L hL c hm
    exact ⟨by rw [if_pos rfl]; exact a1, a2.trans b2.symm⟩
  | false =>
    rw [hb] at ht
    obtain ⟨a1, a2⟩ := says_not _ n ht
    obtain ⟨b1, b2⟩ := says_not L n hb
    exact ⟨by rw [a1]; simp, a2.trans b2.symm⟩

theorem rolled_fair (was : ByteArray → Option (Option (List UInt8))) : ∀ (ns : List ByteArray) (σ : Sto), (∀ nm ∈ ns, nm.size ≤ maxLen) → σ.Fair → (σ.rolled was ns).Fair
  | [], _, _, h => h
  | nm :: ns, σ, hs, h => rolled_fair was ns (σ.set nm ((was nm).getD none)) (fun n hn => hs n (List.mem_cons_of_mem _ hn)) (fair_set h nm _ (hs nm List.mem_cons_self))
theorem rolled_past (was : ByteArray → Option (Option (List UInt8))) (p : Nat) : ∀ (ns : List ByteArray) (σ : Sto), p ≤ σ.changes.length → (σ.rolled was ns).at_ p = σ.at_ p
  | [], _, _ => rfl
  | nm :: ns, σ, h => by
    have := rolled_past was p ns (σ.set nm ((was nm).getD none)) (by simp [Sto.set]; omega)
    exact this.trans (at_set σ nm _ p h)
theorem rolled_small (was : ByteArray → Option (Option (List UInt8))) (hw : ∀ nm, Small ((was nm).getD none)) : ∀ (ns : List ByteArray) (σ : Sto), (∀ n, Small (σ.shows n)) → (∀ c ∈ σ.changes, Small c.2) → (∀ n, Small ((σ.rolled was ns).shows n)) ∧ ∀ c ∈ (σ.rolled was ns).changes, Small c.2
  | [], _, h1, h2 => ⟨h1, h2⟩
  | nm :: ns, σ, h1, h2 => by
    refine rolled_small was hw ns (σ.set nm ((was nm).getD none)) (fun n => ?_) (fun c hc => ?_)
    · show Small (upd σ.shows nm _ n)
      by_cases he : n = nm
      · subst he; rw [upd_same]; exact hw n
      · rw [upd_other _ _ he]; exact h1 n
    · rcases List.mem_append.1 hc with h4 | h4
      · exact h2 c h4
      · rw [List.mem_singleton] at h4; subst h4; exact h1 nm
theorem rolled_mem (was : ByteArray → Option (Option (List UInt8))) : ∀ (ns : List ByteArray) (σ : Sto) (c), c ∈ (σ.rolled was ns).changes → c ∈ σ.changes ∨ c.1 ∈ ns
  | [], _, _, h => .inl h
  | nm :: ns, σ, c, h => by
    rcases rolled_mem was ns (σ.set nm ((was nm).getD none)) c h with h1 | h1
    · rcases List.mem_append.1 h1 with h4 | h4
      · exact .inl h4
      · rw [List.mem_singleton] at h4; subst h4; exact .inr List.mem_cons_self
    · exact .inr (List.mem_cons_of_mem _ h1)

theorem wasOf_mem {cs : List (ByteArray × Option (List UInt8))} {nm : ByteArray} (h : (wasOf cs nm).isSome = true) : ∃ c ∈ cs, c.1 = nm ∧ wasOf cs nm = some c.2 := by
  unfold wasOf at h ⊢
  cases hf : cs.find? (fun c => decide (c.1 = nm)) with
  | none => rw [hf] at h; cases h
  | some c =>
    have := List.find?_some hf
    exact ⟨c, List.mem_of_find?_eq_some hf, by simpa using this, rfl⟩

/-- Both are rolled back. -/
theorem Agree.roll {k m n : Nat} {σ : Sto} {L D : List RC} {O : List (List RC)} {p : Nat} {ns : List ByteArray} (h : Agree k m σ L O) (hD : O[O.length - n]? = some D) (hp : σ.puts[σ.puts.length - n]? = some p) (hn : ns.Nodup)
    (hm : ∀ nm, nm ∈ ns ↔ (wasOf (σ.changes.drop p) nm).isSome = true) : Agree k (m + k) (σ.rolled (wasOf (σ.changes.drop p)) ns) (rollL L D) O := by
  rw [← h.puts] at hp
  obtain ⟨d1, d2, d3⟩ := h.olds _ D p hD hp
  have hpl := h.fair.puts p (List.mem_of_getElem? hp)
  have hmem : ∀ nm ∈ ns, there L nm = true ∧ nm.size ≤ maxLen := fun nm hnm => by
    obtain ⟨c, hc, rfl, _⟩ := wasOf_mem ((hm nm).1 hnm)
    have hc2 := List.mem_of_mem_drop hc
    exact ⟨h.inL c hc2, h.fair.size c hc2⟩
  have hwas : ∀ nm, Small ((wasOf (σ.changes.drop p) nm).getD none) := fun nm => by
    cases hb : (wasOf (σ.changes.drop p) nm).isSome with
    | true =>
      obtain ⟨c, hc, _, e⟩ := wasOf_mem hb
      rw [e]
      exact h.smallC c (List.mem_of_mem_drop hc)
    | false =>
      rw [Option.isSome_eq_false_iff, Option.isNone_iff_eq_none] at hb
      rw [hb]; intro l e; cases e
  have hr := rise_names L _ (rollL_names L D).symm h.rise
  have hth : ∀ n, there (rollL L D) n = there L n := fun n => there_names _ L hr h.rise (rollL_names L D) n
  obtain ⟨s1, s2⟩ := rolled_small _ hwas ns σ h.small h.smallC
  obtain ⟨k1, k2⟩ := rolled_keeps (wasOf (σ.changes.drop p)) ns σ
  have hlen : ns.length ≤ L.length := by
    have := nodup_le ns (L.map (·.1)) hn (fun nm hnm => (there_mem L h.rise nm).1 (hmem nm hnm).1)
    simpa using this
  refine ⟨hr, fun n => ?_, fun n => ?_, by rw [k2]; exact h.puts, fun i E q hi hq => ?_, rolled_fair _ ns σ (fun nm hnm => (hmem nm hnm).2) h.fair, fun c hc => ?_, fun c hc => ?_, by simp [rollL]; exact h.len, ?_, h.nput, fun n => by rw [k1]; exact h.nver n, s1, fun n => by rw [k1]; exact h.smallV n, s2⟩
  · rw [(rollL_says L D h.rise n).1, rolled_at σ p ns hm, ← d2 n, shownIn_says D d1]
    cases hb : there L n with
    | true => rw [if_pos rfl]
    | false =>
      have : there D n = false := by
        cases hb2 : there D n
        · rfl
        · have := d3 n hb2
          rw [hb] at this; cases this
      rw [(says_not D n this).1]; simp
  · rw [(rollL_says L D h.rise n).2, k1, h.vers]
  · rw [k2] at hq
    obtain ⟨a1, a2, a3⟩ := h.olds i E q hi hq
    refine ⟨a1, fun n => ?_, fun n hE => by rw [hth]; exact a3 n hE⟩
    rw [rolled_past _ q ns σ (Nat.le_of_lt (h.fair.puts q (List.mem_of_getElem? hq)))]
    exact a2 n
  · rw [hth]
    rcases rolled_mem _ ns σ c hc with h4 | h4
    · exact h.inL c h4
    · exact (hmem _ h4).1
  · unfold rollL at hc
    obtain ⟨d, hd, rfl⟩ := List.mem_map.1 hc
    exact h.size d hd
  · rw [rolled_length]
    have := h.nch; have := h.len
    omega

/-- Lists without doubles, both in order, of the same names are alike. -/
theorem rising_one : ∀ (a b : List ByteArray), a.Nodup → b.Nodup → Rising a → Rising b → (∀ k, k ∈ a ↔ k ∈ b) → a = b
  | [], [], _, _, _, _, _ => rfl
  | [], y :: b, _, _, _, _, h => by have := (h y).2 List.mem_cons_self; cases this
  | x :: a, [], _, _, _, _, h => by have := (h x).1 List.mem_cons_self; cases this
  | x :: a, y :: b, na, nb, ra, rb, h => by
    have ra' := List.pairwise_cons.1 ra
    have rb' := List.pairwise_cons.1 rb
    have na' := List.nodup_cons.1 na
    have nb' := List.nodup_cons.1 nb
    have e : ∀ z : ByteArray, z.data.toList = z.toList := fun z => (ByteArray.toList_eq z).symm
    have hxy : x = y := by
      rcases List.mem_cons.1 ((h x).1 List.mem_cons_self) with h1 | h1
      · exact h1
      · rcases List.mem_cons.1 ((h y).2 List.mem_cons_self) with h2 | h2
        · exact h2.symm
        · have h3 := rb'.1 x h1
          have h4 := ra'.1 y h2
          rw [e, e] at h3 h4
          exact names_eq (List.le_antisymm h4 h3)
    subst hxy
    rw [rising_one a b na'.2 nb'.2 ra'.2 rb'.2 (fun k => ?_)]
    have hk := h k
    rw [List.mem_cons, List.mem_cons] at hk
    constructor
    · intro hka
      rcases hk.1 (.inr hka) with rfl | h5
      · exact absurd hka na'.1
      · exact h5
    · intro hkb
      rcases hk.2 (.inr hkb) with rfl | h5
      · exact absurd hkb nb'.1
      · exact h5

/-- The names that the document's store tells are the store's. -/
theorem Agree.names {k m : Nat} {σ : Sto} {L : List RC} {O : List (List RC)} (h : Agree k m σ L O) (ns : List ByteArray) (hn : NamesIn σ ns) : ns = namesOf L := by
  obtain ⟨h1, h2, h3⟩ := hn
  have hsub : (L.filter fun c => c.2.1.isSome).Sublist L := List.filter_sublist
  have hr : Rise (L.filter fun c => c.2.1.isSome) := h.rise.sublist hsub
  have hlt : (namesOf L).Pairwise fun a b => a.toList < b.toList := by
    unfold namesOf
    rw [List.pairwise_map]
    exact hr
  refine rising_one ns _ h1 ?_ h3 ?_ (fun n => ?_)
  · exact hlt.imp (fun {a b} hab e => by rw [e] at hab; exact List.lt_irrefl _ hab)
  · exact hlt.imp (fun {a b} hab => by rw [← ByteArray.toList_eq, ← ByteArray.toList_eq]; exact List.le_of_lt hab)
  · rw [h2, ← h.shows]
    unfold namesOf
    rw [List.mem_map]
    constructor
    · intro hs
      have ht : there L n = true := by
        cases hb : there L n
        · rw [(says_not L n hb).1] at hs; cases hs
        · rfl
      obtain ⟨o, hc, ho⟩ := there_place ht
      rw [ho] at hs
      exact ⟨_, List.mem_filter.2 ⟨List.mem_of_getElem? hc, hs⟩, rfl⟩
    · rintro ⟨c, hc, rfl⟩
      obtain ⟨hm, hs⟩ := List.mem_filter.1 hc
      rw [(says_mem L h.rise c hm).1]
      exact hs

end Go.Proofs.Ytbpdmncobeiinaa
