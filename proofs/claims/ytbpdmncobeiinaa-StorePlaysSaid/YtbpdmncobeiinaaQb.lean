/- The store and the document's store, plainly: they agree, whatever is done to both. The condition: as many steps as the law has. -/
import Derived.Test.YtbpdmncobeiinaaQa
import Derived.Test.YtbpdmncobeiinaaWc
namespace Go.Proofs.Ytbpdmncobeiinaa
open Go.RowKit

theorem place_names : ∀ (L M : List RC), L.map (·.1) = M.map (·.1) → ∀ nm, place L nm = place M nm
  | [], [], _, _ => rfl
  | [], _ :: _, h, _ => by simp at h
  | _ :: _, [], h, _ => by simp at h
  | c :: L, d :: M, h, nm => by
    simp only [List.map_cons, List.cons.injEq] at h
    rw [place_cons, place_cons, h.1, place_names L M h.2 nm]

theorem there_names (L M : List RC) (hL : Rise L) (hM : Rise M) (h : L.map (·.1) = M.map (·.1)) (nm : ByteArray) : there L nm = there M nm := by
  rw [Bool.eq_iff_iff, there_mem L hL, there_mem M hM, h]

/-- A short text, or nothing. -/
def Small (o : Option (List UInt8)) : Prop := ∀ l, o = some l → l.length ≤ 300

/-- The two agree, at so many cells and changes. -/
structure Agree (k m : Nat) (σ : Sto) (L : List RC) (O : List (List RC)) : Prop where
  rise : Rise L
  shows : ∀ n, shows_ L n = σ.shows n
  vers : ∀ n, vers_ L n = σ.vers n
  puts : O.length = σ.puts.length
  olds : ∀ (i : Nat) D p, O[i]? = some D → σ.puts[i]? = some p → Rise D ∧ (∀ n, shows_ D n = σ.at_ p n) ∧ ∀ n, there D n = true → there L n = true
  fair : σ.Fair
  inL : ∀ c ∈ σ.changes, there L c.1 = true
  size : ∀ c ∈ L, c.1.size ≤ maxLen
  len : L.length ≤ k
  nch : σ.changes.length ≤ m
  nput : O.length ≤ k
  nver : ∀ n, (σ.vers n).length ≤ k
  small : ∀ n, Small (σ.shows n)
  smallV : ∀ n, ∀ l ∈ σ.vers n, l.length ≤ 300
  smallC : ∀ c ∈ σ.changes, Small c.2

theorem agree0 : Agree 0 0 sto0 [] [] where
  rise := List.Pairwise.nil
  shows n := rfl
  vers n := rfl
  puts := rfl
  olds i D p h := by simp at h
  fair := hist0.fair
  inL c h := by cases h
  size c h := by cases h
  len := Nat.le_refl _
  nch := Nat.le_refl _
  nput := Nat.le_refl _
  nver n := Nat.le_refl _
  small n l h := by cases h
  smallV n l h := by cases h
  smallC c h := by cases h

theorem Agree.mono {k m k' m' : Nat} {σ : Sto} {L : List RC} {O : List (List RC)} (h : Agree k m σ L O) (hk : k ≤ k') (hm : m ≤ m') : Agree k' m' σ L O :=
  { h with len := Nat.le_trans h.len hk, nch := Nat.le_trans h.nch hm, nput := Nat.le_trans h.nput hk, nver := fun n => Nat.le_trans (h.nver n) hk }

theorem fair_set {σ : Sto} (h : σ.Fair) (nm : ByteArray) (o : Option (List UInt8)) (hs : nm.size ≤ maxLen) : (σ.set nm o).Fair where
  puts p hp := by
    have := h.puts p hp
    simp [Sto.set]; omega
  size c hc := by
    rcases List.mem_append.1 hc with h1 | h1
    · exact h.size c h1
    · rw [List.mem_singleton] at h1; subst h1; exact hs
  shown n hn := by
    have hn' : (upd σ.shows nm o n).isSome = true := hn
    show n ∈ (σ.changes ++ [(nm, σ.shows nm)]).map (·.1)
    rw [List.map_append, List.mem_append]
    by_cases he : n = nm
    · subst he; exact .inr (by simp)
    · rw [upd_other _ _ he] at hn'
      exact .inl (h.shown n hn')

theorem there_place {L : List RC} {nm : ByteArray} (h : there L nm = true) : ∃ o, L[place L nm]? = some (nm, o, vers_ L nm) ∧ shows_ L nm = o := by
  obtain ⟨⟨n, o, vs⟩, hc, rfl⟩ := there_some h
  refine ⟨o, ?_, by simp [shows_, h, hc]⟩
  have : vers_ L n = vs := by simp [vers_, h, hc]
  rw [this]; exact hc

/-- Something is set. -/
theorem Agree.set {k m : Nat} {σ : Sto} {L : List RC} {O : List (List RC)} (h : Agree k m σ L O) (nm : ByteArray) (o : Option (List UInt8)) (ht : there L nm = true) (ho : Small o) :
    Agree k (m + 1) (σ.set nm o) (L.set (place L nm) (nm, o, vers_ L nm)) O ∧ (L.set (place L nm) (nm, o, vers_ L nm)).map (·.1) = L.map (·.1) := by
  obtain ⟨o0, hc, _⟩ := there_place ht
  have hn := set_names L (place L nm) _ (nm, o, vers_ L nm) hc rfl
  obtain ⟨h1, h2, h3⟩ := set_says L h.rise (place L nm) _ hc o (vers_ L nm)
  have hth : ∀ n, there (L.set (place L nm) (nm, o, vers_ L nm)) n = there L n := fun n => there_names _ _ h1 h.rise hn n
  have hsz : nm.size ≤ maxLen := h.size _ (List.mem_of_getElem? hc)
  refine ⟨⟨h1, fun n => ?_, fun n => ?_, h.puts, fun i D p hi hp => ?_, fair_set h.fair nm o hsz, fun c hc2 => ?_, fun c hc2 => ?_, by rw [List.length_set]; exact h.len, ?_, h.nput, h.nver, fun n => ?_, h.smallV, fun c hc2 => ?_⟩, hn⟩
  · rw [h2]
    show upd (shows_ L) nm o n = upd σ.shows nm o n
    by_cases he : n = nm
    · subst he; rw [upd_same, upd_same]
    · rw [upd_other _ _ he, upd_other _ _ he, h.shows]
  · rw [h3]
    show upd (vers_ L) nm (vers_ L nm) n = σ.vers n
    by_cases he : n = nm
    · subst he; rw [upd_same, h.vers]
    · rw [upd_other _ _ he, h.vers]
  · obtain ⟨a1, a2, a3⟩ := h.olds i D p hi hp
    refine ⟨a1, fun n => ?_, fun n hD => by rw [hth]; exact a3 n hD⟩
    rw [at_set σ nm o p (Nat.le_of_lt (h.fair.puts p (List.mem_of_getElem? hp)))]
    exact a2 n
  · rw [hth]
    rcases List.mem_append.1 hc2 with h4 | h4
    · exact h.inL c h4
    · rw [List.mem_singleton] at h4; subst h4; exact ht
  · obtain ⟨j, hj⟩ := List.getElem?_of_mem hc2
    rw [List.getElem?_set] at hj
    by_cases he : place L nm = j
    · rw [if_pos he] at hj
      split at hj
      · cases hj; exact hsz
      · cases hj
    · rw [if_neg he] at hj
      exact h.size c (List.mem_of_getElem? hj)
  · have := h.nch
    simp [Sto.set]; omega
  · show Small (upd σ.shows nm o n)
    by_cases he : n = nm
    · subst he; rw [upd_same]; exact ho
    · rw [upd_other _ _ he]; exact h.small n
  · rcases List.mem_append.1 hc2 with h4 | h4
    · exact h.smallC c h4
    · rw [List.mem_singleton] at h4; subst h4; exact h.small nm

theorem set_self {α : Type} (L : List α) (k : Nat) (c : α) (h : L[k]? = some c) : L.set k c = L := by
  apply List.ext_getElem?
  intro j
  rw [List.getElem?_set]
  by_cases he : k = j
  · subst he
    rw [if_pos rfl, if_pos (List.getElem?_eq_some_iff.1 h).1, h]
  · rw [if_neg he]

theorem shows_there {L : List RC} {nm : ByteArray} {l : List UInt8} (h : shows_ L nm = some l) : there L nm = true := by
  cases hb : there L nm
  · rw [(says_not L nm hb).1] at h; cases h
  · rfl
theorem vers_there {L : List RC} {nm : ByteArray} {k : Nat} {l : List UInt8} (h : (vers_ L nm)[k]? = some l) : there L nm = true := by
  cases hb : there L nm
  · rw [(says_not L nm hb).2] at h; simp at h
  · rfl

/-- Two names are swapped. -/
theorem Agree.swap {k m : Nat} {σ : Sto} {L : List RC} {O : List (List RC)} (h : Agree k m σ L O) (n1 n2 : ByteArray) (l1 l2 : List UInt8) (h1 : shows_ L n1 = some l1) (h2 : shows_ L n2 = some l2) :
    Agree k (m + 2) ((σ.set n1 (some l2)).set n2 (some l1)) (swapL L (place L n1) (place L n2) (n1, some l2, vers_ L n1) (n2, some l1, vers_ L n2)) O := by
  have t1 := shows_there h1
  have t2 := shows_there h2
  have s1 : Small (some l1) := by rw [← h1, h.shows]; exact h.small n1
  have s2 : Small (some l2) := by rw [← h2, h.shows]; exact h.small n2
  obtain ⟨g, gn⟩ := h.set n1 (some l2) t1 s2
  have t2' : there (L.set (place L n1) (n1, some l2, vers_ L n1)) n2 = true := by rw [there_names _ L g.rise h.rise gn]; exact t2
  have g2 := (g.set n2 (some l1) t2' s1).1
  rw [place_names _ L gn n2] at g2
  have hv : vers_ (L.set (place L n1) (n1, some l2, vers_ L n1)) n2 = vers_ L n2 := by rw [g.vers, h.vers]; rfl
  rw [hv] at g2
  unfold swapL
  obtain ⟨o1, c1, e1⟩ := there_place t1
  obtain ⟨o2, c2, e2⟩ := there_place t2
  by_cases he : place L n1 = place L n2
  · rw [if_pos he]
    rw [he] at c1 g2
    rw [c1] at c2
    have hnn : n1 = n2 := by cases c2; rfl
    subst hnn
    have hl : l1 = l2 := by rw [h1] at h2; cases h2; rfl
    subst hl
    rw [List.set_set] at g2
    rw [h1] at e1
    subst e1
    rw [set_self L _ _ c1] at g2
    exact g2
  · rw [if_neg he]
    exact g2

/-- Something is put. -/
theorem Agree.put {k m : Nat} {σ : Sto} {L : List RC} {O : List (List RC)} (h : Agree k m σ L O) (nm : ByteArray) (l : List UInt8) (hl : l.length ≤ 300) (hsz : nm.size ≤ maxLen) :
    Agree (k + 1) (m + 1) (σ.put nm l) (putL L nm l) (O ++ [L]) := by
  -- the cells, whichever way
  obtain ⟨M, p, o0, vs0, hM1, hM2, hM3, hM4, hM5, hM6, hM7⟩ : ∃ (M : List RC) (p : Nat) (o0 : Option (List UInt8)) (vs0 : List (List UInt8)), Rise M ∧ M[p]? = some (nm, o0, vs0) ∧ (∀ n, shows_ M n = shows_ L n) ∧ (∀ n, vers_ M n = vers_ L n) ∧
      putL L nm l = M.set p (nm, some l, vers_ L nm ++ [l]) ∧ (∀ n, there L n = true → there M n = true) ∧ M.length ≤ L.length + 1 ∧ ∀ c ∈ M, c.1 = nm ∨ c ∈ L := by
    cases ht : there L nm with
    | true =>
      obtain ⟨o0, hc, _⟩ := there_place ht
      exact ⟨L, place L nm, o0, _, h.rise, hc, fun _ => rfl, fun _ => rfl, by simp [putL, ht], fun _ h => h, by omega, fun c hc => .inr hc⟩
    | false =>
      obtain ⟨i1, i2⟩ := ins_rise L h.rise nm ht
      obtain ⟨i3, i4⟩ := ins_says L h.rise nm ht
      have hg := insL_get L (place L nm) nm (place_le L nm)
      refine ⟨insL L (place L nm) nm, place L nm, none, [], i1, hg, i3, i4, ?_, fun n hn => ?_, ?_, fun c hc => ?_⟩
      · rw [(says_not L nm ht).2]; simp [putL, ht]
      · rw [there_mem _ i1]
        rw [there_mem L h.rise] at hn
        obtain ⟨c, hc, rfl⟩ := List.mem_map.1 hn
        exact List.mem_map_of_mem ((i2 c).2 (.inr hc))
      · have := place_le L nm
        simp [insL]; omega
      · rcases (i2 c).1 hc with rfl | h1
        · exact .inl rfl
        · exact .inr h1
  rw [hM5]
  obtain ⟨h1, h2, h3⟩ := set_says M hM1 p _ hM2 (some l) (vers_ L nm ++ [l])
  simp only at h1 h2 h3
  have hn := set_names M p _ (nm, some l, vers_ L nm ++ [l]) hM2 rfl
  have htM : there M nm = true := (there_mem M hM1 nm).2 (List.mem_map_of_mem (f := fun c : RC => c.1) (List.mem_of_getElem? hM2))
  have hth : ∀ n, there M n = true → there (M.set p (nm, some l, vers_ L nm ++ [l])) n = true := fun n hn2 => by rw [there_names _ M h1 hM1 hn]; exact hn2
  have hfs := fair_set h.fair nm (some l) hsz
  refine ⟨h1, fun n => ?_, fun n => ?_, ?_, fun i D q hi hq => ?_, ⟨fun q hq => ?_, hfs.size, hfs.shown⟩, fun c hc2 => ?_, fun c hc2 => ?_, ?_, ?_, ?_, fun n => ?_, fun n => ?_, fun n l' hl' => ?_, fun c hc2 => ?_⟩
  · rw [h2]
    show upd (shows_ M) nm (some l) n = upd σ.shows nm (some l) n
    by_cases he : n = nm
    · subst he; rw [upd_same, upd_same]
    · rw [upd_other _ _ he, upd_other _ _ he, hM3, h.shows]
  · rw [h3]
    show upd (vers_ M) nm (vers_ L nm ++ [l]) n = upd σ.vers nm (σ.vers nm ++ [l]) n
    by_cases he : n = nm
    · subst he; rw [upd_same, upd_same, h.vers]
    · rw [upd_other _ _ he, upd_other _ _ he, hM4, h.vers]
  · show (O ++ [L]).length = (σ.puts ++ [σ.changes.length]).length
    simp [h.puts]
  · have hq' : (σ.puts ++ [σ.changes.length])[i]? = some q := hq
    have hwas : ∀ q, q ≤ σ.changes.length → (σ.put nm l).at_ q = σ.at_ q := fun q hq => at_put σ nm l q hq
    by_cases hlt : i < O.length
    · rw [List.getElem?_append_left hlt] at hi
      rw [List.getElem?_append_left (by rw [← h.puts]; exact hlt)] at hq'
      obtain ⟨a1, a2, a3⟩ := h.olds i D q hi hq'
      exact ⟨a1, fun n => by rw [hwas q (Nat.le_of_lt (h.fair.puts q (List.mem_of_getElem? hq')))]; exact a2 n, fun n hD => hth n (hM6 n (a3 n hD))⟩
    · rw [List.getElem?_append_right (by omega)] at hi
      rw [List.getElem?_append_right (by rw [← h.puts]; omega), ← h.puts] at hq'
      have h0 : i - O.length = 0 := by
        have := (List.getElem?_eq_some_iff.1 hi).1
        simp at this
        omega
      rw [h0] at hi hq'
      simp at hi hq'
      subst hi; subst hq'
      exact ⟨h.rise, fun n => by rw [hwas _ (Nat.le_refl _), at_end]; exact h.shows n, fun n hD => hth n (hM6 n hD)⟩
  · have hq' : q ∈ σ.puts ++ [σ.changes.length] := hq
    show q < (σ.changes ++ [(nm, σ.shows nm)]).length
    rw [List.length_append, List.length_singleton]
    rcases List.mem_append.1 hq' with h4 | h4
    · have := h.fair.puts q h4; omega
    · rw [List.mem_singleton] at h4; omega
  · have hc3 : c ∈ σ.changes ++ [(nm, σ.shows nm)] := hc2
    rcases List.mem_append.1 hc3 with h4 | h4
    · exact hth _ (hM6 _ (h.inL c h4))
    · rw [List.mem_singleton] at h4; subst h4; exact hth _ htM
  · obtain ⟨j, hj⟩ := List.getElem?_of_mem hc2
    rw [List.getElem?_set] at hj
    by_cases he : p = j
    · rw [if_pos he] at hj
      split at hj
      · cases hj; exact hsz
      · cases hj
    · rw [if_neg he] at hj
      rcases hM7.2 c (List.mem_of_getElem? hj) with h4 | h4
      · rw [h4]; exact hsz
      · exact h.size c h4
  · have := h.len; have := hM7.1; rw [List.length_set]; omega
  · show (σ.changes ++ [(nm, σ.shows nm)]).length ≤ m + 1
    have := h.nch
    simp; omega
  · have := h.nput
    simp; omega
  · show (upd σ.vers nm (σ.vers nm ++ [l]) n).length ≤ k + 1
    have := h.nver n
    by_cases he : n = nm
    · subst he; rw [upd_same]; simp; omega
    · rw [upd_other _ _ he]; omega
  · show Small (upd σ.shows nm (some l) n)
    by_cases he : n = nm
    · subst he; rw [upd_same]; intro l' e; cases e; exact hl
    · rw [upd_other _ _ he]; exact h.small n
  · have hl2 : l' ∈ upd σ.vers nm (σ.vers nm ++ [l]) n := hl'
    by_cases he : n = nm
    · subst he
      rw [upd_same] at hl2
      rcases List.mem_append.1 hl2 with h4 | h4
      · exact h.smallV _ l' h4
      · rw [List.mem_singleton] at h4; subst h4; exact hl
    · rw [upd_other _ _ he] at hl2
      exact h.smallV n l' hl2
  · have hc3 : c ∈ σ.changes ++ [(nm, σ.shows nm)] := hc2
    rcases List.mem_append.1 hc3 with h4 | h4
    · exact h.smallC c h4
    · rw [List.mem_singleton] at h4; subst h4; exact h.small nm

end Go.Proofs.Ytbpdmncobeiinaa
