/- What New, Delete and Swap of a store do. The condition: fewer than 2^30 changes. -/
import Derived.Test.YtbpdmncobeiinaaSc
namespace Go.Proofs.Ytbpdmncobeiinaa
open Go.RowKit

/-- What a new store is. -/
def NewS (w : World) (e : Ending) (w' : World) : Prop :=
  ∃ b x, e = .returned (.pointer (some ⟨b, 0, none⟩)) ∧ StoreAt w' b sto0 x ∧ Mod w w' Nob ∧ ∀ k, x.foot b k → w.heap.size ≤ k

set_option maxRecDepth 100000 in
set_option maxHeartbeats 400000 in
theorem new_any (w : World) : Calls Try.prog 7 #[] w (NewS w) := by
  have hmm := @run_makeMap Try.prog
  go_enter Try.func7, Try.ntmps7
  go_wp2
  go_ret
  have m1 := MapAt.new Value.string w
  have m2 := MapAt.new Value.string (w.alloc (.map #[] 0))
  have k1 := m1.mod ((Mod.refl _ Nob).alloc (.map #[] 0)) nob
  obtain ⟨c, hc⟩ : ∃ c : Array Value, #[Value.map (some w.heap.size), .map (some (w.heap.size + 1)), .slice none 0 0, .slice none 0 0] = c := ⟨_, rfl⟩
  have l1 := k1.mod ((Mod.refl _ Nob).alloc (.cells c 66)) nob
  have l2 := m2.mod ((Mod.refl _ Nob).alloc (.cells c 66)) nob
  have c1 := CellsAt.new ((w.alloc (.map #[] 0)).alloc (.map #[] 0)) c 66
  simp only [World.size_alloc] at l2 c1
  rw [← hc] at c1 l1 l2
  refine ⟨w.heap.size + 1 + 1, ⟨w.heap.size, w.heap.size + 1, .slice none 0 0, .slice none 0 0, fun _ => False⟩, rfl, ?_, (((Mod.refl w Nob).alloc _).alloc _).alloc _, ?_⟩
  · refine ⟨c1, by simp only; omega, by simp only; omega, by simp only; omega, fun k hk => by simp [inBlock, Value.ownBlock] at hk, fun k hk => by simp [inBlock, Value.ownBlock] at hk, fun k hk => hk.elim,
      ⟨_, l1, fun _ => trivial⟩, ⟨_, l2, fun _ => .inl ⟨rfl, rfl⟩⟩, ⟨[], rfl, fun i c v hi => by simp [sto0] at hi, World.ownsRow_nil _ _ _ _⟩, World.ownsRow_nil _ _ _ _⟩
  · rintro k ((h1 | h1 | h1 | h1 | h1) | h1)
    · omega
    · simp only at h1; omega
    · simp only at h1; omega
    · simp [inBlock, Value.ownBlock] at h1
    · simp [inBlock, Value.ownBlock] at h1
    · exact h1.elim

set_option maxRecDepth 100000 in
set_option maxHeartbeats 400000 in
theorem delete_yes (b : Nat) (σ : Sto) (x : StoB) (nm : ByteArray) (l : List UInt8) (w : World) (h : StoreAt w b σ x) (hs : σ.shows nm = some l) (hn : σ.changes.length < 1073741824) :
    Calls Try.prog 12 #[.pointer (some ⟨b, 0, none⟩), .string nm] w (DidS w b x (.bool true) (σ.set nm none)) := by
  have hh := has_any b σ x nm w h
  rw [hs, Option.isSome_some] at hh
  go_enter Try.func12, Try.ntmps12
  go_wp2_with fail
  refine hh.mono ?_
  rintro e w1 ⟨rfl, rfl⟩
  go_wp2_with fail
  refine (set_none b σ x nm w h hn).mono ?_
  rintro e w1 ⟨x1, rfl, h1, s1⟩
  go_wp2_with fail
  go_ret
  exact ⟨x1, rfl, h1, s1⟩

set_option maxRecDepth 100000 in
set_option maxHeartbeats 400000 in
theorem delete_no (b : Nat) (σ : Sto) (x : StoB) (nm : ByteArray) (w : World) (h : StoreAt w b σ x) (hs : σ.shows nm = none) :
    Calls Try.prog 12 #[.pointer (some ⟨b, 0, none⟩), .string nm] w (DidS w b x (.bool false) σ) := by
  have hh := has_any b σ x nm w h
  rw [hs, Option.isSome_none] at hh
  go_enter Try.func12, Try.ntmps12
  go_wp2_with fail
  refine hh.mono ?_
  rintro e w1 ⟨rfl, rfl⟩
  go_wp2_with fail
  go_ret
  exact ⟨x, rfl, h, StepS.refl _ _ _⟩

/-- What a name shows, as a value. -/
theorem StoreAt.shown {w : World} {b : Nat} {σ : Sto} {x : StoB} {nm : ByteArray} {l : List UInt8} (h : StoreAt w b σ x) (hs : σ.shows nm = some l) :
    ∃ a c, Held w x.held (.slice a l.length c) l ∧ ∀ (W : World) (k : Bool), Mod w W Nob → (Instr.lookup 62 (.map (some x.ms)) (.string nm) k).run Try.prog W = .ok (if k then .tuple #[.slice a l.length c, .bool true] else .slice a l.length c) W := by
  obtain ⟨f, hf, hf2⟩ := h.shows
  have := hf2 nm
  rw [hs] at this
  cases hfn : f nm with
  | none => rw [hfn] at this; exact this.elim
  | some v =>
    rw [hfn] at this
    have h' : Held w x.held v l := this
    obtain ⟨a, c, rfl, _⟩ := h'.1.form
    rw [List.length_map] at *
    refine ⟨a, c, h', fun W k hm => ?_⟩
    have := run_lookup_at (P := Try.prog) (T := 62) Try.underlying62 keyS zero_bytes (hf.mod hm nob) nm k
    rw [hfn] at this
    exact this

set_option maxRecDepth 100000 in
set_option maxHeartbeats 1000000 in
theorem swap_yes (b : Nat) (σ : Sto) (x : StoB) (n1 n2 : ByteArray) (l1 l2 : List UInt8) (w : World) (h : StoreAt w b σ x) (hs1 : σ.shows n1 = some l1) (hs2 : σ.shows n2 = some l2) (hn : σ.changes.length < 1073741823) :
    Calls Try.prog 10 #[.pointer (some ⟨b, 0, none⟩), .string n1, .string n2] w (DidS w b x (.bool true) ((σ.set n1 (some l2)).set n2 (some l1))) := by
  have hh1 := has_any b σ x n1 w h
  have hh2 := has_any b σ x n2 w h
  rw [hs1, Option.isSome_some] at hh1
  rw [hs2, Option.isSome_some] at hh2
  obtain ⟨a1, k1, hv1, hr1⟩ := h.shown hs1
  obtain ⟨a2, k2, hv2, hr2⟩ := h.shown hs2
  have hq1 := fun n => hr1 (w.drewN n) false ((Mod.refl w Nob).drewN n)
  have hq2 := fun n => hr2 (w.drewN n) false ((Mod.refl w Nob).drewN n)
  simp only [Bool.false_eq_true, if_false] at hq1 hq2
  have c0 := h.cells.cell 0
  simp at c0
  clear hr1 hr2
  go_enter Try.func10, Try.ntmps10
  go_wp2_with fail
  refine hh1.mono ?_
  rintro e w1 ⟨rfl, rfl⟩
  go_wp2_with fail
  refine hh2.mono ?_
  rintro e w1 ⟨rfl, rfl⟩
  clear hh1 hh2
  go_wp2_with fail
  go_quiet (fail)
  have hd := (Mod.refl w Nob).drewN nq
  have hg := h.still hd
  clear hq1 hq2 c0
  go_wp2_with fail
  refine (set_some b σ x n1 _ l2 _ hg (hv2.mono hd (fun _ h => h.elim) (fun _ h => h)) (by omega)).mono ?_
  rintro e w1 ⟨x1, rfl, h1, s1⟩
  go_wp2_with fail
  refine (set_some b _ x1 n2 _ l1 _ h1 ((hv1.mono hd (fun _ h => h.elim) (fun _ h => h)).step hg s1) (by simp [Sto.set]; omega)).mono ?_
  rintro e w2 ⟨x2, rfl, h2, s2⟩
  go_wp2_with fail
  go_ret
  exact ⟨x2, rfl, h2, StepS.after hd (s1.trans s2)⟩

set_option maxRecDepth 100000 in
set_option maxHeartbeats 400000 in
theorem swap_no (b : Nat) (σ : Sto) (x : StoB) (n1 n2 : ByteArray) (w : World) (h : StoreAt w b σ x) (hs : σ.shows n1 = none ∨ σ.shows n2 = none) :
    Calls Try.prog 10 #[.pointer (some ⟨b, 0, none⟩), .string n1, .string n2] w (DidS w b x (.bool false) σ) := by
  have hh1 := has_any b σ x n1 w h
  have hh2 := has_any b σ x n2 w h
  by_cases h1 : σ.shows n1 = none
  · rw [h1, Option.isSome_none] at hh1
    go_enter Try.func10, Try.ntmps10
    go_wp2_with fail
    refine hh1.mono ?_
    rintro e w1 ⟨rfl, rfl⟩
    go_wp2_with fail
    go_ret
    exact ⟨x, rfl, h, StepS.refl _ _ _⟩
  · have h2 : σ.shows n2 = none := hs.resolve_left h1
    obtain ⟨l, hl⟩ := Option.ne_none_iff_exists'.1 h1
    rw [hl, Option.isSome_some] at hh1
    rw [h2, Option.isSome_none] at hh2
    clear hs h1
    go_enter Try.func10, Try.ntmps10
    go_wp2_with fail
    refine hh1.mono ?_
    rintro e w1 ⟨rfl, rfl⟩
    go_wp2_with fail
    refine hh2.mono ?_
    rintro e w1 ⟨rfl, rfl⟩
    go_wp2_with fail
    go_ret
    exact ⟨x, rfl, h, StepS.refl _ _ _⟩

end Go.Proofs.Ytbpdmncobeiinaa
