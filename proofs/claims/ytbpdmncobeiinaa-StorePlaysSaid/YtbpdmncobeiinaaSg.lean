/- Two texts of bytes held against each other; a program that does something (awake). No condition. -/
import Derived.Test.YtbpdmncobeiinaaSf
import Derived.Laws.IdiomStrings
import Derived.Laws.BytesArg
namespace Go.Proofs.Ytbpdmncobeiinaa
open Go.RowKit

theorem run_text {P : Program} {w : World} {v : Value} {l : List UInt8} (h : BytesAt w v l) (src dst e : TypeId) (hs : P.underlying src = some (.slice e)) (he : P.underlying e = some (.int .u8)) (hd : P.underlying dst = some .string) :
    (convert src dst v).run P w = .ok (.string ⟨l.toArray⟩) w := by
  rcases h with (⟨rfl, hl⟩ | ⟨b, o, cap, rfl, hb, hl, hc, hx⟩) | ⟨hl, a, cap, rfl, hc⟩
  · have hl0 : l = [] := List.map_eq_nil_iff.1 hl
    subst hl0
    exact run_convert_bytes_nil w src e hs he 0 0 dst hd
  · rw [List.length_map]
    refine run_convert_bytes_back w src dst e _ cap l hs he hd (fun j hj => ?_)
    rw [Addr.add_lit]
    exact hx j _ (by simp [List.getElem?_eq_getElem hj, B])
  · have hl0 : l = [] := List.map_eq_nil_iff.1 hl
    subst hl0
    exact run_convert_bytes_back w src dst e a cap [] hs he hd (fun j hj => by simp at hj)

theorem text_eq (l m : List UInt8) : ((⟨l.toArray⟩ : ByteArray) == (⟨m.toArray⟩ : ByteArray)) = decide (l = m) := by
  by_cases h : l = m
  · subst h
    simp only [decide_true]
    exact (MapKept.bytes_beq _ _).2 rfl
  · simp only [h, decide_false]
    cases h2 : ((⟨l.toArray⟩ : ByteArray) == (⟨m.toArray⟩ : ByteArray))
    · rfl
    · have h3 := (MapKept.bytes_beq _ _).1 h2
      simp at h3
      exact absurd h3 h

set_option maxRecDepth 100000 in
set_option maxHeartbeats 400000 in
theorem same_bytes (u v : Value) (l m : List UInt8) (w : World) (hu : BytesAt w u l) (hv : BytesAt w v m) :
    Calls Try.prog 16 #[u, v] w (Reads w (.bool (decide (l = m)))) := by
  have hm : Mod w w.drew Nob := (Mod.refl w Nob).drew
  have t1 := run_text hu 22 9 _ Try.underlying22 Try.underlying5 Try.underlying9
  have t2 := run_text hv 22 9 _ Try.underlying22 Try.underlying5 Try.underlying9
  have t3 := run_text (hu.mod hm (fun _ _ => nob)) 22 9 _ Try.underlying22 Try.underlying5 Try.underlying9
  have t4 := run_text (hv.mod hm (fun _ _ => nob)) 22 9 _ Try.underlying22 Try.underlying5 Try.underlying9
  clear hu hv
  go_enter Try.func16, Try.ntmps16
  go_wp2_with fail
  go_ret
  refine ⟨?_, rfl⟩
  congr 2
  by_cases h : l = m <;> simp [h]

/-- It answers yes, and nothing that was there has turned. -/
def YesN (w : World) (e : Ending) (w' : World) : Prop := e = .returned (.bool true) ∧ Mod w w' Nob

/-- A store that was made since w0. -/
structure Own (w0 w : World) (b : Nat) (σ : Sto) (x : StoB) : Prop where
  at_ : StoreAt w b σ x
  mod : Mod w0 w Nob
  fresh : ∀ k, x.foot b k → w0.heap.size ≤ k

theorem Own.still {w0 w w' : World} {b : Nat} {σ : Sto} {x : StoB} (h : Own w0 w b σ x) (hm : Mod w w' Nob) : Own w0 w' b σ x := ⟨h.at_.still hm, h.mod.trans hm, h.fresh⟩

theorem Own.step {w0 w w' : World} {b : Nat} {σ σ' : Sto} {x : StoB} {v : Value} {e : Ending} (h : Own w0 w b σ x) (hd : DidS w b x v σ' e w') : ∃ x', e = .returned v ∧ Own w0 w' b σ' x' := by
  obtain ⟨x', he, hs, hk⟩ := hd
  exact ⟨x', he, hs, h.mod.drop hk.mod (fun k hk => .inr (h.fresh k (.inl hk))), fun k hk' => (hk.foot k hk').elim (h.fresh k) (fun h1 => Nat.le_trans h.mod.size h1)⟩

theorem Own.new {w w' : World} {e : Ending} (h : NewS w e w') : ∃ b x, e = .returned (.pointer (some ⟨b, 0, none⟩)) ∧ Own w w' b sto0 x := by
  obtain ⟨b, x, he, hs, hm, hf⟩ := h
  exact ⟨b, x, he, hs, hm, hf⟩

theorem short0 : sto0.short := fun nm l h => by cases h
theorem short_set {σ : Sto} {nm : ByteArray} {l : List UInt8} (h : σ.short) (hl : l.length ≤ 1099511627776) : (σ.set nm (some l)).short := fun n l' hs => by
  have hs' : upd σ.shows nm (some l) n = some l' := hs
  by_cases hn : n = nm
  · subst hn; rw [upd_same] at hs'; cases hs'; exact hl
  · rw [upd_other _ _ hn] at hs'; exact h n l' hs'
theorem short_none {σ : Sto} {nm : ByteArray} (h : σ.short) : (σ.set nm none).short := fun n l' hs => by
  have hs' : upd σ.shows nm none n = some l' := hs
  by_cases hn : n = nm
  · subst hn; rw [upd_same] at hs'; cases hs'
  · rw [upd_other _ _ hn] at hs'; exact h n l' hs'
theorem short_put {σ : Sto} {nm : ByteArray} {l : List UInt8} (h : σ.short) (hl : l.length ≤ 1099511627776) : (σ.put nm l).short := fun n l' hs => short_set (nm := nm) h hl n l' hs

def aName : ByteArray := ⟨#[97]⟩

set_option maxRecDepth 100000 in
set_option maxHeartbeats 1000000 in
theorem awake_store (w : World) : Calls Try.prog 8 #[] w (YesN w) := by
  go_enter Try.func8, Try.ntmps8
  go_wp2_with fail
  refine (new_any w).mono ?_
  rintro e w1 h0
  obtain ⟨b, x, rfl, h1⟩ := Own.new h0
  clear h0
  go_wp2_with fail
  have hv : BytesAt (w1.alloc (.cells #[.int .u8 1] 5)) (.slice (some ⟨w1.heap.size, 0, none⟩) 1 1) [1] := by
    have hc := CellsAt.new w1 #[.int .u8 1] 5
    exact .inl (.inr ⟨w1.heap.size, 0, 1, rfl, hc.lt, by simp, by unfold maxLen; omega, fun i u hi => by rw [Nat.zero_add, hc.cell i]; simpa [B] using hi⟩)
  have h2 := h1.still ((Mod.refl w1 Nob).alloc (.cells #[.int .u8 1] 5))
  refine (put_any b sto0 x aName _ [1] _ h2.at_ hv (by simp) (by simp [sto0]) (by simp [sto0]) (by simp [sto0])).mono ?_
  rintro e w2 hd
  obtain ⟨x2, rfl, h3⟩ := h2.step hd
  have hs3 := short_put (nm := aName) (l := [1]) short0 (by simp)
  have e3 : (sto0.put aName [1]).shows aName = some [1] := upd_same sto0.shows aName (some [1])
  have p3 : (sto0.put aName [1]).puts.length = 1 := rfl
  obtain ⟨σ, hσ⟩ : ∃ σ, sto0.put aName [1] = σ := ⟨_, rfl⟩
  rw [hσ] at h3 hs3 e3 p3
  clear hσ hd hv h1 h2
  go_wp2_with fail
  have hg := get_any b σ x2 aName w2 h3.at_ hs3
  rw [e3] at hg
  refine hg.mono ?_
  rintro e w3 ⟨v3, rfl, hown, hm3⟩
  have h4 := h3.still hm3
  obtain ⟨a3, c3, rfl, _⟩ := owns_form hown
  clear hown hg
  go_wp2_with fail
  have hw := writes_any b σ x2 w3 h4.at_
  rw [p3] at hw
  refine hw.mono ?_
  rintro e w4 ⟨rfl, rfl⟩
  go_wp2_with fail
  go_ret
  exact ⟨rfl, h4.mod⟩

end Go.Proofs.Ytbpdmncobeiinaa
