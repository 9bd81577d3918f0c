/- What the methods of a store that read answer. No condition but what a store holds. -/
import Derived.Test.YtbpdmncobeiinaaSb
namespace Go.Proofs.Ytbpdmncobeiinaa
open Go.RowKit

/-- A method that reads. -/
def Reads (w : World) (v : Value) (e : Ending) (w' : World) : Prop := e = .returned v ∧ w = w'

theorem some_of {w : World} {H : Nat → Prop} {fo : Option Value} {so : Option (List UInt8)} (h : OptHeld w H fo so) : fo.isSome = so.isSome := by
  obtain ⟨_, _, _, _, _, h⟩ := was_of h
  exact h

set_option maxRecDepth 100000 in
set_option maxHeartbeats 400000 in
theorem has_any (b : Nat) (σ : Sto) (x : StoB) (nm : ByteArray) (w : World) (h : StoreAt w b σ x) :
    Calls Try.prog 35 #[.pointer (some ⟨b, 0, none⟩), .string nm] w (Reads w (.bool (σ.shows nm).isSome)) := by
  obtain ⟨f, hf, hf2⟩ := h.shows
  obtain ⟨wa, wn, wc, hwas, hw1, hw2⟩ := was_of (hf2 nm)
  have c0 := h.cells.cell 0
  simp at c0
  go_enter Try.func35, Try.ntmps35
  go_wp2_with (at_lookup; refine wpList_lookup_at rfl _ _ 62 true rfl 9 22 (.slice none 0 0) Try.underlying62 keyS zero_bytes rfl hf nm rfl ?_)
  go_ret
  exact ⟨rfl, rfl⟩

theorem vers_of {w : World} {H : Nat → Prop} {fo : Option Value} {ls : List (List UInt8)} (h : VersHeld w H fo ls) : ∃ a c, fo.getD (.slice none 0 0) = .slice a ls.length c ∧ ls.length ≤ c ∧ c ≤ maxLen ∧
    ∃ us : List Value, RowAt w (.slice a ls.length c) us ∧ (∀ k, inBlock (.slice a ls.length c) k → H k) ∧ us.length = ls.length ∧ ∀ (i : Nat) (u : Value) (l : List UInt8), us[i]? = some u → ls[i]? = some l → Held w H u l := by
  rcases h with ⟨rfl, rfl⟩ | ⟨v, us, rfl, h2, h3, h4, h5⟩
  · exact ⟨none, 0, rfl, Nat.le_refl _, by unfold maxLen; omega, [], RowAt.nil w, fun k hk => by simp [inBlock, Value.ownBlock] at hk, rfl, fun i u l hi => by simp at hi⟩
  · obtain ⟨a, c, rfl, h6, h7⟩ := h2.form
    rw [h4] at h2 h3 h6 ⊢
    exact ⟨a, c, rfl, h6, h7, us, h2, h3, h4, h5⟩

set_option maxRecDepth 100000 in
set_option maxHeartbeats 400000 in
theorem versions_any (b : Nat) (σ : Sto) (x : StoB) (nm : ByteArray) (w : World) (h : StoreAt w b σ x) :
    Calls Try.prog 15 #[.pointer (some ⟨b, 0, none⟩), .string nm] w (Reads w (.int .i64 ((σ.vers nm).length : Int))) := by
  obtain ⟨f, hf, hf2⟩ := h.vers
  obtain ⟨a, c, hv, _⟩ := vers_of (hf2 nm)
  have c1 := h.cells.cell 1
  simp at c1
  go_enter Try.func15, Try.ntmps15
  go_wp2_with (at_lookup; refine wpList_lookup_at rfl _ _ 63 false rfl 9 69 (.slice none 0 0) Try.underlying63 keyS zero_vers rfl hf nm rfl ?_)
  go_ret
  exact ⟨rfl, rfl⟩

set_option maxRecDepth 100000 in
set_option maxHeartbeats 400000 in
theorem writes_any (b : Nat) (σ : Sto) (x : StoB) (w : World) (h : StoreAt w b σ x) :
    Calls Try.prog 18 #[.pointer (some ⟨b, 0, none⟩)] w (Reads w (.int .i64 (σ.puts.length : Int))) := by
  obtain ⟨a, c, hv, _⟩ := owns_form h.puts
  have c3 := h.cells.cell 3
  rw [hv] at c3
  simp at c3
  go_enter Try.func18, Try.ntmps18
  go_wp2
  go_ret
  exact ⟨rfl, rfl⟩

/-- What 'Get' answers. -/
def Got (w : World) (o : Option (List UInt8)) (e : Ending) (w' : World) : Prop :=
  ∃ v', e = .returned (.tuple #[v', .bool o.isSome]) ∧ w'.ownsRow w.heap.size 5 1 v' (o.getD []).length ((o.getD []).map B) ∧ Mod w w' Nob

/-- All that is shown is short. -/
def Sto.short (σ : Sto) : Prop := ∀ nm l, σ.shows nm = some l → l.length ≤ 1099511627776

theorem bytes_of {w : World} {H : Nat → Prop} {o : Option (List UInt8)} {v : Value} (h : ChHeld w H o v) : BytesAt w v (o.getD []) := by
  cases o
  · have hv : v = .slice none 0 0 := h
    rw [hv]
    exact BytesAt.nil w
  · exact h.1

set_option maxRecDepth 100000 in
set_option maxHeartbeats 400000 in
theorem get_any (b : Nat) (σ : Sto) (x : StoB) (nm : ByteArray) (w : World) (h : StoreAt w b σ x) (hs : σ.short) :
    Calls Try.prog 13 #[.pointer (some ⟨b, 0, none⟩), .string nm] w (Got w (σ.shows nm)) := by
  obtain ⟨f, hf, hf2⟩ := h.shows
  obtain ⟨wa, wn, wc, hwas, hw1, hw2⟩ := was_of (hf2 nm)
  have hb := bytes_of hw1
  have hl : ((σ.shows nm).getD []).length ≤ 1099511627776 := by
    cases ho : σ.shows nm with
    | none => simp
    | some l => exact hs nm l ho
  have c0 := h.cells.cell 0
  simp at c0
  go_enter Try.func13, Try.ntmps13
  go_wp2_with (at_lookup; refine wpList_lookup_at rfl _ _ 62 true rfl 9 22 (.slice none 0 0) Try.underlying62 keyS zero_bytes rfl hf nm rfl ?_)
  refine (clone_bytes _ _ w hb hl).mono ?_
  rintro e w1 ⟨v1, rfl, hown, hm, _⟩
  go_wp2_with fail
  go_ret2
  exact ⟨v1, rfl, hown, hm⟩

end Go.Proofs.Ytbpdmncobeiinaa
