/- What the document's store answers: Get, Versions, Writes. No condition but sizes. -/
import Derived.Test.YtbpdmncobeiinaaPa
import Derived.Test.YtbpdmncobeiinaaBb
import Derived.Test.YtbpdmncobeiinaaSc
namespace Go.Proofs.Ytbpdmncobeiinaa
open Go.RowKit

set_option maxRecDepth 100000 in
set_option maxHeartbeats 400000 in
theorem copy_bytes (v : Value) (l : List UInt8) (w : World) (hv : BytesAt w v l) (hl : l.length ≤ 1099511627776) :
    Calls Try.prog 43 #[v] w (Made w l) := by
  obtain ⟨i0, hi, hz0, hz1, hz2⟩ := info_parts info_u8
  go_enter Try.func43, Try.ntmps43
  go_wp2_with (at_builtin; refine wpList_append_row _ rfl _ _ 22 rfl w.heap.size 5 i0 _ 1 Try.underlying22 hi hz0 hz1 hz2 rfl (.slice none 0 0) 0 [] rfl (World.ownsRow_nil _ _ _ _) v (l.map B) rfl hv (bytes_one l) (by simp; unfold maxLen; omega) (by simp; omega) (Nat.le_refl _) ?_)
  intro v' w' hown' hg hn _
  go_wp2
  go_ret
  refine ⟨v', rfl, by simpa using hown', (Mod.refl w Nob).grown hg (fun k hk => by simp [Value.ownBlock] at hk)⟩

def shows_ (L : List RC) (nm : ByteArray) : Option (List UInt8) := if there L nm = true then (L[place L nm]?).bind (fun c => c.2.1) else none
def vers_ (L : List RC) (nm : ByteArray) : List (List UInt8) := if there L nm = true then ((L[place L nm]?).map fun c => c.2.2).getD [] else []

theorem shown_no {L : List RC} {nm : ByteArray} (h : shows_ L nm = none) : shownVal L nm = .int .i64 (-1) := by
  unfold shownVal shownAt
  unfold shows_ at h
  by_cases ht : there L nm = true
  · obtain ⟨c, hc, _⟩ := there_some ht
    rw [if_pos ht, hc] at h
    have h2 : c.2.1 = none := h
    simp [ht, hc, h2]
  · simp [ht]
theorem shown_yes {L : List RC} {nm : ByteArray} {l : List UInt8} (h : shows_ L nm = some l) : ∃ vs, L[place L nm]? = some (nm, some l, vs) ∧ shownVal L nm = .int .i64 (place L nm : Nat) ∧ there L nm = true := by
  unfold shownVal shownAt
  unfold shows_ at h
  by_cases ht : there L nm = true
  · obtain ⟨⟨n, o, vs⟩, hc, hn⟩ := there_some ht
    rw [if_pos ht, hc] at h
    have h2 : o = some l := h
    subst h2
    have hn2 : n = nm := hn
    subst hn2
    exact ⟨vs, hc, by simp [ht, hc], ht⟩
  · rw [if_neg ht] at h; cases h

def Sized (L : List RC) : Prop := ∀ c ∈ L, (c.2.1.getD []).length ≤ 1099511627776

set_option maxRecDepth 100000 in
set_option maxHeartbeats 1000000 in
theorem ref_get (b : Nat) (L : List RC) (O : List (List RC)) (y : RefB) (nm : ByteArray) (w : World) (h : RefAt w b L O y) (hs : Sized L) :
    Calls Try.prog 53 #[.pointer (some ⟨b, 0, none⟩), .string nm] w (Got w (shows_ L nm)) := by
  have ht := shown_any b L O y nm w h
  cases hb : shows_ L nm with
  | none =>
    rw [shown_no hb] at ht
    go_enter Try.func53, Try.ntmps53
    go_wp2_with fail
    refine ht.mono ?_
    rintro e w1 ⟨rfl, n, rfl⟩
    go_wp2_with fail
    go_ret2
    exact ⟨_, rfl, World.ownsRow_nil _ _ _ _, (Mod.refl w Nob).drewN n⟩
  | some l =>
    obtain ⟨vs, hc, he, _⟩ := shown_yes hb
    rw [he] at ht
    clear he hb
    obtain ⟨K, hK⟩ : ∃ K, place L nm = K := ⟨_, rfl⟩
    rw [hK] at ht hc
    clear hK
    have hKL := (List.getElem?_eq_some_iff.1 hc).1
    have hl := hs _ (List.mem_of_getElem? hc)
    simp at hl
    obtain ⟨la, lc, hlv, hlc, hcm⟩ := h.row.form
    unfold maxLen at hcm
    go_enter Try.func53, Try.ntmps53
    go_wp2_with fail
    refine ht.mono ?_
    rintro e w1 ⟨rfl, n, rfl⟩
    have h1 := h.still ((Mod.refl w Nob).drewN n)
    have c0 := h1.cells.cell 0
    have hrow := h1.row
    rw [hlv] at c0 hrow
    simp at c0
    obtain ⟨g, u, rfl, ⟨hu, _⟩, k0, k1, k2, _⟩ := hrow.get K _ hc
    obtain ⟨N, hN⟩ : ∃ N, L.length = N := ⟨_, rfl⟩
    rw [hN] at c0 hKL hlc
    have hub : BytesAt (w.drewN n) u.1 l := hu.1
    clear hrow hlv hN hc hs hu
    go_wp2_with fail
    refine (copy_bytes _ l _ hub hl).mono ?_
    rintro e w2 ⟨v2, rfl, ho, hm⟩
    go_wp2_with fail
    go_ret2
    exact ⟨v2, rfl, ho, ((Mod.refl w Nob).drewN n).trans hm⟩

set_option maxRecDepth 100000 in
set_option maxHeartbeats 1000000 in
theorem ref_versions (b : Nat) (L : List RC) (O : List (List RC)) (y : RefB) (nm : ByteArray) (w : World) (h : RefAt w b L O y) :
    Calls Try.prog 52 #[.pointer (some ⟨b, 0, none⟩), .string nm] w (Looks w (.int .i64 ((vers_ L nm).length : Nat))) := by
  have ht := at_any b L O y nm w h
  cases hb : there L nm with
  | false =>
    have hv : vers_ L nm = [] := by simp [vers_, hb]
    rw [hb] at ht
    rw [hv]
    go_enter Try.func52, Try.ntmps52
    go_wp2_with fail
    refine ht.mono ?_
    rintro e w1 ⟨rfl, n, rfl⟩
    go_wp2_with fail
    go_ret
    exact ⟨rfl, _, rfl⟩
  | true =>
    obtain ⟨c, hc, _⟩ := there_some hb
    have hv : vers_ L nm = c.2.2 := by simp [vers_, hb, hc]
    rw [hb] at ht
    rw [hv]
    clear hv hb
    obtain ⟨M, hM⟩ : ∃ M, c.2.2.length = M := ⟨_, rfl⟩
    rw [hM]
    obtain ⟨K, hK⟩ : ∃ K, place L nm = K := ⟨_, rfl⟩
    rw [hK] at ht hc
    clear hK
    have hKL := (List.getElem?_eq_some_iff.1 hc).1
    obtain ⟨la, lc, hlv, hlc, hcm⟩ := h.row.form
    unfold maxLen at hcm
    go_enter Try.func52, Try.ntmps52
    go_wp2_with fail
    refine ht.mono ?_
    rintro e w1 ⟨rfl, n, rfl⟩
    have h1 := h.still ((Mod.refl w Nob).drewN n)
    have c0 := h1.cells.cell 0
    have hrow := h1.row
    rw [hlv] at c0 hrow
    simp at c0
    obtain ⟨g, u, rfl, ⟨_, us, hu, _, hul, _⟩, k0, k1, k2, k3⟩ := hrow.get K _ hc
    obtain ⟨ua, uc, huf, _, _⟩ := hu.form
    rw [hul, hM] at huf
    rw [huf] at k3
    obtain ⟨N, hN⟩ : ∃ N, L.length = N := ⟨_, rfl⟩
    rw [hN] at c0 hKL hlc
    clear hrow hlv hN hc hu hul huf hM
    go_wp2_with fail
    go_ret
    exact ⟨rfl, _, rfl⟩

set_option maxRecDepth 100000 in
set_option maxHeartbeats 400000 in
theorem ref_writes (b : Nat) (L : List RC) (O : List (List RC)) (y : RefB) (w : World) (h : RefAt w b L O y) :
    Calls Try.prog 51 #[.pointer (some ⟨b, 0, none⟩)] w (Looks w (.int .i64 (O.length : Nat))) := by
  obtain ⟨us, hul, _, ho⟩ := h.olds
  obtain ⟨a, c, hv, _⟩ := owns_form ho
  have c1 := h.cells.cell 1
  rw [hv] at c1
  simp at c1
  go_enter Try.func51, Try.ntmps51
  go_wp2
  go_ret
  exact ⟨rfl, 0, rfl⟩

end Go.Proofs.Ytbpdmncobeiinaa
