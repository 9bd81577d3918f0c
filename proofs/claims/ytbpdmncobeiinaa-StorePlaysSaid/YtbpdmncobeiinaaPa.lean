/- The document's store in memory; where a name stands. No condition. -/
import Derived.Deep.QuietTactic
import Derived.BigQuiet
import Derived.Test.YtbpdmncobeiinaaWb
namespace Go.Proofs.Ytbpdmncobeiinaa
open Go.RowKit

/-- A cell of the document's store, plainly: its name, what it shows, its versions. -/
abbrev RC := ByteArray × Option (List UInt8) × List (List UInt8)

def rcCells (cs : List RC) (vs : List (Value × Value)) : List Value := ((cs.zip vs).map fun x => [Value.string x.1.1, .bool x.1.2.1.isSome, x.2.1, x.2.2]).flatten

def VersRow (w : World) (H : Nat → Prop) (v : Value) (ls : List (List UInt8)) : Prop :=
  ∃ us : List Value, RowAt w v us ∧ (∀ k, inBlock v k → H k) ∧ us.length = ls.length ∧ ∀ (i : Nat) (u : Value) (l : List UInt8), us[i]? = some u → ls[i]? = some l → Held w H u l

def RcAt (w : World) (H : Nat → Prop) (c : RC) (u : Value × Value) : Prop := Held w H u.1 (c.2.1.getD []) ∧ VersRow w H u.2 c.2.2

def RowRc (w : World) (H : Nat → Prop) (v : Value) (cs : List RC) : Prop :=
  ∃ vs : List (Value × Value), vs.length = cs.length ∧ (∀ (i : Nat) c u, cs[i]? = some c → vs[i]? = some u → RcAt w H c u) ∧ w.ownsRow 0 83 4 v cs.length (rcCells cs vs) ∧ ∀ k, inBlock v k → H k

structure RefB where
  lv : Value
  ov : Value
  held : Nat → Prop

def RefB.own (y : RefB) (b : Nat) (k : Nat) : Prop := k = b ∨ inBlock y.ov k
def RefB.foot (y : RefB) (b : Nat) (k : Nat) : Prop := y.own b k ∨ y.held k

structure RefAt (w : World) (b : Nat) (L : List RC) (O : List (List RC)) (y : RefB) : Prop where
  cells : CellsAt w b #[y.lv, y.ov] 48
  ne : ¬ inBlock y.ov b
  hold : ∀ k, y.held k → k < w.heap.size ∧ ¬ y.own b k
  row : RowRc w y.held y.lv L
  olds : ∃ us : List Value, us.length = O.length ∧ (∀ (i : Nat) u o, us[i]? = some u → O[i]? = some o → RowRc w y.held u o) ∧ w.ownsRow 0 45 1 y.ov O.length us

theorem VersRow.mono {w w' : World} {H H' S : Nat → Prop} {v : Value} {ls : List (List UInt8)} (h : VersRow w H v ls) (hm : Mod w w' S) (hS : ∀ k, S k → ¬ H k) (ho : ∀ k, H k → H' k) : VersRow w' H' v ls := by
  obtain ⟨us, h1, h2, h3, h4⟩ := h
  exact ⟨us, h1.mod hm (fun k hk hs => hS k hs (h2 k hk)), fun k hk => ho k (h2 k hk), h3, fun i u l hi hj => (h4 i u l hi hj).mono hm hS ho⟩
theorem RcAt.mono {w w' : World} {H H' S : Nat → Prop} {c : RC} {u : Value × Value} (h : RcAt w H c u) (hm : Mod w w' S) (hS : ∀ k, S k → ¬ H k) (ho : ∀ k, H k → H' k) : RcAt w' H' c u := ⟨h.1.mono hm hS ho, h.2.mono hm hS ho⟩
theorem RowRc.mono {w w' : World} {H H' S : Nat → Prop} {v : Value} {cs : List RC} (h : RowRc w H v cs) (hm : Mod w w' S) (hS : ∀ k, S k → ¬ H k) (ho : ∀ k, H k → H' k) : RowRc w' H' v cs := by
  obtain ⟨vs, h1, h2, h3, h4⟩ := h
  exact ⟨vs, h1, fun i c u hi hj => (h2 i c u hi hj).mono hm hS ho, owns_mod h3 hm (fun k hk hs => hS k hs (h4 k hk)), fun k hk => ho k (h4 k hk)⟩

theorem RefAt.foot_lt {w : World} {b : Nat} {L : List RC} {O : List (List RC)} {y : RefB} (h : RefAt w b L O y) : ∀ k, y.foot b k → k < w.heap.size := by
  obtain ⟨us, _, _, ho⟩ := h.olds
  rintro k ((rfl | hk) | hk)
  · exact h.cells.lt
  · exact (ho.lt k hk).2
  · exact (h.hold k hk).1

theorem RefAt.mod {w w' : World} {S : Nat → Prop} {b : Nat} {L : List RC} {O : List (List RC)} {y : RefB} (h : RefAt w b L O y) (hm : Mod w w' S) (hn : ∀ k, S k → ¬ y.foot b k) : RefAt w' b L O y := by
  have hS : ∀ k, S k → ¬ y.held k := fun k hk hh => hn k hk (.inr hh)
  obtain ⟨us, h1, h2, h3⟩ := h.olds
  exact ⟨h.cells.mod hm (fun hs => hn b hs (.inl (.inl rfl))), h.ne, fun k hk => ⟨Nat.lt_of_lt_of_le (h.hold k hk).1 hm.size, (h.hold k hk).2⟩, h.row.mono hm hS (fun _ h => h),
    us, h1, fun i u o hi hj => (h2 i u o hi hj).mono hm hS (fun _ h => h), owns_mod h3 hm (fun k hk hs => hn k hs (.inl (.inr hk)))⟩
theorem RefAt.still {w w' : World} {b : Nat} {L : List RC} {O : List (List RC)} {y : RefB} (h : RefAt w b L O y) (hm : Mod w w' Nob) : RefAt w' b L O y := h.mod hm (fun _ h => h.elim)

theorem rcCells_get : ∀ (cs : List RC) (vs : List (Value × Value)), vs.length = cs.length → ∀ (i : Nat) c u, cs[i]? = some c → vs[i]? = some u → (rcCells cs vs)[i * 4]? = some (.string c.1) ∧ (rcCells cs vs)[i * 4 + 1]? = some (.bool c.2.1.isSome) ∧ (rcCells cs vs)[i * 4 + 2]? = some u.1 ∧ (rcCells cs vs)[i * 4 + 3]? = some u.2
  | [], _, _, _, _, _, h, _ => by simp at h
  | c0 :: cs, [], h, _, _, _, _, _ => by simp at h
  | c0 :: cs, v0 :: vs, _, 0, c, v, h1, h2 => by simp at h1 h2; subst h1; subst h2; simp [rcCells]
  | c0 :: cs, v0 :: vs, h, i + 1, c, v, h1, h2 => by
    have := rcCells_get cs vs (by simpa using h) i c v (by simpa using h1) (by simpa using h2)
    rw [show (i + 1) * 4 = i * 4 + 4 by omega]
    simpa [rcCells] using this

/-- A cell, read. -/
theorem RowRc.get {w : World} {H : Nat → Prop} {a : Option Addr} {n c : Nat} {cs : List RC} (h : RowRc w H (.slice a n c) cs) (i : Nat) (x : RC) (hi : cs[i]? = some x) :
    ∃ g u, a = some ⟨g, 0, none⟩ ∧ RcAt w H x u ∧ w.cell? ⟨g, i * 4, none⟩ = some (.string x.1) ∧ w.cell? ⟨g, i * 4 + 1, none⟩ = some (.bool x.2.1.isSome) ∧ w.cell? ⟨g, i * 4 + 2, none⟩ = some u.1 ∧ w.cell? ⟨g, i * 4 + 3, none⟩ = some u.2 := by
  obtain ⟨vs, h1, h2, h3, _⟩ := h
  have hlt := (List.getElem?_eq_some_iff.1 hi).1
  obtain ⟨u, hu⟩ : ∃ u, vs[i]? = some u := ⟨_, List.getElem?_eq_getElem (by omega)⟩
  obtain ⟨k0, k1, k2, k3⟩ := rcCells_get cs vs h1 i x u hi hu
  obtain ⟨_, _, hf, _⟩ := owns_form h3
  cases hf
  obtain ⟨g, rfl⟩ : ∃ g, a = some ⟨g, 0, none⟩ := by
    rcases h3.2 with ⟨_, h0⟩ | ⟨g, cap', cur, h0, _⟩
    · omega
    · cases h0; exact ⟨g, rfl⟩
  exact ⟨g, u, rfl, h2 i x u hi hu, own_cell h3 _ _ k0, own_cell h3 _ _ k1, own_cell h3 _ _ k2, own_cell h3 _ _ k3⟩

theorem RowRc.form {w : World} {H : Nat → Prop} {v : Value} {cs : List RC} (h : RowRc w H v cs) : ∃ a c, v = .slice a cs.length c ∧ cs.length ≤ c ∧ c ≤ maxLen := by
  obtain ⟨vs, _, _, h3, _⟩ := h
  exact owns_form h3

def less (a b : ByteArray) : Bool := Op.bytesLess a.toList b.toList
theorem names_eq {a b : ByteArray} (h : a.toList = b.toList) : a = b := by
  have e : ∀ x : ByteArray, x.data.toList = x.toList := fun x => (ByteArray.toList_eq x).symm
  cases a; cases b
  have := (e _).trans (h.trans (e _).symm)
  simp only [ByteArray.mk.injEq]
  exact Array.toList_inj.1 this
/-- Where a name stands, or would stand. -/
def place (cs : List RC) (nm : ByteArray) : Nat := (cs.takeWhile fun c => less c.1 nm).length
def there (cs : List RC) (nm : ByteArray) : Bool := match cs[place cs nm]? with
  | some c => c.1.toList == nm.toList
  | none => false

theorem place_le : ∀ (cs : List RC) (nm : ByteArray), place cs nm ≤ cs.length
  | [], _ => Nat.le_refl _
  | c :: cs, nm => by
    have := place_le cs nm
    unfold place at this ⊢
    rw [List.takeWhile_cons]
    split <;> simp <;> omega
theorem place_less : ∀ (cs : List RC) (nm : ByteArray) (k : Nat), k < place cs nm → ∃ c, cs[k]? = some c ∧ less c.1 nm = true
  | [], _, _, h => by cases h
  | c :: cs, nm, k, h => by
    unfold place at h
    rw [List.takeWhile_cons] at h
    by_cases hc : less c.1 nm = true
    · rw [if_pos hc] at h
      cases k with
      | zero => exact ⟨c, rfl, hc⟩
      | succ k => exact place_less cs nm k (by unfold place; simpa using h)
    · rw [if_neg hc] at h
      cases h
theorem place_not : ∀ (cs : List RC) (nm : ByteArray) (c : RC), cs[place cs nm]? = some c → less c.1 nm = false
  | [], _, _, h => by simp at h
  | c0 :: cs, nm, c, h => by
    unfold place at h
    rw [List.takeWhile_cons] at h
    by_cases hc : less c0.1 nm = true
    · rw [if_pos hc, List.length_cons, List.getElem?_cons_succ] at h
      exact place_not cs nm c h
    · rw [if_neg hc] at h
      simp at h
      subst h
      simpa using hc

/-- It reads, and may draw. -/
def Looks (w : World) (v : Value) (e : Ending) (w' : World) : Prop := e = .returned v ∧ ∃ n, w' = w.drewN n

set_option maxRecDepth 100000 in
set_option maxHeartbeats 1000000 in
theorem at_any (b : Nat) (L : List RC) (O : List (List RC)) (y : RefB) (nm : ByteArray) (w : World) (h : RefAt w b L O y) :
    Calls Try.prog 40 #[.pointer (some ⟨b, 0, none⟩), .string nm] w (Looks w (.tuple #[.int .i64 (place L nm : Nat), .bool (there L nm)])) := by
  obtain ⟨la, lc, hlv, hlc, hcm⟩ := h.row.form
  have c0 := h.cells.cell 0
  have hrow := h.row
  rw [hlv] at c0 hrow
  simp at c0
  have hle := place_le L nm
  unfold maxLen at hcm
  obtain ⟨N, hN⟩ : ∃ N, L.length = N := ⟨_, rfl⟩
  obtain ⟨K, hK⟩ : ∃ K, place L nm = K := ⟨_, rfl⟩
  have hless := place_less L nm
  have hnot := place_not L nm
  have ht : there L nm = match L[place L nm]? with
    | some c => c.1.toList == nm.toList
    | none => false := rfl
  rw [hN] at c0 hrow hle hlc
  rw [hK] at hle hless hnot ht ⊢
  have HN := Lib.hid hN
  clear hN hlv hK
  go_enter Try.func40, Try.ntmps40
  go_wp2_with fail
  go_loop [6] (fun i => ∃ k : Nat, k ≤ K ∧ i = .int .i64 k) (fun i => K - (intOf i).toNat)
  case atStart => exact ⟨0, Nat.zero_le _, rfl⟩
  case round =>
    obtain ⟨k, hk, rfl⟩ := hrel
    by_cases hlt : k < K
    · obtain ⟨c, hc, hcl⟩ := hless k hlt
      obtain ⟨g, u, rfl, _, k0, _⟩ := hrow.get k c hc
      unfold less at hcl
      clear hless hnot ht hrow
      go_wp2_with fail
      exact ⟨⟨k + 1, by omega, by go_num⟩, by simp [intOf]; omega⟩
    · obtain rfl : k = K := by omega
      by_cases hn : k < N
      · obtain ⟨c, hc⟩ : ∃ c, L[k]? = some c := ⟨_, List.getElem?_eq_getElem (by rw [HN.out]; exact hn)⟩
        obtain ⟨g, u, rfl, _, k0, _⟩ := hrow.get k c hc
        have hcl := hnot c hc
        unfold less at hcl
        rw [hc] at ht
        dsimp only at ht
        have HT := Lib.hid ht
        have d0 : decide ((k : Int) < (N : Int)) = true := by simpa using hn
        clear hless hnot ht hrow hc
        rw [HT.out]
        go_wp2_with fail
        go_quiet (fail)
        go_wp2_with fail
        go_ret2
        exact ⟨by rw [HT.out]; rfl, _, rfl⟩
      · have hc : L[k]? = none := List.getElem?_eq_none (by rw [HN.out]; omega)
        rw [hc] at ht
        dsimp only at ht
        have HT := Lib.hid ht
        have d0 : decide ((k : Int) < (N : Int)) = false := by simp; omega
        clear hless hnot ht hrow hc
        rw [HT.out]
        go_wp2_with fail
        go_quiet (fail)
        go_wp2_with fail
        go_ret2
        exact ⟨by rw [HT.out]; rfl, _, rfl⟩

theorem there_some {L : List RC} {nm : ByteArray} (h : there L nm = true) : ∃ c, L[place L nm]? = some c ∧ c.1 = nm := by
  unfold there at h
  cases hc : L[place L nm]? with
  | none => rw [hc] at h; cases h
  | some c =>
    rw [hc] at h
    refine ⟨c, rfl, ?_⟩
    have h2 : (c.1.toList == nm.toList) = true := h
    exact names_eq (by simpa using h2)

/-- The place of a name that shows something. -/
def shownAt (L : List RC) (nm : ByteArray) : Option Nat := if there L nm = true ∧ ((L[place L nm]?).map fun c => c.2.1.isSome) = some true then some (place L nm) else none
def shownVal (L : List RC) (nm : ByteArray) : Value := .int .i64 (match shownAt L nm with
  | some k => (k : Int)
  | none => -1)

set_option maxRecDepth 100000 in
set_option maxHeartbeats 1000000 in
theorem shown_any (b : Nat) (L : List RC) (O : List (List RC)) (y : RefB) (nm : ByteArray) (w : World) (h : RefAt w b L O y) :
    Calls Try.prog 42 #[.pointer (some ⟨b, 0, none⟩), .string nm] w (Looks w (shownVal L nm)) := by
  have ht := at_any b L O y nm w h
  cases hb : there L nm with
  | false =>
    have hs : shownVal L nm = .int .i64 (-1) := by simp [shownVal, shownAt, hb]
    rw [hs]
    rw [hb] at ht
    go_enter Try.func42, Try.ntmps42
    go_wp2_with fail
    refine ht.mono ?_
    rintro e w1 ⟨rfl, n, rfl⟩
    go_wp2_with fail
    go_ret
    exact ⟨rfl, _, rfl⟩
  | true =>
    obtain ⟨c, hc, _⟩ := there_some hb
    rw [hb] at ht
    obtain ⟨o, ho⟩ : ∃ o, c.2.1.isSome = o := ⟨_, rfl⟩
    have hs : shownVal L nm = .int .i64 (bif o then (place L nm : Int) else -1) := by
      unfold shownVal shownAt
      rw [hb, hc]
      simp [ho]
      cases o <;> simp
    rw [hs]
    clear hs hb
    obtain ⟨K, hK⟩ : ∃ K, place L nm = K := ⟨_, rfl⟩
    rw [hK] at ht hc ⊢
    clear hK
    have hKL := (List.getElem?_eq_some_iff.1 hc).1
    obtain ⟨la, lc, hlv, hlc, hcm⟩ := h.row.form
    unfold maxLen at hcm
    go_enter Try.func42, Try.ntmps42
    go_wp2_with fail
    refine ht.mono ?_
    rintro e w1 ⟨rfl, n, rfl⟩
    have h1 := h.still ((Mod.refl w Nob).drewN n)
    have c0 := h1.cells.cell 0
    have hrow := h1.row
    rw [hlv] at c0 hrow
    simp at c0
    obtain ⟨g, u, rfl, _, k0, k1, _⟩ := hrow.get K c hc
    obtain ⟨N, hN⟩ : ∃ N, L.length = N := ⟨_, rfl⟩
    rw [hN] at c0 hKL hlc
    rw [ho] at k1
    clear hrow hlv hN hc ho
    cases o with
    | true =>
      go_wp2_with fail
      go_ret
      exact ⟨rfl, _, rfl⟩
    | false =>
      go_wp2_with fail
      go_ret
      exact ⟨rfl, _, rfl⟩

end Go.Proofs.Ytbpdmncobeiinaa
