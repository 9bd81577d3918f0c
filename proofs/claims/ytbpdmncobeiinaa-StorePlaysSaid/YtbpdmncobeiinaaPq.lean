/- Both stores in one world; what one call does to each. The condition: at most sixty steps. -/
import Derived.Test.YtbpdmncobeiinaaPo
import Derived.Test.YtbpdmncobeiinaaPp
namespace Go.Proofs.Ytbpdmncobeiinaa
open Go.RowKit

/-- Both stores, apart, and newer than w0. -/
structure Pair (w0 w : World) (b rb : Nat) (σ : Sto) (x : StoB) (L : List RC) (O : List (List RC)) (y : RefB) : Prop where
  both : Both w b rb σ x L O y
  mod : Mod w0 w Nob
  newS : ∀ k, x.own b k → w0.heap.size ≤ k
  newR : ∀ k, y.own rb k → w0.heap.size ≤ k
  ap1 : ∀ k, x.own b k → ¬ y.foot rb k
  ap2 : ∀ k, y.own rb k → ¬ x.foot b k

theorem Pair.still {w0 w w' : World} {b rb : Nat} {σ : Sto} {x : StoB} {L : List RC} {O : List (List RC)} {y : RefB} (h : Pair w0 w b rb σ x L O y) (hm : Mod w w' Nob) : Pair w0 w' b rb σ x L O y :=
  { h with both := h.both.still hm, mod := h.mod.trans hm }
theorem Pair.footS {w0 w : World} {b rb : Nat} {σ : Sto} {x : StoB} {L : List RC} {O : List (List RC)} {y : RefB} (h : Pair w0 w b rb σ x L O y) : ∀ k, x.foot b k → k < w.heap.size := h.both.s.foot_lt
theorem Pair.footR {w0 w : World} {b rb : Nat} {σ : Sto} {x : StoB} {L : List RC} {O : List (List RC)} {y : RefB} (h : Pair w0 w b rb σ x L O y) : ∀ k, y.foot rb k → k < w.heap.size := h.both.r.foot_lt

theorem Pair.stepS {w0 w w' : World} {b rb : Nat} {σ σ' : Sto} {x : StoB} {L : List RC} {O : List (List RC)} {y : RefB} {v : Value} {e : Ending} (h : Pair w0 w b rb σ x L O y) (hd : DidS w b x v σ' e w') :
    ∃ x', e = .returned v ∧ Pair w0 w' b rb σ' x' L O y ∧ StepS b w x w' x' := by
  obtain ⟨x', he, hs, hst⟩ := hd
  have h0 := h.mod.size
  refine ⟨x', he, ⟨⟨hs, h.both.r.mod hst.mod h.ap1⟩, h.mod.drop hst.mod (fun k hk => .inr (h.newS k hk)), fun k hk => ?_, h.newR, fun k hk hf => ?_, fun k hk hf => ?_⟩, hst⟩
  · rcases hst.own k hk with h1 | h1
    · exact h.newS k h1
    · omega
  · rcases hst.own k hk with h1 | h1
    · exact h.ap1 k h1 hf
    · have := h.footR k hf; omega
  · rcases hst.foot k hf with h1 | h1
    · exact h.ap2 k hk h1
    · have := h.footR k (.inl hk); omega

theorem Pair.stepR {w0 w w' : World} {b rb : Nat} {σ : Sto} {x : StoB} {L L' : List RC} {O O' : List (List RC)} {y : RefB} {v : Value} {e : Ending} (h : Pair w0 w b rb σ x L O y) (hd : DidR w rb y v L' O' e w') :
    ∃ y', e = .returned v ∧ Pair w0 w' b rb σ x L' O' y' ∧ StepR rb w y w' y' := by
  obtain ⟨y', he, hs, hst⟩ := hd
  have h0 := h.mod.size
  refine ⟨y', he, ⟨⟨h.both.s.mod hst.mod h.ap2, hs⟩, h.mod.drop hst.mod (fun k hk => .inr (h.newR k hk)), h.newS, fun k hk => ?_, fun k hk hf => ?_, fun k hk hf => ?_⟩, hst⟩
  · rcases hst.own k hk with h1 | h1
    · exact h.newR k h1
    · omega
  · rcases hst.foot k hf with h1 | h1
    · exact h.ap1 k hk h1
    · have := h.footS k (.inl hk); omega
  · rcases hst.own k hk with h1 | h1
    · exact h.ap2 k h1 hf
    · have := h.footS k hf; omega

/-- .. and a block that is neither's. -/
structure PairO (w0 w : World) (b rb : Nat) (σ : Sto) (x : StoB) (L : List RC) (O : List (List RC)) (y : RefB) (q : Nat) (cs : Array Value) (t : TypeId) : Prop where
  pair : Pair w0 w b rb σ x L O y
  cells : CellsAt w q cs t
  noS : ¬ x.own b q
  noR : ¬ y.own rb q

theorem PairO.still {w0 w w' : World} {b rb : Nat} {σ : Sto} {x : StoB} {L : List RC} {O : List (List RC)} {y : RefB} {q : Nat} {cs : Array Value} {t : TypeId} (h : PairO w0 w b rb σ x L O y q cs t) (hm : Mod w w' Nob) : PairO w0 w' b rb σ x L O y q cs t :=
  ⟨h.pair.still hm, h.cells.mod hm nob, h.noS, h.noR⟩
theorem PairO.stepS {w0 w w' : World} {b rb : Nat} {σ σ' : Sto} {x : StoB} {L : List RC} {O : List (List RC)} {y : RefB} {q : Nat} {cs : Array Value} {t : TypeId} {v : Value} {e : Ending} (h : PairO w0 w b rb σ x L O y q cs t) (hd : DidS w b x v σ' e w') :
    ∃ x', e = .returned v ∧ PairO w0 w' b rb σ' x' L O y q cs t ∧ StepS b w x w' x' := by
  obtain ⟨x', he, hp, hst⟩ := h.pair.stepS hd
  have := h.cells.lt
  refine ⟨x', he, ⟨hp, h.cells.mod hst.mod h.noS, fun hk => ?_, h.noR⟩, hst⟩
  rcases hst.own q hk with h1 | h1
  · exact h.noS h1
  · omega
theorem PairO.stepR {w0 w w' : World} {b rb : Nat} {σ : Sto} {x : StoB} {L L' : List RC} {O O' : List (List RC)} {y : RefB} {q : Nat} {cs : Array Value} {t : TypeId} {v : Value} {e : Ending} (h : PairO w0 w b rb σ x L O y q cs t) (hd : DidR w rb y v L' O' e w') :
    ∃ y', e = .returned v ∧ PairO w0 w' b rb σ x L' O' y' q cs t ∧ StepR rb w y w' y' := by
  obtain ⟨y', he, hp, hst⟩ := h.pair.stepR hd
  have := h.cells.lt
  refine ⟨y', he, ⟨hp, h.cells.mod hst.mod h.noR, h.noS, fun hk => ?_⟩, hst⟩
  rcases hst.own q hk with h1 | h1
  · exact h.noR h1
  · omega

/-- The call of the store is done, that of the document's store will answer alike, and then they agree. -/
def After (k : Nat) (fR : Nat) (aR : Array Value) (w0 : World) (b rb : Nat) (L : List RC) (O : List (List RC)) (y : RefB) (q : Nat) (cs : Array Value) (t : TypeId) (e : Ending) (w1 : World) : Prop :=
  ∃ ok σ' x', e = .returned (.bool ok) ∧ PairO w0 w1 b rb σ' x' L O y q cs t ∧ ∀ w2, PairO w0 w2 b rb σ' x' L O y q cs t →
    Calls Try.prog fR aR w2 fun e' w3 => e' = .returned (.bool ok) ∧ ∃ L' O' y', PairO w0 w3 b rb σ' x' L' O' y' q cs t ∧ Agree (k + 1) (64 * (k + 1)) σ' L' O'

section
variable {k : Nat} {w0 w : World} {b rb : Nat} {σ : Sto} {x : StoB} {L : List RC} {O : List (List RC)} {y : RefB} {q : Nat} {cs : Array Value} {t : TypeId}

/-- Both did nothing. -/
theorem after_no {fR : Nat} {aR : Array Value} {e : Ending} {w1 : World} (h : PairO w0 w b rb σ x L O y q cs t) (ha : Agree k (64 * k) σ L O) (hd : DidS w b x (.bool false) σ e w1) (hr : ∀ W, RefAt W rb L O y → Calls Try.prog fR aR W (Looks W (.bool false))) :
    After k fR aR w0 b rb L O y q cs t e w1 := by
  obtain ⟨x', he, hp, _⟩ := h.stepS hd
  refine ⟨false, σ, x', he, hp, fun w2 h2 => (hr w2 h2.pair.both.r).mono ?_⟩
  rintro e' w3 ⟨rfl, n, rfl⟩
  exact ⟨rfl, L, O, y, h2.still ((Mod.refl w2 Nob).drewN n), ha.mono (by omega) (by omega)⟩
/-- Both did something. -/
theorem after_yes {fR : Nat} {aR : Array Value} {e : Ending} {w1 : World} {σ' : Sto} {L' : List RC} {m : Nat} (h : PairO w0 w b rb σ x L O y q cs t) (hd : DidS w b x (.bool true) σ' e w1) (hm : m ≤ 64 * (k + 1)) (ha : Agree k m σ' L' O)
    (hr : ∀ W, RefAt W rb L O y → Calls Try.prog fR aR W (DidR W rb y (.bool true) L' O)) :
    After k fR aR w0 b rb L O y q cs t e w1 := by
  obtain ⟨x', he, hp, _⟩ := h.stepS hd
  refine ⟨true, σ', x', he, hp, fun w2 h2 => (hr w2 h2.pair.both.r).mono ?_⟩
  rintro e' w3 hd3
  obtain ⟨y', he3, hp3, _⟩ := h2.stepR hd3
  exact ⟨he3, L', O, y', hp3, ha.mono (by omega) hm⟩

theorem twin_replay (h : PairO w0 w b rb σ x L O y q cs t) (ha : Agree k (64 * k) σ L O) (hk : k < 60) (nm : ByteArray) (n : Int) :
    Calls Try.prog 14 #[.pointer (some ⟨b, 0, none⟩), .string nm, .int .i64 n] w (After k 19 #[.pointer (some ⟨rb, 0, none⟩), .string nm, .int .i64 n] w0 b rb L O y q cs t) := by
  have hl := ha.len
  have hc := ha.nch
  by_cases hn : n < 0 ∨ ((σ.vers nm).length : Int) ≤ n
  · refine (replay_no b σ x nm n w h.pair.both.s hn).mono fun e w1 hd => ?_
    exact after_no h ha hd (fun W hW => ref_replay_no rb L O y nm n W hW (by rw [ha.vers]; exact hn))
  · obtain ⟨i, rfl⟩ := Int.eq_ofNat_of_zero_le (show 0 ≤ n by omega)
    obtain ⟨l, hi⟩ : ∃ l, (σ.vers nm)[i]? = some l := ⟨_, List.getElem?_eq_getElem (by omega)⟩
    have hi2 : (vers_ L nm)[i]? = some l := by rw [ha.vers]; exact hi
    refine (replay_yes b σ x nm i l w h.pair.both.s hi (by omega)).mono fun e w1 hd => ?_
    exact after_yes h hd (m := 64 * k + 1) (by omega) (ha.set nm (some l) (vers_there hi2) (fun l' e => by cases e; exact ha.smallV nm l (List.mem_of_getElem? hi))).1 (fun W hW => ref_replay_yes rb L O y nm i l W hW hi2 (by omega))

theorem twin_swap (h : PairO w0 w b rb σ x L O y q cs t) (ha : Agree k (64 * k) σ L O) (hk : k < 60) (n1 n2 : ByteArray) :
    Calls Try.prog 10 #[.pointer (some ⟨b, 0, none⟩), .string n1, .string n2] w (After k 20 #[.pointer (some ⟨rb, 0, none⟩), .string n1, .string n2] w0 b rb L O y q cs t) := by
  have hl := ha.len
  have hc := ha.nch
  cases h1 : σ.shows n1 with
  | none =>
    refine (swap_no b σ x n1 n2 w h.pair.both.s (.inl h1)).mono fun e w1 hd => ?_
    exact after_no h ha hd (fun W hW => ref_swap_no rb L O y n1 n2 W hW (.inl (by rw [ha.shows]; exact h1)))
  | some l1 =>
    cases h2 : σ.shows n2 with
    | none =>
      refine (swap_no b σ x n1 n2 w h.pair.both.s (.inr h2)).mono fun e w1 hd => ?_
      exact after_no h ha hd (fun W hW => ref_swap_no rb L O y n1 n2 W hW (.inr (by rw [ha.shows]; exact h2)))
    | some l2 =>
      have g1 : shows_ L n1 = some l1 := by rw [ha.shows]; exact h1
      have g2 : shows_ L n2 = some l2 := by rw [ha.shows]; exact h2
      refine (swap_yes b σ x n1 n2 l1 l2 w h.pair.both.s h1 h2 (by omega)).mono fun e w1 hd => ?_
      exact after_yes h hd (m := 64 * k + 2) (by omega) (ha.swap n1 n2 l1 l2 g1 g2) (fun W hW => ref_swap_yes rb L O y n1 n2 l1 l2 W hW g1 g2 (by omega))

theorem twin_delete (h : PairO w0 w b rb σ x L O y q cs t) (ha : Agree k (64 * k) σ L O) (hk : k < 60) (nm : ByteArray) :
    Calls Try.prog 12 #[.pointer (some ⟨b, 0, none⟩), .string nm] w (After k 21 #[.pointer (some ⟨rb, 0, none⟩), .string nm] w0 b rb L O y q cs t) := by
  have hl := ha.len
  have hc := ha.nch
  cases h1 : σ.shows nm with
  | none =>
    refine (delete_no b σ x nm w h.pair.both.s h1).mono fun e w1 hd => ?_
    exact after_no h ha hd (fun W hW => ref_delete_no rb L O y nm W hW (by rw [ha.shows]; exact h1))
  | some l =>
    have g1 : shows_ L nm = some l := by rw [ha.shows]; exact h1
    refine (delete_yes b σ x nm l w h.pair.both.s h1 (by omega)).mono fun e w1 hd => ?_
    exact after_yes h hd (m := 64 * k + 1) (by omega) (ha.set nm none (shows_there g1) (fun l' e => by cases e)).1 (fun W hW => ref_delete_yes rb L O y nm l W hW g1 (by omega))

theorem twin_flip (h : PairO w0 w b rb σ x L O y q cs t) (ha : Agree k (64 * k) σ L O) (hk : k < 60) (nm : ByteArray) (n : Int) (hn : n ≤ 9223372036854775807) :
    Calls Try.prog 11 #[.pointer (some ⟨b, 0, none⟩), .string nm, .int .i64 n] w (After k 23 #[.pointer (some ⟨rb, 0, none⟩), .string nm, .int .i64 n] w0 b rb L O y q cs t) := by
  have hl := ha.len
  have hc := ha.nch
  cases h1 : σ.shows nm with
  | none =>
    refine (flip_none b σ x nm n w h.pair.both.s h1).mono fun e w1 hd => ?_
    exact after_no h ha hd (fun W hW => ref_flip_no rb L O y nm n W hW (by rw [ha.shows, h1]; intro l e; cases e) hn)
  | some l =>
    have g1 : shows_ L nm = some l := by rw [ha.shows]; exact h1
    have hsm := ha.small nm l h1
    by_cases hb : n < 0 ∨ (l.length : Int) ≤ n / 8
    · refine (flip_no b σ x nm n l w h.pair.both.s h1 hb hn).mono fun e w1 hd => ?_
      exact after_no h ha hd (fun W hW => ref_flip_no rb L O y nm n W hW (by rw [g1]; intro l' e; cases e; exact hb) hn)
    · obtain ⟨i, rfl⟩ := Int.eq_ofNat_of_zero_le (show 0 ≤ n by omega)
      have hi : i / 8 < l.length := by omega
      refine (flip_yes b σ x nm i l w h.pair.both.s h1 hi (by omega) (by omega)).mono fun e w1 hd => ?_
      exact after_yes h hd (m := 64 * k + 1) (by omega) (ha.set nm (some (flipped l i)) (shows_there g1) (fun l' e => by cases e; simp [flipped]; omega)).1 (fun W hW => ref_flip_yes rb L O y nm i l W hW g1 hi (by omega) (by omega))

theorem reads_did {v : Value} {e : Ending} {w1 : World} (h : PairO w0 w b rb σ x L O y q cs t) (hd : Reads w v e w1) : DidS w b x v σ e w1 := by
  obtain ⟨rfl, rfl⟩ := hd
  exact ⟨x, rfl, h.pair.both.s, StepS.refl b w x⟩

theorem twin_roll (h : PairO w0 w b rb σ x L O y q cs t) (ha : Agree k (64 * k) σ L O) (hk : k < 60) (n : Int) :
    Calls Try.prog 17 #[.pointer (some ⟨b, 0, none⟩), .int .i64 n] w (After k 22 #[.pointer (some ⟨rb, 0, none⟩), .int .i64 n] w0 b rb L O y q cs t) := by
  have hl := ha.len
  have hc := ha.nch
  have hp := ha.puts
  have hO := ha.nput
  by_cases hn : n < 0 ∨ (σ.puts.length : Int) < n
  · refine (roll_no b σ x n w h.pair.both.s hn).mono fun e w1 hd => ?_
    exact after_no h ha (reads_did h hd) (fun W hW => ref_roll_no rb L O y n W hW (by rw [hp]; exact hn))
  · by_cases h0 : n = 0
    · subst h0
      refine (roll_zero b σ x w h.pair.both.s).mono fun e w1 hd => ?_
      refine after_yes (σ' := σ) (L' := L) h (reads_did h hd) (m := 64 * k) (by omega) ha (fun W hW => (ref_roll_zero rb L O y W hW).mono fun e' w' hd' => hd'.did hW)
    · obtain ⟨i, rfl⟩ := Int.eq_ofNat_of_zero_le (show 0 ≤ n by omega)
      obtain ⟨p, hip⟩ : ∃ p, σ.puts[σ.puts.length - i]? = some p := ⟨_, List.getElem?_eq_getElem (by omega)⟩
      obtain ⟨D, hD⟩ : ∃ D, O[O.length - i]? = some D := ⟨_, List.getElem?_eq_getElem (by omega)⟩
      refine (roll_yes b σ x i p w h.pair.both.s ha.fair (by omega) (by omega) (by omega) hip).mono fun e w1 ⟨ns, hns, hmem, hd⟩ => ?_
      exact after_yes h hd (m := 64 * k + k) (by omega) (ha.roll hD hip hns hmem) (fun W hW => ref_roll_yes rb L O y i D W hW (by omega) (by omega) hD (by omega) (by omega))
end

end Go.Proofs.Ytbpdmncobeiinaa
