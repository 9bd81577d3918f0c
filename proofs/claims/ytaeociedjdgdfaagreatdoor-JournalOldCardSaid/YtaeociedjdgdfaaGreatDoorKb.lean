/- What a flat type's cells are, and how a slice of flat elements that came in is read: plain words for the frame of a law. No condition. -/
import Derived.ProofKit
import Derived.OpenShut
import Derived.WalkKit
namespace Go.Proofs.YtaeociedjdgdfaaGreatDoor
open Go.RowKit

/-- The kinds of a cell that bears no address. -/
inductive CK where
  | int (k : IntKind)
  | bool
  | str

def CK.ok : CK → Value → Prop
  | .int k, v => ∃ n, v = .int k n ∧ (Lit.int k n).wf = true
  | .bool, v => ∃ b, v = .bool b
  | .str, v => ∃ s : ByteArray, v = .string s ∧ s.size ≤ maxLen

/-- The cells of a type, one kind each; none: the type bears addresses. -/
def flatFields (one : TypeId → Option (List CK)) : List Field → Nat → Option (List CK)
  | [], _ => some []
  | f :: fs, o => if f.offset = o then (one f.type).bind fun l => (flatFields one fs (o + l.length)).map fun r => l ++ r else none

def flat (P : Program) : Nat → TypeId → Option (List CK)
  | 0, _ => none
  | n + 1, t =>
    match P.underlying t with
    | some .bool => some [.bool]
    | some (.int k) => some [.int k]
    | some .string => some [.str]
    | some (.struct fs) => (flatFields (fun t => (flat P n t).bind fun l => if l.length = P.cellsOf t then some l else none) fs.toList 0).bind fun l => if l.length = P.cellsOf t then some l else none
    | some (.array m e) => (flat P n e).bind fun l => if l.length = P.cellsOf e ∧ P.cellsOf t = m * l.length then some (List.replicate m l).flatten else none
    | _ => none

inductive Oks : List CK → List Value → Prop where
  | nil : Oks [] []
  | cons {k : CK} {ks : List CK} {v : Value} {vs : List Value} (h : k.ok v) (t : Oks ks vs) : Oks (k :: ks) (v :: vs)

theorem Oks.append {a b : List CK} {x y : List Value} (h : Oks a x) (h' : Oks b y) : Oks (a ++ b) (x ++ y) := by
  induction h with
  | nil => exact h'
  | cons h _ ih => exact .cons h ih

theorem Oks.length {a : List CK} {x : List Value} (h : Oks a x) : x.length = a.length := by
  induction h with
  | nil => rfl
  | cons h _ ih => simp [ih]

section
variable {H : Type} {enc : TypeId × Value → H} {P : Program} {w : World} {base : Nat} {spare : Nat → Bool} {held : Bool}

theorem fields_ok (one : TypeId → Option (List CK)) (cs : List Value) (hone : ∀ (f : Field) (l : List CK), one f.type = some l → l.length = P.cellsOf f.type) :
    ∀ (fs : List Field) (o : Nat) (ks : List CK), flatFields one fs o = some ks → cs.length = o + ks.length →
      (∀ f ∈ fs, ∀ l, one f.type = some l → Oks l ((cs.drop f.offset).take (P.cellsOf f.type))) → Oks ks (cs.drop o)
  | [], o, ks, h, hl, _ => by
    simp only [flatFields, Option.some.injEq] at h
    subst h
    rw [List.drop_eq_nil_of_le (by simpa using Nat.le_of_eq hl)]
    exact .nil
  | f :: fs, o, ks, h, hl, hall => by
    unfold flatFields at h
    split at h
    · rename_i ho
      obtain ⟨l, h1, h2⟩ := Option.bind_eq_some_iff.1 h
      obtain ⟨r, h3, h4⟩ := Option.map_eq_some_iff.1 h2
      subst h4
      have hlen := hone f l h1
      have ih := fields_ok one cs hone fs (o + l.length) r h3 (by simp at hl; omega) (fun g hg => hall g (List.mem_cons_of_mem _ hg))
      have h5 := hall f (List.mem_cons_self ..) l h1
      rw [ho, ← hlen] at h5
      have e : cs.drop o = (cs.drop o).take l.length ++ cs.drop (o + l.length) := by
        rw [← List.drop_drop, List.take_append_drop]
      rw [e]
      exact h5.append ih
    · exact absurd h (by simp)

theorem array_ok (cs : List Value) (l : List CK) (m : Nat) (hl : cs.length = m * l.length) (h : ∀ i, i < m → Oks l ((cs.drop (i * l.length)).take l.length)) : Oks (List.replicate m l).flatten cs := by
  induction m generalizing cs with
  | zero =>
    have : cs = [] := List.eq_nil_of_length_eq_zero (by simpa using hl)
    subst this
    exact .nil
  | succ m ih =>
    have h0 := h 0 (by omega)
    simp only [Nat.zero_mul, List.drop_zero] at h0
    have e : cs = cs.take l.length ++ cs.drop l.length := (List.take_append_drop _ _).symm
    rw [List.replicate_succ, List.flatten_cons]
    rw [e]
    refine h0.append (ih (cs.drop l.length) (by simp [hl, Nat.succ_mul]) (fun i hi => ?_))
    have := h (i + 1) (by omega)
    rw [List.drop_drop]
    rwa [show l.length + i * l.length = (i + 1) * l.length by rw [Nat.succ_mul, Nat.add_comm]]

theorem flat_ok (n : Nat) : ∀ (t : TypeId) (ks : List CK) (fuel : Nat) (cs : List Value) (x : DataW H × List MemPlace), flat P n t = some ks → DataW.trod enc P w base spare held fuel t cs = some x → Oks ks cs := by
  induction n with
  | zero => intro t ks fuel cs x h _; simp [flat] at h
  | succ n ih =>
    intro t ks fuel cs x h hx
    unfold flat at h
    split at h
    · rename_i hu
      cases fuel with
      | zero => simp [DataW.trod] at hx
      | succ m =>
        unfold DataW.trod at hx
        rw [hu] at hx
        split at hx <;> simp_all
        subst h
        exact .cons ⟨_, rfl⟩ .nil
    · rename_i hu
      obtain ⟨z, rfl, _, hz⟩ := DataW.trod_int hu hx
      simp only [Option.some.injEq] at h
      subst h
      exact .cons ⟨_, rfl, hz⟩ .nil
    · rename_i hu
      obtain ⟨z, rfl, _, hz⟩ := DataW.trod_string hu hx
      simp only [Option.some.injEq] at h
      subst h
      exact .cons ⟨_, rfl, hz⟩ .nil
    · rename_i fs hu
      obtain ⟨xs, m, rfl, _, hlen, hxs, hall⟩ := DataW.trod_struct hu hx
      obtain ⟨l, h1, h2⟩ := Option.bind_eq_some_iff.1 h
      split at h2
      · rename_i hl
        simp only [Option.some.injEq] at h2
        subst h2
        have := fields_ok (P := P) _ cs (fun f k hk => by
          obtain ⟨k', hk1, hk2⟩ := Option.bind_eq_some_iff.1 hk
          split at hk2
          · simp only [Option.some.injEq] at hk2; subst hk2; assumption
          · simp at hk2) fs.toList 0 l h1 (by rw [hlen, hl]; omega) (fun f hf k hk => by
            obtain ⟨k', hk1, hk2⟩ := Option.bind_eq_some_iff.1 hk
            split at hk2
            · simp only [Option.some.injEq] at hk2
              subst hk2
              obtain ⟨i, hi, rfl⟩ := List.getElem_of_mem hf
              have h3 := hall i (fs[i]'(by simpa using hi)) (by simp at hi; simp [hi])
              have hi' : i < xs.length := by rw [hxs]; simpa using hi
              rw [List.getElem?_eq_getElem hi'] at h3
              exact ih _ _ m _ _ hk1 (by simpa using h3)
            · simp at hk2)
        simpa using this
      · simp at h2
    · rename_i m e hu
      obtain ⟨xs, q, rfl, _, hlen, hxs, hall⟩ := Go.DataW.trod_array hu hx
      obtain ⟨l, h1, h2⟩ := Option.bind_eq_some_iff.1 h
      split at h2
      · rename_i hl
        simp only [Option.some.injEq] at h2
        subst h2
        refine array_ok cs l m (by rw [hlen, hl.2]) (fun i hi => ?_)
        have h3 := hall i hi
        have hi' : i < xs.length := by omega
        rw [List.getElem?_eq_getElem hi', ← hl.1] at h3
        exact ih _ _ q _ _ h1 h3
      · simp at h2
    · simp at h

/-- A slice of flat elements that came in: nothing to read, or cells at a block. -/
def Rowed (w : World) (ks : List CK) (a : Option Addr) (len cap : Nat) : Prop :=
  len ≤ cap ∧ cap ≤ 9223372036854775807 ∧ (a = none → cap = 0) ∧
  (len = 0 ∨ ∃ b o, a = some ⟨b, o, none⟩ ∧ b < w.heap.size ∧
    ∀ i, i < len → ∃ cs : List Value, Oks ks cs ∧ ∀ j v, cs[j]? = some v → w.cell? ⟨b, o + (i * ks.length + j), none⟩ = some v)

theorem cells_at {w : World} {base : Nat} {a : Addr} {n : Nat} {cs : List Value} (h : w.cells? base a n = some cs) : cs.length = n ∧ ∀ j v, cs[j]? = some v → w.cell? (a.add j) = some v := by
  obtain ⟨_, hl, hc⟩ := World.cells?_some h
  refine ⟨hl, fun j v hj => ?_⟩
  have hlt : j < cs.length := (List.getElem?_eq_some_iff.1 hj).1
  rw [hc j (by omega), hj]

theorem rowed_of {t e : TypeId} {fuel n : Nat} {v : Value} {x : DataW H × List MemPlace} {ks : List CK} (ht : P.underlying t = some (.slice e)) (hk : flat P n e = some ks) (hp : ks ≠ []) (hc : P.cellsOf e = ks.length)
    (h : DataW.trod enc P w base spare held fuel t [v] = some x) : ∃ a len cap, v = .slice a len cap ∧ Rowed w ks a len cap := by
  rcases DataW.trod_slice ht h with ⟨h0, _⟩ | ⟨a, len, cap, elems, rest, m, _, h0, _, hb, hl, hm, hlen, hel, _, _⟩
  · simp only [List.cons.injEq, and_true] at h0
    subst h0
    exact ⟨none, 0, 0, rfl, Nat.le_refl _, by decide, fun _ => rfl, .inl rfl⟩
  · simp only [List.cons.injEq, and_true] at h0
    subst h0
    refine ⟨some a, len, cap, rfl, hl, by unfold maxLen at hm; omega, fun h => by simp at h, ?_⟩
    by_cases hz : len = 0
    · exact .inl hz
    · right
      have key : ∀ i, i < len → ∃ cs : List Value, Oks ks cs ∧ ∀ j v, cs[j]? = some v → w.cell? ((a.add (i * ks.length)).add j) = some v := by
        intro i hi
        have h1 := hel i hi
        have hi' : i < elems.length := by omega
        rw [List.getElem?_eq_getElem hi'] at h1
        obtain ⟨cs, h2, h3⟩ := Option.bind_eq_some_iff.1 h1
        rw [hc] at h2
        exact ⟨cs, flat_ok n e ks m cs _ hk h3, (cells_at h2).2⟩
      obtain ⟨b, o, sp⟩ := a
      obtain ⟨cs0, hok0, hc0⟩ := key 0 (by omega)
      have hne : 0 < cs0.length := by
        rw [hok0.length]
        exact List.length_pos_iff.2 hp
      have h0 := hc0 0 cs0[0] (List.getElem?_eq_getElem hne)
      have hsp : sp = none := by simpa [Addr.add] using World.cell?_spot h0
      subst hsp
      refine ⟨b, o, rfl, ?_, fun i hi => ?_⟩
      · simp only [Addr.add_lit] at h0
        rcases Nat.lt_or_ge b w.heap.size with h1 | h1
        · exact h1
        · simp [World.cell?, Array.getElem?_eq_none h1] at h0
      · obtain ⟨cs, h1, h2⟩ := key i hi
        refine ⟨cs, h1, fun j v hj => ?_⟩
        have := h2 j v hj
        rw [Addr.add_lit, Addr.add_lit] at this
        rwa [Nat.add_assoc] at this

end
end Go.Proofs.YtaeociedjdgdfaaGreatDoor
