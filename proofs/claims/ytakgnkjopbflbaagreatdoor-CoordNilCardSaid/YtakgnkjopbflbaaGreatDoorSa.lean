/- What a store's memory holds, and what its method 'set' does to it. The condition: fewer than 2^30 changes. -/
import Derived.Test.YtakgnkjopbflbaaGreatDoorBc
namespace Go.Proofs.YtakgnkjopbflbaaGreatDoor
open Go.RowKit

/-- A store, plainly: what each name shows, its versions, the changes (a name, what it showed ahead of it), and of each Put how many changes were ahead of it. -/
structure Sto where
  shows : ByteArray → Option (List UInt8)
  vers : ByteArray → List (List UInt8)
  changes : List (ByteArray × Option (List UInt8))
  puts : List Nat

def sto0 : Sto := ⟨fun _ => none, fun _ => [], [], []⟩

/-- A name is to show something else. -/
def Sto.set (σ : Sto) (nm : ByteArray) (o : Option (List UInt8)) : Sto := { σ with shows := upd σ.shows nm o, changes := σ.changes ++ [(nm, σ.shows nm)] }

/-- Where a store's parts lie: its own blocks, and those that are held and never written to. -/
structure StoB where
  ms : Nat
  mv : Nat
  cv : Value
  pv : Value
  held : Nat → Prop

def StoB.own (x : StoB) (b : Nat) (k : Nat) : Prop := k = b ∨ k = x.ms ∨ k = x.mv ∨ inBlock x.cv k ∨ inBlock x.pv k
/-- All blocks that a store hangs on. -/
def StoB.foot (x : StoB) (b : Nat) (k : Nat) : Prop := x.own b k ∨ x.held k

/-- Bytes in blocks of a set. -/
def Held (w : World) (H : Nat → Prop) (v : Value) (l : List UInt8) : Prop := BytesAt w v l ∧ ∀ k, inBlock v k → H k

def OptHeld (w : World) (H : Nat → Prop) : Option Value → Option (List UInt8) → Prop
  | none, none => True
  | some v, some l => Held w H v l
  | _, _ => False

def VersHeld (w : World) (H : Nat → Prop) (fo : Option Value) (ls : List (List UInt8)) : Prop :=
  (fo = none ∧ ls = []) ∨ ∃ (v : Value) (us : List Value), fo = some v ∧ RowAt w v us ∧ (∀ k, inBlock v k → H k) ∧ us.length = ls.length ∧ ∀ (i : Nat) (u : Value) (l : List UInt8), us[i]? = some u → ls[i]? = some l → Held w H u l

def ChHeld (w : World) (H : Nat → Prop) (o : Option (List UInt8)) (v : Value) : Prop :=
  match o with
  | some l => Held w H v l
  | none => v = .slice none 0 0

def chCells (cs : List (ByteArray × Option (List UInt8))) (vs : List Value) : List Value := ((cs.zip vs).map fun x => [Value.string x.1.1, x.2, .bool x.1.2.isSome]).flatten

structure StoreAt (w : World) (b : Nat) (σ : Sto) (x : StoB) : Prop where
  cells : CellsAt w b #[.map (some x.ms), .map (some x.mv), x.cv, x.pv] 99
  ne1 : b ≠ x.ms
  ne2 : b ≠ x.mv
  ne3 : x.ms ≠ x.mv
  nec : ∀ k, inBlock x.cv k → k ≠ b ∧ k ≠ x.ms ∧ k ≠ x.mv ∧ ¬ inBlock x.pv k
  nep : ∀ k, inBlock x.pv k → k ≠ b ∧ k ≠ x.ms ∧ k ≠ x.mv
  hold : ∀ k, x.held k → k < w.heap.size ∧ ¬ x.own b k
  shows : ∃ f, MapAt .string w x.ms f ∧ ∀ nm, OptHeld w x.held (f nm) (σ.shows nm)
  vers : ∃ f, MapAt .string w x.mv f ∧ ∀ nm, VersHeld w x.held (f nm) (σ.vers nm)
  chs : ∃ vs : List Value, vs.length = σ.changes.length ∧ (∀ (i : Nat) c v, σ.changes[i]? = some c → vs[i]? = some v → ChHeld w x.held c.2 v) ∧ w.ownsRow 0 224 3 x.cv σ.changes.length (chCells σ.changes vs)
  puts : w.ownsRow 0 3 1 x.pv σ.puts.length (σ.puts.map fun (n : Nat) => Value.int .i64 (n : Int))

section
variable {w w' : World} {H H' S : Nat → Prop}

theorem Held.mono {v : Value} {l : List UInt8} (h : Held w H v l) (hm : Mod w w' S) (hS : ∀ k, S k → ¬ H k) (ho : ∀ k, H k → H' k) : Held w' H' v l :=
  ⟨h.1.mod hm (fun k hk hs => hS k hs (h.2 k hk)), fun k hk => ho k (h.2 k hk)⟩

theorem OptHeld.mono {fo : Option Value} {so : Option (List UInt8)} (h : OptHeld w H fo so) (hm : Mod w w' S) (hS : ∀ k, S k → ¬ H k) (ho : ∀ k, H k → H' k) : OptHeld w' H' fo so := by
  cases fo <;> cases so
  · trivial
  · exact h.elim
  · exact h.elim
  · exact Held.mono h hm hS ho

theorem ChHeld.mono {o : Option (List UInt8)} {v : Value} (h : ChHeld w H o v) (hm : Mod w w' S) (hS : ∀ k, S k → ¬ H k) (ho : ∀ k, H k → H' k) : ChHeld w' H' o v := by
  cases o
  · exact h
  · exact Held.mono h hm hS ho

theorem VersHeld.mono {fo : Option Value} {ls : List (List UInt8)} (h : VersHeld w H fo ls) (hm : Mod w w' S) (hS : ∀ k, S k → ¬ H k) (ho : ∀ k, H k → H' k) : VersHeld w' H' fo ls := by
  rcases h with h | ⟨v, us, h1, h2, h3, h4, h5⟩
  · exact .inl h
  · exact .inr ⟨v, us, h1, h2.mod hm (fun k hk hs => hS k hs (h3 k hk)), fun k hk => ho k (h3 k hk), h4, fun i u l hi hj => (h5 i u l hi hj).mono hm hS ho⟩

end

section
variable {w w' : World} {b : Nat} {σ : Sto} {x : StoB} {S : Nat → Prop}

theorem StoreAt.foot_lt (h : StoreAt w b σ x) : ∀ k, x.foot b k → k < w.heap.size := by
  obtain ⟨f, hf, _⟩ := h.shows
  obtain ⟨g, hg, _⟩ := h.vers
  obtain ⟨vs, _, _, hc⟩ := h.chs
  intro k hk
  rcases hk with (rfl | rfl | rfl | hk | hk) | hk
  · exact h.cells.lt
  · exact hf.lt
  · exact hg.lt
  · exact owns_lt hc k hk
  · exact owns_lt h.puts k hk
  · exact (h.hold k hk).1

/-- A store that nobody touches. -/
theorem StoreAt.mod (h : StoreAt w b σ x) (hm : Mod w w' S) (hn : ∀ k, S k → ¬ x.foot b k) : StoreAt w' b σ x := by
  have hS : ∀ k, S k → ¬ x.held k := fun k hk hh => hn k hk (.inr hh)
  have hno : ∀ k, x.own b k → ¬ S k := fun k hk hs => hn k hs (.inl hk)
  obtain ⟨f, hf, hf2⟩ := h.shows
  obtain ⟨g, hg, hg2⟩ := h.vers
  obtain ⟨vs, hv1, hv2, hc⟩ := h.chs
  exact ⟨h.cells.mod hm (hno b (.inl rfl)), h.ne1, h.ne2, h.ne3, h.nec, h.nep, fun k hk => ⟨Nat.lt_of_lt_of_le (h.hold k hk).1 hm.size, (h.hold k hk).2⟩,
    ⟨f, hf.mod hm (hno _ (.inr (.inl rfl))), fun nm => (hf2 nm).mono hm hS (fun _ h => h)⟩,
    ⟨g, hg.mod hm (hno _ (.inr (.inr (.inl rfl)))), fun nm => (hg2 nm).mono hm hS (fun _ h => h)⟩,
    ⟨vs, hv1, fun i c v hi hj => (hv2 i c v hi hj).mono hm hS (fun _ h => h), owns_mod hc hm (fun k hk => hno k (.inr (.inr (.inr (.inl hk)))))⟩,
    owns_mod h.puts hm (fun k hk => hno k (.inr (.inr (.inr (.inr hk)))))⟩

theorem StoreAt.still (h : StoreAt w b σ x) (hm : Mod w w' Nob) : StoreAt w' b σ x := h.mod hm (fun _ h => h.elim)

/-- More blocks may be held. -/
theorem StoreAt.hold_more (h : StoreAt w b σ x) (T : Nat → Prop) (hT : ∀ k, T k → k < w.heap.size ∧ ¬ x.own b k) : StoreAt w b σ { x with held := fun k => x.held k ∨ T k } := by
  have hm := Mod.refl w Nob
  have hS : ∀ k, Nob k → ¬ x.held k := fun k hk => hk.elim
  obtain ⟨f, hf, hf2⟩ := h.shows
  obtain ⟨g, hg, hg2⟩ := h.vers
  obtain ⟨vs, hv1, hv2, hc⟩ := h.chs
  exact ⟨h.cells, h.ne1, h.ne2, h.ne3, h.nec, h.nep, fun k hk => hk.elim (h.hold k) (hT k),
    ⟨f, hf, fun nm => (hf2 nm).mono hm hS (fun _ h => .inl h)⟩, ⟨g, hg, fun nm => (hg2 nm).mono hm hS (fun _ h => .inl h)⟩,
    ⟨vs, hv1, fun i c v hi hj => (hv2 i c v hi hj).mono hm hS (fun _ h => .inl h), hc⟩, h.puts⟩
end

/-- From one store to the next: only its own blocks have turned; what was held is held. -/
structure StepS (b : Nat) (w : World) (x : StoB) (w' : World) (x' : StoB) : Prop where
  mod : Mod w w' (x.own b)
  own : ∀ k, x'.own b k → x.own b k ∨ w.heap.size ≤ k
  held : ∀ k, x.held k → x'.held k
  fresh : ∀ k, x'.held k → x.held k ∨ w.heap.size ≤ k

theorem StepS.refl (b : Nat) (w : World) (x : StoB) : StepS b w x w x := ⟨Mod.refl _ _, fun _ h => .inl h, fun _ h => h, fun _ h => .inl h⟩

theorem StepS.trans {b : Nat} {w w' w'' : World} {x x' x'' : StoB} (h : StepS b w x w' x') (k : StepS b w' x' w'' x'') : StepS b w x w'' x'' :=
  ⟨h.mod.drop k.mod h.own,
   fun i hi => (k.own i hi).elim (h.own i) (fun h1 => .inr (Nat.le_trans h.mod.size h1)),
   fun i hi => k.held i (h.held i hi),
   fun i hi => (k.fresh i hi).elim (h.fresh i) (fun h1 => .inr (Nat.le_trans h.mod.size h1))⟩

/-- Something that has nothing to do with the store was done first. -/
theorem StepS.after {b : Nat} {w w' w'' : World} {x x' : StoB} (h : Mod w w' Nob) (k : StepS b w' x w'' x') : StepS b w x w'' x' :=
  ⟨h.nob.drop k.mod (fun _ h => .inl h), fun i hi => (k.own i hi).imp (fun h => h) (fun h1 => Nat.le_trans h.size h1), k.held, fun i hi => (k.fresh i hi).imp (fun h => h) (fun h1 => Nat.le_trans h.size h1)⟩
theorem StepS.then {b : Nat} {w w' w'' : World} {x x' : StoB} (h : StepS b w x w' x') (k : Mod w' w'' Nob) : StepS b w x w'' x' :=
  ⟨h.mod.drop k (fun _ h => h.elim), h.own, h.held, h.fresh⟩

theorem StepS.foot {b : Nat} {w w' : World} {x x' : StoB} (h : StepS b w x w' x') : ∀ k, x'.foot b k → x.foot b k ∨ w.heap.size ≤ k := by
  rintro k (hk | hk)
  · exact (h.own k hk).imp .inl (fun h => h)
  · exact (h.fresh k hk).imp .inr (fun h => h)

theorem Held.step {b : Nat} {w w' : World} {σ : Sto} {x x' : StoB} {v : Value} {l : List UInt8} (hs : StoreAt w b σ x) (h : Held w x.held v l) (k : StepS b w x w' x') : Held w' x'.held v l :=
  h.mono k.mod (fun i hi hh => (hs.hold i hh).2 hi) k.held

/-- What a method does to a store: it answers, the store is another one, nothing else has turned. -/
def DidS (w : World) (b : Nat) (x : StoB) (v : Value) (σ : Sto) (e : Ending) (w' : World) : Prop :=
  ∃ x', e = .returned v ∧ StoreAt w' b σ x' ∧ StepS b w x w' x'

theorem info_change : (Tryz.prog.info? 224).map (fun i => (i.zero, i.size, i.bytes)) = some (some (.agg #[.string ⟨#[]⟩, .slice none 0 0, .bool false]), 3, 48) := by kernel_rfl
theorem zero_bytes (w : World) : (zeroValue 43).run Tryz.prog w = .ok (.slice none 0 0) w := by kernel_rfl
theorem zero_vers (w : World) : (zeroValue 183).run Tryz.prog w = .ok (.slice none 0 0) w := by kernel_rfl
theorem keyS : KeyOk Tryz.prog 9 Value.string := keyOk_string Tryz.underlying9

end Go.Proofs.YtakgnkjopbflbaaGreatDoor
