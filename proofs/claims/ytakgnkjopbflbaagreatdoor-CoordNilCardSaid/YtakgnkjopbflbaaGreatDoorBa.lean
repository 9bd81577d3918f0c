/- Small words for walks over objects in memory: which blocks may have turned, what a block of cells, a row and a map hold. No condition. -/
import Derived.WalkKit
import Derived.WalkSpells
import Derived.BigQuiet
import Derived.Deep.QuietTactic
import Derived.StillTailTactics
import Derived.Lib.Hide
import Derived.RangeFuncOwn
import Derived.Maps.OwnOps
import Derived.Maps.OwnSet
namespace Go.Proofs.YtakgnkjopbflbaaGreatDoor
open Go.RowKit

/-- Of what was there, nothing but the blocks of a set has turned. -/
structure Mod (w w' : World) (S : Nat → Prop) : Prop where
  os : w'.os = w.os
  tape : w'.tape = w.tape
  output : w'.output = w.output
  size : w.heap.size ≤ w'.heap.size
  block : ∀ k, k < w.heap.size → ¬ S k → w'.heap[k]? = w.heap[k]?

/-- No block. -/
def Nob (_ : Nat) : Prop := False
theorem nob {b : Nat} : ¬ Nob b := fun h => h

theorem Mod.refl (w : World) (S : Nat → Prop) : Mod w w S := ⟨rfl, rfl, rfl, Nat.le_refl _, fun _ _ _ => rfl⟩

theorem Mod.trans {a b c : World} {S : Nat → Prop} (h : Mod a b S) (k : Mod b c S) : Mod a c S :=
  ⟨k.os.trans h.os, k.tape.trans h.tape, k.output.trans h.output, Nat.le_trans h.size k.size,
   fun i hi hn => (k.block i (Nat.lt_of_lt_of_le hi h.size) hn).trans (h.block i hi hn)⟩

/-- A block that is new since the beginning need not be named. -/
theorem Mod.drop {a b c : World} {S T : Nat → Prop} (h : Mod a b S) (k : Mod b c T) (hs : ∀ x, T x → S x ∨ a.heap.size ≤ x) : Mod a c S :=
  ⟨k.os.trans h.os, k.tape.trans h.tape, k.output.trans h.output, Nat.le_trans h.size k.size,
   fun i hi hn => (k.block i (Nat.lt_of_lt_of_le hi h.size) (fun hm => by
      rcases hs i hm with h1 | h1
      · exact hn h1
      · omega)).trans (h.block i hi hn)⟩

theorem Mod.wide {a b : World} {S T : Nat → Prop} (h : Mod a b S) (hs : ∀ k, S k → T k ∨ a.heap.size ≤ k) : Mod a b T :=
  ⟨h.os, h.tape, h.output, h.size, fun i hi hn => h.block i hi (fun hm => by
    rcases hs i hm with h1 | h1
    · exact hn h1
    · omega)⟩

theorem Mod.nob {a b : World} {T : Nat → Prop} (h : Mod a b Nob) : Mod a b T := h.wide (fun _ h => h.elim)

theorem Mod.drew {a w : World} {S : Nat → Prop} (h : Mod a w S) : Mod a w.drew S := ⟨h.os, h.tape, h.output, h.size, h.block⟩
theorem Mod.drewN {a w : World} {S : Nat → Prop} (h : Mod a w S) (n : Nat) : Mod a (w.drewN n) S := ⟨h.os, h.tape, h.output, h.size, h.block⟩

theorem Mod.grown {a w w' : World} {S : Nat → Prop} {row : Option Nat} (h : Mod a w S) (hg : w.grownBy w' row) (hr : ∀ k, row = some k → S k ∨ a.heap.size ≤ k) : Mod a w' S :=
  ⟨hg.os.trans h.os, hg.tape.trans h.tape, hg.output.trans h.output, Nat.le_trans h.size hg.size, fun k hk hn => by
    rw [hg.block k (Nat.lt_of_lt_of_le hk h.size) (fun e => by rcases hr k e.symm with h1 | h1; exact hn h1; omega)]
    exact h.block k hk hn⟩

theorem Mod.setCell {a w : World} {S : Nat → Prop} (h : Mod a w S) {p : Addr} (hp : S p.block ∨ a.heap.size ≤ p.block) (u : Value) : Mod a (w.setCell p u) S :=
  ⟨h.os, h.tape, h.output, by simpa [World.setCell] using h.size, fun k hk hn => by
    rw [Below.heap_setCell _ _ _ _ (by rintro rfl; rcases hp with h1 | h1; exact hn h1; omega)]
    exact h.block k hk hn⟩

theorem Mod.putObj {a w : World} {S : Nat → Prop} (h : Mod a w S) {b : Nat} (hp : S b ∨ a.heap.size ≤ b) (o : Obj) : Mod a (w.putObj b o) S :=
  h.grown (grownBy_putObj' w b o) (fun k e => by cases e; exact hp)

theorem Mod.alloc {a w : World} {S : Nat → Prop} (h : Mod a w S) (o : Obj) : Mod a (w.alloc o) S :=
  ⟨h.os, h.tape, h.output, by have := h.size; simp; omega, fun k hk hn => by
    rw [Below.heap_alloc _ _ _ (by have := h.size; omega)]
    exact h.block k hk hn⟩

theorem Mod.below {w w' : World} {S : Nat → Prop} {B : Nat} (h : Mod w w' S) (hB : B ≤ w.heap.size) (hb : ∀ k, S k → B ≤ k) : Below B w w' :=
  ⟨h.os, h.tape, h.output, h.size, fun k hk => h.block k (by omega) (fun hm => by have := hb k hm; omega)⟩
theorem Mod.belowN {w w' : World} (h : Mod w w' Nob) : Below w.heap.size w w' := h.below (Nat.le_refl _) (fun _ h => h.elim)

theorem heap_lt {w : World} {b : Nat} {o : Obj} (h : w.heap[b]? = some o) : b < w.heap.size := by
  rcases Nat.lt_or_ge b w.heap.size with h1 | h1
  · exact h1
  · rw [Array.getElem?_eq_none h1] at h; cases h

theorem Mod.keep {w w' : World} {S : Nat → Prop} (h : Mod w w' S) {b : Nat} {o : Obj} (hb : w.heap[b]? = some o) (hn : ¬ S b) : w'.heap[b]? = some o := by
  rw [h.block b (heap_lt hb) hn, hb]

theorem Mod.cell {w w' : World} {S : Nat → Prop} (h : Mod w w' S) {b o : Nat} (hb : b < w.heap.size) (hn : ¬ S b) : w'.cell? ⟨b, o, none⟩ = w.cell? ⟨b, o, none⟩ :=
  World.cell?_of_block (w := w) (h.block b hb hn)

theorem cell_lt {w : World} {b o : Nat} {v : Value} (h : w.cell? ⟨b, o, none⟩ = some v) : b < w.heap.size := by
  rcases Nat.lt_or_ge b w.heap.size with h1 | h1
  · exact h1
  · simp [World.cell?, Array.getElem?_eq_none h1] at h

/-! A block of cells, known whole, nothing of it frozen. -/
def CellsAt (w : World) (b : Nat) (cs : Array Value) (t : TypeId) : Prop := w.heap[b]? = some (.cells cs t (0, 0))

section
variable {w w' : World} {b : Nat} {cs : Array Value} {t : TypeId} {S : Nat → Prop}
theorem CellsAt.cell (h : CellsAt w b cs t) (i : Nat) : w.cell? ⟨b, i, none⟩ = cs[i]? := by
  unfold CellsAt at h
  simp [World.cell?, h]
theorem CellsAt.free (h : CellsAt w b cs t) (i : Nat) : w.frozen? ⟨b, i, none⟩ = false := by
  unfold CellsAt at h
  simp [World.frozen?, h]
theorem CellsAt.lt (h : CellsAt w b cs t) : b < w.heap.size := heap_lt h
theorem CellsAt.set (h : CellsAt w b cs t) (i : Nat) (v : Value) : CellsAt (w.setCell ⟨b, i, none⟩ v) b (cs.setIfInBounds i v) t := by
  unfold CellsAt at h ⊢
  simp only [World.setCell, Array.getElem?_modify, if_true]
  rw [h]; rfl
theorem CellsAt.mod (h : CellsAt w b cs t) (hm : Mod w w' S) (hn : ¬ S b) : CellsAt w' b cs t := hm.keep h hn
theorem CellsAt.new (w : World) (cs : Array Value) (t : TypeId) : CellsAt (w.alloc (.cells cs t (0, 0))) w.heap.size cs t := by
  show (w.heap.push (.cells cs t (0, 0)))[w.heap.size]? = _
  simp
theorem CellsAt.alloc (h : CellsAt w b cs t) (o : Obj) : CellsAt (w.alloc o) b cs t := h.mod ((Mod.refl w Nob).alloc o) nob
end

/-! A slice's elements of one cell each, read: the value, what it holds. -/
def RowAt (w : World) (v : Value) (xs : List Value) : Prop :=
  (v = .slice none 0 0 ∧ xs = []) ∨
  ∃ b o cap, v = .slice (some ⟨b, o, none⟩) xs.length cap ∧ b < w.heap.size ∧ xs.length ≤ cap ∧ cap ≤ maxLen ∧ ∀ i x, xs[i]? = some x → w.cell? ⟨b, o + i, none⟩ = some x

/-- The block that a slice value leads to. -/
def inBlock (v : Value) (k : Nat) : Prop := v.ownBlock = some k

theorem RowAt.nil (w : World) : RowAt w (.slice none 0 0) [] := .inl ⟨rfl, rfl⟩

theorem RowAt.mod {w w' : World} {S : Nat → Prop} {v : Value} {xs : List Value} (h : RowAt w v xs) (hm : Mod w w' S) (hn : ∀ k, inBlock v k → ¬ S k) : RowAt w' v xs := by
  rcases h with h | ⟨b, o, cap, rfl, hb, hl, hc, hx⟩
  · exact .inl h
  · exact .inr ⟨b, o, cap, rfl, Nat.lt_of_lt_of_le hb hm.size, hl, hc, fun i x hi => by rw [hm.cell hb (hn b rfl)]; exact hx i x hi⟩

theorem RowAt.lt {w : World} {v : Value} {xs : List Value} (h : RowAt w v xs) : ∀ k, inBlock v k → k < w.heap.size := by
  rcases h with ⟨rfl, _⟩ | ⟨b, o, cap, rfl, hb, _⟩
  · intro k hk; simp [inBlock, Value.ownBlock] at hk
  · intro k hk
    simp [inBlock, Value.ownBlock] at hk
    omega

/-- What a slice is, by its parts. -/
theorem RowAt.form {w : World} {v : Value} {xs : List Value} (h : RowAt w v xs) : ∃ a cap, v = .slice a xs.length cap ∧ xs.length ≤ cap ∧ cap ≤ maxLen := by
  rcases h with ⟨rfl, rfl⟩ | ⟨b, o, cap, rfl, hb, hl, hc, _⟩
  · exact ⟨none, 0, rfl, Nat.le_refl _, by unfold maxLen; omega⟩
  · exact ⟨_, cap, rfl, hl, hc⟩

theorem RowAt.of_owns {w : World} {base : Nat} {e : TypeId} {v : Value} {n : Nat} {xs : List Value} (h : w.ownsRow base e 1 v n xs) : RowAt w v xs := by
  obtain ⟨hl, h | ⟨g, cap, cur, rfl, _, hg, hn, hc, hs, ht⟩⟩ := h
  · obtain ⟨rfl, rfl⟩ := h
    exact .inl ⟨rfl, List.eq_nil_of_length_eq_zero (by simpa using hl)⟩
  · have hl' : xs.length = n := by simpa using hl
    subst hl'
    refine .inr ⟨g, 0, cap, rfl, heap_lt hg, hn, hc, fun i x hx => ?_⟩
    have hi : i < xs.length := (List.getElem?_eq_some_iff.1 hx).1
    simp only [Nat.mul_one] at ht hs
    rw [← ht] at hx
    rw [List.getElem?_take_of_lt hi] at hx
    simp [World.cell?, hg]
    simpa using hx

theorem owns_form {w : World} {base : Nat} {e : TypeId} {size : Nat} {v : Value} {n : Nat} {xs : List Value} (h : w.ownsRow base e size v n xs) : ∃ a c, v = .slice a n c ∧ n ≤ c ∧ c ≤ maxLen := by
  rcases h.2 with ⟨rfl, rfl⟩ | ⟨g, cap, cur, rfl, _, _, h1, h2, _⟩
  · exact ⟨none, 0, rfl, Nat.le_refl _, by unfold maxLen; omega⟩
  · exact ⟨_, cap, rfl, h1, h2⟩

/-- A row of the call's own that is not empty, opened. -/
theorem owns_open {w : World} {base : Nat} {e : TypeId} {v : Value} {n : Nat} {xs : List Value} (h : w.ownsRow base e 1 v n xs) (h0 : 0 < n) :
    ∃ g cap, v = .slice (some ⟨g, 0, none⟩) n cap ∧ base ≤ g ∧ g < w.heap.size ∧ (∀ (i : Nat) x, xs[i]? = some x → w.cell? ⟨g, i, none⟩ = some x) ∧ ∀ i : Nat, w.frozen? ⟨g, i, none⟩ = false := by
  obtain ⟨hl, h | ⟨g, cap, cur, rfl, hb, hg, hn, hc, hs, ht⟩⟩ := h
  · omega
  · simp only [Nat.mul_one] at ht hs hl
    refine ⟨g, cap, rfl, hb, heap_lt hg, fun i x hx => ?_, fun i => by simp [World.frozen?, hg]⟩
    have hi : i < xs.length := (List.getElem?_eq_some_iff.1 hx).1
    rw [← ht, List.getElem?_take_of_lt (by omega)] at hx
    simp [World.cell?, hg]
    simpa using hx

/-- .. one of its cells written. -/
theorem owns_set {w : World} {base : Nat} {e : TypeId} {g cap n : Nat} {xs : List Value} (h : w.ownsRow base e 1 (.slice (some ⟨g, 0, none⟩) n cap) n xs) (q : Nat) (u : Value) :
    (w.setCell ⟨g, q, none⟩ u).ownsRow base e 1 (.slice (some ⟨g, 0, none⟩) n cap) n (xs.set q u) := by
  obtain ⟨hl, ⟨h, _⟩ | ⟨g', cap', cur, h, hb, hg, hn, hc, hs, ht⟩⟩ := h
  · cases h
  · cases h
    refine ⟨by simpa using hl, .inr ⟨g, cap, cur.setIfInBounds q u, rfl, hb, ?_, hn, hc, by simpa using hs, ?_⟩⟩
    · simp only [World.setCell, Array.getElem?_modify, if_true]
      rw [hg]; rfl
    · rw [← ht, Array.toList_setIfInBounds, List.take_set]

/-- Bytes as cells. -/
def B (x : UInt8) : Value := .int .u8 (x.toNat : Int)

/-- .. or a slice that came in: it may be empty and lead anywhere. -/
def RowIn (w : World) (v : Value) (xs : List Value) : Prop := RowAt w v xs ∨ (xs = [] ∧ ∃ a cap, v = .slice (some a) 0 cap ∧ cap ≤ maxLen)

theorem RowIn.mod {w w' : World} {S : Nat → Prop} {v : Value} {xs : List Value} (h : RowIn w v xs) (hm : Mod w w' S) (hn : ∀ k, inBlock v k → ¬ S k) : RowIn w' v xs := h.imp (fun h => h.mod hm hn) (fun h => h)
theorem RowIn.form {w : World} {v : Value} {xs : List Value} (h : RowIn w v xs) : ∃ a cap, v = .slice a xs.length cap ∧ xs.length ≤ cap ∧ cap ≤ maxLen := by
  rcases h with h | ⟨rfl, a, cap, rfl, h⟩
  · exact h.form
  · exact ⟨_, _, rfl, Nat.zero_le _, h⟩

abbrev BytesAt (w : World) (v : Value) (l : List UInt8) : Prop := RowIn w v (l.map B)
theorem BytesAt.nil (w : World) : BytesAt w (.slice none 0 0) [] := .inl (RowAt.nil w)
theorem BytesAt.of_owns {w : World} {base : Nat} {e : TypeId} {v : Value} {n : Nat} {l : List UInt8} (h : w.ownsRow base e 1 v n (l.map B)) : BytesAt w v l := .inl (RowAt.of_owns h)

/-! An append onto a row of the call's own: where the new row lies. -/
section
variable {P : Program} (w : World)

theorem run_append_at (t ty e : TypeId) (i : TypeInfo) (z : Value) (size bytes : Nat) (ht : P.underlying t = some (.slice e)) (hi : P.info? e = some i) (hz : i.zero = some z)
    (hsize : i.size = size) (hby : i.bytes = bytes) (hzs : z.cells.size = size) (hsz : 0 < size) (base : Nat)
    (v : Value) (n : Nat) (xs : List Value) (hown : w.ownsRow base e size v n xs) (a : Addr) (m c : Nat) (news : List Value) (hl : news.length = m * size)
    (hnews : ∀ j u, news[j]? = some u → w.cell? (a.add j) = some u) (h1 : ∀ u ∈ news, u.oneCell' = true) (h63 : n + m ≤ maxLen) (hbytes : (n + m) * bytes ≤ 140737488355328) (hbase : base ≤ w.heap.size) :
    ∃ v' w', (Builtin.append_ #[t, t] ty #[v, .slice (some a) m c]).run P w = .ok v' w' ∧ w'.ownsRow base e size v' (n + m) (xs ++ news) ∧ w.grownBy w' v.ownBlock ∧
      (v' = .slice none 0 0 ↔ v = .slice none 0 0 ∧ m = 0) ∧ ∀ k, inBlock v' k → inBlock v k ∨ w.heap.size ≤ k := by
  obtain ⟨v', w', hrun, r1, r2, r3⟩ := run_append_own (P := P) w base t ty e i z size bytes ht hi hz hsize hby hzs hsz v n xs hown a m c news hl hnews h1 h63 hbytes hbase
  refine ⟨v', w', hrun, r1, r2, r3, fun k hk => ?_⟩
  have hs63 : n + m ≤ 9223372036854775807 := by unfold maxLen at h63; omega
  rcases hown.2 with ⟨rfl, rfl⟩ | ⟨g, cap, cur, rfl, hbg, hg, hnc, hcm, hcs, htake⟩
  · have hx : xs = [] := List.eq_nil_of_length_eq_zero (by simpa using hown.1)
    subst hx
    obtain ⟨v2, w2, hrun2, r4, _⟩ := run_append_own (P := P) w w.heap.size t ty e i z size bytes ht hi hz hsize hby hzs hsz (.slice none 0 0) 0 [] (World.ownsRow_nil _ _ _ _) a m c news hl hnews h1 h63 hbytes (Nat.le_refl _)
    rw [hrun] at hrun2
    cases hrun2
    exact .inr (r4.lt k hk).1
  · by_cases hroom : n + m ≤ cap
    · have hr := run_append_room (P := P) w t ty e i ht hi g n cap cur hg a m c news (by rw [hsize]; exact hl) hnews h1 hroom (by rw [hl, hcs, hsize, ← Nat.add_mul]; exact Nat.mul_le_mul_right _ hroom)
      rw [hr] at hrun
      cases hrun
      exact .inl hk
    · have hr := run_append_grow (P := P) w t ty e i z ht hi hz ⟨g, 0, none⟩ n cap xs (by rw [hsize]; exact hown.1) (hown.cells (g := g) rfl) a m c news (by rw [hsize]; exact hl) hnews (by omega) (by omega) (growslice_fits (by omega) (by rw [hby]; exact hbytes))
      rw [hr] at hrun
      cases hrun
      simp [inBlock, Value.ownBlock] at hk
      right; omega

/-- .. of what a slice of one-cell elements holds. -/
theorem run_append_row (base : Nat) (t ty e : TypeId) (i : TypeInfo) (z : Value) (bytes : Nat) (ht : P.underlying t = some (.slice e)) (hi : P.info? e = some i) (hz : i.zero = some z)
    (hsize : i.size = 1) (hby : i.bytes = bytes) (hzs : z.cells.size = 1)
    (v : Value) (n : Nat) (xs : List Value) (hown : w.ownsRow base e 1 v n xs) (u : Value) (ys : List Value) (hsrc : RowIn w u ys) (h1 : ∀ y ∈ ys, y.oneCell' = true)
    (h63 : n + ys.length ≤ maxLen) (hbytes : (n + ys.length) * bytes ≤ 140737488355328) (hbase : base ≤ w.heap.size) :
    ∃ v' w', (Builtin.append_ #[t, t] ty #[v, u]).run P w = .ok v' w' ∧ w'.ownsRow base e 1 v' (n + ys.length) (xs ++ ys) ∧ w.grownBy w' v.ownBlock ∧ (v' = .slice none 0 0 ↔ v = .slice none 0 0 ∧ ys.length = 0) ∧
      ∀ k, inBlock v' k → inBlock v k ∨ w.heap.size ≤ k := by
  rcases hsrc with (⟨rfl, rfl⟩ | ⟨b, o, cap, rfl, hb, hl, hc, hx⟩) | ⟨rfl, ad, cap, rfl, hc⟩
  · exact ⟨v, w, run_append_owned_none (P := P) w base t ty e i 1 ht hi v n xs hown, by simpa using hown, World.grownBy.refl _ _, by simp, fun k hk => .inl hk⟩
  · exact run_append_at w t ty e i z 1 bytes ht hi hz hsize hby hzs (by decide) base v n xs hown ⟨b, o, none⟩ ys.length cap ys (by simp) (fun j x hj => by rw [Addr.add_lit]; exact hx j x hj) h1 h63 hbytes hbase
  · exact run_append_at w t ty e i z 1 bytes ht hi hz hsize hby hzs (by decide) base v n xs hown ad 0 cap [] (by simp) (fun j x hj => by simp at hj) h1 h63 hbytes hbase

section
variable {ops : Array Oper} {rest : List Oper} {o : Oper} {a : Act} {Q : Exit → Act → World → Prop}

/-- An append whose run is known. -/
theorem wpList_append_run (hg : o.guard = none) (s x : Operand) (t1 t2 : TypeId)
    (hop : o.op = Op.call { callee := Callee.builtin Builtin.append, args := #[s, x], argTypes := #[t1, t2] }) (u v : Value) (hs : a.eval s = u) (hx : a.eval x = v) (y : Value) (w' : World)
    (hrun : (Builtin.append_ #[t1, t2] o.type #[u, v]).run P w = .ok y w') (hK : wpList P ops Q rest (a.put o.dst y) w') : wpList P ops Q (o :: rest) a w := by
  refine wpList_plain hg fun K hK' => ?_
  unfold Oper.wp
  simp [execOp, hop, resolve, invoke, builtin, hs, hx, hrun, Result.andThen]
  exact hK' _ _ hK

theorem wpList_append_row (hg : o.guard = none) (s x : Operand) (t : TypeId)
    (hop : o.op = Op.call { callee := Callee.builtin Builtin.append, args := #[s, x], argTypes := #[t, t] })
    (base : Nat) (e : TypeId) (i : TypeInfo) (z : Value) (bytes : Nat) (ht : P.underlying t = some (.slice e)) (hi : P.info? e = some i) (hz : i.zero = some z)
    (hsize : i.size = 1) (hby : i.bytes = bytes) (hzs : z.cells.size = 1)
    (v : Value) (n : Nat) (xs : List Value) (hs : a.eval s = v) (hown : w.ownsRow base e 1 v n xs) (u : Value) (ys : List Value) (hx : a.eval x = u) (hsrc : RowIn w u ys) (h1 : ∀ y ∈ ys, y.oneCell' = true)
    (h63 : n + ys.length ≤ maxLen) (hbytes : (n + ys.length) * bytes ≤ 140737488355328) (hbase : base ≤ w.heap.size)
    (hK : ∀ v' w', w'.ownsRow base e 1 v' (n + ys.length) (xs ++ ys) → w.grownBy w' v.ownBlock → (v' = .slice none 0 0 ↔ v = .slice none 0 0 ∧ ys.length = 0) → (∀ k, inBlock v' k → inBlock v k ∨ w.heap.size ≤ k) → wpList P ops Q rest (a.put o.dst v') w') :
    wpList P ops Q (o :: rest) a w := by
  obtain ⟨v', w', hrun, r1, r2, r3, r4⟩ := run_append_row (P := P) w base t o.type e i z bytes ht hi hz hsize hby hzs v n xs hown u ys hsrc h1 h63 hbytes hbase
  exact wpList_append_run w hg s x t t hop v u hs hx v' w' hrun (hK v' w' r1 r2 r3 r4)

/-- .. of one element of several cells. -/
theorem wpList_append_one (hg : o.guard = none) (s x : Operand) (t : TypeId)
    (hop : o.op = Op.call { callee := Callee.builtin Builtin.append, args := #[s, x], argTypes := #[t, t] })
    (base : Nat) (e : TypeId) (i : TypeInfo) (z : Value) (size bytes : Nat) (ht : P.underlying t = some (.slice e)) (hi : P.info? e = some i) (hz : i.zero = some z)
    (hsize : i.size = size) (hby : i.bytes = bytes) (hzs : z.cells.size = size) (hsz : 0 < size)
    (v : Value) (n : Nat) (xs : List Value) (hs : a.eval s = v) (hown : w.ownsRow base e size v n xs) (g c : Nat) (news : List Value) (te : TypeId) (hx : a.eval x = .slice (some ⟨g, 0, none⟩) 1 c)
    (hl : news.length = size) (hnews : CellsAt w g news.toArray te) (h1 : ∀ u ∈ news, u.oneCell' = true)
    (h63 : n + 1 ≤ maxLen) (hbytes : (n + 1) * bytes ≤ 140737488355328) (hbase : base ≤ w.heap.size)
    (hK : ∀ v' w', w'.ownsRow base e size v' (n + 1) (xs ++ news) → w.grownBy w' v.ownBlock → (∀ k, inBlock v' k → inBlock v k ∨ w.heap.size ≤ k) → wpList P ops Q rest (a.put o.dst v') w') :
    wpList P ops Q (o :: rest) a w := by
  obtain ⟨v', w', hrun, r1, r2, _, r4⟩ := run_append_at (P := P) w t o.type e i z size bytes ht hi hz hsize hby hzs hsz base v n xs hown ⟨g, 0, none⟩ 1 c news (by rw [hl, Nat.one_mul])
    (fun j u hj => by rw [Addr.add_lit, Nat.zero_add, hnews.cell j]; simpa using hj) h1 h63 hbytes hbase
  exact wpList_append_run w hg s x t t hop v _ hs hx v' w' hrun (hK v' w' r1 r2 r4)
end
end

section
variable {P : Program} (w : World)

/-- An append for which there is no room: a new row. -/
theorem run_append_fresh (t ty e : TypeId) (i : TypeInfo) (z : Value) (bytes : Nat) (ht : P.underlying t = some (.slice e)) (hi : P.info? e = some i) (hz : i.zero = some z)
    (hsize : i.size = 1) (hby : i.bytes = bytes) (hzs : z.cells.size = 1) (a : Option Addr) (c : Nat) (xs : List Value) (hv : RowAt w (.slice a xs.length c) xs) (g c' : Nat) (y : Value) (te : TypeId) (hnews : CellsAt w g #[y] te)
    (hroom : c < xs.length + 1) (h63 : xs.length + 1 ≤ maxLen) (hbytes : (xs.length + 1) * bytes ≤ 140737488355328) :
    ∃ v' w', (Builtin.append_ #[t, t] ty #[.slice a xs.length c, .slice (some ⟨g, 0, none⟩) 1 c']).run P w = .ok v' w' ∧ w'.ownsRow w.heap.size e 1 v' (xs.length + 1) (xs ++ [y]) ∧ w.grownBy w' none := by
  have hnc : ∀ j u, [y][j]? = some u → w.cell? ((⟨g, 0, none⟩ : Addr).add j) = some u := fun j u hj => by rw [Addr.add_lit, Nat.zero_add, hnews.cell j]; simpa using hj
  have hs63 : xs.length + 1 ≤ 9223372036854775807 := by unfold maxLen at h63; omega
  have done : ∀ old, (w.drew.alloc (.cells (xs.toArray ++ [y].toArray ++ Builtin.zeroCells z.cells (grownCap w (xs.length + 1) old e - (xs.length + 1))) e)).ownsRow w.heap.size e 1 (.slice (some ⟨w.heap.size, 0, none⟩) (xs.length + 1) (grownCap w (xs.length + 1) old e)) (xs.length + 1) (xs ++ [y]) ∧
      w.grownBy (w.drew.alloc (.cells (xs.toArray ++ [y].toArray ++ Builtin.zeroCells z.cells (grownCap w (xs.length + 1) old e - (xs.length + 1))) e)) none := fun old => by
    have hge := grownCap_ge w (xs.length + 1) old e
    have hcm := grownCap_le_maxLen w (xs.length + 1) old e h63
    refine ⟨⟨by simp, .inr ⟨w.heap.size, _, _, rfl, Nat.le_refl _, World.alloc_heap_new w.drew _, hge, hcm, ?_, ?_⟩⟩, ⟨rfl, rfl, rfl, by simp, fun k hk _ => Below.heap_alloc w.drew _ k hk⟩⟩
    · simp only [Array.size_append, List.size_toArray, Builtin.zeroCells, Array.size_map, Array.size_range, hzs]
      simp only [List.length_cons, List.length_nil]
      omega
    · rw [Array.toList_append, Array.toList_append]
      rw [show xs.length + 1 = (xs.toArray.toList ++ [y].toArray.toList).length by simp, Nat.mul_one, List.take_left]
  rcases hv with ⟨h1, rfl⟩ | ⟨b, o, cap, h1, hb, hl, hc, hx⟩
  · simp only [List.length_nil, Value.slice.injEq, true_and] at h1
    obtain ⟨rfl, rfl⟩ := h1
    have hr := run_append_nil (P := P) w t ty e i z ht hi hz ⟨g, 0, none⟩ 1 c' [y] (by rw [hsize]; rfl) hnc (by omega) (by omega) (by rw [hby]; simp at hbytes; omega)
    have hd := done 0
    simp only [List.length_nil, Nat.zero_add, List.nil_append, Array.empty_append] at hd hr ⊢
    exact ⟨_, _, hr, hd⟩
  · simp only [Value.slice.injEq, true_and] at h1
    obtain ⟨rfl, rfl⟩ := h1
    have hr := run_append_grow (P := P) w t ty e i z ht hi hz ⟨b, o, none⟩ xs.length c xs (by rw [hsize]; simp) (fun j v hj => by rw [Addr.add_lit]; exact hx j v hj) ⟨g, 0, none⟩ 1 c' [y] (by rw [hsize]; rfl) hnc (by omega) (by omega) (growslice_fits (by omega) (by rw [hby]; exact hbytes))
    exact ⟨_, _, hr, done c⟩
end

/-! A map whose keys are coded by 'enc': as a list of entries (key, value, when it was born). -/
def ents {K : Type} (enc : K → Value) (es : List (K × Value × Nat)) : Array MapEntry := (es.map fun x => (⟨enc x.1, x.2.1, x.2.2⟩ : MapEntry)).toArray

section maps
variable {K : Type} [DecidableEq K]

def look (es : List (K × Value × Nat)) (k : K) : Option Value := (es.find? fun x => decide (x.1 = k)).map fun x => x.2.1

/-- Block b of w is a map that shows f. -/
def MapAt (enc : K → Value) (w : World) (b : Nat) (f : K → Option Value) : Prop :=
  ∃ es clock, w.heap[b]? = some (.map (ents enc es) clock) ∧ (es.map (·.1)).Nodup ∧ (es.map (·.2.2)).Nodup ∧ (∀ x ∈ es, x.2.2 < clock) ∧ ∀ k, f k = look es k

/-- What is asked of a key's type. -/
structure KeyOk (P : Program) (T : TypeId) (enc : K → Value) : Prop where
  check : ∀ (e : Bool) (k : K) (w : World), (Instr.checkKey e 10000 T (enc k)).run P w = .ok () w
  same : ∀ k, Instr.sameBits 10000 (enc k) (enc k) = true
  find : ∀ (k : K) (es : List (K × Value × Nat)) (w : World), (Instr.findKey T (enc k) (ents enc es).toList).run P w = .ok ((es.findIdx? fun x => decide (x.1 = k)).bind fun i => (es[i]?).map fun x => (i, x.2.1)) w

theorem MapAt.mod {enc : K → Value} {w w' : World} {b : Nat} {f : K → Option Value} {S : Nat → Prop} (h : MapAt enc w b f) (hm : Mod w w' S) (hn : ¬ S b) : MapAt enc w' b f := by
  obtain ⟨es, clock, hb, h1⟩ := h
  exact ⟨es, clock, hm.keep hb hn, h1⟩
theorem MapAt.lt {enc : K → Value} {w : World} {b : Nat} {f : K → Option Value} (h : MapAt enc w b f) : b < w.heap.size := by
  obtain ⟨es, clock, hb, _⟩ := h
  exact heap_lt hb
theorem MapAt.new (enc : K → Value) (w : World) : MapAt enc (w.alloc (.map #[] 0)) w.heap.size (fun _ => none) :=
  ⟨[], 0, by show (w.heap.push _)[w.heap.size]? = _; simp [ents], by simp, by simp, by simp, fun _ => rfl⟩

theorem map_eraseIdx {α β : Type} (g : α → β) (l : List α) (i : Nat) : (l.eraseIdx i).map g = (l.map g).eraseIdx i := by
  induction l generalizing i with
  | nil => simp
  | cons x l ih => cases i <;> simp [ih]

theorem look_of_idx {es : List (K × Value × Nat)} {k : K} : look es k = (es.findIdx? fun x => decide (x.1 = k)).bind fun i => (es[i]?).map fun x => x.2.1 := by
  unfold look
  rw [List.find?_eq_bind_findIdx?_getElem?]
  cases es.findIdx? fun x => decide (x.1 = k) <;> simp

/-- A function turned at one place. -/
def upd {β : Type} (f : K → β) (k : K) (v : β) : K → β := fun k' => if k' = k then v else f k'
theorem upd_same {β : Type} (f : K → β) (k : K) (v : β) : upd f k v k = v := if_pos rfl
theorem upd_other {β : Type} (f : K → β) {k k' : K} (v : β) (h : k' ≠ k) : upd f k v k' = f k' := if_neg h

theorem run_lookup_at {P : Program} {T key elem : TypeId} {enc : K → Value} {w : World} {b : Nat} {f : K → Option Value} {z : Value} (ht : P.underlying T = some (.map key elem)) (hk : KeyOk P key enc)
    (hz : ∀ w, (zeroValue elem).run P w = .ok z w) (hm : MapAt enc w b f) (k : K) (c : Bool) :
    (Instr.lookup T (.map (some b)) (enc k) c).run P w = .ok (if c then .tuple #[(f k).getD z, .bool (f k).isSome] else (f k).getD z) w := by
  obtain ⟨es, clock, hb, _, _, _, hf⟩ := hm
  rw [hf k, look_of_idx]
  unfold Instr.lookup
  simp only [Sem.run_bind, run_underlying ht, Result.andThen, MapKept.run_getObj_map hb, hk.check, hk.find, Sem.run_pure]
  cases hi : es.findIdx? fun x => decide (x.1 = k) with
  | none => simp [hz, Result.andThen]
  | some i =>
    have hlt : i < es.length := (List.findIdx?_eq_some_iff_getElem.1 hi).1
    simp [hlt]

theorem look_append_none {es : List (K × Value × Nat)} {k : K} (h : (es.findIdx? fun x => decide (x.1 = k)) = none) (v : Value) (c : Nat) (k' : K) : look (es ++ [(k, v, c)]) k' = if k' = k then some v else look es k' := by
  have hall : ∀ x ∈ es, ¬ x.1 = k := by simpa using List.findIdx?_eq_none_iff.1 h
  unfold look
  rw [List.find?_append]
  by_cases hk : k' = k
  · subst hk
    have : es.find? (fun x => decide (x.1 = k')) = none := by simpa using hall
    simp [this]
  · have : ¬ k = k' := fun e => hk e.symm
    simp [hk, this]

theorem look_modify {es : List (K × Value × Nat)} {k : K} {i : Nat} (h : (es.findIdx? fun x => decide (x.1 = k)) = some i) (v : Value) (k' : K) : look (es.modify i fun x => (k, v, x.2.2)) k' = if k' = k then some v else look es k' := by
  induction es generalizing i with
  | nil => simp at h
  | cons x es ih =>
    rw [List.findIdx?_cons] at h
    by_cases hx : x.1 = k
    · simp [hx] at h
      subst h
      by_cases hk : k' = k
      · simp [look, hk]
      · have h1 : ¬ k = k' := fun e => hk e.symm
        have h2 : ¬ x.1 = k' := by rw [hx]; exact h1
        simp [look, hk, h1, h2]
    · simp [hx] at h
      obtain ⟨j, hj, rfl⟩ := h
      have := ih hj
      by_cases hk : x.1 = k'
      · have h1 : ¬ k' = k := by rw [← hk]; exact hx
        simp [look, hk, h1]
      · simp only [look, List.modify_succ_cons, List.find?_cons, hk, decide_false] at this ⊢
        exact this

theorem look_erase {es : List (K × Value × Nat)} {k : K} {i : Nat} (hn : (es.map (·.1)).Nodup) (h : (es.findIdx? fun x => decide (x.1 = k)) = some i) (k' : K) : look (es.eraseIdx i) k' = if k' = k then none else look es k' := by
  induction es generalizing i with
  | nil => simp at h
  | cons x es ih =>
    rw [List.findIdx?_cons] at h
    simp only [List.map_cons, List.nodup_cons] at hn
    by_cases hx : x.1 = k
    · simp [hx] at h
      subst h
      by_cases hk : k' = k
      · subst hk
        simp only [List.eraseIdx_zero, List.tail_cons, if_true, look]
        have : es.find? (fun x => decide (x.1 = k')) = none := by
          rw [List.find?_eq_none]
          intro y hy
          have : ¬ y.1 = k' := fun e => hn.1 (by rw [hx, ← e]; exact List.mem_map_of_mem hy)
          simpa using this
        simp [this]
      · have h2 : ¬ x.1 = k' := by rw [hx]; exact fun e => hk e.symm
        simp [look, hk, h2]
    · simp [hx] at h
      obtain ⟨j, hj, rfl⟩ := h
      have := ih hn.2 hj
      by_cases hk : x.1 = k'
      · have h1 : ¬ k' = k := by rw [← hk]; exact hx
        simp [look, hk, h1]
      · simp only [look, List.eraseIdx_cons_succ, List.find?_cons, hk, decide_false] at this ⊢
        exact this

theorem run_mapUpdate_at {P : Program} {T key elem : TypeId} {enc : K → Value} {w : World} {b : Nat} {f : K → Option Value} (ht : P.underlying T = some (.map key elem)) (hk : KeyOk P key enc)
    (hm : MapAt enc w b f) (k : K) (v : Value) :
    ∃ w', (Instr.mapUpdate T (.map (some b)) (enc k) v).run P w = .ok () w' ∧ MapAt enc w' b (upd f k (some v)) ∧ w.grownBy w' (some b) := by
  obtain ⟨es, clock, hb, hn1, hn2, hlt, hf⟩ := hm
  have hbl := heap_lt hb
  cases hi : es.findIdx? fun x => decide (x.1 = k) with
  | none =>
    refine ⟨w.putObj b (.map ((ents enc es).push ⟨enc k, v, clock⟩) (clock + 1)), ?_, ?_, grownBy_putObj' _ _ _⟩
    · unfold Instr.mapUpdate
      simp only [Sem.run_bind, run_underlying ht, Result.andThen, MapKept.run_getObj_map hb, hk.check, hk.find, hi, Option.bind_none, MapKept.run_setObj_map _ hb]
      rfl
    · refine ⟨es ++ [(k, v, clock)], clock + 1, ?_, ?_, ?_, ?_, fun k' => by show (if k' = k then some v else f k') = _; rw [look_append_none hi, hf]⟩
      · rw [World.putObj_heap_same hbl]
        simp [ents]
      · rw [List.map_append, List.nodup_append]
        refine ⟨hn1, by simp, ?_⟩
        have hall : ∀ x ∈ es, ¬ x.1 = k := by simpa using List.findIdx?_eq_none_iff.1 hi
        intro a ha c hc
        simp at hc
        obtain ⟨x, hx, rfl⟩ := List.mem_map.1 ha
        subst hc
        exact hall x hx
      · rw [List.map_append, List.nodup_append]
        refine ⟨hn2, by simp, ?_⟩
        intro a ha c hc
        simp at hc
        obtain ⟨x, hx, rfl⟩ := List.mem_map.1 ha
        have := hlt x hx
        omega
      · intro x hx
        rcases List.mem_append.1 hx with h1 | h1
        · have := hlt x h1; omega
        · simp at h1; subst h1; simp
  | some i =>
    have hil : i < es.length := (List.findIdx?_eq_some_iff_getElem.1 hi).1
    have hik : (es[i]).1 = k := by simpa using (List.findIdx?_eq_some_iff_getElem.1 hi).2.1
    refine ⟨w.putObj b (.map ((ents enc es).modify i fun e => { e with key := enc k, val := v }) clock), ?_, ?_, grownBy_putObj' _ _ _⟩
    · unfold Instr.mapUpdate
      have hkey : ((ents enc es)[i]?.map (·.key)).getD (enc k) = enc k := by
        simp [ents, hil, hik]
      have hkeep : (Instr.keyThatStays (enc k) (enc k)).run P w = .ok (enc k) w := by
        unfold Instr.keyThatStays
        simp [hk.same]
      simp only [Sem.run_bind, run_underlying ht, Result.andThen, MapKept.run_getObj_map hb, hk.check, hk.find, hi, Option.bind_some, List.getElem?_eq_getElem hil, Option.map_some, hkey, hkeep, MapKept.run_setObj_map _ hb]
      rfl
    · refine ⟨es.modify i fun x => (k, v, x.2.2), clock, ?_, ?_, ?_, ?_, fun k' => by show (if k' = k then some v else f k') = _; rw [look_modify hi, hf]⟩
      · rw [World.putObj_heap_same hbl]
        congr 2
        apply Array.ext'
        simp only [ents, Array.toList_modify, List.toList_toArray]
        apply List.ext_getElem?
        intro j
        simp only [List.getElem?_modify, List.getElem?_map]
        cases es[j]? <;> simp <;> split <;> rfl
      · have : (es.modify i fun x => (k, v, x.2.2)).map (·.1) = es.map (·.1) := by
          apply List.ext_getElem?
          intro j
          simp only [List.getElem?_map, List.getElem?_modify]
          by_cases hj : i = j
          · subst hj; simp [hil, hik]
          · simp [hj]
        rw [this]; exact hn1
      · have : (es.modify i fun x => (k, v, x.2.2)).map (·.2.2) = es.map (·.2.2) := by
          apply List.ext_getElem?
          intro j
          simp only [List.getElem?_map, List.getElem?_modify]
          cases es[j]? <;> simp <;> split <;> rfl
        rw [this]; exact hn2
      · intro x hx
        obtain ⟨j, hj, rfl⟩ := List.getElem_of_mem hx
        have hj' : j < es.length := by simpa using hj
        rw [List.getElem_modify]
        have := hlt es[j] (List.getElem_mem hj')
        split <;> exact this

theorem run_delete_at {P : Program} {T key elem : TypeId} {ts : Array TypeId} {ty : TypeId} {enc : K → Value} {w : World} {b : Nat} {f : K → Option Value} (ht : P.underlying T = some (.map key elem)) (hk : KeyOk P key enc)
    (hts : ts[0]? = some T) (hm : MapAt enc w b f) (k : K) :
    ∃ w', (Builtin.delete_ ts ty #[.map (some b), enc k]).run P w = .ok (.tuple #[]) w' ∧ MapAt enc w' b (upd f k none) ∧ w.grownBy w' (some b) := by
  obtain ⟨es, clock, hb, hn1, hn2, hlt, hf⟩ := hm
  have hbl := heap_lt hb
  cases hi : es.findIdx? fun x => decide (x.1 = k) with
  | none =>
    refine ⟨w.putObj b (.map (ents enc es) clock), ?_, ?_, grownBy_putObj' _ _ _⟩
    · unfold Builtin.delete_
      simp only [hts]
      simp [Sem.run_bind, run_underlying ht, Result.andThen, MapKept.run_getObj_map hb, hk.check, hk.find, hi, MapKept.run_setObj_map _ hb]
      rfl
    · refine ⟨es, clock, World.putObj_heap_same hbl, hn1, hn2, hlt, fun k' => ?_⟩
      show (if k' = k then none else f k') = _
      by_cases h : k' = k
      · subst h
        rw [if_pos rfl, look_of_idx, hi]; rfl
      · rw [if_neg h, hf]
  | some i =>
    refine ⟨w.putObj b (.map ((ents enc es).eraseIdxIfInBounds i) clock), ?_, ?_, grownBy_putObj' _ _ _⟩
    · unfold Builtin.delete_
      have hil : i < es.length := (List.findIdx?_eq_some_iff_getElem.1 hi).1
      simp only [hts]
      simp [Sem.run_bind, run_underlying ht, Result.andThen, MapKept.run_getObj_map hb, hk.check, hk.find, hi, hil, MapKept.run_setObj_map _ hb]
      rfl
    · refine ⟨es.eraseIdx i, clock, ?_, ?_, ?_, ?_, fun k' => by show (if k' = k then none else f k') = _; rw [look_erase hn1 hi, hf]⟩
      · rw [World.putObj_heap_same hbl]
        congr 2
        apply Array.ext'
        have hil : i < es.length := (List.findIdx?_eq_some_iff_getElem.1 hi).1
        simp [ents, Array.eraseIdxIfInBounds, hil, map_eraseIdx]
      · rw [map_eraseIdx]; exact hn1.sublist (List.eraseIdx_sublist _ _)
      · rw [map_eraseIdx]; exact hn2.sublist (List.eraseIdx_sublist _ _)
      · intro x hx; exact hlt x (List.mem_of_mem_eraseIdx hx)

section
variable {P : Program} {w : World} {ops : Array Oper} {rest : List Oper} {o : Oper} {a : Act} {Q : Exit → Act → World → Prop}

theorem wpList_lookup_at (hg : o.guard = none) (m x : Operand) (T : TypeId) (c : Bool) (hop : o.op = Op.lookup T m x c) (key elem : TypeId) {enc : K → Value} {b : Nat} {f : K → Option Value} (z : Value)
    (ht : P.underlying T = some (.map key elem)) (hk : KeyOk P key enc) (hz : ∀ w, (zeroValue elem).run P w = .ok z w) (hm : a.eval m = .map (some b)) (hmap : MapAt enc w b f) (k : K) (hx : a.eval x = enc k)
    (hK : wpList P ops Q rest (a.put o.dst (if c then .tuple #[(f k).getD z, .bool (f k).isSome] else (f k).getD z)) w) : wpList P ops Q (o :: rest) a w := by
  refine wpList_plain hg fun K' hK' => ?_
  have hrun := run_lookup_at ht hk hz hmap k c
  unfold Oper.wp
  simp only [execOp, hop, hm, hx, hrun, Sem.run_bind, Result.andThen, Sem.run_pure]
  exact hK' _ _ hK

theorem wpList_mapUpdate_at (hg : o.guard = none) (m x v : Operand) (T : TypeId) (hop : o.op = Op.mapUpdate T m x v) (key elem : TypeId) {enc : K → Value} {b : Nat} {f : K → Option Value}
    (ht : P.underlying T = some (.map key elem)) (hk : KeyOk P key enc) (hm : a.eval m = .map (some b)) (hmap : MapAt enc w b f) (k : K) (hx : a.eval x = enc k) (val : Value) (hv : a.eval v = val)
    (hK : ∀ w', MapAt enc w' b (upd f k (some val)) → w.grownBy w' (some b) → wpList P ops Q rest (a.put o.dst undef) w') : wpList P ops Q (o :: rest) a w := by
  refine wpList_plain hg fun K' hK' => ?_
  obtain ⟨w', hrun, r1, r2⟩ := run_mapUpdate_at ht hk hmap k val
  unfold Oper.wp
  simp [execOp, hop, hm, hx, hv, hrun, Result.andThen]
  exact hK' _ _ (hK w' r1 r2)

theorem wpList_delete_at (hg : o.guard = none) (m x : Operand) (T kt : TypeId) (hop : o.op = Op.call { callee := Callee.builtin Builtin.delete, args := #[m, x], argTypes := #[T, kt] }) (key elem : TypeId) {enc : K → Value} {b : Nat} {f : K → Option Value}
    (ht : P.underlying T = some (.map key elem)) (hk : KeyOk P key enc) (hm : a.eval m = .map (some b)) (hmap : MapAt enc w b f) (k : K) (hx : a.eval x = enc k)
    (hK : ∀ w', MapAt enc w' b (upd f k none) → w.grownBy w' (some b) → wpList P ops Q rest (a.put o.dst (.tuple #[])) w') : wpList P ops Q (o :: rest) a w := by
  refine wpList_plain hg fun K' hK' => ?_
  obtain ⟨w', hrun, r1, r2⟩ := run_delete_at (ts := #[T, kt]) (ty := o.type) ht hk rfl hmap k
  unfold Oper.wp
  simp [execOp, hop, resolve, invoke, builtin, hm, hx, hrun, Result.andThen]
  exact hK' _ _ (hK w' r1 r2)
end
end maps

/-! Keys that are strings; keys that are integers of a kind. -/
theorem findNow_string (s : ByteArray) (es : List (ByteArray × Value × Nat)) (i : Nat) :
    Instr.findNow .string (.string s) (ents Value.string es).toList i = some ((es.findIdx? fun x => decide (x.1 = s)).bind fun j => (es[j]?).map fun x => (i + j, x.2.1)) := by
  induction es generalizing i with
  | nil => rfl
  | cons x es ih =>
    simp only [ents, List.map_cons, List.toList_toArray, Instr.findNow, Instr.sameNow] at ih ⊢
    rw [List.findIdx?_cons]
    by_cases hx : s = x.1
    · subst hx
      have hb : (x.1 == x.1) = true := (MapKept.bytes_beq _ _).2 rfl
      simp [hb]
    · have hx' : ¬ x.1 = s := fun e => hx e.symm
      have hb : (s == x.1) = false := by
        cases h : s == x.1
        · rfl
        · exact absurd ((MapKept.bytes_beq _ _).1 h) hx
      simp only [hb, hx', decide_false]
      rw [ih]
      cases es.findIdx? fun x => decide (x.1 = s) with
      | none => simp
      | some j =>
        simp
        cases es[j]? <;> simp
        omega

theorem keyOk_string {P : Program} {T : TypeId} (ht : P.underlying T = some .string) : KeyOk P T Value.string where
  check e k w := by
    unfold Instr.checkKey
    simp [run_underlying ht, Result.andThen]
  same k := by
    have hb : (k == k) = true := (MapKept.bytes_beq _ _).2 rfl
    simp [Instr.sameBits, hb]
  find k es w := by
    unfold Instr.findKey
    simp only [Sem.run_bind, run_underlying ht, Result.andThen]
    have h := findNow_string k es 0
    simp only [Nat.zero_add] at h
    rw [h]
    rfl

end Go.Proofs.YtakgnkjopbflbaaGreatDoor
