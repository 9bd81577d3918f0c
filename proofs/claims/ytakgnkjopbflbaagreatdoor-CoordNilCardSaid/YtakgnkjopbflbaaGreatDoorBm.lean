/- Maps and rows in a fenced walk (a loop over an iterator): look-up, store, append, over any base; keys that are int64. No condition. -/
import Derived.Maps.OwnIn
import Derived.OwnWalkIn
import Derived.RangeFuncWrites
import Derived.Deep.AppendLies
import Derived.Test.YtakgnkjopbflbaaGreatDoorBa
namespace Go.Proofs.YtakgnkjopbflbaaGreatDoor
open Go Go.RowKit

/-! 's[l:]', not at the end of the capacity. -/
theorem run_slice_from {P : Program} (w : World) (t e : TypeId) (ht : P.underlying t = some (.slice e)) (size : Nat) (hs : ∀ w, (sizeOf e).run P w = .ok size w) (b off len cap l : Nat) (h1 : l ≤ len) (hne : l < cap) :
    (Instr.slice t (.slice (some ⟨b, off, none⟩) len cap) (some (.int .i64 l)) none none).run P w = .ok (.slice (some ⟨b, off + l * size, none⟩) (len - l) (cap - l)) w := by
  have he : P.elem t = e := by simp [Program.elem, ht]
  rw [run_slice_l w t (some ⟨b, off, none⟩) len cap (by rw [he]; exact ht) .i64 l (by omega) (by omega), he, hs]
  have hn : ¬ cap = l := by omega
  simp [Result.andThen, sliced, hn, Addr.add]

/-! Keys that are signed words. -/
def encI (x : BitVec 64) : Value := .int .i64 x.toInt

theorem findNow_i64 (k : BitVec 64) (es : List (BitVec 64 × Value × Nat)) (i : Nat) :
    Instr.findNow (.int .i64) (encI k) (ents encI es).toList i = some ((es.findIdx? fun x => decide (x.1 = k)).bind fun j => (es[j]?).map fun x => (i + j, x.2.1)) := by
  induction es generalizing i with
  | nil => rfl
  | cons x es ih =>
    simp only [ents, encI, List.map_cons, List.toList_toArray, Instr.findNow, Instr.sameNow, if_true] at ih ⊢
    rw [List.findIdx?_cons]
    by_cases hx : k = x.1
    · subst hx
      simp
    · have hx' : ¬ x.1 = k := fun e => hx e.symm
      have hb : (k.toInt == x.1.toInt) = false := by
        cases h : k.toInt == x.1.toInt
        · rfl
        · exact absurd (BitVec.eq_of_toInt_eq (by simpa using h)) hx
      simp only [hb, hx', decide_false]
      rw [ih]
      cases es.findIdx? fun x => decide (x.1 = k) with
      | none => simp
      | some j =>
        simp
        cases es[j]? <;> simp
        omega

theorem keyOk_i64 {P : Program} {T : TypeId} (ht : P.underlying T = some (.int .i64)) : KeyOk P T encI where
  check e k w := by
    unfold Instr.checkKey
    simp [run_underlying ht, Result.andThen, encI]
  same k := by simp [Instr.sameBits, encI]
  find k es w := by
    unfold Instr.findKey
    simp only [Sem.run_bind, run_underlying ht, Result.andThen]
    have h := findNow_i64 k es 0
    simp only [Nat.zero_add] at h
    rw [h]
    rfl

section
variable {F : Fence} {nF : Nat} {P : Program} {w : World} {ops : Array Oper} {rest : List Oper} {o : Oper} {a : Act} {Q : Exit → Act → World → Prop} {K : Type} [DecidableEq K]

theorem wpListIn_lookup_at (hg : o.guard = none) (m x : Operand) (T : TypeId) (c : Bool) (hop : o.op = Op.lookup T m x c) (key elem : TypeId) {enc : K → Value} {b : Nat} {f : K → Option Value} (z : Value)
    (ht : P.underlying T = some (.map key elem)) (hk : KeyOk P key enc) (hz : ∀ w, (zeroValue elem).run P w = .ok z w) (hm : a.eval m = .map (some b)) (hmap : MapAt enc w b f) (k : K) (hx : a.eval x = enc k)
    (hK : wpListIn F nF P ops Q rest (a.put o.dst (if c then .tuple #[(f k).getD z, .bool (f k).isSome] else (f k).getD z)) w) : wpListIn F nF P ops Q (o :: rest) a w := by
  refine wpListIn_plain hg fun K' hK' => ?_
  have hrun := run_lookup_at ht hk hz hmap k c
  unfold Oper.wpIn
  refine ⟨by simp [Oper.about, hop], ?_⟩
  rw [Oper.semAt_plain F _ _ (by rw [hop]; intro c hc'; cases hc')]
  simp only [execOp, hop, hm, hx, hrun, Sem.run_bind, Result.andThen, Sem.run_pure]
  exact hK' _ _ hK

theorem wpListIn_mapUpdate_at (hg : o.guard = none) (m x v : Operand) (T : TypeId) (hop : o.op = Op.mapUpdate T m x v) (key elem : TypeId) {enc : K → Value} {b : Nat} {f : K → Option Value}
    (ht : P.underlying T = some (.map key elem)) (hk : KeyOk P key enc) (hm : a.eval m = .map (some b)) (hmap : MapAt enc w b f) (k : K) (hx : a.eval x = enc k) (val : Value) (hv : a.eval v = val)
    (hK : ∀ w', MapAt enc w' b (upd f k (some val)) → w.grownBy w' (some b) → wpListIn F nF P ops Q rest (a.put o.dst undef) w') : wpListIn F nF P ops Q (o :: rest) a w := by
  refine wpListIn_plain hg fun K' hK' => ?_
  obtain ⟨w', hrun, r1, r2⟩ := run_mapUpdate_at ht hk hmap k val
  unfold Oper.wpIn
  refine ⟨by simp [Oper.about, hop], ?_⟩
  rw [Oper.semAt_plain F _ _ (by rw [hop]; intro c hc'; cases hc')]
  simp [execOp, hop, hm, hx, hv, hrun, Result.andThen]
  exact hK' _ _ (hK w' r1 r2)

/-- .. what is there, or not, being known. -/
theorem wpListIn_lookup_some (hg : o.guard = none) (m x : Operand) (T : TypeId) (hop : o.op = Op.lookup T m x true) (key elem : TypeId) {enc : K → Value} {b : Nat} {f : K → Option Value} (z : Value)
    (ht : P.underlying T = some (.map key elem)) (hk : KeyOk P key enc) (hz : ∀ w, (zeroValue elem).run P w = .ok z w) (hm : a.eval m = .map (some b)) (hmap : MapAt enc w b f) (k : K) (hx : a.eval x = enc k) (v : Value) (hf : f k = some v)
    (hK : wpListIn F nF P ops Q rest (a.put o.dst (.tuple #[v, .bool true])) w) : wpListIn F nF P ops Q (o :: rest) a w :=
  wpListIn_lookup_at hg m x T true hop key elem z ht hk hz hm hmap k hx (by rw [hf]; exact hK)
theorem wpListIn_lookup_none (hg : o.guard = none) (m x : Operand) (T : TypeId) (hop : o.op = Op.lookup T m x true) (key elem : TypeId) {enc : K → Value} {b : Nat} {f : K → Option Value} (z : Value)
    (ht : P.underlying T = some (.map key elem)) (hk : KeyOk P key enc) (hz : ∀ w, (zeroValue elem).run P w = .ok z w) (hm : a.eval m = .map (some b)) (hmap : MapAt enc w b f) (k : K) (hx : a.eval x = enc k) (hf : f k = none)
    (hK : wpListIn F nF P ops Q rest (a.put o.dst (.tuple #[z, .bool false])) w) : wpListIn F nF P ops Q (o :: rest) a w :=
  wpListIn_lookup_at hg m x T true hop key elem z ht hk hz hm hmap k hx (by rw [hf]; exact hK)
theorem wpListIn_lookup_val (hg : o.guard = none) (m x : Operand) (T : TypeId) (hop : o.op = Op.lookup T m x false) (key elem : TypeId) {enc : K → Value} {b : Nat} {f : K → Option Value} (z : Value)
    (ht : P.underlying T = some (.map key elem)) (hk : KeyOk P key enc) (hz : ∀ w, (zeroValue elem).run P w = .ok z w) (hm : a.eval m = .map (some b)) (hmap : MapAt enc w b f) (k : K) (hx : a.eval x = enc k) (v : Value) (hf : (f k).getD z = v)
    (hK : wpListIn F nF P ops Q rest (a.put o.dst v) w) : wpListIn F nF P ops Q (o :: rest) a w :=
  wpListIn_lookup_at hg m x T false hop key elem z ht hk hz hm hmap k hx (by rw [← hf] at hK; exact hK)

/-- A store into a map, as the last operation of a region. -/
theorem wpIn_mapUpdate_at {R : Act → World → Prop} {Q' : Exit → Act → World → Prop} (m x v : Operand) (T : TypeId) (hop : o.op = Op.mapUpdate T m x v) (key elem : TypeId) {enc : K → Value} {b : Nat} {f : K → Option Value}
    (ht : P.underlying T = some (.map key elem)) (hk : KeyOk P key enc) (hm : a.eval m = .map (some b)) (hmap : MapAt enc w b f) (k : K) (hx : a.eval x = enc k) (val : Value) (hv : a.eval v = val)
    (hK : ∀ w', MapAt enc w' b (upd f k (some val)) → w.grownBy w' (some b) → R (a.put o.dst undef) w') : o.wpIn F nF P a w R Q' := by
  obtain ⟨w', hrun, r1, r2⟩ := run_mapUpdate_at ht hk hmap k val
  unfold Oper.wpIn
  refine ⟨by simp [Oper.about, hop], ?_⟩
  rw [Oper.semAt_plain F _ _ (by rw [hop]; intro c hc'; cases hc')]
  simp [execOp, hop, hm, hx, hv, hrun, Result.andThen]
  exact hK w' r1 r2

theorem keepsFrom_grown {B : Nat} {W W' : World} {row : Option Nat} (hg : W.grownBy W' row) (hrow : ∀ j, row = some j → j < B ∨ ∃ o : Obj, W.heap[j]? = some o ∧ o.isCells = true) : KeepsFrom B W W' :=
  ⟨hg.size, fun k o hB hk ho => by
    rw [hg.block k (heap_lt hk) (fun e => by
      rcases hrow k e.symm with h1 | ⟨o', h1, h2⟩
      · omega
      · rw [hk] at h1; cases h1; rw [ho] at h2; cases h2)]
    exact hk⟩
theorem keepsFrom_mod {B : Nat} {W W' : World} {S : Nat → Prop} (h : Mod W W' S) (hS : ∀ k, S k → k < B) : KeepsFrom B W W' :=
  ⟨h.size, fun k o hk ho _ => h.keep ho (fun hs => by have := hS k hs; omega)⟩
theorem owns_cells {w : World} {base : Nat} {e : TypeId} {size : Nat} {v : Value} {n : Nat} {xs : List Value} (h : w.ownsRow base e size v n xs) (j : Nat) (hj : v.ownBlock = some j) : ∃ o : Obj, w.heap[j]? = some o ∧ o.isCells = true := by
  rcases h.2 with ⟨rfl, _⟩ | ⟨g, cap, cur, rfl, _, hg, _⟩
  · simp [Value.ownBlock] at hj
  · simp [Value.ownBlock] at hj
    subst hj
    exact ⟨_, hg, rfl⟩

theorem wpListIn_append_lies (hgd : o.guard = none) (s x : Operand) (t : TypeId)
    (ho : o.op = .call { callee := .builtin .append, args := #[s, x], argTypes := #[t, t] })
    (base : Nat) (e : TypeId) (i : TypeInfo) (z : Value) (size bytes : Nat) (ht : P.underlying t = some (.slice e)) (hi : P.info? e = some i) (hz : i.zero = some z)
    (hsize : i.size = size) (hby : i.bytes = bytes) (hzs : z.cells.size = size) (hsz : 0 < size)
    (v : Value) (n : Nat) (xs : List Value) (hs : a.eval s = v) (hown : w.ownsRow base e size v n xs)
    (ad : Addr) (m c : Nat) (news : List Value) (hx : a.eval x = .slice (some ad) m c) (hl : news.length = m * size) (hnews : ∀ j u, news[j]? = some u → w.cell? (ad.add j) = some u) (h1 : ∀ u ∈ news, u.oneCell' = true)
    (hm : 0 < m) (h63 : n + m ≤ maxLen) (hbytes : (n + m) * bytes ≤ 140737488355328) (hbase : base ≤ w.heap.size) (H : Nat) (hH : w.heap.size = H)
    (h : ∀ g cap w', w'.ownsRow base e size (.slice (some ⟨g, 0, none⟩) (n + m) cap) (n + m) (xs ++ news) → w.grownBy w' v.ownBlock → (v.ownBlock = some g ∨ g = H) → g < w'.heap.size → wpListIn F nF P ops Q rest (a.put o.dst (.slice (some ⟨g, 0, none⟩) (n + m) cap)) w') :
    wpListIn F nF P ops Q (o :: rest) a w := by
  refine wpListIn_plain hgd fun K' hK' => ?_
  obtain ⟨g, cap, w', hrun, r1, r2, r3, r4⟩ := run_append_lies (P := P) w t o.type base e i z size bytes ht hi hz hsize hby hzs hsz v n xs hown ad m c news hl hnews h1 hm h63 hbytes hbase H hH
  unfold Oper.wpIn
  refine ⟨?_, ?_⟩
  · simp [Oper.about, ho, resolve, Target.leads, Sem.run_pure]
  · rw [Oper.semAt_plain F _ _ (by rw [ho]; intro c hc'; cases hc')]
    simp [execOp, ho, resolve, invoke, builtin, hs, hx, hrun, Result.andThen]
    exact hK' _ _ (h g cap w' r1 r2 r3 r4)
end
end Go.Proofs.YtakgnkjopbflbaaGreatDoor
