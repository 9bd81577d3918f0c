/- Maps in a plain walk: what is there, or not, being known; how many keys there are. No condition. -/
import Derived.WideLaws
import Derived.Test.YtlnjfcnhgndocaaBm
namespace Go.Proofs.Ytlnjfcnhgndocaa
open Go Go.RowKit

theorem nodup_le {α : Type} [DecidableEq α] : ∀ (l m : List α), l.Nodup → (∀ x ∈ l, x ∈ m) → l.length ≤ m.length
  | [], _, _, _ => Nat.zero_le _
  | x :: l, m, h, hs => by
    rw [List.nodup_cons] at h
    have hx := hs x (List.mem_cons_self ..)
    have ih := nodup_le l (m.erase x) h.2 (fun y hy => (List.mem_erase_of_ne (fun e => h.1 (by rw [← e]; exact hy))).2 (hs y (List.mem_cons_of_mem _ hy)))
    rw [List.length_erase_of_mem hx] at ih
    have := List.length_pos_of_mem hx
    simp
    omega
theorem nodup_len {α : Type} [DecidableEq α] {l m : List α} (hl : l.Nodup) (hm : m.Nodup) (h : ∀ x, x ∈ l ↔ x ∈ m) : l.length = m.length :=
  Nat.le_antisymm (nodup_le l m hl (fun x hx => (h x).1 hx)) (nodup_le m l hm (fun x hx => (h x).2 hx))

section
variable {P : Program} {K : Type} [DecidableEq K]

theorem look_mem (es : List (K × Value × Nat)) (k : K) : k ∈ es.map (·.1) ↔ (look es k).isSome = true := by
  unfold look
  rw [Option.isSome_map, List.find?_isSome]
  simp

/-- How many keys a map has. -/
theorem run_len_at {T key elem ty : TypeId} {enc : K → Value} {w : World} {b : Nat} {f : K → Option Value} (ht : P.underlying T = some (.map key elem)) (hm : MapAt enc w b f) (keys : List K) (hn : keys.Nodup) (hk : ∀ k, k ∈ keys ↔ (f k).isSome = true) :
    (Builtin.len_ #[T] ty #[.map (some b)]).run P w = .ok (.int .i64 keys.length) w := by
  obtain ⟨es, clock, hb, h1, _, _, hf⟩ := hm
  have hlen : (es.map (·.1)).length = keys.length := nodup_len h1 hn (fun x => by rw [look_mem, hk, hf])
  have hk' : P.mapKeyOf T = key := by simp [Program.mapKeyOf, ht]
  have he' : P.mapElemOf T = elem := by simp [Program.mapElemOf, ht]
  rw [run_len_map w T ty b (ents enc es) clock (by rw [hk', he']; exact ht) hb]
  simp [goInt, ents] at hlen ⊢
  omega

variable {w : World} {ops : Array Oper} {rest : List Oper} {o : Oper} {a : Act} {Q : Exit → Act → World → Prop}

theorem wpList_lookup_some (hg : o.guard = none) (m x : Operand) (T : TypeId) (hop : o.op = Op.lookup T m x true) (key elem : TypeId) {enc : K → Value} {b : Nat} {f : K → Option Value} (z : Value)
    (ht : P.underlying T = some (.map key elem)) (hk : KeyOk P key enc) (hz : ∀ w, (zeroValue elem).run P w = .ok z w) (hm : a.eval m = .map (some b)) (hmap : MapAt enc w b f) (k : K) (hx : a.eval x = enc k) (v : Value) (hf : f k = some v)
    (hK : wpList P ops Q rest (a.put o.dst (.tuple #[v, .bool true])) w) : wpList P ops Q (o :: rest) a w :=
  wpList_lookup_at hg m x T true hop key elem z ht hk hz hm hmap k hx (by rw [hf]; exact hK)
theorem wpList_lookup_none (hg : o.guard = none) (m x : Operand) (T : TypeId) (hop : o.op = Op.lookup T m x true) (key elem : TypeId) {enc : K → Value} {b : Nat} {f : K → Option Value} (z : Value)
    (ht : P.underlying T = some (.map key elem)) (hk : KeyOk P key enc) (hz : ∀ w, (zeroValue elem).run P w = .ok z w) (hm : a.eval m = .map (some b)) (hmap : MapAt enc w b f) (k : K) (hx : a.eval x = enc k) (hf : f k = none)
    (hK : wpList P ops Q rest (a.put o.dst (.tuple #[z, .bool false])) w) : wpList P ops Q (o :: rest) a w :=
  wpList_lookup_at hg m x T true hop key elem z ht hk hz hm hmap k hx (by rw [hf]; exact hK)
theorem wpList_lookup_val (hg : o.guard = none) (m x : Operand) (T : TypeId) (hop : o.op = Op.lookup T m x false) (key elem : TypeId) {enc : K → Value} {b : Nat} {f : K → Option Value} (z : Value)
    (ht : P.underlying T = some (.map key elem)) (hk : KeyOk P key enc) (hz : ∀ w, (zeroValue elem).run P w = .ok z w) (hm : a.eval m = .map (some b)) (hmap : MapAt enc w b f) (k : K) (hx : a.eval x = enc k) (v : Value) (hf : (f k).getD z = v)
    (hK : wpList P ops Q rest (a.put o.dst v) w) : wpList P ops Q (o :: rest) a w :=
  wpList_lookup_at hg m x T false hop key elem z ht hk hz hm hmap k hx (by rw [← hf] at hK; exact hK)
end
end Go.Proofs.Ytlnjfcnhgndocaa
