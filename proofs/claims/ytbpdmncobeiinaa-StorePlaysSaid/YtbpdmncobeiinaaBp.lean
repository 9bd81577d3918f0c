/- Maps in a plain walk: what is there, or not, being known. No condition. -/
import Derived.Test.YtbpdmncobeiinaaBm
namespace Go.Proofs.Ytbpdmncobeiinaa
open Go Go.RowKit

section
variable {P : Program} {K : Type} [DecidableEq K]
variable {w : World} {ops : Array Oper} {rest : List Oper} {o : Oper} {a : Act} {Q : Exit → Act → World → Prop}

theorem wpList_lookup_some (hg : o.guard = none) (m x : Operand) (T : TypeId) (hop : o.op = Op.lookup T m x true) (key elem : TypeId) {enc : K → Value} {b : Nat} {f : K → Option Value} (z : Value)
    (ht : P.underlying T = some (.map key elem)) (hk : KeyOk P key enc) (hz : ∀ w, (zeroValue elem).run P w = .ok z w) (hm : a.eval m = .map (some b)) (hmap : MapAt enc w b f) (k : K) (hx : a.eval x = enc k) (v : Value) (hf : f k = some v)
    (hK : wpList P ops Q rest (a.put o.dst (.tuple #[v, .bool true])) w) : wpList P ops Q (o :: rest) a w :=
  wpList_lookup_at hg m x T true hop key elem z ht hk hz hm hmap k hx (by rw [hf]; exact hK)
theorem wpList_lookup_none (hg : o.guard = none) (m x : Operand) (T : TypeId) (hop : o.op = Op.lookup T m x true) (key elem : TypeId) {enc : K → Value} {b : Nat} {f : K → Option Value} (z : Value)
    (ht : P.underlying T = some (.map key elem)) (hk : KeyOk P key enc) (hz : ∀ w, (zeroValue elem).run P w = .ok z w) (hm : a.eval m = .map (some b)) (hmap : MapAt enc w b f) (k : K) (hx : a.eval x = enc k) (hf : f k = none)
    (hK : wpList P ops Q rest (a.put o.dst (.tuple #[z, .bool false])) w) : wpList P ops Q (o :: rest) a w :=
  wpList_lookup_at hg m x T true hop key elem z ht hk hz hm hmap k hx (by rw [hf]; exact hK)
theorem wpList_lookup_val (hg : o.guard = none) (m x : Operand) (T : TypeId) (hop : o.op = Op.lookup T m x false) (key elem : TypeId) {enc : K → Value} {b : Nat} {f : K → Option Value} (z : Value)
    (ht : P.underlying T = some (.map key elem)) (hk : KeyOk P key enc) (hz : ∀ w, (zeroValue elem).run P w = .ok z w) (hm : a.eval m = .map (some b)) (hmap : MapAt enc w b f) (k : K) (hx : a.eval x = enc k) (v : Value) (hf : (f k).getD z = v)
    (hK : wpList P ops Q rest (a.put o.dst v) w) : wpList P ops Q (o :: rest) a w :=
  wpList_lookup_at hg m x T false hop key elem z ht hk hz hm hmap k hx (by rw [← hf] at hK; exact hK)
end
end Go.Proofs.Ytbpdmncobeiinaa
