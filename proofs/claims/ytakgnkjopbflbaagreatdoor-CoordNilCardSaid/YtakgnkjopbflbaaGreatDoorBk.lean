/- A region that draws its order, in a round of a loop over an iterator: it may be shown as a plain region is. No condition. -/
import Derived.Test.YtakgnkjopbflbaaGreatDoorBr
import Derived.Test.YtakgnkjopbflbaaGreatDoorBj
namespace Go.Proofs.YtakgnkjopbflbaaGreatDoor
open Go.RowKit

section
variable {n : Nat} {P : Program} {ops : Array Oper} {Q : Exit → Act → World → Prop} {md : Region.Mode} {l0 : Nat}

theorem op_in_of_wp {o : Oper} {a : Act} {w : World} {K : Act → World → Prop} (hnl : ¬ LetsOut Q) (h : o.wp P a w K Q ∨ (o.asks P a w ∧ LetsOut Q)) : o.wpIn Fence.wide n P a w K Q := by
  have h1 := h.resolve_right (fun h => hnl h.2)
  refine ⟨fun _ _ => trivial, ?_⟩
  show o.uponIn Fence.wide n P a K Q ((Oper.semAt none a.eval o).run P w)
  rw [Oper.semAt_none]
  unfold Oper.wp at h1
  generalize (execOp a.eval o).run P w = r at *
  cases r with
  | ok x w' =>
    cases x with
    | value v => exact h1
    | skip => exact h1
    | defer d => exact h1
    | enter f args => exact ⟨(fun h => by simp [Fence.wide] at h), callsIn_wide.2 h1⟩
    | row row args => exact ⟨(fun h => by simp [Fence.wide] at h), fun c cs _ => let ⟨v, w2, r, s⟩ := h1 c cs; ⟨v, w2, r, stepsIn_wide.2 s⟩⟩
    | _ => exact h1.elim
  | halt x w' =>
    cases x <;> exact h1

theorem wpAnyIn_of_any (hnl : ¬ LetsOut Q) : ∀ (fuel : Nat) (listed : Array Bool) (a : Act) (w : World), wpAny P md ops Q fuel listed a w → wpAnyIn Fence.wide n P md ops Q fuel listed a w
  | 0, _, _, _, h => h
  | fuel + 1, listed, a, w, h => ⟨h.1, fun i hi => by
      have h2 := h.2 i hi
      unfold wpOp at h2
      unfold wpOpIn
      split
      · rename_i ho
        simp only [ho] at h2
        exact wpAnyIn_of_any hnl fuel _ _ _ h2
      · rename_i o ho
        simp only [ho] at h2
        split
        · rename_i hw
          simp only [hw, if_true] at h2
          exact Oper.wpIn_mono (fun a' w' h3 => wpAnyIn_of_any hnl fuel _ a' w' h3) (op_in_of_wp hnl h2)
        · rename_i hw
          simp only [hw] at h2
          exact ⟨fun _ _ => trivial, wpAnyIn_of_any hnl fuel _ _ _ h2⟩⟩

/-- An append whose run is known. -/
theorem wp_append_run {o : Oper} {a : Act} {w : World} {K : Act → World → Prop} (s x : Operand) (t1 t2 : TypeId)
    (hop : o.op = Op.call { callee := Callee.builtin Builtin.append, args := #[s, x], argTypes := #[t1, t2] }) (u v : Value) (hs : a.eval s = u) (hx : a.eval x = v) (y : Value) (w' : World)
    (hrun : (Builtin.append_ #[t1, t2] o.type #[u, v]).run P w = .ok y w') (hK : K (a.put o.dst y) w') : Oper.wp P o a w K Q := by
  unfold Oper.wp
  simp [execOp, hop, resolve, invoke, builtin, hs, hx, hrun, Result.andThen]
  exact hK

/-- A drawn region in a round, shown as a plain one. -/
theorem wpIn_region_round {id : Nat} {a : Act} {w : World} {l : List Oper} (hm : P.follows .mixedOrders = true) (hd : l.all calmB = true) {K : Act → World → Prop} (hK : ∀ a w, K a w → Q .normal a w)
    (h : wpAny P .any l.toArray (Exit.then K (fun _ _ _ => False)) l.toArray.size (Array.replicate l.toArray.size false) a w.drew) : (Code.region id l.toArray true).wpIn (Fence.wide.inRound l0) n P Q a w := by
  have hnl : ¬ LetsOut (Exit.then K (fun _ _ _ => False)) := fun ⟨_, _, h⟩ => h
  have h1 := wpAnyIn_round (l0 := l0) (F := Fence.wide) (n := n) rfl (calm_of hd) _ _ _ _ (wpAnyIn_of_any (n := n) hnl _ _ _ _ h)
  refine wpIn_mono (wpIn_region_any hm h1) ?_
  intro e a' w' h'
  cases e <;> first | exact hK _ _ h' | exact (False.elim h')
end

end Go.Proofs.YtakgnkjopbflbaaGreatDoor
