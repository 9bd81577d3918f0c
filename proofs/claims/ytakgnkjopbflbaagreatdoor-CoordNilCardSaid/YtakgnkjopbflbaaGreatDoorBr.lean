/- A region that draws its order and only reads, in a round of a loop over an iterator: walked once, in the order of the text. No condition. -/
import Derived.RangeFuncCalls
import Derived.RangeFuncNested
import Derived.Sort.QuietTacIn
namespace Go.Proofs.YtakgnkjopbflbaaGreatDoor
open Go

section
variable {F : Fence} {n : Nat} {P : Program} {ops : Array Oper} {Q : Exit → Act → World → Prop} {l0 : Nat}

theorem wpIn_round {o : Oper} {a : Act} {w : World} {K K' : Act → World → Prop} (hro : F.round = none) (hnd : ∀ c, o.op ≠ .defer c) (hk : ∀ a w, K a w → K' a w) (h : o.wpIn F n P a w K Q) : o.wpIn (F.inRound l0) n P a w K' Q := by
  have h' := Oper.wpIn_mono (K' := K') hk h
  obtain ⟨h1, h2⟩ := h'
  refine ⟨h1, ?_⟩
  rw [hro, Oper.semAt_none] at h2
  rw [Oper.semAt_eq _ _ _ hnd]
  generalize (execOp a.eval o).run P w = r at *
  cases r with
  | ok x w' =>
    cases x <;> exact h2
  | halt x w' => exact h2

theorem wpAnyIn_round {md : Region.Mode} (hro : F.round = none) (hnd : ∀ (i : Nat) (o : Oper), ops[i]? = some o → ∀ c, o.op ≠ .defer c) : ∀ (fuel : Nat) (listed : Array Bool) (a : Act) (w : World),
    wpAnyIn F n P md ops Q fuel listed a w → wpAnyIn (F.inRound l0) n P md ops Q fuel listed a w
  | 0, _, _, _, h => h
  | fuel + 1, listed, a, w, h => ⟨h.1, fun i hi => by
      have h2 := h.2 i hi
      unfold wpOpIn at h2 ⊢
      split
      · rename_i ho
        simp only [ho] at h2
        exact wpAnyIn_round hro hnd fuel _ _ _ h2
      · rename_i o ho
        simp only [ho] at h2
        split
        · rename_i hw
          simp only [hw, if_true] at h2
          exact wpIn_round hro (hnd i o ho) (fun a' w' h3 => wpAnyIn_round hro hnd fuel _ a' w' h3) h2
        · rename_i hw
          simp only [hw] at h2
          exact ⟨h2.1, wpAnyIn_round hro hnd fuel _ _ _ h2.2⟩⟩

def calmB (o : Oper) : Bool := match o.op with
  | .defer _ => false
  | _ => true
theorem calm_of {l : List Oper} (h : l.all calmB = true) (i : Nat) (o : Oper) (ho : l.toArray[i]? = some o) (c : Call) : o.op ≠ .defer c := fun e => by
  have h1 := List.all_eq_true.1 h o (by rw [List.getElem?_toArray] at ho; exact List.mem_of_getElem? ho)
  simp [calmB, e] at h1

theorem wpIn_region_quiet_round {id : Nat} {a : Act} {w : World} {l : List Oper} (hro : F.round = none) (hm : P.follows .mixedOrders = true) (hB : Region.lexB .any l.toArray = true) (hd : l.all calmB = true)
    (h : wpQuietIn F n P l.toArray (fun w' => ∃ n, w' = w.drewN n) (fun a' => ∀ w', (∃ n, w' = w.drewN n) → Q .normal a' w') l a) : (Code.region id l.toArray true).wpIn (F.inRound l0) n P Q a w := by
  simp only [Region.lexB, Bool.and_eq_true] at hB
  refine wpIn_region_any hm (wpAnyIn_round hro (calm_of hd) _ _ _ _ (wpAnyIn_of_quiet (C := fun w' => ∃ n, w' = w.drewN n) (Q := fun a' => ∀ w', (∃ n, w' = w.drewN n) → Q .normal a' w') hro (fun _ w' hw' h => h w' hw') _ _ _ _ ⟨1, rfl⟩ ?_))
  have := wpAnyQIn_lex (F := F) (n := n) (C := fun w' => ∃ n, w' = w.drewN n) (md := .any) hB.1 l 0 (Array.replicate l.toArray.size false) a (by simp) (by simpa using hB.2) h
  simpa using this
end
end Go.Proofs.YtakgnkjopbflbaaGreatDoor
