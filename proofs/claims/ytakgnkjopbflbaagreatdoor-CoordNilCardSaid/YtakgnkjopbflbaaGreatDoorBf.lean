/- A region whose operations come one behind the other. No condition. -/
import Derived.Deep.RegionHeld
import Derived.Deep.RegionLaw
import Derived.OrdersHeld
import Derived.Test.YtakgnkjopbflbaaGreatDoorBe
namespace Go.Proofs.YtakgnkjopbflbaaGreatDoor
open Go.RowKit

section
variable {P : Program} {md : Region.Mode} {ops : Array Oper} {a : Act} {w : World} {Q : Exit → Act → World → Prop}
/-- Of code that does not panic nothing is to be shown of panics. -/
theorem wp_no_panic {c : Code} {K : Act → World → Prop} (h : c.wp P (Exit.then K (fun _ _ _ => False)) a w) : c.wp P (Exit.then K Q) a w :=
  Code.wp_mono (fun e a' w' h' => by cases e <;> first | exact h' | exact (False.elim h')) h
/-- One operation alone may come up. -/
theorem wpAny_one {fuel : Nat} {listed : Array Bool} (i : Nat) (o : Oper) (hr : Region.ready md ops listed = [i]) (ho : ops[i]? = some o)
    (h : ∀ K' : Act → World → Prop, Shut (∀ a w, wpAny P md ops Q fuel (listed.setIfInBounds i true) a w → K' a w) → if Region.wanted o (yielded ops a.tmps) = true then Oper.wp P o a w K' Q else K' (a.put o.dst undef) w) : wpAny P md ops Q (fuel + 1) listed a w :=
  wpAny_ready hr (by simp) (AllReady.cons ho (fun K' hK => h K' hK) AllReady.nil)
end

end Go.Proofs.YtakgnkjopbflbaaGreatDoor
