/- Numbers, eight bytes each: keys.eights. The condition: at most a thousand numbers. -/
import Derived.Test.YtakgnkjopbflbaaGreatDoorCt
namespace Go.Proofs.YtakgnkjopbflbaaGreatDoor
open Go.RowKit Go.Shelf
attribute [local go_sem] Oper.semAt_some

set_option maxRecDepth 100000 in
set_option maxHeartbeats 1000000 in
theorem eightsIt_any (a : Option Addr) (n c : Nat) (w : World) :
    Calls Tryz.prog 112 #[.slice a n c] w fun e w' => e = .returned (.func (.func 132) #[] #[.pointer (some ⟨w.heap.size, 0, none⟩)]) ∧ w' = w.alloc (.cells #[.slice a n c] 39) := by
  go_enter Tryz.func112, Tryz.ntmps112
  go_wp2_with fail
  go_ret
  exact ⟨rfl, rfl⟩

/-- No numbers: nothing is yielded. -/
theorem eights_none (n : Nat) (Bs : Nat) (a : Option Addr) (c : Nat) (S : Nat → Prop) (R : List Sc → Sc → World → Prop) (w : World) (h1 : CellsAt w Bs #[.slice a 0 c] 39) :
    SeqTells n Tryz.prog 132 #[.pointer (some ⟨Bs, 0, none⟩)] (fun s : Sc => #[scv s]) (KX S) R (fun xs => xs = []) (fun _ => True) 0 w := fun l J Jx W hW _ _ _ h0 => by
  have h2 : CellsAt W Bs #[.slice a 0 c] 39 := (hW.block Bs h1.lt).trans h1
  have c2 := h2.cell 0
  simp at c2
  refine callsIn_of_wp Tryz.func132 rfl trivial ?_ rfl
  simp only [Tryz.ntmps132, List.size_toArray, List.length_cons, List.length_nil, Nat.reduceAdd, Nat.reduceSub, Array.replicate_succ, Array.replicate_zero, List.push_toArray, List.append_toArray, List.nil_append, List.cons_append]
  gi_wp2
  gi_loopw [7] (fun i wr => i = .int .i64 0 ∧ J [] wr) (fun _ _ => 0)
  case atStart => exact ⟨rfl, h0⟩
  case round =>
    obtain ⟨rfl, hJs⟩ := hrel
    gi_wp2
    go_end0
    exact ⟨⟨_, rfl⟩, .inl ⟨_, rfl, hJs⟩⟩

end Go.Proofs.YtakgnkjopbflbaaGreatDoor
