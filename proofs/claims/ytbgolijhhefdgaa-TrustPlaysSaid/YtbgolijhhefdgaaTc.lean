/- What the statements on a Trust come to, as walks: each returns true and writes nothing that was there. No condition. -/
import Derived.Test.YtbgolijhhefdgaaTb
namespace Go.Proofs.Ytbgolijhhefdgaa
open Go.RowKit

def tr0 : Tr := ⟨0, 0, 0, 0, 0⟩

/-- What a new Trust is. -/
def Newed (w : World) (e : Ending) (w' : World) : Prop := ∃ b, e = .returned (.pointer (some ⟨b, 0, none⟩)) ∧ w.heap.size ≤ b ∧ TrAt w' b tr0 ∧ Mod w w' []

theorem new_ok (w : World) : Calls Try.prog 8 #[] w (Newed w) :=
  (new_any w).mono fun e w' ⟨he, hw⟩ => by
    subst hw
    exact ⟨w.heap.size, he, Nat.le_refl _, CellsAt.new w tr0.cells 46, (Mod.refl _ _).alloc _⟩

def Yes (w : World) (e : Ending) (w' : World) : Prop := e = .returned (.bool true) ∧ Mod w w' []

set_option maxHeartbeats 400000 in
theorem awake_yes (w : World) : Calls Try.prog 9 #[] w (Yes w) := by
  go_enter Try.func9, Try.ntmps9
  go_wp2_with fail
  refine (new_ok w).mono ?_
  rintro e w1 ⟨b, rfl, hb, ht, hm⟩
  go_wp2_with fail
  refine (begin_ok b _ w1 ht (by decide) (by decide)).mono ?_
  rintro e w2 ⟨rfl, ht2, hm2⟩
  go_wp2_with fail
  refine (move_ok b _ w2 ht2 (by decide) (by decide) (by decide)).mono ?_
  rintro e w3 ⟨rfl, ht3, hm3⟩
  go_wp2_with fail
  refine (count_any b _ w3 ht3).mono ?_
  rintro e w4 ⟨rfl, rfl⟩
  go_wp2_with fail
  go_ret
  refine ⟨rfl, (hm.drop (hm2.trans hm3) ?_)⟩
  intro x hx
  simp at hx
  omega

theorem pass_nil (n : Int) (w : World) : Calls Try.prog 15 #[.pointer none, .int .i64 n] w fun e w' => e = .returned (.tuple #[]) ∧ w = w' := by
  go_enter Try.func15, Try.ntmps15
  go_wp2
  go_end0
  exact ⟨rfl, rfl⟩

set_option maxHeartbeats 400000 in
theorem nil_walk (n epoch : Int) (w : World) : Calls Try.prog 7 #[.int .i64 n, .int .u64 epoch] w (Yes w) := by
  go_enter Try.func7, Try.ntmps7
  go_wp2_with fail
  refine (pass_nil n w).mono ?_
  rintro e w1 ⟨rfl, rfl⟩
  go_wp2_with (first | (go_at_call 9; refine (awake_yes _).mono ?_; rintro e w' ⟨rfl, hm⟩) | go_in)
  go_ret
  exact ⟨rfl, hm⟩

theorem nil_law (n epoch : Int) (w : World) (_ : (Lit.int .i64 n).wf = true) (_ : (Lit.int .u64 epoch).wf = true) : Calls Try.prog 7 #[.int .i64 n, .int .u64 epoch] w (Yes w) := nil_walk n epoch w

end Go.Proofs.Ytbgolijhhefdgaa
