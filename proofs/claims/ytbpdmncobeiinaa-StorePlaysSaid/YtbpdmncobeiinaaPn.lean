/- The helper Kept of bytes that were kept. No condition. -/
import Derived.Test.YtbpdmncobeiinaaPm
namespace Go.Proofs.Ytbpdmncobeiinaa
open Go.RowKit

set_option maxRecDepth 100000 in
set_option maxHeartbeats 2000000 in
theorem kept_bytes (base g : Nat) (v : Value) (l : List UInt8) (f : UInt8) (w : World) (hr : w.ownsRow base 5 1 (.slice (some ⟨g, 0, none⟩) (l.length + 3) (l.length + 3)) (l.length + 3) ((l ++ [f, f, f]).map B)) (hv : BytesAt w v l) (hl : l.length ≤ 100000) :
    Calls Try.prog 27 #[.slice (some ⟨g, 0, none⟩) l.length (l.length + 3), v, B f] w (Looks w (.bool true)) := by
  have hlt := (hr.lt g rfl).2
  have hcell : ∀ (i : Nat) (x : UInt8), (l ++ [f, f, f])[i]? = some x → w.cell? ⟨g, i, none⟩ = some (B x) := fun i x hi => own_cell hr i (B x) (by rw [List.getElem?_map, hi]; rfl)
  have hu : RowIn w (.slice (some ⟨g, 0, none⟩) l.length (l.length + 3)) (l.map B) := .inl (.inr ⟨g, 0, l.length + 3, by simp, hlt, by simp, by unfold maxLen; omega, fun i x hi => by
    rw [Nat.zero_add]
    have hil : i < l.length := by have := (List.getElem?_eq_some_iff.1 hi).1; simpa using this
    rw [List.getElem?_map] at hi
    obtain ⟨z, hz, rfl⟩ := Option.map_eq_some_iff.1 hi
    exact hcell i z (by rw [List.getElem?_append_left hil]; exact hz)⟩)
  have hp := plain_byte _ v l w hu hv
  have hx : ∀ k, k < 3 → w.cell? ⟨g, l.length + k, none⟩ = some (B f) := fun k hk => hcell _ f (by
    rw [List.getElem?_append_right (by omega), Nat.add_sub_cancel_left]
    match k, hk with
    | 0, _ => rfl
    | 1, _ => rfl
    | 2, _ => rfl)
  obtain ⟨va, vc, hvf, _, _⟩ := hv.form
  rw [List.length_map] at hvf
  obtain ⟨n, hn⟩ : ∃ n, l.length = n := ⟨_, rfl⟩
  rw [hn] at hvf hp hx hl ⊢
  subst hvf
  have e3 : ((n : Int) + 3).toNat = n + 3 := by omega
  have hsl : ∀ W, (Instr.slice 22 (.slice (some ⟨g, 0, none⟩) n (n + 3)) none (some (.int .i64 ((n : Int) + 3))) none).run Try.prog W = .ok (.slice (some ⟨g, 0, none⟩) (n + 3) (n + 3)) W := fun W => by
    have he : Try.prog.elem 22 = 5 := by simp [Program.elem, Try.underlying22]
    rw [run_slice_h W 22 (some ⟨g, 0, none⟩) n (n + 3) (by rw [he]; exact Try.underlying22) .i64 ((n : Int) + 3) (by omega) (by omega), he, Try.sizeOf5]
    simp [Result.andThen, sliced, Addr.add, e3]
  have hB : B f = .int .u8 (f.toNat : Int) := rfl
  rw [hB]
  simp only [hB] at hx
  clear hr hcell hu hv hn
  go_enter Try.func27, Try.ntmps27
  go_wp2_with fail
  refine hp.mono ?_
  rintro e w1 ⟨rfl, m, hm⟩
  have m1 : Mod w w1 Nob := by rw [hm]; exact (Mod.refl w Nob).drewN m
  have HM := Lib.hid hm
  clear hm hp
  go_wp2_with fail
  go_loop [8] (fun i => ∃ k : Nat, k ≤ 3 ∧ i = .int .i64 ((n + k : Nat) : Int)) (fun i => n + 3 - (intOf i).toNat)
  case atStart => exact ⟨0, by omega, rfl⟩
  case round =>
    obtain ⟨k, hk, rfl⟩ := hrel
    by_cases h3 : k < 3
    · have hc := hx k h3
      have hc1 : w1.cell? ⟨g, n + k, none⟩ = some (.int .u8 (f.toNat : Int)) := by rw [m1.cell (cell_lt hc) nob]; exact hc
      obtain ⟨q, hq⟩ : ∃ q, n + k = q := ⟨_, rfl⟩
      rw [hq] at hc1 ⊢
      have hqn : q < n + 3 := by omega
      have HQ := Lib.hid hq
      clear hc hx hq
      go_wp2_with fail
      exact ⟨⟨k + 1, by omega, by rw [← Nat.add_assoc, HQ.out]; go_num⟩, by simp [intOf]; omega⟩
    · obtain rfl : k = 3 := by omega
      go_wp2_with fail
      go_ret
      exact ⟨rfl, m, HM.out⟩

end Go.Proofs.Ytbpdmncobeiinaa
