/- Numbers as bytes: octet.Eights, Words, High. No condition but sizes. -/
import Derived.Laws.MakeOwn
import Derived.Laws.OwnMore
import Derived.Test.YtakgnkjopbflbaaGreatDoorCb
namespace Go.Proofs.YtakgnkjopbflbaaGreatDoor
open Go.RowKit

/-- Numbers as cells. -/
def U64 (x : Nat) : Value := .int .u64 (x : Int)
/-- Numbers, eight bytes each. -/
def eightsL (ns : List Nat) : List UInt8 := (ns.map (leB 8)).flatten
theorem eightsL_length : ∀ ns : List Nat, (eightsL ns).length = 8 * ns.length
  | [] => rfl
  | n :: ns => by
    have := eightsL_length ns
    simp only [eightsL, List.map_cons, List.flatten_cons, List.length_append, leB_length, List.length_cons] at this ⊢
    omega
theorem eightsL_snoc (ns : List Nat) (n : Nat) : eightsL (ns ++ [n]) = eightsL ns ++ leB 8 n := by simp [eightsL]

theorem row_at {w : World} {a : Option Addr} {n c : Nat} {xs : List Value} (h : RowIn w (.slice a n c) xs) (k : Nat) (x : Value) (hx : xs[k]? = some x) : ∃ b o, a = some ⟨b, o, none⟩ ∧ w.cell? ⟨b, o + k, none⟩ = some x := by
  rcases h with (⟨_, h2⟩ | ⟨b, o, cap, h1, _, _, _, h4⟩) | ⟨h1, _⟩
  · subst h2; simp at hx
  · cases h1
    exact ⟨b, o, rfl, h4 k x hx⟩
  · subst h1; simp at hx

/-- An empty row with room. -/
theorem make_bytes (c : Nat) (w : World) (hc : c ≤ 1099511627776) : ∃ w', (Instr.makeSlice 43 (.int .i64 0) (.int .i64 (c : Int))).run Tryz.prog w = .ok (.slice (some ⟨w.heap.size, 0, none⟩) 0 c) w' ∧
    w'.ownsRow w.heap.size 5 1 (.slice (some ⟨w.heap.size, 0, none⟩) 0 c) 0 [] ∧ Mod w w' Nob := by
  obtain ⟨j0, hj, hz0, hz1, hz2⟩ := info_parts info_u8
  obtain ⟨w', h1, h2, h3⟩ := run_make_own (P := Tryz.prog) w w.heap.size 43 5 j0 _ 1 Tryz.underlying43 hj hz0 hz1 .i64 .i64 c (by rw [hz2]; omega) (by unfold maxLen; omega) (Nat.le_refl _)
  exact ⟨w', h1, h2, (Mod.refl w Nob).grown h3 (fun k hk => by cases hk)⟩

set_option maxRecDepth 100000 in
set_option maxHeartbeats 1000000 in
theorem eights_any (v : Value) (ns : List Nat) (w : World) (hv : RowIn w v (ns.map U64)) (hn : ns.length ≤ 1000) :
    Calls Tryz.prog 85 #[v] w fun e w' => ∃ a c, e = .returned (.slice a (8 * ns.length) c) ∧ w'.ownsRow w.heap.size 5 1 (.slice a (8 * ns.length) c) (8 * ns.length) ((eightsL ns).map B) ∧ Mod w w' Nob := by
  obtain ⟨a, c, rfl, hlc, hcm⟩ := hv.form
  rw [List.length_map] at hlc ⊢
  unfold maxLen at hcm
  obtain ⟨N, hN⟩ : ∃ N, ns.length = N := ⟨_, rfl⟩
  rw [hN] at hlc hn ⊢
  have HN := Lib.hid hN
  clear hN
  obtain ⟨w0, hrun, hown0, hm0⟩ := make_bytes (8 * N) w (by omega)
  have e8 : ((8 * N : Nat) : Int) = 8 * (N : Int) := by simp
  rw [e8] at hrun
  clear e8
  go_enter Tryz.func85, Tryz.ntmps85
  go_wp2_with fail
  go_loopw [3, 5, 12] (fun b _ i wr => ∃ j : Nat, j ≤ N ∧ i = .int .i64 j ∧ ∃ a c, b = .slice a (8 * j) c ∧ wr.ownsRow w.heap.size 5 1 (.slice a (8 * j) c) (8 * j) ((eightsL (ns.take j)).map B) ∧ Mod w wr Nob) (fun _ _ i _ => N - (intOf i).toNat)
  case atStart => exact ⟨0, Nat.zero_le _, rfl, _, _, rfl, hown0, hm0⟩
  case round =>
    clear hrun hown0 hm0
    obtain ⟨j, hjk, rfl, a1, c1, rfl, hown, hm⟩ := hrel
    have h0 := hm.size
    by_cases hlt : j < N
    · obtain ⟨x, hx⟩ : ∃ x, ns[j]? = some x := ⟨_, List.getElem?_eq_getElem (by rw [HN.out]; exact hlt)⟩
      have hsn := eightsL_snoc (ns.take j) x
      rw [← take_snoc ns j x hx] at hsn
      obtain ⟨b, o, rfl, hc⟩ := row_at hv j (U64 x) (by rw [List.getElem?_map, hx]; rfl)
      have hc' : wr.cell? ⟨b, o + j, none⟩ = some (.int .u64 (x : Int)) := by rw [hm.cell (cell_lt hc) nob]; exact hc
      obtain ⟨t, ht⟩ : ∃ t, eightsL (ns.take j) = t := ⟨_, rfl⟩
      rw [ht] at hown hsn
      have HS := Lib.hid hsn
      obtain ⟨P, hP⟩ : ∃ P, 8 * j = P := ⟨_, rfl⟩
      rw [hP] at hown
      rw [hP]
      have hP2 : P ≤ 8000 := by omega
      have HP := Lib.hid hP
      clear hc hx hsn hP hv ht
      go_wp2_with fail
      refine (putlow_any w.heap.size P a1 c1 t x 8 wr hown (by omega) (by omega) h0).mono ?_
      rintro e w3 ⟨a3, c3, rfl, hown3, hm3, hin3⟩
      have hm4 := hm.drop hm3 (fun k hk => .inr (hown.lt k hk).1)
      clear hown hm3 hin3
      go_wp2_with fail
      refine ⟨⟨j + 1, by omega, by go_num, a3, c3, ?_, ?_, hm4⟩, by simp [intOf]; omega⟩
      · have : 8 * (j + 1) = P + 8 := by have := HP.out; omega
        rw [this]
      · have : 8 * (j + 1) = P + 8 := by have := HP.out; omega
        rw [this, HS.out]
        exact hown3
    · obtain rfl : j = N := by omega
      have hall : ns.take j = ns := List.take_of_length_le (by rw [HN.out]; omega)
      rw [hall] at hown
      clear hv
      go_wp2_with fail
      go_ret
      exact ⟨a1, c1, rfl, hown, hm⟩

end Go.Proofs.YtakgnkjopbflbaaGreatDoor
