/- The helpers Own and Kept of bytes. No condition but sizes. -/
import Derived.Test.YtbpdmncobeiinaaPk
namespace Go.Proofs.Ytbpdmncobeiinaa
open Go.RowKit

theorem own_append {w : World} {g c : Nat} {Z : Array Value} (hg : w.heap[g]? = some (.cells Z 5 (0, 0))) (hZ : Z.size = c) (hcm : c ≤ maxLen) (v : Value) (l : List UInt8) (hv : BytesAt w v l) (hc : l.length ≤ c) :
    ∃ W2 Z2, (Builtin.append_ #[22, 22] 22 #[.slice (some ⟨g, 0, none⟩) 0 c, v]).run Try.prog w = .ok (.slice (some ⟨g, 0, none⟩) l.length c) W2 ∧ CellsAt W2 g Z2 5 ∧ Z2.size = c ∧ Z2.toList.take l.length = l.map B ∧ Mod w W2 (· = g) := by
  obtain ⟨i0, hi, hz0, hz1, hz2⟩ := info_parts info_u8
  have hsome : ∀ (b o cc : Nat), (∀ (i : Nat) x, (l.map B)[i]? = some x → w.cell? ⟨b, o + i, none⟩ = some x) → ∃ W2 Z2, (Builtin.append_ #[22, 22] 22 #[.slice (some ⟨g, 0, none⟩) 0 c, .slice (some ⟨b, o, none⟩) l.length cc]).run Try.prog w = .ok (.slice (some ⟨g, 0, none⟩) l.length c) W2 ∧ CellsAt W2 g Z2 5 ∧ Z2.size = c ∧ Z2.toList.take l.length = l.map B ∧ Mod w W2 (· = g) := fun b o cc hx => by
    have hr := run_append_room (P := Try.prog) w 22 22 5 i0 Try.underlying22 hi g 0 c Z hg ⟨b, o, none⟩ l.length cc (l.map B) (by rw [hz1]; simp) (fun j u hj => by rw [Addr.add_lit]; exact hx j u hj) (bytes_one l) (by omega) (by rw [List.length_map]; omega)
    rw [Nat.zero_add] at hr
    refine ⟨_, _, hr, setRow_heap w g Z _ _ _ hg, ?_, ?_, ⟨rfl, rfl, rfl, by simp [World.setRow], fun k _ hk => setRow_other w g k _ hk⟩⟩
    · simp [hZ]
      omega
    · have : l.length = (l.map B).length := by simp
      simp
  rcases hv with (⟨rfl, hnil⟩ | ⟨b, o, cap, rfl, hb, hl, hcc, hx⟩) | ⟨hnil, ad, cap, rfl, hcc⟩
  · have hl0 : l = [] := List.map_eq_nil_iff.1 hnil
    subst hl0
    have hown : w.ownsRow 0 5 1 (.slice (some ⟨g, 0, none⟩) 0 c) 0 [] := ⟨rfl, .inr ⟨g, c, Z, rfl, Nat.zero_le _, hg, Nat.zero_le _, hcm, by rw [hZ, Nat.mul_one], by simp⟩⟩
    exact ⟨w, Z, run_append_owned_none (P := Try.prog) w 0 _ _ _ i0 1 Try.underlying22 hi _ 0 [] hown, hg, hZ, by simp, Mod.refl _ _⟩
  · have := hsome b o cap hx
    rw [List.length_map]
    exact this
  · have hl0 : l = [] := List.map_eq_nil_iff.1 hnil
    subst hl0
    obtain ⟨ab, ao, sp⟩ := ad
    have hr := run_append_room (P := Try.prog) w 22 22 5 i0 Try.underlying22 hi g 0 c Z hg ⟨ab, ao, sp⟩ 0 cap [] (by simp) (fun j u hj => by simp at hj) (by simp) (by omega) (by simp)
    rw [Nat.zero_add] at hr
    refine ⟨_, _, hr, setRow_heap w g Z _ _ _ hg, ?_, ?_, ⟨rfl, rfl, rfl, by simp [World.setRow], fun k _ hk => setRow_other w g k _ hk⟩⟩
    · simp [hZ]
    · simp

set_option maxRecDepth 100000 in
set_option maxHeartbeats 1000000 in
theorem own_bytes (v : Value) (l : List UInt8) (f : UInt8) (w : World) (hv : BytesAt w v l) (hl : l.length ≤ 100000) :
    Calls Try.prog 25 #[v, B f] w fun e w' => e = .returned (.slice (some ⟨w.heap.size, 0, none⟩) l.length (l.length + 3)) ∧
      w'.ownsRow w.heap.size 5 1 (.slice (some ⟨w.heap.size, 0, none⟩) (l.length + 3) (l.length + 3)) (l.length + 3) ((l ++ [f, f, f]).map B) ∧ Mod w w' Nob := by
  obtain ⟨i0, hi, hz0, hz1, hz2⟩ := info_parts info_u8
  obtain ⟨va, vc, hvf, _, hvm⟩ := hv.form
  rw [List.length_map] at hvf
  subst hvf
  unfold maxLen at hvm
  obtain ⟨n, hn⟩ : ∃ n, l.length = n := ⟨_, rfl⟩
  rw [hn] at hv hl ⊢
  obtain ⟨G, hG⟩ : ∃ G, w.heap.size = G := ⟨_, rfl⟩
  rw [hG]
  have hmk0 := run_makeSlice (P := Try.prog) w 22 5 i0 (.int .u8 0) Try.underlying22 hi hz0 .i64 .i64 0 ((n : Int) + 3) (by omega) (by omega) (by rw [hz1]; omega) (by rw [hz2]; omega) (by omega)
  have e3 : ((n : Int) + 3).toNat = n + 3 := by omega
  rw [e3, hz1, hG] at hmk0
  obtain ⟨Z, hZ⟩ : ∃ Z, madeCells (Value.int IntKind.u8 0).cells ((n + 3) * 1) = Z := ⟨_, rfl⟩
  have hZs : Z.size = n + 3 := by rw [← hZ, size_madeCells, Nat.mul_one]
  rw [hZ] at hmk0
  have hmk : (Instr.makeSlice 22 (.int .i64 0) (.int .i64 ((n : Int) + 3))).run Try.prog w = .ok (.slice (some ⟨G, 0, none⟩) 0 (n + 3)) (w.alloc (.cells Z 5)) := by simpa using hmk0
  have cZ := CellsAt.new w Z 5
  rw [hG] at cZ
  have m1 := (Mod.refl w Nob).alloc (.cells Z 5)
  obtain ⟨W2, Z2, hap, c2, hs2, ht2, m2⟩ := own_append cZ hZs (by unfold maxLen; omega) (.slice va n vc) l (hv.mod m1 (fun _ _ => nob)) (by omega)
  rw [hn] at hap ht2
  have mW2 := m1.drop m2 (fun k (hk : k = G) => .inr (by omega))
  have hsl : ∀ W, (Instr.slice 22 (.slice (some ⟨G, 0, none⟩) n (n + 3)) none (some (.int .i64 ((n : Int) + 3))) none).run Try.prog W = .ok (.slice (some ⟨G, 0, none⟩) (n + 3) (n + 3)) W := fun W => by
    have he : Try.prog.elem 22 = 5 := by simp [Program.elem, Try.underlying22]
    rw [run_slice_h W 22 (some ⟨G, 0, none⟩) n (n + 3) (by rw [he]; exact Try.underlying22) .i64 ((n : Int) + 3) (by omega) (by omega), he, Try.sizeOf5]
    simp [Result.andThen, sliced, Addr.add, e3]
  have HN := Lib.hid hn
  have HG := Lib.hid hG
  clear hmk0 hZ hZs cZ m1 m2 hi hz0 hz1 hz2 hv hn hG
  have hB : B f = .int .u8 (f.toNat : Int) := rfl
  rw [hB]
  go_enter Try.func25, Try.ntmps25
  go_wp2_with (at_builtin; refine wpList_append_run (P := Try.prog) _ rfl _ _ 22 22 rfl _ _ rfl rfl _ W2 hap ?_)
  clear hmk hap hsl
  go_loopw [7] (fun i wr => ∃ k : Nat, k ≤ 3 ∧ i = .int .i64 ((n + k : Nat) : Int) ∧ ∃ Z : Array Value, CellsAt wr G Z 5 ∧ Z.size = n + 3 ∧ Z.toList.take (n + k) = (l ++ List.replicate k f).map B ∧ Mod w wr Nob) (fun i _ => n + 3 - (intOf i).toNat)
  case atStart => exact ⟨0, by omega, rfl, Z2, c2, hs2, by simpa using ht2, mW2⟩
  case round =>
    obtain ⟨k, hk, rfl, Z, cZ, hZs, hZt, hm⟩ := hrel
    clear c2 hs2 ht2 mW2
    by_cases hlt : k < 3
    · obtain ⟨x, hx⟩ : ∃ x, Z[n + k]? = some x := ⟨_, Array.getElem?_eq_getElem (by omega)⟩
      have hc := cZ.cell (n + k)
      rw [hx] at hc
      have hf := cZ.free (n + k)
      have cS := cZ.set (n + k) (.int .u8 (f.toNat : Int))
      have hG2 : w.heap.size ≤ G := Nat.le_of_eq HG.out
      have mS := hm.setCell (p := ⟨G, n + k, none⟩) (.inr hG2) (.int .u8 (f.toNat : Int))
      have htk : (Z.setIfInBounds (n + k) (.int .u8 (f.toNat : Int))).toList.take (n + (k + 1)) = (l ++ List.replicate (k + 1) f).map B := by
        have h1 : n + k < (Z.toList.set (n + k) (.int .u8 (f.toNat : Int))).length := by simp; omega
        rw [Array.toList_setIfInBounds, ← Nat.add_assoc, List.take_succ_eq_append_getElem h1, List.take_set_of_le (Nat.le_refl _), hZt, List.getElem_set_self, List.replicate_succ', ← List.append_assoc, List.map_append (l₁ := l ++ List.replicate k f)]
        rfl
      have HT := Lib.hid htk
      obtain ⟨m, hm'⟩ : ∃ m, n + k = m := ⟨_, rfl⟩
      rw [hm'] at hc hf cS mS
      have hidx : ((n + k : Nat) : Int) = (m : Int) := by omega
      have hmn : m < n + 3 := by omega
      rw [hidx]
      clear htk hZt hx cZ hidx
      go_wp2_with fail
      refine ⟨⟨k + 1, by omega, by rw [← hm']; go_num, _, cS, by simpa using hZs, by rw [← hm']; exact HT.out, mS⟩, by simp [intOf]; omega⟩
    · obtain rfl : k = 3 := by omega
      go_wp2_with fail
      go_ret
      refine ⟨rfl, ?_, hm⟩
      have hrep : List.replicate 3 f = [f, f, f] := rfl
      rw [hrep] at hZt
      refine ⟨by simp [HN.out], .inr ⟨G, n + 3, Z, rfl, Nat.le_refl _, cZ, Nat.le_refl _, by unfold maxLen; omega, by rw [hZs, Nat.mul_one], ?_⟩⟩
      rw [Nat.mul_one]
      exact hZt

end Go.Proofs.Ytbpdmncobeiinaa
