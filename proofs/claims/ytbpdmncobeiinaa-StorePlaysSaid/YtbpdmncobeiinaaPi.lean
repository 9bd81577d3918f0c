/- The document's store: Names. No condition but sizes. -/
import Derived.Test.YtbpdmncobeiinaaPh
import Derived.Test.YtbpdmncobeiinaaWf
namespace Go.Proofs.Ytbpdmncobeiinaa
open Go.RowKit

/-- The names that show something, in order. -/
def namesOf (L : List RC) : List ByteArray := (L.filter fun c => c.2.1.isSome).map (·.1)

theorem namesOf_snoc (L : List RC) (k : Nat) (c : RC) (h : L[k]? = some c) : namesOf (L.take (k + 1)) = bif c.2.1.isSome then namesOf (L.take k) ++ [c.1] else namesOf (L.take k) := by
  obtain ⟨h1, h2⟩ := List.getElem?_eq_some_iff.1 h
  rw [List.take_succ_eq_append_getElem h1, h2]
  unfold namesOf
  rw [List.filter_append, List.map_append]
  cases hs : c.2.1.isSome <;> simp [hs]

theorem namesOf_le (L : List RC) (k : Nat) : (namesOf (L.take k)).length ≤ k := by
  unfold namesOf
  rw [List.length_map]
  exact Nat.le_trans (List.length_filter_le _ _) (by rw [List.length_take]; omega)

set_option maxRecDepth 100000 in
set_option maxHeartbeats 2000000 in
theorem ref_names (b : Nat) (L : List RC) (O : List (List RC)) (y : RefB) (w : World) (h : RefAt w b L O y) (hL : L.length < 1000000) :
    Calls Try.prog 50 #[.pointer (some ⟨b, 0, none⟩)] w fun e w' => ∃ v, e = .returned v ∧ w'.ownsRow w.heap.size 9 1 v (namesOf L).length ((namesOf L).map Value.string) ∧ Mod w w' Nob := by
  obtain ⟨la, lc, hlv, hlc, hcm⟩ := h.form
  obtain ⟨N, hN⟩ : ∃ N, L.length = N := ⟨_, rfl⟩
  have HN := Lib.hid hN
  obtain ⟨j0, hj, hz0, hz1, hz2⟩ := info_parts info_str
  go_enter Try.func50, Try.ntmps50
  go_wp2_with fail
  go_loopw [3, 4] (fun out i wr => ∃ k : Nat, k ≤ N ∧ i = .int .i64 k ∧ wr.ownsRow w.heap.size 9 1 out (namesOf (L.take k)).length ((namesOf (L.take k)).map Value.string) ∧ Mod w wr Nob) (fun _ i _ => N - (intOf i).toNat)
  case atStart => exact ⟨0, Nat.zero_le _, rfl, World.ownsRow_nil _ _ _ _, Mod.refl _ _⟩
  case round =>
    obtain ⟨k, hk, rfl, hown, hm⟩ := hrel
    have h1 := h.still hm
    by_cases hlt : k < N
    · obtain ⟨c, hc⟩ : ∃ c, L[k]? = some c := ⟨_, List.getElem?_eq_getElem (by rw [HN.out]; exact hlt)⟩
      obtain ⟨g, ba, bn, bc, aa, an, ac, rfl, c0, _, k0, k1, _, _⟩ := h1.read hlv k c hc
      have hsn := namesOf_snoc L k c hc
      have hle := namesOf_le L k
      obtain ⟨o, ho⟩ : ∃ o, c.2.1.isSome = o := ⟨_, rfl⟩
      rw [ho] at k1 hsn
      rw [hN] at c0
      obtain ⟨va, vc, rfl, _, _⟩ := owns_form hown
      obtain ⟨ns, hns⟩ : ∃ ns, namesOf (L.take k) = ns := ⟨_, rfl⟩
      rw [hns] at hsn hle hown
      rw [hns]
      obtain ⟨P, hP⟩ : ∃ P, ns.length = P := ⟨_, rfl⟩
      rw [hP] at hown hle
      rw [hP]
      have HP := Lib.hid hP
      have hN6 : N < 1000000 := by omega
      have HSN := Lib.hid hsn
      have hown1 := owns_mod hown ((Mod.refl wr Nob).alloc (.cells #[.string c.1] 9)) (fun _ _ => nob)
      have hnb := CellsAt.new wr #[.string c.1] 9
      have hsz := hm.size
      clear hsn hns hP hc ho hlv h1 hN
      cases o with
      | true =>
        go_wp2_with (at_builtin; refine wpList_append_lies _ rfl _ _ _ rfl w.heap.size 9 j0 _ 1 16 Try.underlying56 hj hz0 hz1 hz2 rfl (by omega) (.slice va P vc) P _ rfl hown1 ⟨wr.heap.size, 0, none⟩ 1 1 [.string c.1] rfl rfl (World.news_of_block (cs := #[.string c.1]) (t := 9) (fr := (0, 0)) hnb) (by simp [Value.oneCell']) (by omega) (by unfold maxLen; omega) (by omega) (by simp; omega) (wr.heap.size + 1) (by simp) ?_)
        intro gg cap w3 hown3 hgr hat hlt3
        have hm3 := ((Mod.refl wr (inBlock (.slice va P vc))).alloc (.cells #[.string c.1] 9)).grown hgr (fun k hk => .inl hk)
        have hmr := hm.drop hm3 (fun k hk => .inr (hown.lt k hk).1)
        go_wp2_with fail
        refine ⟨⟨k + 1, by omega, by go_num, ?_, hmr⟩, by simp [intOf]; omega⟩
        rw [HSN.out]
        simp only [cond_true, List.length_append, List.map_append, HP.out]
        exact hown3
      | false =>
        go_wp2_with fail
        refine ⟨⟨k + 1, by omega, by go_num, ?_, hm⟩, by simp [intOf]; omega⟩
        rw [HSN.out]
        simp only [cond_false, HP.out]
        exact hown
    · obtain rfl : k = N := by omega
      have hall : L.take k = L := List.take_of_length_le (by rw [HN.out]; exact Nat.le_refl _)
      rw [hall] at hown
      have c0 := h1.cells.cell 0
      rw [hlv, hN] at c0
      simp at c0
      clear hN
      go_wp2_with fail
      go_ret
      exact ⟨_, rfl, hown, hm⟩

end Go.Proofs.Ytbpdmncobeiinaa
