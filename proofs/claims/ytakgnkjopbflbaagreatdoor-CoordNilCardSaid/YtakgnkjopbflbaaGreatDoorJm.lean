/- The entries that count: journal.Entries. The condition: fewer than 2^30. -/
import Derived.Test.YtakgnkjopbflbaaGreatDoorJe
namespace Go.Proofs.YtakgnkjopbflbaaGreatDoor
open Go.RowKit Go.Shelf
set_option linter.unusedSimpArgs false

theorem info_ent : (Tryz.prog.info? 93).map (fun i => (i.zero, i.size, i.bytes)) = some (some (.agg #[.int .i64 0, .int .i64 0, .int .u64 0, .int .i64 0]), 4, 32) := by kernel_rfl

set_option maxRecDepth 100000 in
set_option maxHeartbeats 1000000 in
theorem clone_ents (v : Value) (n : Nat) (xs : List Value) (w : World) (h : w.ownsRow 0 93 4 v n xs) (h1 : ∀ u ∈ xs, u.oneCell' = true) (hn : n < 1073741824) :
    Calls Tryz.prog 59 #[v] w fun e w' => ∃ a c, e = .returned (.slice a n c) ∧ w'.ownsRow w.heap.size 93 4 (.slice a n c) n xs ∧ Mod w w' Nob := by
  obtain ⟨i0, hi, hz0, hz1, hz2⟩ := info_parts info_ent
  obtain ⟨a, c, rfl, _, _⟩ := owns_form h
  have hne := @Lib.run_eql_slice_nil Tryz.prog
  rcases h.2 with ⟨e0, e1⟩ | ⟨g, cap', cur, e0, _⟩
  · cases e0
    have hx : xs = [] := List.eq_nil_of_length_eq_zero (by simpa using h.1)
    subst hx
    go_enter Tryz.func59, Tryz.ntmps59
    go_wp2
    go_ret
    exact ⟨_, _, rfl, World.ownsRow_nil _ _ _ _, Mod.refl _ _⟩
  · cases e0
    have hA := (Mod.refl w Nob).alloc (.cells #[] 93)
    have ho := owns_mod h hA (fun _ _ => nob)
    have hown := World.ownsRow_made (base := w.heap.size) (e := 93) (size := 4) w #[] 0 (Nat.le_refl _) (by unfold maxLen; omega) (by simp)
    have hl := ho.1
    have hc : ∀ j u, xs[j]? = some u → (w.alloc (.cells #[] 93)).cell? ((⟨g, 0, none⟩ : Addr).add j) = some u := ho.cells (g := g) rfl
    go_enter Tryz.func59, Tryz.ntmps59
    obtain ⟨v', w', hrun, r1, r2, r3, r4⟩ := run_append_at (P := Tryz.prog) (w.alloc (.cells #[] 93)) 90 90 93 i0 _ 4 32 Tryz.underlying90 hi hz0 hz1 hz2 rfl (by omega) w.heap.size (.slice (some ⟨w.heap.size, 0, none⟩) 0 0) 0 [] (by simpa using hown) ⟨g, 0, none⟩ n c xs (by omega) hc h1 (by unfold maxLen; omega) (by omega) (by simp)
    go_wp2_with (at_builtin; refine wpList_append_run (P := Tryz.prog) _ rfl (.tmp 5) (.tmp 6) 90 90 rfl _ _ rfl rfl v' w' hrun ?_)
    go_ret
    rw [Nat.zero_add, List.nil_append] at r1
    obtain ⟨a', c', rfl, _, _⟩ := owns_form r1
    exact ⟨a', c', rfl, r1, ((Mod.refl w Nob).alloc _).grown r2 (fun k hk => by simp [Value.ownBlock] at hk; omega)⟩

theorem ents_one (es : List Ent) : ∀ u ∈ es.flatMap Ent.cells, u.oneCell' = true := fun u hu => by
  obtain ⟨e, _, h⟩ := List.mem_flatMap.1 hu
  simp [Ent.cells] at h
  rcases h with rfl | rfl | rfl | rfl <;> rfl

set_option maxRecDepth 100000 in
set_option maxHeartbeats 1000000 in
theorem entries_any (J m : Nat) (ea : Option Addr) (ec base : Nat) (es : List Ent) (w : World) (h35 : w.cell? ⟨J, 35, none⟩ = some (.slice ea m ec)) (hown : w.ownsRow base 93 4 (.slice ea m ec) m (es.flatMap Ent.cells)) (hm : m < 1073741824) :
    Calls Tryz.prog 29 #[.pointer (some ⟨J, 0, none⟩)] w fun e w' => ∃ a c, e = .returned (.slice a m c) ∧ w'.ownsRow w.heap.size 93 4 (.slice a m c) m (es.flatMap Ent.cells) ∧ Mod w w' Nob := by
  have hcl := clone_ents _ m _ w (owns_base hown) (ents_one es) hm
  go_enter Tryz.func29, Tryz.ntmps29
  go_wp2_with fail
  refine hcl.mono ?_
  rintro r w' ⟨a, c, rfl, h1, h2⟩
  go_wp2_with fail
  go_ret
  exact ⟨a, c, rfl, h1, h2⟩

end Go.Proofs.YtakgnkjopbflbaaGreatDoor
