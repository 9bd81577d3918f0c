/- maps.Clone of a store's maps, slices.Clone of its rows; Fork of a store. The condition: fewer than 2^30 changes. -/
import Derived.Shelf.SlMaps.Clone
import Derived.Deep.RegionHeld3
import Derived.Test.YtbpdmncobeiinaaWb
import Derived.Test.YtbpdmncobeiinaaSf
namespace Go.Proofs.Ytbpdmncobeiinaa
open Go.RowKit Go.Shelf

/-- A map's copy. -/
def MapCopied (f : ByteArray → Option Value) (w : World) (e : Ending) (w' : World) : Prop := e = .returned (.map (some w.heap.size)) ∧ MapAt Value.string w' w.heap.size f ∧ Mod w w' Nob

set_option maxRecDepth 100000 in
set_option maxHeartbeats 2000000 in
theorem clone_shows (r : Nat) (f : ByteArray → Option Value) (w : World) (h : MapAt Value.string w r f) : Calls Try.prog 44 #[.map (some r)] w (MapCopied f w) := by
  obtain ⟨es, clock, hb, h1, h2, h3, hf⟩ := h
  have hq := fun w => run_eql_map_nil_sl (P := Try.prog) w 62 _ _ (some r) Try.underlying62
  go_enter Try.func44, Try.ntmps44
  go_wp2
  rw [run_callFunc_extern Try.func61 (by kernel_rfl) (by kernel_rfl) (by kernel_rfl) (e := Extern.MapsClone.clone) (by kernel_rfl), run_maps_clone_sl w 62 hb]
  simp only [Result.andThen]
  rw [Oper.upon_value]
  go_wp2
  rw [run_typeAssert_map_sl _ 62 _ _ _ _ Try.underlying62]
  simp only [Result.andThen]
  rw [Oper.upon_value]
  go_wp2
  go_ret
  exact ⟨rfl, ⟨es, clock, World.alloc_heap_new _ _, h1, h2, h3, hf⟩, (Mod.refl w Nob).alloc _⟩

set_option maxRecDepth 100000 in
set_option maxHeartbeats 2000000 in
theorem clone_vers (r : Nat) (f : ByteArray → Option Value) (w : World) (h : MapAt Value.string w r f) : Calls Try.prog 45 #[.map (some r)] w (MapCopied f w) := by
  obtain ⟨es, clock, hb, h1, h2, h3, hf⟩ := h
  have hq := fun w => run_eql_map_nil_sl (P := Try.prog) w 63 _ _ (some r) Try.underlying63
  go_enter Try.func45, Try.ntmps45
  go_wp2
  rw [run_callFunc_extern Try.func61 (by kernel_rfl) (by kernel_rfl) (by kernel_rfl) (e := Extern.MapsClone.clone) (by kernel_rfl), run_maps_clone_sl w 63 hb]
  simp only [Result.andThen]
  rw [Oper.upon_value]
  go_wp2
  rw [run_typeAssert_map_sl _ 63 _ _ _ _ Try.underlying63]
  simp only [Result.andThen]
  rw [Oper.upon_value]
  go_wp2
  go_ret
  exact ⟨rfl, ⟨es, clock, World.alloc_heap_new _ _, h1, h2, h3, hf⟩, (Mod.refl w Nob).alloc _⟩

/-- A row's copy. -/
def RowCopied (t : TypeId) (size n : Nat) (xs : List Value) (w : World) (e : Ending) (w' : World) : Prop := ∃ v, e = .returned v ∧ w'.ownsRow w.heap.size t size v n xs ∧ Mod w w' Nob

theorem owns_copy {w : World} {base : Nat} {t : TypeId} {size : Nat} {g n c : Nat} {xs : List Value} (h : w.ownsRow base t size (.slice (some ⟨g, 0, none⟩) n c) n xs) : xs.length = n * size ∧ ∀ j u, xs[j]? = some u → w.cell? ((⟨g, 0, none⟩ : Addr).add j) = some u := ⟨h.1, h.cells (g := g) rfl⟩

set_option maxRecDepth 100000 in
set_option maxHeartbeats 1000000 in
theorem clone_changes (v : Value) (n : Nat) (xs : List Value) (w : World) (h : w.ownsRow 0 77 3 v n xs) (h1 : ∀ u ∈ xs, u.oneCell' = true) (hn : n < 1073741824) :
    Calls Try.prog 46 #[v] w (RowCopied 77 3 n xs w) := by
  obtain ⟨i0, hi, hz0, hz1, hz2⟩ := info_parts info_change
  obtain ⟨a, c, rfl, _, _⟩ := owns_form h
  have hne := @Lib.run_eql_slice_nil Try.prog
  rcases h.2 with ⟨e0, e1⟩ | ⟨g, cap', cur, e0, _⟩
  · cases e0
    have hx : xs = [] := List.eq_nil_of_length_eq_zero (by simpa using h.1)
    subst hx
    go_enter Try.func46, Try.ntmps46
    go_wp2
    go_ret
    exact ⟨_, rfl, World.ownsRow_nil _ _ _ _, Mod.refl _ _⟩
  · cases e0
    have hA := (Mod.refl w Nob).alloc (.cells #[] 77)
    have ho := owns_mod h hA (fun _ _ => nob)
    have hown := World.ownsRow_made (base := w.heap.size) (e := 77) (size := 3) w #[] 0 (Nat.le_refl _) (by unfold maxLen; omega) (by simp)
    obtain ⟨hl, hc⟩ := owns_copy ho
    go_enter Try.func46, Try.ntmps46
    obtain ⟨v', w', hrun, r1, r2, r3, r4⟩ := run_append_at (P := Try.prog) (w.alloc (.cells #[] 77)) 64 64 77 i0 _ 3 48 Try.underlying64 hi hz0 hz1 hz2 rfl (by omega) w.heap.size (.slice (some ⟨w.heap.size, 0, none⟩) 0 0) 0 [] (by simpa using hown) ⟨g, 0, none⟩ n c xs (by omega) hc h1 (by unfold maxLen; omega) (by omega) (by simp)
    go_wp2_with (at_builtin; refine wpList_append_run (P := Try.prog) _ rfl (.tmp 5) (.tmp 6) 64 64 rfl _ _ rfl rfl v' w' hrun ?_)
    go_ret
    refine ⟨v', rfl, by simpa using r1, ((Mod.refl w Nob).alloc _).grown r2 (fun k hk => by simp [Value.ownBlock] at hk; omega)⟩

set_option maxRecDepth 100000 in
set_option maxHeartbeats 1000000 in
theorem clone_ints (v : Value) (n : Nat) (xs : List Value) (w : World) (h : w.ownsRow 0 3 1 v n xs) (h1 : ∀ u ∈ xs, u.oneCell' = true) (hn : n < 1073741824) :
    Calls Try.prog 47 #[v] w (RowCopied 3 1 n xs w) := by
  obtain ⟨i0, hi, hz0, hz1, hz2⟩ := info_parts info_int
  obtain ⟨a, c, rfl, _, _⟩ := owns_form h
  have hne := @Lib.run_eql_slice_nil Try.prog
  rcases h.2 with ⟨e0, e1⟩ | ⟨g, cap', cur, e0, _⟩
  · cases e0
    have hx : xs = [] := List.eq_nil_of_length_eq_zero (by simpa using h.1)
    subst hx
    go_enter Try.func47, Try.ntmps47
    go_wp2
    go_ret
    exact ⟨_, rfl, World.ownsRow_nil _ _ _ _, Mod.refl _ _⟩
  · cases e0
    have hA := (Mod.refl w Nob).alloc (.cells #[] 3)
    have ho := owns_mod h hA (fun _ _ => nob)
    have hown := World.ownsRow_made (base := w.heap.size) (e := 3) (size := 1) w #[] 0 (Nat.le_refl _) (by unfold maxLen; omega) (by simp)
    obtain ⟨hl, hc⟩ := owns_copy ho
    obtain ⟨v', w', hrun, r1, r2, r3, r4⟩ := run_append_at (P := Try.prog) (w.alloc (.cells #[] 3)) 36 36 3 i0 _ 1 8 Try.underlying36 hi hz0 hz1 hz2 rfl (by omega) w.heap.size (.slice (some ⟨w.heap.size, 0, none⟩) 0 0) 0 [] (by simpa using hown) ⟨g, 0, none⟩ n c xs (by omega) hc h1 (by unfold maxLen; omega) (by omega) (by simp)
    go_enter Try.func47, Try.ntmps47
    go_wp2_with (at_builtin; refine wpList_append_run (P := Try.prog) _ rfl (.tmp 5) (.tmp 6) 36 36 rfl _ _ rfl rfl v' w' hrun ?_)
    go_ret
    refine ⟨v', rfl, by simpa using r1, ((Mod.refl w Nob).alloc _).grown r2 (fun k hk => by simp [Value.ownBlock] at hk; omega)⟩

end Go.Proofs.Ytbpdmncobeiinaa
