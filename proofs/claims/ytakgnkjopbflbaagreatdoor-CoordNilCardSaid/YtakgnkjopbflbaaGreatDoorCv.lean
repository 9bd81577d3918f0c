/- A word: keys.info of no numbers. No condition. -/
import Derived.Laws.IdiomStrings
import Derived.Test.YtakgnkjopbflbaaGreatDoorCu
namespace Go.Proofs.YtakgnkjopbflbaaGreatDoor
open Go.RowKit Go.Shelf
attribute [local go_sem] Oper.semAt_some

/-- A string's bytes. -/
def strL (s : ByteArray) : List UInt8 := s.data.toList
/-- A string turned to bytes. -/
theorem bytes_of_str (s : ByteArray) (w : World) (hs : s.size ≤ 1099511627776) : ∃ G W1, (convert 9 43 (.string s)).run Tryz.prog w = .ok (.slice (some ⟨w.heap.size, 0, none⟩) s.size G) W1 ∧ Mod w W1 Nob ∧ w.heap.size < W1.heap.size ∧ BytesAt W1 (.slice (some ⟨w.heap.size, 0, none⟩) s.size G) (strL s) := by
  have hl : (strL s).length = s.size := Array.length_toList ..
  have hge := grownCap_ge w s.size 0 5
  have hle := grownCap_le_maxLen w s.size 0 5 (by unfold maxLen; omega)
  refine ⟨_, _, run_bytes_of_string (P := Tryz.prog) w 9 43 5 s Tryz.underlying9 Tryz.underlying43 Tryz.underlying5, (Mod.refl w Nob).drew.alloc _, by simp, ?_⟩
  refine .inl (.inr ⟨w.heap.size, 0, _, by rw [List.length_map, hl], by simp, by rw [List.length_map, hl]; exact hge, hle, fun i u hi => ?_⟩)
  rw [List.getElem?_map, Option.map_eq_some_iff] at hi
  obtain ⟨x, hx, rfl⟩ := hi
  have hx2 : s.data[i]? = some x := by simpa [strL] using hx
  obtain ⟨hlt, hv⟩ := Array.getElem?_eq_some_iff.1 hx2
  have hb := bytesRow_at s (grownCap w s.size 0 5) i hlt
  rw [hv] at hb
  rw [Nat.zero_add]
  unfold World.cell?
  have hh : (w.drew.alloc (.cells (bytesRow s (grownCap w s.size 0 5)) 5 ((bytesRow s (grownCap w s.size 0 5)).size, (bytesRow s (grownCap w s.size 0 5)).size + 1))).heap[w.heap.size]? = _ := World.alloc_heap_new w.drew _
  rw [hh]
  exact hb

set_option maxRecDepth 100000 in
set_option maxHeartbeats 2000000 in
theorem info0_any (s : ByteArray) (c : Nat) (w : World) (hs : s.size ≤ 1099511627776) :
    Calls Tryz.prog 77 #[.string s, .slice none 0 c] w fun e w' => ∃ g G, e = .returned (.slice (some ⟨g, 0, none⟩) s.size G) ∧ w.heap.size ≤ g ∧ g < w'.heap.size ∧ BytesAt w' (.slice (some ⟨g, 0, none⟩) s.size G) (strL s) ∧ Mod w w' Nob := by
  refine (callsIn_wide (n := 6)).1 ?_
  refine callsIn_of_wp_marks Tryz.func77 rfl trivial ?_ rfl
  simp only [Tryz.ntmps77, List.size_toArray, List.length_cons, List.length_nil, Nat.reduceAdd, Nat.reduceSub, Array.replicate_succ, Array.replicate_zero, List.push_toArray, List.append_toArray, List.nil_append, List.cons_append]
  refine wpIn_wide.2 ?_
  obtain ⟨G, W1, hconv, hmW, hzW, hbW⟩ : ∃ G W1, (convert 9 43 (.string s)).run Tryz.prog w = .ok (.slice (some ⟨w.heap.size, 0, none⟩) s.size G) W1 ∧ Mod w W1 Nob ∧ w.heap.size < W1.heap.size ∧ BytesAt W1 (.slice (some ⟨w.heap.size, 0, none⟩) s.size G) (strL s) := bytes_of_str s w hs
  go_wp2_with fail
  obtain ⟨H, hH⟩ : ∃ H, w.heap.size = H := ⟨_, rfl⟩
  rw [hH] at hzW hbW ⊢
  have HH := Lib.hid hH
  obtain ⟨Z, hZ⟩ : ∃ Z, s.size = Z := ⟨_, rfl⟩
  rw [hZ] at hbW ⊢
  have HZ := Lib.hid hZ
  have c5 := CellsAt.new W1 #[.slice (some ⟨H, 0, none⟩) Z G] 43
  have hA := (Mod.refl W1 Nob).alloc (.cells #[.slice (some ⟨H, 0, none⟩) Z G] 43)
  have hz2 : (W1.alloc (.cells #[.slice (some ⟨H, 0, none⟩) Z G] 43)).heap.size = W1.heap.size + 1 := by simp
  refine (eightsIt_any none 0 c _).mono ?_
  rintro e W2 ⟨rfl, hW2⟩
  have hB := hA.alloc (.cells #[.slice none 0 c] 39)
  have cb := CellsAt.new (W1.alloc (.cells #[.slice (some ⟨H, 0, none⟩) Z G] 43)) #[.slice none 0 c] 39
  replace c5 := c5.alloc (.cells #[.slice none 0 c] 39)
  rw [hz2] at cb ⊢
  rw [← hW2] at hB cb c5
  have hb2 := hbW.mod hB (fun _ _ => nob)
  have m2 := hmW.trans hB
  have hz3 := hB.size
  obtain ⟨T, hT⟩ : ∃ T, W1.heap.size = T := ⟨_, rfl⟩
  rw [hT] at c5 cb hzW hz3 ⊢
  have hlt := cb.lt
  have hseq := eights_none 5 (T + 1) none c (fun _ => True) (fun _ _ _ => False) W2 cb
  clear hA hB hW2 hconv hmW hbW hz2 hT hH hZ
  go_wp2_with fail
  refine (wpIn_wide (n := 6)).1 ?_
  refine wpIn_rangeFunc_told (n := 6) (by omega) (gf := 132) (lb := #[.pointer (some ⟨T + 1, 0, none⟩)]) rfl (enters_of Tryz.func132 (by kernel_rfl) rfl)
    hseq (fun h k => h.trans k) (fun W l o o' _ h1 h2 _ => KX.put W l o o' h1 h2) (fun _ => rfl)
    (fun pre W => pre = [] ∧ CellsAt W T #[.slice (some ⟨H, 0, none⟩) Z G] 43 ∧ Mod w W Nob ∧ Mod W2 W Nob)
    (fun _ _ _ => False) ?own (fun _ _ _ _ _ h _ _ => h) ⟨rfl, c5, m2, Mod.refl _ _⟩
    (fun _ _ _ _ => False) (fun _ _ _ _ _ _ _ h _ _ => h)
    ?assign ?body ?done ?stop
  case own =>
    rintro pre W W' row ⟨h0, h1, h2, h3⟩ hg hr
    exact ⟨h0, (grownBy_keeps_cells hg (fun r e => (hr r e).2) h1 rfl).trans h1, h2.grown hg (fun k e => .inr (by have := (hr k e).1; have := HH.out; omega)), h3.grown hg (fun k e => .inr (hr k e).1)⟩
  case assign =>
    intro l pre x W K _ h
    exact h.elim
  case body =>
    intro l pre x a' W _ _ _ h
    exact h.elim
  case stop =>
    intro D c' pre W _ _ h
    exact h.elim
  case done =>
    rintro D xs W hD _ ⟨_, h5, hm, hm2⟩ hK
    have hb3 := hb2.mod hm2 (fun _ _ => nob)
    have q5 := h5.cell 0
    simp at q5
    have hz4 := hm2.size
    have hmD : Mod W (W.putObj D (.deferred none)) (· = D) := (Mod.refl W (· = D)).putObj (.inl rfl) _
    clear hb2 c5 cb hseq m2
    go_wp2_with fail
    refine ⟨by simp, .inl ⟨_, _, rfl, run_takeDeferred hK, ?_⟩⟩
    refine ⟨.slice (some ⟨H, 0, none⟩) Z G, ?_, H, G, by rw [HZ.out], by have := HH.out; omega, by have := hmD.size; omega, ?_, hm.drop hmD (fun k (hk : k = D) => .inr (by have := HH.out; omega))⟩
    · simp [results, Tryz.f77, go_sem]
    · rw [HZ.out]
      exact hb3.mod hmD (fun k hk (e : k = D) => by
        have e2 : H = k := by simpa [inBlock, Value.ownBlock] using hk
        omega)

end Go.Proofs.YtakgnkjopbflbaaGreatDoor
