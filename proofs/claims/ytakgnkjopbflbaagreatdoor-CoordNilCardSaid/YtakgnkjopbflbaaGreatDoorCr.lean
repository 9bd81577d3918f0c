/- So many bytes out of a key: hkdf.Expand at 32 bytes; hkdf.Key. The condition: what stands beside the key has fewer than 2^36 bytes. -/
import Derived.Test.YtakgnkjopbflbaaGreatDoorCq
namespace Go.Proofs.YtakgnkjopbflbaaGreatDoor
open Go.RowKit Go.Shelf
attribute [local go_sem] Oper.semAt_some

theorem pieces_tells (n : Nat) (hn : 1 ≤ n) (Bs : Nat) (key info : List UInt8) (ia : Option Addr) (ic : Nat) (S : Nat → Prop) (hk : key.length = 32) (hi : info.length ≤ 68719476736) (w : World)
    (hS1 : ¬ S Bs) (hS2 : ¬ S (Bs + 1)) (hS3 : ∀ k, inBlock (.slice ia info.length ic) k → ¬ S k) (hS4 : ∀ k, S k → k < w.heap.size)
    (h1 : CellsAt w Bs (arrB key) 22) (h2 : CellsAt w (Bs + 1) #[.slice ia info.length ic] 43) (h3 : BytesAt w (.slice ia info.length ic) info) (hf : ∀ k, inBlock (.slice ia info.length ic) k → k < w.heap.size) :
    SeqTells n Tryz.prog 145 #[.pointer (some ⟨Bs, 0, none⟩), .pointer (some ⟨Bs + 1, 0, none⟩)] (fun s : Sc => #[scv s]) (KX S) (PieceIs key info w) (fun xs => xs.length = 255) (fun _ => True) 255 w := fun l J Jx W hW hJ _ hY h0 => by
  have hm : Mod w W (fun k => w.heap.size ≤ k) := ⟨hW.os, hW.tape, hW.output, hW.size, fun k hk _ => hW.block k hk⟩
  refine (pieces_in n hn l Bs key info ia ic S hk hi w J Jx W hW.size hJ hS1 hS2 hS3 hS4 hY (h1.mod hm (by have := h1.lt; omega)) (h2.mod hm (by have := h2.lt; omega)) (h3.mod hm (fun k hk h => by have := hf k hk; omega)) h0).mono ?_
  rintro e W' ⟨he, ⟨xs, hx, h⟩ | ⟨pre, h⟩⟩
  · exact ⟨he, .inl ⟨xs, hx, h⟩⟩
  · exact ⟨he, .inr ⟨pre, trivial, h⟩⟩

/-- The first piece, gathered. -/
structure ExpAt (w : World) (H b : Nat) (out : List UInt8) (W : World) : Prop where
  n : CellsAt W (H + 1) #[.int .i64 32] 3
  row : ∃ g c, CellsAt W (H + 1 + 1) #[.slice (some ⟨g, 0, none⟩) 32 c] 43 ∧ W.ownsRow b 5 1 (.slice (some ⟨g, 0, none⟩) 32 c) 32 (out.map B)
  md : Mod w W Nob

set_option maxRecDepth 100000 in
set_option maxHeartbeats 4000000 in
theorem expand_any (key info : List UInt8) (ia : Option Addr) (ic : Nat) (w : World) (hk : key.length = 32) (hi : info.length ≤ 68719476736) (hb : BytesAt w (.slice ia info.length ic) info) (hf : ∀ k, inBlock (.slice ia info.length ic) k → k < w.heap.size) :
    Calls Tryz.prog 110 #[.agg (arrB key), .slice ia info.length ic, .int .i64 32] w fun e w' => ∃ g, e = .returned (.tuple #[.slice (some ⟨g, 0, none⟩) 32 32, .int .i64 0]) ∧ w.heap.size ≤ g ∧ BytesAt w' (.slice (some ⟨g, 0, none⟩) 32 32) (macL key (info ++ [1])) ∧ Mod w w' Nob := by
  refine (callsIn_wide (n := 6)).1 ?_
  refine callsIn_of_wp_marks Tryz.func110 rfl trivial ?_ rfl
  simp only [Tryz.ntmps110, List.size_toArray, List.length_cons, List.length_nil, Nat.reduceAdd, Nat.reduceSub, Array.replicate_succ, Array.replicate_zero, List.push_toArray, List.append_toArray, List.nil_append, List.cons_append]
  obtain ⟨inn, hin⟩ : ∃ inn, info.length = inn := ⟨_, rfl⟩
  rw [hin] at hb hf hi ⊢
  have HIN := Lib.hid hin
  clear hin
  refine wpIn_wide.2 ?_
  have m0 := ((Mod.refl w Nob).alloc (.cells (arrB key) 22)).alloc (.cells #[.int .i64 32] 3)
  have c3 := (CellsAt.new w (arrB key) 22).alloc (.cells #[.int .i64 32] 3)
  have c5 := CellsAt.new (w.alloc (.cells (arrB key) 22)) #[.int .i64 32] 3
  rw [World.size_alloc] at c5
  obtain ⟨cs, hcs⟩ : ∃ cs, arrB key = cs := ⟨_, rfl⟩
  have hcz : cs.size = 32 := by rw [← hcs, arrB_size, hk]
  rw [hcs] at c3 c5 m0 ⊢
  have HCS := Lib.hid hcs
  clear hcs
  go_wp2_with (first
    | (refine wpList_load_arr rfl 22 _ rfl w.heap.size 32 5 rfl cs (by with_reducible first | exact c3 | exact c3.alloc _) Tryz.underlying22 size_b32 hcz ?_))
  have hA := (Mod.refl ((w.alloc (.cells cs 22)).alloc (.cells #[.int .i64 32] 3)) Nob).alloc (.cells #[.slice none 0 0] 43)
  have c8 := CellsAt.new ((w.alloc (.cells cs 22)).alloc (.cells #[.int .i64 32] 3)) #[.slice none 0 0] 43
  simp only [World.size_alloc] at c8
  replace c5 := c5.mod hA nob
  replace m0 := m0.trans hA
  have hsz : (((w.alloc (.cells cs 22)).alloc (.cells #[.int .i64 32] 3)).alloc (.cells #[.slice none 0 0] 43)).heap.size = w.heap.size + 3 := by simp
  obtain ⟨W1, hW1⟩ : ∃ W1, ((w.alloc (.cells cs 22)).alloc (.cells #[.int .i64 32] 3)).alloc (.cells #[.slice none 0 0] 43) = W1 := ⟨_, rfl⟩
  rw [hW1] at c8 c5 m0 hsz ⊢
  obtain ⟨H, hH⟩ : ∃ H, w.heap.size = H := ⟨_, rfl⟩
  rw [hH] at c8 c5 hsz hf ⊢
  have HH := Lib.hid hH
  clear hA hW1 hH c3
  refine (pieces_any cs ia inn ic W1).mono ?_
  rintro e W2 ⟨rfl, hW2⟩
  have hA := ((Mod.refl W1 Nob).alloc (.cells cs 22)).alloc (.cells #[.slice ia inn ic] 43)
  have b1 := (CellsAt.new W1 cs 22).alloc (.cells #[.slice ia inn ic] 43)
  have b2 := CellsAt.new (W1.alloc (.cells cs 22)) #[.slice ia inn ic] 43
  have hsz2 : W2.heap.size = H + 5 := by rw [hW2]; simp [hsz]
  rw [World.size_alloc] at b2
  rw [← hW2] at hA b1 b2
  rw [hsz] at b1 b2 ⊢
  replace c5 := c5.mod hA nob
  replace c8 := c8.mod hA nob
  replace m0 := m0.trans hA
  have hb2 := hb.mod m0 (fun _ _ => nob)
  clear hA hW2 hsz hb
  have hseq := pieces_tells 5 (by omega) (H + 3) key info ia ic (· = H + 1 + 1) hk (by rw [HIN.out]; exact hi) W2 (by omega) (by omega) (by rw [HIN.out]; exact fun k hk2 e => by have := hf k hk2; omega) (fun k (e : k = H + 1 + 1) => by omega) (by rw [HCS.out]; exact b1) (by rw [HIN.out]; exact b2) (by rw [HIN.out]; exact hb2) (by rw [HIN.out]; exact fun k hk2 => by have := hf k hk2; omega)
  go_wp2_with fail
  refine (wpIn_wide (n := 6)).1 ?_
  refine wpIn_rangeFunc_told (n := 6) (by omega) (gf := 145) (lb := #[.pointer (some ⟨H + 3, 0, none⟩), .pointer (some ⟨H + 3 + 1, 0, none⟩)]) rfl (enters_of Tryz.func145 (by kernel_rfl) rfl)
    hseq (fun h k => h.trans k) (fun W l o o' _ h1 h2 _ => KX.put W l o o' h1 h2) (fun _ => rfl)
    (fun pre W => pre = [] ∧ CellsAt W (H + 1) #[.int .i64 32] 3 ∧ CellsAt W (H + 1 + 1) #[.slice none 0 0] 43 ∧ Mod w W Nob)
    (fun c pre W => c = .exit 0 ∧ ExpAt w H (H + 5) (expandP key info 0) W) ?own ?ownx ⟨rfl, c5, c8, m0⟩
    (fun pre x a' W => a' = { tmps := #[.agg cs, .slice ia inn ic, .int .i64 32, .pointer (some ⟨H, 0, none⟩), undef, .pointer (some ⟨H + 1, 0, none⟩), .slice none 0 0, .int .i64 0, .pointer (some ⟨H + 1 + 1, 0, none⟩), scv x, .int .i64 32, .bool false, .bool false, .int .i64 32, .bool false, .bool false, .agg cs, .slice ia inn ic, .func (.func 145) #[] #[.pointer (some ⟨H + 3, 0, none⟩), .pointer (some ⟨H + 3 + 1, 0, none⟩)], scv x, undef, undef, undef, undef, undef, undef, undef, undef, undef, undef, undef], defers := [] } ∧ PieceIs key info W2 pre x W) ?ownax
    ?assign ?body ?done ?stop
  case own =>
    rintro pre W W' row ⟨h0, h1, h2, h3⟩ hg hr
    have hc := fun r e => (hr r e).2
    exact ⟨h0, (grownBy_keeps_cells hg hc h1 rfl).trans h1, (grownBy_keeps_cells hg hc h2 rfl).trans h2, h3.grown hg (fun k e => .inr (by have := (hr k e).1; have := HH.out; omega))⟩
  case ownx =>
    rintro c pre W W' row ⟨h0, h1, ⟨g, c', h2, h3⟩, h4⟩ hg hr
    have hc := fun r e => (hr r e).2
    have hm : Mod W W' (fun k => row = some k) := (Mod.refl W _).grown hg (fun k e => .inl e)
    refine ⟨h0, (grownBy_keeps_cells hg hc h1 rfl).trans h1, ⟨g, c', (grownBy_keeps_cells hg hc h2 rfl).trans h2, owns_keep h3 hm (fun e => ?_)⟩, h4.grown hg (fun k e => .inr (by have := (hr k e).1; have := HH.out; omega))⟩
    obtain ⟨o1, h5, h6⟩ := owns_cells h3 g rfl
    obtain ⟨_, o2, h7, h8⟩ := hr g e
    rw [h5] at h7; cases h7; rw [h6] at h8; cases h8
  case ownax =>
    rintro pre x a' _ W W' row ⟨h0, g, h1, h2, h3⟩ hg hr
    exact ⟨h0, g, h1, h2, (grownBy_keeps_cells hg (fun r e => (hr r e).2) h3 rfl).trans h3⟩
  case assign =>
    intro l pre x W K hI hR hK
    gi_wp2
    exact hK _ _ (KeepsFrom.refl _ _) ((KX.of_mod (Mod.refl W Nob) (fun k h => h.elim))) hI ⟨rfl, hR⟩
  case body =>
    rintro l pre x a' W hl _ ⟨rfl, i5, i8, im⟩ ⟨rfl, g, rfl, hg, c9⟩ _
    have hol := expandP_length key info 0
    change CellsAt W g (arrB (expandP key info 0)) _ at c9
    obtain ⟨out, ho⟩ : ∃ out, expandP key info 0 = out := ⟨_, rfl⟩
    rw [ho] at c9 hol
    have HO := Lib.hid ho
    obtain ⟨j0, hj, hz0, hz1, hz2⟩ := info_parts info_u8
    have hgl := c9.lt
    have hnews : ∀ j u, (out.map B)[j]? = some u → W.cell? ((⟨g, 0, none⟩ : Addr).add j) = some u := fun j u hu => by
      have hadd : (⟨g, 0, none⟩ : Addr).add j = ⟨g, j, none⟩ := by unfold Addr.add; split <;> simp_all
      rw [hadd, c9.cell j]
      simpa [arrB] using hu
    have q8 := i8.cell 0
    have q5 := i5.cell 0
    simp at q8 q5
    have hz := im.size
    clear ho hseq b1 b2 hb2 c5 c8 m0 hk
    dsimp only [scv]
    gi_wp2_with (gi_at_builtin; refine wpListIn_append_lies rfl (.tmp 20) (.tmp 21) 43 rfl W2.heap.size 5 j0 _ 1 1 Tryz.underlying43 hj hz0 hz1 hz2 rfl (by omega) (.slice none 0 0) 0 [] rfl (World.ownsRow_nil _ _ _ _) ⟨g, 0, none⟩ 32 32 (out.map B) rfl (by rw [List.length_map, hol]) hnews (bytes_one _) (by omega) (by unfold maxLen; omega) (by omega) (by omega) W.heap.size rfl ?_)
    intro gg cap w3 hown3 hgr hat hlt3
    have hm3 : Mod W w3 Nob := (Mod.refl W Nob).grown hgr (fun k hk => by cases hk)
    have hgg : W.heap.size = gg := by
      rcases hat with h | h
      · cases h
      · exact h.symm
    have i8' := i8.mod hm3 nob
    have i5' := i5.mod hm3 nob
    have q8' := i8'.cell 0
    have f8' := i8'.free 0
    simp at q8'
    have hS := (Mod.refl w3 (· = H + 1 + 1)).setCell (p := ⟨H + 1 + 1, 0, none⟩) (.inl rfl) (.slice (some ⟨gg, 0, none⟩) (0 + 32) cap)
    have c8' := i8'.set 0 (.slice (some ⟨gg, 0, none⟩) (0 + 32) cap)
    have i5'' := i5'.mod hS (by omega)
    have q5' := i5''.cell 0
    have q8'' := c8'.cell 0
    simp at q5' q8''
    have hl8 := i8.lt
    have hown4 := owns_keep hown3 hS (by omega)
    have hm4 := (im.trans hm3).drop hS (fun k (hk : k = H + 1 + 1) => .inr (by have := HH.out; omega))
    have kf := (keepsFrom_mod (B := W2.heap.size) hm3 (fun k h => h.elim)).trans (keepsFrom_mod hS (fun k (hk : k = H + 1 + 1) => by omega))
    clear hj hz0 hz1 hz2 hnews
    gi_wp2_with fail
    exact ⟨kf, rfl, by rw [HO.out]; exact ⟨i5'', ⟨gg, cap, c8', by simpa only [Nat.zero_add, List.nil_append] using hown4⟩, hm4⟩⟩
  case done =>
    rintro D xs W _ hx ⟨rfl, _⟩ _
    cases hx
  case stop =>
    rintro D c pre W hD _ ⟨rfl, h5, ⟨g, c', h8, hrow⟩, hm⟩ hK
    have hol := expandP_length key info 0
    have hout : expandP key info 0 = macL key (info ++ [1]) := rfl
    obtain ⟨out, ho⟩ : ∃ out, macL key (info ++ [1]) = out := ⟨_, rfl⟩
    rw [hout, ho] at hol hrow
    have HO := Lib.hid ho
    have q8 := h8.cell 0
    have q5 := h5.cell 0
    simp at q8 q5
    obtain ⟨_, _, _, hcc, _⟩ := owns_form hrow
    clear ho hout hseq b1 b2 hb2 c5 c8 m0 hk
    refine wpIn_wide.2 ?_
    go_wp2_with fail
    have hgb := (hrow.lt g rfl).1
    have hmD : Mod W (W.putObj D (.deferred none)) (· = D) := (Mod.refl W (· = D)).putObj (.inl rfl) _
    have hgD : g ≠ D := fun e => by
      obtain ⟨o1, h1, h2⟩ := owns_cells hrow g rfl
      rw [e, hK] at h1
      cases h1
      cases h2
    have hrow2 := owns_keep hrow hmD hgD
    refine ⟨by simp, .inl ⟨_, _, rfl, run_takeDeferred hK, ?_⟩⟩
    refine ⟨.tuple #[.slice (some ⟨g, 0, none⟩) 32 32, .int .i64 0], ?_, g, rfl, by have := HH.out; omega, ?_, hm.drop hmD (fun k (hk : k = D) => .inr (by have := HH.out; omega))⟩
    · simp [results, Tryz.f110, go_sem]
    · rw [HO.out]
      refine .inl (.inr ⟨g, 0, 32, by rw [List.length_map, hol], (hrow2.lt g rfl).2, by rw [List.length_map, hol]; exact Nat.le_refl _, by unfold maxLen; omega, fun i u hu => ?_⟩)
      rw [Nat.zero_add]
      exact own_cell hrow2 i u hu

end Go.Proofs.YtakgnkjopbflbaaGreatDoor
