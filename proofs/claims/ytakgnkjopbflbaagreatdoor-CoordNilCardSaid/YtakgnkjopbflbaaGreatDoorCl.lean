/- A hash: sha.Sum. The condition: fewer than 2^38 bytes together. -/
import Derived.Test.YtakgnkjopbflbaaGreatDoorCk
import Derived.Test.YtakgnkjopbflbaaGreatDoorBm
import Derived.Test.YtakgnkjopbflbaaGreatDoorBe
namespace Go.Proofs.YtakgnkjopbflbaaGreatDoor
open Go.RowKit Go.Shelf
attribute [local go_sem] Oper.semAt_some

def shaInit : S8 := ⟨1779033703, 3144134277, 1013904242, 2773480762, 1359893119, 2600822924, 528734635, 1541459225⟩
/-- The state behind so many blocks of a message. -/
def shaBlocks (m : List UInt8) : Nat → S8
  | 0 => shaInit
  | i + 1 => (shaBlocks m i).mix kList ((m.drop (64 * i)).take 64)
def S8.words (s : S8) : List UInt32 := [s.a, s.b, s.c, s.d, s.e, s.f, s.g, s.h]
/-- Words, byte by byte. -/
def wordsB (ws : List UInt32) : List UInt8 := (ws.map fun x => beB 4 x.toNat).flatten
/-- A message with what stands behind it. -/
def shaM (l : List UInt8) : List UInt8 := l ++ padL l.length
/-- The hash of some bytes. -/
def shaL (l : List UInt8) : List UInt8 := wordsB (shaBlocks (shaM l) ((shaM l).length / 64)).words

theorem wordsB_snoc (ws : List UInt32) (x : UInt32) : wordsB (ws ++ [x]) = wordsB ws ++ beB 4 x.toNat := by simp [wordsB]
theorem wordsB_length : ∀ ws : List UInt32, (wordsB ws).length = 4 * ws.length
  | [] => rfl
  | x :: ws => by
    have := wordsB_length ws
    unfold wordsB at this ⊢
    rw [List.map_cons, List.flatten_cons, List.length_append, this, beB_length, List.length_cons]
    omega
theorem shaL_length (l : List UInt8) : (shaL l).length = 32 := by unfold shaL; rw [wordsB_length]; rfl
theorem shaM_length (l : List UInt8) : (shaM l).length = l.length + 9 + (119 - l.length % 64) % 64 := by unfold shaM; rw [List.length_append, padL_length]; omega
theorem shaM_mod (l : List UInt8) : (shaM l).length % 64 = 0 := by rw [shaM_length]; omega
theorem words_cells (s : S8) : s.cells = (s.words.map V32).toArray := rfl
theorem cells8_one (s : S8) : s.cells.all (·.oneCell') = true := by simp [S8.cells, Value.oneCell']
theorem zeros32 : (Value.agg #[.int .u8 0, .int .u8 0, .int .u8 0, .int .u8 0, .int .u8 0, .int .u8 0, .int .u8 0, .int .u8 0, .int .u8 0, .int .u8 0, .int .u8 0, .int .u8 0, .int .u8 0, .int .u8 0, .int .u8 0, .int .u8 0, .int .u8 0, .int .u8 0, .int .u8 0, .int .u8 0, .int .u8 0, .int .u8 0, .int .u8 0, .int .u8 0, .int .u8 0, .int .u8 0, .int .u8 0, .int .u8 0, .int .u8 0, .int .u8 0, .int .u8 0, .int .u8 0]) = .agg ((List.replicate 32 (0 : UInt8)).map B).toArray := rfl

theorem RowsAt.mod {w w' : World} {S : Nat → Prop} {v : Value} {ls : List (List UInt8)} (h : RowsAt w v ls) (hm : Mod w w' S) (hn : ∀ k, ¬ S k) : RowsAt w' v ls := by
  obtain ⟨us, h1, h2, h3⟩ := h
  exact ⟨us, h1.mod hm (fun k _ => hn k), h2, fun i u l hu hl => (h3 i u l hu hl).mod hm (fun k _ => hn k)⟩

theorem KC.of_mod {Bs : Nat} {A B : World} {T : Nat → Prop} (h : Mod A B T) (hB : Bs + 1 < A.heap.size) (hT : ∀ k, T k → k ≠ Bs ∧ k ≠ Bs + 1) : KC Bs A B :=
  ⟨h.block Bs (by omega) (fun k => (hT _ k).1 rfl), h.block (Bs + 1) hB (fun k => (hT _ k).2 rfl)⟩
theorem KC.put {Bs : Nat} {w : World} (hB : Bs + 1 < w.heap.size) (W : World) (l : Nat) (o o' : Obj) (hl : w.heap.size ≤ l) (ho : W.heap[l]? = some o) (_ : o.isCells = false) (_ : o.isWalk = false) : KC Bs W (W.putObj l o') :=
  KC.of_mod ((Mod.refl W (· = l)).putObj (.inl rfl) o') (by have := heap_lt ho; omega) (fun k (hk : k = l) => ⟨by omega, by omega⟩)

/-- A piece is the bytes where it lies. -/
theorem piece_at {w : World} {base g N c q j : Nat} {m : List UInt8} (h : w.ownsRow base 5 1 (.slice (some ⟨g, 0, none⟩) N c) N (m.map B)) (hq2 : q ≤ 1000) : BytesAt w (pieceV g 0 N q j) ((m.drop (q * j)).take q) := by
  have hl : m.length = N := by simpa using h.1
  refine .inl (.inr ⟨g, 0 + q * j, pieceLen N q j, ?_, ?_, ?_, ?_, ?_⟩)
  · unfold pieceV pieceLen
    rw [List.length_map, List.length_take, List.length_drop, hl]
  · exact (h.lt g rfl).2
  · unfold pieceLen
    rw [List.length_map, List.length_take, List.length_drop, hl]
    exact Nat.le_refl _
  · unfold pieceLen maxLen; omega
  · intro i u hi
    rw [List.getElem?_map, Option.map_eq_some_iff] at hi
    obtain ⟨x, hx, rfl⟩ := hi
    have hi2 : i < q := by
      have := (List.getElem?_eq_some_iff.1 hx).1
      rw [List.length_take] at this
      omega
    rw [List.getElem?_take_of_lt hi2, List.getElem?_drop] at hx
    have := own_cell h (q * j + i) (B x) (by rw [List.getElem?_map, hx]; rfl)
    rwa [Nat.zero_add]

theorem owns_keep {w w' : World} {T : Nat → Prop} {base : Nat} {e : TypeId} {size g c : Nat} {n : Nat} {xs : List Value} (h : w.ownsRow base e size (.slice (some ⟨g, 0, none⟩) n c) n xs) (hm : Mod w w' T) (hn : ¬ T g) : w'.ownsRow base e size (.slice (some ⟨g, 0, none⟩) n c) n xs :=
  owns_mod h hm (fun k hk => by
    have e2 : g = k := by simpa [inBlock, Value.ownBlock] using hk
    subst e2
    exact hn)

/-- The state behind the pieces of some numbers. -/
def shaFold (m : List UInt8) (is : List Nat) : S8 := is.foldl (fun s i => s.mix kList ((m.drop (64 * i)).take 64)) shaInit
theorem shaFold_snoc (m : List UInt8) (is : List Nat) (i : Nat) : shaFold m (is ++ [i]) = (shaFold m is).mix kList ((m.drop (64 * i)).take 64) := by simp [shaFold]
theorem shaFold_range (m : List UInt8) : ∀ n, shaFold m (List.range n) = shaBlocks m n
  | 0 => rfl
  | n + 1 => by rw [List.range_succ, shaFold_snoc, shaFold_range m n]; rfl
/-- The table, the state, the row. -/
structure ShaAt (w : World) (H S g M k b : Nat) (m : List UInt8) (s : S8) (W : World) : Prop where
  st : CellsAt W (S + 1) s.cells 277
  ks : CellsAt W S (arr32 kList 64) 275
  out : CellsAt W H ((List.replicate 32 (0 : UInt8)).map B).toArray 22
  row : W.ownsRow b 5 1 (.slice (some ⟨g, 0, none⟩) M k) M (m.map B)
  md : Mod w W Nob
  size : S + 4 ≤ W.heap.size

set_option maxRecDepth 100000 in
set_option maxHeartbeats 4000000 in
theorem sha_any (v : Value) (ls : List (List UInt8)) (w : World) (hv : RowsAt w v ls) (hl : total ls ≤ 274877906944) :
    Calls Tryz.prog 146 #[v] w fun e w' => e = .returned (.agg ((shaL ls.flatten).map B).toArray) ∧ Mod w w' Nob := by
  refine (callsIn_wide (n := 6)).1 ?_
  refine callsIn_of_wp_marks Tryz.func146 rfl trivial ?_ rfl
  simp only [Tryz.ntmps146, List.size_toArray, List.length_cons, List.length_nil, Nat.reduceAdd, Nat.reduceSub, Array.replicate_succ, Array.replicate_zero, List.push_toArray, List.append_toArray, List.nil_append, List.cons_append]
  refine wpIn_wide.2 ?_
  go_wp2_with fail
  have hv0 : RowsAt (w.alloc (.cells ((List.replicate 32 (0 : UInt8)).map B).toArray 22)) v ls := hv.mod ((Mod.refl w Nob).alloc _) (fun _ => nob)
  have c2l := (CellsAt.new w ((List.replicate 32 (0 : UInt8)).map B).toArray 22).lt
  have m0 := (Mod.refl w Nob).alloc (.cells ((List.replicate 32 (0 : UInt8)).map B).toArray 22)
  have c2 := CellsAt.new w ((List.replicate 32 (0 : UInt8)).map B).toArray 22
  obtain ⟨W1, hW1⟩ : ∃ W1, w.alloc (.cells ((List.replicate 32 (0 : UInt8)).map B).toArray 22) = W1 := ⟨_, rfl⟩
  change Calls _ _ _ (w.alloc (.cells ((List.replicate 32 (0 : UInt8)).map B).toArray 22)) _
  rw [hW1] at hv0 m0 c2 c2l ⊢
  have q0 := m0.size
  clear hW1 hv
  obtain ⟨H, hH⟩ : ∃ H, w.heap.size = H := ⟨_, rfl⟩
  rw [hH] at c2 c2l q0 ⊢
  have HH := Lib.hid hH
  clear hH
  obtain ⟨i0, hi, hz0, hz1, hz2⟩ := info_parts info_u8
  refine (concat_bytes v ls W1 hv0 (by omega)).mono ?_
  rintro e W2 ⟨va, rfl, hown, m1⟩
  rw [total_flatten] at hown
  have hfl := total_flatten ls
  obtain ⟨l, hl2⟩ : ∃ l, ls.flatten = l := ⟨_, rfl⟩
  obtain ⟨T, hT⟩ : ∃ T, total ls = T := ⟨_, rfl⟩
  rw [hl2] at hown hfl
  rw [hT] at hown hfl hl
  have HL := Lib.hid hl2
  clear hT hl2 hv0
  obtain ⟨a1, k1, rfl, hk1, hk2⟩ := owns_form hown
  unfold maxLen at hk2
  replace m0 := m0.trans m1
  replace c2 := c2.mod m1 nob
  have q1 := m1.size
  clear m1
  go_wp2_with fail
  refine (pad_any T W2 (by omega)).mono ?_
  rintro e W3 ⟨ap, cp, rfl, hownp, m1⟩
  have hpl := padL_length T
  replace m0 := m0.trans m1
  replace c2 := c2.mod m1 nob
  have q2 := m1.size
  have hown2 := owns_mod hown m1 (fun _ _ => nob)
  have hbp := BytesAt.of_owns hownp
  obtain ⟨pl, hpe⟩ : ∃ pl, padL T = pl := ⟨_, rfl⟩
  obtain ⟨PL, hPL⟩ : ∃ PL, pl.length = PL := ⟨_, rfl⟩
  rw [hpe] at hbp hpl
  rw [hpe]
  rw [hPL] at hpl hbp
  rw [hPL]
  have HPE := Lib.hid hpe
  have HPL := Lib.hid hPL
  have hpl1 : PL ≤ 72 := by omega
  have hpl9 : 9 ≤ PL := by omega
  have hpT : (T + PL) % 64 = 0 := by omega
  have HPM := Lib.hid hpT
  clear m1 hown hownp hpe hpl hpT hPL
  go_wp2_with (at_builtin; refine wpList_append_row _ rfl _ _ 43 rfl W1.heap.size 5 i0 _ 1 Tryz.underlying43 hi hz0 hz1 hz2 rfl _ _ _ rfl hown2 _ (pl.map B) rfl hbp (bytes_one _) (by rw [List.length_map, HPL.out]; unfold maxLen; omega) (by rw [List.length_map, HPL.out]; omega) (by omega) ?_)
  intro v4 W4 hown4 hgr4 _ hin4
  have m1 := (Mod.refl W3 (inBlock (.slice a1 T k1))).grown hgr4 (fun k hk => .inl hk)
  have hb4 : ∀ k, inBlock v4 k → W1.heap.size ≤ k := fun k hk => (hown4.lt k hk).1
  replace c2 := c2.mod m1 (fun hk => by have := (hown2.lt _ hk).1; omega)
  replace m0 := m0.drop m1 (fun k hk => .inr (by have := (hown2.lt _ hk).1; have := HH.out; omega))
  have q4 := m1.size
  rw [← List.map_append, HPL.out] at hown4
  obtain ⟨mm, hmm⟩ : ∃ mm, l ++ pl = mm := ⟨_, rfl⟩
  have hml : mm.length = T + PL := by rw [← hmm, List.length_append, hfl, HPL.out]
  rw [hmm] at hown4
  obtain ⟨M, hM⟩ : ∃ M, T + PL = M := ⟨_, rfl⟩
  rw [hM] at hown4 hml
  have HMM := Lib.hid hmm
  have HML := Lib.hid hml
  have HFL := Lib.hid hfl
  have hM1 : 9 ≤ M := by omega
  have hM2 : M ≤ 274877907016 := by omega
  have HM := Lib.hid hM
  obtain ⟨a4, k4, rfl, hk4, hk5⟩ := owns_form hown4
  unfold maxLen at hk5
  obtain ⟨g, rfl⟩ : ∃ g, a4 = some ⟨g, 0, none⟩ := by
    rcases hown4.2 with ⟨_, h0⟩ | ⟨g, cap', cur, h0, _⟩
    · omega
    · cases h0; exact ⟨g, rfl⟩
  have hg1 := hb4 g rfl
  clear hown2 hbp hgr4 hin4 m1 hM hml hmm hfl hb4 hk1 hk2 hl hpl1 hpl9 hi hz0 hz1 hz2
  go_wp2_with fail
  refine (kwords_any W4).mono ?_
  rintro e W5 ⟨rfl, m1⟩
  have ko := arr32_size kList 64 (by rw [kList_length]; omega)
  have kz := arr32_size [] 64 (by simp)
  have k1' := arr32_one kList 64
  replace m0 := m0.trans m1
  replace c2 := c2.mod m1 nob
  replace hown4 := owns_mod hown4 m1 (fun _ _ => nob)
  have q5 := m1.size
  clear m1
  go_wp2_with (first
    | (refine wpList_store_arr rfl 275 _ _ rfl W5.heap.size 64 (arr32 kList 64) (arr32 [] 64) rfl rfl (by exact CellsAt.new W5 (arr32 [] 64) 275) size_a64 ko kz k1' ?_))
  have hA := (((Mod.refl W5 Nob).alloc (.cells (arr32 [] 64) 275)).setRow (g := W5.heap.size) (.inr (Nat.le_refl _)) (arr32 kList 64)).alloc (.cells shaInit.cells 277)
  have cK := ((CellsAt.new W5 (arr32 [] 64) 275).setRow (arr32 kList 64)).alloc (.cells shaInit.cells 277)
  have cS : CellsAt (((W5.alloc (.cells (arr32 [] 64) 275)).setRow W5.heap.size (arr32 kList 64)).alloc (.cells shaInit.cells 277)) (W5.heap.size + 1) shaInit.cells 277 := new_at (by simp)
  have hsz6 : (((W5.alloc (.cells (arr32 [] 64) 275)).setRow W5.heap.size (arr32 kList 64)).alloc (.cells shaInit.cells 277)).heap.size = W5.heap.size + 2 := by simp
  change Calls _ _ _ (((W5.alloc (.cells (arr32 [] 64) 275)).setRow W5.heap.size (arr32 kList 64)).alloc (.cells shaInit.cells 277)) _
  obtain ⟨W6, hW6⟩ : ∃ W6, (((W5.alloc (.cells (arr32 [] 64) 275)).setRow W5.heap.size (arr32 kList 64)).alloc (.cells shaInit.cells 277)) = W6 := ⟨_, rfl⟩
  rw [hW6] at hA cK cS hsz6 ⊢
  clear hW6
  replace m0 := m0.trans hA
  have lH := c2.lt
  have lg := (hown4.lt g rfl).2
  replace c2 := c2.mod hA nob
  replace hown4 := owns_mod hown4 hA (fun _ _ => nob)
  obtain ⟨S, hS⟩ : ∃ S, W5.heap.size = S := ⟨_, rfl⟩
  rw [hS] at cK cS hsz6 q5 lH lg ⊢
  clear hA hS ko kz k1'
  refine (chunk_any (some ⟨g, 0, none⟩) M k4 64 (by omega) W6).mono ?_
  rintro e W7 ⟨rfl, hW7⟩
  have hA := ((Mod.refl W6 Nob).alloc (.cells #[.slice (some ⟨g, 0, none⟩) M k4] 43)).alloc (.cells #[.int .i64 ((64 : Nat) : Int)] 3)
  have cb1 := (CellsAt.new W6 #[.slice (some ⟨g, 0, none⟩) M k4] 43).alloc (.cells #[.int .i64 ((64 : Nat) : Int)] 3)
  have cb2 := CellsAt.new (W6.alloc (.cells #[.slice (some ⟨g, 0, none⟩) M k4] 43)) #[.int .i64 ((64 : Nat) : Int)] 3
  rw [World.size_alloc] at cb2
  have hsz7 : W7.heap.size = S + 4 := by rw [hW7]; simp [hsz6]
  rw [← hW7] at hA cb1 cb2
  rw [hsz6] at cb1 cb2 ⊢
  replace m0 := m0.trans hA
  replace c2 := c2.mod hA nob
  replace cK := cK.mod hA nob
  replace cS := cS.mod hA nob
  replace hown4 := owns_mod hown4 hA (fun _ _ => nob)
  clear hA hW7 hsz6
  go_wp2_with fail
  have hro : pieceN M 64 * 64 = M := by
    have := HM.out
    have := HPM.out
    unfold pieceN
    omega
  have HRO := Lib.hid hro
  clear hro
  refine (wpIn_wide (n := 6)).1 ?_
  refine wpIn_rangeFunc_ownG (F := Fence.wide) (n := 6) rfl (by omega) (gf := 143) (lb := #[.pointer (some ⟨S + 2, 0, none⟩), .pointer (some ⟨S + 2 + 1, 0, none⟩)]) rfl trivial (enters_of Tryz.func143 (by kernel_rfl) rfl)
    (chunk_stops 5 (by omega) (S + 2) g 0 M k4 64 (by omega) (by omega) hk4 (by omega) W7 cb1 cb2) (fun h k => h.trans k) (KC.put (by omega)) (Below.refl _ _) (fun _ => rfl)
    (fun pre W => ShaAt w H S g M k4 W1.heap.size mm (shaFold mm (pre.map Fin.val)) W) (fun _ _ _ => False) ?own (fun _ _ _ _ _ hs _ _ => hs)
    ⟨cS, cK, c2, hown4, m0, by omega⟩
    (fun x => { tmps := #[v, undef, .pointer (some ⟨H, 0, none⟩), .slice (some ⟨g, 0, none⟩) M k4, .pointer (some ⟨S, 0, none⟩), .pointer (some ⟨S + 1, 0, none⟩), pieceV g 0 M 64 x.val, undef, undef, undef, v, .slice a1 T k1, .slice a1 T k1, .slice a1 T k1, .int .i64 T, .slice ap PL cp, .slice (some ⟨g, 0, none⟩) M k4, .agg (arr32 kList 64), .agg shaInit.cells, .slice (some ⟨g, 0, none⟩) M k4, .func (.func 143) #[] #[.pointer (some ⟨S + 2, 0, none⟩), .pointer (some ⟨S + 2 + 1, 0, none⟩)], pieceV g 0 M 64 x.val, undef, undef, undef, undef, undef, undef, undef, undef, undef, undef, undef, undef, undef, undef, undef, undef], defers := [] })
    ?assign ?body ?done ?stop
  case own =>
    intro pre W W' row hs hg hr
    have hm : Mod W W' (W7.heap.size ≤ ·) := (Mod.refl W _).grown hg (fun k e => .inl (by have := (hr k e).1; omega))
    have := hs.row.lt g rfl
    have := hm.size
    have := hs.size
    have hrow := owns_keep hs.row hm (by omega)
    have := m0.size
    exact ⟨hs.st.mod hm (by omega), hs.ks.mod hm (by omega), hs.out.mod hm (by omega), hrow, hs.md.drop hm (fun k hk => .inr (by omega)), by omega⟩
  case stop =>
    intro D c pre W _ _ h
    exact h.elim
  case assign =>
    intro l x W K hK
    gi_wp2
    exact hK
  case body =>
    intro l pre x W hI hlt
    have hx : 64 * x.val < M := by have := x.isLt; have := HRO.out; omega
    have hbx := piece_at (j := x.val) (q := 64) hI.row (by omega)
    have hm1 := HML.out
    have hx6 : ((mm.drop (64 * x.val)).take 64).length = 64 := by
      rw [List.length_take, List.length_drop]
      have := HRO.out
      have := x.isLt
      omega
    dsimp only
    obtain ⟨s, hs⟩ : ∃ s, shaFold mm (pre.map Fin.val) = s := ⟨_, rfl⟩
    obtain ⟨pv, hpv⟩ : ∃ pv, pieceV g 0 M 64 x.val = pv := ⟨_, rfl⟩
    rw [hs] at hI
    rw [hpv] at hbx ⊢
    have HSS := Lib.hid hs
    clear hs hpv cb1 cb2 cK cS c2 hown4 m0
    gi_wp2_with (first
      | (refine wpListIn_load_arr rfl 277 _ rfl (S + 1) 8 220 rfl s.cells hI.st Tryz.underlying277 size_a8 (cells8_size s) ?_))
    have hmx := mixed_any s S kList pv _ W hI.ks kList_length hbx hx6
    obtain ⟨s', hs'⟩ : ∃ s', s.mix kList ((mm.drop (64 * x.val)).take 64) = s' := ⟨_, rfl⟩
    rw [hs'] at hmx
    have HS2 := Lib.hid hs'
    clear hs' hbx hx6
    refine ⟨trivial, (CallsIn.inRound l ((callsIn_wide (n := 3)).2 hmx)).mono ?_⟩
    rintro e W' ⟨rfl, m1⟩
    have hst' := hI.st.mod m1 nob
    gi_wp2_with (refine wpListIn_store_arr rfl 277 _ _ rfl (S + 1) 8 s'.cells s.cells rfl rfl hst' size_a8 (cells8_size _) (cells8_size _) (cells8_one _) ?_)
    have m2 := (Mod.refl W' (· = S + 1)).setRow (.inl rfl) s'.cells
    have hz := m1.size
    have hz0 := hI.size
    have hrow := owns_keep (owns_keep hI.row m1 nob) m2 (by omega)
    have := HH.out
    refine ⟨(keepsFrom_mod m1 (fun k h => h.elim)).trans (keepsFrom_mod m2 (fun k (hk : k = S + 1) => by omega)), (KC.of_mod m1 (by omega) (fun k h => h.elim)).trans (KC.of_mod m2 (by omega) (fun k (hk : k = S + 1) => ⟨by omega, by omega⟩)), ?_⟩
    change ShaAt w H S g M k4 W1.heap.size mm (shaFold mm ((pre ++ [x]).map Fin.val)) _
    rw [List.map_append, List.map_cons, List.map_nil, shaFold_snoc, HSS.out, HS2.out]
    exact ⟨hst'.setRow _, (hI.ks.mod m1 nob).mod m2 (by omega), (hI.out.mod m1 nob).mod m2 (by omega), hrow, (hI.md.trans m1).drop m2 (fun k (hk : k = S + 1) => .inr (by omega)), by have := m2.size; omega⟩
  case done =>
    rintro D ys W hD hys hI hK
    rw [hys, shaFold_range] at hI
    obtain ⟨s, hs⟩ : ∃ s, shaBlocks mm (pieceN M 64) = s := ⟨_, rfl⟩
    rw [hs] at hI
    have HSS := Lib.hid hs
    obtain ⟨w0, hrun, hown0, hm0⟩ := make_bytes 32 W (by omega)
    change (Instr.makeSlice 43 (.int .i64 0) (.int .i64 32)).run Tryz.prog W = .ok (.slice (some ⟨W.heap.size, 0, none⟩) 0 32) w0 at hrun
    have hst := hI.st.mod hm0 nob
    have hou := hI.out.mod hm0 nob
    have hmd := hI.md.trans hm0
    have hD0 := hm0.keep hK nob
    have hz0 := hI.size
    have hz := hm0.size
    clear hs hys cb1 cb2 cK cS c2 hown4 m0 hI hK hm0
    go_wp2_with (first
      | (refine wpList_load_arr rfl 277 _ rfl (S + 1) 8 220 rfl s.cells hst Tryz.underlying277 size_a8 (cells8_size s) ?_))
    have hwl : s.words.length = 8 := rfl
    obtain ⟨ws, hws⟩ : ∃ ws, s.words = ws := ⟨_, rfl⟩
    rw [hws] at hwl
    have hsc : s.cells = (ws.map V32).toArray := by rw [words_cells, hws]
    obtain ⟨cs, hcs⟩ : ∃ cs, s.cells = cs := ⟨_, rfl⟩
    rw [hcs] at hst hsc ⊢
    obtain ⟨Bz, hBz⟩ : ∃ Bz, W.heap.size = Bz := ⟨_, rfl⟩
    rw [hBz] at hown0 hz hz0 ⊢
    have HWS := Lib.hid hws
    clear hrun hcs hws hBz
    go_loopw [7, 9, 27] (fun b _ i wr => ∃ j : Nat, j ≤ 8 ∧ i = .int .i64 j ∧ ∃ a c, b = .slice a (4 * j) c ∧ wr.ownsRow Bz 5 1 (.slice a (4 * j) c) (4 * j) ((wordsB (ws.take j)).map B) ∧ Mod w0 wr (Bz ≤ ·) ∧ wr.heap[D]? = some (.deferred (some []))) (fun _ _ i _ => 8 - (intOf i).toNat)
    case atStart => exact ⟨0, Nat.zero_le _, rfl, _, _, rfl, hown0, Mod.refl _ _, hD0⟩
    case round =>
      obtain ⟨j, hj8, rfl, a5, c5, rfl, hown, hm5, hD5⟩ := hrel
      have h0 := hm5.size
      by_cases hlt : j < 8
      · obtain ⟨x, hx⟩ : ∃ x, ws[j]? = some x := ⟨_, List.getElem?_eq_getElem (by omega)⟩
        have hsn := wordsB_snoc (ws.take j) x
        rw [← take_snoc ws j x hx] at hsn
        have hcx : cs[j]? = some (V32 x) := by rw [hsc]; simp [hx]
        have hidx := run_index_arr (P := Tryz.prog) 277 220 8 cs .i64 j (V32 x) Tryz.underlying277 (fun w => Tryz.sizeOf220 w) (fun w => by kernel_rfl) hlt hcx
        have hconv : IntKind.u64.wrap (n32 x) = ((x.toNat : Nat) : Int) := by unfold n32; exact u64_wrap_id _ (by omega) (by have := x.toNat_lt; omega)
        obtain ⟨t, ht⟩ : ∃ t, wordsB (ws.take j) = t := ⟨_, rfl⟩
        rw [ht] at hown hsn
        have HSN := Lib.hid hsn
        obtain ⟨P, hP⟩ : ∃ P, 4 * j = P := ⟨_, rfl⟩
        rw [hP] at hown ⊢
        have hP2 : P ≤ 32 := by omega
        have HP := Lib.hid hP
        clear hsn ht hP hcx hx hsc hst hou hmd hown0 hD0
        go_wp2_with fail
        refine (puthigh_any Bz P a5 c5 t x.toNat 4 wr hown (by omega) (by omega) (by omega)).mono ?_
        rintro e w3 ⟨a6, c6, rfl, hown6, hm6, _⟩
        have hm7 := hm5.drop hm6 (fun k hk => .inl (hown.lt k hk).1)
        have hD6 := hm6.keep hD5 (fun hk => by
          have h1 := hown.lt _ hk
          rcases hown.2 with ⟨h2, _⟩ | ⟨g', cap', cur, h2, _, h3, _⟩
          · cases h2; cases hk
          · cases h2
            cases hk
            rw [h3] at hD5
            cases hD5)
        clear hidx hconv hm6 hm5 hD5
        go_wp2_with fail
        go_roundw
        case rel => exact ⟨j + 1, by omega, by go_num, a6, c6, by rw [show 4 * (j + 1) = P + 4 by have := HP.out; omega], by rw [show 4 * (j + 1) = P + 4 by have := HP.out; omega, HSN.out]; exact hown6, hm7, hD6⟩
        case measure => simp [intOf]; omega
      · obtain rfl : j = 8 := by omega
        have hto := run_toArray (P := Tryz.prog) 22 32 5 a5 32 c5 Tryz.underlying22 (Nat.le_refl _)
        rw [List.take_of_length_le (by omega)] at hown
        change wr.ownsRow Bz 5 1 (.slice a5 32 c5) 32 ((wordsB ws).map B) at hown
        have hwl32 := wordsB_length ws
        rw [hwl] at hwl32
        have hres : shaL ls.flatten = wordsB ws := by
          have e1 : shaM ls.flatten = mm := by
            unfold shaM
            rw [HL.out, HFL.out, HPE.out, HMM.out]
          have e2 : mm.length / 64 = pieceN M 64 := by rw [HML.out]; have := HRO.out; omega
          unfold shaL
          rw [e1, e2, HSS.out, HWS.out]
        have HRES := Lib.hid hres
        obtain ⟨out, hout⟩ : ∃ out, wordsB ws = out := ⟨_, rfl⟩
        rw [hout] at hown hwl32 HRES
        change wr.ownsRow Bz 5 1 (.slice a5 32 c5) 32 (out.map B) at hown
        obtain ⟨gg, rfl⟩ : ∃ g, a5 = some ⟨g, 0, none⟩ := by
          rcases hown.2 with ⟨_, h0⟩ | ⟨g, cap', cur, h0, _⟩
          · omega
          · cases h0; exact ⟨g, rfl⟩
        have hcells := own_cell hown
        have hou2 := hou.mod hm5 (by omega)
        have hmd2 := hmd.drop hm5 (fun k hk => .inr (by have := HH.out; omega))
        clear hres hout hsc hst hou hmd hown0 hD0 hown hwl
        go_wp2_with (first
          | (refine wpList_load_cells rfl 22 _ rfl gg 0 32 5 rfl (out.map B) Tryz.underlying22 (by kernel_rfl) (by rw [List.length_map, hwl32]) (fun j v hv => by rw [Nat.zero_add]; exact hcells j v hv) ?_)
          | (refine wpList_store_arr rfl 22 _ _ rfl H 32 (out.map B).toArray ((List.replicate 32 (0 : UInt8)).map B).toArray rfl rfl hou2 (by kernel_rfl) (by simp [hwl32]) (by simp) (by simp [B, Value.oneCell']) ?_))
        have mS := (Mod.refl wr (· = H)).setRow (.inl rfl) (out.map B).toArray
        have DS := mS.keep hD5 (by omega)
        have mD : Mod (wr.setRow H (out.map B).toArray) ((wr.setRow H (out.map B).toArray).putObj D (.deferred none)) (· = D) := (Mod.refl _ (· = D)).putObj (.inl rfl) _
        have hfin := (hou2.setRow (out.map B).toArray).mod mD (by omega)
        refine ⟨by simp, .inl ⟨_, _, rfl, run_takeDeferred DS, ?_⟩⟩
        refine ⟨.agg (out.map B).toArray, ret_arr rfl _ _ H 32 5 _ rfl hfin Tryz.underlying22 (by kernel_rfl) (by simp [hwl32]), by rw [HRES.out], (hmd2.drop mS (fun k (hk : k = H) => .inr (by have := HH.out; omega))).drop mD (fun k (hk : k = D) => .inr (by have := HH.out; omega))⟩

end Go.Proofs.YtakgnkjopbflbaaGreatDoor
