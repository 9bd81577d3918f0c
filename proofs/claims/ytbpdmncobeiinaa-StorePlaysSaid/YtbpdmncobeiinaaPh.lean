/- The document's store: Put. No condition but sizes. -/
import Derived.Deep.RegionLaw
import Derived.Deep.CutRange
import Derived.Test.YtbpdmncobeiinaaPg
namespace Go.Proofs.Ytbpdmncobeiinaa
open Go.RowKit

theorem info_row : (Try.prog.info? 45).map (fun i => (i.zero, i.size, i.bytes)) = some (some (.slice none 0 0), 1, 24) := by kernel_rfl

/-- A copy of the row is one of the elder ones. -/
theorem old_done {w w1 w2 : World} {b : Nat} {L : List RC} {O : List (List RC)} {y : RefB} {v u : Value} (h : RefAt w b L O y) (m1 : Mod w w1 Nob) (hrow : RowRc w1 (fun k => y.held k ∨ inBlock v k) v L) (hv : ∀ k, inBlock v k → w.heap.size ≤ k ∧ k < w1.heap.size)
    (hg : w1.grownBy w2 y.ov.ownBlock) (us : List Value) (hus : us.length = O.length) (helt : ∀ (i : Nat) u o, us[i]? = some u → O[i]? = some o → RowRc w y.held u o) (hown : w2.ownsRow 0 45 1 u (O.length + 1) (us ++ [v])) (hin : ∀ k, inBlock u k → inBlock y.ov k ∨ w1.heap.size ≤ k) :
    RefAt (w2.setCell ⟨b, 1, none⟩ u) b L (O ++ [L]) ⟨y.lv, u, fun k => y.held k ∨ inBlock v k⟩ ∧ StepR b w y (w2.setCell ⟨b, 1, none⟩ u) ⟨y.lv, u, fun k => y.held k ∨ inBlock v k⟩ := by
  have m2 : Mod w1 w2 (inBlock y.ov) := (Mod.refl w1 _).grown hg (fun k hk => .inl hk)
  have m3 : Mod w2 (w2.setCell ⟨b, 1, none⟩ u) (· = b) := (Mod.refl w2 (· = b)).setCell (p := ⟨b, 1, none⟩) (.inl rfl) u
  have hbw := h.cells.lt
  have s1 := m1.size
  have s2 := m2.size
  have hub : ¬ inBlock u b := fun hu => by
    rcases hin b hu with h1 | h1
    · exact h.ne h1
    · omega
  have mall : Mod w (w2.setCell ⟨b, 1, none⟩ u) (y.own b) := (m1.nob.drop m2 (fun k hk => .inl (.inr hk))).drop m3 (fun k hk => .inl (.inl hk))
  have m23 : Mod w1 (w2.setCell ⟨b, 1, none⟩ u) (y.own b) := ((m2.wide (fun k hk => .inl (.inr hk))) : Mod w1 w2 (y.own b)).drop m3 (fun k hk => .inl (.inl hk))
  have hho : ∀ k, y.own b k → ¬ y.held k := fun k ho hh => (h.hold k hh).2 ho
  have hho2 : ∀ k, y.own b k → ¬ (y.held k ∨ inBlock v k) := fun k ho hh => by
    rcases hh with hh | hh
    · exact hho k ho hh
    · have := h.foot_lt k (.inl ho); have := hv k hh; omega
  refine ⟨⟨(((h.cells.mod m1 nob).mod m2 h.ne).set 1 u), hub, fun k hk => ⟨?_, ?_⟩, h.row.mono mall hho (fun _ h => .inl h), us ++ [v], by simp [hus], fun i x o hi ho => ?_, ?_⟩, mall, ?_, fun k hk => .inl hk, fun k hk => hk.imp (fun h => h) (fun h => (hv k h).1)⟩
  · have s3 := m3.size
    rcases hk with hk | hk
    · have := (h.hold k hk).1; omega
    · have := (hv k hk).2; omega
  · rintro (h5 | h5)
    · have h5 : k = b := h5
      subst h5
      exact hho2 k (.inl rfl) hk
    · rcases hin k h5 with h6 | h6
      · exact hho2 k (.inr h6) hk
      · rcases hk with hk | hk
        · have := (h.hold k hk).1; omega
        · have := (hv k hk).2; omega
  · by_cases hlt : i < us.length
    · rw [List.getElem?_append_left hlt] at hi
      rw [List.getElem?_append_left (by omega)] at ho
      exact (helt i x o hi ho).mono mall hho (fun _ h => .inl h)
    · have h0 : i = us.length := by
        have := (List.getElem?_eq_some_iff.1 hi).1
        simp at this
        omega
      rw [h0, List.getElem?_append_right (Nat.le_refl _)] at hi
      rw [h0, hus, List.getElem?_append_right (Nat.le_refl _)] at ho
      simp at hi ho
      subst hi; subst ho
      exact hrow.mono m23 hho2 (fun _ h => h)
  · rw [List.length_append]
    exact owns_mod hown m3 (fun k hk (e : k = b) => hub (e ▸ hk))
  · rintro k (h5 | h5)
    · exact .inl (.inl h5)
    · rcases hin k h5 with h6 | h6
      · exact .inl (.inr h6)
      · right; omega

/-- Cells appended, in whatever order: one step of a region that draws. -/
theorem step_cells {ops : Array Oper} {o : Oper} {a : Act} {w : World} {K : Act → World → Prop} {Q : Exit → Act → World → Prop} {E : Prop} (hgd : o.guard = none) (s x : Operand)
    (hop : o.op = Op.call { callee := Callee.builtin Builtin.append, args := #[s, x], argTypes := #[45, 45] }) (v sv : Value) (hs : a.eval s = v) (hx : a.eval x = sv) (W0 : World) (n m : Nat) (xs news : List Value)
    (hown : w.ownsRow W0.heap.size 83 4 v n xs) (hsrc : SrcAt w 4 sv m news) (h1 : ∀ u ∈ news, u.oneCell' = true) (hb : n + m ≤ 2000000) (hm : Mod W0 w Nob)
    (h : ∀ a' c' w', w'.ownsRow W0.heap.size 83 4 (.slice a' (n + m) c') (n + m) (xs ++ news) → Mod W0 w' Nob → Mod w w' (inBlock v) → K (a.put o.dst (.slice a' (n + m) c')) w') :
    if Region.wanted o (yielded ops a.tmps) = true then Oper.wp Try.prog o a w K Q else E := by
  obtain ⟨i0, hi, hz0, hz1, hz2⟩ := info_parts info_cell
  obtain ⟨v', w', hrun, r1, r2, _⟩ := run_append_src (P := Try.prog) w 45 o.type 83 i0 _ 4 72 Try.underlying45 hi hz0 hz1 hz2 rfl (by omega) W0.heap.size v n xs hown sv m news hsrc h1 (by unfold maxLen; omega) (by omega) hm.size
  obtain ⟨a', c', rfl, _, _⟩ := owns_form r1
  have m1 : Mod w w' (inBlock v) := (Mod.refl w _).grown r2 (fun k hk => .inl hk)
  exact step_append_run hgd s x _ _ hop v sv hs hx _ w' hrun (h a' c' w' r1 (hm.drop m1 (fun k hk => .inr (hown.lt k hk).1)) m1)

theorem src_cell (W : World) (a b c d : Value) : SrcAt (W.alloc (.cells #[a, b, c, d] 83)) 4 (.slice (some ⟨W.heap.size, 0, none⟩) 1 1) 1 [a, b, c, d] :=
  .inr ⟨W.heap.size, 0, 1, rfl, rfl, fun j u hj => by rw [Nat.zero_add, (CellsAt.new W #[a, b, c, d] 83).cell j]; simpa using hj⟩

theorem not_nil_block (k : Nat) : ¬ inBlock (.slice none 0 0) k := by simp [inBlock, Value.ownBlock]

/-- One row of bytes more, in whatever order: one step of a region that draws. -/
theorem step_rows {ops : Array Oper} {o : Oper} {a : Act} {w : World} {K : Act → World → Prop} {Q : Exit → Act → World → Prop} {E : Prop} (hgd : o.guard = none) (s x : Operand)
    (hop : o.op = Op.call { callee := Callee.builtin Builtin.append, args := #[s, x], argTypes := #[69, 69] }) (v sv : Value) (hs : a.eval s = v) (hx : a.eval x = sv) (W0 : World) (n m : Nat) (xs news : List Value)
    (hown : w.ownsRow W0.heap.size 22 1 v n xs) (hsrc : SrcAt w 1 sv m news) (h1 : ∀ u ∈ news, u.oneCell' = true) (hb : n + m ≤ 2000000) (hm : Mod W0 w Nob)
    (h : ∀ a' c' w', w'.ownsRow W0.heap.size 22 1 (.slice a' (n + m) c') (n + m) (xs ++ news) → Mod W0 w' Nob → Mod w w' (inBlock v) → K (a.put o.dst (.slice a' (n + m) c')) w') :
    if Region.wanted o (yielded ops a.tmps) = true then Oper.wp Try.prog o a w K Q else E := by
  obtain ⟨i0, hi, hz0, hz1, hz2⟩ := info_parts info_vers
  obtain ⟨v', w', hrun, r1, r2, _⟩ := run_append_src (P := Try.prog) w 69 o.type 22 i0 _ 1 24 Try.underlying69 hi hz0 hz1 hz2 rfl (by omega) W0.heap.size v n xs hown sv m news hsrc h1 (by unfold maxLen; omega) (by omega) hm.size
  obtain ⟨a', c', rfl, _, _⟩ := owns_form r1
  have m1 : Mod w w' (inBlock v) := (Mod.refl w _).grown r2 (fun k hk => .inl hk)
  exact step_append_run hgd s x _ _ hop v sv hs hx _ w' hrun (h a' c' w' r1 (hm.drop m1 (fun k hk => .inr (hown.lt k hk).1)) m1)

theorem src_row (W : World) (a : Value) : SrcAt (W.alloc (.cells #[a] 22)) 1 (.slice (some ⟨W.heap.size, 0, none⟩) 1 1) 1 [a] :=
  .inr ⟨W.heap.size, 0, 1, rfl, rfl, fun j u hj => by rw [Nat.zero_add, (CellsAt.new W #[a] 22).cell j]; simpa using hj⟩
theorem src_of_row {w : World} {a : Option Addr} {n c : Nat} {us : List Value} (h : RowAt w (.slice a n c) us) : SrcAt w 1 (.slice a n c) n us := by
  rcases h with ⟨h1, rfl⟩ | ⟨b, o, cap, h1, _, _, _, hx⟩
  · cases h1; exact .inl ⟨rfl, rfl, rfl⟩
  · cases h1; exact .inr ⟨b, o, c, rfl, by rw [Nat.mul_one], hx⟩

/-- Where a Put stands when the versions are one more. -/
def PutAll (nm : ByteArray) (p : Nat) (v5 : Value) (n : Nat) (us : List Value) (W6 wx : World) : Prop :=
  ∃ a c, CellsAt wx p #[.string nm, .bool true, v5, .slice a (n + 1) c] 83 ∧ wx.ownsRow W6.heap.size 22 1 (.slice a (n + 1) c) (n + 1) (us ++ [v5]) ∧ Mod W6 wx (· = p)

/-- A name that is not there yet gets a cell. -/
def insL (L : List RC) (k : Nat) (nm : ByteArray) : List RC := L.take k ++ [(nm, none, [])] ++ L.drop k
/-- The cells behind a Put. -/
def putL (L : List RC) (nm : ByteArray) (l : List UInt8) : List RC :=
  bif there L nm then L.set (place L nm) (nm, some l, vers_ L nm ++ [l]) else (insL L (place L nm) nm).set (place L nm) (nm, some l, [l])

/-- Where a Put stands when the name has a cell. -/
def PutMid (b K : Nat) (nm : ByteArray) (l : List UInt8) (L L' : List RC) (O : List (List RC)) (w : World) (y : RefB) (wx : World) : Prop :=
  ∃ L1 y3, RefAt wx b L1 O y3 ∧ StepR b w y wx y3 ∧ L1.length ≤ L.length + 1 ∧ ∃ o, L1[K]? = some (nm, o, vers_ L nm) ∧ L1.set K (nm, some l, vers_ L nm ++ [l]) = L'

theorem insL_get (L : List RC) (k : Nat) (nm : ByteArray) (hk : k ≤ L.length) : (insL L k nm)[k]? = some (nm, none, []) := by
  have h1 : (L.take k).length = k := by rw [List.length_take]; omega
  unfold insL
  rw [List.append_assoc, List.getElem?_append_right (by omega), h1, Nat.sub_self]
  rfl

theorem rcCells_append : ∀ (cs ds : List RC) (vs us : List (Value × Value)), vs.length = cs.length → rcCells (cs ++ ds) (vs ++ us) = rcCells cs vs ++ rcCells ds us
  | [], ds, [], us, _ => by simp [rcCells]
  | [], ds, v :: vs, us, h => by simp at h
  | c :: cs, ds, [], us, h => by simp at h
  | c :: cs, ds, v :: vs, us, h => by
    have ih := rcCells_append cs ds vs us (by simpa using h)
    have e : ∀ cs vs (c0 : RC) (v0 : Value × Value), rcCells (c0 :: cs) (v0 :: vs) = .string c0.1 :: .bool c0.2.1.isSome :: v0.1 :: v0.2 :: rcCells cs vs := fun cs vs c0 v0 => by simp [rcCells]
    rw [List.cons_append, List.cons_append, e, e, ih]
    rfl
theorem rcCells_length : ∀ (cs : List RC) (vs : List (Value × Value)), vs.length = cs.length → (rcCells cs vs).length = cs.length * 4
  | [], _, _ => by simp [rcCells]
  | c :: cs, [], h => by simp at h
  | c :: cs, v :: vs, h => by
    have ih := rcCells_length cs vs (by simpa using h)
    have e : ∀ cs vs (c0 : RC) (v0 : Value × Value), rcCells (c0 :: cs) (v0 :: vs) = .string c0.1 :: .bool c0.2.1.isSome :: v0.1 :: v0.2 :: rcCells cs vs := fun cs vs c0 v0 => by simp [rcCells]
    rw [e]
    simp only [List.length_cons, ih]
    omega
theorem rcCells_take (cs : List RC) (vs : List (Value × Value)) (h : vs.length = cs.length) (k : Nat) (hk : k ≤ cs.length) : (rcCells cs vs).take (k * 4) = rcCells (cs.take k) (vs.take k) ∧ (rcCells cs vs).drop (k * 4) = rcCells (cs.drop k) (vs.drop k) := by
  have h1 := rcCells_append (cs.take k) (cs.drop k) (vs.take k) (vs.drop k) (by rw [List.length_take, List.length_take, h])
  rw [List.take_append_drop, List.take_append_drop] at h1
  have h2 := rcCells_length (cs.take k) (vs.take k) (by rw [List.length_take, List.length_take, h])
  have h3 : (cs.take k).length = k := by rw [List.length_take]; omega
  rw [h3] at h2
  rw [h1]
  exact ⟨by rw [← h2, List.take_left], by rw [← h2, List.drop_left]⟩

theorem ins_get {α : Type} (l : List α) (k : Nat) (x : α) (hk : k ≤ l.length) (i : Nat) : (l.take k ++ [x] ++ l.drop k)[i]? = if i < k then l[i]? else if i = k then some x else l[i - 1]? := by
  have h1 : (l.take k).length = k := by rw [List.length_take]; omega
  rw [List.append_assoc]
  by_cases h : i < k
  · rw [if_pos h, List.getElem?_append_left (by omega), List.getElem?_take_of_lt h]
  · rw [if_neg h, List.getElem?_append_right (by omega), h1]
    by_cases h2 : i = k
    · rw [if_pos h2, h2, Nat.sub_self]; rfl
    · rw [if_neg h2, show i - k = (i - k - 1) + 1 by omega]
      show (l.drop k)[i - k - 1]? = _
      rw [List.getElem?_drop]
      congr 1
      omega

/-- The cell is in its place. -/
theorem ins_done {b K : Nat} {nm : ByteArray} {l : List UInt8} {L L' : List RC} {O : List (List RC)} {w w6 : World} {y : RefB} {a : Option Addr} {c : Nat} {vs : List (Value × Value)} (h : RefAt w b L O y) (hK : K ≤ L.length) (hv1 : vs.length = L.length) (hv2 : ∀ (i : Nat) c u, L[i]? = some c → vs[i]? = some u → RcAt w y.held c u)
    (hve : vers_ L nm = []) (hL' : L' = (insL L K nm).set K (nm, some l, [l])) (mC : Mod w w6 Nob)
    (rC : w6.ownsRow w.heap.size 83 4 (.slice a (K + 1 + (L.length - K)) c) (K + 1 + (L.length - K)) ((rcCells L vs).take (K * 4) ++ [.string nm, .bool false, .slice none 0 0, .slice none 0 0] ++ (rcCells L vs).drop (K * 4))) :
    PutMid b K nm l L L' O w y (w6.setCell ⟨b, 0, none⟩ (.slice a (K + 1 + (L.length - K)) c)) := by
  have hlen : (insL L K nm).length = K + 1 + (L.length - K) := by
    simp [insL, Nat.min_eq_left hK]
    omega
  obtain ⟨t1, t2⟩ := rcCells_take L vs hv1 K hK
  have hcells : (rcCells L vs).take (K * 4) ++ [.string nm, .bool false, .slice none 0 0, .slice none 0 0] ++ (rcCells L vs).drop (K * 4) = rcCells (insL L K nm) (vs.take K ++ [(.slice none 0 0, .slice none 0 0)] ++ vs.drop K) := by
    unfold insL
    rw [t1, t2, rcCells_append _ _ _ _ (by simp [hv1]), rcCells_append _ _ _ _ (by simp [hv1])]
    simp [rcCells]
  rw [hcells, ← hlen] at rC
  rw [← hlen]
  have hbw := h.cells.lt
  have mS := (Mod.refl w6 (· = b)).setCell (p := ⟨b, 0, none⟩) (.inl rfl) (.slice a (insL L K nm).length c)
  have mB : Mod w (w6.setCell ⟨b, 0, none⟩ (.slice a (insL L K nm).length c)) (· = b) := (mC.nob (T := (· = b))).drop mS (fun j hj => .inl hj)
  have hne : ∀ j, j = b → ¬ y.held j := fun j hj hh => (h.hold j hh).2 (.inl hj)
  have hblk : ∀ j, inBlock (.slice a (insL L K nm).length c) j → w.heap.size ≤ j ∧ j < w6.heap.size := fun j hj => rC.lt j hj
  obtain ⟨us, u1, u2, u3⟩ := h.olds
  refine ⟨insL L K nm, ⟨.slice a (insL L K nm).length c, y.ov, fun j => y.held j ∨ inBlock (.slice a (insL L K nm).length c) j⟩, ⟨(h.cells.mod mC nob).set 0 _, h.ne, fun j hj => ?_, ⟨vs.take K ++ [(.slice none 0 0, .slice none 0 0)] ++ vs.drop K, ?_, fun i cc u hi hj => ?_, owns_base (owns_mod rC mS (fun j hj (e : j = b) => by have := (hblk j hj).1; omega)), fun j hj => .inr hj⟩, us, u1, fun i u o hi hj => (u2 i u o hi hj).mono mB hne (fun _ h => .inl h), owns_mod u3 mB (fun j hj (e : j = b) => h.ne (e ▸ hj))⟩,
    ⟨mB.wide (fun j hj => .inl (.inl hj)), fun j hj => .inl hj, fun j hj => .inl hj, fun j hj => hj.imp (fun h => h) (fun h => (hblk j h).1)⟩, by rw [hlen]; omega, none, by rw [hve]; exact insL_get L K nm hK, by rw [hL', hve]; rfl⟩
  · rcases hj with hj | hj
    · exact ⟨Nat.lt_of_lt_of_le (h.hold j hj).1 mB.size, (h.hold j hj).2⟩
    · have h5 := hblk j hj
      refine ⟨Nat.lt_of_lt_of_le h5.2 mS.size, ?_⟩
      rintro (h6 | h6)
      · have h6 : j = b := h6
        omega
      · have := h.foot_lt j (.inl (.inr h6)); omega
  · rw [hlen]
    simp [hv1, Nat.min_eq_left hK]
    omega
  · unfold insL at hi
    rw [ins_get _ _ _ hK] at hi
    rw [ins_get _ _ _ (by omega)] at hj
    by_cases h7 : i < K
    · rw [if_pos h7] at hi hj
      exact (hv2 i cc u hi hj).mono mB hne (fun _ h => .inl h)
    · rw [if_neg h7] at hi hj
      by_cases h8 : i = K
      · rw [if_pos h8] at hi hj
        cases hi; cases hj
        exact ⟨held_none _ _, [], RowAt.nil _, fun k hk => (not_nil_block k hk).elim, rfl, fun i u l hi => by simp at hi⟩
      · rw [if_neg h8] at hi hj
        exact (hv2 _ cc u hi hj).mono mB hne (fun _ h => .inl h)

set_option maxRecDepth 100000 in
set_option maxHeartbeats 4000000 in
theorem ref_put (b : Nat) (L : List RC) (O : List (List RC)) (y : RefB) (nm : ByteArray) (v : Value) (l : List UInt8) (w : World) (h : RefAt w b L O y) (hl : l.length ≤ 1099511627776) (hvm : ∀ W, Mod w W (y.own b) → BytesAt W v l) (hL : L.length < 999999) (hO : O.length < 1000000) (hV : (vers_ L nm).length < 1000000) :
    Calls Try.prog 26 #[.pointer (some ⟨b, 0, none⟩), .string nm, v] w (DidR w b y (.tuple #[]) (putL L nm l) (O ++ [L])) := by
  obtain ⟨K, hK⟩ : ∃ K, place L nm = K := ⟨_, rfl⟩
  have hKL := place_le L nm
  have hput : putL L nm l = bif there L nm then L.set K (nm, some l, vers_ L nm ++ [l]) else (insL L K nm).set K (nm, some l, [l]) := by unfold putL; rw [hK]
  rw [hK] at hKL
  obtain ⟨L', hL'⟩ : ∃ L', putL L nm l = L' := ⟨_, rfl⟩
  rw [hL'] at hput ⊢
  obtain ⟨O2, hO2⟩ : ∃ O2, O ++ [L] = O2 := ⟨_, rfl⟩
  rw [hO2]
  obtain ⟨i0, hi, hz0, hz1, hz2⟩ := info_parts info_cell
  obtain ⟨j0, hj, hjz0, hjz1, hjz2⟩ := info_parts info_row
  obtain ⟨vs, hv1, hv2, ho, hh⟩ := h.row
  obtain ⟨us, hus, helt, hol⟩ := h.olds
  have hone := rc_one L vs hv2
  have mD := (Mod.refl w Nob).drew
  obtain ⟨v18, w1, hrunA, rA, gA, iA⟩ := run_append_src (P := Try.prog) w.drew 45 45 83 i0 _ 4 72 Try.underlying45 hi hz0 hz1 hz2 rfl (by omega) w.heap.size (.slice none 0 0) 0 [] (World.ownsRow_nil _ _ _ _) y.lv L.length (rcCells L vs) ((SrcAt.of_owns ho).mod mD) hone (by unfold maxLen; omega) (by omega) (Nat.le_refl _)
  simp only [Nat.zero_add, List.nil_append] at rA hrunA
  have mA := mD.grown gA (fun k hk => by simp [Value.ownBlock] at hk)
  obtain ⟨a18, c18, rfl, _, _⟩ := owns_form rA
  have mA2 := mA.alloc (.cells #[.slice a18 L.length c18] 45)
  have cB := CellsAt.new w1 #[.slice a18 L.length c18] 45
  obtain ⟨v20, w2, hrunB, rB, gB, iB⟩ := run_append_src (P := Try.prog) (w1.alloc (.cells #[.slice a18 L.length c18] 45)) 46 46 45 j0 _ 1 24 Try.underlying46 hj hjz0 hjz1 hjz2 rfl (by omega) 0 y.ov O.length us (owns_mod hol mA2 (fun _ _ => nob)) (.slice (some ⟨w1.heap.size, 0, none⟩) 1 1) 1 [.slice a18 L.length c18]
    (.inr ⟨w1.heap.size, 0, 1, rfl, rfl, fun j u hj => by rw [Nat.zero_add, cB.cell j]; simpa using hj⟩) (by simp [Value.oneCell']) (by unfold maxLen; omega) (by omega) (by simp)
  obtain ⟨a20, c20, rfl, _, _⟩ := owns_form rB
  have hc0 := h.cells.mod mD nob
  have c0 := hc0.cell 0
  have c1 := hc0.cell 1
  have d1 := (h.cells.mod mA nob).cell 1
  have e1 := (h.cells.mod mA2 nob).cell 1
  have f1 := ((h.cells.mod mA2 nob).mod ((Mod.refl _ _).grown gB (fun k hk => .inl hk)) h.ne).cell 1
  have ff := ((h.cells.mod mA2 nob).mod ((Mod.refl _ _).grown gB (fun k hk => .inl hk)) h.ne).free 1
  have d0 := (h.cells.mod mA nob).cell 0
  have e0 := (h.cells.mod mA2 nob).cell 0
  have f0 := ((h.cells.mod mA2 nob).mod ((Mod.refl _ _).grown gB (fun k hk => .inl hk)) h.ne).cell 0
  simp at c0 c1 d0 d1 e0 e1 f0 f1
  go_enter Try.func26, Try.ntmps26
  go_upto_region 0 with fail
  go_cut [] from 9 to 22 (fun wx => wx = w2.setCell ⟨b, 1, none⟩ (.slice a20 (O.length + 1) c20))
  case first =>
    go_region_law
      (first
        | (show if Region.wanted ⟨some 18, _, _, _, _, _⟩ _ = true then _ else _
           refine step_append_run (by rfl) _ _ _ _ (by rfl) _ _ (by rfl) (by rfl) _ w1 hrunA ?_)
        | (show if Region.wanted ⟨some 20, _, _, _, _, _⟩ _ = true then _ else _
           refine step_append_run (by rfl) _ _ _ _ (by rfl) _ _ (by rfl) (by rfl) _ w2 hrunB ?_))
    all_goals (go_wp2_with fail; go_meet; rfl)
  case rest =>
  subst hcut
  have hrow1 : RowRc (w1.alloc (.cells #[.slice a18 L.length c18] 45)) (fun k => y.held k ∨ inBlock (.slice a18 L.length c18) k) (.slice a18 L.length c18) L :=
    ⟨vs, hv1, fun i c u hi hj => (hv2 i c u hi hj).mono mA2 (fun _ h => h.elim) (fun _ h => .inl h), owns_base (owns_mod rA ((Mod.refl w1 Nob).alloc _) (fun _ _ => nob)), fun k hk => .inr hk⟩
  obtain ⟨h2, k2⟩ := old_done h mA2 hrow1 (fun k hk => ⟨(rA.lt k hk).1, by have := (rA.lt k hk).2; simp; omega⟩) gB us hus helt rB iB
  have mv : Mod w (w2.setCell ⟨b, 1, none⟩ (.slice a20 (O.length + 1) c20)) (y.own b) := k2.mod
  obtain ⟨W2, hW2⟩ : ∃ W2, w2.setCell ⟨b, 1, none⟩ (.slice a20 (O.length + 1) c20) = W2 := ⟨_, rfl⟩
  obtain ⟨y2, hy2⟩ : ∃ y2 : RefB, ⟨y.lv, .slice a20 (O.length + 1) c20, fun k => y.held k ∨ inBlock (.slice a18 L.length c18) k⟩ = y2 := ⟨_, rfl⟩
  rw [hW2, hy2] at h2 k2
  rw [hW2] at mv ⊢
  clear hW2 hy2 hrow1 hrunA rA gA iA mA mA2 cB hrunB rB gB iB hc0 c0 c1 d1 e1 f1 ff d0 e0 f0 mD hone ho hh hv1 hv2 hus helt hol
  rw [hO2] at h2
  have ht := at_any b L O2 y2 nm W2 h2
  rw [hK] at ht
  obtain ⟨T, hth⟩ : ∃ T, there L nm = T := ⟨_, rfl⟩
  rw [hth] at ht hput
  go_wp2_with fail
  refine ht.mono ?_
  rintro e w3 ⟨rfl, n, rfl⟩
  have m3 := (Mod.refl W2 Nob).drewN n
  obtain ⟨W3, hW3⟩ : ∃ W3, W2.drewN n = W3 := ⟨_, rfl⟩
  rw [hW3] at m3 ⊢
  have h3 := h2.still m3
  go_upto_if 30 with fail
  go_cut [] from 31 to 51 (fun wx => PutMid b K nm l L L' O2 W3 y2 wx)
  case first =>
    cases T with
    | true =>
      obtain ⟨⟨nm', oo, vs⟩, hc, hnm⟩ := there_some hth
      obtain rfl : nm' = nm := hnm
      rw [vers_of_there hth hc] at hput
      have hc0 := hc
      rw [hK] at hc
      go_wp2_with fail
      go_meet
      exact ⟨L, y2, h3, StepR.refl _ _ _, by omega, oo, by rw [vers_of_there hth hc0]; exact hc, by rw [vers_of_there hth hc0]; exact hput.symm⟩
    | false =>
      obtain ⟨vs, hv1, hv2, ho, hh⟩ := h3.row
      have hone := rc_one L vs hv2
      obtain ⟨v37, r37, s37⟩ := run_slice_to (P := Try.prog) W3 45 4 Try.underlying45 ho K hKL Try.sizeOf83
      obtain ⟨v48, r48, s48⟩ := run_slice_rest (P := Try.prog) W3 45 4 Try.underlying45 ho K hKL Try.sizeOf83
      have c0 := h3.cells.cell 0
      simp at c0
      have hb3 := h3.cells.lt
      have h1a : ∀ u ∈ (rcCells L vs).take (K * 4), u.oneCell' = true := fun u hu => hone u (List.mem_of_mem_take hu)
      have h1c : ∀ u ∈ (rcCells L vs).drop (K * 4), u.oneCell' = true := fun u hu => hone u (List.mem_of_mem_drop hu)
      have h1b : ∀ u ∈ [Value.string nm, .bool false, .slice none 0 0, .slice none 0 0], u.oneCell' = true := by simp [Value.oneCell']
      go_wp2_with fail
      go_region_law
        (first
          | (show if Region.wanted ⟨some 38, _, _, _, _, _⟩ _ = true then _ else _
             refine step_cells (by rfl) _ _ (by rfl) (.slice none 0 0) v37 (by rfl) (by rfl) W3 0 K [] ((rcCells L vs).take (K * 4)) (World.ownsRow_nil _ _ _ _) (s37.mod (by (repeat (first | exact Mod.refl _ _ | refine Mod.setCell ?_ (.inr (by simp)) _ | refine Mod.alloc ?_ _ | refine Mod.drew ?_)))) h1a (by omega) (by (repeat (first | exact Mod.refl _ _ | refine Mod.setCell ?_ (.inr (by simp)) _ | refine Mod.alloc ?_ _ | refine Mod.drew ?_))) ?_
             intro a38 c38 w4 rA mA nA
             simp only [Nat.zero_add, List.nil_append] at rA
             have dA := (h3.cells.mod mA nob).cell 0
             simp at dA
             have bA := Nat.lt_of_lt_of_le hb3 mA.size)
          | (show if Region.wanted ⟨some 42, _, _, _, _, _⟩ _ = true then _ else _
             refine step_cells (by rfl) _ _ (by rfl) (.slice a38 K c38) _ (by first | rfl | simp) (by rfl) W3 K 1 _ [.string nm, .bool false, .slice none 0 0, .slice none 0 0] (by first | exact rA | exact owns_mod rA ((Mod.refl w4 Nob).alloc _) (fun _ _ => nob)) (by first | exact src_cell _ _ _ _ _ | exact (src_cell W3 _ _ _ _).mod ((Mod.refl _ Nob).drew.trans (nA.wide (fun k hk => (not_nil_block k hk).elim)))) h1b (by omega) (by first | exact mA | exact mA.alloc _) ?_
             intro a42 c42 w5 rB mB nB
             have dB := (h3.cells.mod mB nob).cell 0
             simp at dB)
          | (show if Region.wanted ⟨some 49, _, _, _, _, _⟩ _ = true then _ else _
             refine step_cells (by rfl) _ _ (by rfl) (.slice a42 (K + 1) c42) v48 (by rfl) (by rfl) W3 (K + 1) (L.length - K) _ ((rcCells L vs).drop (K * 4)) rB (s48.mod mB) h1c (by omega) mB ?_
             intro a49 c49 w6 rC mC nC
             have dC := (h3.cells.mod mC nob).cell 0
             have fC := (h3.cells.mod mC nob).free 0
             simp at dC))
      all_goals (
        go_wp2_with fail
        go_meet
        exact ins_done h3 hKL hv1 hv2 (by simp [vers_, hth]) hput mC rC)
  case rest =>
    obtain ⟨Wc, rfl⟩ : ∃ Wc : World, Wc = wc := ⟨_, rfl⟩
    obtain ⟨L1, y3, h4, k4, hlen, o, hc, hset⟩ := hcut
    have kk := (k2.trans (StepR.of_mod m3)).trans k4
    have hvc := hvm _ kk.mod
    clear h3 h2 k2 k4 hput hth ht m3 mv
    have hKL1 := (List.getElem?_eq_some_iff.1 hc).1
    obtain ⟨la, lc, hlv, hlc, hcm⟩ := h4.form
    obtain ⟨g, ba, bn, bc, aa, an, ac, rfl, c0, hra, k0, k1, k2, k3⟩ := h4.read hlv K _ hc
    obtain ⟨hrb, us, hur, huh, hul, hue⟩ := hra
    obtain ⟨av2, ac2, haf, _, _⟩ := hur.form
    cases haf
    obtain ⟨M, hM⟩ : ∃ M, us.length = M := ⟨_, rfl⟩
    dsimp only at k0 k1 k2 k3 hul hue
    rw [hM] at k3 hur
    have hMV : M < 1000000 := by omega
    obtain ⟨oi, hoi⟩ : ∃ oi, o.isSome = oi := ⟨_, rfl⟩
    rw [hoi] at k1
    have mA := (Mod.refl Wc Nob).alloc (.cells #[.string nm, .bool oi, .slice ba bn bc, .slice aa M ac] 83)
    have cA := CellsAt.new Wc #[.string nm, .bool oi, .slice ba bn bc, .slice aa M ac] 83
    have hvA := hvc.mod mA (fun _ _ => nob)
    have cN := CellsAt.new Wc #[.string ⟨#[]⟩, .bool false, .slice none 0 0, .slice none 0 0] 83
    have n0 := cN.cell 0
    have n1 := cN.cell 1
    have n2 := cN.cell 2
    have n3 := cN.cell 3
    have nf := cN.free
    simp at n0 n1 n2 n3
    obtain ⟨N, hN⟩ : ∃ N, L1.length = N := ⟨_, rfl⟩
    rw [hN] at c0 hlc
    have hKN : K < N := by omega
    have HN := Lib.hid hN
    have HUL := Lib.hid hul
    have HM := Lib.hid hM
    clear hlv hN hul hM hoi
    go_wp2_with fail
    refine (copy_bytes _ l _ hvA hl).mono ?_
    rintro e w5 ⟨v5, rfl, ho5, hm5⟩
    obtain ⟨a5, c5, rfl, _, _⟩ := owns_form ho5
    obtain ⟨M5, hM5⟩ : ∃ M5, l.length = M5 := ⟨_, rfl⟩
    rw [hM5] at ho5 ⊢
    obtain ⟨p, hp⟩ : ∃ p, Wc.heap.size = p := ⟨_, rfl⟩
    have cp := cA.mod hm5 nob
    rw [hp] at cp ⊢
    have z1 := cp.cell 1
    have z2 := cp.cell 2
    have zf := cp.free
    simp at z1 z2
    have cq := (cp.set 1 (.bool true)).set 2 (.slice a5 M5 c5)
    have mq := ((Mod.refl w5 (· = p)).setCell (p := ⟨p, 1, none⟩) (.inl rfl) (.bool true)).setCell (p := ⟨p, 2, none⟩) (.inl rfl) (.slice a5 M5 c5)
    clear k0 k1 k2 k3 c0 n0 n1 n2 n3 nf cN cA
    have hur5 := ((hur.mod mA (fun _ _ => nob)).mod hm5 (fun _ _ => nob)).mod mq (fun k hk (e : k = p) => by have := hur.lt k hk; omega)
    have ho6 := owns_mod ho5 mq (fun k hk (e : k = p) => by have := (ho5.lt k hk).1; simp at this; omega)
    have m6 : Mod Wc ((w5.setCell ⟨p, 1, none⟩ (.bool true)).setCell ⟨p, 2, none⟩ (.slice a5 M5 c5)) Nob := (mA.trans hm5).drop mq (fun k (hk : k = p) => .inr (by omega))
    have u1 : ∀ u ∈ us, u.oneCell' = true := fun u hu => by
      obtain ⟨i, hi⟩ := List.getElem?_of_mem hu
      have hlt := (List.getElem?_eq_some_iff.1 hi).1
      have h9 := hue i u _ hi (List.getElem?_eq_getElem (by rw [← HUL.out]; exact hlt))
      obtain ⟨_, _, e, _⟩ := h9.1.form
      rw [e]; rfl
    have v1 : ∀ u ∈ [Value.slice a5 M5 c5], u.oneCell' = true := by simp [Value.oneCell']
    go_upto_region 6 with fail
    obtain ⟨W6, hW6⟩ : ∃ W6, (w5.setCell ⟨p, 1, none⟩ (.bool true)).setCell ⟨p, 2, none⟩ (.slice a5 M5 c5) = W6 := ⟨_, rfl⟩
    rw [hW6] at hur5 ho6 m6 cq ⊢
    clear hW6 mq cp z1 z2 zf hm5 mA hvA hur
    have cq' : CellsAt W6 p #[.string nm, .bool true, .slice a5 M5 c5, .slice aa M ac] 83 := cq
    have y2c := cq'.cell 2
    have y3c := cq'.cell 3
    simp at y2c y3c
    have hpl := cq'.lt
    have s65 := src_of_row hur5
    go_cut [] from 63 to 70 (fun wx => PutAll nm p (.slice a5 M5 c5) M us W6 wx)
    case first =>
      go_region_law
        (first
          | (show if Region.wanted ⟨some 65, _, _, _, _, _⟩ _ = true then _ else _
             refine step_rows (by rfl) _ _ (by rfl) (.slice none 0 0) (.slice aa M ac) (by rfl) (by rfl) W6 0 M [] us (World.ownsRow_nil _ _ _ _) (s65.mod (by (repeat (first | exact Mod.refl _ _ | refine Mod.setCell ?_ (.inr (by simp)) _ | refine Mod.alloc ?_ _ | refine Mod.drew ?_)))) u1 (by omega) (by (repeat (first | exact Mod.refl _ _ | refine Mod.setCell ?_ (.inr (by simp)) _ | refine Mod.alloc ?_ _ | refine Mod.drew ?_))) ?_
             intro a65 c65 w7 rA mA nA
             simp only [Nat.zero_add, List.nil_append] at rA
             have dA := (cq'.mod mA nob).cell 2
             have dA3 := (cq'.mod mA nob).cell 3
             simp at dA dA3
             have bA := Nat.lt_of_lt_of_le hpl mA.size)
          | (show if Region.wanted ⟨some 69, _, _, _, _, _⟩ _ = true then _ else _
             refine step_rows (by rfl) _ _ (by rfl) (.slice a65 M c65) _ (by first | rfl | simp) (by rfl) W6 M 1 _ [.slice a5 M5 c5] (by first | exact rA | exact owns_mod rA ((Mod.refl w7 Nob).alloc _) (fun _ _ => nob)) (by first | exact src_row _ _ | exact (src_row W6 _).mod ((Mod.refl _ Nob).drew.trans (nA.wide (fun k hk => (not_nil_block k hk).elim)))) v1 (by omega) (by first | exact mA | exact mA.alloc _) ?_
             intro a69 c69 w8 rB mB nB
             have dB := (cq'.mod mB nob).cell 3
             have fB := (cq'.mod mB nob).free 3
             simp at dB))
      all_goals (
        go_wp2_with fail
        go_meet
        have mS := (Mod.refl w8 (· = p)).setCell (p := ⟨p, 3, none⟩) (.inl rfl) (.slice a69 (M + 1) c69)
        exact ⟨a69, c69, (cq'.mod mB nob).set 3 _, owns_mod rB mS (fun k hk (e : k = p) => by have := (rB.lt k hk).1; omega), (mB.nob (T := (· = p))).drop mS (fun k hk => .inl hk)⟩)
    case rest =>
      obtain ⟨a69, c69, cZ, rZ, mZ⟩ := hcut
      have hpW : Wc.heap.size ≤ p := by omega
      have mW := m6.drop mZ (fun k (hk : k = p) => .inr (by omega))
      have g0 := cZ.cell 0
      have g1 := cZ.cell 1
      have g2 := cZ.cell 2
      have g3 := cZ.cell 3
      simp at g0 g1 g2 g3
      have b5 : ∀ k, inBlock (.slice a5 M5 c5) k → p + 1 ≤ k ∧ k < W6.heap.size := fun k hk => by
        have h8 := ho6.lt k hk
        simp at h8
        omega
      have b9 : ∀ k, inBlock (.slice a69 (M + 1) c69) k → W6.heap.size ≤ k ∧ k < wc.heap.size := fun k hk => rZ.lt k hk
      have hoZ := owns_mod ho6 mZ (fun k hk (e : k = p) => by have := (b5 k hk).1; omega)
      rw [← hM5] at hoZ
      have hbyt := BytesAt.of_owns hoZ
      rw [hM5] at hbyt
      have hlt4 := h4.foot_lt
      have sW := mW.size
      have s6 := m6.size
      have sZ := mZ.size
      have h7 := (h4.still mW).hold_more (fun k => inBlock (.slice a5 M5 c5) k ∨ inBlock (.slice a69 (M + 1) c69) k) (fun k hk => by
        rcases hk with hk | hk
        · have h8 := b5 k hk
          exact ⟨by omega, fun ho => by have := hlt4 k (.inl ho); omega⟩
        · have h8 := b9 k hk
          exact ⟨h8.2, fun ho => by have := hlt4 k (.inl ho); omega⟩)
      have hra : RcAt wc (fun k => y3.held k ∨ (inBlock (.slice a5 M5 c5) k ∨ inBlock (.slice a69 (M + 1) c69) k)) (nm, some l, vers_ L nm ++ [l]) (.slice a5 M5 c5, .slice a69 (M + 1) c69) := by
        refine ⟨⟨hbyt, fun k hk => .inr (.inl hk)⟩, us ++ [.slice a5 M5 c5], RowAt.of_owns rZ, fun k hk => .inr (.inr hk), by simp [HUL.out], fun i u l' hi' hj' => ?_⟩
        have hul := HUL.out
        by_cases hlt : i < us.length
        · rw [List.getElem?_append_left hlt] at hi'
          rw [List.getElem?_append_left (by omega)] at hj'
          exact (hue i u l' hi' hj').mono mW (fun k hk => hk.elim) (fun _ h => .inl h)
        · have h0 : i = us.length := by
            have := (List.getElem?_eq_some_iff.1 hi').1
            simp at this
            omega
          rw [h0, List.getElem?_append_right (Nat.le_refl _)] at hi'
          rw [h0, hul, List.getElem?_append_right (Nat.le_refl _)] at hj'
          simp at hi' hj'
          subst hi'; subst hj'
          exact ⟨hbyt, fun k hk => .inr (.inl hk)⟩
      have HRA := Lib.hid hra
      clear hra hbyt hoZ rZ cZ y2c y3c cq cq' s65 hur5
      go_wp2_with fail
      refine (ref_set b L1 O2 { y3 with held := fun k => y3.held k ∨ (inBlock (.slice a5 M5 c5) k ∨ inBlock (.slice a69 (M + 1) c69) k) } K (nm, some l, vers_ L nm ++ [l]) (.slice a5 M5 c5) (.slice a69 (M + 1) c69) wc h7 (by rw [HN.out]; exact hKN) (by omega) HRA.out).mono ?_
      rintro e w9 ⟨y9, rfl, h9, hk9⟩
      rw [hset] at h9
      go_wp2_with fail
      go_end0
      refine ⟨y9, rfl, h9, ?_⟩
      have kw := kk.mod.size
      exact (kk.trans (y' := y3) (y'' := { y3 with held := fun k => y3.held k ∨ (inBlock (.slice a5 M5 c5) k ∨ inBlock (.slice a69 (M + 1) c69) k) }) ⟨mW.nob, fun k hk => .inl hk, fun k hk => .inl hk, fun k hk => hk.imp (fun h => h) (fun h => by
        rcases h with h | h
        · have := b5 k h; omega
        · have := b9 k h; omega)⟩).trans hk9

end Go.Proofs.Ytbpdmncobeiinaa
