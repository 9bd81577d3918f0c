/- What rolling back does to a store ((*store.Store).Roll). The condition: each Put's place is within the changes, names are no longer than a string may be, fewer than 2^28 changes. -/
import Derived.Test.YtbpdmncobeiinaaWa
import Derived.Test.YtbpdmncobeiinaaIb
import Derived.Test.YtbpdmncobeiinaaBm
import Derived.Test.YtbpdmncobeiinaaBp
import Derived.Test.YtbpdmncobeiinaaSf
namespace Go.Proofs.Ytbpdmncobeiinaa
open Go.RowKit Go.Shelf
attribute [local go_sem] Oper.semAt_some

/-- What a name showed ahead of the first of some changes. -/
def wasOf (cs : List (ByteArray × Option (List UInt8))) (nm : ByteArray) : Option (Option (List UInt8)) := (cs.find? fun c => decide (c.1 = nm)).map (·.2)

/-- A store whose changes are in order. -/
structure Sto.Fair (σ : Sto) : Prop where
  puts : ∀ p ∈ σ.puts, p < σ.changes.length
  size : ∀ c ∈ σ.changes, c.1.size ≤ maxLen
  shown : ∀ nm, (σ.shows nm).isSome = true → nm ∈ σ.changes.map (·.1)

/-- Names are set to what they were. -/
def Sto.rolled (σ : Sto) (was : ByteArray → Option (Option (List UInt8))) (ns : List ByteArray) : Sto := ns.foldl (fun s nm => s.set nm ((was nm).getD none)) σ

/-- Changes as they lie in memory. -/
def tailOf (cs : List (ByteArray × Option (List UInt8))) (vs : List Sl) : List Ch := (cs.zip vs).map fun x => (x.1.1, x.2, x.1.2.isSome)
theorem tailOf_length (cs : List (ByteArray × Option (List UInt8))) (vs : List Sl) (h : vs.length = cs.length) : (tailOf cs vs).length = cs.length := by simp [tailOf, h]
theorem tailOf_get (cs : List (ByteArray × Option (List UInt8))) (vs : List Sl) (j : Nat) (c : Ch) (h : (tailOf cs vs)[j]? = some c) : ∃ cj vj, cs[j]? = some cj ∧ vs[j]? = some vj ∧ c = (cj.1, vj, cj.2.isSome) := by
  unfold tailOf at h
  rw [List.getElem?_map, Option.map_eq_some_iff] at h
  obtain ⟨x, hx, rfl⟩ := h
  obtain ⟨h1, h2⟩ := List.getElem?_zip_eq_some.1 hx
  exact ⟨_, _, h1, h2, rfl⟩
theorem chCells_get : ∀ (cs : List (ByteArray × Option (List UInt8))) (vs : List Value), vs.length = cs.length → ∀ (i : Nat) c v, cs[i]? = some c → vs[i]? = some v → (chCells cs vs)[i * 3]? = some (.string c.1) ∧ (chCells cs vs)[i * 3 + 1]? = some v ∧ (chCells cs vs)[i * 3 + 2]? = some (.bool c.2.isSome)
  | [], _, _, _, _, _, h, _ => by simp at h
  | c0 :: cs, [], h, _, _, _, _, _ => by simp at h
  | c0 :: cs, v0 :: vs, _, 0, c, v, h1, h2 => by simp at h1 h2; subst h1; subst h2; simp [chCells]
  | c0 :: cs, v0 :: vs, h, i + 1, c, v, h1, h2 => by
    have := chCells_get cs vs (by simpa using h) i c v (by simpa using h1) (by simpa using h2)
    rw [show (i + 1) * 3 = i * 3 + 3 by omega]
    simpa [chCells] using this
theorem own_cell {w : World} {base : Nat} {e : TypeId} {size g cap n : Nat} {xs : List Value} (h : w.ownsRow base e size (.slice (some ⟨g, 0, none⟩) n cap) n xs) (q : Nat) (u : Value) (hq : xs[q]? = some u) : w.cell? ⟨g, q, none⟩ = some u := by
  obtain ⟨hl, ⟨h, _⟩ | ⟨g', cap', cur, h, hb, hg, hn, hc, hs, ht⟩⟩ := h
  · cases h
  · cases h
    have hi : q < xs.length := (List.getElem?_eq_some_iff.1 hq).1
    rw [← ht, List.getElem?_take_of_lt (by omega)] at hq
    simp [World.cell?, hg]
    simpa using hq

theorem rolled_length (σ : Sto) (was : ByteArray → Option (Option (List UInt8))) (ns : List ByteArray) : (σ.rolled was ns).changes.length = σ.changes.length + ns.length := by
  unfold Sto.rolled
  induction ns generalizing σ with
  | nil => rfl
  | cons nm ns ih =>
    rw [List.foldl_cons, ih]
    simp [Sto.set]
    omega

theorem held_form {w : World} {H : Nat → Prop} {o : Option (List UInt8)} {v : Value} (h : ChHeld w H o v) : ∃ t : Sl, v = slv t := by
  cases o with
  | none => exact ⟨(none, 0, 0), h⟩
  | some l =>
    obtain ⟨a, c, rfl, _⟩ := h.1.form
    exact ⟨(a, _, c), rfl⟩
theorem slices_of : ∀ (vs : List Value), (∀ (i : Nat) v, vs[i]? = some v → ∃ t : Sl, v = slv t) → ∃ ts : List Sl, vs = ts.map slv
  | [], _ => ⟨[], rfl⟩
  | v :: vs, h => by
    obtain ⟨t, rfl⟩ := h 0 v rfl
    obtain ⟨ts, rfl⟩ := slices_of vs (fun i u hi => h (i + 1) u (by simpa using hi))
    exact ⟨t :: ts, rfl⟩

/-- What a map shows behind changes that were gone through from the last one on. -/
def shownBy (pre : List (W64 × Ch)) (nm : ByteArray) : Option Value := (pre.reverse.find? fun y => decide (y.2.1 = nm)).map fun y => .agg #[.string y.2.1, slv y.2.2.1, .bool y.2.2.2]
theorem shownBy_snoc (pre : List (W64 × Ch)) (y : W64 × Ch) : shownBy (pre ++ [y]) = upd (shownBy pre) y.2.1 (some (.agg #[.string y.2.1, slv y.2.2.1, .bool y.2.2.2])) := by
  funext nm
  unfold shownBy upd
  rw [List.reverse_append]
  simp only [List.reverse_cons, List.reverse_nil, List.nil_append, List.cons_append, List.find?_cons]
  by_cases h : nm = y.2.1
  · subst h; simp
  · have h' : ¬ y.2.1 = nm := fun e => h e.symm
    simp [h, h']

theorem shownBy_all (L : List Ch) (nm : ByteArray) : shownBy (rnumbered L) nm = (L.find? fun c => decide (c.1 = nm)).map fun c => .agg #[.string c.1, slv c.2.1, .bool c.2.2] := by
  unfold shownBy rnumbered
  rw [List.reverse_reverse, List.find?_map, Option.map_map]
  have key : ∀ (L : List Ch) (k : Nat), ((L.zipIdx k).find? ((fun y : W64 × Ch => decide (y.2.1 = nm)) ∘ fun x => (BitVec.ofNat 64 x.2, x.1))).map (fun x => x.1) = L.find? fun c => decide (c.1 = nm) := by
    intro L
    induction L with
    | nil => intro k; rfl
    | cons c L ih =>
      intro k
      simp only [List.zipIdx_cons, List.find?_cons, Function.comp]
      by_cases h : c.1 = nm
      · simp [h]
      · simp only [h, decide_false]
        exact ih (k + 1)
  rw [← key L 0, Option.map_map]
  rfl

theorem shownBy_tail (cs : List (ByteArray × Option (List UInt8))) (vs : List Sl) (h : vs.length = cs.length) (nm : ByteArray) :
    (shownBy (rnumbered (tailOf cs vs)) nm = none ∧ wasOf cs nm = none) ∨ ∃ (i : Nat) (cj : ByteArray × Option (List UInt8)) (vj : Sl), cs[i]? = some cj ∧ vs[i]? = some vj ∧ cj.1 = nm ∧ shownBy (rnumbered (tailOf cs vs)) nm = some (.agg #[.string nm, slv vj, .bool cj.2.isSome]) ∧ wasOf cs nm = some cj.2 := by
  rw [shownBy_all]
  induction cs generalizing vs with
  | nil => exact .inl ⟨rfl, rfl⟩
  | cons c cs ih =>
    cases vs with
    | nil => simp at h
    | cons v vs =>
      by_cases hc : c.1 = nm
      · refine .inr ⟨0, c, v, rfl, rfl, hc, ?_, ?_⟩
        · simp [tailOf, hc]
        · simp [wasOf, hc]
      · have e1 : tailOf (c :: cs) (v :: vs) = (c.1, v, c.2.isSome) :: tailOf cs vs := rfl
        rw [e1]
        simp only [List.find?_cons, hc, decide_false]
        have e2 : wasOf (c :: cs) nm = wasOf cs nm := by simp [wasOf, hc]
        rw [e2]
        rcases ih vs (by simpa using h) with h1 | ⟨i, cj, vj, g1, g2, g3, g4, g5⟩
        · exact .inl h1
        · exact .inr ⟨i + 1, cj, vj, by simpa using g1, by simpa using g2, g3, g4, g5⟩

set_option maxRecDepth 100000 in
set_option maxHeartbeats 4000000 in
theorem roll_yes (b : Nat) (σ : Sto) (x : StoB) (n p : Nat) (w : World) (h : StoreAt w b σ x) (hf : σ.Fair) (hc : σ.changes.length < 268435456) (hn1 : 1 ≤ n) (hn2 : n ≤ σ.puts.length) (hp : σ.puts[σ.puts.length - n]? = some p) :
    Calls Try.prog 17 #[.pointer (some ⟨b, 0, none⟩), .int .i64 n] w fun e w' =>
      ∃ ns : List ByteArray, ns.Nodup ∧ (∀ nm, nm ∈ ns ↔ (wasOf (σ.changes.drop p) nm).isSome = true) ∧ DidS w b x (.bool true) (σ.rolled (wasOf (σ.changes.drop p)) ns) e w' := by
  obtain ⟨vs0, hv10, hv20, hch⟩ := h.chs
  obtain ⟨vs, rfl⟩ := slices_of vs0 (fun i v hi => by
    have hlt : i < σ.changes.length := by rw [← hv10]; exact (List.getElem?_eq_some_iff.1 hi).1
    exact held_form (hv20 i _ v (List.getElem?_eq_getElem hlt) hi))
  have hv1 : vs.length = σ.changes.length := by rw [← hv10, List.length_map]
  have hv2 : ∀ (i : Nat) c (v : Sl), σ.changes[i]? = some c → vs[i]? = some v → ChHeld w x.held c.2 (slv v) := fun i c v h1 h2 => hv20 i c (slv v) h1 (by rw [List.getElem?_map, h2]; rfl)
  have hpu := h.puts
  have c2 := h.cells.cell 2
  have c3 := h.cells.cell 3
  simp at c2 c3
  obtain ⟨ca, cc, hcv, _, hcc⟩ := owns_form hch
  obtain ⟨pa, pc, hpv, _, hpc⟩ := owns_form hpu
  have hpl : p < σ.changes.length := hf.puts p (List.mem_of_getElem? hp)
  obtain ⟨pg, rfl⟩ : ∃ g, pa = some ⟨g, 0, none⟩ := by
    rw [hpv] at hpu
    rcases hpu.2 with ⟨_, h0⟩ | ⟨g, cap', cur, h0, _⟩
    · omega
    · cases h0; exact ⟨g, rfl⟩
  obtain ⟨cg, rfl⟩ : ∃ g, ca = some ⟨g, 0, none⟩ := by
    rw [hcv] at hch
    rcases hch.2 with ⟨_, h0⟩ | ⟨g, cap', cur, h0, _⟩
    · omega
    · cases h0; exact ⟨g, rfl⟩
  have hpcell : w.cell? ⟨pg, σ.puts.length - n, none⟩ = some (.int .i64 p) := by
    rw [hpv] at hpu
    obtain ⟨g', cap', e1, _, _, hcl, _⟩ := owns_open hpu (by omega)
    cases e1
    exact hcl _ _ (by rw [List.getElem?_map, hp]; rfl)
  have hlc : σ.changes.length ≤ cc := by
    rw [hcv] at hch
    rcases hch.2 with ⟨_, h0⟩ | ⟨g, cap', cur, h0, _, _, h1, _⟩
    · omega
    · cases h0; exact h1
  rw [hcv] at c2
  rw [hpv] at c3
  obtain ⟨P, hP⟩ : ∃ P, σ.puts.length = P := ⟨_, rfl⟩
  obtain ⟨N, hN⟩ : ∃ N, σ.changes.length = N := ⟨_, rfl⟩
  rw [hP] at hpcell hn2 c3
  rw [hN] at c2 hpl hc hlc
  have e0 : ((n : Int) == 0) = false := by simp; omega
  have s1 : IntKind.i64.wrap ((P : Int) - (n : Int)) = ((P - n : Nat) : Int) := by
    have : IntKind.i64.wrap ((P : Int) - (n : Int)) = (P : Int) - (n : Int) := IntWalk.i64_in _ (by unfold maxLen at hpc; omega)
    rw [this]; omega
  have s2 : P - n < P := by omega
  have hP63 : P ≤ 9223372036854775807 := by unfold maxLen at hpc; omega
  have HP := Lib.hid hP
  have HN := Lib.hid hN
  have HPV := Lib.hid hpv
  have HCV := Lib.hid hcv
  clear hpu hP hN hpv hcv hp
  have dn : decide ((n : Int) < 0) = false := by simp
  have dP : decide (P < n) = false := by simpa using hn2
  have hmm := @run_makeMap Try.prog
  refine (callsIn_wide (n := 6)).1 ?_
  refine callsIn_of_wp_marks Try.func17 rfl trivial ?_ rfl
  simp only [Try.ntmps17, List.size_toArray, List.length_cons, List.length_nil, Nat.reduceAdd, Nat.reduceSub, Array.replicate_succ, Array.replicate_zero, List.push_toArray, List.append_toArray, List.nil_append, List.cons_append]
  refine wpIn_wide.2 ?_
  go_wp2_with fail
  have hA := ((Mod.refl w Nob).alloc (.map #[] 0)).alloc (.cells #[.map (some w.heap.size)] 72)
  have cM := (MapAt.new Value.string w).mod ((Mod.refl _ Nob).alloc (.cells #[.map (some w.heap.size)] 72)) nob
  have cB := CellsAt.new (w.alloc (.map #[] 0)) #[.map (some w.heap.size)] 72
  rw [World.size_alloc] at cB
  have hsz : ((w.alloc (.map #[] 0)).alloc (.cells #[.map (some w.heap.size)] 72)).heap.size = w.heap.size + 2 := by simp
  obtain ⟨W1, hW1⟩ : ∃ W1, (w.alloc (.map #[] 0)).alloc (.cells #[.map (some w.heap.size)] 72) = W1 := ⟨_, rfl⟩
  rw [hW1] at hA cM cB hsz ⊢
  have lcb := cell_lt c2
  have lpg := cell_lt hpcell
  have lcg : cg < w.heap.size := by
    have := h.foot_lt cg (.inl (.inr (.inr (.inr (.inl (by rw [HCV.out]; rfl))))))
    exact this
  replace c2 := (hA.cell lcb nob).trans c2
  replace c3 := (hA.cell lcb nob).trans c3
  replace hpcell := (hA.cell lpg nob).trans hpcell
  clear hW1 hmm
  have hsl : (Instr.slice 64 (.slice (some ⟨cg, 0, none⟩) N cc) (some (.int .i64 p)) none none).run Try.prog W1.drew = .ok (.slice (some ⟨cg, p * 3, none⟩) (N - p) (cc - p)) W1.drew := by
    have := run_slice_from (P := Try.prog) W1.drew 64 77 Try.underlying64 3 (fun _ => by kernel_rfl) cg 0 N cc p (by omega) (by omega)
    rwa [Nat.zero_add] at this
  refine wp_region_still_tail 18 (by kernel_rfl) (by kernel_rfl) ?_
  simp only [List.take_succ_cons, List.take_zero, List.drop_succ_cons, List.drop_zero]
  repeat still_step
  refine wpStill_nil ?_
  change wpList _ _ _ _ _ W1.drew
  go_wp2_with (go_at_call 37; refine (back_any _ _ _ _).mono ?_; rintro e w' ⟨rfl, rfl⟩)
  have hA2 := (hA.alloc (.cells #[.slice (some ⟨cg, p * 3, none⟩) (N - p) (cc - p)] 64)).drew
  have hm12 := (((Mod.refl W1 Nob).alloc (.cells #[.slice (some ⟨cg, p * 3, none⟩) (N - p) (cc - p)] 64))).drew
  have cM2 := cM.mod hm12 nob
  have cB2 := cB.mod hm12 nob
  have cS2 := (CellsAt.new W1 #[.slice (some ⟨cg, p * 3, none⟩) (N - p) (cc - p)] 64).mod ((Mod.refl _ Nob).drew) nob
  rw [hsz] at cS2
  have hsz2 : (W1.alloc (.cells #[.slice (some ⟨cg, p * 3, none⟩) (N - p) (cc - p)] 64)).drew.heap.size = w.heap.size + 3 := by simp [hsz]
  obtain ⟨W2, hW2⟩ : ∃ W2, (W1.alloc (.cells #[.slice (some ⟨cg, p * 3, none⟩) (N - p) (cc - p)] 64)).drew = W2 := ⟨_, rfl⟩
  rw [hW2] at hA2 hm12 cM2 cB2 cS2 hsz2 ⊢
  have hS2 := h.still hA2
  obtain ⟨M, hM⟩ : ∃ M, w.heap.size = M := ⟨_, rfl⟩
  have hCh : ChsAt w.heap.size W2 (.slice (some ⟨cg, p * 3, none⟩) (N - p) (cc - p)) (tailOf (σ.changes.drop p) (vs.drop p)) := by
    refine .inr ⟨cg, p * 3, cc - p, ?_, lcg, fun j c hj => ?_⟩
    · rw [tailOf_length _ _ (by rw [List.length_drop, List.length_drop, hv1]), List.length_drop, HN.out]
    · obtain ⟨cj, vj, h1, h2, rfl⟩ := tailOf_get _ _ _ _ hj
      rw [List.getElem?_drop] at h1 h2
      obtain ⟨d0, d1, d2⟩ := chCells_get σ.changes (vs.map slv) (by rw [List.length_map]; exact hv1) (p + j) cj (slv vj) h1 (by rw [List.getElem?_map, h2]; rfl)
      have hch2 := owns_mod hch hA2 (fun _ _ => nob)
      rw [HCV.out] at hch2
      rw [← Nat.add_mul]
      exact ⟨own_cell hch2 _ _ d0, own_cell hch2 _ _ d1, own_cell hch2 _ _ d2⟩
  obtain ⟨L, hL⟩ : ∃ L, tailOf (σ.changes.drop p) (vs.drop p) = L := ⟨_, rfl⟩
  have hLl : L.length ≤ 268435456 := by
    rw [← hL, tailOf_length _ _ (by rw [List.length_drop, List.length_drop, hv1]), List.length_drop, HN.out]
    omega
  rw [hL] at hCh
  have HL := Lib.hid hL
  rw [hM] at hsz2 cS2 cM2 cB2 lcb lpg lcg hCh ⊢
  have HM := Lib.hid hM
  clear hW2 hM cM cB hsl c2 c3 hpcell hsz hL
  refine (wpIn_wide (n := 6)).1 ?_
  have hfoot := h.foot_lt
  refine wpIn_rangeFunc_ownH (F := Fence.wide) (n := 6) rfl (by omega) (gf := 57) (lb := #[.pointer (some ⟨M + 2, 0, none⟩)]) rfl trivial (enters_of Try.func57 (by kernel_rfl) rfl)
    (back_stops Fence.wide 5 trivial rfl (by omega) (M + 2) M _ L (by omega) W2 (by omega) (by omega) ((cS2.cell 0).trans rfl) hCh) (fun h k => h.trans k) (KB.put (by omega) (by omega)) (Below.refl _ _) (fun _ => rfl)
    (fun pre W => MapAt Value.string W M (shownBy pre) ∧ CellsAt W (M + 1) #[.map (some M)] 72 ∧ StoreAt W b σ x ∧ Mod w W Nob ∧ M + 2 < W.heap.size)
    (fun _ _ _ => False)
    ?own
    (fun _ _ _ _ _ hs _ _ => hs)
    ⟨cM2, cB2, hS2, hA2, by omega⟩
    (fun y a' W => ∃ Bx, M + 2 < Bx ∧ CellsAt W Bx #[.string y.2.1, slv y.2.2.1, .bool y.2.2.2] 77 ∧ a' = { tmps := #[.pointer (some ⟨b, 0, none⟩), .int .i64 n, undef, undef, .bool false, .pointer (some ⟨M + 1, 0, none⟩), undef, .pointer (some ⟨Bx, 0, none⟩), undef, undef, .pointer (some ⟨b, 0, none⟩), .bool false, .bool false, .int .i64 n, .bool false, .bool false, .bool false, .int .i64 n, .pointer (some ⟨b, 0, none⟩), .pointer (some ⟨b, 0, none⟩), .pointer (some ⟨b, 3, none⟩), .slice (some ⟨pg, 0, none⟩) P pc, .int .i64 P, .bool false, .bool false, .int .i64 n, .bool false, .map (some M), .pointer (some ⟨b, 0, none⟩), .pointer (some ⟨b, 0, none⟩), .pointer (some ⟨b, 2, none⟩), .slice (some ⟨cg, 0, none⟩) N cc, .pointer (some ⟨b, 0, none⟩), .pointer (some ⟨b, 0, none⟩), .pointer (some ⟨b, 3, none⟩), .slice (some ⟨pg, 0, none⟩) P pc, .pointer (some ⟨b, 0, none⟩), .pointer (some ⟨b, 0, none⟩), .pointer (some ⟨b, 3, none⟩), .slice (some ⟨pg, 0, none⟩) P pc, .int .i64 P, .int .i64 n, .int .i64 ((P - n : Nat) : Int), .pointer (some ⟨pg, P - n, none⟩), .int .i64 p, .slice (some ⟨cg, p * 3, none⟩) (N - p) (cc - p), .func (.func 57) #[] #[.pointer (some ⟨M + 2, 0, none⟩)], I y.1, .agg #[.string y.2.1, slv y.2.2.1, .bool y.2.2.2], undef, undef, undef, undef, undef, undef, undef, undef, undef, undef, undef, undef, undef, undef, undef, undef, undef, undef, undef, undef, undef, undef, undef, undef], defers := [] })
    (fun y a' _ X Y row hs hg hr => by
      obtain ⟨Bx, h1, h2, h3⟩ := hs
      exact ⟨Bx, h1, (grownBy_keeps_cells hg (fun r e => (hr r e).2) h2 rfl).trans h2, h3⟩)
    ?assign ?body ?done ?stop
  case own =>
    intro pre W W' row hs hg hr
    obtain ⟨h1, h2, h3, h4, h5⟩ := hs
    have hm : Mod W W' (M + 3 ≤ ·) := (Mod.refl W _).grown hg (fun k e => .inl (by have := (hr k e).1; omega))
    exact ⟨h1.mod hm (by omega), h2.mod hm (by omega), h3.mod hm (fun k hk hf' => by have := hfoot k hf'; have := HM.out; omega), h4.drop hm (fun k hk => .inr (by have := HM.out; omega)), Nat.lt_of_lt_of_le h5 hm.size⟩
  case stop =>
    intro D c pre W _ _ h
    exact h.elim
  case assign =>
    rintro l pre ⟨num, nm, ⟨va, vn, vc⟩, is⟩ W K ⟨hmp, hbx, hst, hmd, hsz3⟩ hK
    dsimp only at hK ⊢
    gi_wp2
    have hA3 := (Mod.refl W Nob).alloc (.cells #[.string nm, .slice va vn vc, .bool is] 77)
    have hA3s := hA3.size
    exact hK _ _ ((KeepsOthers.alloc _ _).from _) (KB.of_mod hA3 (by omega) (by omega) (fun k h => h.elim)) ⟨hmp.mod hA3 nob, hbx.mod hA3 nob, hst.still hA3, hmd.trans hA3, by omega⟩ ⟨W.heap.size, by omega, CellsAt.new W _ _, rfl⟩
  case body =>
    rintro l pre ⟨num, nm, ⟨va, vn, vc⟩, is⟩ a' W hlb ⟨r, hr⟩ ⟨hmp, hbx, hst, hmd, hsz3⟩ ⟨Bx, hBx, cX, rfl⟩ hlt
    dsimp only at cX ⊢
    have b0 := hbx.cell 0
    have x0 := cX.cell 0
    have x1 := cX.cell 1
    have x2 := cX.cell 2
    simp at b0 x0 x1 x2
    gi_wp2_with (refine wpListIn_mapUpdate_at rfl (.tmp 49) (.tmp 51) (.tmp 52) 72 rfl 9 77 Try.underlying72 keyS rfl hmp nm rfl (.agg #[.string nm, .slice va vn vc, .bool is]) rfl ?_)
    intro w3 mp3 hg3
    have hm3 := (Mod.refl W (· = M)).grown hg3 (fun k e => by cases e; exact .inl rfl)
    have hfM : ¬ x.foot b M := fun hf' => by have := hfoot M hf'; have := HM.out; omega
    have hm3s := hm3.size
    gi_wp2_with fail
    refine ⟨keepsFrom_mod hm3 (fun k (hk : k = M) => by omega), KB.of_mod hm3 (by omega) (by omega) (fun k (hk : k = M) => ⟨by omega, by omega⟩), ?_, hbx.mod hm3 (by omega), hst.mod hm3 (fun k (hk : k = M) => by rw [hk]; exact hfM), hmd.drop hm3 (fun k (hk : k = M) => .inr (by have := HM.out; omega)), by omega⟩
    rw [shownBy_snoc]
    exact mp3
  case done =>
    rintro D ys W hD rfl ⟨hmp, hbx, hst, hmd, hsz3⟩ hK
    have hfind (nm : ByteArray) := shownBy_tail (σ.changes.drop p) (vs.drop p) (by rw [List.length_drop, List.length_drop, hv1]) nm
    rw [HL.out] at hfind
    have hmem : ∀ nm, (shownBy (rnumbered L) nm).isSome = true → nm ∈ σ.changes.map (·.1) := fun nm hs => by
      rcases hfind nm with ⟨h1, _⟩ | ⟨i, cj, vj, h1, h2, h3, _, _⟩
      · rw [h1] at hs; cases hs
      · rw [List.getElem?_drop] at h1
        exact List.mem_map.2 ⟨cj, List.mem_of_getElem? h1, h3⟩
    have hsome : ∀ nm, (shownBy (rnumbered L) nm).isSome = (wasOf (σ.changes.drop p) nm).isSome := fun nm => by
      rcases hfind nm with ⟨h1, h2⟩ | ⟨i, cj, vj, _, _, _, h4, h5⟩
      · rw [h1, h2]; rfl
      · rw [h4, h5]; rfl
    have hso := sorted_changes (w := W) hmp (fun k hk => by
      obtain ⟨c, hc', rfl⟩ := List.mem_map.1 (hmem k hk)
      exact hf.size c hc') (σ.changes.map (·.1)) hmem (by rw [List.length_map, HN.out]; omega)
    have b0 := hbx.cell 0
    simp at b0
    have hWs := hmd.size
    go_wp2_with fail
    refine ((callsIn_wide (n := 5)).1 (keys_changes (some M) W)).mono ?_
    rintro e w' ⟨rfl, rfl⟩
    go_wp2_with fail
    refine ((callsIn_wide (n := 5)).1 hso).mono ?_
    rintro e w4 ⟨nv, ns, rfl, n1, n2, n3, n4, orow, hbl⟩
    have hm4 : Mod W w4 Nob := ((Mod.refl W Nob).alloc (.cells #[.map (some M)] 72)).trans ⟨hbl.os, hbl.tape, hbl.output, hbl.size, fun k hk _ => hbl.block k hk⟩
    have mp4 := hmp.mod hm4 nob
    have bx4 := hbx.mod hm4 nob
    have st4 := hst.still hm4
    have md4 := hmd.trans hm4
    have D4 := hm4.keep hK nob
    have hrl : ∀ k, inBlock nv k → M < k := fun k hk => by
      have := (orow.lt k hk).1
      simp at this
      omega
    obtain ⟨na, nc, rfl, _, _⟩ := owns_form orow
    obtain ⟨LN, hLN⟩ : ∃ LN, ns.length = LN := ⟨_, rfl⟩
    rw [hLN] at orow n4
    simp only [hLN] at hrl
    rw [hLN]
    have HLN := Lib.hid hLN
    have hlnN : LN ≤ N := by
      have := nodup_le ns (σ.changes.map (·.1)) n1 (fun k hk => hmem k ((n2 k).1 hk))
      rw [HLN.out, List.length_map, HN.out] at this
      exact this
    clear hso hmp hbx hst hmd hK b0 hm4 hbl hLN
    go_wp2_with fail
    go_loopw [57] (fun i wr => ∃ q : Nat, q ≤ LN ∧ i = .int .i64 q ∧ ∃ x', StoreAt wr b (σ.rolled (wasOf (σ.changes.drop p)) (ns.take q)) x' ∧ StepS b w4 x wr x') (fun i _ => LN - (intOf i).toNat)
    case atStart => exact ⟨0, Nat.zero_le _, rfl, x, st4, StepS.refl _ _ _⟩
    case round =>
      obtain ⟨q, hq, rfl, x', hst, hstep⟩ := hrel
      have hno : ∀ k, M ≤ k → ¬ x.own b k := fun k hk ho => by have := hfoot k (.inl ho); have := HM.out; omega
      by_cases hqn : q < LN
      · have hqs : q < ns.length := by rw [HLN.out]; exact hqn
        obtain ⟨nm, hnm⟩ : ∃ nm, ns[q]? = some nm := ⟨_, List.getElem?_eq_getElem hqs⟩
        have htk : ns.take (q + 1) = ns.take q ++ [nm] := by
          obtain ⟨h1, h2⟩ := List.getElem?_eq_some_iff.1 hnm
          rw [List.take_succ_eq_append_getElem h1, h2]
        have hin : (shownBy (rnumbered L) nm).isSome = true := (n2 nm).1 (List.mem_of_getElem? hnm)
        rcases hfind nm with ⟨h1, _⟩ | ⟨i, cj, vj, g1, g2, _, g4, g5⟩
        · rw [h1] at hin; cases hin
        have hsn : σ.rolled (wasOf (σ.changes.drop p)) (ns.take (q + 1)) = (σ.rolled (wasOf (σ.changes.drop p)) (ns.take q)).set nm cj.2 := by
          rw [htk]
          unfold Sto.rolled
          rw [List.foldl_append]
          simp [g5]
        have hlenr := rolled_length σ (wasOf (σ.changes.drop p)) (ns.take q)
        rw [List.length_take, HN.out] at hlenr
        obtain ⟨ρ, hρ⟩ : ∃ ρ, σ.rolled (wasOf (σ.changes.drop p)) (ns.take q) = ρ := ⟨_, rfl⟩
        rw [hρ] at hst hsn hlenr
        have HSN := Lib.hid hsn
        have mpr := mp4.mod hstep.mod (hno _ (by omega))
        have bxr := bx4.mod hstep.mod (hno _ (by omega))
        have orr := owns_mod orow hstep.mod (fun k hk => hno k (by have := hrl k hk; omega))
        have c0 := bxr.cell 0
        simp at c0
        obtain ⟨ng, rfl⟩ : ∃ g, na = some ⟨g, 0, none⟩ := by
          rcases orr.2 with ⟨_, h0⟩ | ⟨g, cap', cur, h0, _⟩
          · omega
          · cases h0; exact ⟨g, rfl⟩
        have hcell := own_cell orr q (.string nm) (by rw [List.getElem?_map, hnm]; rfl)
        have HG := Lib.hid g4
        have zeroC : ∀ W, (zeroValue 77).run Try.prog W = .ok (.agg #[.string ⟨#[]⟩, .slice none 0 0, .bool false]) W := fun W => by kernel_rfl
        rw [List.getElem?_drop] at g1 g2
        have hheld := hv2 (p + i) cj vj g1 g2
        clear hsn hρ htk hnm hin g4 g5 g1 g2
        obtain ⟨cnm, co⟩ := cj
        dsimp only at hheld HSN HG
        cases co with
        | some l =>
          have hh4 : Held w4 x.held (slv vj) l := Held.mono hheld md4 (fun _ h => h.elim) (fun _ h => h)
          have hhr := Held.step st4 hh4 hstep
          have hf1 : ∀ W, (Instr.field 77 (.agg #[.string nm, slv vj, .bool true]) 1).run Try.prog W = .ok (slv vj) W := fun W => by kernel_rfl
          have hf2 : ∀ W, (Instr.field 77 (.agg #[.string nm, slv vj, .bool true]) 2).run Try.prog W = .ok (.bool true) W := fun W => by kernel_rfl
          go_wp2_with (first
            | (refine wpList_lookup_val rfl (.tmp 63) (.tmp 64) 72 rfl 9 77 _ Try.underlying72 keyS zeroC rfl mpr nm rfl (.agg #[.string nm, slv vj, .bool true]) (by rw [HG.out]; rfl) ?_)
            | (refine wpList_lookup_val rfl (.tmp 67) (.tmp 68) 72 rfl 9 77 _ Try.underlying72 keyS zeroC rfl mpr nm rfl (.agg #[.string nm, slv vj, .bool true]) (by rw [HG.out]; rfl) ?_))
          refine (set_some b ρ x' nm (slv vj) l wr hst hhr (by omega)).mono ?_
          rintro e w6 ⟨x6, rfl, hs6, hk6⟩
          go_wp2_with fail
          exact ⟨⟨q + 1, by omega, by go_num, x6, by rw [HSN.out]; exact hs6, hstep.trans hk6⟩, by simp [intOf]; omega⟩
        | none =>
          obtain ⟨va, vn, vc⟩ := vj
          have hvj : slv (va, vn, vc) = .slice none 0 0 := hheld
          cases hvj
          have hf1 : ∀ W, (Instr.field 77 (.agg #[.string nm, .slice none 0 0, .bool false]) 1).run Try.prog W = .ok (.slice none 0 0) W := fun W => by kernel_rfl
          have hf2 : ∀ W, (Instr.field 77 (.agg #[.string nm, .slice none 0 0, .bool false]) 2).run Try.prog W = .ok (.bool false) W := fun W => by kernel_rfl
          go_wp2_with (first
            | (refine wpList_lookup_val rfl (.tmp 63) (.tmp 64) 72 rfl 9 77 _ Try.underlying72 keyS zeroC rfl mpr nm rfl (.agg #[.string nm, .slice none 0 0, .bool false]) (by rw [HG.out]; rfl) ?_)
            | (refine wpList_lookup_val rfl (.tmp 67) (.tmp 68) 72 rfl 9 77 _ Try.underlying72 keyS zeroC rfl mpr nm rfl (.agg #[.string nm, .slice none 0 0, .bool false]) (by rw [HG.out]; rfl) ?_))
          refine (set_none b ρ x' nm wr hst (by omega)).mono ?_
          rintro e w6 ⟨x6, rfl, hs6, hk6⟩
          go_wp2_with fail
          exact ⟨⟨q + 1, by omega, by go_num, x6, by rw [HSN.out]; exact hs6, hstep.trans hk6⟩, by simp [intOf]; omega⟩
      · obtain rfl : q = LN := by omega
        have hall : ns.take q = ns := List.take_of_length_le (by rw [HLN.out]; exact Nat.le_refl _)
        rw [hall] at hst
        have Dr : wr.heap[D]? = some (.deferred (some [])) := hstep.mod.keep D4 (hno D (by omega))
        have hmD : Mod wr (wr.putObj D (.deferred none)) (· = D) := (Mod.refl wr (· = D)).putObj (.inl rfl) _
        have hDf : ¬ x'.foot b D := fun hf' => by
          rcases hstep.foot D hf' with h1 | h1
          · have := hfoot D h1; have := HM.out; omega
          · have := heap_lt D4; omega
        clear hall
        go_wp2_with fail
        refine ⟨by simp, .inl ⟨_, _, rfl, run_takeDeferred Dr, ?_⟩⟩
        refine ⟨.bool true, ?_, ns, n1, fun nm => by rw [n2 nm, hsome nm], x', rfl, hst.mod hmD (fun k (hk : k = D) => by rw [hk]; exact hDf), ?_⟩
        · simp [results, Try.f17, go_sem]
        · have hs := StepS.after md4 hstep
          exact ⟨hs.mod.drop hmD (fun k (hk : k = D) => .inr (by have := HM.out; omega)), hs.own, hs.held, hs.fresh⟩

end Go.Proofs.Ytbpdmncobeiinaa
