/- A part of a program run on a machine ((*vm.machine).run). The condition: each operation's registers, and slots, are there. -/
import Derived.Test.YtlnjfcnhgndocaaVc
import Derived.Test.YtlnjfcnhgndocaaVd
import Derived.Test.YtlnjfcnhgndocaaBs
namespace Go.Proofs.Ytlnjfcnhgndocaa
open Go.RowKit Go.Shelf
attribute [local go_sem] Oper.semAt_some

/-- A machine, plainly: registers, the cells of its slots. -/
structure Mach where
  r : List W64
  xs : List Value

/-- One operation done. -/
def Mach.step (seq : W64) (s : Mach) (o : Op1) : Mach :=
  if o.code = 12 then { s with xs := setRec s.xs o.n.toNat (Rec1.made (s.r.getD o.c.toNat 0) (s.r.getD o.a.toNat 0) (s.r.getD o.b.toNat 0) (seq + o.n)) }
  else { s with r := s.r.set o.d.toNat (o.made (s.r.getD o.a.toNat 0) (s.r.getD o.b.toNat 0) (s.r.getD o.c.toNat 0)) }
def Mach.run (seq : W64) (s : Mach) (l : List Op1) : Mach := l.foldl (Mach.step seq) s
theorem Mach.run_snoc (seq : W64) (s : Mach) (l : List Op1) (o : Op1) : s.run seq (l ++ [o]) = (s.run seq l).step seq o := by simp [Mach.run]

/-- An operation that may be: so many slots. -/
structure GoodOp (k : Nat) (o : Op1) : Prop where
  d0 : 0 ≤ o.d
  d1 : o.d < 8
  a0 : 0 ≤ o.a
  a1 : o.a < 8
  b0 : 0 ≤ o.b
  b1 : o.b < 8
  c0 : 0 ≤ o.c
  c1 : o.c < 8
  n1 : o.code = 12 → o.n.toNat < k

/-- A machine in memory. -/
structure MachAt (w : World) (mb : Nat) (sv : Value) (n : Nat) (seq : W64) (s : Mach) : Prop where
  cells : CellsAt w mb (machine s.r sv seq) 64
  r8 : s.r.length = 8
  slots : w.ownsRow 0 56 4 sv n s.xs
  xs4 : s.xs.length = n * 4
  ne : ¬ inBlock sv mb

theorem owns_kept {W W' : World} {row : Option Nat} {base : Nat} {e : TypeId} {size : Nat} {v : Value} {n : Nat} {xs : List Value} (h : W.ownsRow base e size v n xs) (hg : W.grownBy W' row)
    (hrow : ∀ r, row = some r → ∃ o : Obj, W.heap[r]? = some o ∧ o.isCells = false) : W'.ownsRow base e size v n xs := by
  obtain ⟨hl, h | ⟨g, cap, cur, rfl, hb, hgg, rest⟩⟩ := h
  · exact ⟨hl, .inl h⟩
  · exact ⟨hl, .inr ⟨g, cap, cur, rfl, hb, (grownBy_keeps_cells hg hrow hgg rfl).trans hgg, rest⟩⟩
theorem CellsAt.kept {W W' : World} {row : Option Nat} {b : Nat} {cs : Array Value} {t : TypeId} (h : CellsAt W b cs t) (hg : W.grownBy W' row) (hrow : ∀ r, row = some r → ∃ o : Obj, W.heap[r]? = some o ∧ o.isCells = false) : CellsAt W' b cs t :=
  (grownBy_keeps_cells hg hrow h rfl).trans h
theorem MachAt.kept {W W' : World} {row : Option Nat} {mb n : Nat} {sv : Value} {seq : W64} {s : Mach} (h : MachAt W mb sv n seq s) (hg : W.grownBy W' row) (hrow : ∀ r, row = some r → ∃ o : Obj, W.heap[r]? = some o ∧ o.isCells = false) : MachAt W' mb sv n seq s :=
  ⟨h.cells.kept hg hrow, h.r8, owns_kept h.slots hg hrow, h.xs4, h.ne⟩
theorem MachAt.mod {W W' : World} {S : Nat → Prop} {mb n : Nat} {sv : Value} {seq : W64} {s : Mach} (h : MachAt W mb sv n seq s) (hm : Mod W W' S) (h1 : ¬ S mb) (h2 : ∀ k, inBlock sv k → ¬ S k) : MachAt W' mb sv n seq s :=
  ⟨h.cells.mod hm h1, h.r8, owns_mod h.slots hm h2, h.xs4, h.ne⟩

theorem keeps_of_mod {B : Nat} {W W' : World} {S : Nat → Prop} (h : Mod W W' S) (hS : ∀ k, S k → k < B) : KeepsFrom B W W' :=
  ⟨h.size, fun k o hk ho _ => h.keep ho (fun hs => by have := hS k hs; omega)⟩

theorem machine_set (r : List W64) (sv : Value) (seq : W64) (j : Nat) (v : W64) (hj : j < r.length) : (machine r sv seq).setIfInBounds j (I v) = machine (r.set j v) sv seq := by
  unfold machine
  rw [List.setIfInBounds_toArray, List.set_append_left _ _ (by simpa using hj), List.map_set]

theorem setRec_length (xs : List Value) (i : Nat) (r : Rec1) : (setRec xs i r).length = xs.length := by simp [setRec]

set_option maxRecDepth 100000 in
set_option maxHeartbeats 2000000 in
theorem run_in (F : Fence) (n : Nat) (hF : ∀ f, F.fn f) (hro : F.round = none) (hn : 5 ≤ n) (hc : ∀ {f : Nat} {args : Array Value} {W : World} {R : Ending → World → Prop} {m : Nat}, Calls Try.prog f args W R → CallsIn F m Try.prog f args W R)
    (mb k : Nat) (sv : Value) (seq : W64) (s : Mach) (a : Option Addr) (len lc : Nat) (ops : List {o : Op1 // GoodOp k o}) (n₀ : Nat) (w : World) (hm : MachAt w mb sv k seq s) (hn₀ : n₀ ≤ w.heap.size) (hmb : n₀ ≤ mb) (hg : ∀ j, inBlock sv j → n₀ ≤ j) (hops : OpsAt n₀ w (.slice a len lc) (ops.map (·.1)))
    (hl : ops.length ≤ 1000000) (hk : k < 1000) :
    CallsIn F n Try.prog 22 #[.pointer (some ⟨mb, 0, none⟩), .slice a len lc] w fun e w' => e = .returned (.tuple #[]) ∧ MachAt w' mb sv k seq (s.run seq (ops.map (·.1))) ∧ Below n₀ w w' := by
  have h1 : 1 ≤ n := by omega
  refine callsIn_of_wp_marks Try.func22 rfl (hF _) ?_ hro
  simp only [Try.ntmps22, List.size_toArray, List.length_cons, List.length_nil, Nat.reduceAdd, Nat.reduceSub, Array.replicate_succ, Array.replicate_zero, List.push_toArray, List.append_toArray, List.nil_append, List.cons_append]
  gi_wp2_with (gi_at_call 27; refine (values_in F (n - 1) (hF _) hro _ _ _ _).mono ?_; rintro e w' ⟨rfl, rfl⟩)
  have hm0 := ((Mod.refl w Nob).alloc (.cells #[.pointer (some ⟨mb, 0, none⟩)] 61)).alloc (.cells #[.slice a len lc] 28)
  have cM := (CellsAt.new w #[.pointer (some ⟨mb, 0, none⟩)] 61).alloc (.cells #[.slice a len lc] 28)
  have cS := CellsAt.new (w.alloc (.cells #[.pointer (some ⟨mb, 0, none⟩)] 61)) #[.slice a len lc] 28
  rw [World.size_alloc] at cS
  have hsz : ((w.alloc (.cells #[.pointer (some ⟨mb, 0, none⟩)] 61)).alloc (.cells #[.slice a len lc] 28)).heap.size = w.heap.size + 2 := by simp
  obtain ⟨W0, hW0⟩ : ∃ W0, (w.alloc (.cells #[.pointer (some ⟨mb, 0, none⟩)] 61)).alloc (.cells #[.slice a len lc] 28) = W0 := ⟨_, rfl⟩
  rw [hW0] at hm0 cM cS hsz ⊢
  have hB0 : Below n₀ w W0 := hm0.below hn₀ (fun _ h => h.elim)
  have hm1 := hm.mod hm0 nob (fun _ _ => nob)
  have lmb := hm.cells.lt
  have lg : ∀ j, inBlock sv j → j < w.heap.size := fun j hj => (hm.slots.lt j hj).2
  clear hW0
  refine wpIn_rangeFunc_ownH hro h1 (gf := 41) (lb := #[.pointer (some ⟨w.heap.size + 1, 0, none⟩)]) rfl (hF _) (enters_of Try.func41 (by kernel_rfl) rfl)
    (values_stops F (n - 1) (hF _) hro (by omega) (w.heap.size + 1) n₀ (.slice a len lc) ops hl W0 (by omega) (by omega) ((cS.cell 0).trans rfl) (hops.below hB0)) belowK_t (belowK_b (by omega)) (Below.refl _ _) (fun _ => rfl)
    (fun pre W => (MachAt W mb sv k seq (s.run seq (pre.map (·.1))) ∧ CellsAt W w.heap.size #[.pointer (some ⟨mb, 0, none⟩)] 61) ∧ Below n₀ w W)
    (fun _ _ _ => False)
    (OwnFrom.and (Own.from (fun s A B row hs hg hr => ⟨hs.1.kept hg hr, hs.2.kept hg hr⟩) _) (ownFrom_below hn₀ (by omega)))
    (fun _ _ _ _ _ hs _ _ => hs)
    ⟨⟨hm1, cM⟩, hB0⟩
    (fun x a' W => ∃ Bx, w.heap.size < Bx ∧ CellsAt W Bx x.1.cells 41 ∧ a' = { tmps := #[.pointer (some ⟨mb, 0, none⟩), .slice a len lc, .pointer (some ⟨w.heap.size, 0, none⟩), undef, .pointer (some ⟨Bx, 0, none⟩), undef, undef, undef, .slice a len lc, .func (.func 41) #[] #[.pointer (some ⟨w.heap.size + 1, 0, none⟩)], x.1.val, undef, undef, undef, undef, undef, undef, undef, undef, undef, undef, undef, undef, undef, undef, undef, undef, undef, undef, undef, undef, undef, undef, undef, undef, undef, undef, undef, undef, undef, undef, undef, undef, undef, undef, undef, undef, undef, undef, undef, undef, undef, undef], defers := [] })
    (fun x a' _ X Y row hs hg hr => by
      obtain ⟨Bx, h1, h2, h3⟩ := hs
      exact ⟨Bx, h1, h2.kept hg (fun r e => (hr r e).2), h3⟩)
    ?assign ?body ?done ?stop
  case assign =>
    rintro l pre ⟨⟨oc, od, oa, ob, occ, on⟩, po⟩ W K ⟨⟨m1, c1⟩, b1⟩ hK
    dsimp only [Op1.val, Op1.cells] at hK ⊢
    gi_wp2
    have hlt := c1.lt
    exact hK _ _ ((KeepsOthers.alloc _ _).from _) ((Below.refl _ W).alloc (by omega) _) ⟨⟨m1.mod ((Mod.refl W Nob).alloc _) nob (fun _ _ => nob), c1.alloc _⟩, b1.alloc (by omega) _⟩ ⟨W.heap.size, hlt, CellsAt.new W _ _, rfl⟩
  case body =>
    rintro l pre ⟨⟨oc, od, oa, ob, occ, on⟩, po⟩ a' W hl ⟨r, hr⟩ ⟨⟨m1, c1⟩, b1⟩ ⟨Bx, hBx, cX, rfl⟩ hlt
    obtain ⟨st, hst⟩ : ∃ st, s.run seq (pre.map (·.1)) = st := ⟨_, rfl⟩
    rw [hst] at m1
    obtain ⟨d0, d1, a0, a1, b0, bb1, cc0, cc1, n1⟩ := po
    dsimp only at d0 d1 a0 a1 b0 bb1 cc0 cc1 n1
    obtain ⟨nd, rfl⟩ := Int.eq_ofNat_of_zero_le d0
    obtain ⟨na, rfl⟩ := Int.eq_ofNat_of_zero_le a0
    obtain ⟨nb, rfl⟩ := Int.eq_ofNat_of_zero_le b0
    obtain ⟨nc, rfl⟩ := Int.eq_ofNat_of_zero_le cc0
    have kB := c1.cell 0
    have x0 := cX.cell 0
    have x1 := cX.cell 1
    have x2 := cX.cell 2
    have x3 := cX.cell 3
    have x4 := cX.cell 4
    have x5 := cX.cell 5
    simp [Op1.cells] at kB x0 x1 x2 x3 x4 x5
    have reg (j : Nat) (hj : j < 8) : W.cell? ⟨mb, j, none⟩ = some (I (st.r.getD j 0)) := by
      rw [m1.cells.cell j]
      have hl8 := m1.r8
      unfold machine
      rw [List.getElem?_toArray, List.getElem?_append_left (by simp; omega)]
      simp [List.getD, List.getElem?_eq_getElem (show j < st.r.length by omega)]
    have ra := reg na (by omega)
    have rb := reg nb (by omega)
    have rc := reg nc (by omega)
    obtain ⟨va, hva⟩ : ∃ v, st.r.getD na 0 = v := ⟨_, rfl⟩
    obtain ⟨vb, hvb⟩ : ∃ v, st.r.getD nb 0 = v := ⟨_, rfl⟩
    obtain ⟨vc, hvc⟩ : ∃ v, st.r.getD nc 0 = v := ⟨_, rfl⟩
    rw [hva] at ra
    rw [hvb] at rb
    rw [hvc] at rc
    have HST := Lib.hid hst
    have HA := Lib.hid hva
    have HB := Lib.hid hvb
    have HC := Lib.hid hvc
    clear hst hva hvb hvc
    gi_wp2_with fail
    refine wpIn_region_quiet_round hro (by kernel_rfl) (by kernel_rfl) (by rfl) ?_
    repeat (quiet_step_in (fail))
    refine wpQuietIn_nil ?_
    intro _ hw'
    obtain ⟨nq, hw''⟩ := hw'
    subst hw''
    have mW := m1.mod ((Mod.refl W Nob).drewN nq) nob (fun _ _ => nob)
    have lW := b1.size
    gi_wp2_with fail
    · have h12 : oc = 12 := by simpa using ‹(oc == 12) = true›
      have hk' := n1 h12
      have hon : on.toInt = (on.toNat : Int) := by
        rw [BitVec.toInt_eq_toNat_cond]
        split <;> omega
      obtain ⟨g, cap, hsv⟩ : ∃ g cap, sv = .slice (some ⟨g, 0, none⟩) k cap := by
        rcases m1.slots.2 with ⟨_, hk0⟩ | ⟨g, cap, cur, hsv, _⟩
        · omega
        · exact ⟨g, cap, hsv⟩
      subst hsv
      have lg1 := lg g rfl
      have hg1 := hg g rfl
      have hem := emit_any mb g cap k on.toNat 0 st.r seq va vb vc st.xs (W.drewN nq) mW.r8 mW.cells mW.slots hk' hk mW.xs4
      rw [← hon, show seq + BitVec.ofNat 64 on.toNat = seq + on by simp] at hem
      refine ⟨fun _ => by omega, (CallsIn.inRound l (hc hem)).mono ?_⟩
      rintro e W' ⟨rfl, ho, hm'⟩
      gi_wp2
      have hM := ((Mod.refl W (· = g)).drewN nq).trans hm'
      refine ⟨keeps_of_mod hM (fun j hj => by omega), hM.below (by omega) (fun j hj => by omega), ⟨?_, c1.mod hM (by omega)⟩, ?_⟩
      · rw [List.map_append, List.map_cons, List.map_nil, Mach.run_snoc, HST.out]
        unfold Mach.step
        dsimp only
        rw [if_pos h12]
        simp only [Int.toNat_natCast, HA.out, HB.out, HC.out]
        exact ⟨m1.cells.mod hM (fun e => m1.ne (by rw [e]; rfl)), m1.r8, ho, by rw [setRec_length]; exact m1.xs4, m1.ne⟩
      · exact b1.trans (hM.below (by omega) (fun j hj => by omega))
    · have hmo : Try.prog.follows .mixedOrders = true := by kernel_rfl
      have lB := cX.lt
      have kw := c1.lt
      obtain ⟨vd, rd⟩ : ∃ v, W.cell? ⟨mb, nd, none⟩ = some v := ⟨_, reg nd (by omega)⟩
      have fd := m1.cells.free nd
      clear reg
      have fx (w' : World) (hw : Mod W w' Nob) : w'.cell? ⟨w.heap.size, 0, none⟩ = some (.pointer (some ⟨mb, 0, none⟩)) ∧ w'.cell? ⟨Bx, 1, none⟩ = some (.int .i64 nd) ∧ w'.cell? ⟨mb, nd, none⟩ = some vd ∧ w'.frozen? ⟨mb, nd, none⟩ = false ∧
          w'.cell? ⟨Bx, 0, none⟩ = some (.int .i64 oc) ∧ w'.cell? ⟨Bx, 2, none⟩ = some (.int .i64 na) ∧ w'.cell? ⟨Bx, 3, none⟩ = some (.int .i64 nb) ∧ w'.cell? ⟨Bx, 4, none⟩ = some (.int .i64 nc) ∧ w'.cell? ⟨Bx, 5, none⟩ = some (I on) :=
        ⟨(hw.cell kw nob).trans kB, (hw.cell lB nob).trans x1, (hw.cell (by omega) nob).trans rd, (m1.cells.mod hw nob).free nd, (hw.cell lB nob).trans x0, (hw.cell lB nob).trans x2, (hw.cell lB nob).trans x3, (hw.cell lB nob).trans x4, (hw.cell lB nob).trans x5⟩
      refine wpIn_region_quiet_last_round (C := fun W'' => Mod W W'' Nob) 11 rfl rfl hro (by kernel_rfl) (by kernel_rfl) (by kernel_rfl) (by kernel_rfl) (by kernel_rfl) (by rfl) (by rfl) (((Mod.refl W Nob).drewN nq).drew) ?_
      simp only [List.take_succ_cons, List.take_zero, List.cons_append, List.nil_append, struck]
      refine q_val hF rfl (.pointer (some ⟨mb, 0, none⟩)) (fun w' hw => by obtain ⟨z0, z1, z2, z3, y0, y2, y3, y4, y5⟩ := fx w' hw; go_simp) ?_
      refine q_val hF rfl (.pointer (some ⟨Bx, 1, none⟩)) (fun w' hw => by go_simp) ?_
      refine q_val hF rfl (.int .i64 nd) (fun w' hw => by obtain ⟨z0, z1, z2, z3, y0, y2, y3, y4, y5⟩ := fx w' hw; go_simp) ?_
      refine q_val hF rfl (.agg #[.int .i64 oc, .int .i64 nd, .int .i64 na, .int .i64 nb, .int .i64 nc, I on]) (fun w' hw => by obtain ⟨z0, z1, z2, z3, y0, y2, y3, y4, y5⟩ := fx w' hw; go_simp) ?_
      refine q_val hF rfl (I va) (fun w' hw => by go_simp) ?_
      refine q_val hF rfl (I vb) (fun w' hw => by go_simp) ?_
      refine q_val hF rfl (I vc) (fun w' hw => by go_simp) ?_
      obtain ⟨vv, hvv⟩ : ∃ v, Op1.made ⟨oc, nd, na, nb, nc, on⟩ va vb vc = v := ⟨_, rfl⟩
      have HV := Lib.hid hvv
      have hmade (w' : World) := made_any ⟨oc, nd, na, nb, nc, on⟩ va vb vc w'
      rw [hvv] at hmade
      clear hvv
      refine q_call hF rfl (fun _ => by omega) (I vv) 29 #[.agg #[.int .i64 oc, .int .i64 nd, .int .i64 na, .int .i64 nb, .int .i64 nc, I on], I va, I vb, I vc] (fun w' hw => by go_simp)
        (fun w' hw => (hc (hmade w')).mono fun e w'' h => ⟨h.1, hw.trans h.2⟩) ?_
      refine q_val hF rfl (.pointer (some ⟨mb, 0, none⟩)) (fun w' hw => by go_simp) ?_
      refine q_val hF rfl (.pointer (some ⟨mb, 0, none⟩)) (fun w' hw => by go_simp) ?_
      refine q_val hF rfl (.pointer (some ⟨mb, nd, none⟩)) (fun w' hw => by go_simp) ?_
      refine q_val hF rfl undef (fun w' hw => by go_simp) ?_
      refine wpQuietIn_nil ?_
      intro w' hw
      obtain ⟨z0, z1, z2, z3, y0, y2, y3, y4, y5⟩ := fx w' hw
      refine ⟨fun f _ => hF f, ?_⟩
      rw [hro, Oper.semAt_none]
      go_simp
      gi_wp2_with fail
      have h12 : ¬ oc = 12 := by simpa using ‹(oc == 12) = false›
      have hM : Mod W (w'.setCell ⟨mb, nd, none⟩ (I vv)) (· = mb) := (Mod.nob (T := (· = mb)) hw).setCell (p := ⟨mb, nd, none⟩) (.inl rfl) _
      refine ⟨keeps_of_mod hM (fun j hj => by omega), hM.below (by omega) (fun j hj => by omega), ⟨?_, c1.mod hM (by omega)⟩, ?_⟩
      · change MachAt _ _ _ _ _ (Mach.run seq s (List.map (fun x => x.1) (pre ++ [_])))
        rw [List.map_append, List.map_cons, List.map_nil, Mach.run_snoc, HST.out]
        unfold Mach.step
        dsimp only
        rw [if_neg h12]
        simp only [Int.toNat_natCast, HA.out, HB.out, HC.out, HV.out]
        have hcl := (m1.cells.mod hw nob).set nd (I vv)
        rw [machine_set _ _ _ _ _ (by have := m1.r8; omega)] at hcl
        exact ⟨hcl, by simpa using m1.r8, owns_mod m1.slots hM (fun k' hk' hs => m1.ne (by rw [← hs]; exact hk')), m1.xs4, m1.ne⟩
      · exact b1.trans (hM.below (by omega) (fun j hj => by omega))
  case done =>
    rintro D ys W hD rfl ⟨⟨m1, c1⟩, b1⟩ hK
    gi_wp2
    refine ⟨by simp, .inl ⟨_, _, rfl, run_takeDeferred hK, ?_⟩⟩
    exact ⟨_, results_none rfl _ _ _, rfl, m1.kept (grownBy_putObj' _ D _) (fun r e => by cases e; exact ⟨_, hK, rfl⟩), b1.trans (belowK_b (w := w) hn₀ W D _ _ (by omega) hK rfl rfl)⟩
  case stop =>
    intro D c pre W _ _ h
    exact h.elim

theorem run_any (mb k : Nat) (sv : Value) (seq : W64) (s : Mach) (a : Option Addr) (len lc : Nat) (ops : List {o : Op1 // GoodOp k o}) (n₀ : Nat) (w : World) (hm : MachAt w mb sv k seq s) (hn₀ : n₀ ≤ w.heap.size) (hmb : n₀ ≤ mb) (hg : ∀ j, inBlock sv j → n₀ ≤ j)
    (hops : OpsAt n₀ w (.slice a len lc) (ops.map (·.1))) (hl : ops.length ≤ 1000000) (hk : k < 1000) :
    Calls Try.prog 22 #[.pointer (some ⟨mb, 0, none⟩), .slice a len lc] w fun e w' => e = .returned (.tuple #[]) ∧ MachAt w' mb sv k seq (s.run seq (ops.map (·.1))) ∧ Below n₀ w w' :=
  (callsIn_wide (n := 6)).1 (run_in Fence.wide 6 (fun _ => trivial) rfl (by omega) (fun h => callsIn_wide.2 h) mb k sv seq s a len lc ops n₀ w hm hn₀ hmb hg hops hl hk)

end Go.Proofs.Ytlnjfcnhgndocaa
