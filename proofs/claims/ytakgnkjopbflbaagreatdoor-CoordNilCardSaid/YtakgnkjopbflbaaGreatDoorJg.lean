/- A journal that begins on a store in which nothing stands: journal.Begin. The condition: nothing was counted yet. -/
import Derived.Still
import Derived.Test.YtakgnkjopbflbaaGreatDoorJf
namespace Go.Proofs.YtakgnkjopbflbaaGreatDoor
open Go.RowKit Go.Shelf
set_option linter.unusedSimpArgs false
attribute [local go_sem] Oper.semAt_some

theorem exec_build4 {P : Program} {o : Oper} {a : Act} (t : TypeId) (i j k l : Nat) (x y z q : Operand) (u v s r : Value) (ho : o.op = .build t #[(i, x), (j, y), (k, z), (l, q)]) (hx : a.eval x = u) (hy : a.eval y = v) (hz : a.eval z = s) (hq : a.eval q = r) (cells : Array Value) (hb : P.built t [(i, u), (j, v), (k, s), (l, r)] = some cells) (w : World) :
    (execOp a.eval o).run P w = .ok (.value (.agg cells)) w := exec_build t _ ho cells (by simpa [hx, hy, hz, hq] using hb) w

section
variable {n : Nat} {P : Program} {Q : Exit → Act → World → Prop} {l0 : Nat}
/-- A drawn region in a round, of operations that leave the world as it is. -/
theorem wpIn_region_still_round {id : Nat} {a : Act} {w : World} {l : List Oper} (hm : P.follows .mixedOrders = true) (hd : l.all calmB = true) (hB : Region.lexB .any l.toArray = true) {K : Act → World → Prop} (hK : ∀ a w, K a w → Q .normal a w)
    (h : wpStill P l.toArray { w with drawn := w.drawn + 1 } (fun a' => K a' { w with drawn := w.drawn + 1 }) l a) : (Code.region id l.toArray true).wpIn (Fence.wide.inRound l0) n P Q a w := by
  refine wpIn_region_round hm hd hK ?_
  simp only [Region.lexB, Bool.and_eq_true] at hB
  refine wpAny_of_still (Q := fun a' => K a' { w with drawn := w.drawn + 1 }) (fun _ h => h) _ _ _ ?_
  have := wpAnyS_lex (md := .any) hB.1 l 0 (Array.replicate l.toArray.size false) a (by simp) (by simpa using hB.2) h
  simpa using this
end

/-- What stands while the journal begins. -/
structure BegAt (w : World) (H tb gp jb G ep : Nat) (jc : Array Value) (W : World) : Prop where
  t : CellsAt W H #[.pointer (some ⟨tb, 0, none⟩)] 32
  g : CellsAt W gp #[.pointer (some ⟨jb, 0, none⟩)] 68
  j : CellsAt W jb jc 121
  r : CellsAt W (H + 4) #[.pointer none] 68
  s : CellsAt W (H + 5) #[.int .i64 0] 27
  wr : CellsAt W G #[.int .u64 0] 41
  good : CellsAt W (G + 1) #[.bool true] 4
  τ : TruAt W tb ⟨ep, 0, 0⟩
  md : Mod w W Nob
  size : G + 4 ≤ W.heap.size
theorem BegAt.mod {w W W' : World} {H tb gp jb G ep : Nat} {jc : Array Value} (h : BegAt w H tb gp jb G ep jc W) (hm : Mod W W' Nob) : BegAt w H tb gp jb G ep jc W' :=
  ⟨h.t.mod hm nob, h.g.mod hm nob, h.j.mod hm nob, h.r.mod hm nob, h.s.mod hm nob, h.wr.mod hm nob, h.good.mod hm nob, h.τ.mod hm nob, h.md.trans hm, by have := hm.size; have := h.size; omega⟩
theorem BegAt.grown {w W W' : World} {H tb gp jb G ep : Nat} {jc : Array Value} {row : Option Nat} (h : BegAt w H tb gp jb G ep jc W) (hg : W.grownBy W' row) (hr : ∀ r, row = some r → ∃ o : Obj, W.heap[r]? = some o ∧ o.isCells = false) (hlo : ∀ r, row = some r → H ≤ r) (hH : w.heap.size = H) : BegAt w H tb gp jb G ep jc W' :=
  ⟨(grownBy_keeps_cells hg hr h.t rfl).trans h.t, (grownBy_keeps_cells hg hr h.g rfl).trans h.g, (grownBy_keeps_cells hg hr h.j rfl).trans h.j, (grownBy_keeps_cells hg hr h.r rfl).trans h.r, (grownBy_keeps_cells hg hr h.s rfl).trans h.s, (grownBy_keeps_cells hg hr h.wr rfl).trans h.wr, (grownBy_keeps_cells hg hr h.good rfl).trans h.good, (grownBy_keeps_cells hg hr (show CellsAt W tb _ _ from h.τ) rfl).trans h.τ, h.md.grown hg (fun k e => .inr (by have := hlo k e; omega)), by have := hg.size; have := h.size; omega⟩

set_option maxRecDepth 100000 in
set_option maxHeartbeats 8000000 in
theorem begin_empty {sv : Value} (b tb : Nat) (σ : Sto) (x : StoB) (τ : Tru) (job : List UInt8) (w : World) (hσ : StoreAt w b σ x) (hsh : σ.short) (hno : σ.shows (nameS 1) = none) (hτ : TruAt w tb τ) (h0 : τ.cnt = 0) (hw0 : τ.wr = 0) (he : 0 < τ.ep) (h60 : τ.ep < 1073741824) (hj : job.length = 32) :
    Calls Tryz.prog 23 #[.pointer (some ⟨b, 0, none⟩), .pointer (some ⟨tb, 0, none⟩), .agg (arrB job), .int .u64 τ.ep, eyesV sv] w fun r w' => ∃ J, r = .returned (.tuple #[.pointer (some ⟨J, 0, none⟩), .int .i64 0]) ∧ w.heap.size ≤ J ∧
      CellsAt w' J (jcells (.pointer (some ⟨b, 0, none⟩)) (.pointer (some ⟨tb, 0, none⟩)) (journalK job) τ.ep (.slice none 0 0) zl32 zl32 false ent0).toArray 121 ∧ Mod w w' Nob := by
  obtain ⟨ep, cnt, wr⟩ := τ
  obtain rfl : cnt = 0 := h0
  obtain rfl : wr = 0 := hw0
  unfold eyesV
  have m0 := ((((((Mod.refl w Nob).alloc (.cells #[.pointer (some ⟨tb, 0, none⟩)] 32)).alloc (.cells (arrB job) 22)).alloc (.cells #[.int .u64 ep] 41)).alloc (.cells #[.nilFunc, sv] 72)).alloc (.cells #[.pointer none] 68)).alloc (.cells #[.int .i64 0] 27)
  refine (callsIn_wide (n := 6)).1 ?_
  refine callsIn_of_wp_marks Tryz.func23 rfl trivial ?_ rfl
  simp only [Tryz.ntmps23, List.size_toArray, List.length_cons, List.length_nil, Nat.reduceAdd, Nat.reduceSub, Array.replicate_succ, Array.replicate_zero, List.push_toArray, List.append_toArray, List.nil_append, List.cons_append]
  refine wpIn_wide.2 ?_
  go_wp2_with fail
  have cT := (((((CellsAt.new w #[.pointer (some ⟨tb, 0, none⟩)] 32).alloc (.cells (arrB job) 22)).alloc (.cells #[.int .u64 ep] 41)).alloc (.cells #[.nilFunc, sv] 72)).alloc (.cells #[.pointer none] 68)).alloc (.cells #[.int .i64 0] 27)
  have cJ := ((((new_at (w := w.alloc (.cells #[.pointer (some ⟨tb, 0, none⟩)] 32)) (cs := arrB job) (t := 22) (g := w.heap.size + 1) (by simp)).alloc (.cells #[.int .u64 ep] 41)).alloc (.cells #[.nilFunc, sv] 72)).alloc (.cells #[.pointer none] 68)).alloc (.cells #[.int .i64 0] 27)
  have cE := (((new_at (w := (w.alloc (.cells #[.pointer (some ⟨tb, 0, none⟩)] 32)).alloc (.cells (arrB job) 22)) (cs := #[.int .u64 ep]) (t := 41) (g := w.heap.size + 2) (by simp)).alloc (.cells #[.nilFunc, sv] 72)).alloc (.cells #[.pointer none] 68)).alloc (.cells #[.int .i64 0] 27)
  have cY := ((new_at (w := ((w.alloc (.cells #[.pointer (some ⟨tb, 0, none⟩)] 32)).alloc (.cells (arrB job) 22)).alloc (.cells #[.int .u64 ep] 41)) (cs := #[.nilFunc, sv]) (t := 72) (g := w.heap.size + 3) (by simp)).alloc (.cells #[.pointer none] 68)).alloc (.cells #[.int .i64 0] 27)
  have cR := (new_at (w := (((w.alloc (.cells #[.pointer (some ⟨tb, 0, none⟩)] 32)).alloc (.cells (arrB job) 22)).alloc (.cells #[.int .u64 ep] 41)).alloc (.cells #[.nilFunc, sv] 72)) (cs := #[.pointer none]) (t := 68) (g := w.heap.size + 4) (by simp)).alloc (.cells #[.int .i64 0] 27)
  have cS := new_at (w := ((((w.alloc (.cells #[.pointer (some ⟨tb, 0, none⟩)] 32)).alloc (.cells (arrB job) 22)).alloc (.cells #[.int .u64 ep] 41)).alloc (.cells #[.nilFunc, sv] 72)).alloc (.cells #[.pointer none] 68)) (cs := #[.int .i64 0]) (t := 27) (g := w.heap.size + 5) (by simp)
  have hz : ((((((w.alloc (.cells #[.pointer (some ⟨tb, 0, none⟩)] 32)).alloc (.cells (arrB job) 22)).alloc (.cells #[.int .u64 ep] 41)).alloc (.cells #[.nilFunc, sv] 72)).alloc (.cells #[.pointer none] 68)).alloc (.cells #[.int .i64 0] 27)).heap.size = w.heap.size + 6 := by simp
  obtain ⟨W1, hW1⟩ : ∃ W1, ((((((w.alloc (.cells #[.pointer (some ⟨tb, 0, none⟩)] 32)).alloc (.cells (arrB job) 22)).alloc (.cells #[.int .u64 ep] 41)).alloc (.cells #[.nilFunc, sv] 72)).alloc (.cells #[.pointer none] 68)).alloc (.cells #[.int .i64 0] 27)) = W1 := ⟨_, rfl⟩
  rw [hW1] at m0 cT cJ cE cY cR cS hz ⊢
  obtain ⟨H, hH⟩ : ∃ H, w.heap.size = H := ⟨_, rfl⟩
  rw [hH] at cT cJ cE cY cR cS hz ⊢
  have HH := Lib.hid hH
  have hσ1 := hσ.mod m0 (fun _ h => h.elim)
  have hτ1 := hτ.mod m0 nob
  clear hW1 hH
  go_step3
  have t6 := cT.cell 0
  have t8 := cE.cell 0
  simp at t6 t8
  have hep0 : ((ep : Int) == 0) = false := beq_eq_false_iff_ne.2 (by have : 0 < ep := he; omega)
  go_wp2_with fail
  refine wp_no_panic ?_
  have hepo : Calls Tryz.prog 42 #[.pointer (some ⟨tb, 0, none⟩)] { W1 with drawn := W1.drawn + 1 } (fun e w' => e = .returned (.int .u64 ep) ∧ w' = { W1 with drawn := W1.drawn + 1 }) :=
    (trust_epoch tb ⟨ep, 0, 0⟩ { W1 with drawn := W1.drawn + 1 } (hτ1.mod (Mod.refl W1 Nob).drew nob)).mono (fun e w' h => ⟨h.1, h.2.symm⟩)
  refine wp_region_still_lit (by kernel_rfl) (by kernel_rfl) ?_
  repeat still_step
  still_call hepo
  repeat still_step
  refine wpStill_nil ?_
  have mD := (Mod.refl W1 Nob).drew
  replace cT := cT.mod mD nob
  replace cJ := cJ.mod mD nob
  replace cE := cE.mod mD nob
  replace cY := cY.mod mD nob
  replace cR := cR.mod mD nob
  replace cS := cS.mod mD nob
  replace hσ1 := hσ1.mod mD (fun _ h => h.elim)
  replace hτ1 := hτ1.mod mD nob
  replace m0 := m0.trans mD
  have hz2 : W1.drew.heap.size = H + 6 := hz
  obtain ⟨W2, hW2⟩ : ∃ W, W1.drew = W := ⟨_, rfl⟩
  change Exit.then _ _ _ _ W1.drew
  rw [hW2] at cT cJ cE cY cR cS hσ1 hτ1 m0 hz2 ⊢
  clear hW2 mD t6 t8 hepo hz
  go_wp2_with fail
  -- G5
  obtain ⟨jc, hjc⟩ : ∃ y, (jcells (.pointer (some ⟨b, 0, none⟩)) (.pointer (some ⟨tb, 0, none⟩)) (journalK job) ep (.slice none 0 0) zl32 zl32 false ent0).toArray = y := ⟨_, rfl⟩
  have HJC := Box.mk hjc
  go_cut [12] from 22 (fun t12 wx => ∃ gp jb, t12 = .pointer (some ⟨gp, 0, none⟩) ∧ H + 6 ≤ gp ∧ H + 6 ≤ jb ∧ CellsAt wx gp #[.pointer (some ⟨jb, 0, none⟩)] 68 ∧ CellsAt wx jb jc 121 ∧ Mod W2 wx Nob)
  case first =>
    have mD := (Mod.refl W2 Nob).drew
    have hkl := journalK_length job
    have hjk := fun W => journalK_any job W hj
    have hbu := built_jou (.pointer (some ⟨b, 0, none⟩)) (.pointer (some ⟨tb, 0, none⟩)) (journalK job) ep rfl rfl hkl
    change _ = some (jcells (.pointer (some ⟨b, 0, none⟩)) (.pointer (some ⟨tb, 0, none⟩)) (journalK job) ep (.slice none 0 0) zl32 zl32 false ent0).toArray at hbu
    rw [hjc] at hbu
    obtain ⟨jk, hjk0⟩ : ∃ y, journalK job = y := ⟨_, rfl⟩
    rw [hjk0] at hbu
    simp only [hjk0] at hjk
    have hS0 : CellsAt W2.drew H #[.pointer (some ⟨tb, 0, none⟩)] 32 ∧ CellsAt W2.drew (H + 1) (arrB job) 22 ∧ CellsAt W2.drew (H + 2) #[.int .u64 ep] 41 := ⟨cT.mod mD nob, cJ.mod mD nob, cE.mod mD nob⟩
    have hSm : ∀ W, Mod W2.drew W Nob → CellsAt W H #[.pointer (some ⟨tb, 0, none⟩)] 32 ∧ CellsAt W (H + 1) (arrB job) 22 ∧ CellsAt W (H + 2) #[.int .u64 ep] 41 := fun W hm => ⟨hS0.1.mod hm nob, hS0.2.1.mod hm nob, hS0.2.2.mod hm nob⟩
    have z0 : W2.drew.heap.size = H + 6 := hz2
    refine wp_no_panic ?_
    refine wp_region_U (S := fun W => CellsAt W H #[.pointer (some ⟨tb, 0, none⟩)] 32 ∧ CellsAt W (H + 1) (arrB job) 22 ∧ CellsAt W (H + 2) #[.int .u64 ep] 41) 8 (by kernel_rfl) ?_
    change wpAnyU _ _ _ _ _ _ _ _ _ W2.drew
    obtain ⟨V0, hV0⟩ : ∃ V, W2.drew = V := ⟨_, rfl⟩
    rw [hV0] at hS0 hSm z0 mD ⊢
    clear hV0 hjk0 hjc
    refine wpAnyU_takeP (i := 0) (v := .pointer (some ⟨b, 0, none⟩)) rfl (by kernel_rfl) (by kernel_rfl) (by kernel_rfl) (by decide) (fun _ _ _ h => h) (Or.inl ⟨by rfl, fun W => by go_simp⟩) (fun _ => hS0) ?_
    try simp only [Act.put, List.getElem_toArray, List.getElem_cons_zero, List.getElem_cons_succ, List.setIfInBounds_toArray, List.set_cons_zero, List.set_cons_succ]
    refine wpAnyU_take (i := 1) (v := .pointer (some ⟨tb, 0, none⟩)) rfl (by kernel_rfl) (by kernel_rfl) (by kernel_rfl) (by kernel_rfl) (by kernel_rfl) (fun _ _ _ h => h) (Or.inl ⟨by rfl, fun W hS => by have y := hS.1.cell 0; simp at y; go_simp⟩) hS0 ?_
    try simp only [Act.put, List.getElem_toArray, List.getElem_cons_zero, List.getElem_cons_succ, List.setIfInBounds_toArray, List.set_cons_zero, List.set_cons_succ]
    refine wpAnyU_take (i := 2) (v := .agg (arrB job)) rfl (by kernel_rfl) (by kernel_rfl) (by kernel_rfl) (by kernel_rfl) (by kernel_rfl) (fun _ _ _ h => h) (yieldsIf_load_mid (by rfl) 22 _ rfl (H + 1) 0 rfl (job.map B) _ (fun W hS => fun q u hq => by rw [Nat.zero_add, hS.2.1.cell q]; simpa [arrB] using hq) Tryz.underlying22 rfl (by rw [List.length_map, hj]; exact size_b32)) hS0 ?_
    try simp only [Act.put, List.getElem_toArray, List.getElem_cons_zero, List.getElem_cons_succ, List.setIfInBounds_toArray, List.set_cons_zero, List.set_cons_succ]
    refine wpAnyU_take (i := 4) (v := .int .u64 ep) rfl (by kernel_rfl) (by kernel_rfl) (by kernel_rfl) (by kernel_rfl) (by kernel_rfl) (fun _ _ _ h => h) (Or.inl ⟨by rfl, fun W hS => by have y := hS.2.2.cell 0; simp at y; go_simp⟩) hS0 ?_
    try simp only [Act.put, List.getElem_toArray, List.getElem_cons_zero, List.getElem_cons_succ, List.setIfInBounds_toArray, List.set_cons_zero, List.set_cons_succ]
    have HZW := Box.mk hz2
    clear hS0 hz2
    have HZ0 := Box.mk z0
    clear z0
    refine wpAnyU_two 3 7 _ _ (by kernel_rfl) rfl rfl (fun K hK => ?_) (fun K hK => ?_)
    · go_simp
      refine (hjk V0).mono ?_
      rintro e V1 ⟨rfl, mbV1⟩
      go_wp2_with fail
      have zV1 := mbV1.size
      refine hK.out _ _ (fun _ => hSm _ (mbV1)) ?_
      clear hK K
      try simp only [Act.put, List.getElem_toArray, List.getElem_cons_zero, List.getElem_cons_succ, List.setIfInBounds_toArray, List.set_cons_zero, List.set_cons_succ]
      refine wpAnyU_takeP (i := 5) (v := .agg jc) rfl (by kernel_rfl) (by kernel_rfl) (by kernel_rfl) (by decide) (fun _ _ _ h => h) (Or.inl ⟨by rfl, fun W => exec_build4 121 0 1 2 3 (.tmp 37) (.tmp 38) (.tmp 40) (.tmp 41) _ _ _ _ rfl rfl rfl rfl rfl _ hbu W⟩) (fun _ => hSm _ (mbV1)) ?_
      try simp only [Act.put, List.getElem_toArray, List.getElem_cons_zero, List.getElem_cons_succ, List.setIfInBounds_toArray, List.set_cons_zero, List.set_cons_succ]
      refine wpAnyU_two 6 7 _ _ (by kernel_rfl) rfl rfl (fun K hK => ?_) (fun K hK => ?_)
      · go_simp
        have mbV2 := (Mod.refl V1 Nob).alloc (.cells jc 121)
        have cbV2 := CellsAt.new V1 jc 121
        refine hK.out _ _ (fun _ => hSm _ (mbV1.trans mbV2)) ?_
        clear hK K
        try simp only [Act.put, List.getElem_toArray, List.getElem_cons_zero, List.getElem_cons_succ, List.setIfInBounds_toArray, List.set_cons_zero, List.set_cons_succ]
        change wpAnyU _ _ _ _ _ _ _ _ _ (V1.alloc (.cells jc 121))
        obtain ⟨V2, hV2⟩ : ∃ V, V1.alloc (.cells jc 121) = V := ⟨_, rfl⟩
        have zV2 : V2.heap.size = V1.heap.size + 1 := by rw [← hV2]; simp
        rw [hV2] at mbV2 cbV2 ⊢
        clear hV2
        refine wpAnyU_one 7 _ (by kernel_rfl) rfl (fun K hK => ?_)
        have HZ2 := Box.mk zV2
        clear zV2
        go_simp
        have mbV3 := (Mod.refl V2 Nob).alloc (.cells #[Value.pointer none] 68)
        have cbV3 := CellsAt.new V2 #[Value.pointer none] 68
        refine hK.out _ _ (fun _ => hSm _ ((mbV1.trans mbV2).trans mbV3)) ?_
        clear hK K
        try simp only [Act.put, List.getElem_toArray, List.getElem_cons_zero, List.getElem_cons_succ, List.setIfInBounds_toArray, List.set_cons_zero, List.set_cons_succ]
        change wpAnyU _ _ _ _ _ _ _ _ _ (V2.alloc (.cells #[Value.pointer none] 68))
        obtain ⟨V3, hV3⟩ : ∃ V, V2.alloc (.cells #[Value.pointer none] 68) = V := ⟨_, rfl⟩
        have zV3 : V3.heap.size = V2.heap.size + 1 := by rw [← hV3]; simp
        rw [hV3] at mbV3 cbV3 ⊢
        clear hV3
        have zz := HZ0.out
        have zz2 := HZ2.out
        refine wpAnyU_last (by kernel_rfl) (by simp) ?_
        refine wpAny_tail _ 8 _ _ _ (by kernel_rfl) ?_
        simp only [List.drop_succ_cons, List.drop_zero]
        have cg : CellsAt V3 V2.heap.size #[Value.pointer none] 68 := cbV3
        have cj : CellsAt V3 V1.heap.size jc 121 := cbV2.mod mbV3 nob
        have mA : Mod W2 V3 Nob := mD.trans ((mbV1.trans mbV2).trans mbV3)
        have hne : V2.heap.size ≠ V1.heap.size := by omega
        have hg6 : H + 6 ≤ V2.heap.size := by omega
        have hj6 : H + 6 ≤ V1.heap.size := by omega
        obtain ⟨gp, hgp⟩ : ∃ y, V2.heap.size = y := ⟨_, rfl⟩
        obtain ⟨jb, hjb⟩ : ∃ y, V1.heap.size = y := ⟨_, rfl⟩
        rw [hgp] at cg hne hg6 ⊢
        rw [hjb] at cj hne hj6 ⊢
        have k0 := cg.cell 0
        have f0 := cg.free 0
        simp at k0
        have mS := (Mod.refl V3 (· = gp)).setCell (p := ⟨gp, 0, none⟩) (.inl rfl) (.pointer (some ⟨jb, 0, none⟩))
        clear hSm hjk
        go_wp2_with fail
        go_meet
        exact ⟨gp, jb, rfl, hg6, hj6, cg.set 0 _, cj.mod mS (fun e => hne e.symm), mA.drop mS (fun k (hk : k = gp) => .inr (by have := HZW.out; omega))⟩
      · go_simp
        have mbV2 := (Mod.refl V1 Nob).alloc (.cells #[Value.pointer none] 68)
        have cbV2 := CellsAt.new V1 #[Value.pointer none] 68
        refine hK.out _ _ (fun _ => hSm _ (mbV1.trans mbV2)) ?_
        clear hK K
        try simp only [Act.put, List.getElem_toArray, List.getElem_cons_zero, List.getElem_cons_succ, List.setIfInBounds_toArray, List.set_cons_zero, List.set_cons_succ]
        change wpAnyU _ _ _ _ _ _ _ _ _ (V1.alloc (.cells #[Value.pointer none] 68))
        obtain ⟨V2, hV2⟩ : ∃ V, V1.alloc (.cells #[Value.pointer none] 68) = V := ⟨_, rfl⟩
        have zV2 : V2.heap.size = V1.heap.size + 1 := by rw [← hV2]; simp
        rw [hV2] at mbV2 cbV2 ⊢
        clear hV2
        have HZ2 := Box.mk zV2
        clear zV2
        refine wpAnyU_one 6 _ (by kernel_rfl) rfl (fun K hK => ?_)
        go_simp
        have mbV3 := (Mod.refl V2 Nob).alloc (.cells jc 121)
        have cbV3 := CellsAt.new V2 jc 121
        refine hK.out _ _ (fun _ => hSm _ ((mbV1.trans mbV2).trans mbV3)) ?_
        clear hK K
        try simp only [Act.put, List.getElem_toArray, List.getElem_cons_zero, List.getElem_cons_succ, List.setIfInBounds_toArray, List.set_cons_zero, List.set_cons_succ]
        change wpAnyU _ _ _ _ _ _ _ _ _ (V2.alloc (.cells jc 121))
        obtain ⟨V3, hV3⟩ : ∃ V, V2.alloc (.cells jc 121) = V := ⟨_, rfl⟩
        have zV3 : V3.heap.size = V2.heap.size + 1 := by rw [← hV3]; simp
        rw [hV3] at mbV3 cbV3 ⊢
        clear hV3
        have zz := HZ0.out
        have zz2 := HZ2.out
        refine wpAnyU_last (by kernel_rfl) (by simp) ?_
        refine wpAny_tail _ 8 _ _ _ (by kernel_rfl) ?_
        simp only [List.drop_succ_cons, List.drop_zero]
        have cg : CellsAt V3 V1.heap.size #[Value.pointer none] 68 := cbV2.mod mbV3 nob
        have cj : CellsAt V3 V2.heap.size jc 121 := cbV3
        have mA : Mod W2 V3 Nob := mD.trans ((mbV1.trans mbV2).trans mbV3)
        have hne : V1.heap.size ≠ V2.heap.size := by omega
        have hg6 : H + 6 ≤ V1.heap.size := by omega
        have hj6 : H + 6 ≤ V2.heap.size := by omega
        obtain ⟨gp, hgp⟩ : ∃ y, V1.heap.size = y := ⟨_, rfl⟩
        obtain ⟨jb, hjb⟩ : ∃ y, V2.heap.size = y := ⟨_, rfl⟩
        rw [hgp] at cg hne hg6 ⊢
        rw [hjb] at cj hne hj6 ⊢
        have k0 := cg.cell 0
        have f0 := cg.free 0
        simp at k0
        have mS := (Mod.refl V3 (· = gp)).setCell (p := ⟨gp, 0, none⟩) (.inl rfl) (.pointer (some ⟨jb, 0, none⟩))
        clear hSm hjk
        go_wp2_with fail
        go_meet
        exact ⟨gp, jb, rfl, hg6, hj6, cg.set 0 _, cj.mod mS (fun e => hne e.symm), mA.drop mS (fun k (hk : k = gp) => .inr (by have := HZW.out; omega))⟩
    · go_simp
      have mbV1 := (Mod.refl V0 Nob).alloc (.cells #[Value.pointer none] 68)
      have cbV1 := CellsAt.new V0 #[Value.pointer none] 68
      refine hK.out _ _ (fun _ => hSm _ (mbV1)) ?_
      clear hK K
      try simp only [Act.put, List.getElem_toArray, List.getElem_cons_zero, List.getElem_cons_succ, List.setIfInBounds_toArray, List.set_cons_zero, List.set_cons_succ]
      change wpAnyU _ _ _ _ _ _ _ _ _ (V0.alloc (.cells #[Value.pointer none] 68))
      obtain ⟨V1, hV1⟩ : ∃ V, V0.alloc (.cells #[Value.pointer none] 68) = V := ⟨_, rfl⟩
      have zV1 : V1.heap.size = V0.heap.size + 1 := by rw [← hV1]; simp
      rw [hV1] at mbV1 cbV1 ⊢
      clear hV1
      have HZ1 := Box.mk zV1
      clear zV1
      refine wpAnyU_one 3 _ (by kernel_rfl) rfl (fun K hK => ?_)
      go_simp
      refine (hjk V1).mono ?_
      rintro e V2 ⟨rfl, mbV2⟩
      go_wp2_with fail
      have zV2 := mbV2.size
      refine hK.out _ _ (fun _ => hSm _ (mbV1.trans mbV2)) ?_
      clear hK K
      try simp only [Act.put, List.getElem_toArray, List.getElem_cons_zero, List.getElem_cons_succ, List.setIfInBounds_toArray, List.set_cons_zero, List.set_cons_succ]
      refine wpAnyU_takeP (i := 5) (v := .agg jc) rfl (by kernel_rfl) (by kernel_rfl) (by kernel_rfl) (by decide) (fun _ _ _ h => h) (Or.inl ⟨by rfl, fun W => exec_build4 121 0 1 2 3 (.tmp 37) (.tmp 38) (.tmp 40) (.tmp 41) _ _ _ _ rfl rfl rfl rfl rfl _ hbu W⟩) (fun _ => hSm _ (mbV1.trans mbV2)) ?_
      try simp only [Act.put, List.getElem_toArray, List.getElem_cons_zero, List.getElem_cons_succ, List.setIfInBounds_toArray, List.set_cons_zero, List.set_cons_succ]
      refine wpAnyU_one 6 _ (by kernel_rfl) rfl (fun K hK => ?_)
      go_simp
      have mbV3 := (Mod.refl V2 Nob).alloc (.cells jc 121)
      have cbV3 := CellsAt.new V2 jc 121
      refine hK.out _ _ (fun _ => hSm _ ((mbV1.trans mbV2).trans mbV3)) ?_
      clear hK K
      try simp only [Act.put, List.getElem_toArray, List.getElem_cons_zero, List.getElem_cons_succ, List.setIfInBounds_toArray, List.set_cons_zero, List.set_cons_succ]
      change wpAnyU _ _ _ _ _ _ _ _ _ (V2.alloc (.cells jc 121))
      obtain ⟨V3, hV3⟩ : ∃ V, V2.alloc (.cells jc 121) = V := ⟨_, rfl⟩
      have zV3 : V3.heap.size = V2.heap.size + 1 := by rw [← hV3]; simp
      rw [hV3] at mbV3 cbV3 ⊢
      clear hV3
      have zz := HZ0.out
      have zz1 := HZ1.out
      refine wpAnyU_last (by kernel_rfl) (by simp) ?_
      refine wpAny_tail _ 8 _ _ _ (by kernel_rfl) ?_
      simp only [List.drop_succ_cons, List.drop_zero]
      have cg : CellsAt V3 V0.heap.size #[Value.pointer none] 68 := (cbV1.mod mbV2 nob).mod mbV3 nob
      have cj : CellsAt V3 V2.heap.size jc 121 := cbV3
      have mA : Mod W2 V3 Nob := mD.trans ((mbV1.trans mbV2).trans mbV3)
      have hne : V0.heap.size ≠ V2.heap.size := by omega
      have hg6 : H + 6 ≤ V0.heap.size := by omega
      have hj6 : H + 6 ≤ V2.heap.size := by omega
      obtain ⟨gp, hgp⟩ : ∃ y, V0.heap.size = y := ⟨_, rfl⟩
      obtain ⟨jb, hjb⟩ : ∃ y, V2.heap.size = y := ⟨_, rfl⟩
      rw [hgp] at cg hne hg6 ⊢
      rw [hjb] at cj hne hj6 ⊢
      have k0 := cg.cell 0
      have f0 := cg.free 0
      simp at k0
      have mS := (Mod.refl V3 (· = gp)).setCell (p := ⟨gp, 0, none⟩) (.inl rfl) (.pointer (some ⟨jb, 0, none⟩))
      clear hSm hjk
      go_wp2_with fail
      go_meet
      exact ⟨gp, jb, rfl, hg6, hj6, cg.set 0 _, cj.mod mS (fun e => hne e.symm), mA.drop mS (fun k (hk : k = gp) => .inr (by have := HZW.out; omega))⟩
  -- G5 END
  case rest =>
    obtain ⟨gp, jb, rfl, hg6, hj6, cg, cj, mA⟩ := hcut
    replace cT := cT.mod mA nob
    replace cY := cY.mod mA nob
    replace cR := cR.mod mA nob
    replace cS := cS.mod mA nob
    replace hσ1 := hσ1.mod mA (fun _ h => h.elim)
    replace hτ1 := hτ1.mod mA nob
    replace m0 := m0.trans mA
    have hzc := mA.size
    clear cE cJ mA hjc
    go_wp2_with fail
    change Code.wp _ _ _ _ ((wc.alloc (.cells #[.int .u64 0] 41)).alloc (.cells #[.bool true] 4))
    have mX := ((Mod.refl wc Nob).alloc (.cells #[.int .u64 0] 41)).alloc (.cells #[.bool true] 4)
    have cW := (CellsAt.new wc #[.int .u64 0] 41).alloc (.cells #[.bool true] 4)
    have cB := new_at (w := wc.alloc (.cells #[.int .u64 0] 41)) (cs := #[.bool true]) (t := 4) (g := wc.heap.size + 1) (by simp)
    have hz3 : ((wc.alloc (.cells #[.int .u64 0] 41)).alloc (.cells #[.bool true] 4)).heap.size = wc.heap.size + 2 := by simp
    obtain ⟨W3, hW3⟩ : ∃ V, (wc.alloc (.cells #[.int .u64 0] 41)).alloc (.cells #[.bool true] 4) = V := ⟨_, rfl⟩
    rw [hW3] at mX cW cB hz3 ⊢
    obtain ⟨G, hG⟩ : ∃ g, wc.heap.size = g := ⟨_, rfl⟩
    rw [hG] at cW cB hz3 hzc ⊢
    have lg := cg.lt
    have lj := cj.lt
    rw [hG] at lg lj
    replace cT := cT.mod mX nob
    replace cY := cY.mod mX nob
    replace cR := cR.mod mX nob
    replace cS := cS.mod mX nob
    replace cg := cg.mod mX nob
    replace cj := cj.mod mX nob
    replace hσ1 := hσ1.mod mX (fun _ h => h.elim)
    replace hτ1 := hτ1.mod mX nob
    replace m0 := m0.trans mX
    clear mX hW3 hG
    have kg := cg.cell 0
    have ky0 := cY.cell 0
    have ky1 := cY.cell 1
    simp at kg ky0 ky1
    go_step3
    go_wp2_with fail
    change Calls _ _ #[_, eyesV sv] _ _
    refine (stored_any jb W3).mono ?_
    rintro e W4 ⟨rfl, hW4⟩
    have hA := ((Mod.refl W3 Nob).alloc (.cells #[.pointer (some ⟨jb, 0, none⟩)] 68)).alloc (.cells #[.nilFunc, sv] 72)
    have b1 := (CellsAt.new W3 #[.pointer (some ⟨jb, 0, none⟩)] 68).alloc (.cells #[.nilFunc, sv] 72)
    have b2 := CellsAt.new (W3.alloc (.cells #[.pointer (some ⟨jb, 0, none⟩)] 68)) #[.nilFunc, sv] 72
    rw [World.size_alloc] at b2
    have hz4 : W4.heap.size = G + 4 := by rw [hW4]; simp [hz3]
    rw [← hW4] at hA b1 b2
    rw [hz3] at b1 b2 ⊢
    replace cT := cT.mod hA nob
    replace cR := cR.mod hA nob
    replace cS := cS.mod hA nob
    replace cg := cg.mod hA nob
    replace cj := cj.mod hA nob
    replace cW := cW.mod hA nob
    replace cB := cB.mod hA nob
    replace hσ1 := hσ1.mod hA (fun _ h => h.elim)
    replace hτ1 := hτ1.mod hA nob
    replace m0 := m0.trans hA
    clear hA hW4 hz3 kg ky0 ky1 cY
    have hj0 : W4.cell? ⟨jb, 0, none⟩ = some (.pointer (some ⟨b, 0, none⟩)) := by
      rw [cj.cell 0, ← HJC.out]
      rfl
    have hseq := stored_ever 5 (by omega) (G + 2) jb b 1 σ x (by omega) hsh W4 b1 b2 hj0 hσ1
    have hfl : ∀ k, (x.foot b k ∨ k = G + 2 ∨ k = G + 2 + 1) → k < W4.heap.size := fun k hk => by
      rcases hk with h | h | h
      · exact hσ1.foot_lt k h
      · omega
      · omega
    go_wp2_with fail
    refine (wpIn_wide (n := 6)).1 ?_
    refine wpIn_rangeFunc_ever (n := 6) (by omega) (gf := 78) (lb := #[.pointer (some ⟨G + 2, 0, none⟩), .pointer (some ⟨G + 2 + 1, 0, none⟩)]) rfl (enters_of Tryz.func78 (by kernel_rfl) rfl)
      hseq (fun h k => h.trans k) (fun W l o o' h1 h2 h3 _ => KM.put hfl W l o o' h1 h2 h3) (fun _ => rfl)
      (fun pre W => pre = [] ∧ BegAt w H tb gp jb G ep jc W)
      (fun c pre W => c = .exit 1 ∧ BegAt w H tb gp jb G ep jc W) ?own ?ownx ⟨rfl, ⟨cT, cg, cj, cR, cS, cW, cB, hτ1, m0, by omega⟩⟩ (fun pre W h => by rw [h.1]; exact Nat.zero_lt_one)
      (fun pre y a' W => a' = { tmps := #[.pointer (some ⟨b, 0, none⟩), .pointer (some ⟨tb, 0, none⟩), .agg (arrB job), .int .u64 ep, .agg #[.nilFunc, sv], undef, .pointer (some ⟨H, 0, none⟩), .pointer (some ⟨H + 1, 0, none⟩), .pointer (some ⟨H + 1 + 1, 0, none⟩), .pointer (some ⟨H + 1 + 1 + 1, 0, none⟩), .pointer (some ⟨H + 1 + 1 + 1 + 1, 0, none⟩), .pointer (some ⟨H + 1 + 1 + 1 + 1 + 1, 0, none⟩), .pointer (some ⟨gp, 0, none⟩), .pointer (some ⟨G, 0, none⟩), .pointer (some ⟨G + 1, 0, none⟩), .int .u64 y.1, scv y.2, undef, undef, undef, undef, .bool false, u22, u23, u24, u25, u26, u27, u28, u29, u30, u31, u32, u33, u34, u35, u36, u37, u38, u39, u40, u41, u42, u43, .pointer (some ⟨jb, 0, none⟩), .agg #[.nilFunc, sv], .func (.func 78) #[] #[.pointer (some ⟨G + 2, 0, none⟩), .pointer (some ⟨G + 2 + 1, 0, none⟩)], .int .u64 y.1, scv y.2, u49, u50, u51, u52, u53, u54, u55, u56, u57, u58, u59, u60, u61, u62, u63, u64, u65, u66, u67, u68, u69, u70, u71, u72, u73, u74, u75, u76, u77, u78, u79, u80, u81, u82, u83, u84, u85, u86, u87, u88, u89, u90, u91, u92, u93, u94, u95, u96, u97, u98, u99, u100, u101, u102, u103, u104, u105, u106, u107, u108, u109, u110, u111, u112, u113, u114, u115, u116, u117, u118, u119, u120, u121, u122, u123, u124, u125], defers := [] } ∧ EntIs σ W4.heap.size pre y W) ?ownax
      ?assign ?body ?stop
    case own =>
      rintro pre W W' row ⟨h0, h1⟩ hg hr
      exact ⟨h0, h1.grown hg (fun r e => (hr r e).2) (fun r e => by have := (hr r e).1; omega) HH.out⟩
    case ownx =>
      rintro c pre W W' row ⟨h0, h1⟩ hg hr
      exact ⟨h0, h1.grown hg (fun r e => (hr r e).2) (fun r e => by have := (hr r e).1; omega) HH.out⟩
    case ownax =>
      rintro pre y a' _ W W' row ⟨h0, h1, h2, h3⟩ hg hr
      have hm : Mod W W' (fun k => row = some k) := (Mod.refl W _).grown hg (fun k e => .inl e)
      have hnT : ∀ k, inBlock (scv y.2) k → ¬ row = some k := fun k hk e => by
        obtain ⟨_, o, h5, h6⟩ := hr k e
        exact not_isB h5 h6 (h3 k hk).2
      exact ⟨h0, h1, h2.mod hm hnT, fun k hk => ⟨(h3 k hk).1, by obtain ⟨cs, hc⟩ := (h3 k hk).2; exact ⟨cs, hc.mod hm (hnT k hk)⟩⟩⟩
    case assign =>
      intro l pre y W K hI hR hK
      dsimp only [nbv]
      gi_wp2
      exact hK _ _ (KeepsFrom.refl _ _) (KM.of_mod (Mod.refl W Nob) (fun k h => h.elim) nob) hI ⟨rfl, hR⟩
    case body =>
      rintro l pre ⟨yn, ya, yl, yc⟩ a' W hl _ ⟨rfl, hI⟩ ⟨rfl, hR⟩ hlt
      obtain ⟨hyn, hyb, -⟩ := hR
      obtain rfl : yn = 1 := hyn
      rw [show ([] : List NB).length + 1 = 1 from rfl, hno] at hyb
      obtain rfl : yl = 0 := by
        obtain ⟨a', c', hf, _⟩ := hyb.form
        unfold scv at hf
        cases hf
        rfl
      dsimp only [scv]
      have kg := hI.g.cell 0
      have kt := hI.t.cell 0
      simp at kg kt
      have hop : Calls Tryz.prog 45 #[.pointer (some ⟨jb, 0, none⟩), .int .u64 1, .slice ya 0 yc] W fun e w' => e = .returned (.tuple #[.agg #[.int .i64 0, .int .i64 0, .int .u64 0, .int .i64 0], .int .u64 0, .bool false]) ∧ Mod W w' Nob := opened_short (.pointer (some ⟨jb, 0, none⟩)) (.int .u64 1) ya 0 yc W (by omega)
      clear hseq hfl hyb b1 b2 hσ1 cT cg cj cR cS cW cB hτ1 m0 hno
      gi_wp2
      refine ⟨trivial, (CallsIn.inRound l ((callsIn_wide (n := 3)).2 hop)).mono ?_⟩
      rintro e W5 ⟨rfl, m5⟩
      have hI5 := hI.mod m5
      gi_wp2
      change Code.wpIn _ _ _ _ _ _ (W5.alloc (.cells #[.int .i64 0, .int .i64 0, .int .u64 0, .int .i64 0] 93))
      have m6 := (Mod.refl W5 Nob).alloc (.cells #[.int .i64 0, .int .i64 0, .int .u64 0, .int .i64 0] 93)
      have mD := m6.drew
      obtain ⟨W6, hW6⟩ : ∃ V, W5.alloc (.cells #[.int .i64 0, .int .i64 0, .int .u64 0, .int .i64 0] 93) = V := ⟨_, rfl⟩
      rw [hW6] at mD ⊢
      clear hW6 m6
      have hI6 := hI5.mod mD
      change BegAt w H tb gp jb G ep jc { W6 with drawn := W6.drawn + 1 } at hI6
      have kt6 := hI6.t.cell 0
      simp at kt6
      have hco : Calls Tryz.prog 46 #[.pointer (some ⟨tb, 0, none⟩)] { W6 with drawn := W6.drawn + 1 } (fun e w' => e = .returned (.int .u64 0) ∧ w' = { W6 with drawn := W6.drawn + 1 }) :=
        (trust_count tb ⟨ep, 0, 0⟩ { W6 with drawn := W6.drawn + 1 } hI6.τ).mono (fun e w' h => ⟨h.1, h.2.symm⟩)
      refine wpIn_region_still_round (by kernel_rfl) (by rfl) (by kernel_rfl) (fun _ _ h => h) ?_
      repeat still_step
      still_call hco
      repeat still_step
      refine wpStill_nil ?_
      change Exit.then _ _ _ _ W6.drew
      have hI7 : BegAt w H tb gp jb G ep jc W6.drew := hI6
      have hco2 := trust_count tb ⟨ep, 0, 0⟩ W6.drew hI7.τ
      have kf : KeepsFrom W4.heap.size W W6.drew := keepsFrom_mod (m5.trans mD) (fun k h => h.elim)
      obtain ⟨W7, hW7⟩ : ∃ V, W6.drew = V := ⟨_, rfl⟩
      rw [hW7] at hI7 hco2 kf ⊢
      have kt7 := hI7.t.cell 0
      simp at kt7
      clear hW7 hco hI6 kt6 mD hop kg kt
      gi_wp2
      refine ⟨trivial, (CallsIn.inRound l ((callsIn_wide (n := 3)).2 hco2)).mono ?_⟩
      rintro e W8 ⟨rfl, rfl⟩
      gi_wp2
      exact ⟨kf, rfl, hI7⟩
    case stop =>
      rintro D c pre W hD _ ⟨rfl, hI⟩ hK
      have kg := hI.g.cell 0
      have kt := hI.t.cell 0
      have kw := hI.wr.cell 0
      have kb := hI.good.cell 0
      simp at kg kt kw kb
      clear hseq hfl b1 b2 hσ1 cT cg cj cR cS cW cB hτ1 m0 hno
      refine wpIn_wide.2 ?_
      go_wp2_with fail
      refine wp_no_panic ?_
      have hwri : Calls Tryz.prog 47 #[.pointer (some ⟨tb, 0, none⟩)] { W with drawn := W.drawn + 1 } (fun e w' => e = .returned (.int .u64 0) ∧ w' = { W with drawn := W.drawn + 1 }) :=
        (trust_writer tb ⟨ep, 0, 0⟩ { W with drawn := W.drawn + 1 } (hI.τ.mod (Mod.refl W Nob).drew nob)).mono (fun e w' h => ⟨h.1, h.2.symm⟩)
      refine wp_region_still_lit (by kernel_rfl) (by kernel_rfl) ?_
      repeat still_step
      still_call hwri
      repeat still_step
      refine wpStill_nil ?_
      change Exit.then _ _ _ _ W.drew
      have mD := (Mod.refl W Nob).drew
      have hI2 := hI.mod mD
      have hK2 := mD.keep hK nob
      obtain ⟨W5, hW5⟩ : ∃ V, W.drew = V := ⟨_, rfl⟩
      rw [hW5] at hI2 hK2 ⊢
      have kg2 := hI2.g.cell 0
      have cr := hI2.r
      have cs := hI2.s
      have kr := cr.cell 0
      have fr := cr.free 0
      have ks := cs.cell 0
      have fs := cs.free 0
      simp at kg2 kr ks
      have mS := ((Mod.refl W5 (fun k => k = H + 4 ∨ k = H + 5)).setCell (p := ⟨H + 4, 0, none⟩) (.inl (.inl rfl)) (.pointer (some ⟨jb, 0, none⟩))).setCell (p := ⟨H + 5, 0, none⟩) (.inl (.inr rfl)) (.int .i64 0)
      have ks2 := (cs.mod ((Mod.refl W5 (· = H + 4)).setCell (p := ⟨H + 4, 0, none⟩) (.inl rfl) (.pointer (some ⟨jb, 0, none⟩))) (by omega))
      have c1 := (cr.set 0 (.pointer (some ⟨jb, 0, none⟩))).mod ((Mod.refl _ (· = H + 5)).setCell (p := ⟨H + 5, 0, none⟩) (.inl rfl) (.int .i64 0)) (by omega)
      have c2 := ks2.set 0 (.int .i64 0)
      have fs2 := ks2.free 0
      have ks3 := ks2.cell 0
      simp at ks3
      clear hW5 mD hI hK kg kt kw kb hwri
      go_wp2_with fail
      rw [Exit.noGoto_ret]
      go_wp2_with fail
      have hlj := hI2.j.lt
      have hI3 : BegAt w H tb gp jb G ep jc W5 := hI2
      obtain ⟨W6, hW6⟩ : ∃ V, (W5.setCell ⟨H + 4, 0, none⟩ (.pointer (some ⟨jb, 0, none⟩))).setCell ⟨H + 5, 0, none⟩ (.int .i64 0) = V := ⟨_, rfl⟩
      change (W5.setCell ⟨H + 1 + 1 + 1 + 1, 0, none⟩ (.pointer (some ⟨jb, 0, none⟩))).setCell ⟨H + 1 + 1 + 1 + 1 + 1, 0, none⟩ (.int .i64 0) = _ at hW6
      change Mod W5 ((W5.setCell ⟨H + 1 + 1 + 1 + 1, 0, none⟩ (.pointer (some ⟨jb, 0, none⟩))).setCell ⟨H + 1 + 1 + 1 + 1 + 1, 0, none⟩ (.int .i64 0)) _ at mS
      change CellsAt ((W5.setCell ⟨H + 1 + 1 + 1 + 1, 0, none⟩ (.pointer (some ⟨jb, 0, none⟩))).setCell ⟨H + 1 + 1 + 1 + 1 + 1, 0, none⟩ (.int .i64 0)) _ _ _ at c1 c2
      rw [hW6] at mS c1 c2
      simp only [hW6]
      have DS := mS.keep hK2 (fun h => by omega)
      have mD : Mod W6 (W6.putObj D (.deferred none)) (· = D) := (Mod.refl _ (· = D)).putObj (.inl rfl) _
      have r1 := (c1.mod mD (by omega)).cell 0
      have r2 := (c2.mod mD (by omega)).cell 0
      simp at r1 r2
      have hJf := (hI3.j.mod mS (by omega)).mod mD (by omega)
      have hmf := (hI3.md.drop mS (fun k hk => .inr (by have := HH.out; omega))).drop mD (fun k (hk : k = D) => .inr (by have := HH.out; omega))
      refine ⟨by simp, .inl ⟨_, _, rfl, run_takeDeferred DS, ?_⟩⟩
      refine ⟨.tuple #[.pointer (some ⟨jb, 0, none⟩), .int .i64 0], ?_, jb, rfl, by have := HH.out; omega, by rw [HJC.out]; exact hJf, hmf⟩
      simp [results, Tryz.f23, go_sem, r1, r2]

end Go.Proofs.YtakgnkjopbflbaaGreatDoor
