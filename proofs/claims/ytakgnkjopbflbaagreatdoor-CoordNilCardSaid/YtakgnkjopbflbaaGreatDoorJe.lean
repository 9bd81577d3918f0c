/- What stands in the store, entry by entry: journal.stored. The condition: fewer than a hundred rounds. -/
import Derived.Test.YtakgnkjopbflbaaGreatDoorJc
import Derived.Test.YtakgnkjopbflbaaGreatDoorBh
import Derived.Test.YtakgnkjopbflbaaGreatDoorBj
import Derived.Test.YtakgnkjopbflbaaGreatDoorBk
namespace Go.Proofs.YtakgnkjopbflbaaGreatDoor
open Go.RowKit Go.Shelf
set_option linter.unusedSimpArgs false
attribute [local go_sem] Oper.semAt_some

/-- A number and bytes. -/
abbrev NB := Nat × Sc
def nbv (x : NB) : Array Value := #[.int .u64 x.1, scv x.2]
/-- What a round yields. -/
def EntIs (σ : Sto) (lim : Nat) (pre : List NB) (x : NB) (W : World) : Prop :=
  x.1 = pre.length + 1 ∧ BytesAt W (scv x.2) ((σ.shows (nameS (pre.length + 1))).getD []) ∧ ∀ k, inBlock (scv x.2) k → lim ≤ k ∧ IsB W k
/-- What a round keeps: some blocks, and the journal's first cell. -/
structure KM (F : Nat → Prop) (J : Nat) (A B : World) : Prop where
  md : ∃ S, Mod A B S ∧ ∀ k, S k → ¬ F k
  cell : ∀ v, A.cell? ⟨J, 0, none⟩ = some v → B.cell? ⟨J, 0, none⟩ = some v
theorem KM.trans {F : Nat → Prop} {J : Nat} {A B C : World} (h : KM F J A B) (k : KM F J B C) : KM F J A C := by
  obtain ⟨⟨S, h1, h2⟩, h3⟩ := h
  obtain ⟨⟨T, k1, k2⟩, k3⟩ := k
  refine ⟨⟨fun k => S k ∨ T k, (h1.wide (fun _ h => .inl (.inl h))).trans (k1.wide (fun _ h => .inl (.inr h))), fun k hk => hk.elim (h2 k) (k2 k)⟩, fun v hv => k3 v (h3 v hv)⟩
theorem KM.of_mod {F : Nat → Prop} {J : Nat} {A B : World} {S : Nat → Prop} (h : Mod A B S) (hF : ∀ k, S k → ¬ F k) (hJ : ¬ S J) : KM F J A B :=
  ⟨⟨S, h, hF⟩, fun v hv => by
    have hb := h.block J (cell_lt hv) hJ
    unfold World.cell? at hv ⊢
    simpa [hb] using hv⟩
theorem KM.put {F : Nat → Prop} {J B : Nat} (hF : ∀ k, F k → k < B) (W : World) (l : Nat) (o o' : Obj) (hl : B ≤ l) (ho : W.heap[l]? = some o) (hc : o.isCells = false) : KM F J W (W.putObj l o') := by
  refine ⟨⟨(· = l), (Mod.refl W (· = l)).putObj (.inl rfl) o', fun k (hk : k = l) h => by have := hF k h; omega⟩, fun v hv => ?_⟩
  have hne : l ≠ J := fun e => by
    subst e
    obtain ⟨ob, h1, h2⟩ := cell_cells hv
    rw [ho] at h1
    cases h1
    rw [hc] at h2
    cases h2
  have hb : (W.putObj l o').heap[J]? = W.heap[J]? := World.putObj_heap_other (by omega)
  unfold World.cell? at hv ⊢
  simp only [hb]
  exact hv

set_option maxRecDepth 100000 in
set_option maxHeartbeats 400000 in
theorem stored_any {sv : Value} (J : Nat) (w : World) : Calls Tryz.prog 44 #[.pointer (some ⟨J, 0, none⟩), eyesV sv] w fun e w' => e = .returned (.func (.func 78) #[] #[.pointer (some ⟨w.heap.size, 0, none⟩), .pointer (some ⟨w.heap.size + 1, 0, none⟩)]) ∧
    w' = (w.alloc (.cells #[.pointer (some ⟨J, 0, none⟩)] 68)).alloc (.cells #[.nilFunc, sv] 72) := by
  unfold eyesV
  go_enter Tryz.func44, Tryz.ntmps44
  go_wp2_with fail
  go_ret
  exact ⟨rfl, rfl⟩

set_option maxRecDepth 100000 in
set_option maxHeartbeats 4000000 in
theorem stored_in {sv : Value} (n : Nat) (hn : 1 ≤ n) (l Bs Jb b N lim : Nat) (σ : Sto) (x : StoB) (hN99 : N ≤ 98) (J Jx : List NB → World → Prop) (W : World) (hlim : lim ≤ W.heap.size) (hsh : σ.short) (hJa : AbidesFrom W.heap.size J) (hN : ∀ pre W1, J pre W1 → pre.length < N)
    (hY : ∀ pre y W, J pre W → EntIs σ lim pre y W → pre.length < N → YieldAt Fence.wide (n - 1) Tryz.prog l (nbv y) W fun e W' => (e = .returned (.bool true) ∧ J (pre ++ [y]) W' ∧ KM (fun k => x.foot b k ∨ k = Bs ∨ k = Bs + 1) Jb W W') ∨ (e = .returned (.bool false) ∧ Jx (pre ++ [y]) W'))
    (h1 : CellsAt W Bs #[.pointer (some ⟨Jb, 0, none⟩)] 68) (h2 : CellsAt W (Bs + 1) #[.nilFunc, sv] 72) (h3 : W.cell? ⟨Jb, 0, none⟩ = some (.pointer (some ⟨b, 0, none⟩))) (h4 : StoreAt W b σ x) (h0 : J [] W) :
    CallsIn Fence.wide n Tryz.prog 78 #[.func (.yield l) #[] #[], .pointer (some ⟨Bs, 0, none⟩), .pointer (some ⟨Bs + 1, 0, none⟩)] W fun e W' => (∃ v, e = .returned v) ∧ ∃ pre, Jx pre W' := by
  refine callsIn_of_wp Tryz.func78 rfl trivial ?_ rfl
  simp only [Tryz.ntmps78, List.size_toArray, List.length_cons, List.length_nil, Nat.reduceAdd, Nat.reduceSub, Array.replicate_succ, Array.replicate_zero, List.push_toArray, List.append_toArray, List.nil_append, List.cons_append]
  gi_wp2
  gi_loopg [4, 5, 6] N (fun k t _ _ wr => ∃ j : Nat, j + k = N ∧ t = .int .u64 ((j : Int) + 1) ∧ ∃ xs : List NB, xs.length = j ∧ J xs wr ∧ W.heap.size ≤ wr.heap.size ∧ CellsAt wr Bs #[.pointer (some ⟨Jb, 0, none⟩)] 68 ∧ CellsAt wr (Bs + 1) #[.nilFunc, sv] 72 ∧ wr.cell? ⟨Jb, 0, none⟩ = some (.pointer (some ⟨b, 0, none⟩)) ∧ StoreAt wr b σ x)
  case atStart => exact ⟨0, by omega, rfl, [], rfl, h0, Nat.le_refl _, h1, h2, h3, h4⟩
  case round =>
    clear h0 h1 h2 h3 h4
    obtain ⟨j, hj, rfl, xs, hxl, hJs, hsz, h1, h2, h3, h4⟩ := hrel
    have hlt := hN xs wr hJs
    have HJ := Lib.hid hj
    clear hj
    gi_wp2
    refine wpIn_wide.2 ?_
    refine wp_no_panic ?_
    have mD := (Mod.refl wr Nob).drew
    have h1d := h1.mod mD nob
    have h2d := h2.mod mD nob
    have h4d := h4.mod mD (fun k h => h.elim)
    have hS0 : CellsAt wr.drew Bs #[.pointer (some ⟨Jb, 0, none⟩)] 68 ∧ wr.drew.cell? ⟨Jb, 0, none⟩ = some (.pointer (some ⟨b, 0, none⟩)) := ⟨h1d, h3⟩
    have hnm := fun W => name_any (j + 1) W (by omega)
    obtain ⟨nm, hnmS⟩ : ∃ y, nameS (j + 1) = y := ⟨_, rfl⟩
    rw [hnmS] at hnm
    rw [show (((j + 1 : Nat) : Int)) = (j : Int) + 1 by omega] at hnm
    have hget := get_any b σ x nm wr.drew h4d hsh
    refine wp_region_U (S := fun W => CellsAt W Bs #[.pointer (some ⟨Jb, 0, none⟩)] 68 ∧ W.cell? ⟨Jb, 0, none⟩ = some (.pointer (some ⟨b, 0, none⟩))) 11 (by kernel_rfl) ?_
    refine wpAnyU_take (i := 0) (v := .pointer (some ⟨Jb, 0, none⟩)) rfl (by kernel_rfl) (by kernel_rfl) (by kernel_rfl) (by kernel_rfl) (by kernel_rfl) (fun _ _ _ h => h) (Or.inl ⟨by rfl, fun W hS => by have y := hS.1.cell 0; simp at y; go_simp⟩) hS0 ?_
    try simp only [Act.put, List.getElem_toArray, List.getElem_cons_zero, List.getElem_cons_succ, List.setIfInBounds_toArray, List.set_cons_zero, List.set_cons_succ]
    refine wpAnyU_takeP (i := 1) (v := .pointer (some ⟨Jb, 0, none⟩)) rfl (by kernel_rfl) (by kernel_rfl) (by kernel_rfl) (by decide) (fun _ _ _ h => h) (Or.inl ⟨by rfl, fun W => by go_simp⟩) (fun _ => hS0) ?_
    try simp only [Act.put, List.getElem_toArray, List.getElem_cons_zero, List.getElem_cons_succ, List.setIfInBounds_toArray, List.set_cons_zero, List.set_cons_succ]
    refine wpAnyU_takeP (i := 2) (v := .pointer (some ⟨Jb, 0, none⟩)) rfl (by kernel_rfl) (by kernel_rfl) (by kernel_rfl) (by decide) (fun _ _ _ h => h) (Or.inl ⟨by rfl, fun W => by go_simp⟩) (fun _ => hS0) ?_
    try simp only [Act.put, List.getElem_toArray, List.getElem_cons_zero, List.getElem_cons_succ, List.setIfInBounds_toArray, List.set_cons_zero, List.set_cons_succ]
    refine wpAnyU_take (i := 3) (v := .pointer (some ⟨b, 0, none⟩)) rfl (by kernel_rfl) (by kernel_rfl) (by kernel_rfl) (by kernel_rfl) (by kernel_rfl) (fun _ _ _ h => h) (Or.inl ⟨by rfl, fun W hS => by obtain ⟨_, y⟩ := hS; go_simp⟩) hS0 ?_
    try simp only [Act.put, List.getElem_toArray, List.getElem_cons_zero, List.getElem_cons_succ, List.setIfInBounds_toArray, List.set_cons_zero, List.set_cons_succ]
    refine wpAnyU_takeP (i := 4) (v := .int .u64 ((j : Int) + 1)) rfl (by kernel_rfl) (by kernel_rfl) (by kernel_rfl) (by decide) (fun _ _ _ h => h) (Or.inl ⟨by rfl, fun W => by go_simp⟩) (fun _ => hS0) ?_
    try simp only [Act.put, List.getElem_toArray, List.getElem_cons_zero, List.getElem_cons_succ, List.setIfInBounds_toArray, List.set_cons_zero, List.set_cons_succ]
    refine wpAnyU_one 5 _ (by kernel_rfl) rfl (fun K hK => ?_)
    go_simp
    refine (hnm _).mono ?_
    rintro e V ⟨rfl, rfl⟩
    go_wp2_with fail
    refine hK.out _ _ (fun _ => hS0) ?_
    clear hK K
    try simp only [Act.put, List.getElem_toArray, List.getElem_cons_zero, List.getElem_cons_succ, List.setIfInBounds_toArray, List.set_cons_zero, List.set_cons_succ]
    refine wpAnyU_one 6 _ (by kernel_rfl) rfl (fun K hK => ?_)
    go_simp
    refine hget.mono ?_
    rintro e V1 ⟨bv, rfl, hown, m1⟩
    obtain ⟨ba, bc, rfl, hbc, hbm⟩ := owns_form hown
    have hS1 : CellsAt V1 Bs #[.pointer (some ⟨Jb, 0, none⟩)] 68 ∧ V1.cell? ⟨Jb, 0, none⟩ = some (.pointer (some ⟨b, 0, none⟩)) := ⟨h1d.mod m1 nob, by
      have hb := m1.block Jb (cell_lt hS0.2) nob
      have := hS0.2
      unfold World.cell? at this ⊢
      simpa [hb] using this⟩
    have h2e := h2d.mod m1 nob
    have h4e := h4d.mod m1 (fun k h => h.elim)
    have hJ1 := hJa _ _ _ none hJs (grown_of_mod (mD.trans m1)) (fun r e => by cases e)
    have hz1 := (mD.trans m1).size
    obtain ⟨bl, hbl⟩ : ∃ y, (σ.shows nm).getD [] = y := ⟨_, rfl⟩
    rw [hbl] at hown hbc ⊢
    obtain ⟨L, hL⟩ : ∃ y, bl.length = y := ⟨_, rfl⟩
    rw [hL] at hown hbc ⊢
    obtain ⟨is, his⟩ : ∃ y, (σ.shows nm).isSome = y := ⟨_, rfl⟩
    rw [his]
    go_wp2_with fail
    refine hK.out _ _ (fun _ => hS1) ?_
    clear hK K hget
    try simp only [Act.put, List.getElem_toArray, List.getElem_cons_zero, List.getElem_cons_succ, List.setIfInBounds_toArray, List.set_cons_zero, List.set_cons_succ]
    refine wpAnyU_takeP (i := 7) (v := .tuple #[.slice ba L bc, .bool is]) rfl (by kernel_rfl) (by kernel_rfl) (by kernel_rfl) (by decide) (fun _ _ _ h => h) (Or.inl ⟨by rfl, fun W => by go_simp⟩) (fun _ => hS1) ?_
    try simp only [Act.put, List.getElem_toArray, List.getElem_cons_zero, List.getElem_cons_succ, List.setIfInBounds_toArray, List.set_cons_zero, List.set_cons_succ]
    refine wpAnyU_takeP (i := 8) (v := .slice ba L bc) rfl (by kernel_rfl) (by kernel_rfl) (by kernel_rfl) (by decide) (fun _ _ _ h => h) (Or.inl ⟨by rfl, fun W => by go_simp⟩) (fun _ => hS1) ?_
    try simp only [Act.put, List.getElem_toArray, List.getElem_cons_zero, List.getElem_cons_succ, List.setIfInBounds_toArray, List.set_cons_zero, List.set_cons_succ]
    refine wpAnyU_takeP (i := 9) (v := .bool is) rfl (by kernel_rfl) (by kernel_rfl) (by kernel_rfl) (by decide) (fun _ _ _ h => h) (Or.inl ⟨by rfl, fun W => by go_simp⟩) (fun _ => hS1) ?_
    try simp only [Act.put, List.getElem_toArray, List.getElem_cons_zero, List.getElem_cons_succ, List.setIfInBounds_toArray, List.set_cons_zero, List.set_cons_succ]
    refine wpAnyU_takeP (i := 10) (v := .slice ba L bc) rfl (by kernel_rfl) (by kernel_rfl) (by kernel_rfl) (by decide) (fun _ _ _ h => h) (Or.inl ⟨by rfl, fun W => by go_simp⟩) (fun _ => hS1) ?_
    try simp only [Act.put, List.getElem_toArray, List.getElem_cons_zero, List.getElem_cons_succ, List.setIfInBounds_toArray, List.set_cons_zero, List.set_cons_succ]
    refine wpAnyU_last (by kernel_rfl) (by simp) ?_
    refine wpAny_tail _ 11 _ _ _ (by kernel_rfl) ?_
    simp only [List.drop_succ_cons, List.drop_zero]
    clear hS0 h1d h2d h4d h1 h2 h3 h4 hJs mD m1
    obtain ⟨h1e, h3e⟩ := hS1
    cases is
    · go_wp2_with fail
      gi_wp2
      refine wpIn_wide.2 ?_
      refine wp_no_panic ?_
      have mE := (Mod.refl V1 Nob).drew
      have hS2 := h2e.mod mE nob
      refine wp_region_U (S := fun W => CellsAt W (Bs + 1) #[.nilFunc, sv] 72) 3 (by kernel_rfl) ?_
      refine wpAnyU_take (i := 0) (v := .agg #[.nilFunc, sv]) rfl (by kernel_rfl) (by kernel_rfl) (by kernel_rfl) (by kernel_rfl) (by kernel_rfl) (fun _ _ _ h => h) (Or.inl ⟨by rfl, fun W hS => by have y := hS.cell 0; have y2 := hS.cell 1; simp at y y2; go_simp⟩) hS2 ?_
      try simp only [Act.put, List.getElem_toArray, List.getElem_cons_zero, List.getElem_cons_succ, List.setIfInBounds_toArray, List.set_cons_zero, List.set_cons_succ]
      refine wpAnyU_takeP (i := 1) (v := .int .u64 ((j : Int) + 1)) rfl (by kernel_rfl) (by kernel_rfl) (by kernel_rfl) (by decide) (fun _ _ _ h => h) (Or.inl ⟨by rfl, fun W => by go_simp⟩) (fun _ => hS2) ?_
      try simp only [Act.put, List.getElem_toArray, List.getElem_cons_zero, List.getElem_cons_succ, List.setIfInBounds_toArray, List.set_cons_zero, List.set_cons_succ]
      refine wpAnyU_one 2 _ (by kernel_rfl) rfl (fun K hK => ?_)
      go_simp
      refine (hnm _).mono ?_
      rintro e V ⟨rfl, rfl⟩
      go_wp2_with fail
      refine hK.out _ _ (fun _ => hS2) ?_
      clear hK K
      try simp only [Act.put, List.getElem_toArray, List.getElem_cons_zero, List.getElem_cons_succ, List.setIfInBounds_toArray, List.set_cons_zero, List.set_cons_succ]
      refine wpAnyU_last (by kernel_rfl) (by simp) ?_
      refine wpAny_tail _ 3 _ _ _ (by kernel_rfl) ?_
      simp only [List.drop_succ_cons, List.drop_zero]
      go_wp2_with fail
      change Calls _ _ #[eyesV sv, _, _, _] V1.drew _
      refine (note_anyV sv _ nm _ V1.drew).mono ?_
      rintro e V2 ⟨⟨nv, rfl⟩, m2⟩
      have mF := mE.trans m2
      have b1 := h1e.mod mF nob
      have b2 := h2e.mod mF nob
      have b4 := h4e.mod mF (fun k h => h.elim)
      have b3 : V2.cell? ⟨Jb, 0, none⟩ = some (.pointer (some ⟨b, 0, none⟩)) := by
        have hb := mF.block Jb (cell_lt h3e) nob
        have := h3e
        unfold World.cell? at this ⊢
        simpa [hb] using this
      have hown2 := owns_mod hown mF (fun _ _ => nob)
      have hJ2 := hJa _ _ _ none hJ1 (grown_of_mod mF) (fun r e => by cases e)
      have hz2 := mF.size
      have hent : EntIs σ lim xs (j + 1, (ba, L, bc)) V2 := ⟨by rw [hxl], by rw [hxl, hnmS, hbl]; exact BytesAt.of_owns hown2, fun k hk => ⟨by have := (hown2.lt k hk).1; have h9 : wr.drew.heap.size = wr.heap.size := rfl; omega, own_isB hown2 k hk⟩⟩
      obtain ⟨fn, tmps, assign, body, hy, hR⟩ := hY xs (j + 1, (ba, L, bc)) V2 hJ2 hent hlt
      dsimp only [nbv, scv] at hy
      rw [show (((j + 1 : Nat) : Int)) = (j : Int) + 1 by omega] at hy
      have HXS : Hid ((xs ++ [((j + 1, (ba, L, bc)) : NB)]).length = j + 1) := by rw [List.length_append, hxl]; exact rfl
      have hadd : IntKind.u64.wrap ((j : Int) + 1 + 1) = (j : Int) + 1 + 1 := u64_wrap_id _ (by omega) (by omega)
      clear hS2 mE m2 mF h1e h2e h3e h4e hown hown2 hJ1 hJ2 hent hY hnm hbl hL
      go_wp2_with fail
      gi_wp2
      refine hR.mono ?_
      rintro e W3 (⟨rfl, hJ3, hk3⟩ | ⟨rfl, hJx3⟩)
      · obtain ⟨⟨S3, m3, hS3⟩, hc3⟩ := hk3
        have d1 := b1.mod m3 (fun h => hS3 _ h (.inr (.inl rfl)))
        have d2 := b2.mod m3 (fun h => hS3 _ h (.inr (.inr rfl)))
        have d4 := b4.mod m3 (fun k h h2 => hS3 k h (.inl h2))
        have d3 := hc3 _ b3
        have hz3 := m3.size
        clear hR hy b1 b2 b3 b4 m3 hS3 hc3
        gi_wp2
        go_roundg (gk - 1)
        case measure => have := HJ.out; omega
        case rel => exact ⟨j + 1, by have := HJ.out; omega, by congr 1, _, HXS.out, hJ3, by omega, d1, d2, d3, d4⟩
      · clear hR hy
        gi_wp2
        refine bodyPost_ret (results_none rfl _ _ _) rfl ?_
        exact ⟨⟨_, rfl⟩, _, hJx3⟩
    · go_wp2_with fail
      gi_wp2
      refine wpIn_wide.2 ?_
      refine wp_no_panic ?_
      have mE := (Mod.refl V1 Nob).drew
      have hS2 := h2e.mod mE nob
      refine wp_region_U (S := fun W => CellsAt W (Bs + 1) #[.nilFunc, sv] 72) 5 (by kernel_rfl) ?_
      refine wpAnyU_take (i := 0) (v := .agg #[.nilFunc, sv]) rfl (by kernel_rfl) (by kernel_rfl) (by kernel_rfl) (by kernel_rfl) (by kernel_rfl) (fun _ _ _ h => h) (Or.inl ⟨by rfl, fun W hS => by have y := hS.cell 0; have y2 := hS.cell 1; simp at y y2; go_simp⟩) hS2 ?_
      try simp only [Act.put, List.getElem_toArray, List.getElem_cons_zero, List.getElem_cons_succ, List.setIfInBounds_toArray, List.set_cons_zero, List.set_cons_succ]
      refine wpAnyU_takeP (i := 1) (v := .int .u64 ((j : Int) + 1)) rfl (by kernel_rfl) (by kernel_rfl) (by kernel_rfl) (by decide) (fun _ _ _ h => h) (Or.inl ⟨by rfl, fun W => by go_simp⟩) (fun _ => hS2) ?_
      try simp only [Act.put, List.getElem_toArray, List.getElem_cons_zero, List.getElem_cons_succ, List.setIfInBounds_toArray, List.set_cons_zero, List.set_cons_succ]
      refine wpAnyU_takeP (i := 3) (v := .slice ba L bc) rfl (by kernel_rfl) (by kernel_rfl) (by kernel_rfl) (by decide) (fun _ _ _ h => h) (Or.inl ⟨by rfl, fun W => by go_simp⟩) (fun _ => hS2) ?_
      try simp only [Act.put, List.getElem_toArray, List.getElem_cons_zero, List.getElem_cons_succ, List.setIfInBounds_toArray, List.set_cons_zero, List.set_cons_succ]
      refine wpAnyU_takeP (i := 4) (v := .int .i64 L) rfl (by kernel_rfl) (by kernel_rfl) (by kernel_rfl) (by decide) (fun _ _ _ h => h) (Or.inl ⟨by rfl, fun W => by go_simp⟩) (fun _ => hS2) ?_
      try simp only [Act.put, List.getElem_toArray, List.getElem_cons_zero, List.getElem_cons_succ, List.setIfInBounds_toArray, List.set_cons_zero, List.set_cons_succ]
      refine wpAnyU_one 2 _ (by kernel_rfl) rfl (fun K hK => ?_)
      go_simp
      refine (hnm _).mono ?_
      rintro e V ⟨rfl, rfl⟩
      go_wp2_with fail
      refine hK.out _ _ (fun _ => hS2) ?_
      clear hK K
      try simp only [Act.put, List.getElem_toArray, List.getElem_cons_zero, List.getElem_cons_succ, List.setIfInBounds_toArray, List.set_cons_zero, List.set_cons_succ]
      refine wpAnyU_last (by kernel_rfl) (by simp) ?_
      refine wpAny_tail _ 5 _ _ _ (by kernel_rfl) ?_
      simp only [List.drop_succ_cons, List.drop_zero]
      go_wp2_with fail
      change Calls _ _ #[eyesV sv, _, _, _] V1.drew _
      refine (note_anyV sv _ nm _ V1.drew).mono ?_
      rintro e V2 ⟨⟨nv, rfl⟩, m2⟩
      have mF := mE.trans m2
      have b1 := h1e.mod mF nob
      have b2 := h2e.mod mF nob
      have b4 := h4e.mod mF (fun k h => h.elim)
      have b3 : V2.cell? ⟨Jb, 0, none⟩ = some (.pointer (some ⟨b, 0, none⟩)) := by
        have hb := mF.block Jb (cell_lt h3e) nob
        have := h3e
        unfold World.cell? at this ⊢
        simpa [hb] using this
      have hown2 := owns_mod hown mF (fun _ _ => nob)
      have hJ2 := hJa _ _ _ none hJ1 (grown_of_mod mF) (fun r e => by cases e)
      have hz2 := mF.size
      have hent : EntIs σ lim xs (j + 1, (ba, L, bc)) V2 := ⟨by rw [hxl], by rw [hxl, hnmS, hbl]; exact BytesAt.of_owns hown2, fun k hk => ⟨by have := (hown2.lt k hk).1; have h9 : wr.drew.heap.size = wr.heap.size := rfl; omega, own_isB hown2 k hk⟩⟩
      obtain ⟨fn, tmps, assign, body, hy, hR⟩ := hY xs (j + 1, (ba, L, bc)) V2 hJ2 hent hlt
      dsimp only [nbv, scv] at hy
      rw [show (((j + 1 : Nat) : Int)) = (j : Int) + 1 by omega] at hy
      have HXS : Hid ((xs ++ [((j + 1, (ba, L, bc)) : NB)]).length = j + 1) := by rw [List.length_append, hxl]; exact rfl
      have hadd : IntKind.u64.wrap ((j : Int) + 1 + 1) = (j : Int) + 1 + 1 := u64_wrap_id _ (by omega) (by omega)
      clear hS2 mE m2 mF h1e h2e h3e h4e hown hown2 hJ1 hJ2 hent hY hnm hbl hL
      go_wp2_with fail
      gi_wp2
      refine hR.mono ?_
      rintro e W3 (⟨rfl, hJ3, hk3⟩ | ⟨rfl, hJx3⟩)
      · obtain ⟨⟨S3, m3, hS3⟩, hc3⟩ := hk3
        have d1 := b1.mod m3 (fun h => hS3 _ h (.inr (.inl rfl)))
        have d2 := b2.mod m3 (fun h => hS3 _ h (.inr (.inr rfl)))
        have d4 := b4.mod m3 (fun k h h2 => hS3 k h (.inl h2))
        have d3 := hc3 _ b3
        have hz3 := m3.size
        clear hR hy b1 b2 b3 b4 m3 hS3 hc3
        gi_wp2
        go_roundg (gk - 1)
        case measure => have := HJ.out; omega
        case rel => exact ⟨j + 1, by have := HJ.out; omega, by congr 1, _, HXS.out, hJ3, by omega, d1, d2, d3, d4⟩
      · clear hR hy
        gi_wp2
        refine bodyPost_ret (results_none rfl _ _ _) rfl ?_
        exact ⟨⟨_, rfl⟩, _, hJx3⟩

/-- journal.stored, as it is ranged over. -/
theorem stored_ever {sv : Value} (n : Nat) (hn : 1 ≤ n) (Bs Jb b N : Nat) (σ : Sto) (x : StoB) (hN99 : N ≤ 98) (hsh : σ.short) (w : World)
    (h1 : CellsAt w Bs #[.pointer (some ⟨Jb, 0, none⟩)] 68) (h2 : CellsAt w (Bs + 1) #[.nilFunc, sv] 72) (h3 : w.cell? ⟨Jb, 0, none⟩ = some (.pointer (some ⟨b, 0, none⟩))) (h4 : StoreAt w b σ x) :
    SeqEver n Tryz.prog 78 #[.pointer (some ⟨Bs, 0, none⟩), .pointer (some ⟨Bs + 1, 0, none⟩)] nbv (KM (fun k => x.foot b k ∨ k = Bs ∨ k = Bs + 1) Jb) (EntIs σ w.heap.size) (fun _ => True) N w := fun l J Jx W hW hJ hJx hN hY h0 => by
  have hm : Mod w W (fun k => w.heap.size ≤ k) := ⟨hW.os, hW.tape, hW.output, hW.size, fun k hk _ => hW.block k hk⟩
  have hb := hW.block Jb (cell_lt h3)
  refine (stored_in n hn l Bs Jb b N w.heap.size σ x hN99 J Jx W hW.size hsh hJ hN hY ((hW.block Bs h1.lt).trans h1) ((hW.block (Bs + 1) h2.lt).trans h2) (by unfold World.cell? at h3 ⊢; simpa [hb] using h3) (h4.mod hm (fun k hk h => by have := h4.foot_lt k h; omega)) h0).mono ?_
  rintro e W' ⟨he, pre, hx⟩
  exact ⟨he, pre, trivial, hx⟩

end Go.Proofs.YtakgnkjopbflbaaGreatDoor
