/- A coordinator that begins on a store in which nothing stands: coord.New. The condition: public numbers that may be. -/
import Derived.Test.YtakgnkjopbflbaaGreatDoorGdB
import Derived.Test.YtakgnkjopbflbaaGreatDoorJm
import Derived.Test.YtakgnkjopbflbaaGreatDoorBn
namespace Go.Proofs.YtakgnkjopbflbaaGreatDoor
open Go.RowKit Go.Shelf
set_option linter.unusedSimpArgs false
attribute [local go_sem] Oper.semAt_some

set_option maxRecDepth 100000 in
set_option maxHeartbeats 8000000 in
theorem coord_new (b tb : Nat) (x : StoB) (job : List UInt8) (hj : job.length = 32) (r k bk wk : Nat) (hf : fitQ r k bk wk) (sv : Value) (hsv : sv = .nilFunc ∨ ∃ f a c, sv = .func f a c) (w : World) (hσ : StoreAt w b sto0 x) (hτ : TruAt w tb ⟨0, 0, 0⟩) (hfar : ¬ x.foot b tb) :
    Calls Tryz.prog 6 #[.pointer (some ⟨tb, 0, none⟩), .pointer (some ⟨b, 0, none⟩), .agg (arrB job), .agg (parA r k bk wk), .nilFunc, sv] w fun e w' => ∃ C J R M D M1 M2 na nc, e = .returned (.tuple #[.pointer (some ⟨C, 0, none⟩), .int .i64 0]) ∧ CooG w.heap.size tb J job (parA r k bk wk).toList (planP r k bk).count (.slice na (planP r k bk).count nc) w' C R M D M1 M2 ∧
      CellsAt w' J (jcells (.pointer (some ⟨b, 0, none⟩)) (.pointer (some ⟨tb, 0, none⟩)) (journalK job) 1 (.slice none 0 0) zl32 zl32 false ent0).toArray 121 ∧ StoreAt w' b sto0 x ∧ TruAt w' tb ⟨1, 0, 0⟩ ∧ Mod w w' (· = tb) := by
  have cJ := (CellsAt.new w (arrB job) 22).alloc (.cells (parA r k bk wk) 24)
  have cP := new_at (w := w.alloc (.cells (arrB job) 22)) (cs := parA r k bk wk) (t := 24) (g := w.heap.size + 1) (by simp)
  have mB := ((Mod.refl w Nob).alloc (.cells (arrB job) 22)).alloc (.cells (parA r k bk wk) 24)
  have hz : ((w.alloc (.cells (arrB job) 22)).alloc (.cells (parA r k bk wk) 24)).heap.size = w.heap.size + 2 := by simp
  have hbE : Tryz.prog.built 72 [(0, .nilFunc), (1, sv)] = some #[.nilFunc, sv] := by rcases hsv with rfl | ⟨f, a, c, rfl⟩ <;> kernel_rfl
  have HBE := Lib.hid hbE
  clear hbE hsv
  have hkl := journalK_length job
  have hjs : (arrB job).size = 32 := by rw [arrB_size, hj]
  refine (callsIn_wide (n := 6)).1 ?_
  refine callsIn_of_wp_marks Tryz.func6 rfl trivial ?_ rfl
  simp only [Tryz.ntmps6, List.size_toArray, List.length_cons, List.length_nil, Nat.reduceAdd, Nat.reduceSub, Array.replicate_succ, Array.replicate_zero, List.push_toArray, List.append_toArray, List.nil_append, List.cons_append]
  refine wpIn_wide.2 ?_
  go_wp2_with fail
  change Calls _ _ _ ((w.alloc (.cells (arrB job) 22)).alloc (.cells (parA r k bk wk) 24)) _
  obtain ⟨W, hW⟩ : ∃ W, (w.alloc (.cells (arrB job) 22)).alloc (.cells (parA r k bk wk) 24) = W := ⟨_, rfl⟩
  rw [hW] at cJ cP mB hz ⊢
  obtain ⟨H, hH⟩ : ∃ H, w.heap.size = H := ⟨_, rfl⟩
  rw [hH] at cJ cP hz ⊢
  have HH := Lib.hid hH
  have HZ := Lib.hid hz
  clear hW hH hz
  have hσ1 := hσ.mod mB (fun _ h => h.elim)
  have hτ1 := hτ.mod mB nob
  have htH : tb < H := by rw [← HH.out]; exact CellsAt.lt hτ
  clear hσ hτ
  refine (trust_begin tb ⟨0, 0, 0⟩ W hτ1 (by simp)).mono ?_
  rintro e W1 ⟨rfl, hτ2, m1⟩
  change TruAt W1 tb ⟨1, 0, 0⟩ at hτ2
  replace cJ := cJ.mod m1 (by omega)
  replace cP := cP.mod m1 (by omega)
  replace hσ1 := hσ1.mod m1 (fun k (hk : k = tb) hf => hfar (hk ▸ hf))
  replace mB := (mB.nob (T := (· = tb))).trans m1
  have hz1 := m1.size
  clear m1 hτ1
  have hbe := begin_empty (sv := sv) b tb sto0 x ⟨1, 0, 0⟩ job W1 hσ1 (fun nm l h => by cases h) rfl hτ2 rfl rfl (by simp) (by simp) hj
  go_wp2_with (first
    | (refine wpList_load_arr rfl 22 _ rfl H 32 5 rfl (arrB job) cJ Tryz.underlying22 size_b32 hjs ?_)
    | (refine wpList_build2 rfl 72 0 1 (.tmp 37) (.tmp 38) rfl .nilFunc sv rfl rfl _ HBE.out ?_))
  refine hbe.mono ?_
  rintro e W2 ⟨J, rfl, hJW, hJ2, m1⟩
  replace cJ := cJ.mod m1 nob
  replace cP := cP.mod m1 nob
  replace hσ1 := hσ1.mod m1 (fun _ h => h.elim)
  replace hτ2 := hτ2.mod m1 nob
  replace mB := mB.trans m1.nob
  clear hbe
  have hz2 := m1.size
  clear m1
  obtain ⟨jc, hjc⟩ : ∃ jc, (jcells (.pointer (some ⟨b, 0, none⟩)) (.pointer (some ⟨tb, 0, none⟩)) (journalK job) 1 (.slice none 0 0) zl32 zl32 false ent0).toArray = jc := ⟨_, rfl⟩
  rw [hjc] at hJ2
  have HJC := Lib.hid hjc
  clear hjc
  go_wp2_with fail
  have hcnt := count_q r k bk wk hf
  obtain ⟨N, hN⟩ : ∃ N, (planP r k bk).count = N := ⟨_, rfl⟩
  have hN1 := (plan_nums (planP_ok hf)).2.2.2.2.2
  rw [hN] at hcnt hN1
  have HCN := Lib.hid hcnt
  clear hcnt
  refine wp_no_panic ?_
  refine wp_region_inv (by kernel_rfl) (by kernel_rfl) (fun L a V => ∃ f, a = { tmps := fr7 tb b H J (.agg (arrB job)) (.agg (parA r k bk wk)) sv f, defers := [] } ∧ I7 W2.heap.size tb J job (parA r k bk wk).toList N W2 L f V)
    ⟨fun _ => undef, rfl, ⟨(Mod.refl W2 Nob).drew, (fun _ i _ h => by cases h), (fun h => by cases h)⟩⟩ ?step ?done
  case step =>
    rintro i L a V o ⟨f, rfl, hI⟩ hLi ho haft K' hK'
    have hi16 : i < 16 := (Array.getElem?_eq_some_iff.1 ho).1
    unfold fr7
    have hi : i = 0 ∨ i = 1 ∨ i = 2 ∨ i = 3 ∨ i = 4 ∨ i = 5 ∨ i = 6 ∨ i = 7 ∨ i = 8 ∨ i = 9 ∨ i = 10 ∨ i = 11 ∨ i = 12 ∨ i = 13 ∨ i = 14 ∨ i = 15 := by omega
    rcases hi with rfl | rfl | rfl | rfl | rfl | rfl | rfl | rfl | rfl | rfl | rfl | rfl | rfl | rfl | rfl | rfl
    · cases ho
      refine Eq.mpr (if_pos (by rfl)) ?_
      go_simp
      exact hK'.out _ _ ⟨fun j => if j = 0 then .pointer (some ⟨tb, 0, none⟩) else f j, rfl, hI.step 0 (by omega) hLi _ (Mod.refl _ _) rfl⟩
    · cases ho
      refine Eq.mpr (if_pos (by rfl)) ?_
      go_simp
      exact hK'.out _ _ ⟨fun j => if j = 1 then .pointer (some ⟨J, 0, none⟩) else f j, rfl, hI.step 1 (by omega) hLi _ (Mod.refl _ _) rfl⟩
    · cases ho
      refine Eq.mpr (if_pos (by rfl)) ?_
      refine op_of_run (load_run 22 (.tmp 8) rfl H rfl (job.map B) _ (cJ.mod hI.md nob) Tryz.underlying22 rfl (by rw [List.length_map, hj]; exact size_b32)) ?_
      exact hK'.out _ _ ⟨fun j => if j = 2 then .agg (arrB job) else f j, rfl, hI.step 2 (by omega) hLi _ (Mod.refl _ _) rfl⟩
    · cases ho
      refine Eq.mpr (if_pos (by rfl)) ?_
      have cPV := cP.mod hI.md nob
      unfold parA at cPV ⊢
      have y0 := cPV.cell 0
      have y1 := cPV.cell 1
      have y2 := cPV.cell 2
      have y3 := cPV.cell 3
      simp at y0 y1 y2 y3
      go_simp
      exact hK'.out _ _ ⟨fun j => if j = 3 then .agg (parA r k bk wk) else f j, rfl, hI.step 3 (by omega) hLi _ (Mod.refl _ _) rfl⟩
    · cases ho
      refine Eq.mpr (if_pos (by rfl)) ?_
      refine op_of_run (load_run 22 (.tmp 8) rfl H rfl (job.map B) _ (cJ.mod hI.md nob) Tryz.underlying22 rfl (by rw [List.length_map, hj]; exact size_b32)) ?_
      exact hK'.out _ _ ⟨fun j => if j = 4 then .agg (arrB job) else f j, rfl, hI.step 4 (by omega) hLi _ (Mod.refl _ _) rfl⟩
    · have l4 := dep_of haft 4 (by cases ho; kernel_rfl)
      have v4 : f 4 = .agg (arrB job) := hI.p (hI.not15 (by omega) hLi) 4 (by omega) l4
      cases ho
      refine Eq.mpr (if_pos (by rfl)) ?_
      rw [v4]
      go_simp
      refine (ring_new job hj V).mono ?_
      rintro e V1 ⟨R, M, rfl, _, _, _, q1, q2, m1⟩
      go_wp2_with fail
      have ef : (fun j => if j = 5 then Value.pointer (some ⟨R, 0, none⟩) else if j = 4 then .agg (arrB job) else f j) = fun j => if j = 5 then Value.pointer (some ⟨R, 0, none⟩) else f j := by
        funext j
        by_cases h4 : j = 4
        · subst h4; simp [v4]
        · simp [h4]
      exact hK'.out _ _ ⟨fun j => if j = 5 then .pointer (some ⟨R, 0, none⟩) else if j = 4 then .agg (arrB job) else f j, rfl, by rw [ef]; exact hI.step 5 (by omega) hLi _ m1 ⟨R, M, rfl, q1, q2⟩⟩
    · cases ho
      refine Eq.mpr (if_pos (by rfl)) ?_
      go_simp
      exact hK'.out _ _ ⟨fun j => if j = 6 then .int .u64 1 else f j, rfl, hI.step 6 (by omega) hLi _ (Mod.refl _ _) rfl⟩
    · cases ho
      refine Eq.mpr (if_pos (by rfl)) ?_
      have cPV := cP.mod hI.md nob
      unfold parA at cPV ⊢
      have y0 := cPV.cell 0
      have y1 := cPV.cell 1
      have y2 := cPV.cell 2
      have y3 := cPV.cell 3
      simp at y0 y1 y2 y3
      go_simp
      exact hK'.out _ _ ⟨fun j => if j = 7 then .agg (parA r k bk wk) else f j, rfl, hI.step 7 (by omega) hLi _ (Mod.refl _ _) rfl⟩
    · have l7 := dep_of haft 7 (by cases ho; kernel_rfl)
      have v7 : f 7 = .agg (parA r k bk wk) := hI.p (hI.not15 (by omega) hLi) 7 (by omega) l7
      cases ho
      refine Eq.mpr (if_pos (by rfl)) ?_
      rw [v7]
      go_simp
      refine (HCN.out V).mono ?_
      rintro e V1 ⟨rfl, m1⟩
      go_wp2_with fail
      have ef : (fun j => if j = 8 then Value.int .i64 N else if j = 7 then .agg (parA r k bk wk) else f j) = fun j => if j = 8 then Value.int .i64 N else f j := by
        funext j
        by_cases h4 : j = 7
        · subst h4; simp [v7]
        · simp [h4]
      exact hK'.out _ _ ⟨fun j => if j = 8 then .int .i64 N else if j = 7 then .agg (parA r k bk wk) else f j, rfl, by rw [ef]; exact hI.step 8 (by omega) hLi _ m1 rfl⟩
    · have l8 := dep_of haft 8 (by cases ho; kernel_rfl)
      have v8 : f 8 = .int .i64 N := hI.p (hI.not15 (by omega) hLi) 8 (by omega) l8
      obtain ⟨V1, hrun, q1, m1⟩ := make_u64 N V (by omega)
      cases ho
      refine Eq.mpr (if_pos (by rfl)) ?_
      rw [v8]
      go_simp
      rw [← v8]
      exact hK'.out _ _ ⟨fun j => if j = 9 then .slice (some ⟨V.heap.size, 0, none⟩) N N else f j, rfl, hI.step 9 (by omega) hLi _ m1 ⟨V.heap.size, rfl, q1⟩⟩
    · have hmm := @run_makeMap Tryz.prog
      cases ho
      refine Eq.mpr (if_pos (by rfl)) ?_
      go_simp
      exact hK'.out _ _ ⟨fun j => if j = 10 then .map (some V.heap.size) else f j, rfl, hI.step 10 (by omega) hLi _ ((Mod.refl V Nob).alloc (.map #[] 0)) ⟨V.heap.size, rfl, MapAt.new keyP V⟩⟩
    · have hmm := @run_makeMap Tryz.prog
      cases ho
      refine Eq.mpr (if_pos (by rfl)) ?_
      go_simp
      exact hK'.out _ _ ⟨fun j => if j = 11 then .map (some V.heap.size) else f j, rfl, hI.step 11 (by omega) hLi _ ((Mod.refl V Nob).alloc (.map #[] 0)) ⟨V.heap.size, rfl, MapAt.new keyI V⟩⟩
    · have l0 := dep_of haft 0 (by cases ho; kernel_rfl)
      have l1 := dep_of haft 1 (by cases ho; kernel_rfl)
      have l2 := dep_of haft 2 (by cases ho; kernel_rfl)
      have l3 := dep_of haft 3 (by cases ho; kernel_rfl)
      have l5 := dep_of haft 5 (by cases ho; kernel_rfl)
      have l6 := dep_of haft 6 (by cases ho; kernel_rfl)
      have l9 := dep_of haft 9 (by cases ho; kernel_rfl)
      have l10 := dep_of haft 10 (by cases ho; kernel_rfl)
      have l11 := dep_of haft 11 (by cases ho; kernel_rfl)
      have n15 := hI.not15 (by omega) hLi
      have v0 : f 0 = _ := hI.p n15 0 (by omega) l0
      have v1 : f 1 = _ := hI.p n15 1 (by omega) l1
      have v2 : f 2 = _ := hI.p n15 2 (by omega) l2
      have v3 : f 3 = _ := hI.p n15 3 (by omega) l3
      obtain ⟨R, M, v5, q1, q2⟩ := hI.p n15 5 (by omega) l5
      have v6 : f 6 = _ := hI.p n15 6 (by omega) l6
      obtain ⟨D, v9, q3⟩ := hI.p n15 9 (by omega) l9
      obtain ⟨M1, v10, q4⟩ := hI.p n15 10 (by omega) l10
      obtain ⟨M2, v11, q5⟩ := hI.p n15 11 (by omega) l11
      have hb := built_coord (some ⟨tb, 0, none⟩) (some ⟨J, 0, none⟩) job hj (parA r k bk wk).toList rfl (some ⟨R, 0, none⟩) 1 (some ⟨D, 0, none⟩) N N M1 M2
      cases ho
      refine Eq.mpr (if_pos (by rfl)) ?_
      refine op_of_run (v := .agg (cooL (.pointer (some ⟨tb, 0, none⟩)) (.pointer (some ⟨J, 0, none⟩)) job (parA r k bk wk).toList (.pointer (some ⟨R, 0, none⟩)) (.slice none 0 0) 1 (.slice (some ⟨D, 0, none⟩) N N) 0 0 0 (.map (some M1)) (.map (some M2)) (.slice none 0 0)).toArray) (w' := V) ?_ ?_
      · refine exec_build9 80 0 1 2 3 4 6 7 11 12 (.tmp 46) (.tmp 47) (.tmp 48) (.tmp 49) (.tmp 51) (.tmp 52) (.tmp 55) (.tmp 56) (.tmp 57) _ _ _ _ _ _ _ _ _ rfl ?_ ?_ ?_ ?_ ?_ ?_ ?_ ?_ ?_ _ hb V
        · exact v0
        · exact v1
        · exact v2
        · exact v3
        · exact v5
        · exact v6
        · exact v9
        · exact v10
        · exact v11
      exact hK'.out _ _ ⟨fun j => if j = 12 then _ else f j, rfl, hI.step 12 (by omega) hLi _ (Mod.refl _ _) ⟨R, M, D, M1, M2, rfl, q2, q1, q3, q4, q5⟩⟩
    · have l12 := dep_of haft 12 (by cases ho; kernel_rfl)
      obtain ⟨R, M, D, M1, M2, v12, q1, q2, q3, q4, q5⟩ := hI.p (hI.not15 (by omega) hLi) 12 (by omega) l12
      obtain ⟨cs, hcs⟩ : ∃ cs, (cooL (.pointer (some ⟨tb, 0, none⟩)) (.pointer (some ⟨J, 0, none⟩)) job (parA r k bk wk).toList (.pointer (some ⟨R, 0, none⟩)) (.slice none 0 0) 1 (.slice (some ⟨D, 0, none⟩) N N) 0 0 0 (.map (some M1)) (.map (some M2)) (.slice none 0 0)).toArray = cs := ⟨_, rfl⟩
      rw [hcs] at v12
      have mA := (Mod.refl V Nob).alloc (.cells cs 80)
      have cC := CellsAt.new V cs 80
      cases ho
      refine Eq.mpr (if_pos (by rfl)) ?_
      rw [v12]
      go_simp
      rw [← v12]
      refine hK'.out _ _ ⟨fun j => if j = 13 then .pointer (some ⟨V.heap.size, 0, none⟩) else f j, rfl, hI.step 13 (by omega) hLi _ mA ⟨V.heap.size, R, M, D, M1, M2, rfl, ⟨?_, q1.mod mA nob, q2.mod mA nob, q3.mod mA nob, q4.mod mA nob, q5.mod mA nob, hI.md.size⟩⟩⟩
      rw [hcs]
      exact cC
    · have mA := (Mod.refl V Nob).alloc (.cells #[.pointer none] 25)
      cases ho
      refine Eq.mpr (if_pos (by rfl)) ?_
      go_simp
      exact hK'.out _ _ ⟨fun j => if j = 14 then .pointer (some ⟨V.heap.size, 0, none⟩) else f j, rfl, hI.step 14 (by omega) hLi _ mA ⟨V.heap.size, rfl, hI.md.size, CellsAt.new V _ _⟩⟩
    · have l0 := dep_of haft 0 (by cases ho; kernel_rfl)
      have l1 := dep_of haft 1 (by cases ho; kernel_rfl)
      have l2 := dep_of haft 2 (by cases ho; kernel_rfl)
      have l3 := dep_of haft 3 (by cases ho; kernel_rfl)
      have l4 := dep_of haft 4 (by cases ho; kernel_rfl)
      have l5 := dep_of haft 5 (by cases ho; kernel_rfl)
      have l6 := dep_of haft 6 (by cases ho; kernel_rfl)
      have l7 := dep_of haft 7 (by cases ho; kernel_rfl)
      have l8 := dep_of haft 8 (by cases ho; kernel_rfl)
      have l9 := dep_of haft 9 (by cases ho; kernel_rfl)
      have l10 := dep_of haft 10 (by cases ho; kernel_rfl)
      have l11 := dep_of haft 11 (by cases ho; kernel_rfl)
      have l12 := dep_of haft 12 (by cases ho; kernel_rfl)
      have l13 := dep_of haft 13 (by cases ho; kernel_rfl)
      have l14 := dep_of haft 14 (by cases ho; kernel_rfl)
      obtain ⟨C, R, M, D, M1, M2, v13, hC⟩ := hI.p hLi 13 (by omega) l13
      obtain ⟨X, v14, hXB, hX⟩ := hI.p hLi 14 (by omega) l14
      have u0 := hX.cell 0
      have f0 := hX.free 0
      simp at u0
      cases ho
      refine Eq.mpr (if_pos (by rfl)) ?_
      rw [v13, v14]
      go_simp
      rw [← v14, ← v13]
      refine hK'.out _ _ ⟨f, rfl, ⟨hI.md.setCell (p := ⟨X, 0, none⟩) (.inr hXB) _, (fun h => by simp at h), fun _ => ⟨fun i hi => ?_, X, C, R, M, D, M1, M2, v14, hXB, ?_, ?_⟩⟩⟩
      · rw [if_neg (by omega)]
        have : i = 0 ∨ i = 1 ∨ i = 2 ∨ i = 3 ∨ i = 4 ∨ i = 5 ∨ i = 6 ∨ i = 7 ∨ i = 8 ∨ i = 9 ∨ i = 10 ∨ i = 11 ∨ i = 12 ∨ i = 13 ∨ i = 14 := by omega
        rcases this with rfl | rfl | rfl | rfl | rfl | rfl | rfl | rfl | rfl | rfl | rfl | rfl | rfl | rfl | rfl <;> assumption
      · have := hX.set 0 (f 13)
        rw [v13] at this ⊢
        exact this
      · exact hC.put hX _
  case done =>
    rintro L a V hall ⟨f, rfl, hI⟩
    obtain ⟨_, X, C, R, M, D, M1, M2, v14, hXB, hX, hC⟩ := hI.e (hall 15 (by decide))
    have hmd := hI.md
    unfold fr7
    rw [v14]
    have hCG := CooG.of hC
    have cPV := cP.mod hmd nob
    have cPV' := cPV
    unfold parA at cPV'
    have y0 := cPV'.cell 0
    have y1 := cPV'.cell 1
    have y2 := cPV'.cell 2
    have y3 := cPV'.cell 3
    simp at y0 y1 y2 y3
    have hJ3 := hJ2.mod hmd nob
    have hσ3 := hσ1.mod hmd (fun _ h => h.elim)
    have hτ3 := hτ2.mod hmd nob
    have mB3 := mB.trans hmd.nob
    have hVs := hmd.size
    have hft : ∀ k, x.foot b k → k < W2.heap.size := fun k hk => hσ1.foot_lt k hk
    have hwW2 := mB.size
    clear hI hall hmd hC hJ2 hσ1 hτ2 mB cP cJ
    go_wp2_with fail
    change Calls _ _ #[.agg (parA r k bk wk)] _ _
    refine (tasks_any r k bk wk V).mono ?_
    rintro e V1 ⟨rfl, hV1⟩
    have mA := (Mod.refl V Nob).alloc (.cells (parA r k bk wk) 24)
    have cB := CellsAt.new V (parA r k bk wk) 24
    have hzA : (V.alloc (.cells (parA r k bk wk) 24)).heap.size = V.heap.size + 1 := by simp
    rw [← hV1] at mA cB hzA
    obtain ⟨Bs, hBs⟩ : ∃ Bs, V.heap.size = Bs := ⟨_, rfl⟩
    rw [hBs] at cB hzA hVs ⊢
    have hlt := hCG.lt
    rw [hBs] at hlt
    have hCB : C < Bs := hlt.1
    have hL : NewL (Bs + 1) b tb J H X x C R M D M1 M2 := ⟨fun k hk => by have := hσ3.foot_lt k hk; omega, by have := CellsAt.lt hτ3; omega, by have := hJ3.lt; omega, by have := cPV.lt; omega, by have := hX.lt; omega, by omega⟩
    have hI0 : NewI w (Bs + 1) b tb J H X W2.heap.size x job (parA r k bk wk).toList N jc C R M D M1 M2 0 V1 := ⟨cPV.mod mA nob, hσ3.mod mA (fun _ h => h.elim), hτ3.mod mA nob, hJ3.mod mA nob, hX.mod mA nob, ⟨none, 0, [], rfl, hCG.nob mA, World.ownsRow_nil _ _ _ _⟩, mB3.trans mA.nob, by omega⟩
    have hstops := tasks_stops 5 (by omega) Bs r k bk wk N hf hN V1 cB
    have hwB : w.heap.size ≤ Bs + 1 := by have := hI0.md.size; omega
    have hpar : (parA r k bk wk).toList.length = 4 := rfl
    clear cPV cPV' y0 y1 y2 y3 hJ3 hσ3 hτ3 mB3 hX hCG mA hV1 hBs
    go_wp2_with fail
    refine (wpIn_wide (n := 6)).1 ?_
    refine wpIn_rangeFunc_ownG (F := Fence.wide) (n := 6) rfl (by omega) (gf := 55) (lb := #[.pointer (some ⟨Bs, 0, none⟩)]) rfl trivial (enters_of Tryz.func55 (by kernel_rfl) rfl)
      hstops (fun h k => k.trans h) (fun W l o o' h1 h2 h3 _ => by unfold KT; exact World.putObj_heap_other (by omega)) (Below.refl _ _) (fun _ => rfl)
      (fun pre W => NewI w (Bs + 1) b tb J H X W2.heap.size x job (parA r k bk wk).toList N jc C R M D M1 M2 pre.length W) (fun _ _ _ => False) ?own (fun _ _ _ _ _ hs _ _ => hs)
      hI0 (fun y => { tmps := #[.pointer (some ⟨tb, 0, none⟩), .pointer (some ⟨b, 0, none⟩), .agg (arrB job), .agg (parA r k bk wk), .nilFunc, sv, undef, undef, .pointer (some ⟨H, 0, none⟩), .pointer (some ⟨H + 1, 0, none⟩), undef, undef, .pointer none, .int .i64 0, .int .u64 1, .int .i64 0, .pointer (some ⟨J, 0, none⟩), .pointer (some ⟨X, 0, none⟩), .int .i64 y.1.val, undef, undef, undef, undef, undef, .tuple #[.int .u64 1, .int .i64 0], .pointer (some ⟨tb, 0, none⟩), .tuple #[.int .u64 1, .int .i64 0], .int .u64 1, .int .i64 0, .int .i64 0, .bool false, undef, .tuple #[.pointer (some ⟨J, 0, none⟩), .int .i64 0], .pointer (some ⟨b, 0, none⟩), .pointer (some ⟨tb, 0, none⟩), .agg (arrB job), .int .u64 1, .nilFunc, sv, .agg #[.nilFunc, sv], .tuple #[.pointer (some ⟨J, 0, none⟩), .int .i64 0], .pointer (some ⟨J, 0, none⟩), .int .i64 0, .int .i64 0, .bool false, undef, f 0, f 1, f 2, f 3, f 4, f 5, f 6, f 7, f 8, f 9, f 10, f 11, f 12, f 13, .agg (parA r k bk wk), .func (.func 55) #[] #[.pointer (some ⟨Bs, 0, none⟩)], .int .i64 y.1.val, taskA y.2.kd y.2.rd y.2.a y.2.b y.2.u, undef, undef, undef, undef, undef, undef, undef, undef, undef, undef, undef, undef, undef, undef, undef, undef, undef, undef, undef, undef, undef, undef, undef, undef, undef, undef, undef, undef, undef, undef, undef, undef, undef, undef, undef, undef, undef], defers := [] })
      ?assign ?body ?done ?stop
    case own =>
      intro pre W W' row hs hg hr
      rw [hzA] at hr
      exact hs.grown hL hwB hg hr
    case stop =>
      intro D c pre W _ _ h
      exact h.elim
    case assign =>
      intro l y W K hK
      unfold tskE
      dsimp only
      gi_wp2
      exact hK
    case body =>
      rintro l pre ⟨⟨n, hnN⟩, tk⟩ W hI hlen
      dsimp only
      have cPW : CellsAt W (H + 1) #[.int .i64 r, .int .i64 k, .int .i64 bk, .int .i64 wk] 24 := hI.p
      have y0 := cPW.cell 0
      have y1 := cPW.cell 1
      have y2 := cPW.cell 2
      have y3 := cPW.cell 3
      simp at y0 y1 y2 y3
      have hrd := reads_w r k bk wk hf n (by rw [hN]; exact hnN) W
      have hmk := fun ph rd ad W => makes_w r k bk wk hf ph rd ad W
      have HMK := Lib.hid hmk
      have HPF := Box.mk hf
      have HN2 := Box.mk hN
      clear hstops hI0 cB hmk hf hN
      gi_wp2
      refine ⟨trivial, (CallsIn.inRound l ((callsIn_wide (n := 3)).2 hrd)).mono ?_⟩
      rintro e W3 ⟨⟨v, ss, rfl, hown, hl2⟩, m3⟩
      obtain ⟨ra, rc, rfl, hrc, _⟩ := owns_form hown
      have hI3 := hI.still m3
      have kf3 : KeepsFrom V1.heap.size W W3 := keepsFrom_mod m3 (fun k h => h.elim)
      have hB3 : Bs < W.heap.size := by have := hI.sz; omega
      have hWs := m3.size
      have kt3 : KT Bs W W3 := m3.block Bs hB3 nob
      have hln : pre.length < N := hlen
      clear m3 y0 y1 y2 y3 cPW hrd hI
      obtain ⟨ln, hlnn⟩ : ∃ ln, ss.length = ln := ⟨_, rfl⟩
      rw [hlnn] at hown hrc hl2 ⊢
      have HLN := Box.mk hlnn
      clear hlnn
      gi_wp2
      gi_loopw [19, 21, 68] (fun lv _ iv wr => ∃ q : Nat, q ≤ ln ∧ iv = .int .i64 q ∧ Mod W3 wr Nob ∧ ∃ la lc ys, lv = .slice la q lc ∧ wr.ownsRow W3.heap.size 3 1 (.slice la q lc) q ys) (fun _ _ iv _ => ln - (intOf iv).toNat)
      case atStart => exact ⟨0, Nat.zero_le _, rfl, Mod.refl _ _, none, 0, [], rfl, World.ownsRow_nil _ _ _ _⟩
      case round =>
        obtain ⟨q, hq, rfl, hm, la, lc, ys, rfl, hrow⟩ := hrel
        by_cases hlt : q < ln
        · have hqs : q < ss.length := by rw [HLN.out]; exact hlt
          have ho2 := owns_mod hown hm (fun _ _ => nob)
          obtain ⟨s, hs⟩ : ∃ s, ss[q]? = some s := ⟨_, List.getElem?_eq_getElem hqs⟩
          obtain ⟨sx, sy, sz⟩ := s
          have hrg : ∃ g, ra = some ⟨g, 0, none⟩ := by
            rcases ho2.2 with ⟨h1, h2⟩ | ⟨g, c', cur, h1, _⟩
            · cases h1; omega
            · cases h1; exact ⟨g, rfl⟩
          obtain ⟨g, rfl⟩ := hrg
          have e0 : wr.cell? ⟨g, q * 3, none⟩ = some (.int .i64 sx) := (ho2.cellAt (q * 3) (by omega)).trans (flat3 ss q _ hs 0 _ rfl)
          have e1 : wr.cell? ⟨g, q * 3 + 1, none⟩ = some (.int .i64 sy) := (ho2.cellAt (q * 3 + 1) (by omega)).trans (flat3 ss q _ hs 1 _ rfl)
          have e2 : wr.cell? ⟨g, q * 3 + 2, none⟩ = some (.int .i64 sz) := (ho2.cellAt (q * 3 + 2) (by omega)).trans (flat3 ss q _ hs 2 _ rfl)
          have hIr := hI3.still hm
          have cPW : CellsAt wr (H + 1) #[.int .i64 r, .int .i64 k, .int .i64 bk, .int .i64 wk] 24 := hIr.p
          have hg := cell_lt e0
          have y0 := cPW.cell 0
          have y1 := cPW.cell 1
          have y2 := cPW.cell 2
          have y3 := cPW.cell 3
          simp at y0 y1 y2 y3
          have hlt2 : (q : Int) < ln := by omega
          have hqi : (0 : Int) ≤ q := by omega
          have mS := (Mod.refl wr Nob).alloc (.cells #[.int .i64 sx, .int .i64 sy, .int .i64 sz] 88)
          have cPA := cPW.mod mS nob
          have z0 := cPA.cell 0
          have z1 := cPA.cell 1
          have z2 := cPA.cell 2
          have z3 := cPA.cell 3
          simp at z0 z1 z2 z3
          clear ho2 hs hqs hIr y0 y1 y2 y3 cPW cPA
          gi_wp2
          change _ ∧ CallsIn _ _ _ _ #[_, spotA sx sy sz] _ _
          refine ⟨trivial, (CallsIn.inRound l ((callsIn_wide (n := 3)).2 (HMK.out sx sy sz _))).mono ?_⟩
          rintro e W4 ⟨⟨res, rfl⟩, m4⟩
          have mT := mS.trans m4
          have hm4 := hm.trans mT
          have hrow4 := owns_mod hrow mT (fun _ _ => nob)
          clear z0 z1 z2 z3 e0 e1 e2 mS m4 hg
          obtain ⟨j0, hj0, jz0, jz1, jz2⟩ := info_parts info_intc
          have mU := (Mod.refl W4 Nob).alloc (.cells #[.int .i64 res] 3)
          have hrow5 := owns_mod hrow4 mU (fun _ _ => nob)
          have hm5 := hm4.trans mU
          have hz5 := hm5.size
          gi_wp2_with (gi_at_builtin; refine wpListIn_append_lies rfl (.tmp 72) (.tmp 76) 84 rfl W3.heap.size 3 j0 _ 1 8 Tryz.underlying84 hj0 jz0 jz1 jz2 rfl (by omega) (.slice la q lc) q ys rfl hrow5 ⟨W4.heap.size, 0, none⟩ 1 1 [.int .i64 res] rfl rfl (World.news_of_block (cs := #[.int .i64 res]) (CellsAt.new W4 #[.int .i64 res] 3)) (by intro u hu; simp at hu; subst hu; rfl) (by omega) (by unfold maxLen; omega) (by omega) hz5 _ rfl (fun g2 cap2 W6 hown6 hgr hb6 hl6 => ?_))
          trace "here"
          have hm6 : Mod W3 W6 Nob := hm5.grown hgr (fun k hk => .inr (hrow5.lt k hk).1)
          go_roundw
          case rel => exact ⟨q + 1, by omega, by go_num, hm6, _, _, _, rfl, hown6⟩
          case measure => simp [intOf]; omega
        · obtain rfl : q = ln := by omega
          gi_wp2
          have mD := (Mod.refl wr Nob).drew
          have hI4 := (hI3.still hm).still mD
          have kf4 := (kf3.trans (keepsFrom_mod hm (fun k h => h.elim))).trans (keepsFrom_mod mD (fun k h => h.elim))
          have hm3D := hm.trans mD
          have kt4 : KT Bs W wr.drew := (hm3D.block Bs (by omega) nob).trans kt3
          have hlr := owns_form hrow
          refine wpIn_region_round (by kernel_rfl) (by rfl) (fun _ _ h => h) ?_
          obtain ⟨na, nc, xs, hxl, hCG, hnr⟩ := hI4.coo
          obtain ⟨PL, hPL⟩ : ∃ PL, pre.length = PL := ⟨_, rfl⟩
          rw [hPL] at hI4 hCG hnr hxl hln
          have hc39 : wr.drew.cell? ⟨C, 39, none⟩ = some (.slice na PL nc) := by
            have hp4 : (parA r k bk wk).toList.length = 4 := rfl
            rw [hCG.c.cell 39]
            simp only [List.getElem?_toArray, cooL]
            rw [List.getElem?_append_right (by simp), List.getElem?_append_right (by simp [hj]), List.getElem?_append_right (by simp [hj, hp4])]
            simp [hj, hp4]
          refine wpAny_of_U (S := fun V => CellsAt V X #[.pointer (some ⟨C, 0, none⟩)] 25 ∧ V.cell? ⟨C, 39, none⟩ = some (.slice na PL nc)) (k := 10) _ _ _ _ ?_
          change wpAnyU _ _ _ _ _ _ _ _ _ wr.drew
          have hS0 := And.intro hI4.x hc39
          obtain ⟨V0, hV0⟩ : ∃ V, wr.drew = V := ⟨_, rfl⟩
          rw [hV0] at hI4 hCG hnr hc39 hS0 kf4 kt4 ⊢
          clear hV0 mD hm hm3D hrow kf3 kt3 hI3
          refine wpAnyU_take (i := 0) (v := .pointer (some ⟨C, 0, none⟩)) rfl (by kernel_rfl) (by kernel_rfl) (by kernel_rfl) (by kernel_rfl) (by kernel_rfl) (fun _ _ _ h => h) (Or.inl ⟨by rfl, fun W hS => by have y := hS.1.cell 0; simp at y; go_simp⟩) hS0 ?_
          try simp only [Act.put, List.getElem_toArray, List.getElem_cons_zero, List.getElem_cons_succ, List.setIfInBounds_toArray, List.set_cons_zero, List.set_cons_succ]
          refine wpAnyU_take (i := 1) (v := .pointer (some ⟨C, 0, none⟩)) rfl (by kernel_rfl) (by kernel_rfl) (by kernel_rfl) (by kernel_rfl) (by kernel_rfl) (fun _ _ _ h => h) (Or.inl ⟨by rfl, fun W hS => by have y := hS.1.cell 0; simp at y; go_simp⟩) hS0 ?_
          try simp only [Act.put, List.getElem_toArray, List.getElem_cons_zero, List.getElem_cons_succ, List.setIfInBounds_toArray, List.set_cons_zero, List.set_cons_succ]
          refine wpAnyU_takeP (i := 2) (v := .pointer (some ⟨C, 0, none⟩)) rfl (by kernel_rfl) (by kernel_rfl) (by kernel_rfl) (by decide) (fun _ _ _ h => h) (Or.inl ⟨by rfl, fun W => by go_simp⟩) (fun _ => hS0) ?_
          try simp only [Act.put, List.getElem_toArray, List.getElem_cons_zero, List.getElem_cons_succ, List.setIfInBounds_toArray, List.set_cons_zero, List.set_cons_succ]
          refine wpAnyU_takeP (i := 3) (v := .pointer (some ⟨C, 39, none⟩)) rfl (by kernel_rfl) (by kernel_rfl) (by kernel_rfl) (by decide) (fun _ _ _ h => h) (Or.inl ⟨by rfl, fun W => by go_simp⟩) (fun _ => hS0) ?_
          try simp only [Act.put, List.getElem_toArray, List.getElem_cons_zero, List.getElem_cons_succ, List.setIfInBounds_toArray, List.set_cons_zero, List.set_cons_succ]
          refine wpAnyU_take (i := 4) (v := .slice na PL nc) rfl (by kernel_rfl) (by kernel_rfl) (by kernel_rfl) (by kernel_rfl) (by kernel_rfl) (fun _ _ _ h => h) (Or.inl ⟨by rfl, fun W hS => by have y := hS.2; go_simp⟩) hS0 ?_
          try simp only [Act.put, List.getElem_toArray, List.getElem_cons_zero, List.getElem_cons_succ, List.setIfInBounds_toArray, List.set_cons_zero, List.set_cons_succ]
          refine wpAnyU_takeP (i := 5) (v := .slice la q lc) rfl (by kernel_rfl) (by kernel_rfl) (by kernel_rfl) (by decide) (fun _ _ _ h => h) (Or.inl ⟨by rfl, fun W => by go_simp⟩) (fun _ => hS0) ?_
          try simp only [Act.put, List.getElem_toArray, List.getElem_cons_zero, List.getElem_cons_succ, List.setIfInBounds_toArray, List.set_cons_zero, List.set_cons_succ]
          have hz0 := hI4.sz
          have mA := (Mod.refl V0 Nob).alloc (.cells #[.slice la q lc] 84)
          have hI5 := hI4.still mA
          have hnr5 := owns_mod hnr mA (fun _ _ => nob)
          have hCG5 := hCG.nob mA
          have hc5 : (V0.alloc (.cells #[.slice la q lc] 84)).cell? ⟨C, 39, none⟩ = some (.slice na PL nc) := (mA.cell (cell_lt hc39) nob).trans hc39
          have hS5 := And.intro hI5.x hc5
          obtain ⟨j0, hj0, jz0, jz1, jz2⟩ := info_parts info_rowc
          refine wpAnyU_one 6 _ (by kernel_rfl) rfl (fun K hK => ?_)
          go_wp2_with fail
          rename_i hx1
          clear hx1
          refine hK.out _ _ (fun _ => hS5) ?_
          clear hK K
          try simp only [Act.put, List.getElem_toArray, List.getElem_cons_zero, List.getElem_cons_succ, List.setIfInBounds_toArray, List.set_cons_zero, List.set_cons_succ]
          obtain ⟨g2, cap2, V2, hrun, hown2, hgr, hb2, hl2'⟩ := run_append_lies (P := Tryz.prog) (V0.alloc (.cells #[.slice la q lc] 84)) 77 77 (Bs + 1) 84 j0 _ 1 24 Tryz.underlying77 hj0 jz0 jz1 jz2 rfl (by omega) (.slice na PL nc) PL xs hnr5 ⟨V0.heap.size, 0, none⟩ 1 1 [.slice la q lc] rfl
            (World.news_of_block (cs := #[.slice la q lc]) (CellsAt.new V0 #[.slice la q lc] 84)) (by intro u hu; simp at hu; subst hu; rfl) (by omega) (by unfold maxLen; omega) (by omega) (Nat.le_trans hz0 mA.size) _ rfl
          have hmG : Mod (V0.alloc (.cells #[.slice la q lc] 84)) V2 (fun k => inBlock (.slice na PL nc) k) := (Mod.refl _ _).grown hgr (fun k hk => .inl hk)
          have hlo : ∀ k, inBlock (.slice na PL nc) k → Bs + 1 ≤ k := fun k hk => (hnr.lt k hk).1
          have hcs := hL.cs
          have hCG6 := hCG5.mod hmG (fun k hk => by have := hlo k hk; refine ⟨?_, ?_, ?_, ?_, ?_, ?_⟩ <;> omega)
          have hX6 := hI5.x.mod hmG (fun h => by have := hlo _ h; have := hL.X; omega)
          have hc6 : V2.cell? ⟨C, 39, none⟩ = some (.slice na PL nc) := (hmG.cell (cell_lt hc5) (fun h => by have := hlo _ h; omega)).trans hc5
          have hS6 := And.intro hX6 hc6
          refine wpAnyU_one 7 _ (by kernel_rfl) rfl (fun K hK => ?_)
          refine Eq.mpr (if_pos (by rfl)) ?_
          refine wp_append_run (.tmp 83) (.tmp 85) 77 77 rfl _ _ rfl rfl _ _ hrun ?_
          refine hK.out _ _ (fun _ => hS6) ?_
          clear hK K
          try simp only [Act.put, List.getElem_toArray, List.getElem_cons_zero, List.getElem_cons_succ, List.setIfInBounds_toArray, List.set_cons_zero, List.set_cons_succ]
          refine wpAnyU_takeP (i := 8) (v := .pointer (some ⟨C, 0, none⟩)) rfl (by kernel_rfl) (by kernel_rfl) (by kernel_rfl) (by decide) (fun _ _ _ h => h) (Or.inl ⟨by rfl, fun W => by go_simp⟩) (fun _ => hS6) ?_
          try simp only [Act.put, List.getElem_toArray, List.getElem_cons_zero, List.getElem_cons_succ, List.setIfInBounds_toArray, List.set_cons_zero, List.set_cons_succ]
          refine wpAnyU_takeP (i := 9) (v := .pointer (some ⟨C, 39, none⟩)) rfl (by kernel_rfl) (by kernel_rfl) (by kernel_rfl) (by decide) (fun _ _ _ h => h) (Or.inl ⟨by rfl, fun W => by go_simp⟩) (fun _ => hS6) ?_
          try simp only [Act.put, List.getElem_toArray, List.getElem_cons_zero, List.getElem_cons_succ, List.setIfInBounds_toArray, List.set_cons_zero, List.set_cons_succ]
          refine wpAnyU_last (by kernel_rfl) (by simp) ?_
          have f39 := hCG6.c.free 39
          refine wpAny_one 10 _ (by kernel_rfl) rfl (fun K hK => ?_)
          go_wp2_with fail
          rename_i hx1
          clear hx1
          refine hK.out _ _ ?_
          clear hK K
          try simp only [Act.put, List.getElem_toArray, List.getElem_cons_zero, List.getElem_cons_succ, List.setIfInBounds_toArray, List.set_cons_zero, List.set_cons_succ]
          refine wpAny_done (by kernel_rfl) ?_ _
          try simp only [Act.put, List.getElem_toArray, List.getElem_cons_zero, List.getElem_cons_succ]
          have hn39 := hCG6.needs hj hpar (.slice (some ⟨g2, 0, none⟩) (PL + 1) cap2)
          have mS : Mod V2 (V2.setCell ⟨C, 39, none⟩ (.slice (some ⟨g2, 0, none⟩) (PL + 1) cap2)) (· = C) := (Mod.refl V2 (· = C)).setCell (p := ⟨C, 39, none⟩) (.inl rfl) _
          have hlH := hL.H
          have hlT := hL.tb
          have hlJ := hL.J
          have hlX := hL.X
          have hCw : w.heap.size ≤ C := Nat.le_trans hwW2 hCG6.lc
          have hgC : ∀ k, inBlock (.slice (some ⟨g2, 0, none⟩) (PL + 1) cap2) k → k ≠ C := fun k hk => by have := (hown2.lt k hk).1; omega
          have hfin : NewI w (Bs + 1) b tb J H X W2.heap.size x job (parA r k bk wk).toList N jc C R M D M1 M2 (PL + 1) (V2.setCell ⟨C, 39, none⟩ (.slice (some ⟨g2, 0, none⟩) (PL + 1) cap2)) :=
            ⟨(hI5.p.mod hmG (fun h => by have := hlo _ h; omega)).mod mS (cells_ne (hI5.p.mod hmG (fun h => by have := hlo _ h; omega)) hCG6.c (by decide)),
             (hI5.σ.mod hmG (fun k hk hf => by have := hlo _ hk; have := hL.foot k hf; omega)).mod mS (fun k (hk : k = C) hf => by have := hft k hf; have := hCG6.lc; omega),
             (hI5.τ.mod hmG (fun h => by have := hlo _ h; omega)).mod mS (cells_ne (hI5.τ.mod hmG (fun h => by have := hlo _ h; omega)) hCG6.c (by decide)),
             (hI5.j.mod hmG (fun h => by have := hlo _ h; omega)).mod mS (cells_ne (hI5.j.mod hmG (fun h => by have := hlo _ h; omega)) hCG6.c (by decide)),
             hX6.mod mS (cells_ne hX6 hCG6.c (by decide)),
             ⟨_, _, xs ++ [.slice la q lc], by simp [hxl], hn39, owns_mod hown2 mS (fun k hk h => hgC k hk h)⟩,
             (hI5.md.drop hmG (fun k hk => .inr (by have := hlo _ hk; omega))).drop mS (fun k (hk : k = C) => .inr (by omega)),
             by have := mS.size; have := hmG.size; have := hI5.sz; omega⟩
          have kfF : KeepsFrom V1.heap.size W (V2.setCell ⟨C, 39, none⟩ (.slice (some ⟨g2, 0, none⟩) (PL + 1) cap2)) :=
            ((kf4.trans (keepsFrom_mod mA (fun k h => h.elim))).trans (keepsFrom_grown hgr (fun j hj => .inr (owns_cells hnr5 j hj)))).trans (keepsFrom_mod mS (fun k (hk : k = C) => by omega))
          have ktF : KT Bs W (V2.setCell ⟨C, 39, none⟩ (.slice (some ⟨g2, 0, none⟩) (PL + 1) cap2)) := by
            have b0 : Bs < V0.heap.size := by omega
            have b1 := mA.block Bs b0 nob
            have b2 := hmG.block Bs (by have := mA.size; omega) (fun h => by have := hlo _ h; omega)
            have b3 := mS.block Bs (by have := mA.size; have := hmG.size; omega) (show ¬ Bs = C by have := hCB; omega)
            exact b3.trans (b2.trans (b1.trans kt4))
          clear hn39 hCG6 hCG5 hCG hI4 hI5 hX6 hS6 hS5 hS0 hc6 hc5 hc39
          gi_wp2
          refine ⟨kfF, ktF, ?_⟩
          dsimp only
          rw [List.length_append, List.length_singleton, hPL]
          exact hfin
    case done =>
      rintro D0 ys W hD hys hI hK
      rw [show ys.length = N by have := congrArg List.length hys; simpa using this] at hI
      have hj35 : W.cell? ⟨J, 35, none⟩ = some (.slice none 0 0) := by
        rw [hI.j.cell 35, ← HJC.out]
        simp only [List.getElem?_toArray, jcells]
        rw [List.getElem?_append_right (by simp), List.getElem?_append_right (by simp [hkl])]
        simp [hkl]
      have hen := entries_any J 0 none 0 0 [] W hj35 (World.ownsRow_nil _ _ _ _) (by omega)
      clear hstops hys
      go_wp2_with fail
      refine hen.mono ?_
      rintro e W5 ⟨ea, ec, rfl, _, m5⟩
      have hI5 := hI.still m5
      have hK5 := m5.keep hK nob
      have kx := hI5.x.cell 0
      simp at kx
      clear hen hj35 hI hK m5
      go_wp2_with fail
      refine wp_loop_once ?_
      go_wp2_with fail
      have DS := hK5
      have mD : Mod W5 (W5.putObj D0 (.deferred none)) (· = D0) := (Mod.refl _ (· = D0)).putObj (.inl rfl) _
      obtain ⟨na, nc, xs, hxl, hCG, hnr⟩ := hI5.coo
      have hD1 : Bs + 1 ≤ D0 := by rw [← hzA]; exact hD
      have hcs := hL.cs
      have hCG2 := hCG.mod mD (fun k (hk : k = D0) => by refine ⟨?_, ?_, ?_, ?_, ?_, ?_⟩ <;> omega)
      have hfin := hI5.md.drop mD (fun k (hk : k = D0) => .inr (by omega))
      have hjF := hI5.j.mod mD (by have := hL.J; omega)
      have hσF := hI5.σ.mod mD (fun k (hk : k = D0) hf => by have := hL.foot k hf; omega)
      have hτF := hI5.τ.mod mD (show ¬ tb = D0 by have := hL.tb; omega)
      refine ⟨by simp, .inl ⟨_, _, rfl, run_takeDeferred DS, ?_⟩⟩
      refine ⟨.tuple #[.pointer (some ⟨C, 0, none⟩), .int .i64 0], by simp [results, Tryz.f6, go_sem], C, J, R, M, D, M1, M2, na, nc, rfl, ?_, ?_, hσF, hτF, hfin⟩
      · rw [hN]
        exact ⟨hCG2.c, hCG2.r, hCG2.m, hCG2.d, hCG2.m1, hCG2.m2, Nat.le_trans hwW2 hCG2.lc⟩
      · rw [HJC.out]
        exact hjF
end Go.Proofs.YtakgnkjopbflbaaGreatDoor
