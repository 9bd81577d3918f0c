/- The law SpecSums. No condition. -/
import Derived.Test.YtlnjfcnhgndocaaVz
import Derived.Test.YtlnjfcnhgndocaaBo
namespace Go.Proofs.Ytlnjfcnhgndocaa
open Go.RowKit Go.Shelf

theorem wrap_eq64 (x : Int) : IntKind.i64.wrap x = wrap64 x := by
  unfold IntKind.wrap wrap64
  simp [IntKind.signed, IntKind.bits]
  split <;> omega

/-- The keys rise, strictly. -/
theorem sortW_rises {l : List W64} (h : l.Nodup) (q : Nat) (kp kq : W64) (h1 : (sortW l)[q]? = some kp) (h2 : (sortW l)[q + 1]? = some kq) : kp.toInt < kq.toInt := by
  have hs : (sortW l).Pairwise (fun a b => decide (a.toInt ≤ b.toInt) = true) := List.pairwise_mergeSort (fun a b c => by simp; omega) (fun a b => by simp; omega) l
  have hn : (sortW l).Nodup := (List.mergeSort_perm l _).nodup_iff.2 h
  obtain ⟨i1, e1⟩ := List.getElem?_eq_some_iff.1 h1
  obtain ⟨i2, e2⟩ := List.getElem?_eq_some_iff.1 h2
  have a1 := List.pairwise_iff_getElem.1 hs q (q + 1) i1 i2 (by omega)
  have a2 := List.pairwise_iff_getElem.1 hn q (q + 1) i1 i2 (by omega)
  rw [e1, e2] at a1 a2
  simp at a1
  have : kp.toInt ≠ kq.toInt := fun e => a2 (BitVec.eq_of_toInt_eq e)
  omega

theorem mem_sortW {l : List W64} {q : Nat} {k : W64} (h : (sortW l)[q]? = some k) : k ∈ l := List.mem_mergeSort.1 (List.mem_of_getElem? h)

theorem pairs_snoc (K : Nat) (ms fs : List Op1) (ps : List (W64 × W64)) (q : Nat) (h : q < ps.length) : Tal.pairs K ms fs ((numbered ps).take (q + 1)) = (Tal.pairs K ms fs ((numbered ps).take q)).pair K ms fs (BitVec.ofNat 64 q, ps[q]) := by
  rw [numbered_take ps q h]
  unfold Tal.pairs
  rw [List.foldl_append]
  rfl

set_option maxRecDepth 100000 in
set_option maxHeartbeats 2000000 in
theorem sums_law (k0 : Int) (a : Option Addr) (len cap : Nat) (w : World) (_ : (Lit.int .i64 k0).wf = true) (hr : Rowed w [.int .i64, .int .i64] a len cap) : Calls Try.prog 3 #[.int .i64 k0, .slice a len cap] w (Tells w (.bool true)) := by
  obtain ⟨ps, hl, hps⟩ := pairs_of_rowed hr
  have hlc := hr.1
  have hcm := hr.2.1
  clear hr
  have hA (W : World) := awake_spec W
  have hu : 0 ≤ IntKind.u64.wrap k0 ∧ IntKind.u64.wrap k0 < 18446744073709551616 := by rw [IntKind.wrap_u64]; omega
  by_cases h0 : len = 0
  · subst h0
    go_enter Try.func3, Try.ntmps3
    go_wp2_with (go_at_call 8; refine (hA _).mono ?_; rintro e w' ⟨rfl, m1⟩)
    go_ret
    exact ⟨rfl, m1⟩
  by_cases h10 : 10 < len
  · go_enter Try.func3, Try.ntmps3
    go_wp2_with (go_at_call 8; refine (hA _).mono ?_; rintro e w' ⟨rfl, m1⟩)
    go_ret
    exact ⟨rfl, m1⟩
  have hlen1 : 1 ≤ len := by omega
  have hlen10 : len ≤ 10 := by omega
  have HL := Lib.hid hl
  clear hl
  have e0 : ((len : Int) == 0) = false := by simp; omega
  have e10 : decide (10 < (len : Int)) = false := by simp; omega
  go_enter Try.func3, Try.ntmps3
  go_wp2_with fail
  obtain ⟨K, hK⟩ : ∃ K : Nat, 1 + IntKind.u64.wrap k0 % 3 = (K : Int) := ⟨(1 + IntKind.u64.wrap k0 % 3).toNat, by omega⟩
  rw [hK]
  have hK1 : 1 ≤ K := by omega
  have hK3 : K ≤ 3 := by omega
  clear hK hu
  refine (sums_any K hK1 (by omega) w).mono ?_
  rintro e w1 ⟨a1, c1, a2, c2, rfl, hP, m1⟩
  have hps1 := (hps.below (m1.below (Nat.le_refl _) (fun _ h => h.elim)))
  go_wp2_with fail
  have hR := run_job hP (Nat.le_refl _) 1 1 a cap ps (by rw [HL.out]; exact hps1.mono m1.size) (by
    have h := HL.out
    have hKc : K = 1 ∨ K = 2 ∨ K = 3 := by omega
    unfold fit
    rcases hKc with rfl | rfl | rfl <;> omega)
  rw [HL.out] at hR
  refine hR.mono ?_
  obtain ⟨T, hT⟩ : ∃ T, Tal.pairs K (sumOps K) [addOp] (numbered ps) = T := ⟨_, rfl⟩
  have hTo := Tal.pairs_ok K (sumOps K) [addOp] (numbered ps)
  rw [hT] at hTo ⊢
  have HT := Lib.hid hT
  rintro e w2 ⟨ov, rfl, ow, fw, m2⟩
  obtain ⟨oa, oc, rfl, _, _⟩ := owns_form ow
  replace m2 := m1.trans m2
  obtain ⟨N, hN⟩ : ∃ N, (T.told []).length = N := ⟨_, rfl⟩
  have hNs : (sortW T.keys).length = N := by rw [← hN, told_length, sortW_length]
  have hNk : T.keys.length = N := by rw [← hN, told_length]
  have hN30 : N ≤ 30 := by
    have h1 := Tal.pairs_length K (sumOps K) [addOp] (numbered ps)
    rw [hT, numbered_length, HL.out] at h1
    have h2 : len * K ≤ 10 * 3 := Nat.mul_le_mul hlen10 hK3
    omega
  have HNs := Lib.hid hNs
  have HNk := Lib.hid hNk
  rw [hN] at ow ⊢
  clear hR hNs hNk hN hT
  go_wp2_with fail
  refine (hA w2).mono ?_
  rintro e w3 ⟨rfl, m3⟩
  have ow3 := owns_mod ow m3 (fun _ _ => nob)
  replace m3 := m2.trans m3
  clear hA m2 ow
  have hmm := @run_makeMap Try.prog
  go_wp2_with fail
  clear hmm
  have cM := MapAt.new encI w3
  have m4 := m3.alloc (.map #[] 0)
  have ow4 := owns_mod ow3 ((Mod.refl w3 Nob).alloc (.map #[] 0)) (fun _ _ => nob)
  obtain ⟨M, hM⟩ : ∃ M, w3.heap.size = M := ⟨_, rfl⟩
  obtain ⟨W4, hW4⟩ : ∃ W4, w3.alloc (.map #[] 0) = W4 := ⟨_, rfl⟩
  have lM : w.heap.size ≤ M := by rw [← hM]; exact m3.size
  rw [hW4, hM] at cM
  rw [hW4] at m4 ow4
  rw [hW4, hM]
  clear hW4 hM ow3
  have zeroE : ∀ W, (zeroValue 2).run Try.prog W = .ok (.int .i64 0) W := fun W => by kernel_rfl
  go_loopw [8] (fun i wr => ∃ q : Nat, q ≤ len ∧ i = .int .i64 q ∧ MapAt encI wr M (fun k => ((Tal.pairs K (sumOps K) [addOp] ((numbered ps).take q)).f k).map I) ∧ Mod W4 wr (· = M)) (fun i _ => len - (intOf i).toNat)
  case atStart => exact ⟨0, Nat.zero_le _, rfl, cM, Mod.refl _ _⟩
  case round =>
    obtain ⟨q, hq, rfl, hmp, hmr⟩ := hrel
    by_cases hlt : q < len
    · have hqp : q < ps.length := by rw [HL.out]; exact hlt
      obtain ⟨b, off, rfl, hb, hcs⟩ : ∃ b off, a = some ⟨b, off, none⟩ ∧ b < w.heap.size ∧ ∀ (j : Nat) (p : W64 × W64), ps[j]? = some p → w.cell? ⟨b, off + j * 2, none⟩ = some (I p.1) ∧ w.cell? ⟨b, off + j * 2 + 1, none⟩ = some (I p.2) := by
        rcases hps with ⟨a', cap', e, h0⟩ | ⟨b, off, cap', e, hb, hc⟩
        · rw [h0] at hqp; cases hqp
        · injection e with e1
          exact ⟨b, off, e1, hb, hc⟩
      have hsn := pairs_snoc K (sumOps K) [addOp] ps q hqp
      obtain ⟨⟨key, v⟩, hpq⟩ : ∃ p, ps[q] = p := ⟨_, rfl⟩
      obtain ⟨z0, z1⟩ := hcs q (key, v) (by rw [List.getElem?_eq_getElem hqp, hpq])
      obtain ⟨t', ht'⟩ : ∃ t', Tal.pairs K (sumOps K) [addOp] ((numbered ps).take q) = t' := ⟨_, rfl⟩
      rw [hpq, ht'] at hsn
      rw [ht'] at hmp
      have hf := pair_sums K hK1 hK3 t' (BitVec.ofNat 64 q) key v
      rw [← hsn] at hf
      have HF := Lib.hid hf
      have hmw : Mod w wr.drew Nob := (m4.drop hmr (fun k (hk : k = M) => .inr (by omega))).drew
      have c0 : wr.drew.cell? ⟨b, off + q * 2, none⟩ = some (I key) := (hmw.cell hb nob).trans z0
      have c1' : wr.drew.cell? ⟨b, off + q * 2 + 1, none⟩ = some (I v) := (hmw.cell hb nob).trans z1
      obtain ⟨old, hold⟩ : ∃ old, (t'.f key).getD 0 = old := ⟨_, rfl⟩
      have hmd := hmp.mod ((Mod.refl wr Nob).drew) nob
      have hlk : (Instr.lookup 34 (.map (some M)) (I key) false).run Try.prog wr.drew = .ok (I old) wr.drew := by
        have := run_lookup_at Try.underlying34 (keyOk_i64 Try.underlying2) zeroE hmd key false
        rw [← hold]
        cases h : t'.f key with
        | none => simpa [h, encI, I] using this
        | some x => simpa [h, encI, I] using this
      obtain ⟨mm, hmm⟩ : ∃ mm, BitVec.ofNat 64 K * v = mm := ⟨_, rfl⟩
      obtain ⟨nn, hnn⟩ : ∃ nn, old + mm = nn := ⟨_, rfl⟩
      have e1 : wrap64 ((K : Int) * v.toInt) = mm.toInt := by rw [← hmm, ← mul_i, toInt_small K (by omega)]
      have e2 : wrap64 (old.toInt + mm.toInt) = nn.toInt := by rw [← hnn, ← add_i]
      have e3 := (wrap_eq64 ((K : Int) * v.toInt)).trans e1
      have e4 := (wrap_eq64 (old.toInt + mm.toInt)).trans e2
      rw [hold, hmm, hnn] at HF
      clear hf hsn ht' hpq hold hmm hnn z0 z1 hcs hps hps1
      go_wp2_with fail
      refine wp_region_still_tail 21 (by kernel_rfl) (by kernel_rfl) ?_
      simp only [List.take_succ_cons, List.take_zero, List.drop_succ_cons, List.drop_zero]
      repeat still_step
      refine wpStill_nil ?_
      change wpList _ _ _ _ _ wr.drew
      clear e1 e2 e3 e4 hlk c0 c1'
      go_wp2_with (refine wpList_mapUpdate_at rfl (.tmp 50) (.tmp 55) (.tmp 70) 34 rfl 2 2 Try.underlying34 (keyOk_i64 Try.underlying2) rfl hmd key rfl (I nn) rfl ?_)
      intro w5 mp5 hgr5
      have hm5 := (Mod.nob (T := (· = M)) ((Mod.refl wr Nob).drew)).grown hgr5 (fun k e => by cases e; exact .inl rfl)
      have mp6 : MapAt encI w5 M (fun k => ((Tal.pairs K (sumOps K) [addOp] ((numbered ps).take (q + 1))).f k).map I) := by
        have e : (fun k => ((Tal.pairs K (sumOps K) [addOp] ((numbered ps).take (q + 1))).f k).map I) = upd (fun k => (t'.f k).map I) key (some (I nn)) := by
          funext k
          rw [HF.out]
          simp only [upd]
          split <;> rfl
        rw [e]; exact mp5
      clear mp5
      go_wp2_with fail
      exact ⟨⟨q + 1, by omega, by go_num, mp6, hmr.trans hm5⟩, by simp [intOf]; omega⟩
    · obtain rfl : q = len := by omega
      have hall : (numbered ps).take q = numbered ps := List.take_of_length_le (by rw [numbered_length, HL.out]; exact Nat.le_refl _)
      rw [hall, HT.out] at hmp
      have ow5 := owns_mod ow4 hmr (fun k hk (e : k = M) => by
        obtain ⟨o', h1, h2⟩ := owns_cells ow4 k hk
        obtain ⟨es, clock, h3, _⟩ := cM
        rw [e, h3] at h1; cases h1; cases h2)
      have m5 := m4.drop hmr (fun k (hk : k = M) => .inr (by omega))
      clear hall ow4 cM m4 hmr
      go_wp2_with fail
      go_loopw [9] (fun i wr2 => ∃ p : Nat, p ≤ N ∧ i = .int .i64 p ∧ Mod wr wr2 Nob) (fun i _ => N - (intOf i).toNat)
      case atStart => exact ⟨0, Nat.zero_le _, rfl, Mod.refl _ _⟩
      case round =>
        obtain ⟨p, hp, rfl, hmr⟩ := hrel
        have hmpr := hmp.mod hmr nob
        have owr := owns_mod ow5 hmr (fun _ _ => nob)
        by_cases hpn : p < N
        · obtain ⟨g, rfl⟩ : ∃ g, oa = some ⟨g, 0, none⟩ := by
            rcases owr.2 with ⟨_, h0⟩ | ⟨g, cap', cur, h0, _⟩
            · omega
            · cases h0; exact ⟨g, rfl⟩
          obtain ⟨kq, hkq⟩ : ∃ kq, (sortW T.keys)[p]? = some kq := ⟨_, List.getElem?_eq_getElem (by rw [HNs.out]; exact hpn)⟩
          obtain ⟨vq, hvq⟩ := Option.isSome_iff_exists.1 ((hTo.mem kq).1 (mem_sortW hkq))
          obtain ⟨ca0, ca1⟩ := flatP_cell _ _ _ (told_get [] T p kq hkq)
          simp only [hvq, ran_nil, Option.getD_some] at ca0 ca1
          have za0 := owns_cell owr _ _ ca0
          have za1 := owns_cell owr _ _ ca1
          have HV := Lib.hid hvq
          by_cases hp0 : p = 0
          · have d0 : decide (0 < (p : Int)) = false := by simp; omega
            have dn : decide (0 < p) = false := by simp; omega
            have H0 := Lib.hid hp0
            clear hvq ca0 ca1 hkq hp0
            go_wp2_with (refine wpList_lookup_some rfl (.tmp 78) (.tmp 83) 34 rfl 2 2 (.int .i64 0) Try.underlying34 (keyOk_i64 Try.underlying2) zeroE rfl hmpr kq rfl (I vq) (by rw [HV.out]; rfl) ?_)
            go_quiet (fail)
            go_wp2_with fail
            exact ⟨⟨p + 1, by omega, by go_num, hmr.drewN nq⟩, by simp [intOf]; omega⟩
          · obtain ⟨p', hpp⟩ : ∃ p', p = p' + 1 := ⟨p - 1, by omega⟩
            obtain ⟨kp, hkp⟩ : ∃ kp, (sortW T.keys)[p']? = some kp := ⟨_, List.getElem?_eq_getElem (by rw [HNs.out]; omega)⟩
            have hrise := sortW_rises hTo.nodup p' kp kq hkp (by rw [← hpp]; exact hkq)
            obtain ⟨cp0, _⟩ := flatP_cell _ _ _ (told_get [] T p' kp hkp)
            have zp0 := owns_cell owr _ _ cp0
            dsimp only at zp0
            have d0 : decide (0 < (p : Int)) = true := by simp; omega
            have dn : decide (0 < p) = true := by simp; omega
            have d1 : decide (kq.toInt ≤ kp.toInt) = false := by simp; omega
            have s1 : IntKind.i64.wrap ((p : Int) - 1) = (p' : Int) := by rw [wrap_eq64]; unfold wrap64; omega
            have hpN : p' < N := by omega
            clear hvq ca0 ca1 hkq hkp cp0 hrise hp0 hpp
            go_wp2_with (refine wpList_lookup_some rfl (.tmp 78) (.tmp 83) 34 rfl 2 2 (.int .i64 0) Try.underlying34 (keyOk_i64 Try.underlying2) zeroE rfl hmpr kq rfl (I vq) (by rw [HV.out]; rfl) ?_)
            go_quiet (fail)
            go_wp2_with fail
            exact ⟨⟨p + 1, by omega, by go_num, hmr.drewN nq⟩, by simp [intOf]; omega⟩
        · obtain rfl : p = N := by omega
          have hln : ∀ ty, (Builtin.len_ #[34] ty #[.map (some M)]).run Try.prog wr = .ok (.int .i64 p) wr := fun ty => by
            rw [run_len_at Try.underlying34 hmpr T.keys hTo.nodup (fun k => by rw [hTo.mem]; simp), HNk.out]
          go_wp2_with fail
          go_ret
          refine ⟨?_, m5.trans hmr⟩
          simp

end Go.Proofs.Ytlnjfcnhgndocaa
