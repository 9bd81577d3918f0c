/- The law SpecFilter. No condition. -/
import Derived.Test.YtlnjfcnhgndocaaEa
namespace Go.Proofs.Ytlnjfcnhgndocaa
open Go.RowKit Go.Shelf

def filOps (ab : W64) : List Op1 := [setOp 4 ab, ⟨8, 5, 4, 1, 0, 0⟩, setOp 6 1, ⟨12, 0, 0, 6, 5, 0⟩]

theorem mapped_fil (ab num key v : W64) : ∃ s0, mapped 1 (filOps ab) num key v = [Rec1.made (if ab.slt v then 1 else 0) key 1 s0] := ⟨_, rfl⟩

/-- Of each pair: one more, if it is above. -/
theorem pair_fil (ab : W64) (t : Tal) (num key v : W64) : (t.pair 1 (filOps ab) [addOp] (num, key, v)).f = if ab.toInt < v.toInt then upd t.f key (some ((t.f key).getD 0 + 1)) else t.f := by
  obtain ⟨s0, e⟩ := mapped_fil ab num key v
  unfold Tal.pair Tal.takes
  simp only [e, List.foldl_cons, List.foldl_nil]
  by_cases h : ab.toInt < v.toInt
  · have h1 : ab.slt v = true := by simp [BitVec.slt, h]
    have h2 : Rec1.made (if ab.slt v then 1 else 0) key 1 s0 = ⟨false, key, 1, s0⟩ := by simp [h1, Rec1.made]
    rw [h2, if_pos h, take_add]
  · have h1 : ab.slt v = false := by simp [BitVec.slt, h]
    have h2 : Rec1.made (if ab.slt v then 1 else 0) key 1 s0 = ⟨true, 0, 0, 0⟩ := by simp [h1, Rec1.made]
    rw [h2, if_neg h]
    simp [Tal.take]

theorem fine_fil (ab : W64) : ∀ o ∈ filOps ab, FineOp 1 o := by
  intro o ho
  simp only [filOps, List.mem_cons, List.not_mem_nil, or_false] at ho
  rcases ho with rfl | rfl | rfl | rfl
  · exact fine_set 1 4 ab (by decide) (by decide)
  · exact ⟨⟨by decide, by decide, by decide, by decide, by decide, by decide, by decide, by decide, (fun h => by simp at h)⟩, by decide, by decide, (fun h => by simp at h), (fun h => by simp at h)⟩
  · exact fine_set 1 6 1 (by decide) (by decide)
  · exact ⟨⟨by decide, by decide, by decide, by decide, by decide, by decide, by decide, by decide, (fun _ => by decide)⟩, by decide, by decide, (fun _ => by decide), (fun _ => by decide)⟩

set_option maxRecDepth 100000 in
set_option maxHeartbeats 2000000 in
theorem filter_law (a : Option Addr) (len cap : Nat) (a1 : Int) (w : World) (hr : Rowed w [.int .i64, .int .i64] a len cap) (hwf : (Lit.int .i64 a1).wf = true) : Calls Try.prog 5 #[.slice a len cap, .int .i64 a1] w (Tells w (.bool true)) := by
  obtain ⟨ps, hl, hps⟩ := pairs_of_rowed hr
  have hlc := hr.1
  have hcm := hr.2.1
  obtain ⟨ab, rfl⟩ : ∃ ab : W64, a1 = ab.toInt := ⟨BitVec.ofInt 64 a1, (toInt_wf hwf).symm⟩
  clear hr hwf
  have hA (W : World) := awake_spec W
  by_cases h0 : len = 0
  · subst h0
    go_enter Try.func5, Try.ntmps5
    go_wp2_with (go_at_call 8; refine (hA _).mono ?_; rintro e w' ⟨rfl, m1⟩)
    go_ret
    exact ⟨rfl, m1⟩
  by_cases h20 : 20 < len
  · go_enter Try.func5, Try.ntmps5
    go_wp2_with (go_at_call 8; refine (hA _).mono ?_; rintro e w' ⟨rfl, m1⟩)
    go_ret
    exact ⟨rfl, m1⟩
  have hlen1 : 1 ≤ len := by omega
  have hlen20 : len ≤ 20 := by omega
  have HL := Lib.hid hl
  clear hl
  have e0 : ((len : Int) == 0) = false := by simp; omega
  have e20 : decide (20 < (len : Int)) = false := by simp; omega
  have cm := CellsAt.new w #[.int .i64 1, .int .i64 4, .int .i64 0, .int .i64 0, .int .i64 0, I ab, .int .i64 8, .int .i64 5, .int .i64 4, .int .i64 1, .int .i64 0, .int .i64 0, .int .i64 1, .int .i64 6, .int .i64 0, .int .i64 0, .int .i64 0, .int .i64 1, .int .i64 12, .int .i64 0, .int .i64 0, .int .i64 6, .int .i64 5, .int .i64 0] 41
  have cf := CellsAt.new (w.alloc (.cells #[.int .i64 1, .int .i64 4, .int .i64 0, .int .i64 0, .int .i64 0, I ab, .int .i64 8, .int .i64 5, .int .i64 4, .int .i64 1, .int .i64 0, .int .i64 0, .int .i64 1, .int .i64 6, .int .i64 0, .int .i64 0, .int .i64 0, .int .i64 1, .int .i64 12, .int .i64 0, .int .i64 0, .int .i64 6, .int .i64 5, .int .i64 0] 41)) #[.int .i64 2, .int .i64 0, .int .i64 0, .int .i64 1, .int .i64 0, .int .i64 0] 41
  have cp := CellsAt.new ((w.alloc (.cells #[.int .i64 1, .int .i64 4, .int .i64 0, .int .i64 0, .int .i64 0, I ab, .int .i64 8, .int .i64 5, .int .i64 4, .int .i64 1, .int .i64 0, .int .i64 0, .int .i64 1, .int .i64 6, .int .i64 0, .int .i64 0, .int .i64 0, .int .i64 1, .int .i64 12, .int .i64 0, .int .i64 0, .int .i64 6, .int .i64 5, .int .i64 0] 41)).alloc (.cells #[.int .i64 2, .int .i64 0, .int .i64 0, .int .i64 1, .int .i64 0, .int .i64 0] 41)) #[.int .i64 1, .slice (some ⟨w.heap.size, 0, none⟩) 4 4, .slice (some ⟨w.heap.size + 1, 0, none⟩) 1 1, .slice none 0 0] 30
  simp only [World.size_alloc] at cf cp
  have cm3 := (cm.alloc (.cells #[.int .i64 2, .int .i64 0, .int .i64 0, .int .i64 1, .int .i64 0, .int .i64 0] 41)).alloc (.cells #[.int .i64 1, .slice (some ⟨w.heap.size, 0, none⟩) 4 4, .slice (some ⟨w.heap.size + 1, 0, none⟩) 1 1, .slice none 0 0] 30)
  have cf3 := cf.alloc (.cells #[.int .i64 1, .slice (some ⟨w.heap.size, 0, none⟩) 4 4, .slice (some ⟨w.heap.size + 1, 0, none⟩) 1 1, .slice none 0 0] 30)
  have m3 := (((Mod.refl w Nob).alloc (.cells #[.int .i64 1, .int .i64 4, .int .i64 0, .int .i64 0, .int .i64 0, I ab, .int .i64 8, .int .i64 5, .int .i64 4, .int .i64 1, .int .i64 0, .int .i64 0, .int .i64 1, .int .i64 6, .int .i64 0, .int .i64 0, .int .i64 0, .int .i64 1, .int .i64 12, .int .i64 0, .int .i64 0, .int .i64 6, .int .i64 5, .int .i64 0] 41)).alloc (.cells #[.int .i64 2, .int .i64 0, .int .i64 0, .int .i64 1, .int .i64 0, .int .i64 0] 41)).alloc (.cells #[.int .i64 1, .slice (some ⟨w.heap.size, 0, none⟩) 4 4, .slice (some ⟨w.heap.size + 1, 0, none⟩) 1 1, .slice none 0 0] 30)
  clear cm cf
  go_enter Try.func5, Try.ntmps5
  go_wp2_with fail
  obtain ⟨W1, hW1⟩ : ∃ W1, ((w.alloc (.cells #[.int .i64 1, .int .i64 4, .int .i64 0, .int .i64 0, .int .i64 0, I ab, .int .i64 8, .int .i64 5, .int .i64 4, .int .i64 1, .int .i64 0, .int .i64 0, .int .i64 1, .int .i64 6, .int .i64 0, .int .i64 0, .int .i64 0, .int .i64 1, .int .i64 12, .int .i64 0, .int .i64 0, .int .i64 6, .int .i64 5, .int .i64 0] 41)).alloc (.cells #[.int .i64 2, .int .i64 0, .int .i64 0, .int .i64 1, .int .i64 0, .int .i64 0] 41)).alloc (.cells #[.int .i64 1, .slice (some ⟨w.heap.size, 0, none⟩) 4 4, .slice (some ⟨w.heap.size + 1, 0, none⟩) 1 1, .slice none 0 0] 30) = W1 := ⟨_, rfl⟩
  rw [hW1] at cm3 cf3 cp m3
  rw [hW1]
  have lp := cp.lt
  have hP : ProgAt W1.heap.size W1 1 (some ⟨w.heap.size, 0, none⟩) 4 4 (filOps ab) (some ⟨w.heap.size + 1, 0, none⟩) 1 1 [addOp] none 0 0 [] :=
    ⟨by omega, by omega, ⟨opsAt_owns (ops := filOps ab) (owns_block (n := 4) (size := 6) cm3 rfl (by unfold maxLen; omega)) rfl (by omega), by simp [filOps], fine_fil ab⟩,
      ⟨opsAt_owns (ops := [addOp]) (owns_block (n := 1) (size := 6) cf3 rfl (by unfold maxLen; omega)) rfl (by omega), by simp, fun o ho => by rw [List.mem_singleton.1 ho]; exact fine_add 0⟩, ⟨.inl ⟨_, _, rfl, rfl⟩, by simp, fun o ho => by cases ho⟩⟩
  have hps1 := (hps.below (m3.below (Nat.le_refl _) (fun _ h => h.elim))).mono m3.size
  refine (run_one hP (Nat.le_refl _) a len cap ps HL.out hps1 hlen1 hlen20).mono ?_
  obtain ⟨T, hT⟩ : ∃ T, Tal.pairs 1 (filOps ab) [addOp] (numbered ps) = T := ⟨_, rfl⟩
  have hTo := Tal.pairs_ok 1 (filOps ab) [addOp] (numbered ps)
  rw [hT] at hTo ⊢
  have HT := Lib.hid hT
  rintro e w2 ⟨ov, rfl, ow, fw, m2⟩
  obtain ⟨oa, oc, rfl, _, _⟩ := owns_form ow
  replace m2 := m3.trans m2
  obtain ⟨N, hN⟩ : ∃ N, (T.told []).length = N := ⟨_, rfl⟩
  have hNs : (sortW T.keys).length = N := by rw [← hN, told_length, sortW_length]
  have hNk : T.keys.length = N := by rw [← hN, told_length]
  have hN20 : N ≤ 20 := by
    have h1 := Tal.pairs_length 1 (filOps ab) [addOp] (numbered ps)
    rw [hT, numbered_length, HL.out] at h1
    omega
  have HNs := Lib.hid hNs
  have HNk := Lib.hid hNk
  rw [hN] at ow ⊢
  clear hNs hNk hN hT hW1 cp cm3 cf3 hP hps1 lp
  have hmm := @run_makeMap Try.prog
  go_wp2_with fail
  clear hmm
  have cM := MapAt.new encI w2
  have m4 := m2.alloc (.map #[] 0)
  have ow4 := owns_mod ow ((Mod.refl w2 Nob).alloc (.map #[] 0)) (fun _ _ => nob)
  obtain ⟨M, hM⟩ : ∃ M, w2.heap.size = M := ⟨_, rfl⟩
  obtain ⟨W4, hW4⟩ : ∃ W4, w2.alloc (.map #[] 0) = W4 := ⟨_, rfl⟩
  have lM : w.heap.size ≤ M := by rw [← hM]; exact m2.size
  rw [hW4, hM] at cM
  rw [hW4] at m4 ow4
  rw [hW4, hM]
  clear hW4 hM ow
  have zeroE : ∀ W, (zeroValue 2).run Try.prog W = .ok (.int .i64 0) W := fun W => by kernel_rfl
  go_loopw [9] (fun i wr => ∃ q : Nat, q ≤ len ∧ i = .int .i64 q ∧ MapAt encI wr M (fun k => ((Tal.pairs 1 (filOps ab) [addOp] ((numbered ps).take q)).f k).map I) ∧ Mod W4 wr (· = M)) (fun i _ => len - (intOf i).toNat)
  case atStart => exact ⟨0, Nat.zero_le _, rfl, cM, Mod.refl _ _⟩
  case round =>
    obtain ⟨q, hq, rfl, hmp, hmr⟩ := hrel
    by_cases hlt : q < len
    · have hqp : q < ps.length := by rw [HL.out]; exact hlt
      obtain ⟨b, off, rfl, hb, hcs⟩ : ∃ b off, a = some ⟨b, off, none⟩ ∧ b < w.heap.size ∧ ∀ (j : Nat) (p : W64 × W64), ps[j]? = some p → w.cell? ⟨b, off + j * 2, none⟩ = some (I p.1) ∧ w.cell? ⟨b, off + j * 2 + 1, none⟩ = some (I p.2) := by
        rcases hps with ⟨a', cap', e, h0⟩ | ⟨b, off, cap', e, hb, hc⟩
        · rw [h0] at hqp; cases hqp
        · injection e with e1
          exact ⟨b, off, e1, hb, hc⟩
      have hsn := pairs_snoc 1 (filOps ab) [addOp] ps q hqp
      obtain ⟨⟨key, v⟩, hpq⟩ : ∃ p, ps[q] = p := ⟨_, rfl⟩
      obtain ⟨z0, z1⟩ := hcs q (key, v) (by rw [List.getElem?_eq_getElem hqp, hpq])
      obtain ⟨t', ht'⟩ : ∃ t', Tal.pairs 1 (filOps ab) [addOp] ((numbered ps).take q) = t' := ⟨_, rfl⟩
      rw [hpq, ht'] at hsn
      rw [ht'] at hmp
      have hf := pair_fil ab t' (BitVec.ofNat 64 q) key v
      rw [← hsn] at hf
      have hmw : Mod w wr Nob := m4.drop hmr (fun k (hk : k = M) => .inr (by omega))
      have c0 : wr.cell? ⟨b, off + q * 2, none⟩ = some (I key) := (hmw.cell hb nob).trans z0
      have c1' : wr.cell? ⟨b, off + q * 2 + 1, none⟩ = some (I v) := (hmw.cell hb nob).trans z1
      by_cases hab : ab.toInt < v.toInt
      · rw [if_pos hab] at hf
        obtain ⟨old, hold⟩ : ∃ old, (t'.f key).getD 0 = old := ⟨_, rfl⟩
        have holdv : ((t'.f key).map I).getD (.int .i64 0) = I old := by
          rw [← hold]
          cases t'.f key <;> rfl
        obtain ⟨nn, hnn⟩ : ∃ nn, old + 1 = nn := ⟨_, rfl⟩
        have e2 : wrap64 (old.toInt + 1) = nn.toInt := by
          rw [← hnn, ← add_i]
          rfl
        have e4 := (wrap_eq64 (old.toInt + 1)).trans e2
        have HF := Lib.hid hf
        rw [hold, hnn] at HF
        have HO := Lib.hid holdv
        clear hf hsn ht' hpq hold hnn z0 z1 hcs hps holdv
        go_wp2_with (first
          | (refine wpList_lookup_val rfl (.tmp 52) (.tmp 57) 34 rfl 2 2 (.int .i64 0) Try.underlying34 (keyOk_i64 Try.underlying2) zeroE rfl hmp key rfl (I old) HO.out ?_)
          | (refine wpList_mapUpdate_at rfl (.tmp 52) (.tmp 57) (.tmp 59) 34 rfl 2 2 Try.underlying34 (keyOk_i64 Try.underlying2) rfl hmp key rfl (I nn) rfl ?_))
        intro w5 mp5 hgr5
        have hm5 := (Mod.refl wr (· = M)).grown hgr5 (fun k e => by cases e; exact .inl rfl)
        have mp6 : MapAt encI w5 M (fun k => ((Tal.pairs 1 (filOps ab) [addOp] ((numbered ps).take (q + 1))).f k).map I) := by
          have e : (fun k => ((Tal.pairs 1 (filOps ab) [addOp] ((numbered ps).take (q + 1))).f k).map I) = upd (fun k => (t'.f k).map I) key (some (I nn)) := by
            funext k
            rw [HF.out]
            simp only [upd]
            split <;> rfl
          rw [e]; exact mp5
        clear mp5
        go_wp2_with fail
        exact ⟨⟨q + 1, by omega, by go_num, mp6, hmr.trans hm5⟩, by simp [intOf]; omega⟩
      · rw [if_neg hab] at hf
        have mp6 : MapAt encI wr M (fun k => ((Tal.pairs 1 (filOps ab) [addOp] ((numbered ps).take (q + 1))).f k).map I) := by rw [hf]; exact hmp
        clear hf hsn ht' hpq z0 z1 hcs hps
        go_wp2_with fail
        exact ⟨⟨q + 1, by omega, by go_num, mp6, hmr⟩, by simp [intOf]; omega⟩
    · obtain rfl : q = len := by omega
      have hall : (numbered ps).take q = numbered ps := List.take_of_length_le (by rw [numbered_length, HL.out]; exact Nat.le_refl _)
      rw [hall, HT.out] at hmp
      have ow5 := owns_mod ow4 hmr (fun k hk (e : k = M) => by
        obtain ⟨o', h1, h2⟩ := owns_cells ow4 k hk
        obtain ⟨es, clock, h3, _⟩ := cM
        rw [e, h3] at h1; cases h1; cases h2)
      have m5 := m4.drop hmr (fun k (hk : k = M) => .inr (by omega))
      clear hall ow4 cM m4 hmr
      go_wp2_with fail
      refine (hA wr).mono ?_
      rintro e w6 ⟨rfl, m6⟩
      replace ow5 := owns_mod ow5 m6 (fun _ _ => nob)
      replace hmp := hmp.mod m6 nob
      replace m5 := m5.trans m6
      have hln : ∀ ty, (Builtin.len_ #[34] ty #[.map (some M)]).run Try.prog w6 = .ok (.int .i64 N) w6 := fun ty => by
        rw [run_len_at Try.underlying34 hmp T.keys hTo.nodup (fun k => by rw [hTo.mem]; simp), HNk.out]
      clear m6 hA
      go_wp2_with fail
      clear hln
      go_loopw [10] (fun i wr2 => ∃ p : Nat, p ≤ N ∧ i = .int .i64 p ∧ Mod w6 wr2 Nob) (fun i _ => N - (intOf i).toNat)
      case atStart => exact ⟨0, Nat.zero_le _, rfl, Mod.refl _ _⟩
      case round =>
        obtain ⟨p, hp, rfl, hmr⟩ := hrel
        have owr := owns_mod ow5 hmr (fun _ _ => nob)
        by_cases hpn : p < N
        · obtain ⟨g, rfl⟩ : ∃ g, oa = some ⟨g, 0, none⟩ := by
            rcases owr.2 with ⟨_, h0⟩ | ⟨g, cap', cur, h0, _⟩
            · omega
            · cases h0; exact ⟨g, rfl⟩
          obtain ⟨kq, hkq⟩ : ∃ kq, (sortW T.keys)[p]? = some kq := ⟨_, List.getElem?_eq_getElem (by rw [HNs.out]; exact hpn)⟩
          obtain ⟨vq, hvq⟩ := Option.isSome_iff_exists.1 ((hTo.mem kq).1 (mem_sortW hkq))
          obtain ⟨ca0, ca1⟩ := flatP_cell _ _ _ (told_get [] T p kq hkq)
          simp only [hvq, ran_nil, Option.getD_some] at ca0 ca1
          have za0 := owns_cell owr _ _ ca0
          have za1 := owns_cell owr _ _ ca1
          have hlk : ∀ n, (Instr.lookup 34 (.map (some M)) (I kq) false).run Try.prog (wr.drewN n) = .ok (I vq) (wr.drewN n) := fun n => by
            have := run_lookup_at Try.underlying34 (keyOk_i64 Try.underlying2) zeroE (hmp.mod (hmr.drewN n) nob) kq false
            simpa [hvq, encI, I] using this
          clear hvq ca0 ca1 hkq
          go_wp2_with fail
          go_quiet (fail)
          go_wp2_with fail
          exact ⟨⟨p + 1, by omega, by go_num, hmr.drewN nq⟩, by simp [intOf]; omega⟩
        · obtain rfl : p = N := by omega
          go_wp2_with fail
          go_ret
          exact ⟨rfl, m5.trans hmr⟩

end Go.Proofs.Ytlnjfcnhgndocaa
