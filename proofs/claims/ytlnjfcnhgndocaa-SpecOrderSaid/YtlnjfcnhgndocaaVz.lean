/- The law SpecFinish; pairs that came in; a run with one slot. No condition. -/
import Derived.Laws.StructEq
import Derived.Deep.DeepCutAuto
import Derived.Test.YtlnjfcnhgndocaaVy
namespace Go.Proofs.Ytlnjfcnhgndocaa
open Go.RowKit Go.Shelf

theorem PairsAt.mono {n₀ n₁ : Nat} (hn : n₀ ≤ n₁) {A : World} {sv : Value} {ps : List (W64 × W64)} : PairsAt n₀ A sv ps → PairsAt n₁ A sv ps
  | .inl e => .inl e
  | .inr ⟨b, off, cap, e, hb, hc⟩ => .inr ⟨b, off, cap, e, by omega, hc⟩

theorem toInt_wf {a : Int} (h : (Lit.int .i64 a).wf = true) : (BitVec.ofInt 64 a).toInt = a := by
  have h1 : -9223372036854775808 ≤ a ∧ a ≤ 9223372036854775807 := by
    simpa [Lit.wf, IntKind.min, IntKind.max, IntKind.signed, IntKind.bits] using h
  rw [BitVec.toInt_ofInt, Int.bmod_eq_of_le] <;> omega

theorem list_of {α : Type} [Inhabited α] {P : Nat → α → Prop} : ∀ (n : Nat), (∀ i, i < n → ∃ x, P i x) → ∃ l : List α, l.length = n ∧ ∀ i x, l[i]? = some x → P i x
  | 0, _ => ⟨[], rfl, fun i x h => by simp at h⟩
  | n + 1, h => by
    obtain ⟨l, hl, hp⟩ := list_of n (fun i hi => h i (by omega))
    obtain ⟨x, hx⟩ := h n (by omega)
    refine ⟨l ++ [x], by simp [hl], fun i y hy => ?_⟩
    by_cases hi : i < n
    · rw [List.getElem?_append_left (by omega)] at hy
      exact hp i y hy
    · have hin : i = n := by
        have := (List.getElem?_eq_some_iff.1 hy).1
        simp at this; omega
      subst hin
      rw [List.getElem?_append_right (by omega)] at hy
      simp [hl] at hy
      subst hy
      exact hx

theorem pairs_of_rowed {w : World} {a : Option Addr} {len cap : Nat} (h : Rowed w [.int .i64, .int .i64] a len cap) : ∃ ps : List (W64 × W64), ps.length = len ∧ PairsAt w.heap.size w (.slice a len cap) ps := by
  rcases h.2.2.2 with rfl | ⟨b, o, rfl, hb, hc⟩
  · exact ⟨[], rfl, .inl ⟨a, cap, rfl, rfl⟩⟩
  · have := list_of (P := fun i (p : W64 × W64) => w.cell? ⟨b, o + i * 2, none⟩ = some (I p.1) ∧ w.cell? ⟨b, o + i * 2 + 1, none⟩ = some (I p.2)) len (fun i hi => by
      obtain ⟨cs, hok, hcs⟩ := hc i hi
      obtain ⟨x, _, rfl, hx, hok⟩ := oks_int hok
      obtain ⟨y, _, rfl, hy, hok⟩ := oks_int hok
      refine ⟨(BitVec.ofInt 64 x, BitVec.ofInt 64 y), ?_, ?_⟩
      · have := hcs 0 _ rfl
        simpa [I, toInt_wf hx] using this
      · have := hcs 1 _ rfl
        simpa [I, toInt_wf hy, Nat.add_assoc] using this)
    obtain ⟨ps, hl, hp⟩ := this
    exact ⟨ps, hl, .inr ⟨b, o, cap, by rw [hl], hb, hp⟩⟩

theorem flatP_cell : ∀ (l : List (W64 × W64)) (j : Nat) (p : W64 × W64), l[j]? = some p → (flatP l)[j * 2]? = some (I p.1) ∧ (flatP l)[j * 2 + 1]? = some (I p.2)
  | [], _, _, h => by simp at h
  | x :: l, 0, p, h => by simp at h; subst h; simp [flatP]
  | x :: l, j + 1, p, h => by
    have := flatP_cell l j p (by simpa using h)
    rw [show (j + 1) * 2 = j * 2 + 2 by omega]
    simpa [flatP] using this

section
variable {n₀ : Nat} {w w' : World} {a1 : Option Addr} {l1 c1 : Nat} {ms : List Op1} {a2 : Option Addr} {l2 c2 : Nat} {fs : List Op1} {a3 : Option Addr} {l3 c3 : Nat} {ns : List Op1}

/-- A run with one slot. -/
theorem run_one (h : ProgAt n₀ w 1 a1 l1 c1 ms a2 l2 c2 fs a3 l3 c3 ns) (hn : n₀ ≤ w.heap.size) (a : Option Addr) (len cap : Nat) (ps : List (W64 × W64)) (hl : ps.length = len) (hps : PairsAt n₀ w (.slice a len cap) ps) (h1 : 1 ≤ len) (h20 : len ≤ 20) :
    Calls Try.prog 9 #[.agg #[.int .i64 1, .slice a1 l1 c1, .slice a2 l2 c2, .slice a3 l3 c3], .agg #[.int .i64 len, .int .i64 1, .int .i64 1, .int .i64 1], .slice a len cap] w fun e w' =>
      ∃ ov, e = .returned (.tuple #[ov, .int .i64 0]) ∧ w'.ownsRow 0 36 2 ov (Tal.told ns (Tal.pairs 1 ms fs (numbered ps))).length (flatP (Tal.told ns (Tal.pairs 1 ms fs (numbered ps)))) ∧ (∀ j, inBlock ov j → w.heap.size ≤ j) ∧ Mod w w' Nob := by
  subst hl
  have := run_job h hn 1 1 a cap ps hps (by unfold fit; omega)
  exact this
end

theorem told_length (ns : List Op1) (t : Tal) : (t.told ns).length = t.keys.length := by
  show ((sortW t.keys).map _).length = _
  rw [List.length_map]; exact List.length_mergeSort _
theorem told_get (ns : List Op1) (t : Tal) (q : Nat) (k : W64) (h : (sortW t.keys)[q]? = some k) : (t.told ns)[q]? = some (k, ran ((t.f k).getD 0) k ns) := by
  show ((sortW t.keys).map _)[q]? = _
  rw [List.getElem?_map, h]
  rfl
theorem sortW_length (l : List W64) : (sortW l).length = l.length := List.length_mergeSort _

set_option maxRecDepth 100000 in
set_option maxHeartbeats 2000000 in
theorem finish_law (a : Option Addr) (len cap : Nat) (w : World) (hr : Rowed w [.int .i64, .int .i64] a len cap) : Calls Try.prog 6 #[.slice a len cap] w (Tells w (.bool true)) := by
  obtain ⟨ps, hl, hps⟩ := pairs_of_rowed hr
  have hlc := hr.1
  have hcm := hr.2.1
  clear hr
  have hA (W : World) := awake_spec W
  by_cases h0 : len = 0
  · subst h0
    go_enter Try.func6, Try.ntmps6
    go_wp2_with (go_at_call 8; refine (hA _).mono ?_; rintro e w' ⟨rfl, m1⟩)
    go_ret
    exact ⟨rfl, m1⟩
  by_cases h20 : 20 < len
  · go_enter Try.func6, Try.ntmps6
    go_wp2_with (go_at_call 8; refine (hA _).mono ?_; rintro e w' ⟨rfl, m1⟩)
    go_ret
    exact ⟨rfl, m1⟩
  have hlen1 : 1 ≤ len := by omega
  have hlen20 : len ≤ 20 := by omega
  have HL := Lib.hid hl
  clear hl
  have e0 : ((len : Int) == 0) = false := by simp; omega
  have e20 : decide (20 < (len : Int)) = false := by simp; omega
  have hS : Calls Try.prog 10 #[.int .i64 1] w fun e w' =>
    ∃ a1 c1 a2 c2, e = .returned (.agg #[.int .i64 1, .slice a1 2 c1, .slice a2 1 c2, .slice none 0 0]) ∧ ProgAt w'.heap.size w' 1 a1 2 c1 (sumOps 1) a2 1 c2 [addOp] none 0 0 [] ∧ Mod w w' Nob := sums_any 1 (by omega) (by omega) w
  go_enter Try.func6, Try.ntmps6
  go_wp2_with fail
  refine hS.mono ?_
  rintro e w1 ⟨a1, c1, a2, c2, rfl, hP, m1⟩
  clear hS
  have hm2 := ((Mod.refl w1 Nob).alloc (.cells #[.int .i64 1, .slice a1 2 c1, .slice a2 1 c2, .slice none 0 0] 30)).alloc (.cells #[.int .i64 len, .int .i64 1, .int .i64 1, .int .i64 1] 33)
  have cG := (CellsAt.new w1 #[.int .i64 1, .slice a1 2 c1, .slice a2 1 c2, .slice none 0 0] 30).alloc (.cells #[.int .i64 len, .int .i64 1, .int .i64 1, .int .i64 1] 33)
  have cK := CellsAt.new (w1.alloc (.cells #[.int .i64 1, .slice a1 2 c1, .slice a2 1 c2, .slice none 0 0] 30)) #[.int .i64 len, .int .i64 1, .int .i64 1, .int .i64 1] 33
  rw [World.size_alloc] at cK
  go_wp2_with fail
  obtain ⟨W2, hW2⟩ : ∃ W2, (w1.alloc (.cells #[.int .i64 1, .slice a1 2 c1, .slice a2 1 c2, .slice none 0 0] 30)).alloc (.cells #[.int .i64 len, .int .i64 1, .int .i64 1, .int .i64 1] 33) = W2 := ⟨_, rfl⟩
  rw [hW2] at hm2 cG cK ⊢
  have hPw := hP.mod hm2 (Nat.le_refl _)
  have hP2 := hPw.mono (n₁ := W2.heap.size) hm2.size
  have m2 := m1.trans hm2
  have hpsw := hps.below (m2.below (Nat.le_refl _) (fun _ h => h.elim))
  have hps2 := hpsw.mono m2.size
  clear hW2 hP
  refine (run_one hP2 (Nat.le_refl _) a len cap ps HL.out hps2 hlen1 hlen20).mono ?_
  obtain ⟨T, hT⟩ : ∃ T, Tal.pairs 1 (sumOps 1) [addOp] (numbered ps) = T := ⟨_, rfl⟩
  rw [hT]
  rintro e w3 ⟨av, rfl, oa, fa, m3⟩
  have HT := Lib.hid hT
  have cG3 := cG.mod m3 nob
  have cK3 := cK.mod m3 nob
  obtain ⟨aa, ac, rfl, _, _⟩ := owns_form oa
  have hGw : w1.heap.size < W2.heap.size := cG.lt
  have g3 := cG3.cell 3
  have gf3 := cG3.free 3
  simp at g3
  have lG3 := cG3.lt
  have hm4 := ((Mod.refl w3 (· = w1.heap.size)).setCell (p := ⟨w1.heap.size, 3, none⟩) (.inl rfl) (.slice (some ⟨w3.heap.size, 0, none⟩) 1 1)).alloc (.cells #[.int .i64 2, .int .i64 0, .int .i64 0, .int .i64 1, .int .i64 0, .int .i64 0] 41)
  have cG4 := (cG3.set 3 (.slice (some ⟨w3.heap.size, 0, none⟩) 1 1)).alloc (.cells #[.int .i64 2, .int .i64 0, .int .i64 0, .int .i64 1, .int .i64 0, .int .i64 0] 41)
  have cA4 := CellsAt.new (w3.setCell ⟨w1.heap.size, 3, none⟩ (.slice (some ⟨w3.heap.size, 0, none⟩) 1 1)) #[.int .i64 2, .int .i64 0, .int .i64 0, .int .i64 1, .int .i64 0, .int .i64 0] 41
  rw [show (w3.setCell ⟨w1.heap.size, 3, none⟩ (.slice (some ⟨w3.heap.size, 0, none⟩) 1 1)).heap.size = w3.heap.size by simp [World.setCell]] at cA4
  clear hT
  go_upto_region 7 with (fail)
  obtain ⟨W4, hW4⟩ : ∃ W4, (w3.setCell ⟨w1.heap.size, 3, none⟩ (.slice (some ⟨w3.heap.size, 0, none⟩) 1 1)).alloc (.cells #[.int .i64 2, .int .i64 0, .int .i64 0, .int .i64 1, .int .i64 0, .int .i64 0] 41) = W4 := ⟨_, rfl⟩
  rw [hW4] at hm4 cG4 cA4 ⊢
  have m4 := (m2.trans m3).drop hm4 (fun k (hk : k = w1.heap.size) => .inr (by have := m1.size; omega))
  have hmG : Mod W2 W4 (· = w1.heap.size) := (Mod.nob (T := (· = w1.heap.size)) m3).trans hm4
  have lm1 := m1.size
  have lm2 := hm2.size
  have l34 := hm4.size
  have lm3 := m3.size
  have lA4 := cA4.lt
  have hbG : Below w1.heap.size W2 W4 := hmG.below lm2 (fun k (hk : k = w1.heap.size) => by omega)
  have hbw : Below w.heap.size W2 W4 := hmG.below (by omega) (fun k (hk : k = w1.heap.size) => by omega)
  have hps4 := (hpsw.below hbw).mono (n₁ := W4.heap.size) (by omega)
  have oF := owns_block (n := 1) (size := 6) cA4 rfl (by unfold maxLen; omega)
  have hP4 : ProgAt W4.heap.size W4 1 a1 2 c1 (sumOps 1) a2 1 c2 [addOp] (some ⟨w3.heap.size, 0, none⟩) 1 1 [addOp] :=
    ⟨hPw.k1, hPw.k4, ⟨(hPw.m.at_.below hbG).mono (by omega), hPw.m.len40, hPw.m.fine⟩, ⟨(hPw.f.at_.below hbG).mono (by omega), hPw.f.len40, hPw.f.fine⟩, ⟨opsAt_owns (ops := [addOp]) oF rfl lA4, by simp, fun o ho => by rw [List.mem_singleton.1 ho]; exact fine_add 0⟩⟩
  have cK4 := cK3.mod hm4 (by omega)
  have oa4 := owns_mod oa hm4 (fun k hk (e : k = w1.heap.size) => by have := fa k hk; omega)
  have x0 := cG4.cell 0
  have x1 := cG4.cell 1
  have x2 := cG4.cell 2
  have x3 := cG4.cell 3
  have y0 := cK4.cell 0
  have y1 := cK4.cell 1
  have y2 := cK4.cell 2
  have y3 := cK4.cell 3
  simp at x0 x1 x2 x3 y0 y1 y2 y3
  clear hW4 g3 gf3 oF
  go_wp2_with fail
  have hR := run_one hP4 (Nat.le_refl _) a len cap ps HL.out hps4 hlen1 hlen20
  rw [HT.out] at hR
  refine hR.mono ?_
  rintro e w5 ⟨bv, rfl, ob, fb, m5⟩
  obtain ⟨ba, bc, rfl, _, _⟩ := owns_form ob
  have oa5 := owns_mod oa4 m5 (fun _ _ => nob)
  replace m5 := m4.trans m5
  clear hR x0 x1 x2 x3 y0 y1 y2 y3 oa4 oa hP4 hps4
  have la : (T.told []).length = (T.told [addOp]).length := by rw [told_length, told_length]
  obtain ⟨N, hN⟩ : ∃ N, (T.told []).length = N := ⟨_, rfl⟩
  have hNs : (sortW T.keys).length = N := by rw [← hN, told_length, sortW_length]
  have HNs := Lib.hid hNs
  rw [← la, hN] at ob
  rw [hN] at oa5
  rw [← la, hN]
  clear hNs hN la
  go_wp2_with fail
  refine (hA w5).mono ?_
  rintro e w6 ⟨rfl, m6⟩
  have oa6 := owns_mod oa5 m6 (fun _ _ => nob)
  have ob6 := owns_mod ob m6 (fun _ _ => nob)
  replace m6 := m5.trans m6
  clear hA oa5 ob m5
  go_wp2_with fail
  have hN64 : N ≤ 20 := by
    have h1 := Tal.pairs_length 1 (sumOps 1) [addOp] (numbered ps)
    rw [HT.out, numbered_length, HL.out] at h1
    have h2 := HNs.out
    rw [sortW_length] at h2
    omega
  go_loopw [9] (fun i wr => ∃ q : Nat, q ≤ N ∧ i = .int .i64 q ∧ Mod w6 wr Nob) (fun i _ => N - (intOf i).toNat)
  case atStart => exact ⟨0, Nat.zero_le _, rfl, Mod.refl _ _⟩
  case round =>
    obtain ⟨q, hq, rfl, hmr⟩ := hrel
    by_cases hlt : q < N
    · obtain ⟨ga, rfl⟩ : ∃ g, aa = some ⟨g, 0, none⟩ := by
        rcases oa6.2 with ⟨_, h0⟩ | ⟨g, cap', cur, h0, _⟩
        · omega
        · cases h0; exact ⟨g, rfl⟩
      obtain ⟨gb, rfl⟩ : ∃ g, ba = some ⟨g, 0, none⟩ := by
        rcases ob6.2 with ⟨_, h0⟩ | ⟨g, cap', cur, h0, _⟩
        · omega
        · cases h0; exact ⟨g, rfl⟩
      obtain ⟨kq, hkq⟩ : ∃ kq, (sortW T.keys)[q]? = some kq := ⟨_, List.getElem?_eq_getElem (by rw [HNs.out]; exact hlt)⟩
      obtain ⟨ca0, ca1⟩ := flatP_cell _ _ _ (told_get [] T q kq hkq)
      obtain ⟨cb0, cb1⟩ := flatP_cell _ _ _ (told_get [addOp] T q kq hkq)
      obtain ⟨vq, hvq⟩ : ∃ vq, (T.f kq).getD 0 = vq := ⟨_, rfl⟩
      simp only [hvq, ran_nil, ran_add] at ca0 ca1 cb0 cb1
      have za0 := owns_cell (owns_mod oa6 hmr (fun _ _ => nob)) _ _ ca0
      have za1 := owns_cell (owns_mod oa6 hmr (fun _ _ => nob)) _ _ ca1
      have zb0 := owns_cell (owns_mod ob6 hmr (fun _ _ => nob)) _ _ cb0
      have zb1 := owns_cell (owns_mod ob6 hmr (fun _ _ => nob)) _ _ cb1
      have hadd : IntKind.i64.wrap (vq.toInt + kq.toInt) = (vq + kq).toInt := by
        rw [← add_i]
        unfold IntKind.wrap wrap64
        simp [IntKind.signed, IntKind.bits]
        split <;> omega
      clear hvq hkq ca0 ca1 cb0 cb1
      go_wp2_with fail
      go_quiet (fail)
      go_wp2_with fail
      exact ⟨⟨q + 1, by omega, by go_num, hmr.drewN nq⟩, by simp [intOf]; omega⟩
    · obtain rfl : q = N := by omega
      go_wp2_with fail
      go_ret
      exact ⟨rfl, m6.trans hmr⟩

end Go.Proofs.Ytlnjfcnhgndocaa
