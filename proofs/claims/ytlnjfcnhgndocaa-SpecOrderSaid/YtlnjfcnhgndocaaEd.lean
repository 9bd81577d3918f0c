/- The law SpecOrder. No condition. -/
import Derived.Test.YtlnjfcnhgndocaaEc
namespace Go.Proofs.Ytlnjfcnhgndocaa
open Go.RowKit Go.Shelf

def ordOps : List Op1 := [setOp 3 1, ⟨12, 0, 4, 1, 3, 0⟩]
def ordF : List Op1 := [setOp 2 10, ⟨4, 0, 0, 2, 0, 0⟩, addOp]

theorem mapped_ord (num key v : W64) : ∃ s0, mapped 1 ordOps num key v = [⟨false, 0, v, s0⟩] := ⟨_, rfl⟩
theorem ran_ord (a v : W64) : ran a v ordF = a * 10 + v := rfl

def horner (l : List W64) : W64 := l.foldl (fun x d => 10 * x + d) 0

theorem ord_go : ∀ (l : List (W64 × W64 × W64)) (t : Tal) (x : W64), t.keys = [0] → t.f 0 = some x → (l.foldl (Tal.pair 1 ordOps ordF) t).keys = [0] ∧ (l.foldl (Tal.pair 1 ordOps ordF) t).f 0 = some ((l.map (·.2.2)).foldl (fun x d => 10 * x + d) x)
  | [], _, _, h1, h2 => ⟨h1, h2⟩
  | (num, key, v) :: l, t, x, h1, h2 => by
    obtain ⟨s0, e⟩ := mapped_ord num key v
    have h3 : (t.pair 1 ordOps ordF (num, key, v)).keys = [0] := by
      unfold Tal.pair Tal.takes
      simp only [e, List.foldl_cons, List.foldl_nil, Tal.take, h2]
      exact h1
    have h4 : (t.pair 1 ordOps ordF (num, key, v)).f 0 = some (10 * x + v) := by
      unfold Tal.pair Tal.takes
      simp only [e, List.foldl_cons, List.foldl_nil, Tal.take, h2]
      rw [if_neg (by simp)]
      show upd t.f 0 (some (ran x v ordF)) 0 = _
      rw [upd_same, ran_ord, BitVec.mul_comm]
    exact ord_go l _ _ h3 h4

theorem told_ord (ps : List (W64 × W64)) (h : ps ≠ []) : Tal.told [] (Tal.pairs 1 ordOps ordF (numbered ps)) = [(0, horner (ps.map (·.2)))] := by
  have hm : (numbered ps).map (·.2.2) = ps.map (·.2) := by
    unfold numbered
    rw [List.map_map]
    have : ((fun x : W64 × W64 × W64 => x.2.2) ∘ fun x : (W64 × W64) × Nat => (BitVec.ofNat 64 x.2, x.1)) = fun x => x.1.2 := rfl
    rw [this, show (fun x : (W64 × W64) × Nat => x.1.2) = (fun p : W64 × W64 => p.2) ∘ Prod.fst from rfl, ← List.map_map, List.zipIdx_map_fst]
  have key : (Tal.pairs 1 ordOps ordF (numbered ps)).keys = [0] ∧ (Tal.pairs 1 ordOps ordF (numbered ps)).f 0 = some (horner (ps.map (·.2))) := by
    rw [← hm]
    cases hn : numbered ps with
    | nil =>
      have := numbered_length ps
      rw [hn] at this
      exact absurd (List.eq_nil_of_length_eq_zero this.symm) h
    | cons x l =>
      obtain ⟨num, k, v⟩ := x
      obtain ⟨s0, e⟩ := mapped_ord num k v
      unfold Tal.pairs horner
      rw [List.foldl_cons, List.map_cons, List.foldl_cons]
      refine ord_go l _ _ ?_ ?_
      · unfold Tal.pair Tal.takes
        simp [e, Tal.take, Tal.none]
      · unfold Tal.pair Tal.takes
        simp [e, Tal.take, Tal.none, upd]
  unfold Tal.told
  rw [key.1, List.mergeSort_singleton]
  simp only [List.map_cons, List.map_nil, key.2, ran_nil, Option.getD_some]

theorem fine_ord : ∀ o ∈ ordOps, FineOp 1 o := by
  intro o ho
  simp only [ordOps, List.mem_cons, List.not_mem_nil, or_false] at ho
  rcases ho with rfl | rfl
  · exact fine_set 1 3 1 (by decide) (by decide)
  · exact ⟨⟨by decide, by decide, by decide, by decide, by decide, by decide, by decide, by decide, (fun _ => by decide)⟩, by decide, by decide, (fun _ => by decide), (fun _ => by decide)⟩
theorem fine_ordF : ∀ o ∈ ordF, FineOp 0 o := by
  intro o ho
  simp only [ordF, List.mem_cons, List.not_mem_nil, or_false] at ho
  rcases ho with rfl | rfl | rfl
  · exact fine_set 0 2 10 (by decide) (by decide)
  · exact ⟨⟨by decide, by decide, by decide, by decide, by decide, by decide, by decide, by decide, (fun h => by simp at h)⟩, by decide, by decide, (fun h => by simp at h), (fun h => by simp at h)⟩
  · exact fine_add 0

theorem ints_of_rowed {w : World} {a : Option Addr} {len cap : Nat} (h : Rowed w [.int .i64] a len cap) (h0 : len ≠ 0) : ∃ (b o : Nat) (xs : List Int), a = some ⟨b, o, none⟩ ∧ b < w.heap.size ∧ xs.length = len ∧ ∀ (i : Nat) (x : Int), xs[i]? = some x → w.cell? ⟨b, o + i, none⟩ = some (.int .i64 x) := by
  rcases h.2.2.2 with rfl | ⟨b, o, rfl, hb, hc⟩
  · exact absurd rfl h0
  · obtain ⟨xs, hl, hp⟩ := list_of (P := fun i (x : Int) => w.cell? ⟨b, o + i, none⟩ = some (.int .i64 x)) len (fun i hi => by
      obtain ⟨cs, hok, hcs⟩ := hc i hi
      obtain ⟨x, _, rfl, hx, hok⟩ := oks_int hok
      exact ⟨x, by simpa using hcs 0 _ rfl⟩)
    exact ⟨b, o, xs, rfl, hb, hl, hp⟩

/-- The digits, keyed by their places. -/
def digit (x : Int) : W64 := BitVec.ofInt 64 (IntKind.u64.wrap x % 10)
def keyed (xs : List Int) : List (W64 × W64) := xs.zipIdx.map fun x => (BitVec.ofNat 64 x.2, digit x.1)
theorem keyed_length (xs : List Int) : (keyed xs).length = xs.length := by simp [keyed]
theorem keyed_take (xs : List Int) (k : Nat) (x : Int) (h : xs[k]? = some x) : (keyed xs).take (k + 1) = (keyed xs).take k ++ [(BitVec.ofNat 64 k, digit x)] := by
  obtain ⟨hk, e⟩ := List.getElem?_eq_some_iff.1 h
  rw [List.take_succ_eq_append_getElem (by rw [keyed_length]; exact hk)]
  simp [keyed, e]

theorem digit_toInt (x : Int) : IntKind.u64.wrap x % 10 = (digit x).toInt := by
  unfold digit
  rw [toInt_wf]
  have : IntKind.u64.wrap x = x % 18446744073709551616 := by rw [IntKind.wrap_u64]
  simp [Lit.wf, IntKind.min, IntKind.max, IntKind.signed, IntKind.bits]
  omega

set_option maxRecDepth 100000 in
set_option maxHeartbeats 2000000 in
theorem order_law (a : Option Addr) (len cap : Nat) (w : World) (hr : Rowed w [.int .i64] a len cap) : Calls Try.prog 4 #[.slice a len cap] w (Tells w (.bool true)) := by
  have hlc := hr.1
  have hcm := hr.2.1
  have hA (W : World) := awake_spec W
  by_cases h0 : len = 0
  · subst h0
    go_enter Try.func4, Try.ntmps4
    go_wp2_with (go_at_call 8; refine (hA _).mono ?_; rintro e w' ⟨rfl, m1⟩)
    go_ret
    exact ⟨rfl, m1⟩
  by_cases h12 : 12 < len
  · go_enter Try.func4, Try.ntmps4
    go_wp2_with (go_at_call 8; refine (hA _).mono ?_; rintro e w' ⟨rfl, m1⟩)
    go_ret
    exact ⟨rfl, m1⟩
  obtain ⟨b, off, xs, rfl, hb, hl, hxs⟩ := ints_of_rowed hr h0
  have hlen1 : 1 ≤ len := by omega
  have hlen12 : len ≤ 12 := by omega
  have HL := Lib.hid hl
  clear hl hr
  have e0 : ((len : Int) == 0) = false := by simp; omega
  have e12 : decide (12 < (len : Int)) = false := by simp; omega
  have cm := CellsAt.new w #[.int .i64 1, .int .i64 3, .int .i64 0, .int .i64 0, .int .i64 0, .int .i64 1, .int .i64 12, .int .i64 0, .int .i64 4, .int .i64 1, .int .i64 3, .int .i64 0] 41
  have cf := CellsAt.new (w.alloc (.cells #[.int .i64 1, .int .i64 3, .int .i64 0, .int .i64 0, .int .i64 0, .int .i64 1, .int .i64 12, .int .i64 0, .int .i64 4, .int .i64 1, .int .i64 3, .int .i64 0] 41)) #[.int .i64 1, .int .i64 2, .int .i64 0, .int .i64 0, .int .i64 0, .int .i64 10, .int .i64 4, .int .i64 0, .int .i64 0, .int .i64 2, .int .i64 0, .int .i64 0, .int .i64 2, .int .i64 0, .int .i64 0, .int .i64 1, .int .i64 0, .int .i64 0] 41
  have cp := CellsAt.new ((w.alloc (.cells #[.int .i64 1, .int .i64 3, .int .i64 0, .int .i64 0, .int .i64 0, .int .i64 1, .int .i64 12, .int .i64 0, .int .i64 4, .int .i64 1, .int .i64 3, .int .i64 0] 41)).alloc (.cells #[.int .i64 1, .int .i64 2, .int .i64 0, .int .i64 0, .int .i64 0, .int .i64 10, .int .i64 4, .int .i64 0, .int .i64 0, .int .i64 2, .int .i64 0, .int .i64 0, .int .i64 2, .int .i64 0, .int .i64 0, .int .i64 1, .int .i64 0, .int .i64 0] 41)) #[.int .i64 1, .slice (some ⟨w.heap.size, 0, none⟩) 2 2, .slice (some ⟨w.heap.size + 1, 0, none⟩) 3 3, .slice none 0 0] 30
  simp only [World.size_alloc] at cf cp
  have cm3 := (cm.alloc (.cells #[.int .i64 1, .int .i64 2, .int .i64 0, .int .i64 0, .int .i64 0, .int .i64 10, .int .i64 4, .int .i64 0, .int .i64 0, .int .i64 2, .int .i64 0, .int .i64 0, .int .i64 2, .int .i64 0, .int .i64 0, .int .i64 1, .int .i64 0, .int .i64 0] 41)).alloc (.cells #[.int .i64 1, .slice (some ⟨w.heap.size, 0, none⟩) 2 2, .slice (some ⟨w.heap.size + 1, 0, none⟩) 3 3, .slice none 0 0] 30)
  have cf3 := cf.alloc (.cells #[.int .i64 1, .slice (some ⟨w.heap.size, 0, none⟩) 2 2, .slice (some ⟨w.heap.size + 1, 0, none⟩) 3 3, .slice none 0 0] 30)
  have m3 := (((Mod.refl w Nob).alloc (.cells #[.int .i64 1, .int .i64 3, .int .i64 0, .int .i64 0, .int .i64 0, .int .i64 1, .int .i64 12, .int .i64 0, .int .i64 4, .int .i64 1, .int .i64 3, .int .i64 0] 41)).alloc (.cells #[.int .i64 1, .int .i64 2, .int .i64 0, .int .i64 0, .int .i64 0, .int .i64 10, .int .i64 4, .int .i64 0, .int .i64 0, .int .i64 2, .int .i64 0, .int .i64 0, .int .i64 2, .int .i64 0, .int .i64 0, .int .i64 1, .int .i64 0, .int .i64 0] 41)).alloc (.cells #[.int .i64 1, .slice (some ⟨w.heap.size, 0, none⟩) 2 2, .slice (some ⟨w.heap.size + 1, 0, none⟩) 3 3, .slice none 0 0] 30)
  clear cm cf
  go_enter Try.func4, Try.ntmps4
  go_wp2_with fail
  obtain ⟨W1, hW1⟩ : ∃ W1, ((w.alloc (.cells #[.int .i64 1, .int .i64 3, .int .i64 0, .int .i64 0, .int .i64 0, .int .i64 1, .int .i64 12, .int .i64 0, .int .i64 4, .int .i64 1, .int .i64 3, .int .i64 0] 41)).alloc (.cells #[.int .i64 1, .int .i64 2, .int .i64 0, .int .i64 0, .int .i64 0, .int .i64 10, .int .i64 4, .int .i64 0, .int .i64 0, .int .i64 2, .int .i64 0, .int .i64 0, .int .i64 2, .int .i64 0, .int .i64 0, .int .i64 1, .int .i64 0, .int .i64 0] 41)).alloc (.cells #[.int .i64 1, .slice (some ⟨w.heap.size, 0, none⟩) 2 2, .slice (some ⟨w.heap.size + 1, 0, none⟩) 3 3, .slice none 0 0] 30) = W1 := ⟨_, rfl⟩
  rw [hW1] at cm3 cf3 cp m3
  rw [hW1]
  have lp := cp.lt
  have hP : ProgAt W1.heap.size W1 1 (some ⟨w.heap.size, 0, none⟩) 2 2 ordOps (some ⟨w.heap.size + 1, 0, none⟩) 3 3 ordF none 0 0 [] :=
    ⟨by omega, by omega, ⟨opsAt_owns (ops := ordOps) (owns_block (n := 2) (size := 6) cm3 rfl (by unfold maxLen; omega)) rfl (by omega), by simp [ordOps], fine_ord⟩,
      ⟨opsAt_owns (ops := ordF) (owns_block (n := 3) (size := 6) cf3 rfl (by unfold maxLen; omega)) rfl (by omega), by simp [ordF], fine_ordF⟩, ⟨.inl ⟨_, _, rfl, rfl⟩, by simp, fun o ho => by cases ho⟩⟩
  clear hW1 cm3 cf3
  obtain ⟨j0, hj, hz0, hz1, hz2⟩ := info_parts info_pair
  go_loopw [4, 5, 6] (fun inv want i wr => ∃ q : Nat, q ≤ len ∧ i = .int .i64 q ∧ wr.ownsRow 0 36 2 inv q (flatP ((keyed xs).take q)) ∧ (∀ j, inBlock inv j → W1.heap.size ≤ j) ∧ want = I (horner (((keyed xs).take q).map (·.2))) ∧ Mod W1 wr Nob) (fun _ _ i _ => len - (intOf i).toNat)
  case atStart => exact ⟨0, Nat.zero_le _, rfl, World.ownsRow_nil _ _ _ _, fun j hj => by simp [inBlock, Value.ownBlock] at hj, rfl, Mod.refl _ _⟩
  case round =>
    obtain ⟨q, hq, rfl, hov, fov, rfl, hmr⟩ := hrel
    by_cases hlt : q < len
    · obtain ⟨x, hx⟩ : ∃ x, xs[q]? = some x := ⟨_, List.getElem?_eq_getElem (by rw [HL.out]; exact hlt)⟩
      have htk := keyed_take xs q x hx
      have c0 : wr.cell? ⟨b, off + q, none⟩ = some (.int .i64 x) := ((m3.trans hmr).cell hb nob).trans (hxs q x hx)
      have hu : 0 ≤ IntKind.u64.wrap x ∧ IntKind.u64.wrap x < 18446744073709551616 := by rw [IntKind.wrap_u64]; omega
      have hd := digit_toInt x
      have hh : horner (((keyed xs).take (q + 1)).map (·.2)) = 10 * horner (((keyed xs).take q).map (·.2)) + digit x := by
        rw [htk]
        simp [horner]
      have hfl : flatP ((keyed xs).take (q + 1)) = flatP ((keyed xs).take q) ++ [.int .i64 q, I (digit x)] := by
        rw [htk]
        simp [flatP, I, toInt_small q (by omega)]
      obtain ⟨hw, hhw⟩ : ∃ hw, horner (((keyed xs).take q).map (·.2)) = hw := ⟨_, rfl⟩
      obtain ⟨pre, hpre⟩ : ∃ pre, (keyed xs).take q = pre := ⟨_, rfl⟩
      obtain ⟨dv, hdv⟩ : ∃ dv, digit x = dv := ⟨_, rfl⟩
      rw [hhw, hdv] at hh
      rw [hdv] at hd hfl
      rw [hpre] at hfl hov
      rw [hhw]
      obtain ⟨mm, hmm⟩ : ∃ mm : W64, 10 * hw = mm := ⟨_, rfl⟩
      obtain ⟨nn, hnn⟩ : ∃ nn, mm + dv = nn := ⟨_, rfl⟩
      have e1 : wrap64 (10 * hw.toInt) = mm.toInt := by
        rw [← hmm, ← mul_i]
        rfl
      have e2 : wrap64 (mm.toInt + dv.toInt) = nn.toInt := by rw [← hnn, ← add_i]
      have e3 := (wrap_eq64 (10 * hw.toInt)).trans e1
      have e4 := (wrap_eq64 (mm.toInt + dv.toInt)).trans e2
      rw [hmm, hnn] at hh
      obtain ⟨oa, oc, rfl, _, _⟩ := owns_form hov
      have hA1 := (Mod.refl wr Nob).alloc (.cells #[.int .i64 q, I dv] 36)
      have hown1 := owns_mod hov hA1 (fun _ _ => nob)
      have hnb := CellsAt.new wr #[.int .i64 q, I dv] 36
      have HH := Lib.hid hh
      have HFL := Lib.hid hfl
      have hd0 : 0 ≤ dv.toInt := by rw [← hd]; omega
      have hd9 : dv.toInt < 10 := by rw [← hd]; omega
      clear hh hfl hpre hhw hmm hnn hdv htk hx
      go_wp2_with (at_builtin; refine wpList_append_lies _ rfl _ _ _ rfl 0 36 j0 _ 2 16 Try.underlying22 hj hz0 hz1 hz2 rfl (by omega) (.slice oa q oc) q _ rfl hown1 ⟨wr.heap.size, 0, none⟩ 1 1 [.int .i64 q, I dv] rfl rfl (World.news_of_block (cs := #[.int .i64 q, I dv]) (t := 36) (fr := (0, 0)) hnb) (by simp [Value.oneCell']) (by omega) (by unfold maxLen; omega) (by omega) (by simp) (wr.heap.size + 1) (by simp) ?_)
      intro gg cap3 w5 hown3 hgr3 hat3 hlt3
      have hm5 := (Mod.nob (T := inBlock (.slice oa q oc)) hA1).grown hgr3 (fun k hk => .inl hk)
      clear hA1 hown1 hnb hd
      go_wp2_with fail
      refine ⟨⟨q + 1, by omega, by go_num, by rw [HFL.out]; exact hown3, fun j hj => ?_, by rw [HH.out], hmr.drop hm5 (fun k hk => .inr (fov k hk))⟩, by simp [intOf]; omega⟩
      have e2 : gg = j := by simpa [inBlock, Value.ownBlock] using hj
      subst e2
      rcases hat3 with h0 | h0
      · exact fov _ h0
      · have := hmr.size; omega
    · obtain rfl : q = len := by omega
      have hall : (keyed xs).take q = keyed xs := List.take_of_length_le (by rw [keyed_length, HL.out]; exact Nat.le_refl _)
      rw [hall] at hov ⊢
      obtain ⟨oa, oc, rfl, _, _⟩ := owns_form hov
      obtain ⟨g, rfl⟩ : ∃ g, oa = some ⟨g, 0, none⟩ := by
        rcases hov.2 with ⟨_, h0⟩ | ⟨g, cap', cur, h0, _⟩
        · omega
        · cases h0; exact ⟨g, rfl⟩
      have hps : PairsAt wr.heap.size wr (.slice (some ⟨g, 0, none⟩) q oc) (keyed xs) := by
        refine .inr ⟨g, 0, oc, by rw [keyed_length, HL.out], (hov.lt g rfl).2, fun j p hj => ?_⟩
        obtain ⟨f0, f1⟩ := flatP_cell _ _ _ hj
        rw [Nat.zero_add]
        exact ⟨owns_cell hov _ _ f0, owns_cell hov _ _ f1⟩
      have hP2 := (hP.mod hmr (Nat.le_refl _)).mono (n₁ := wr.heap.size) hmr.size
      have hR := run_one hP2 (Nat.le_refl _) (some ⟨g, 0, none⟩) q oc (keyed xs) (by rw [keyed_length, HL.out]) hps hlen1 (by omega)
      rw [told_ord (keyed xs) (fun e => by have := keyed_length xs; rw [e, HL.out] at this; simp at this; omega)] at hR
      obtain ⟨hw, hhw⟩ : ∃ hw, horner ((keyed xs).map (·.2)) = hw := ⟨_, rfl⟩
      rw [hhw] at hR ⊢
      have cpr := cp.mod hmr nob
      have x0 := cpr.cell 0
      have x1 := cpr.cell 1
      have x2 := cpr.cell 2
      have x3 := cpr.cell 3
      simp at x0 x1 x2 x3
      clear hall hps hhw
      go_wp2_with fail
      refine hR.mono ?_
      rintro e w6 ⟨ov, rfl, ow, _, m6⟩
      rcases ow.2 with ⟨_, h0⟩ | ⟨g6, cap6, cur6, rfl, _⟩
      · simp at h0
      clear hR x0 x1 x2 x3
      have m36 := (m3.trans hmr).trans m6
      go_wp2_with fail
      refine (hA w6).mono ?_
      rintro e w7 ⟨rfl, m7⟩
      have ow7 := owns_mod ow m7 (fun _ _ => nob)
      have f0 : w7.cell? ⟨g6, 0, none⟩ = some (.int .i64 0) := owns_cell ow7 0 _ rfl
      have f1 : w7.cell? ⟨g6, 1, none⟩ = some (I hw) := owns_cell ow7 1 _ rfl
      have cpw := (cpr.mod m6 nob).mod m7 nob
      have x0 := cpw.cell 0
      have x1 := cpw.cell 1
      have x2 := cpw.cell 2
      have x3 := cpw.cell 3
      simp at x0 x1 x2 x3
      have hP7 := (hP2.mod m6 (Nat.le_refl _)).mod m7 m6.size
      have l67 := m6.size
      have l77 := m7.size
      replace m36 := m36.trans m7
      go_wp2_with fail
      refine (refcheck_yes hP7 (by omega)).mono ?_
      rintro e w8 ⟨rfl, m8⟩
      go_wp2_with fail
      go_ret
      exact ⟨rfl, m36.trans m8⟩

end Go.Proofs.Ytlnjfcnhgndocaa
