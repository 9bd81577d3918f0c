/- A program that adds (dominolaw12.sums), in memory. The condition: k is from 1 to 4. -/
import Derived.Test.YtlnjfcnhgndocaaVu
namespace Go.Proofs.Ytlnjfcnhgndocaa
open Go.RowKit Go.Shelf

def flatO (l : List Op1) : List Value := (l.map fun o => o.cells.toList).flatten
theorem flatO_length (l : List Op1) : (flatO l).length = l.length * 6 := by
  induction l with
  | nil => rfl
  | cons o l ih => simp [flatO, Op1.cells] at ih ⊢; omega
theorem flatO_append (l m : List Op1) : flatO (l ++ m) = flatO l ++ flatO m := by simp [flatO]
theorem flatO_cell : ∀ (l : List Op1) (j : Nat) (o : Op1), l[j]? = some o → ∀ (i : Nat) (v : Value), o.cells[i]? = some v → (flatO l)[j * 6 + i]? = some v
  | [], _, _, h, _, _, _ => by simp at h
  | x :: l, 0, o, h, i, v, hv => by
    simp at h
    subst h
    have hi : i < 6 := (Array.getElem?_eq_some_iff.1 hv).1
    simp only [flatO, List.map_cons, List.flatten_cons, Nat.zero_mul, Nat.zero_add]
    rw [List.getElem?_append_left (by simpa [Op1.cells] using hi), Array.getElem?_toList]
    exact hv
  | x :: l, j + 1, o, h, i, v, hv => by
    have ih := flatO_cell l j o (by simpa using h) i v hv
    simp only [flatO, List.map_cons, List.flatten_cons]
    rw [List.getElem?_append_right (by simp [Op1.cells]; omega), show (j + 1) * 6 + i - x.cells.toList.length = j * 6 + i by simp [Op1.cells]; omega]
    exact ih

/-- A row of operations of the call's own. -/
theorem opsAt_owns {n₀ : Nat} {w : World} {base g n cap : Nat} {ops : List Op1} (h : w.ownsRow base 41 6 (.slice (some ⟨g, 0, none⟩) n cap) n (flatO ops)) (hn : ops.length = n) (hg : g < n₀) : OpsAt n₀ w (.slice (some ⟨g, 0, none⟩) n cap) ops := by
  refine .inr ⟨g, 0, cap, by rw [hn], hg, fun j o hj i v hi => ?_⟩
  rw [Nat.zero_add]
  exact owns_cell6 h _ _ (flatO_cell ops j o hj i v hi)
where
  owns_cell6 {w : World} {base : Nat} {e : TypeId} {size g cap n : Nat} {xs : List Value} (h : w.ownsRow base e size (.slice (some ⟨g, 0, none⟩) n cap) n xs) (q : Nat) (u : Value) (hq : xs[q]? = some u) : w.cell? ⟨g, q, none⟩ = some u := owns_cell h q u hq

/-- A block of cells is a row that is full. -/
theorem owns_block {w : World} {g n : Nat} {e : TypeId} {size : Nat} {cs : Array Value} (h : CellsAt w g cs e) (hs : cs.size = n * size) (hn : n ≤ maxLen) : w.ownsRow 0 e size (.slice (some ⟨g, 0, none⟩) n n) n cs.toList :=
  ⟨by simp [hs], .inr ⟨g, n, cs, rfl, Nat.zero_le _, h, Nat.le_refl _, hn, hs, by rw [List.take_of_length_le (by simp [hs])]⟩⟩

theorem toInt_small (k : Nat) (h : k < 1000000) : (BitVec.ofNat 64 k).toInt = (k : Int) := by
  rw [BitVec.toInt_eq_toNat_cond, BitVec.toNat_ofNat, Nat.mod_eq_of_lt (by omega), if_pos (by omega)]

def setOp (d : Int) (n : W64) : Op1 := ⟨1, d, 0, 0, 0, n⟩
def addOp : Op1 := ⟨2, 0, 0, 1, 0, 0⟩
def emitOp (i : Nat) : Op1 := ⟨12, 0, 0, 1, 3, BitVec.ofNat 64 i⟩
def sumOps (k : Nat) : List Op1 := setOp 3 1 :: (List.range k).map emitOp
theorem sumOps_succ (k : Nat) : sumOps (k + 1) = sumOps k ++ [emitOp k] := by simp [sumOps, List.range_succ]
theorem sumOps_length (k : Nat) : (sumOps k).length = k + 1 := by simp [sumOps]

theorem fine_set (k : Nat) (d : Int) (n : W64) (h0 : 0 ≤ d) (h1 : d < 8) : FineOp k (setOp d n) :=
  ⟨⟨h0, h1, by simp [setOp], by simp [setOp], by simp [setOp], by simp [setOp], by simp [setOp], by simp [setOp], by simp [setOp]⟩, by simp [setOp], by simp [setOp], by simp [setOp], by simp [setOp]⟩
theorem fine_add (k : Nat) : FineOp k addOp :=
  ⟨⟨by simp [addOp], by simp [addOp], by simp [addOp], by simp [addOp], by simp [addOp], by simp [addOp], by simp [addOp], by simp [addOp], by simp [addOp]⟩, by simp [addOp], by simp [addOp], by simp [addOp], by simp [addOp]⟩
theorem fine_emit (k i : Nat) (hi : i < k) (hk : k < 1000) : FineOp k (emitOp i) := by
  have h1 : (BitVec.ofNat 64 i).toInt = (i : Int) := toInt_small i (by omega)
  have h2 : (BitVec.ofNat 64 i).toNat = i := by rw [BitVec.toNat_ofNat, Nat.mod_eq_of_lt (by omega)]
  refine ⟨⟨by simp [emitOp], by simp [emitOp], by simp [emitOp], by simp [emitOp], by simp [emitOp], by simp [emitOp], by simp [emitOp], by simp [emitOp], fun _ => ?_⟩, by simp [emitOp], by simp [emitOp], fun _ => ?_, fun _ => ?_⟩
  · show (BitVec.ofNat 64 i).toNat < k
    omega
  · show 0 ≤ (BitVec.ofNat 64 i).toInt
    omega
  · show (BitVec.ofNat 64 i).toInt < k
    omega
theorem fine_sums (k : Nat) (hk : k < 1000) : ∀ o ∈ sumOps k, FineOp k o := by
  intro o ho
  rcases List.mem_cons.1 ho with rfl | h
  · exact fine_set k 3 1 (by decide) (by decide)
  · obtain ⟨i, hi, rfl⟩ := List.mem_map.1 h
    exact fine_emit k i (List.mem_range.1 hi) hk

theorem info_op : (Try.prog.info? 41).map (fun i => (i.zero, i.size, i.bytes)) = some (some (.agg #[.int .i64 0, .int .i64 0, .int .i64 0, .int .i64 0, .int .i64 0, .int .i64 0]), 6, 48) := by kernel_rfl

set_option maxRecDepth 100000 in
set_option maxHeartbeats 1000000 in
theorem sums_any (k : Nat) (hk1 : 1 ≤ k) (hk4 : k ≤ 4) (w : World) : Calls Try.prog 10 #[.int .i64 k] w fun e w' =>
    ∃ a1 c1 a2 c2, e = .returned (.agg #[.int .i64 k, .slice a1 (k + 1) c1, .slice a2 1 c2, .slice none 0 0]) ∧ ProgAt w'.heap.size w' k a1 (k + 1) c1 (sumOps k) a2 1 c2 [addOp] none 0 0 [] ∧ Mod w w' Nob := by
  go_enter Try.func10, Try.ntmps10
  go_wp2_with fail
  have hm0 := ((((Mod.refl w Nob).alloc (.cells #[.int .i64 0, .slice none 0 0, .slice none 0 0, .slice none 0 0] 30)).alloc (.cells #[.int .i64 1, .int .i64 3, .int .i64 0, .int .i64 0, .int .i64 0, .int .i64 1] 41)).alloc (.cells #[.int .i64 2, .int .i64 0, .int .i64 0, .int .i64 1, .int .i64 0, .int .i64 0] 41)).alloc (.cells #[.int .i64 k, .slice (some ⟨w.heap.size + 1, 0, none⟩) 1 1, .slice (some ⟨w.heap.size + 1 + 1, 0, none⟩) 1 1, .slice none 0 0] 30)
  have cR := (((CellsAt.new w #[.int .i64 0, .slice none 0 0, .slice none 0 0, .slice none 0 0] 30).alloc (.cells #[.int .i64 1, .int .i64 3, .int .i64 0, .int .i64 0, .int .i64 0, .int .i64 1] 41)).alloc (.cells #[.int .i64 2, .int .i64 0, .int .i64 0, .int .i64 1, .int .i64 0, .int .i64 0] 41)).alloc (.cells #[.int .i64 k, .slice (some ⟨w.heap.size + 1, 0, none⟩) 1 1, .slice (some ⟨w.heap.size + 1 + 1, 0, none⟩) 1 1, .slice none 0 0] 30)
  have cO := ((CellsAt.new (w.alloc (.cells #[.int .i64 0, .slice none 0 0, .slice none 0 0, .slice none 0 0] 30)) #[.int .i64 1, .int .i64 3, .int .i64 0, .int .i64 0, .int .i64 0, .int .i64 1] 41).alloc (.cells #[.int .i64 2, .int .i64 0, .int .i64 0, .int .i64 1, .int .i64 0, .int .i64 0] 41)).alloc (.cells #[.int .i64 k, .slice (some ⟨w.heap.size + 1, 0, none⟩) 1 1, .slice (some ⟨w.heap.size + 1 + 1, 0, none⟩) 1 1, .slice none 0 0] 30)
  have cF := (CellsAt.new ((w.alloc (.cells #[.int .i64 0, .slice none 0 0, .slice none 0 0, .slice none 0 0] 30)).alloc (.cells #[.int .i64 1, .int .i64 3, .int .i64 0, .int .i64 0, .int .i64 0, .int .i64 1] 41)) #[.int .i64 2, .int .i64 0, .int .i64 0, .int .i64 1, .int .i64 0, .int .i64 0] 41).alloc (.cells #[.int .i64 k, .slice (some ⟨w.heap.size + 1, 0, none⟩) 1 1, .slice (some ⟨w.heap.size + 1 + 1, 0, none⟩) 1 1, .slice none 0 0] 30)
  have cB := CellsAt.new (((w.alloc (.cells #[.int .i64 0, .slice none 0 0, .slice none 0 0, .slice none 0 0] 30)).alloc (.cells #[.int .i64 1, .int .i64 3, .int .i64 0, .int .i64 0, .int .i64 0, .int .i64 1] 41)).alloc (.cells #[.int .i64 2, .int .i64 0, .int .i64 0, .int .i64 1, .int .i64 0, .int .i64 0] 41)) #[.int .i64 k, .slice (some ⟨w.heap.size + 1, 0, none⟩) 1 1, .slice (some ⟨w.heap.size + 1 + 1, 0, none⟩) 1 1, .slice none 0 0] 30
  simp only [World.size_alloc] at cO cF cB
  obtain ⟨W0, hW0⟩ : ∃ W0, ((((w.alloc (.cells #[.int .i64 0, .slice none 0 0, .slice none 0 0, .slice none 0 0] 30)).alloc (.cells #[.int .i64 1, .int .i64 3, .int .i64 0, .int .i64 0, .int .i64 0, .int .i64 1] 41)).alloc (.cells #[.int .i64 2, .int .i64 0, .int .i64 0, .int .i64 1, .int .i64 0, .int .i64 0] 41)).alloc (.cells #[.int .i64 k, .slice (some ⟨w.heap.size + 1, 0, none⟩) 1 1, .slice (some ⟨w.heap.size + 1 + 1, 0, none⟩) 1 1, .slice none 0 0] 30)) = W0 := ⟨_, rfl⟩
  rw [hW0] at hm0 cR cO cF cB ⊢
  obtain ⟨H, hH⟩ : ∃ H, w.heap.size = H := ⟨_, rfl⟩
  rw [hH] at cR cO cF cB ⊢
  have HH := Lib.hid hH
  have oO := owns_block (n := 1) (size := 6) cO rfl (by unfold maxLen; omega)
  clear hW0 hH cO
  obtain ⟨j0, hj, hz0, hz1, hz2⟩ := info_parts info_op
  go_loopw [4] (fun i wr => ∃ q : Nat, q ≤ k ∧ i = .int .i64 q ∧ ∃ g cap, CellsAt wr (H + 1 + 1 + 1) #[.int .i64 k, .slice (some ⟨g, 0, none⟩) (q + 1) cap, .slice (some ⟨H + 1 + 1, 0, none⟩) 1 1, .slice none 0 0] 30 ∧
    wr.ownsRow 0 41 6 (.slice (some ⟨g, 0, none⟩) (q + 1) cap) (q + 1) (flatO (sumOps q)) ∧ (g = H + 1 ∨ H + 1 + 1 + 1 < g) ∧ CellsAt wr (H + 1 + 1) #[.int .i64 2, .int .i64 0, .int .i64 0, .int .i64 1, .int .i64 0, .int .i64 0] 41 ∧
    CellsAt wr H #[.int .i64 0, .slice none 0 0, .slice none 0 0, .slice none 0 0] 30 ∧ Mod w wr Nob) (fun i _ => k - (intOf i).toNat)
  case atStart => exact ⟨0, Nat.zero_le _, rfl, H + 1, 1, cB, oO, .inl rfl, cF, cR, hm0⟩
  case round =>
    obtain ⟨q, hq, rfl, g, cap, cb, og, hg, cf, cr, hm⟩ := hrel
    have lb := cb.lt
    by_cases hlt : q < k
    · have b1 := cb.cell 1
      simp at b1
      have hA := (Mod.refl wr Nob).alloc (.cells #[.int .i64 12, .int .i64 0, .int .i64 0, .int .i64 1, .int .i64 3, .int .i64 q] 41)
      have hown1 := owns_mod og hA (fun _ _ => nob)
      have hnb := CellsAt.new wr #[.int .i64 12, .int .i64 0, .int .i64 0, .int .i64 1, .int .i64 3, .int .i64 q] 41
      go_wp2_with (at_builtin; refine wpList_append_lies _ rfl _ _ _ rfl 0 41 j0 _ 6 48 Try.underlying28 hj hz0 hz1 hz2 rfl (by omega) (.slice (some ⟨g, 0, none⟩) (q + 1) cap) (q + 1) _ rfl hown1 ⟨wr.heap.size, 0, none⟩ 1 1 [.int .i64 12, .int .i64 0, .int .i64 0, .int .i64 1, .int .i64 3, .int .i64 q] rfl rfl (World.news_of_block (cs := #[.int .i64 12, .int .i64 0, .int .i64 0, .int .i64 1, .int .i64 3, .int .i64 q]) (t := 41) (fr := (0, 0)) hnb) (by simp [Value.oneCell']) (by omega) (by unfold maxLen; omega) (by omega) (by simp) (wr.heap.size + 1) (by simp) ?_)
      intro gg cap3 w3 hown3 hgr3 hat3 hlt3
      have hm3 := (Mod.nob (T := (· = g)) hA).grown hgr3 (fun k hk => .inl (by simpa [Value.ownBlock] using hk.symm))
      have cb3 := cb.mod hm3 (by omega)
      have d1 := cb3.cell 1
      have e1 := cb3.free 1
      simp at d1
      have cbS := cb3.set 1 (.slice (some ⟨gg, 0, none⟩) (q + 1 + 1) cap3)
      have hmS : Mod w3 (w3.setCell ⟨H + 1 + 1 + 1, 1, none⟩ (.slice (some ⟨gg, 0, none⟩) (q + 1 + 1) cap3)) (· = H + 1 + 1 + 1) := (Mod.refl w3 (· = H + 1 + 1 + 1)).setCell (p := ⟨H + 1 + 1 + 1, 1, none⟩) (.inl rfl) _
      have hgg : gg = H + 1 ∨ H + 1 + 1 + 1 < gg := by
        rcases hat3 with h0 | h0
        · have e : g = gg := by simpa [Value.ownBlock] using h0
          omega
        · omega
      have hoS := owns_mod hown3 hmS (fun k hk e => by have e2 : gg = k := by simpa [inBlock, Value.ownBlock] using hk
                                                       omega)
      have hxs : flatO (sumOps q) ++ [.int .i64 12, .int .i64 0, .int .i64 0, .int .i64 1, .int .i64 3, .int .i64 q] = flatO (sumOps (q + 1)) := by
        rw [sumOps_succ, flatO_append]
        simp [flatO, emitOp, Op1.cells, I, toInt_small q (by omega)]
      rw [hxs] at hoS
      have HO := Lib.hid hoS
      clear hoS hxs hown3 hown1 hnb
      go_wp2_with fail
      go_roundw
      case rel =>
        exact ⟨q + 1, by omega, by go_num, gg, cap3, by simpa using cbS, HO.out, hgg, (cf.mod hm3 (by omega)).mod hmS (by omega), (cr.mod hm3 (by omega)).mod hmS (by omega),
          (hm.drop hm3 (fun k hk => .inr (by have e : k = g := hk
                                             have := HH.out
                                             omega))).drop hmS (fun k hk => .inr (by have e : k = H + 1 + 1 + 1 := hk
                                                                                     have := HH.out
                                                                                     omega))⟩
      case measure => simp [intOf]; omega
    · obtain rfl : q = k := by omega
      have b0 := cb.cell 0
      have b1 := cb.cell 1
      have b2 := cb.cell 2
      have b3 := cb.cell 3
      have r0 := cr.cell 0
      have r1 := cr.cell 1
      have r2 := cr.cell 2
      have r3 := cr.cell 3
      have f0 := cr.free 0
      have f1 := cr.free 1
      have f2 := cr.free 2
      have f3 := cr.free 3
      simp at b0 b1 b2 b3 r0 r1 r2 r3
      go_wp2_with fail
      have cS := (((cr.set 0 (.int .i64 q)).set 1 (.slice (some ⟨g, 0, none⟩) (q + 1) cap)).set 2 (.slice (some ⟨H + 1 + 1, 0, none⟩) 1 1)).set 3 (.slice none 0 0)
      have hmS : Mod wr ((((wr.setCell ⟨H, 0, none⟩ (.int .i64 q)).setCell ⟨H, 1, none⟩ (.slice (some ⟨g, 0, none⟩) (q + 1) cap)).setCell ⟨H, 2, none⟩ (.slice (some ⟨H + 1 + 1, 0, none⟩) 1 1)).setCell ⟨H, 3, none⟩ (.slice none 0 0)) (· = H) :=
        ((((Mod.refl wr (· = H)).setCell (p := ⟨H, 0, none⟩) (.inl rfl) _).setCell (p := ⟨H, 1, none⟩) (.inl rfl) _).setCell (p := ⟨H, 2, none⟩) (.inl rfl) _).setCell (p := ⟨H, 3, none⟩) (.inl rfl) _
      have ogS := owns_mod og hmS (fun k hk e => by have e2 : g = k := by simpa [inBlock, Value.ownBlock] using hk
                                                    omega)
      have cfS := cf.mod hmS (by omega)
      have hmm := hm.drop hmS (fun k hk => .inr (by have e : k = H := hk
                                                    have := HH.out
                                                    omega))
      have lgS := (ogS.lt g rfl).2
      have lfS := cfS.lt
      obtain ⟨W', hW'⟩ : ∃ W', ((((wr.setCell ⟨H, 0, none⟩ (.int .i64 q)).setCell ⟨H, 1, none⟩ (.slice (some ⟨g, 0, none⟩) (q + 1) cap)).setCell ⟨H, 2, none⟩ (.slice (some ⟨H + 1 + 1, 0, none⟩) 1 1)).setCell ⟨H, 3, none⟩ (.slice none 0 0)) = W' := ⟨_, rfl⟩
      rw [hW'] at cS ogS cfS hmm lgS lfS ⊢
      have d0 := cS.cell 0
      have d1 := cS.cell 1
      have d2 := cS.cell 2
      have d3 := cS.cell 3
      simp at d0 d1 d2 d3
      have oF := owns_block (n := 1) (size := 6) cfS rfl (by unfold maxLen; omega)
      refine bodyPost_ret (v := .agg #[.int .i64 q, .slice (some ⟨g, 0, none⟩) (q + 1) cap, .slice (some ⟨H + 1 + 1, 0, none⟩) 1 1, .slice none 0 0]) (by simp [results, Try.f10, go_sem, d0, d1, d2, d3]) rfl
        ⟨_, _, _, _, rfl, ⟨hk1, hk4, ⟨opsAt_owns ogS (sumOps_length q) lgS, by rw [sumOps_length]; omega, fine_sums q (by omega)⟩, ⟨opsAt_owns (ops := [addOp]) oF rfl lfS, by simp, fun o ho => by rw [List.mem_singleton.1 ho]; exact fine_add 0⟩,
          ⟨.inl ⟨_, _, rfl, rfl⟩, by simp, fun o ho => by cases ho⟩⟩, hmm⟩

end Go.Proofs.Ytlnjfcnhgndocaa
