/- The records that a pair is mapped to (vm.Map). No condition. -/
import Derived.Test.YtlnjfcnhgndocaaVh
import Derived.Deep.RegionLaw
import Derived.Deep.AppendLies
namespace Go.Proofs.Ytlnjfcnhgndocaa
open Go.RowKit

theorem info_record : (Try.prog.info? 56).map (fun i => (i.zero, i.size, i.bytes)) = some (some (.agg #[.bool false, .int .i64 0, .int .i64 0, .int .i64 0]), 4, 32) := by kernel_rfl

section
variable {n₀ : Nat} {w w' : World} {K : Nat} {a1 : Option Addr} {l1 c1 : Nat} {ms : List Op1} {a2 : Option Addr} {l2 c2 : Nat} {fs : List Op1} {a3 : Option Addr} {l3 c3 : Nat} {ns : List Op1}

set_option maxRecDepth 100000 in
set_option maxHeartbeats 1000000 in
theorem map_any (h : ProgAt n₀ w K a1 l1 c1 ms a2 l2 c2 fs a3 l3 c3 ns) (hn : n₀ ≤ w.heap.size) (num key v : W64) :
    Calls Try.prog 15 #[.agg #[.int .i64 K, .slice a1 l1 c1, .slice a2 l2 c2, .slice a3 l3 c3], I num, .agg #[I key, I v]] w fun e w' =>
      ∃ sv, e = .returned sv ∧ w'.ownsRow 0 56 4 sv K (Mach.run (num * BitVec.ofNat 64 K) ⟨[key, v, num, 0, 0, 0, 0, 0], (List.replicate K rec0.cells).flatten⟩ ms).xs ∧ (∀ j, inBlock sv j → w.heap.size ≤ j) ∧ Mod w w' Nob := by
  have hK4 := h.k4
  have hseq : wrap64 (num.toInt * (K : Int)) = (num * BitVec.ofNat 64 K).toInt := by
    rw [← mul_i]
    congr 2
    rw [BitVec.toInt_eq_toNat_cond, BitVec.toNat_ofNat, Nat.mod_eq_of_lt (by omega)]
    rw [if_pos (by omega)]
  obtain ⟨seq, hsq⟩ : ∃ seq, num * BitVec.ofNat 64 K = seq := ⟨_, rfl⟩
  rw [hsq] at hseq ⊢
  clear hsq
  go_enter Try.func15, Try.ntmps15
  go_wp2_with fail
  have hB := ((Mod.refl w Nob).alloc (.cells #[.int .i64 K, .slice a1 l1 c1, .slice a2 l2 c2, .slice a3 l3 c3] 30)).alloc (.cells #[I key, I v] 36)
  have cP := (CellsAt.new w #[.int .i64 K, .slice a1 l1 c1, .slice a2 l2 c2, .slice a3 l3 c3] 30).alloc (.cells #[I key, I v] 36)
  have cI := CellsAt.new (w.alloc (.cells #[.int .i64 K, .slice a1 l1 c1, .slice a2 l2 c2, .slice a3 l3 c3] 30)) #[I key, I v] 36
  rw [World.size_alloc] at cI
  obtain ⟨W, hW⟩ : ∃ W, (w.alloc (.cells #[.int .i64 K, .slice a1 l1 c1, .slice a2 l2 c2, .slice a3 l3 c3] 30)).alloc (.cells #[I key, I v] 36) = W := ⟨_, rfl⟩
  rw [hW] at hB cP cI ⊢
  have lW := hB.size
  refine (check_yes (h.mod hB hn) (by omega)).mono ?_
  rintro e w1 ⟨rfl, m1⟩
  replace cP := cP.mod m1 nob
  replace cI := cI.mod m1 nob
  have p0 := cP.cell 0
  have p1 := cP.cell 1
  have i0 := cI.cell 0
  have i1 := cI.cell 1
  simp at p0 p1 i0 i1
  replace m1 := hB.trans m1
  have lw1 := m1.size
  have lI := cI.lt
  clear hB hW
  go_wp2_with fail
  go_region
  have hm2 := ((Mod.refl w1 Nob).alloc (.cells #[I key, I v, I num, .int .i64 0, .int .i64 0, .int .i64 0, .int .i64 0, .int .i64 0, .slice none 0 0, I seq] 64)).drew
  have cM := (CellsAt.new w1 #[I key, I v, I num, .int .i64 0, .int .i64 0, .int .i64 0, .int .i64 0, .int .i64 0, .slice none 0 0, I seq] 64).mod ((Mod.refl _ Nob).drew) nob
  have hsz : ((w1.alloc (.cells #[I key, I v, I num, .int .i64 0, .int .i64 0, .int .i64 0, .int .i64 0, .int .i64 0, .slice none 0 0, I seq] 64)).drew).heap.size = w1.heap.size + 1 := by simp
  obtain ⟨W2, hW2⟩ : ∃ W2, (w1.alloc (.cells #[I key, I v, I num, .int .i64 0, .int .i64 0, .int .i64 0, .int .i64 0, .int .i64 0, .slice none 0 0, I seq] 64)).drew = W2 := ⟨_, rfl⟩
  rw [hW2] at hm2 cM hsz ⊢
  have em : machine [key, v, num, 0, 0, 0, 0, 0] (.slice none 0 0) seq = #[I key, I v, I num, .int .i64 0, .int .i64 0, .int .i64 0, .int .i64 0, .int .i64 0, .slice none 0 0, I seq] := by simp [machine]
  have hM : MachAt W2 w1.heap.size (.slice none 0 0) 0 seq ⟨[key, v, num, 0, 0, 0, 0, 0], []⟩ := ⟨by rw [em]; exact cM, rfl, World.ownsRow_nil _ _ _ _, rfl, by simp [inBlock, Value.ownBlock]⟩
  have hm3 := m1.trans hm2
  have q0 : W2.cell? ⟨w.heap.size, 0, none⟩ = some (.int .i64 K) := by rw [hm2.cell (by omega) nob]; exact p0
  clear hW2 em cM
  obtain ⟨j0, hj, hz0, hz1, hz2⟩ := info_parts info_record
  go_wp2_with fail
  go_loopw [36] (fun i wr => ∃ q : Nat, q ≤ K ∧ i = .int .i64 q ∧ ∃ sv, MachAt wr w1.heap.size sv q seq ⟨[key, v, num, 0, 0, 0, 0, 0], (List.replicate q rec0.cells).flatten⟩ ∧ (∀ j, inBlock sv j → w1.heap.size ≤ j) ∧ Mod w wr Nob ∧ wr.cell? ⟨w.heap.size, 1, none⟩ = some (.slice a1 l1 c1)) (fun i _ => K - (intOf i).toNat)
  case atStart => exact ⟨0, Nat.zero_le _, rfl, _, hM, fun j hj => by simp [inBlock, Value.ownBlock] at hj, hm3, by rw [hm2.cell (by omega) nob]; exact p1⟩
  case round =>
    obtain ⟨q, hq, rfl, sv, hMr, hsv, hmr, hpm⟩ := hrel
    by_cases hlt : q < K
    · have c8 := hMr.cells.cell 8
      have f8 := hMr.cells.free 8
      obtain ⟨a8, k8, rfl, _, _⟩ := owns_form hMr.slots
      simp [machine] at c8
      have hown := hMr.slots
      have lwr := hMr.cells.lt
      have hown1 := owns_mod hown ((Mod.refl wr Nob).alloc (.cells #[.bool true, .int .i64 0, .int .i64 0, .int .i64 0] 56)) (fun _ _ => nob)
      have hK4' := hK4
      go_wp2_with (at_builtin; refine wpList_append_lies _ rfl _ _ _ rfl 0 56 j0 _ 4 32 Try.underlying53 hj hz0 hz1 hz2 rfl (by omega) (.slice a8 q k8) q _ rfl hown1 ⟨wr.heap.size, 0, none⟩ 1 1 [.bool true, .int .i64 0, .int .i64 0, .int .i64 0] rfl rfl (World.news_of_block (cs := #[.bool true, .int .i64 0, .int .i64 0, .int .i64 0]) (t := 56) (fr := (0, 0)) (heap_alloc_new wr _)) (by simp [Value.oneCell']) (by omega) (by unfold maxLen; omega) (by omega) (by simp) (wr.heap.size + 1) (by simp) ?_)
      intro gg cap w2 hown2 hgrow hat hlt2
      have hmA := ((Mod.refl wr (inBlock (.slice a8 q k8))).alloc (.cells #[.bool true, .int .i64 0, .int .i64 0, .int .i64 0] 56)).grown hgrow (fun k hk => .inl hk)
      have cA := hMr.cells.mod hmA hMr.ne
      have d8 := cA.cell 8
      have e8 := cA.free 8
      simp [machine] at d8
      have hgm : gg ≠ w1.heap.size := fun e => by
        rcases hat with h1 | h1
        · exact hMr.ne (by rw [← e]; exact h1)
        · omega
      have hmS : Mod w2 (w2.setCell ⟨w1.heap.size, 8, none⟩ (.slice (some ⟨gg, 0, none⟩) (q + 1) cap)) (· = w1.heap.size) := (Mod.refl w2 (· = w1.heap.size)).setCell (p := ⟨w1.heap.size, 8, none⟩) (.inl rfl) _
      have hcS := cA.set 8 (.slice (some ⟨gg, 0, none⟩) (q + 1) cap)
      have hrep : (List.replicate q rec0.cells).flatten ++ [.bool true, .int .i64 0, .int .i64 0, .int .i64 0] = (List.replicate (q + 1) rec0.cells).flatten := by
        rw [List.replicate_succ', List.flatten_append]
        simp [rec0, Rec1.cells]
      rw [hrep] at hown2
      have hoS := owns_mod hown2 hmS (fun k hk e => hgm (by have e2 : gg = k := by simpa [inBlock, Value.ownBlock] using hk
                                                            rw [e2, e]))
      have HO := Lib.hid hoS
      have HN := Lib.hid hown2
      clear hrep hoS hown2
      go_wp2_with fail
      refine ⟨⟨q + 1, by omega, by omega, .slice (some ⟨gg, 0, none⟩) (q + 1) cap, ⟨by simpa [machine] using hcS, rfl, HO.out, HN.out.1, fun e => hgm (by simpa [inBlock, Value.ownBlock] using e)⟩, fun j hj => ?_, ?_, ?_⟩, by simp [intOf]; omega⟩
      · have e2 : gg = j := by simpa [inBlock, Value.ownBlock] using hj
        subst e2
        rcases hat with h1 | h1
        · exact hsv gg h1
        · omega
      · exact (hmr.drop hmA (fun k hk => .inr (by have := hsv k hk; omega))).drop hmS (fun k hk => .inr (by omega))
      · rw [hmA.cell (cell_lt hpm) (fun hk => by have := hsv _ hk; omega)]
        exact hpm
    · obtain rfl : q = K := by omega
      obtain ⟨lo, hlo⟩ := sub_ops ms (fun o ho => (h.m.fine o ho).good)
      have lwr := hMr.cells.lt
      go_wp2_with fail
      refine (run_any w1.heap.size q sv seq _ a1 l1 c1 lo w1.heap.size wr hMr (by omega) (Nat.le_refl _) hsv
        (by rw [hlo]; exact ((h.m.mod hmr hn).at_).mono (by omega)) (by have h40 := h.m.len40; rw [← hlo, List.length_map] at h40; omega) (by omega)).mono ?_
      rintro e w3 ⟨rfl, hR, hBe⟩
      rw [hlo] at hR
      have c8 := hR.cells.cell 8
      have h8 := hR.r8
      obtain ⟨R, hRR⟩ : ∃ R, Mach.run seq ⟨[key, v, num, 0, 0, 0, 0, 0], (List.replicate q rec0.cells).flatten⟩ ms = R := ⟨_, rfl⟩
      have HR := Lib.hid hRR
      rw [hRR] at c8 h8 hR
      have c8' : w3.cell? ⟨w1.heap.size, 8, none⟩ = some sv := by
        rw [c8]
        unfold machine
        rw [List.getElem?_toArray, List.getElem?_append_right (by simp [h8])]
        simp [h8]
      clear c8 hRR
      have hslots := hR.slots
      go_wp2_with fail
      go_ret
      refine ⟨sv, rfl, ?_, fun j hj => Nat.le_trans lw1 (hsv j hj), ?_⟩
      · rw [HR.out]
        exact hslots
      · exact hmr.drop (T := fun k => w1.heap.size ≤ k) ⟨hBe.os, hBe.tape, hBe.output, hBe.size, fun k _ hn' => hBe.block k (by omega)⟩ (fun k hk => .inr (by omega))
end
end Go.Proofs.Ytlnjfcnhgndocaa
