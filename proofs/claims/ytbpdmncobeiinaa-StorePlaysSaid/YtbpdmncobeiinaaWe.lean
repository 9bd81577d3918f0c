/- The names of a store, told one by one. The condition: each thing shown was a change (Sto.Fair). -/
import Derived.RangeFuncNested
import Derived.RangeFuncBound
import Derived.RangeFuncCalls
import Derived.RangeFuncLeaves
import Derived.Shelf.Abstract
import Derived.Shelf.RegionOpen
import Derived.OwnWalkIn
import Derived.TacticsInMore
import Derived.LoopNIn
import Derived.LoopIn
import Derived.Test.YtbpdmncobeiinaaNa
import Derived.Test.YtbpdmncobeiinaaWb
namespace Go.Proofs.Ytbpdmncobeiinaa
open Go.RowKit Go.Shelf
attribute [local go_sem] Oper.semAt_some

/-- What a list of names is to a store: those that are shown, by rising bytes. -/
def NamesIn (σ : Sto) (ns : List ByteArray) : Prop := ns.Nodup ∧ (∀ k, k ∈ ns ↔ (σ.shows k).isSome = true) ∧ Rising ns

theorem Mod.of_below2 {w w' : World} (h : Below w.heap.size w w') : Mod w w' Nob := ⟨h.os, h.tape, h.output, h.size, fun k hk _ => h.block k hk⟩

set_option maxRecDepth 100000 in
set_option maxHeartbeats 2000000 in
theorem names_stops (n : Nat) (hn : 1 ≤ n) (Bn b : Nat) (σ : Sto) (x : StoB) (w : World) (hb : w.cell? ⟨Bn, 0, none⟩ = some (.pointer (some ⟨b, 0, none⟩))) (h : StoreAt w b σ x) (hf : σ.Fair) (hN : σ.changes.length ≤ 1000000000)
    (Kp : World → World → Prop) (Prot : World → Nat → Prop) (hKr : ∀ A, Kp A A) (hKt : ∀ {A B C : World}, Kp A B → Kp B C → Kp A C)
    (hfresh : ∀ W W4 k, Below w.heap.size w W → Below W.heap.size W W4 → W.heap.size ≤ k → (∃ o : Obj, W4.heap[k]? = some o ∧ o.isCells = true) → Prot W4 k)
    (hprot : ∀ A B k, Kp A B → Prot A k → k < A.heap.size → B.heap[k]? = A.heap[k]?) :
    SeqStopsK Fence.wide n Try.prog 54 #[.pointer (some ⟨Bn, 0, none⟩)] (fun nm : ByteArray => #[.string nm]) Kp (NamesIn σ) (fun pre => ∃ ns, NamesIn σ ns ∧ pre <+: ns) σ.changes.length w := by
  intro l J Jx W hW hJ hJx hY h0
  have hmW := Mod.of_below2 hW
  have hc : W.cell? ⟨Bn, 0, none⟩ = some (.pointer (some ⟨b, 0, none⟩)) := by rw [hmW.cell (cell_lt hb) nob]; exact hb
  have hst := h.still hmW
  obtain ⟨f, hmp, hf2⟩ := hst.shows
  have hsome : ∀ k, (f k).isSome = (σ.shows k).isSome := fun k => some_of (hf2 k)
  have c0 := hst.cells.cell 0
  simp at c0
  have hso := sorted_bytes (w := W) hmp (fun k hk => by
    rw [hsome] at hk
    obtain ⟨c, hc', rfl⟩ := List.mem_map.1 (hf.shown k hk)
    exact hf.size c hc') (σ.changes.map (·.1)) (fun k hk => by rw [hsome] at hk; exact hf.shown k hk) (by rw [List.length_map]; exact hN)
  refine callsIn_of_wp Try.func54 rfl trivial ?_ rfl
  simp only [Try.ntmps54, List.size_toArray, List.length_cons, List.length_nil, Nat.reduceAdd, Nat.reduceSub, Array.replicate_succ, Array.replicate_zero, List.push_toArray, List.append_toArray, List.nil_append, List.cons_append]
  gi_wp2
  refine ⟨trivial, (callsIn_wide.2 ((callsIn_wide (n := 5)).1 (keys_bytes (some x.ms) W))).mono ?_⟩
  rintro e w' ⟨rfl, rfl⟩
  gi_wp2
  refine ⟨trivial, (callsIn_wide.2 ((callsIn_wide (n := 5)).1 hso)).mono ?_⟩
  rintro e w4 ⟨nv, ns, rfl, n1, n2, n3, n4, orow, hbl⟩
  have hm4 : Mod W w4 Nob := ((Mod.refl W Nob).alloc (.cells #[.map (some x.ms)] 62)).trans ⟨hbl.os, hbl.tape, hbl.output, hbl.size, fun k hk _ => hbl.block k hk⟩
  have hNs : NamesIn σ ns := ⟨n1, fun k => by rw [n2 k, hsome], n3⟩
  have hrl : ∀ k, inBlock nv k → W.heap.size ≤ k := fun k hk => by
    have := (orow.lt k hk).1
    simp at this
    omega
  have hlen : ns.length ≤ σ.changes.length := by
    have := nodup_le ns (σ.changes.map (·.1)) n1 (fun k hk => hf.shown k ((hNs.2.1 k).1 hk))
    rwa [List.length_map] at this
  have hJ4 : J [] w4 := hJ [] W w4 none h0 ⟨hm4.os, hm4.tape, hm4.output, hm4.size, fun k hk _ => hm4.block k hk nob⟩ (fun r hr => by cases hr)
  obtain ⟨na, nc, rfl, _, _⟩ := owns_form orow
  obtain ⟨LN, hLN⟩ : ∃ LN, ns.length = LN := ⟨_, rfl⟩
  obtain ⟨CN, hCN⟩ : ∃ CN, σ.changes.length = CN := ⟨_, rfl⟩
  rw [hLN] at orow n4 hlen
  simp only [hLN] at hrl
  rw [hLN]
  rw [hCN] at hlen hN hY
  have HLN := Lib.hid hLN
  have hP4 : ∀ k, inBlock (.slice na LN nc) k → Prot w4 k := fun k hk => hfresh W w4 k hW hm4.belowN (hrl k hk) (owns_cells orow k hk)
  clear hso hmp hst c0 hc hLN hCN hbl n1 n2 n3
  gi_wp2
  gi_loopw [14] (fun i wr => ∃ q : Nat, q ≤ LN ∧ i = .int .i64 q ∧ J (ns.take q) wr ∧ Kp w4 wr) (fun i _ => LN - (intOf i).toNat)
  case atStart => exact ⟨0, Nat.zero_le _, rfl, hJ4, hKr _⟩
  case round =>
    obtain ⟨q, hq, rfl, hJs, hks⟩ := hrel
    by_cases hqn : q < LN
    · have hqs : q < ns.length := by rw [HLN.out]; exact hqn
      obtain ⟨nm, hnm⟩ : ∃ nm, ns[q]? = some nm := ⟨_, List.getElem?_eq_getElem hqs⟩
      have htk : ns.take (q + 1) = ns.take q ++ [nm] := by
        obtain ⟨h1, h2⟩ := List.getElem?_eq_some_iff.1 hnm
        rw [List.take_succ_eq_append_getElem h1, h2]
      obtain ⟨ng, rfl⟩ : ∃ g, na = some ⟨g, 0, none⟩ := by
        rcases orow.2 with ⟨_, h0⟩ | ⟨g, cap', cur, h0, _⟩
        · omega
        · cases h0; exact ⟨g, rfl⟩
      have hcell := own_cell orow q (.string nm) (by rw [List.getElem?_map, hnm]; rfl)
      have hblk : wr.heap[ng]? = w4.heap[ng]? := hprot w4 wr ng hks (hP4 ng (by simp [inBlock, Value.ownBlock])) (orow.lt ng (by simp [Value.ownBlock])).2
      have hcw : wr.cell? ⟨ng, 0 + q, none⟩ = some (.string nm) := by
        unfold World.cell? at hcell ⊢
        dsimp only at hcell ⊢
        rw [hblk]
        simpa using hcell
      rw [Nat.zero_add] at hcw
      obtain ⟨fn, tmps, assign, body, hy, hR⟩ := hY (ns.take q) nm _ hJs (by rw [List.length_take, HLN.out]; omega)
      have hT := Lib.hid htk
      obtain ⟨pre, hpre⟩ : ∃ pre, ns.take q = pre := ⟨_, rfl⟩
      rw [hpre] at hJs hR hT
      clear hY hcell hblk htk hpre hnm
      gi_wp2
      refine hR.mono ?_
      rintro e W3 (⟨rfl, hJ3, hk3⟩ | ⟨rfl, hJx3⟩)
      · gi_wp2
        go_roundw
        case rel => exact ⟨q + 1, by omega, by first | rfl | go_num, by rw [hT.out]; exact hJ3, hKt hks hk3⟩
        case measure => simp [intOf]; omega
      · gi_wp2
        refine bodyPost_ret (results_none rfl _ _ _) rfl ?_
        exact ⟨⟨_, rfl⟩, .inr ⟨_, ⟨ns, hNs, by rw [← hT.out]; exact List.take_prefix _ _⟩, hJx3⟩⟩
    · obtain rfl : q = LN := by omega
      have hall : ns.take q = ns := List.take_of_length_le (by rw [HLN.out]; exact Nat.le_refl _)
      rw [hall] at hJs
      clear hY
      gi_wp2
      go_end0
      exact ⟨⟨_, rfl⟩, .inl ⟨_, hNs, hJs⟩⟩

end Go.Proofs.Ytbpdmncobeiinaa
