/- Fork of a store. The condition: fewer than 2^30 changes. -/
import Derived.Test.YtbpdmncobeiinaaWg
namespace Go.Proofs.Ytbpdmncobeiinaa
open Go.RowKit Go.Shelf

theorem ch_one {w : World} {H : Nat → Prop} (cs : List (ByteArray × Option (List UInt8))) (vs : List Value) (h : ∀ (i : Nat) c v, cs[i]? = some c → vs[i]? = some v → ChHeld w H c.2 v) : ∀ u ∈ chCells cs vs, u.oneCell' = true := by
  intro u hu
  unfold chCells at hu
  obtain ⟨l, hl, hu⟩ := List.mem_flatten.1 hu
  obtain ⟨⟨c, v⟩, hz, rfl⟩ := List.mem_map.1 hl
  obtain ⟨i, hi⟩ := List.getElem?_of_mem hz
  rw [List.getElem?_zip_eq_some] at hi
  have hv := h i c v hi.1 hi.2
  have hs : v.oneCell' = true := by
    cases hc : c.2 with
    | none =>
      rw [hc] at hv
      have e : v = .slice none 0 0 := hv
      rw [e]; rfl
    | some l =>
      rw [hc] at hv
      obtain ⟨a, k, e, _⟩ := (show Held w H v l from hv).1.form
      rw [e]; rfl
  simp only [List.mem_cons, List.not_mem_nil, or_false] at hu
  rcases hu with rfl | rfl | rfl
  · rfl
  · exact hs
  · rfl

theorem StoreAt.parts {w : World} {b : Nat} {σ : Sto} {x : StoB} (h : StoreAt w b σ x) : w.cell? ⟨b, 0, none⟩ = some (.map (some x.ms)) ∧ w.cell? ⟨b, 1, none⟩ = some (.map (some x.mv)) ∧ w.cell? ⟨b, 2, none⟩ = some x.cv ∧ w.cell? ⟨b, 3, none⟩ = some x.pv := by
  have c0 := h.cells.cell 0
  have c1 := h.cells.cell 1
  have c2 := h.cells.cell 2
  have c3 := h.cells.cell 3
  simp at c0 c1 c2 c3
  exact ⟨c0, c1, c2, c3⟩

theorem owns_base {w : World} {base : Nat} {e : TypeId} {size : Nat} {v : Value} {n : Nat} {xs : List Value} (h : w.ownsRow base e size v n xs) : w.ownsRow 0 e size v n xs := by
  refine ⟨h.1, ?_⟩
  rcases h.2 with h2 | ⟨g, cap, cur, h1, _, h3⟩
  · exact .inl h2
  · exact .inr ⟨g, cap, cur, h1, Nat.zero_le _, h3⟩

/-- What Fork makes. -/
def Forked (w : World) (b : Nat) (σ : Sto) (x : StoB) (e : Ending) (w' : World) : Prop :=
  ∃ b2 x2, e = .returned (.pointer (some ⟨b2, 0, none⟩)) ∧ StoreAt w' b2 σ x2 ∧ StoreAt w' b σ x ∧ Mod w w' Nob ∧ (∀ k, x2.own b2 k → w.heap.size ≤ k) ∧ x2.held = x.held

set_option maxRecDepth 100000 in
set_option maxHeartbeats 2000000 in
theorem fork_any (b : Nat) (σ : Sto) (x : StoB) (w : World) (h : StoreAt w b σ x) (hn : σ.changes.length < 1073741824) (hp : σ.puts.length < 1073741824) :
    Calls Try.prog 24 #[.pointer (some ⟨b, 0, none⟩)] w (Forked w b σ x) := by
  obtain ⟨f, hf, hf2⟩ := h.shows
  obtain ⟨g, hg, hg2⟩ := h.vers
  obtain ⟨vs, hv1, hv2, hch⟩ := h.chs
  have hpu := h.puts
  have h1 := ch_one σ.changes vs hv2
  have hone2 : ∀ u ∈ (σ.puts.map fun (n : Nat) => Value.int .i64 (n : Int)), u.oneCell' = true := fun u hu => by
    obtain ⟨k, _, rfl⟩ := List.mem_map.1 hu
    rfl
  obtain ⟨c0, c1, c2, c3⟩ := h.parts
  go_enter Try.func24, Try.ntmps24
  go_wp2_with fail
  have m0 := (Mod.refl w Nob).drew
  go_region_held3 (fun w' => w'.cell? ⟨b, 0, none⟩ = some (.map (some x.ms)) ∧ w'.cell? ⟨b, 1, none⟩ = some (.map (some x.mv)) ∧ w'.cell? ⟨b, 2, none⟩ = some x.cv ∧ w'.cell? ⟨b, 3, none⟩ = some x.pv) (first | exact s4.parts | exact s3.parts | exact s2.parts | exact s1.parts | go_keep | assumption)
    (first
     | (go_at_call 44; refine (clone_shows x.ms f _ (hf.mod m0 nob)).mono ?_; rintro e w1 ⟨rfl, hm1, hd1⟩; have m1 := m0.trans hd1; have s1 := h.still m1)
     | (go_at_call 45; refine (clone_vers x.mv g _ (hg.mod m1 nob)).mono ?_; rintro e w2 ⟨rfl, hm2, hd2⟩; have m2 := m1.trans hd2; have s2 := h.still m2)
     | (go_at_call 46; refine (clone_changes x.cv _ _ _ (owns_mod hch m2 (fun _ _ => nob)) h1 hn).mono ?_; rintro e w3 ⟨cv2, rfl, ho3, hd3⟩; have m3 := m2.trans hd3; have s3 := h.still m3)
     | (go_at_call 47; refine (clone_ints x.pv _ _ _ (owns_mod hpu m3 (fun _ _ => nob)) hone2 hp).mono ?_; rintro e w4 ⟨pv2, rfl, ho4, hd4⟩; have m4 := m3.trans hd4; have s4 := h.still m4; obtain ⟨ca2, cc2, hcf, _, _⟩ := owns_form ho3; obtain ⟨pa2, pc2, hpf, _, _⟩ := owns_form ho4; subst hcf; subst hpf))
  go_wp2_with fail
  go_ret
  have l1 : w.heap.size < w1.heap.size := hm1.lt
  have l2 : w1.heap.size < w2.heap.size := hm2.lt
  have l3 := hd3.size
  have l4 := hd4.size
  have bc : ∀ k, inBlock (.slice ca2 σ.changes.length cc2) k → w2.heap.size ≤ k ∧ k < w3.heap.size := fun k hk => ho3.lt k hk
  have bp : ∀ k, inBlock (.slice pa2 σ.puts.length pc2) k → w3.heap.size ≤ k ∧ k < w4.heap.size := fun k hk => ho4.lt k hk
  have mA := (Mod.refl w4 Nob).alloc (.cells #[.map (some w.heap.size), .map (some w1.heap.size), .slice ca2 σ.changes.length cc2, .slice pa2 σ.puts.length pc2] 66)
  have m5 := m4.trans mA
  have hown : ∀ k, StoB.own ⟨w.heap.size, w1.heap.size, .slice ca2 σ.changes.length cc2, .slice pa2 σ.puts.length pc2, x.held⟩ w4.heap.size k → w.heap.size ≤ k := by
    rintro k (h5 | h5 | h5 | h5 | h5)
    · omega
    · have h5 : k = w.heap.size := h5
      omega
    · have h5 : k = w1.heap.size := h5
      omega
    · have := bc k h5
      omega
    · have := bp k h5
      omega
  refine ⟨w4.heap.size, ⟨w.heap.size, w1.heap.size, .slice ca2 σ.changes.length cc2, .slice pa2 σ.puts.length pc2, x.held⟩, rfl, ?_, h.still m5, m5, hown, rfl⟩
  refine ⟨CellsAt.new _ _ _, by simp only; omega, by simp only; omega, by simp only; omega, fun k hk => ?_, fun k hk => ?_, fun k hk => ⟨?_, fun ho => ?_⟩, ⟨f, ?_, fun nm => ?_⟩, ⟨g, ?_, fun nm => ?_⟩, ⟨vs, hv1, fun i c v hi hj => ?_, ?_⟩, ?_⟩
  · have := bc k hk
    exact ⟨by omega, by simp only; omega, by simp only; omega, fun hp2 => by have := bp k hp2; omega⟩
  · have := bp k hk
    exact ⟨by omega, by simp only; omega, by simp only; omega⟩
  · have := (h.hold k hk).1
    have := m5.size
    omega
  · have := (h.hold k hk).1
    have := hown k ho
    omega
  · exact (((hm1.mod hd2 nob).mod hd3 nob).mod hd4 nob).mod mA nob
  · exact (hf2 nm).mono m5 (fun k hk => hk.elim) (fun _ h => h)
  · exact ((hm2.mod hd3 nob).mod hd4 nob).mod mA nob
  · exact (hg2 nm).mono m5 (fun k hk => hk.elim) (fun _ h => h)
  · exact (hv2 i c v hi hj).mono m5 (fun k hk => hk.elim) (fun _ h => h)
  · exact owns_base (owns_mod (owns_mod ho3 hd4 (fun _ _ => nob)) mA (fun _ _ => nob))
  · exact owns_base (owns_mod ho4 mA (fun _ _ => nob))

end Go.Proofs.Ytbpdmncobeiinaa
