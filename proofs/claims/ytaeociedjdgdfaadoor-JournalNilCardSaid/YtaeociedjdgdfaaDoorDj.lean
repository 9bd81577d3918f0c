/- Parts, each filled up to sixteen bytes, and their lengths behind: aead.padded. The condition: every part has fewer than 2^36 bytes. -/
import Derived.Test.YtaeociedjdgdfaaDoorBl
import Derived.Test.YtaeociedjdgdfaaDoorDi
namespace Go.Proofs.YtaeociedjdgdfaaDoor
open Go.RowKit Go.Shelf
set_option linter.unusedSimpArgs false
attribute [local go_sem] Oper.semAt_some

def zerosL (l : List UInt8) : List UInt8 := List.replicate ((16 - l.length % 16) % 16) 0
theorem zerosL_length (l : List UInt8) : (zerosL l).length = (16 - l.length % 16) % 16 := by simp [zerosL]
/-- What comes, one by one. -/
def partL (ls : List (List UInt8)) (i : Nat) : List UInt8 := if i < 2 * ls.length then (if i % 2 = 0 then ls.getD (i / 2) [] else zerosL (ls.getD (i / 2) [])) else eightsL (ls.map List.length)
theorem partL_even (ls : List (List UInt8)) (j : Nat) (l : List UInt8) (h : ls[j]? = some l) : partL ls (2 * j) = l := by
  have hj := (List.getElem?_eq_some_iff.1 h).1
  unfold partL
  rw [if_pos (by omega), if_pos (by omega), show 2 * j / 2 = j by omega, List.getD_eq_getElem?_getD, h]
  rfl
theorem partL_odd (ls : List (List UInt8)) (j : Nat) (l : List UInt8) (h : ls[j]? = some l) : partL ls (2 * j + 1) = zerosL l := by
  have hj := (List.getElem?_eq_some_iff.1 h).1
  unfold partL
  rw [if_pos (by omega), if_neg (by omega), show (2 * j + 1) / 2 = j by omega, List.getD_eq_getElem?_getD, h]
  rfl
theorem partL_last (ls : List (List UInt8)) : partL ls (2 * ls.length) = eightsL (ls.map List.length) := by
  unfold partL
  rw [if_neg (by omega)]
def lensL (ls : List (List UInt8)) (j : Nat) : List UInt8 := eightsL ((ls.take j).map List.length)
theorem lensL_snoc (ls : List (List UInt8)) (j : Nat) (l : List UInt8) (h : ls[j]? = some l) : lensL ls (j + 1) = lensL ls j ++ leB 8 l.length := by
  unfold lensL
  rw [take_snoc ls j l h, List.map_append, List.map_cons, List.map_nil, eightsL_snoc]

/-- It is a block of bytes. -/
def IsB (A : World) (k : Nat) : Prop := ∃ cs, CellsAt A k cs 5
/-- The blocks of bytes stay, and what lies below, but for one block. -/
structure KB (lim X : Nat) (A B : World) : Prop where
  size : A.heap.size ≤ B.heap.size
  same : ∀ (k : Nat) (o : Obj), A.heap[k]? = some o → o.isCells = true → IsB A k ∨ (k < lim ∧ k ≠ X) → B.heap[k]? = some o
theorem KB.trans {lim X : Nat} {A B C : World} (h : KB lim X A B) (k : KB lim X B C) : KB lim X A C := ⟨Nat.le_trans h.size k.size, fun j o h1 h2 h3 => by
  have h4 := h.same j o h1 h2 h3
  refine k.same j o h4 h2 (h3.imp (fun ⟨cs, hc⟩ => ⟨cs, ?_⟩) id)
  exact h.same j _ hc rfl (.inl ⟨cs, hc⟩)⟩
theorem KB.put {lim X : Nat} (W : World) (l : Nat) (o o' : Obj) (ho : W.heap[l]? = some o) (hc : o.isCells = false) : KB lim X W (W.putObj l o') :=
  ⟨by simp, fun k o1 h1 h2 _ => by
    rw [World.putObj_heap_other (fun e => by subst e; rw [ho] at h1; cases h1; rw [hc] at h2; cases h2)]
    exact h1⟩
theorem KB.of_mod {lim X : Nat} {T : Nat → Prop} {A B : World} (h : Mod A B T) (hT : ∀ k, T k → (k = X ∨ lim ≤ k) ∧ ¬ IsB A k) : KB lim X A B := ⟨h.size, fun k o h1 _ h3 => h.keep h1 (fun ht => by
  obtain ⟨h4, h5⟩ := hT k ht
  rcases h3 with h3 | h3
  · exact h5 h3
  · omega)⟩
theorem KB.row {lim X : Nat} {A B : World} (h : KB lim X A B) {v : Value} {xs : List Value} (r : RowIn A v xs) (hv : ∀ k, inBlock v k → IsB A k ∨ (k < lim ∧ k ≠ X)) : RowIn B v xs := by
  rcases r with (r | ⟨b, o, cap, rfl, h1, h2, h3, h4⟩) | r
  · exact .inl (.inl r)
  · refine .inl (.inr ⟨b, o, cap, rfl, Nat.lt_of_lt_of_le h1 h.size, h2, h3, fun i x hx => ?_⟩)
    have h5 := h4 i x hx
    obtain ⟨ob, h6, h7⟩ := cell_cells h5
    have h8 := h.same b ob h6 h7 (hv b rfl)
    rw [← h5]
    simp [World.cell?, h6, h8]
  · exact .inr r
theorem KB.cells {lim X : Nat} {A B : World} (h : KB lim X A B) {b : Nat} {cs : Array Value} {t : TypeId} (c : CellsAt A b cs t) (hb : b < lim ∧ b ≠ X) : CellsAt B b cs t := h.same b _ c rfl (.inr hb)
theorem KB.own {lim X : Nat} {A B : World} (h : KB lim X A B) {base n : Nat} {v : Value} {xs : List Value} (c : A.ownsRow base 5 1 v n xs) : B.ownsRow base 5 1 v n xs := by
  rcases c with ⟨hl, h0 | ⟨g, cap, cur, rfl, hb, hg, rest⟩⟩
  · exact ⟨hl, .inl h0⟩
  · exact ⟨hl, .inr ⟨g, cap, cur, rfl, hb, h.same g _ hg rfl (.inl ⟨cur, hg⟩), rest⟩⟩
theorem own_isB {A : World} {base n : Nat} {v : Value} {xs : List Value} (c : A.ownsRow base 5 1 v n xs) (k : Nat) (hk : inBlock v k) : IsB A k := by
  rcases c with ⟨hl, ⟨rfl, h0⟩ | ⟨g, cap, cur, rfl, hb, hg, rest⟩⟩
  · cases hk
  · cases hk
    exact ⟨cur, hg⟩

/-- What is yielded lies below, or in a block of bytes. -/
def Far (lim X : Nat) (x : Sc) (W : World) : Prop := ∀ k, inBlock (scv x) k → IsB W k ∨ (k < lim ∧ k ≠ X)
def PartIs (lim X : Nat) (ls : List (List UInt8)) (pre : List Sc) (x : Sc) (W : World) : Prop := BytesAt W (scv x) (partL ls pre.length) ∧ Far lim X x W
/-- The iterator's own steps: blocks of bytes of its own, none that it has yielded. -/
def OwB (lim : Nat) (pre : List Sc) (A B : World) : Prop := ∃ T : Nat → Prop, Mod A B T ∧ ∀ k, T k → lim ≤ k ∧ IsB A k ∧ ∀ x ∈ pre, ¬ inBlock (scv x) k

set_option maxRecDepth 100000 in
set_option maxHeartbeats 1000000 in
theorem padded_any (a : Option Addr) (n c : Nat) (w : World) :
    Calls Tryd.prog 66 #[.slice a n c] w fun e w' => e = .returned (.func (.func 81) #[] #[.pointer (some ⟨w.heap.size, 0, none⟩)]) ∧ w' = w.alloc (.cells #[.slice a n c] 97) := by
  go_enter Tryd.func66, Tryd.ntmps66
  go_wp2_with fail
  go_ret
  exact ⟨rfl, rfl⟩

set_option maxRecDepth 100000 in
set_option maxHeartbeats 4000000 in
theorem padded_full (n : Nat) (hn : 1 ≤ n) (Bs PB N X : Nat) (ss : List Sc) (ls : List (List UInt8)) (w : World) (hN : N ≤ 1000) (hsl : ss.length = N) (hll : ls.length = N)
    (h1 : CellsAt w Bs #[.slice (some ⟨PB, 0, none⟩) N N] 97) (h2 : CellsAt w PB (ss.map scv).toArray 71) (hX2 : PB ≠ X)
    (hb : ∀ (j : Nat) (s : Sc) (l : List UInt8), ss[j]? = some s → ls[j]? = some l → BytesAt w (scv s) l ∧ l.length ≤ 68719476736 ∧ ∀ k, inBlock (scv s) k → k < w.heap.size ∧ k ≠ X) :
    SeqFull n Tryd.prog 81 #[.pointer (some ⟨Bs, 0, none⟩)] (fun s : Sc => #[scv s]) (KB w.heap.size X) (PartIs w.heap.size X ls) (OwB w.heap.size) (fun xs => xs.length = 2 * N + 1) (2 * N + 1) w := fun l J W hW hJa hJo hY h0 => by
  have e1 : CellsAt W Bs #[.slice (some ⟨PB, 0, none⟩) N N] 97 := (hW.block Bs h1.lt).trans h1
  have e2 : CellsAt W PB (ss.map scv).toArray 71 := (hW.block PB h2.lt).trans h2
  have hm : Mod w W (fun k => w.heap.size ≤ k) := ⟨hW.os, hW.tape, hW.output, hW.size, fun k hk _ => hW.block k hk⟩
  have e3 : ∀ (j : Nat) (s : Sc) (l : List UInt8), ss[j]? = some s → ls[j]? = some l → BytesAt W (scv s) l ∧ l.length ≤ 68719476736 ∧ ∀ k, inBlock (scv s) k → k < w.heap.size ∧ k ≠ X := fun j s l hs hl => by
    obtain ⟨x1, x2, x3⟩ := hb j s l hs hl
    exact ⟨x1.mod hm (fun k hk h => by have := (x3 k hk).1; omega), x2, x3⟩
  have hsz := hW.size
  have hlB := h1.lt
  have hlP := h2.lt
  obtain ⟨lim, hlim⟩ : ∃ x, w.heap.size = x := ⟨_, rfl⟩
  rw [hlim] at hsz hlB hlP hJo hY e3
  clear hb h1 h2 hm hW hlim
  refine callsIn_of_wp Tryd.func81 rfl trivial ?_ rfl
  simp only [Tryd.ntmps81, List.size_toArray, List.length_cons, List.length_nil, Nat.reduceAdd, Nat.reduceSub, Array.replicate_succ, Array.replicate_zero, List.push_toArray, List.append_toArray, List.nil_append, List.cons_append]
  have q1 := e1.cell 0
  simp at q1
  gi_wp2
  gi_loopw [3, 5, 8] (fun t _ i wr => ∃ j : Nat, j ≤ N ∧ i = .int .i64 j ∧ ∃ xs : List Sc, xs.length = 2 * j ∧ J xs wr ∧ W.heap.size ≤ wr.heap.size ∧ CellsAt wr PB (ss.map scv).toArray 71 ∧
      (∀ (j : Nat) (s : Sc) (l : List UInt8), ss[j]? = some s → ls[j]? = some l → BytesAt wr (scv s) l ∧ l.length ≤ 68719476736 ∧ ∀ k, inBlock (scv s) k → k < lim ∧ k ≠ X) ∧
      ∃ a c, t = .slice a (8 * j) c ∧ wr.ownsRow W.heap.size 5 1 (.slice a (8 * j) c) (8 * j) ((lensL ls j).map B) ∧ ∀ x ∈ xs, ∀ k, inBlock (scv x) k → k < wr.heap.size ∧ ¬ inBlock (.slice a (8 * j) c) k)
    (fun _ _ i _ => N - (intOf i).toNat)
  case atStart => exact ⟨0, Nat.zero_le _, rfl, [], rfl, h0, Nat.le_refl _, e2, e3, none, 0, rfl, World.ownsRow_nil _ _ _ _, fun x hx => by cases hx⟩
  case round =>
    clear h0 e1 e2 e3 q1
    obtain ⟨j, hj, rfl, xs, hxl, hJs, hz, h2, h3, a, c, rfl, hown, hdis⟩ := hrel
    by_cases hlt : j < N
    · obtain ⟨s, hs⟩ : ∃ s, ss[j]? = some s := ⟨_, List.getElem?_eq_getElem (by omega)⟩
      obtain ⟨p, hp⟩ : ∃ l, ls[j]? = some l := ⟨_, List.getElem?_eq_getElem (by omega)⟩
      obtain ⟨sa, sn, sc⟩ := s
      have q3 : wr.cell? ⟨PB, j, none⟩ = some (.slice sa sn sc) := by rw [h2.cell j]; simp [hs, scv]
      obtain ⟨hbp, hpl, hpf⟩ := h3 j _ p hs hp
      have hsn := lensL_snoc ls j p hp
      have hpn : p.length = sn := by
        obtain ⟨a', c', hf, _⟩ := hbp.form
        rw [List.length_map] at hf
        unfold scv at hf
        cases hf
        rfl
      have hcw : IntKind.u64.wrap (sn : Int) = ((sn : Nat) : Int) := u64_wrap_id _ (by omega) (by omega)
      have hpe := partL_even ls j p hp
      have hpo := partL_odd ls j p hp
      obtain ⟨L0, hL0⟩ : ∃ x, lensL ls j = x := ⟨_, rfl⟩
      rw [hL0] at hown hsn
      rw [hpn] at hsn hpl
      have HSN := Box.mk hsn
      have HS := Box.mk hs
      have HP := Box.mk hp
      have HPE := Box.mk hpe
      have HPO := Box.mk hpo
      obtain ⟨L8, hL8⟩ : ∃ x, 8 * j = x := ⟨_, rfl⟩
      rw [hL8] at hown hdis ⊢
      have HL8 := Box.mk hL8
      clear hL0 hsn hs hp hpe hpo hL8
      gi_wp2
      refine ⟨trivial, (callsIn_wide.2 (putlow_any W.heap.size L8 a c L0 sn 8 wr hown (by omega) (by have := HL8.out; omega) hz)).mono ?_⟩
      rintro e W1 ⟨a2, c2, rfl, hown1, m1, hin1⟩
      have hJ1 : J xs W1 := hJo xs wr W1 ⟨_, m1, fun k hk => ⟨by have := (hown.lt k hk).1; omega, own_isB hown k hk, fun x hx hb => (hdis x hx k hb).2 hk⟩⟩ hJs
      have hdis1 : ∀ x ∈ xs, ∀ k, inBlock (scv x) k → k < W1.heap.size ∧ ¬ inBlock (.slice a2 (L8 + 8) c2) k := fun x hx k hk => by
        obtain ⟨y1, y2⟩ := hdis x hx k hk
        exact ⟨by have := m1.size; omega, fun hk2 => by rcases hin1 k hk2 with h | h; exact y2 h; omega⟩
      have hlo : ∀ k, k < lim → ¬ inBlock (.slice a L8 c) k := fun k hk hb => by have := (hown.lt k hb).1; omega
      have hbp1 : BytesAt W1 (scv (sa, sn, sc)) p := hbp.mod m1 (fun k hk => hlo k (hpf k hk).1)
      have hR1 : PartIs lim X ls xs (sa, sn, sc) W1 := ⟨by rw [hxl, HPE.out]; exact hbp1, fun k hk => .inr (hpf k hk)⟩
      have h21 := h2.mod m1 (hlo PB hlP)
      have h31 : ∀ (j : Nat) (s : Sc) (l : List UInt8), ss[j]? = some s → ls[j]? = some l → BytesAt W1 (scv s) l ∧ l.length ≤ 68719476736 ∧ ∀ k, inBlock (scv s) k → k < lim ∧ k ≠ X := fun j s l hs hl => by
        obtain ⟨x1, x2, x3⟩ := h3 j s l hs hl
        exact ⟨x1.mod m1 (fun k hk => hlo k (x3 k hk).1), x2, x3⟩
      have hz1 : W.heap.size ≤ W1.heap.size := by have := m1.size; omega
      obtain ⟨fn, tmps, assign, body, hy, hR⟩ := hY xs (sa, sn, sc) W1 hJ1 hR1 (by omega)
      dsimp only [scv] at hy
      clear h2 h3 hown hdis hJs hJ1 hR1 q3 hin1 m1 hlo hbp hz hcw
      gi_wp2
      refine hR.mono ?_
      rintro e W2 ⟨rfl, hJ2, hk2⟩
      have h22 := hk2.cells h21 ⟨hlP, hX2⟩
      have hown2 := hk2.own hown1
      have h32 : ∀ (j : Nat) (s : Sc) (l : List UInt8), ss[j]? = some s → ls[j]? = some l → BytesAt W2 (scv s) l ∧ l.length ≤ 68719476736 ∧ ∀ k, inBlock (scv s) k → k < lim ∧ k ≠ X := fun j s l hs hl => by
        obtain ⟨x1, x2, x3⟩ := h31 j s l hs hl
        exact ⟨hk2.row x1 (fun k hk => .inr (x3 k hk)), x2, x3⟩
      have hz2 := hk2.size
      obtain ⟨xs1, hxs1⟩ : ∃ y, xs ++ [(sa, sn, sc)] = y := ⟨_, rfl⟩
      have hdis2 : ∀ x ∈ xs1, ∀ k, inBlock (scv x) k → k < W2.heap.size ∧ ¬ inBlock (.slice a2 (L8 + 8) c2) k := fun x hx k hk => by
        rw [← hxs1, List.mem_append, List.mem_singleton] at hx
        rcases hx with hx | rfl
        · obtain ⟨y1, y2⟩ := hdis1 x hx k hk
          exact ⟨by omega, y2⟩
        · have y1 := (hpf k hk).1
          exact ⟨by omega, fun hb => by have := (hown1.lt k hb).1; omega⟩
      have hxl1 : xs1.length = 2 * j + 1 := by rw [← hxs1, List.length_append, hxl]; rfl
      rw [hxs1] at hJ2
      clear hR hy h21 h31 hdis1 hbp1 hk2 hown1 hxs1 hxl
      obtain ⟨Z, hZ⟩ : ∃ z, (16 - sn % 16) % 16 = z := ⟨_, rfl⟩
      have hZi : ((Z : Nat) : Int) = -((sn : Int) % 16) % 16 := by omega
      have hZ16 : Z < 16 := by omega
      obtain ⟨W3, hrun3, cZ, m3⟩ := make_zeros Z W2 (by omega)
      rw [hZi] at hrun3
      have hzp : Box (zerosL p = List.replicate Z 0) := ⟨by unfold zerosL; rw [hpn, hZ]⟩
      have hJ3 : J xs1 W3 := hJa _ _ _ none hJ2 (grown_of_mod m3) (fun r e => by cases e)
      have h23 := h22.mod m3 nob
      have hown3 := owns_mod hown2 m3 (fun _ _ => nob)
      have h33 : ∀ (j : Nat) (s : Sc) (l : List UInt8), ss[j]? = some s → ls[j]? = some l → BytesAt W3 (scv s) l ∧ l.length ≤ 68719476736 ∧ ∀ k, inBlock (scv s) k → k < lim ∧ k ≠ X := fun j s l hs hl => by
        obtain ⟨x1, x2, x3⟩ := h32 j s l hs hl
        exact ⟨x1.mod m3 (fun _ _ => nob), x2, x3⟩
      have hz3 := m3.size
      have hlz := cZ.lt
      have hol : ¬ inBlock (.slice a2 (L8 + 8) c2) W2.heap.size := fun hk => by have := (hown2.lt _ hk).2; omega
      have hdis3 : ∀ x ∈ xs1 ++ [(some ⟨W2.heap.size, 0, none⟩, Z, Z)], ∀ k, inBlock (scv x) k → k < W3.heap.size ∧ ¬ inBlock (.slice a2 (L8 + 8) c2) k := fun x hx k hk => by
        rw [List.mem_append, List.mem_singleton] at hx
        rcases hx with hx | rfl
        · obtain ⟨y1, y2⟩ := hdis2 x hx k hk
          exact ⟨by omega, y2⟩
        · obtain rfl : W2.heap.size = k := by simpa [inBlock, Value.ownBlock, scv] using hk
          exact ⟨hlz, hol⟩
      obtain ⟨G, hG⟩ : ∃ g, W2.heap.size = g := ⟨_, rfl⟩
      rw [hG] at hrun3 cZ hz3 hlz hdis3 hz2
      have hbz : BytesAt W3 (scv (some ⟨G, 0, none⟩, Z, Z)) (zerosL p) := by
        rw [hzp.out]
        exact bytes_block (n := Z) cZ (by simp) (by omega)
      have hR3 : PartIs lim X ls xs1 (some ⟨G, 0, none⟩, Z, Z) W3 := ⟨by rw [hxl1, HPO.out]; exact hbz, fun k hk => by
        obtain rfl : G = k := by simpa [inBlock, Value.ownBlock, scv] using hk
        exact .inl ⟨_, cZ⟩⟩
      have hxl3 : (xs1 ++ [((some ⟨G, 0, none⟩, Z, Z) : Sc)]).length = 2 * (j + 1) := by rw [List.length_append, hxl1]; rfl
      obtain ⟨fn2, tmps2, assign2, body2, hy2, hRR⟩ := hY xs1 (some ⟨G, 0, none⟩, Z, Z) W3 hJ3 hR3 (by omega)
      dsimp only [scv] at hy2
      have HZI := Box.mk hZi
      clear hZ hzp hJ2 hJ3 h22 hown2 h32 hdis2 m3 cZ hG hbz hR3 hol hxl1 hZi
      gi_wp2
      refine hRR.mono ?_
      rintro e W4 ⟨rfl, hJ4, hk4⟩
      have h24 := hk4.cells h23 ⟨hlP, hX2⟩
      have hown4 := hk4.own hown3
      have h34 : ∀ (j : Nat) (s : Sc) (l : List UInt8), ss[j]? = some s → ls[j]? = some l → BytesAt W4 (scv s) l ∧ l.length ≤ 68719476736 ∧ ∀ k, inBlock (scv s) k → k < lim ∧ k ≠ X := fun j s l hs hl => by
        obtain ⟨x1, x2, x3⟩ := h33 j s l hs hl
        exact ⟨hk4.row x1 (fun k hk => .inr (x3 k hk)), x2, x3⟩
      have hz4 := hk4.size
      clear hRR hy2 h23 h33 hk4 hown3
      gi_wp2
      go_roundw
      case rel =>
        have e8 : 8 * (j + 1) = L8 + 8 := by have := HL8.out; omega
        refine ⟨j + 1, by omega, by go_num, _, hxl3, hJ4, by omega, h24, h34, a2, c2, by rw [e8], by rw [e8, HSN.out]; exact hown4, fun x hx k hk => ?_⟩
        obtain ⟨y1, y2⟩ := hdis3 x hx k hk
        rw [e8]
        exact ⟨by omega, y2⟩
      case measure => simp [intOf]; omega
    · obtain rfl : j = N := by omega
      have hlast := partL_last ls
      rw [hll] at hlast
      have hlens : lensL ls j = eightsL (ls.map List.length) := by
        unfold lensL
        rw [List.take_of_length_le (by omega)]
      obtain ⟨L8, hL8⟩ : ∃ x, 8 * j = x := ⟨_, rfl⟩
      rw [hL8] at hown hdis ⊢
      obtain ⟨Z, hZ⟩ : ∃ x, lensL ls j = x := ⟨_, rfl⟩
      rw [hZ] at hown hlens
      have hR5 : PartIs lim X ls xs (a, L8, c) wr := ⟨by rw [hxl, hlast, ← hlens]; exact BytesAt.of_owns hown, fun k hk => .inl (own_isB hown k hk)⟩
      have hxl5 : (xs ++ [((a, L8, c) : Sc)]).length = 2 * j + 1 := by rw [List.length_append, hxl]; rfl
      obtain ⟨fn, tmps, assign, body, hy, hR⟩ := hY xs (a, L8, c) wr hJs hR5 (by omega)
      dsimp only [scv] at hy
      have HX := Box.mk hxl5
      clear h2 h3 hown hdis hJs hR5 hlast hlens hZ hL8 hxl5
      gi_wp2
      refine hR.mono ?_
      rintro e W4 ⟨rfl, hJ4, hk4⟩
      clear hR hy hk4
      gi_wp2
      go_end0
      exact ⟨⟨_, rfl⟩, _, HX.out, hJ4⟩

end Go.Proofs.YtaeociedjdgdfaaDoor
