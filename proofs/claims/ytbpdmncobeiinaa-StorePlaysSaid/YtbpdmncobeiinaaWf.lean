/- The names of a store, gathered by the helper Seq. The condition: each thing shown was a change (Sto.Fair). -/
import Derived.Test.YtbpdmncobeiinaaWe
namespace Go.Proofs.Ytbpdmncobeiinaa
open Go.RowKit Go.Shelf
attribute [local go_sem] Oper.semAt_some

/-- What stays while a slice grows that a cell holds: all cells but that one, and the slice's. -/
def KS (c : Nat) (T : TypeId) (A B : World) : Prop := ∀ v, CellsAt A c #[v] T →
  (∃ v', CellsAt B c #[v'] T ∧ ∀ k, inBlock v' k → inBlock v k ∨ A.heap.size ≤ k) ∧ A.heap.size ≤ B.heap.size ∧
  ∀ k (o : Obj), A.heap[k]? = some o → o.isCells = true → k ≠ c → ¬ inBlock v k → B.heap[k]? = some o

theorem KS.refl (c : Nat) (T : TypeId) (A : World) : KS c T A A := fun v h => ⟨⟨v, h, fun _ h => .inl h⟩, Nat.le_refl _, fun _ _ h _ _ _ => h⟩
theorem KS.trans {c : Nat} {T : TypeId} {A B C : World} (h : KS c T A B) (k : KS c T B C) : KS c T A C := fun v hv => by
  obtain ⟨⟨v', h1, h2⟩, h3, h4⟩ := h v hv
  obtain ⟨⟨v2, k1, k2⟩, k3, k4⟩ := k v' h1
  refine ⟨⟨v2, k1, fun j hj => ?_⟩, Nat.le_trans h3 k3, fun j o hj ho hc hn => ?_⟩
  · rcases k2 j hj with h5 | h5
    · exact h2 j h5
    · exact .inr (Nat.le_trans h3 h5)
  · refine k4 j o (h4 j o hj ho hc hn) ho hc (fun hb => ?_)
    rcases h2 j hb with h5 | h5
    · exact hn h5
    · have := heap_lt hj; omega
theorem KS.put (c : Nat) (T : TypeId) (W : World) (l : Nat) (o o' : Obj) (hl : W.heap[l]? = some o) (hc : o.isCells = false) : KS c T W (W.putObj l o') := fun v hv => by
  have hlc : l ≠ c := fun e => by
    subst e
    have hv' : W.heap[l]? = some (.cells #[v] T (0, 0)) := hv
    rw [hv'] at hl
    cases hl
    cases hc
  have hm : Mod W (W.putObj l o') (· = l) := (Mod.refl W (· = l)).putObj (.inl rfl) o'
  refine ⟨⟨v, hv.mod hm (fun e => hlc e.symm), fun _ h => .inl h⟩, hm.size, fun k o2 hk ho _ _ => ?_⟩
  exact hm.keep hk (fun (e : k = l) => by subst e; rw [hk] at hl; cases hl; rw [ho] at hc; cases hc)
theorem KS.of_mod {c : Nat} {T : TypeId} {A B : World} {v v' : Value} (hA : CellsAt A c #[v] T) (hB : CellsAt B c #[v'] T) (hm : Mod A B (fun k => k = c ∨ inBlock v k)) (hv : ∀ k, inBlock v' k → inBlock v k ∨ A.heap.size ≤ k) : KS c T A B := fun u hu => by
  have e : u = v := by
    have hu' : A.heap[c]? = some (.cells #[u] T (0, 0)) := hu
    have hA' : A.heap[c]? = some (.cells #[v] T (0, 0)) := hA
    rw [hA'] at hu'
    injection hu' with hu'
    injection hu' with hu' _ _
    injection hu' with hu'
    injection hu' with hu' _
    exact hu'.symm
  subst e
  exact ⟨⟨v', hB, hv⟩, hm.size, fun k o hk _ hc hn => hm.keep hk (fun hs => hs.elim hc hn)⟩

/-- A list told is as the store has it. -/
def SeqSays (σ : Sto) (m : Int) (w : World) (e : Ending) (w' : World) : Prop :=
  ∃ ns, NamesIn σ ns ∧ Mod w w' Nob ∧ (((ns.length : Int) ≤ m ∧ ∃ v, e = .returned (.tuple #[v, .bool true]) ∧ w'.ownsRow w.heap.size 9 1 v ns.length (ns.map Value.string)) ∨ (m < ns.length ∧ e = .returned (.tuple #[.slice none 0 0, .bool false])))

/-- What is so between two rounds. -/
structure SeqI (w : World) (H : Nat) (m : Int) (pre : List ByteArray) (W : World) : Prop where
  c0 : CellsAt W H #[.int .i64 m] 3
  c1 : CellsAt W (H + 1) #[.slice none 0 0] 56
  c2 : CellsAt W (H + 1 + 1) #[.bool false] 4
  row : ∃ v, CellsAt W (H + 1 + 1 + 1) #[v] 56 ∧ W.ownsRow H 9 1 v pre.length (pre.map Value.string) ∧ ∀ k, inBlock v k → H + 4 ≤ k
  mod : Mod w W Nob
  few : (pre.length : Int) ≤ m
/-- .. where it has told too many. -/
structure SeqX (w : World) (H : Nat) (m : Int) (c : Code) (pre : List ByteArray) (W : World) : Prop where
  ret : c = .ret
  c1 : CellsAt W (H + 1) #[.slice none 0 0] 56
  c2 : CellsAt W (H + 1 + 1) #[.bool false] 4
  mod : Mod w W Nob
  many : m < (pre.length : Int)

theorem SeqI.kept {w : World} {H B : Nat} {m : Int} {pre : List ByteArray} {W W' : World} {row : Option Nat} (h : SeqI w H m pre W) (hB : w.heap.size ≤ B) (hg : W.grownBy W' row) (hr : ∀ r, row = some r → B ≤ r ∧ ∃ o : Obj, W.heap[r]? = some o ∧ o.isCells = false) : SeqI w H m pre W' := by
  have hm : Mod W W' (fun k => row = some k) := (Mod.refl W _).grown hg (fun k hk => .inl hk)
  have hcell : ∀ {b : Nat} {cs : Array Value} {t : TypeId}, CellsAt W b cs t → ¬ row = some b := fun {b cs t} hc e => by
    obtain ⟨_, o, ho, hn⟩ := hr b e
    have hc' : W.heap[b]? = some (.cells cs t (0, 0)) := hc
    rw [hc'] at ho
    cases ho
    cases hn
  obtain ⟨v, h1, h2, h3⟩ := h.row
  refine ⟨h.c0.mod hm (hcell h.c0), h.c1.mod hm (hcell h.c1), h.c2.mod hm (hcell h.c2), ⟨v, h1.mod hm (hcell h1), owns_mod h2 hm (fun k hk e => ?_), h3⟩, h.mod.drop hm (fun k hk => .inr (Nat.le_trans hB (hr k hk).1)), h.few⟩
  obtain ⟨_, o, ho, hn⟩ := hr k e
  obtain ⟨o', ho', hc'⟩ := owns_cells h2 k hk
  rw [ho'] at ho
  cases ho
  rw [hc'] at hn
  cases hn

theorem SeqX.kept {w : World} {H B : Nat} {m : Int} {c : Code} {pre : List ByteArray} {W W' : World} {row : Option Nat} (h : SeqX w H m c pre W) (hB : w.heap.size ≤ B) (hg : W.grownBy W' row) (hr : ∀ r, row = some r → B ≤ r ∧ ∃ o : Obj, W.heap[r]? = some o ∧ o.isCells = false) : SeqX w H m c pre W' := by
  have hm : Mod W W' (fun k => row = some k) := (Mod.refl W _).grown hg (fun k hk => .inl hk)
  have hcell : ∀ {b : Nat} {cs : Array Value} {t : TypeId}, CellsAt W b cs t → ¬ row = some b := fun {b cs t} hc e => by
    obtain ⟨_, o, ho, hn⟩ := hr b e
    have hc' : W.heap[b]? = some (.cells cs t (0, 0)) := hc
    rw [hc'] at ho
    cases ho
    cases hn
  exact ⟨h.ret, h.c1.mod hm (hcell h.c1), h.c2.mod hm (hcell h.c2), h.mod.drop hm (fun k hk => .inr (Nat.le_trans hB (hr k hk).1)), h.many⟩

theorem info_str : (Try.prog.info? 9).map (fun i => (i.zero, i.size, i.bytes)) = some (some (.string ⟨#[]⟩), 1, 16) := by kernel_rfl
theorem eql_func2 (f : Nat) (lb : Array Value) (w : World) : (binOp BinOp.eql 60 (.func (.func f) #[] lb) .nilFunc).run Try.prog w = .ok (.bool false) w := by kernel_rfl

set_option maxRecDepth 100000 in
set_option maxHeartbeats 4000000 in
theorem seq_names (Bn b : Nat) (σ : Sto) (x : StoB) (m : Int) (w : World) (hb : w.cell? ⟨Bn, 0, none⟩ = some (.pointer (some ⟨b, 0, none⟩))) (h : StoreAt w b σ x) (hf : σ.Fair) (hN : σ.changes.length ≤ 1000000000) (hm1 : 0 ≤ m) :
    CallsIn Fence.wide 7 Try.prog 30 #[.func (.func 54) #[] #[.pointer (some ⟨Bn, 0, none⟩)], .int .i64 m] w (SeqSays σ m w) := by
  refine callsIn_of_wp_marks Try.func30 rfl trivial ?_ rfl
  simp only [Try.ntmps30, List.size_toArray, List.length_cons, List.length_nil, Nat.reduceAdd, Nat.reduceSub, Array.replicate_succ, Array.replicate_zero, List.push_toArray, List.append_toArray, List.nil_append, List.cons_append]
  have hq := eql_func2
  gi_wp2
  have hm0 := ((((Mod.refl w Nob).alloc (.cells #[.int .i64 m] 3)).alloc (.cells #[.slice none 0 0] 56)).alloc (.cells #[.bool false] 4)).alloc (.cells #[.slice none 0 0] 56)
  have c0 := (((CellsAt.new w #[.int .i64 m] 3).alloc (.cells #[.slice none 0 0] 56)).alloc (.cells #[.bool false] 4)).alloc (.cells #[.slice none 0 0] 56)
  have c1 := ((CellsAt.new (w.alloc (.cells #[.int .i64 m] 3)) #[.slice none 0 0] 56).alloc (.cells #[.bool false] 4)).alloc (.cells #[.slice none 0 0] 56)
  have c2 := (CellsAt.new ((w.alloc (.cells #[.int .i64 m] 3)).alloc (.cells #[.slice none 0 0] 56)) #[.bool false] 4).alloc (.cells #[.slice none 0 0] 56)
  have c3 := CellsAt.new (((w.alloc (.cells #[.int .i64 m] 3)).alloc (.cells #[.slice none 0 0] 56)).alloc (.cells #[.bool false] 4)) #[.slice none 0 0] 56
  have hst := h.still hm0
  have hb0 : (World.alloc (((w.alloc (.cells #[.int .i64 m] 3)).alloc (.cells #[.slice none 0 0] 56)).alloc (.cells #[.bool false] 4)) (.cells #[.slice none 0 0] 56)).cell? ⟨Bn, 0, none⟩ = some (.pointer (some ⟨b, 0, none⟩)) := by
    rw [hm0.cell (cell_lt hb) nob]; exact hb
  have hsz : (World.alloc (((w.alloc (.cells #[.int .i64 m] 3)).alloc (.cells #[.slice none 0 0] 56)).alloc (.cells #[.bool false] 4)) (.cells #[.slice none 0 0] 56)).heap.size = w.heap.size + 4 := by simp
  simp only [World.size_alloc] at c1 c2 c3
  obtain ⟨W0, hW0⟩ : ∃ W0, (World.alloc (((w.alloc (.cells #[.int .i64 m] 3)).alloc (.cells #[.slice none 0 0] 56)).alloc (.cells #[.bool false] 4)) (.cells #[.slice none 0 0] 56)) = W0 := ⟨_, rfl⟩
  obtain ⟨H, hH⟩ : ∃ H, w.heap.size = H := ⟨_, rfl⟩
  rw [hW0] at c0 c1 c2 c3 hb0 hsz hm0 hst ⊢
  rw [hH] at c0 c1 c2 c3 hsz ⊢
  have HH := Lib.hid hH
  clear hW0 hq hH h
  refine wpIn_rangeFunc_ownG (F := Fence.wide) (n := 7) rfl (by omega) (gf := 54) (lb := #[.pointer (some ⟨Bn, 0, none⟩)]) rfl trivial (enters_of Try.func54 (by kernel_rfl) rfl)
    (names_stops 6 (by omega) Bn b σ x W0 hb0 hst hf hN (KS (H + 1 + 1 + 1) 56)
      (fun A k => ∃ v, CellsAt A (H + 1 + 1 + 1) #[v] 56 ∧ k ≠ H + 1 + 1 + 1 ∧ ¬ inBlock v k ∧ ∃ o : Obj, A.heap[k]? = some o ∧ o.isCells = true)
      (KS.refl _ _) (fun h k => h.trans k)
      (fun W W4 k h1 h2 h3 h4 => by
        have d3 := (c3.mod (Mod.of_below2 h1) nob).mod (Mod.of_below2 h2) nob
        have hs := h1.size
        exact ⟨_, d3, by omega, by simp [inBlock, Value.ownBlock], h4⟩)
      (fun A B k hk ⟨v, h1, h2, h3, o, h4, h5⟩ _ => by
        obtain ⟨_, _, h6⟩ := hk v h1
        rw [h4]
        exact h6 k o h4 h5 h2 h3))
    (fun h k => h.trans k) (fun W l o o' _ h1 h2 _ => KS.put _ _ W l o o' h1 h2) (Below.refl _ _) (fun _ => rfl)
    (SeqI w H m) (SeqX w H m)
    (fun s A B row hs hg hr => hs.kept hm0.size hg hr)
    (fun c s A B row hs hg hr => hs.kept hm0.size hg hr)
    ⟨c0, c1, c2, ⟨_, c3, World.ownsRow_nil _ _ _ _, fun k hk => by simp [inBlock, Value.ownBlock] at hk⟩, hm0, by simpa using hm1⟩
    (fun nm => { tmps := #[.func (.func 54) #[] #[.pointer (some ⟨Bn, 0, none⟩)], .int .i64 m, undef, .pointer (some ⟨H, 0, none⟩), .pointer (some ⟨H + 1, 0, none⟩), .pointer (some ⟨H + 1 + 1, 0, none⟩), .pointer (some ⟨H + 1 + 1 + 1, 0, none⟩), .string nm, .func (.func 54) #[] #[.pointer (some ⟨Bn, 0, none⟩)], .bool false, .func (.func 54) #[] #[.pointer (some ⟨Bn, 0, none⟩)], .string nm, undef, undef, undef, undef, undef, undef, undef, undef, undef], defers := [] })
    ?assign ?body ?done ?stop
  case assign =>
    intro l nm W K hK
    gi_wp2
    exact hK
  case body =>
    intro l pre nm W hI hlt
    obtain ⟨k0, k1, k2, ⟨v, k3, hown, hfar⟩, hmd, hfew⟩ := hI
    obtain ⟨va, vc, rfl, _, _⟩ := owns_form hown
    obtain ⟨PL, hPL⟩ : ∃ PL, pre.length = PL := ⟨_, rfl⟩
    rw [hPL] at k3 hown hlt hfew
    simp only [hPL] at hfar
    have HPL := Lib.hid hPL
    have hPC : PL ≤ 1000000000 := by omega
    obtain ⟨j0, hj, hz0, hz1, hz2⟩ := info_parts info_str
    have hown1 := owns_mod hown ((Mod.refl W Nob).alloc (.cells #[.string nm] 9)) (fun _ _ => nob)
    have hnb := CellsAt.new W #[.string nm] 9
    have l3 := k3.lt
    have q3 := k3.cell 0
    simp at q3
    clear hPL hlt
    gi_wp2_with (gi_at_builtin; refine wpListIn_append_lies rfl (.tmp 12) (.tmp 14) 56 rfl H 9 j0 _ 1 16 Try.underlying56 hj hz0 hz1 hz2 rfl (by omega) (.slice va PL vc) PL _ rfl hown1 ⟨W.heap.size, 0, none⟩ 1 1 [.string nm] rfl rfl (World.news_of_block (cs := #[.string nm]) (t := 9) (fr := (0, 0)) hnb) (by simp [Value.oneCell']) (by omega) (by unfold maxLen; omega) (by omega) (by simp; omega) (W.heap.size + 1) (by simp) ?_)
    intro gg cap w3 hown3 hgr hat hlt3
    have hm3 := ((Mod.refl W (inBlock (.slice va PL vc))).alloc (.cells #[.string nm] 9)).grown hgr (fun k hk => .inl hk)
    have nh : ∀ j, j < H + 4 → ¬ inBlock (.slice va PL vc) j := fun j hj hb => by have := hfar j hb; omega
    have e0 := k0.mod hm3 (nh _ (by omega))
    have e1 := k1.mod hm3 (nh _ (by omega))
    have e2 := k2.mod hm3 (nh _ (by omega))
    have e3 := k3.mod hm3 (nh _ (by omega))
    have hS := (Mod.refl w3 (· = H + 1 + 1 + 1)).setCell (p := ⟨H + 1 + 1 + 1, 0, none⟩) (.inl rfl) (.slice (some ⟨gg, 0, none⟩) (PL + 1) cap)
    have f0 := (e0.mod hS (by omega)).cell 0
    have r3 := e3.free 0
    have g3 := e3.set 0 (.slice (some ⟨gg, 0, none⟩) (PL + 1) cap)
    have g1 := e1.mod hS (by omega)
    have g2 := e2.mod hS (by omega)
    have g0 := e0.mod hS (by omega)
    have p1 := g1.free 0
    have p2 := (g2.mod ((Mod.refl _ (· = H + 1)).setCell (p := ⟨H + 1, 0, none⟩) (.inl rfl) (.slice none 0 0)) (by omega)).free 0
    have x3 := g3.cell 0
    have y3 := e3.cell 0
    have y1 := g1.cell 0
    have y2 := (g2.mod ((Mod.refl _ (· = H + 1)).setCell (p := ⟨H + 1, 0, none⟩) (.inl rfl) (.slice none 0 0)) (by omega)).cell 0
    simp at f0 x3 y3 y1 y2
    have hgH : H + 4 ≤ gg := by
      rcases hat with h1 | h1
      · exact hfar gg h1
      · have := hmd.size; have := HH.out; omega
    have hmA := hmd.drop hm3 (fun k hk => .inr (by have := hfar k hk; have := HH.out; omega))
    have hmB := hmA.drop hS (fun k (hk : k = H + 1 + 1 + 1) => .inr (by have := HH.out; omega))
    clear hown1 hnb q3 hj hz0 hz1 hz2
    gi_wp2_with fail
    all_goals
      have kf : KeepsFrom W0.heap.size W (w3.setCell ⟨H + 1 + 1 + 1, 0, none⟩ (.slice (some ⟨gg, 0, none⟩) (PL + 1) cap)) :=
        ((KeepsOthers.alloc W (.cells #[.string nm] 9)).from _).trans ((keepsFrom_grown (B := W0.heap.size) hgr (fun j hj => .inr (by
          obtain ⟨o, h1, h2⟩ := owns_cells hown j hj
          exact ⟨o, ((Mod.refl W Nob).alloc (.cells #[.string nm] 9)).keep h1 nob, h2⟩))).trans (keepsFrom_mod hS (fun k (hk : k = H + 1 + 1 + 1) => by omega)))
      have hnew : (pre ++ [nm]).length = PL + 1 := by rw [List.length_append, HPL.out]; rfl
      have hrow3 : w3.ownsRow H 9 1 (.slice (some ⟨gg, 0, none⟩) (PL + 1) cap) (PL + 1) ((pre ++ [nm]).map Value.string) := by rw [List.map_append]; exact hown3
    · have m1 := (Mod.refl (w3.setCell ⟨H + 1 + 1 + 1, 0, none⟩ (.slice (some ⟨gg, 0, none⟩) (PL + 1) cap)) (· = H + 1)).setCell (p := ⟨H + 1, 0, none⟩) (.inl rfl) (.slice none 0 0)
      have m2 := (Mod.refl ((w3.setCell ⟨H + 1 + 1 + 1, 0, none⟩ (.slice (some ⟨gg, 0, none⟩) (PL + 1) cap)).setCell ⟨H + 1, 0, none⟩ (.slice none 0 0)) (· = H + 1 + 1)).setCell (p := ⟨H + 1 + 1, 0, none⟩) (.inl rfl) (.bool false)
      refine ⟨kf.trans ((keepsFrom_mod m1 (fun k (hk : k = H + 1) => by omega)).trans (keepsFrom_mod m2 (fun k (hk : k = H + 1 + 1) => by omega))), rfl, ?_, ?_, (hmB.drop m1 (fun k (hk : k = H + 1) => .inr (by have := HH.out; omega))).drop m2 (fun k (hk : k = H + 1 + 1) => .inr (by have := HH.out; omega)), by rw [hnew]; omega⟩
      · exact (g1.set 0 (.slice none 0 0)).mod m2 (by omega)
      · exact (g2.mod m1 (by omega)).set 0 (.bool false)
    · have g3' : CellsAt (w3.setCell ⟨H + 1 + 1 + 1, 0, none⟩ (.slice (some ⟨gg, 0, none⟩) (PL + 1) cap)) (H + 1 + 1 + 1) #[.slice (some ⟨gg, 0, none⟩) (PL + 1) cap] 56 := g3
      have hmW : Mod W w3 (fun k => k = H + 1 + 1 + 1 ∨ inBlock (.slice va PL vc) k) := hm3.wide (fun k hk => .inl (.inr hk))
      refine ⟨kf, KS.of_mod k3 g3' (hmW.drop hS (fun k hk => .inl (.inl hk))) (fun k hk => ?_), g0, g1, g2, ⟨_, g3', ?_, fun k hk => ?_⟩, hmB, by rw [hnew]; omega⟩
      · have e2 : gg = k := by simpa [inBlock, Value.ownBlock] using hk
        subst e2
        rcases hat with h1 | h1
        · exact .inl h1
        · exact .inr (by omega)
      · rw [hnew]
        exact owns_mod hrow3 hS (fun k hk (e : k = H + 1 + 1 + 1) => by
          have e2 : gg = k := by simpa [inBlock, Value.ownBlock] using hk
          omega)
      · have e2 : gg = k := by simpa [inBlock, Value.ownBlock] using hk
        omega
  case stop =>
    rintro D c pre W hD ⟨ns, hns, hpre⟩ ⟨rfl, k1, k2, hmd, hmany⟩ hK
    have x1 := k1.cell 0
    have x2 := k2.cell 0
    simp at x1 x2
    gi_wp2
    have mD := (Mod.refl W (· = D)).putObj (b := D) (.inl rfl) (.deferred none)
    have y1 := (k1.mod mD (by omega)).cell 0
    have y2 := (k2.mod mD (by omega)).cell 0
    simp at y1 y2
    refine ⟨by simp, .inl ⟨_, _, rfl, run_takeDeferred hK, ?_⟩⟩
    refine ⟨.tuple #[.slice none 0 0, .bool false], ?_, ns, hns, hmd.drop mD (fun k (hk : k = D) => .inr (by have := hm0.size; omega)), .inr ⟨?_, rfl⟩⟩
    · simp [results, Try.f30, go_sem, y1, y2]
    · have := hpre.length_le
      omega
  case done =>
    rintro D ys W hD hns ⟨k0, k1, k2, ⟨v, k3, hown, hfar⟩, hmd, hfew⟩ hK
    obtain ⟨va, vc, rfl, _, _⟩ := owns_form hown
    have x1 := k1.cell 0
    have x2 := k2.cell 0
    have x3 := k3.cell 0
    have z1 := k1.free 0
    have m1 := (Mod.refl W (· = H + 1)).setCell (p := ⟨H + 1, 0, none⟩) (.inl rfl) (.slice va ys.length vc)
    have z2 := (k2.mod m1 (by omega)).free 0
    have w2 := (k2.mod m1 (by omega)).cell 0
    simp at x1 x2 x3 w2
    gi_wp2
    have m2 := (Mod.refl (W.setCell ⟨H + 1, 0, none⟩ (.slice va ys.length vc)) (· = H + 1 + 1)).setCell (p := ⟨H + 1 + 1, 0, none⟩) (.inl rfl) (.bool true)
    have mD := (Mod.refl ((W.setCell ⟨H + 1, 0, none⟩ (.slice va ys.length vc)).setCell ⟨H + 1 + 1, 0, none⟩ (.bool true)) (· = D)).putObj (b := D) (.inl rfl) (.deferred none)
    have hK' := m2.keep (m1.keep hK (fun (e : D = H + 1) => by omega)) (fun (e : D = H + 1 + 1) => by omega)
    have y1 := (((k1.set 0 (.slice va ys.length vc)).mod m2 (by omega)).mod mD (by omega)).cell 0
    have y2 := (((k2.mod m1 (by omega)).set 0 (.bool true)).mod mD (by omega)).cell 0
    simp at y1 y2
    refine ⟨by simp, .inl ⟨_, _, rfl, run_takeDeferred hK', ?_⟩⟩
    refine ⟨.tuple #[.slice va ys.length vc, .bool true], ?_, ys, hns, ((hmd.drop m1 (fun k (hk : k = H + 1) => .inr (by have := HH.out; omega))).drop m2 (fun k (hk : k = H + 1 + 1) => .inr (by have := HH.out; omega))).drop mD (fun k (hk : k = D) => .inr (by have := hm0.size; omega)), .inl ⟨hfew, _, rfl, ?_⟩⟩
    · simp [results, Try.f30, go_sem, y1, y2]
    · rw [HH.out]
      have hnb : ∀ j, j < H + 4 → ¬ inBlock (.slice va ys.length vc) j := fun j hj hb => by have := hfar j hb; omega
      have hnD : ¬ inBlock (.slice va ys.length vc) D := fun hb => by
        obtain ⟨o, ho, hc⟩ := owns_cells hown D hb
        rw [hK] at ho
        cases ho
        cases hc
      exact owns_mod (owns_mod (owns_mod hown m1 (fun k hk (e : k = H + 1) => hnb k (by omega) hk)) m2 (fun k hk (e : k = H + 1 + 1) => hnb k (by omega) hk)) mD (fun k hk (e : k = D) => hnD (e ▸ hk))

end Go.Proofs.Ytbpdmncobeiinaa
