/- A store that is new; what Get and Put of it do (these alone, for seats that reach no other method). The condition: fewer than 2^30 changes and Puts and versions, and bytes that are short. -/
import Derived.Test.YtakgnkjopbflbaaGreatDoorSb
import Derived.Test.YtakgnkjopbflbaaGreatDoorCw
import Derived.Deep.RegionLaw
import Derived.Deep.RegionHeld3
import Derived.Deep.AppendLies
namespace Go.Proofs.YtakgnkjopbflbaaGreatDoor
open Go.RowKit

theorem some_of {w : World} {H : Nat → Prop} {fo : Option Value} {so : Option (List UInt8)} (h : OptHeld w H fo so) : fo.isSome = so.isSome := by
  obtain ⟨_, _, _, _, _, h⟩ := was_of h
  exact h

theorem vers_of {w : World} {H : Nat → Prop} {fo : Option Value} {ls : List (List UInt8)} (h : VersHeld w H fo ls) : ∃ a c, fo.getD (.slice none 0 0) = .slice a ls.length c ∧ ls.length ≤ c ∧ c ≤ maxLen ∧
    ∃ us : List Value, RowAt w (.slice a ls.length c) us ∧ (∀ k, inBlock (.slice a ls.length c) k → H k) ∧ us.length = ls.length ∧ ∀ (i : Nat) (u : Value) (l : List UInt8), us[i]? = some u → ls[i]? = some l → Held w H u l := by
  rcases h with ⟨rfl, rfl⟩ | ⟨v, us, rfl, h2, h3, h4, h5⟩
  · exact ⟨none, 0, rfl, Nat.le_refl _, by unfold maxLen; omega, [], RowAt.nil w, fun k hk => by simp [inBlock, Value.ownBlock] at hk, rfl, fun i u l hi => by simp at hi⟩
  · obtain ⟨a, c, rfl, h6, h7⟩ := h2.form
    rw [h4] at h2 h3 h6 ⊢
    exact ⟨a, c, rfl, h6, h7, us, h2, h3, h4, h5⟩

/-- What 'Get' answers. -/
def Got (w : World) (o : Option (List UInt8)) (e : Ending) (w' : World) : Prop :=
  ∃ v', e = .returned (.tuple #[v', .bool o.isSome]) ∧ w'.ownsRow w.heap.size 5 1 v' (o.getD []).length ((o.getD []).map B) ∧ Mod w w' Nob

/-- All that is shown is short. -/
def Sto.short (σ : Sto) : Prop := ∀ nm l, σ.shows nm = some l → l.length ≤ 1099511627776

theorem bytes_of {w : World} {H : Nat → Prop} {o : Option (List UInt8)} {v : Value} (h : ChHeld w H o v) : BytesAt w v (o.getD []) := by
  cases o
  · have hv : v = .slice none 0 0 := h
    rw [hv]
    exact BytesAt.nil w
  · exact h.1

set_option maxRecDepth 100000 in
set_option maxHeartbeats 400000 in
theorem get_any (b : Nat) (σ : Sto) (x : StoB) (nm : ByteArray) (w : World) (h : StoreAt w b σ x) (hs : σ.short) :
    Calls Tryz.prog 79 #[.pointer (some ⟨b, 0, none⟩), .string nm] w (Got w (σ.shows nm)) := by
  obtain ⟨f, hf, hf2⟩ := h.shows
  obtain ⟨wa, wn, wc, hwas, hw1, hw2⟩ := was_of (hf2 nm)
  have hb := bytes_of hw1
  have hl : ((σ.shows nm).getD []).length ≤ 1099511627776 := by
    cases ho : σ.shows nm with
    | none => simp
    | some l => exact hs nm l ho
  have c0 := h.cells.cell 0
  simp at c0
  go_enter Tryz.func79, Tryz.ntmps79
  go_wp2_with (at_lookup; refine wpList_lookup_at rfl _ _ 95 true rfl 9 43 (.slice none 0 0) Tryz.underlying95 keyS zero_bytes rfl hf nm rfl ?_)
  refine (clone_bytes _ _ w hb hl).mono ?_
  rintro e w1 ⟨v1, rfl, hown, hm, _⟩
  go_wp2_with fail
  go_ret2
  exact ⟨v1, rfl, hown, hm⟩

/-- What a new store is. -/
def NewS (w : World) (e : Ending) (w' : World) : Prop :=
  ∃ b x, e = .returned (.pointer (some ⟨b, 0, none⟩)) ∧ StoreAt w' b sto0 x ∧ Mod w w' Nob ∧ ∀ k, x.foot b k → w.heap.size ≤ k

set_option maxRecDepth 100000 in
set_option maxHeartbeats 400000 in
theorem new_any (w : World) : Calls Tryz.prog 7 #[] w (NewS w) := by
  have hmm := @run_makeMap Tryz.prog
  go_enter Tryz.func7, Tryz.ntmps7
  go_wp2
  go_ret
  have m1 := MapAt.new Value.string w
  have m2 := MapAt.new Value.string (w.alloc (.map #[] 0))
  have k1 := m1.mod ((Mod.refl _ Nob).alloc (.map #[] 0)) nob
  obtain ⟨c, hc⟩ : ∃ c : Array Value, #[Value.map (some w.heap.size), .map (some (w.heap.size + 1)), .slice none 0 0, .slice none 0 0] = c := ⟨_, rfl⟩
  have l1 := k1.mod ((Mod.refl _ Nob).alloc (.cells c 99)) nob
  have l2 := m2.mod ((Mod.refl _ Nob).alloc (.cells c 99)) nob
  have c1 := CellsAt.new ((w.alloc (.map #[] 0)).alloc (.map #[] 0)) c 99
  simp only [World.size_alloc] at l2 c1
  rw [← hc] at c1 l1 l2
  refine ⟨w.heap.size + 1 + 1, ⟨w.heap.size, w.heap.size + 1, .slice none 0 0, .slice none 0 0, fun _ => False⟩, rfl, ?_, (((Mod.refl w Nob).alloc _).alloc _).alloc _, ?_⟩
  · refine ⟨c1, by simp only; omega, by simp only; omega, by simp only; omega, fun k hk => by simp [inBlock, Value.ownBlock] at hk, fun k hk => by simp [inBlock, Value.ownBlock] at hk, fun k hk => hk.elim,
      ⟨_, l1, fun _ => trivial⟩, ⟨_, l2, fun _ => .inl ⟨rfl, rfl⟩⟩, ⟨[], rfl, fun i c v hi => by simp [sto0] at hi, World.ownsRow_nil _ _ _ _⟩, World.ownsRow_nil _ _ _ _⟩
  · rintro k ((h1 | h1 | h1 | h1 | h1) | h1)
    · omega
    · simp only at h1; omega
    · simp only at h1; omega
    · simp [inBlock, Value.ownBlock] at h1
    · simp [inBlock, Value.ownBlock] at h1
    · exact h1.elim

def Sto.put (σ : Sto) (nm : ByteArray) (l : List UInt8) : Sto :=
  { (σ.set nm (some l)) with vers := upd σ.vers nm (σ.vers nm ++ [l]), puts := σ.puts ++ [σ.changes.length] }

theorem info_int : (Tryz.prog.info? 3).map (fun i => (i.zero, i.size, i.bytes)) = some (some (.int .i64 0), 1, 8) := by kernel_rfl
theorem info_vers : (Tryz.prog.info? 43).map (fun i => (i.zero, i.size, i.bytes)) = some (some (.slice none 0 0), 1, 24) := by kernel_rfl

theorem info_rows : (Tryz.prog.info? 43).map (fun i => (i.zero, i.size, i.bytes)) = some (some (.slice none 0 0), 1, 24) := by kernel_rfl

set_option maxHeartbeats 400000 in
theorem clip_some (a : Addr) (n c : Nat) (w : World) (h : n ≤ c) (_ : c ≤ 9223372036854775807) :
    Calls Tryz.prog 89 #[.slice (some a) n c] w fun e w' => e = .returned (.slice (some a) n n) ∧ w' = w := by
  go_enter Tryz.func89, Tryz.ntmps89
  go_wp2
  go_ret
  exact ⟨rfl, rfl⟩
set_option maxHeartbeats 400000 in
theorem clip_nil (w : World) :
    Calls Tryz.prog 89 #[.slice none 0 0] w fun e w' => e = .returned (.slice none 0 0) ∧ w' = w := by
  go_enter Tryz.func89, Tryz.ntmps89
  go_wp2
  go_ret
  exact ⟨rfl, rfl⟩

theorem clip_row {w : World} {a : Option Addr} {c : Nat} {us : List Value} (h : RowAt w (.slice a us.length c) us) :
    RowAt w (.slice a us.length us.length) us ∧ ∀ w', Calls Tryz.prog 89 #[.slice a us.length c] w' fun e w'' => e = .returned (.slice a us.length us.length) ∧ w'' = w' := by
  rcases h with ⟨h1, rfl⟩ | ⟨b, o, cap, h1, hb, hl, hc, hx⟩
  · cases h1
    exact ⟨RowAt.nil w, clip_nil⟩
  · cases h1
    exact ⟨.inr ⟨b, o, us.length, rfl, hb, Nat.le_refl _, Nat.le_trans hl hc, hx⟩, fun w' => clip_some _ _ _ w' hl (by unfold maxLen at hc; omega)⟩

/-- An append onto a row that is full, as one step of a region that draws. -/
theorem step_append_fresh {P : Program} {ops : Array Oper} {o : Oper} {a : Act} {w : World} {K : Act → World → Prop} {Q : Exit → Act → World → Prop} {E : Prop} (hgd : o.guard = none) (s x : Operand) (t : TypeId)
    (hop : o.op = Op.call { callee := Callee.builtin Builtin.append, args := #[s, x], argTypes := #[t, t] }) (e : TypeId) (i : TypeInfo) (z : Value) (bytes : Nat) (ht : P.underlying t = some (.slice e)) (hi : P.info? e = some i)
    (hz : i.zero = some z) (hsize : i.size = 1) (hby : i.bytes = bytes) (hzs : z.cells.size = 1) (av : Option Addr) (c : Nat) (xs : List Value) (hs : a.eval s = .slice av xs.length c) (hv : RowAt w (.slice av xs.length c) xs) (g c' : Nat)
    (y : Value) (te : TypeId) (hx : a.eval x = .slice (some ⟨g, 0, none⟩) 1 c') (hnews : CellsAt w g #[y] te) (hroom : c < xs.length + 1) (h63 : xs.length + 1 ≤ maxLen) (hbytes : (xs.length + 1) * bytes ≤ 140737488355328)
    (h : ∀ v' w', w'.ownsRow w.heap.size e 1 v' (xs.length + 1) (xs ++ [y]) → w.grownBy w' none → K (a.put o.dst v') w') :
    if Region.wanted o (yielded ops a.tmps) = true then Oper.wp P o a w K Q else E := by
  have hw : Region.wanted o (yielded ops a.tmps) = true := by simp [Region.wanted, hgd]
  rw [if_pos hw]
  obtain ⟨v', w', hrun, r1, r2⟩ := run_append_fresh w t o.type e i z bytes ht hi hz hsize hby hzs av c xs hv g c' y te hnews hroom h63 hbytes
  unfold Oper.wp
  simp [execOp, hop, resolve, invoke, builtin, hs, hx, hrun, Result.andThen]
  exact h v' w' r1 r2

/-- A Put noted down. -/
theorem puts_done {w w' w2 : World} {b : Nat} {σ : Sto} {x : StoB} {u : Value} (h : StoreAt w b σ x) (hm : Mod w w' Nob) (hg : w'.grownBy w2 x.pv.ownBlock)
    (hown : w2.ownsRow 0 3 1 u (σ.puts.length + 1) ((σ.puts.map fun (n : Nat) => Value.int .i64 (n : Int)) ++ [.int .i64 (σ.changes.length : Int)])) (hin : ∀ k, inBlock u k → inBlock x.pv k ∨ w.heap.size ≤ k) :
    StoreAt (w2.setCell ⟨b, 3, none⟩ u) b { σ with puts := σ.puts ++ [σ.changes.length] } { x with pv := u } ∧ StepS b w x (w2.setCell ⟨b, 3, none⟩ u) { x with pv := u } := by
  have hlt := h.foot_lt
  have hm1 : Mod w w2 (inBlock x.pv) := hm.nob.grown hg (fun k hk => .inl hk)
  have hm2 : Mod w2 (w2.setCell ⟨b, 3, none⟩ u) (· = b) := (Mod.refl w2 (· = b)).setCell (p := ⟨b, 3, none⟩) (.inl rfl) u
  have hM : Mod w (w2.setCell ⟨b, 3, none⟩ u) (fun k => inBlock x.pv k ∨ k = b) := (hm1.wide (fun k hk => .inl (.inl hk))).drop hm2 (fun k hk => .inl (.inr hk))
  have hS : ∀ k, (inBlock x.pv k ∨ k = b) → ¬ x.held k := fun k hk hh => (h.hold k hh).2 (by
    rcases hk with hk | rfl
    · exact .inr (.inr (.inr (.inr hk)))
    · exact .inl rfl)
  have hun : ∀ k, inBlock u k → k ≠ b ∧ k ≠ x.ms ∧ k ≠ x.mv := fun k hk => by
    rcases hin k hk with h1 | h1
    · exact h.nep k h1
    · have l1 := hlt b (.inl (.inl rfl))
      have l2 := hlt x.ms (.inl (.inr (.inl rfl)))
      have l3 := hlt x.mv (.inl (.inr (.inr (.inl rfl))))
      exact ⟨by omega, by omega, by omega⟩
  obtain ⟨f, hf, hf2⟩ := h.shows
  obtain ⟨g, hg', hg2⟩ := h.vers
  obtain ⟨vs, hv1, hv2, hch⟩ := h.chs
  have hc1 := (h.cells.mod hm1 (fun hk => (h.nep b hk).1 rfl)).set 3 u
  refine ⟨⟨hc1, h.ne1, h.ne2, h.ne3, fun k hk => ?_, hun, fun k hk => ⟨Nat.lt_of_lt_of_le (h.hold k hk).1 hM.size, fun ho => ?_⟩, ?_, ?_, ?_, ?_⟩, ⟨hM.wide (fun k hk => .inl ?_), ?_, fun _ h => h, fun _ h => .inl h⟩⟩
  · obtain ⟨n1, n2, n3, n4⟩ := h.nec k hk
    refine ⟨n1, n2, n3, fun h1 => ?_⟩
    rcases hin k h1 with h2 | h2
    · exact n4 h2
    · have := hlt k (.inl (.inr (.inr (.inr (.inl hk))))); omega
  · rcases ho with ho | ho | ho | ho | ho
    · exact (h.hold k hk).2 (.inl ho)
    · exact (h.hold k hk).2 (.inr (.inl ho))
    · exact (h.hold k hk).2 (.inr (.inr (.inl ho)))
    · exact (h.hold k hk).2 (.inr (.inr (.inr (.inl ho))))
    · rcases hin k ho with h1 | h1
      · exact (h.hold k hk).2 (.inr (.inr (.inr (.inr h1))))
      · have := (h.hold k hk).1; omega
  · exact ⟨f, hf.mod hM (by rintro (h1 | h1); exact (h.nep _ h1).2.1 rfl; exact h.ne1 h1.symm), fun n => (hf2 n).mono hM hS (fun _ h => h)⟩
  · exact ⟨g, hg'.mod hM (by rintro (h1 | h1); exact (h.nep _ h1).2.2 rfl; exact h.ne2 h1.symm), fun n => (hg2 n).mono hM hS (fun _ h => h)⟩
  · exact ⟨vs, hv1, fun i c v hi hj => (hv2 i c v hi hj).mono hM hS (fun _ h => h), owns_mod hch hM (by rintro k hk (h1 | h1); exact (h.nec k hk).2.2.2 h1; exact (h.nec k hk).1 h1)⟩
  · have := owns_mod hown hm2 (fun k hk e => (hun k hk).1 e)
    simpa using this
  · rcases hk with h1 | h1
    · exact .inr (.inr (.inr (.inr h1)))
    · exact .inl h1
  · rintro k (ho | ho | ho | ho | ho)
    · exact .inl (.inl ho)
    · exact .inl (.inr (.inl ho))
    · exact .inl (.inr (.inr (.inl ho)))
    · exact .inl (.inr (.inr (.inr (.inl ho))))
    · exact (hin k ho).imp (fun h => .inr (.inr (.inr (.inr h)))) (fun h => h)

/-- A name's versions set. -/
theorem vers_done {w w' : World} {b : Nat} {σ : Sto} {x : StoB} {nm : ByteArray} {f : ByteArray → Option Value} {v : Value} {us : List Value} {ls : List (List UInt8)} (h : StoreAt w b σ x) (hM : Mod w w' (· = x.mv))
    (hmap : MapAt .string w' x.mv (upd f nm (some v))) (hf : ∀ n, VersHeld w x.held (f n) (σ.vers n)) (hrow : RowAt w v us) (hin : ∀ k, inBlock v k → x.held k) (hlen : us.length = ls.length)
    (hels : ∀ (i : Nat) (u : Value) (l : List UInt8), us[i]? = some u → ls[i]? = some l → Held w x.held u l) : StoreAt w' b { σ with vers := upd σ.vers nm ls } x := by
  have hS : ∀ k, k = x.mv → ¬ x.held k := fun k hk hh => (h.hold k hh).2 (.inr (.inr (.inl hk)))
  obtain ⟨g, hg, hg2⟩ := h.shows
  obtain ⟨vs, hv1, hv2, hch⟩ := h.chs
  refine ⟨h.cells.mod hM h.ne2, h.ne1, h.ne2, h.ne3, h.nec, h.nep, fun k hk => ⟨Nat.lt_of_lt_of_le (h.hold k hk).1 hM.size, (h.hold k hk).2⟩, ⟨g, hg.mod hM h.ne3, fun n => (hg2 n).mono hM hS (fun _ h => h)⟩, ⟨_, hmap, fun n => ?_⟩,
    ⟨vs, hv1, fun i c v hi hj => (hv2 i c v hi hj).mono hM hS (fun _ h => h), owns_mod hch hM (fun k hk => (h.nec k hk).2.2.1)⟩, owns_mod h.puts hM (fun k hk => (h.nep k hk).2.2)⟩
  show VersHeld w' x.held (upd f nm (some v) n) (upd σ.vers nm ls n)
  by_cases hn : n = nm
  · subst hn
    rw [upd_same, upd_same]
    exact .inr ⟨v, us, rfl, hrow.mod hM (fun k hk => fun e => hS k e (hin k hk)), hin, hlen, fun i u l hi hj => (hels i u l hi hj).mono hM hS (fun _ h => h)⟩
  · rw [upd_other _ _ hn, upd_other _ _ hn]
    exact (hf n).mono hM hS (fun _ h => h)

/-- The row of a name's versions. -/
theorem vers_row {w : World} {H : Nat → Prop} {fo : Option Value} {ls : List (List UInt8)} (h : VersHeld w H fo ls) : ∃ a c us, fo.getD (.slice none 0 0) = .slice a us.length c ∧ RowAt w (.slice a us.length c) us ∧ us.length = ls.length ∧
    ∀ (i : Nat) (u : Value) (l : List UInt8), us[i]? = some u → ls[i]? = some l → Held w H u l := by
  rcases h with ⟨rfl, rfl⟩ | ⟨v, us, rfl, h2, h3, h4, h5⟩
  · exact ⟨none, 0, [], rfl, RowAt.nil w, rfl, fun i u l hi => by simp at hi⟩
  · obtain ⟨a, c, rfl, _⟩ := h2.form
    exact ⟨a, c, us, rfl, h2, h4, h5⟩

set_option maxRecDepth 100000 in
set_option maxHeartbeats 2000000 in
theorem put_any (b : Nat) (σ : Sto) (x : StoB) (nm : ByteArray) (v : Value) (l : List UInt8) (w : World) (h : StoreAt w b σ x) (hv : BytesAt w v l) (hl : l.length ≤ 1099511627776)
    (hn : σ.changes.length < 1073741824) (hp : σ.puts.length < 1073741824) (hvn : (σ.vers nm).length < 1073741824) :
    Calls Tryz.prog 49 #[.pointer (some ⟨b, 0, none⟩), .string nm, v] w (DidS w b x (.tuple #[]) (σ.put nm l)) := by
  obtain ⟨i0, hi, hz0, hz1, hz2⟩ := info_parts info_int
  obtain ⟨av, cv, hvf, _⟩ := hv.form
  rw [List.length_map] at hvf
  have hrows : RowsAt ((w.alloc (.cells #[] 5)).alloc (.cells #[.slice (some ⟨w.heap.size, 0, none⟩) 0 0, .slice av l.length cv] 43)) (.slice (some ⟨w.heap.size + 1, 0, none⟩) 2 2) [[], l] := by
    have hm := ((Mod.refl w Nob).alloc (.cells #[] 5)).alloc (.cells #[.slice (some ⟨w.heap.size, 0, none⟩) 0 0, .slice av l.length cv] 43)
    have hc := CellsAt.new (w.alloc (.cells #[] 5)) #[.slice (some ⟨w.heap.size, 0, none⟩) 0 0, .slice av l.length cv] 43
    rw [World.size_alloc] at hc
    refine ⟨[.slice (some ⟨w.heap.size, 0, none⟩) 0 0, .slice av l.length cv], .inr ⟨w.heap.size + 1, 0, 2, rfl, by simp, by simp, by unfold maxLen; omega, fun i u hi => ?_⟩, rfl, fun i u m hi hj => ?_⟩
    · rw [Nat.zero_add, hc.cell i]; simpa using hi
    · match i with
      | 0 =>
        simp at hi hj
        subst hi; subst hj
        exact .inl (.inr ⟨w.heap.size, 0, 0, rfl, by simp; omega, by simp, by unfold maxLen; omega, fun i u hi => by simp at hi⟩)
      | 1 =>
        simp at hi hj
        subst hi; subst hj
        have hv' := hv
        rw [hvf] at hv'
        exact hv'.mod hm (fun _ _ => nob)
      | n + 2 => simp at hi
  go_enter Tryz.func49, Tryz.ntmps49
  go_wp2_with fail
  refine (concat_bytes _ _ _ hrows (by simp [total]; omega)).mono ?_
  rintro e w1 ⟨v1, rfl, hown1, hm1⟩
  have hm1' := (((Mod.refl w Nob).alloc _).alloc _).trans hm1
  clear hrows hm1
  simp only [List.flatten_cons, List.flatten_nil, List.append_nil, List.nil_append, World.size_alloc] at hown1
  have h1 := h.still hm1'
  have c2 := h1.cells.cell 2
  have c3 := h1.cells.cell 3
  have f3 := h1.cells.free 3
  obtain ⟨vs, hvs1, hvs2, hch⟩ := h1.chs
  obtain ⟨a2, k2, hcv, _⟩ := owns_form hch
  obtain ⟨a3, k3, hpv, _⟩ := owns_form h1.puts
  rw [hcv] at c2
  have hcv' := hcv
  simp at c2 c3
  have hpo := h1.puts
  obtain ⟨pn, hpn⟩ : ∃ pn, σ.puts.length = pn := ⟨_, rfl⟩
  obtain ⟨cn, hcn⟩ : ∃ cn, σ.changes.length = cn := ⟨_, rfl⟩
  obtain ⟨ps, hps⟩ : ∃ ps, (σ.puts.map fun (n : Nat) => Value.int .i64 (n : Int)) = ps := ⟨_, rfl⟩
  rw [hpn, hps] at hpo
  rw [hcn] at c2 hcv'
  clear hcv hpv hch hvs2 hvs1 hv hvf
  go_wp2_with fail
  have hbl := h1.cells.lt
  have hpo2 := hpo.alloc (.cells #[.int .i64 cn] 3)
  have hlen1 : v1.ownBlock ≠ none ∨ True := .inr trivial
  clear hlen1
  go_region_law (refine step_append_lies _ (by rfl) _ _ _ (by rfl) 0 3 i0 _ 1 8 Tryz.underlying84 hi hz0 hz1 hz2 rfl (by omega) x.pv pn ps (by rfl) hpo2.drew ⟨w1.heap.size, 0, none⟩ 1 1 [.int .i64 cn] (by rfl) (by rfl) (World.news_of_block (cs := #[.int .i64 cn]) (t := 3) (fr := (0, 0)) (heap_alloc_new w1 _)) (by simp [Value.oneCell']) (by omega) (by unfold maxLen; omega) (by omega) (by simp) (w1.heap.size + 1) (by simp) ?_; intro gg cap w2 hown2 hgrow hat hlt; have hA := (h1.cells.mod (((Mod.refl w1 (inBlock x.pv)).alloc (.cells #[.int .i64 cn] 3)).drew.grown hgrow (fun k hk => .inl hk)) (fun hk => (h1.nep b hk).1 rfl)); have g2 := hA.cell 2; have g3 := hA.cell 3; have gf := hA.free 3; simp at g2 g3; rw [hcv'] at g2)
  all_goals (
    have hins : ∀ k, inBlock (Value.slice (some ⟨gg, 0, none⟩) (pn + 1) cap) k → inBlock x.pv k ∨ w1.heap.size ≤ k := by
      intro k hk
      have hk' : gg = k := by simpa [inBlock, Value.ownBlock] using hk
      subst hk'
      rcases hat with h2 | h2
      · exact .inl h2
      · right; omega
    have hp1 := puts_done (u := .slice (some ⟨gg, 0, none⟩) (pn + 1) cap) h1 (((Mod.refl w1 Nob).alloc (.cells #[.int .i64 cn] 3)).drew) hgrow (by rw [hpn, hcn, hps]; exact hown2) hins)
  all_goals (
    clear hat hlt hown2 hgrow gf g3 g2 hA hpo2 hpo hz0 hz1 hz2 hi c2 c3 f3 hbl hins
    obtain ⟨hs3, hp3⟩ := hp1
    have hv1 := BytesAt.of_owns hown1
    have hnew : ∀ k, inBlock v1 k → w.heap.size ≤ k ∧ k < w1.heap.size := fun k hk => by have := hown1.lt k hk; omega
    have hno : ∀ k, inBlock v1 k → ¬ x.own b k := fun k hk ho => by have h2 := hnew k hk; have h3 := h.foot_lt k (.inl ho); omega
    have hno3 : ∀ k, inBlock v1 k → ¬ StoB.own { x with pv := Value.slice (some ⟨gg, 0, none⟩) (pn + 1) cap } b k := fun k hk ho => by
      have h2 := hnew k hk
      rcases hp3.own k ho with h3 | h3
      · exact hno k hk h3
      · omega
    have hs4 := hs3.hold_more (inBlock v1) (fun k hk => ⟨by have h2 := hnew k hk; have h3 := hp3.mod.size; omega, hno3 k hk⟩)
    obtain ⟨w3, hw3⟩ : ∃ w3, w2.setCell ⟨b, 3, none⟩ (Value.slice (some ⟨gg, 0, none⟩) (pn + 1) cap) = w3 := ⟨_, rfl⟩
    rw [hw3] at hs4 hp3
    rw [hw3]
    have hv3 : Held w3 (fun k => x.held k ∨ inBlock v1 k) v1 l := ⟨hv1.mod hp3.mod hno, fun k hk => .inr hk⟩
    have hst : StepS b w x w3 { x with pv := Value.slice (some ⟨gg, 0, none⟩) (pn + 1) cap, held := fun k => x.held k ∨ inBlock v1 k } := by
      have h5 := StepS.after hm1' hp3
      exact ⟨h5.mod, h5.own, fun k hk => .inl hk, fun k hk => hk.imp (fun h => h) (fun h6 => (hnew k h6).1)⟩
    clear hs3 hp3 hw3
    go_wp2_with fail
    refine (set_some b _ _ nm v1 l w3 hs4 hv3 hn).mono ?_
    rintro e w4 ⟨x4, rfl, h4, s4⟩
    have hst4 := hst.trans s4
    have hv4 := hv3.step hs4 s4
    clear hst hs4 hv3 s4 h h1
    obtain ⟨f, hf, hf2⟩ := h4.vers
    obtain ⟨ra, rc, us, hget, hrow, hul, hels⟩ := vers_row (hf2 nm)
    obtain ⟨hrow', hclip⟩ := clip_row hrow
    have c1 := h4.cells.cell 1
    simp at c1
    have hus : us.length < 1073741824 := by rw [hul]; exact hvn
    have HU := Lib.hid hul
    clear hul
    have hl0 := run_lookup_at Tryz.underlying96 keyS zero_vers (hf.mod (Mod.refl w4 Nob).drew nob) nm false
    have hl1 := fun o => run_lookup_at Tryz.underlying96 keyS zero_vers (hf.mod ((Mod.refl w4 Nob).alloc o).drew nob) nm false
    simp only [Bool.false_eq_true, if_false, hget] at hl0 hl1
    obtain ⟨j0, hj, hjz0, hjz1, hjz2⟩ := info_parts info_rows
    obtain ⟨a9, k9, rfl, _, _⟩ := owns_form hown1
    go_wp2_with fail
    go_region_held3 (fun w' => w'.cell? ⟨b, 1, none⟩ = some (.map (some x4.mv))) (first | go_keep | assumption)
      (first
        | (go_at_call 89; refine (hclip _).mono ?_; rintro e w' ⟨rfl, rfl⟩)
        | (show if Region.wanted ⟨some 44, _, _, _, _, _⟩ _ = true then _ else _
           refine step_append_fresh (by rfl) _ _ _ (by rfl) 43 j0 _ 24 Tryz.underlying183 hj hjz0 hjz1 hjz2 rfl ra us.length us (by rfl) (hrow'.mod ((Mod.refl w4 Nob).alloc _).drew (fun _ _ => nob)) w4.heap.size 1 _ 43 (by rfl) (CellsAt.new w4 _ _) (by omega) (by unfold maxLen; omega) (by omega) ?_
           intro v6 w6 hown6 hg6
           have hm6 := ((Mod.refl w4 Nob).alloc (.cells #[.slice a9 l.length k9] 43)).drew.grown hg6 (fun k hk => by cases hk)
           obtain ⟨w7, hrun7, hm7, hg7⟩ := run_mapUpdate_at (T := 96) Tryz.underlying96 keyS (hf.mod hm6 nob) nm v6
           have h6 := h4.still hm6
           have k6 := (h6.cells.cell 1)
           have k7 := ((h6.cells.mod ((Mod.refl w6 (· = x4.mv)).grown hg7 (fun k hk => .inl (Option.some.inj hk).symm)) h6.ne2).cell 1)
           simp at k6 k7)))
  all_goals (
    go_wp2_with fail
    go_end0
    have hM7 := (Mod.refl w6 (· = x4.mv)).grown hg7 (fun k hk => .inl (Option.some.inj hk).symm)
    have hb6 : ∀ k, inBlock v6 k → w4.heap.size ≤ k ∧ k < w6.heap.size := fun k hk => by
      have h1 := hown6.lt k hk
      simp at h1
      omega
    have h6' := h6.hold_more (inBlock v6) (fun k hk => ⟨(hb6 k hk).2, fun ho => by have h1 := hb6 k hk; have h2 := h4.foot_lt k (.inl ho); omega⟩)
    have hul : us.length = (σ.vers nm).length := HU
    have hd := vers_done (ls := σ.vers nm ++ [l]) h6' hM7 hm7 (fun n => (hf2 n).mono hm6 (fun k hk => hk.elim) (fun _ h => .inl h)) (RowAt.of_owns hown6) (fun k hk => .inr hk) (by simp [hul]) (fun i u l' hi' hj' => by
      by_cases hlt : i < us.length
      · rw [List.getElem?_append_left hlt] at hi'
        rw [List.getElem?_append_left (by omega)] at hj'
        exact (hels i u l' hi' hj').mono hm6 (fun k hk => hk.elim) (fun _ h => .inl h)
      · have h0 : i = us.length := by
          have := (List.getElem?_eq_some_iff.1 hi').1
          simp at this
          omega
        rw [h0, List.getElem?_append_right (Nat.le_refl _)] at hi'
        rw [h0, hul, List.getElem?_append_right (Nat.le_refl _)] at hj'
        simp at hi' hj'
        subst hi'; subst hj'
        exact hv4.mono hm6 (fun k hk => hk.elim) (fun _ h => .inl h))
    exact ⟨_, rfl, hd, hst4.trans ⟨hm6.nob.drop hM7 (fun k hk => .inl (.inr (.inr (.inl hk)))), fun k hk => .inl hk, fun k hk => .inl hk, fun k hk => hk.imp (fun h => h) (fun h1 => (hb6 k h1).1)⟩⟩)

end Go.Proofs.YtakgnkjopbflbaaGreatDoor
