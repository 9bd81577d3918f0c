/-
  JournalOld: an elder store that is laid in the place of the one there is is told, if anything was committed since; otherwise nothing is lost. No condition.
-/
import Derived.Test.YtaeociedjdgdfaaGreatDoorOlW
import Derived.Test.YtaeociedjdgdfaaGreatDoorOlC
import Derived.Test.YtaeociedjdgdfaaGreatDoorRows
import Derived.WalkKit
import Derived.ProofKit
import Derived.LaidMore
import Derived.OpenShut
import Derived.Stop.Joined
import Derived.Lib.SmallJoins
import Derived.ChangeOld
import Derived.Below
import Derived.Test.YtaeociedjdgdfaaGreatDoorKb
import Derived.Test.YtaeociedjdgdfaaGreatDoorCards
import Derived.Test.YtaeociedjdgdfaaGreatDoorTie
import Derived.SevenTiedAt
namespace Go.Proofs.YtaeociedjdgdfaaGreatDoor
open Go.RowKit Go.Shelf
set_option linter.unusedSimpArgs false

theorem nodup_le2 {α : Type} [DecidableEq α] : ∀ (l m : List α), l.Nodup → (∀ x ∈ l, x ∈ m) → l.length ≤ m.length
  | [], _, _, _ => Nat.zero_le _
  | x :: l, m, hn, hs => by
    have h := List.nodup_cons.1 hn
    have hx := hs x List.mem_cons_self
    have ih := nodup_le2 l (m.erase x) h.2 (fun y hy => (List.mem_erase_of_ne (fun e => h.1 (by rw [← e]; exact hy))).2 (hs y (List.mem_cons_of_mem _ hy)))
    rw [List.length_erase_of_mem hx] at ih
    have := List.length_pos_of_mem hx
    simp only [List.length_cons]
    omega

theorem nameS_size (n : Nat) (h : n < 100) : (nameS n).size ≤ maxLen := by
  have h1 := dec_length n h
  have h2 : (nameS n).size = 1 + (Lib.decDigits n).length := by
    unfold nameS
    rw [ByteArray.size_append]
    rfl
  unfold maxLen
  omega

/-- A store of which each change was a Put of the next entry. -/
structure Past (σ : Sto) : Prop where
  fair : σ.Fair
  puts : σ.puts = List.range σ.changes.length
  behind : ∀ p, p ≤ σ.changes.length → ∀ m, p < m → m < 100 → σ.at_ p (nameS m) = none
  good : ∀ p, p ≤ σ.changes.length → ∀ nm l, σ.at_ p nm = some l → l.length = 96 ∧ leN (l.take 8) < 1073741824
theorem Past.new : Past sto0 :=
  ⟨⟨fun p h => (by cases h), fun c h => (by cases h), fun nm h => (by cases h)⟩, rfl, fun p _ m _ _ => by simp [Sto.at_, sto0, wasOf], fun p _ nm l h => by simp [Sto.at_, sto0, wasOf] at h⟩
theorem Past.put {σ : Sto} (h : Past σ) (l : List UInt8) (hn : σ.changes.length < 98) (hl : l.length = 96) (hl2 : leN (l.take 8) < 1073741824) : Past (σ.put (nameS (σ.changes.length + 1)) l) := by
  have hlen : (σ.put (nameS (σ.changes.length + 1)) l).changes.length = σ.changes.length + 1 := by
    show (σ.changes ++ [_]).length = _
    rw [List.length_append]; rfl
  have hat : ∀ p, p ≤ σ.changes.length + 1 → (p ≤ σ.changes.length ∧ (σ.put (nameS (σ.changes.length + 1)) l).at_ p = σ.at_ p) ∨ (p = σ.changes.length + 1 ∧ (σ.put (nameS (σ.changes.length + 1)) l).at_ p = (σ.put (nameS (σ.changes.length + 1)) l).shows) := fun p hp => by
    by_cases hp2 : p ≤ σ.changes.length
    · exact .inl ⟨hp2, at_put σ _ l p hp2⟩
    · have e : p = σ.changes.length + 1 := by omega
      refine .inr ⟨e, ?_⟩
      have h9 := at_end (σ.put (nameS (σ.changes.length + 1)) l)
      rw [hlen] at h9
      rw [e, h9]
  have hend : ∀ nm, σ.shows nm = σ.at_ σ.changes.length nm := fun nm => by rw [at_end]
  refine ⟨⟨fun p hp => ?_, fun c hc => ?_, fun n hs => ?_⟩, ?_, fun p hp m h1 h2 => ?_, fun p hp nm l' hs => ?_⟩
  · have hp' : p ∈ σ.puts ++ [σ.changes.length] := hp
    rw [hlen]
    rcases List.mem_append.1 hp' with h1 | h1
    · have := h.fair.puts p h1
      omega
    · simp at h1
      omega
  · have hc' : c ∈ σ.changes ++ [(nameS (σ.changes.length + 1), σ.shows (nameS (σ.changes.length + 1)))] := hc
    rcases List.mem_append.1 hc' with h1 | h1
    · exact h.fair.size c h1
    · simp at h1
      subst h1
      exact nameS_size _ (by omega)
  · show n ∈ (σ.changes ++ [(nameS (σ.changes.length + 1), σ.shows (nameS (σ.changes.length + 1)))]).map (·.1)
    rw [List.map_append, List.mem_append]
    by_cases hn2 : n = nameS (σ.changes.length + 1)
    · exact .inr (by simp [hn2])
    · rw [put_other _ _ _ _ hn2] at hs
      exact .inl (h.fair.shown n hs)
  · show σ.puts ++ [σ.changes.length] = _
    rw [hlen, h.puts, List.range_succ]
  · rw [hlen] at hp
    rcases hat p hp with ⟨h3, h4⟩ | ⟨h3, h4⟩
    · rw [h4]
      exact h.behind p h3 m h1 h2
    · rw [h4, put_other _ _ _ _ (fun e => by have := nameS_inj h2 (by omega) e; omega), hend]
      exact h.behind _ (Nat.le_refl _) m (by omega) h2
  · rw [hlen] at hp
    rcases hat p hp with ⟨h3, h4⟩ | ⟨h3, h4⟩
    · rw [h4] at hs
      exact h.good p h3 nm l' hs
    · rw [h4] at hs
      by_cases hn2 : nm = nameS (σ.changes.length + 1)
      · subst hn2
        rw [put_shows] at hs
        cases hs
        exact ⟨hl, hl2⟩
      · rw [put_other _ _ _ _ hn2, hend] at hs
        exact h.good _ (Nat.le_refl _) nm l' hs

/-- What counts is not all there. -/
theorem begin_missing (key : List UInt8) (get : Nat → List UInt8) (ep cnt wr p : Nat) (hp : p < cnt) (hg : get (p + 1) = []) : beginP key get ep cnt wr = none := by
  have h1 : stepsP key get (p + 1) = none := by
    cases hs : stepsP key get p with
    | none => exact stepsP_down key get p hs 1
    | some s =>
      obtain ⟨es, last, wr'⟩ := s
      rw [stepsP_succ key get p es last wr' hs, hg, opened_none _ _ _ _ (by simp)]
      rfl
  obtain ⟨j, rfl⟩ : ∃ j, cnt = p + 1 + j := ⟨cnt - (p + 1), by omega⟩
  unfold beginP
  rw [stepsP_down key get (p + 1) h1 j]
  rfl

/-- A store is rolled back. -/
theorem sys_roll {w : World} {b tb : Nat} {σ : Sto} {x : StoB} {τ : Tru} {F : Nat → Prop} (n : Nat) (h : Sys0 w b tb σ x τ F) (hP : Past σ) (hE : AllE σ 1000) (hc : σ.changes.length < 98) (hn : n ≤ σ.changes.length) :
    Calls Tryz.prog 19 #[.pointer (some ⟨b, 0, none⟩), .int .i64 n] w fun r w' => r = .returned (.bool true) ∧ ∃ σ' x' F', Sys0 w' b tb σ' x' τ F' ∧ (n = 0 → σ' = σ) ∧
      (0 < n → σ'.shows (nameS (σ.changes.length - n + 1)) = none) ∧ AllE σ' 2000 ∧ (∀ k, F' k → F k ∨ w.heap.size ≤ k) ∧ Mod w w' F := by
  by_cases h0 : n = 0
  · subst h0
    refine (roll_zero b σ x w h.st).mono ?_
    rintro r w' ⟨rfl, rfl⟩
    exact ⟨rfl, σ, x, F, h, fun _ => rfl, fun h => by omega, hE.wide (by omega), fun k hk => .inl hk, Mod.refl _ _⟩
  · obtain ⟨p, hp⟩ : ∃ p, σ.changes.length - n = p := ⟨_, rfl⟩
    have hpl : σ.puts.length = σ.changes.length := by rw [hP.puts, List.length_range]
    have hpp : σ.puts[σ.puts.length - n]? = some p := by
      rw [hpl, hP.puts, hp, List.getElem?_range (by omega)]
    refine (roll_yes b σ x n p w h.st hP.fair (by omega) (by omega) (by omega) hpp).mono ?_
    rintro r w' ⟨ns, hnd, hmem, x', rfl, hs, hst⟩
    have hsh := rolled_at σ p ns hmem
    have hk := rolled_keeps (wasOf (σ.changes.drop p)) ns σ
    have hlen := rolled_length σ (wasOf (σ.changes.drop p)) ns
    have hns : ns.length ≤ σ.changes.length := by
      have h1 := nodup_le2 ns ((σ.changes.drop p).map (·.1)) hnd (fun nm h2 => by
        have h3 := (hmem nm).1 h2
        unfold wasOf at h3
        rw [Option.isSome_map] at h3
        obtain ⟨c, hc2⟩ := Option.isSome_iff_exists.1 h3
        have h4 := List.find?_some hc2
        simp at h4
        exact List.mem_map.2 ⟨c, List.mem_of_find?_eq_some hc2, h4⟩)
      rw [List.length_map, List.length_drop] at h1
      omega
    have hz := hst.mod.size
    refine ⟨rfl, _, x', fun k => F k ∨ x'.foot b k, ⟨hs, h.tr.mod hst.mod (fun hk => h.far (.inl hk)), fun hf => ?_, fun k hk => .inr hk, .inl h.tru, fun k hk => hk.elim (fun hk => by have := h.lt k hk; omega) (hs.foot_lt k)⟩, fun e => absurd e h0, fun _ => ?_, ⟨fun nm l h2 => ?_, ?_, ?_, fun nm => ?_⟩, fun k hk => ?_, hst.mod.wide (fun k hk => .inl (h.foot k (.inl hk)))⟩
    · rcases hst.foot tb hf with h5 | h5
      · exact h.far h5
      · have := h.lt tb h.tru; omega
    · rw [hsh, hp]
      exact hP.behind p (by omega) (p + 1) (by omega) (by omega)
    · rw [hsh] at h2
      exact hP.good p (by omega) nm l h2
    · rw [hlen]; omega
    · rw [hk.2, hpl]; omega
    · rw [hk.1]; have := hE.vers nm; omega
    · rcases hk with hk | hk
      · exact .inl hk
      · exact (hst.foot k hk).imp (h.foot k) id

/-- A journal is opened on what it had. -/
theorem sys_open_clean {w : World} {b tb : Nat} {σ : Sto} {x : StoB} {τ : Tru} {F : Nat → Prop} {es : List Ent} {last : List UInt8} (job : List UInt8) (K : Nat) (h : Sys0 w b tb σ x τ F) (hC : Clean (journalK job) σ τ es last) (hE : AllE σ K) (hK : K < 1073741824) (hc : τ.cnt ≤ 96) (he : 0 < τ.ep) (h60 : τ.ep < 1073741824) (hj : job.length = 32) :
    Calls Tryz.prog 10 #[.pointer (some ⟨b, 0, none⟩), .pointer (some ⟨tb, 0, none⟩), .agg (arrB job), .int .u64 τ.ep] w fun r w' => ∃ J x' F', r = .returned (.tuple #[.pointer (some ⟨J, 0, none⟩), .int .i64 0]) ∧
      SysJ w' b tb σ x' τ J (journalK job) τ.ep es last zl32 false ent0 F' ∧ (∀ k, F' k → F k ∨ w.heap.size ≤ k) ∧ Mod w w' F := by
  refine (sys_open_any job K h hE hK hc he h60 hj).mono ?_
  rintro r w' ⟨hm, hr⟩
  have hb0 : beginP (journalK job) (getP σ) τ.ep τ.cnt τ.wr = some (es, last, none) := beginP_stop hC.steps (by
    rw [getP_none (hC.behind _ (by omega) (by omega))]
    exact opened_none _ _ _ _ (by simp))
  rcases hr with ⟨c1, _⟩ | ⟨es', last', ad, J, x', F', c1, rfl, c2, c3, c4, c5⟩
  · rw [hb0] at c1
    cases c1
  · rw [hb0] at c1
    have h2 := Option.some.inj c1
    cases h2
    exact ⟨J, x', F', rfl, c3 hC.len.2, c5, hm⟩

end Go.Proofs.YtaeociedjdgdfaaGreatDoor

namespace Go.Proofs.YtaeociedjdgdfaaGreatDoor
open Go.RowKit Go.Shelf
set_option linter.unusedSimpArgs false

/-- What stands ahead of a round. -/
structure OldAt (w : World) (H b tb J : Nat) (job : List UInt8) (es : List Ent) (wr : World) : Prop where
  md : Mod w wr Nob
  jb : CellsAt wr H (arrB job) 22
  sys : ∃ σ x τ last next e F, SysJ wr b tb σ x τ J (journalK job) τ.ep es last next false e F ∧ Clean (journalK job) σ τ es last ∧ AllE σ es.length ∧ Past σ ∧ σ.changes.length = es.length ∧ τ.ep = 1 ∧ ∀ k, F k → H + 1 ≤ k

set_option maxRecDepth 100000 in
set_option maxHeartbeats 8000000 in
theorem old_walk (job : List UInt8) (hj : job.length = 32) (l : List Ent) (la : Option Addr) (lc : Nat) (back : Int) (w : World)
    (hl : ∀ (k : Nat) e, l[k]? = some e → ∃ b o, la = some ⟨b, o, none⟩ ∧ w.rangeAt b (o + k * 4) e.cells) (hok : ∀ e ∈ l, e.ok) :
    Calls Tryz.prog 4 #[.agg (arrB job), .slice la l.length lc, .int .i64 back] w fun r w' => r = .returned (.bool true) ∧ Mod w w' Nob := by
  obtain ⟨L, hL⟩ : ∃ n, l.length = n := ⟨_, rfl⟩
  rw [hL]
  have HL := Box.mk hL
  have cj := CellsAt.new w (arrB job) 22
  have m0 := (Mod.refl w Nob).alloc (.cells (arrB job) 22)
  have hz : (w.alloc (.cells (arrB job) 22)).heap.size = w.heap.size + 1 := by simp
  have hjs : (arrB job).size = 32 := by rw [arrB_size, hj]
  clear hL
  by_cases hLL : L = 0 ∨ 20 < L
  case pos =>
    have haw := fun W => awake_journal W
    rcases hLL with rfl | h20
    · go_enter Tryz.func4, Tryz.ntmps4
      go_wp2_with fail
      refine (haw _).mono ?_
      rintro r W1 ⟨rfl, m1⟩
      go_wp2_with fail
      go_ret
      exact ⟨rfl, m0.trans m1⟩
    · have h0 : ((L : Int) == 0) = false := beq_eq_false_iff_ne.2 (by omega)
      have h1 : decide ((L : Int) > 20) = true := decide_eq_true (by omega)
      have h2 : decide ((20 : Int) < (L : Int)) = true := decide_eq_true (by omega)
      go_enter Tryz.func4, Tryz.ntmps4
      go_wp2_with fail
      refine (haw _).mono ?_
      rintro r W1 ⟨rfl, m1⟩
      go_wp2_with fail
      go_ret
      exact ⟨rfl, m0.trans m1⟩
  have hL0 : 0 < L := by omega
  have hL20 : L ≤ 20 := by omega
  have h0 : ((L : Int) == 0) = false := beq_eq_false_iff_ne.2 (by omega)
  have h1 : decide ((L : Int) > 20) = false := decide_eq_false (by omega)
  have h2 : decide ((20 : Int) < (L : Int)) = false := decide_eq_false (by omega)
  clear hLL
  go_enter Tryz.func4, Tryz.ntmps4
  go_wp2_with fail
  change Calls _ _ _ (w.alloc (.cells (arrB job) 22)) _
  obtain ⟨W0, hW0⟩ : ∃ V, w.alloc (.cells (arrB job) 22) = V := ⟨_, rfl⟩
  rw [hW0] at cj m0 hz ⊢
  obtain ⟨H, hH⟩ : ∃ H, w.heap.size = H := ⟨_, rfl⟩
  rw [hH] at cj hz ⊢
  have HH := Lib.hid hH
  clear hW0 hH h0 h1 h2
  refine (new_any W0).mono ?_
  rintro r W1 ⟨b, x, rfl, hσ, m1, hft⟩
  replace cj := cj.mod m1 nob
  replace m0 := m0.trans m1
  have hz1 := m1.size
  have hfl := hσ.foot_lt
  go_wp2_with fail
  refine (trust_new W1).mono ?_
  rintro r W2 ⟨rfl, hτ, m2⟩
  obtain ⟨tb, htb⟩ : ∃ y, W1.heap.size = y := ⟨_, rfl⟩
  rw [htb] at hτ hfl hz1 ⊢
  replace hσ := hσ.mod m2 (fun _ h => h.elim)
  replace cj := cj.mod m2 nob
  replace m0 := m0.trans m2
  have hS : Sys0 W2 b tb sto0 x ⟨0, 0, 0⟩ (fun k => x.foot b k ∨ k = tb) := ⟨hσ, hτ, fun h => by have := hfl tb h; omega, fun k h => .inl h, .inr rfl, fun k h => h.elim (hσ.foot_lt k) (fun e => e ▸ CellsAt.lt (show CellsAt W2 tb _ _ from hτ))⟩
  have hF0 : ∀ k, (x.foot b k ∨ k = tb) → H + 1 ≤ k := fun k h => by
    rcases h with h | h
    · have := hft k h; omega
    · omega
  clear m1 m2 hfl hft htb hz hz1 hσ hτ
  have hbg := sys_begin hS (by simp)
  go_wp2_with fail
  refine hbg.mono ?_
  rintro r W3 ⟨rfl, hS3, m3⟩
  have hjs2 := cj.mod m3 (fun (h : H = tb) => by have := hF0 tb (.inr rfl); omega)
  have md3 := m0.drop m3 (fun k (hk : k = tb) => .inr (by have := hF0 tb (.inr rfl); have := HH.out; omega))
  have hop := sys_open_clean job 0 hS3 (Clean.new (journalK job) 1) AllE.new (by omega) (by simp) (by simp) (by simp) hj
  change Calls _ _ #[_, _, _, .int .u64 ((0 + 1 : Nat) : Int)] _ _ at hop
  clear hbg hS m3 m0 cj
  go_wp2_with (refine wpList_load_arr rfl 22 _ rfl H 32 5 rfl (arrB job) hjs2 Tryz.underlying22 size_b32 hjs ?_)
  refine hop.mono ?_
  rintro r W4 ⟨J, x4, F4, rfl, hJ4, hF4, m4⟩
  have hjb4 := hjs2.mod m4 (fun h => by have := hF0 H h; omega)
  have md4 := md3.drop m4 (fun k hk => .inr (by have := hF0 k hk; have := HH.out; omega))
  have hlt3 := hjs2.lt
  have hA0 : OldAt w H b tb J job [] W4 := ⟨md4, hjb4, sto0, x4, ⟨1, 0, 0⟩, zl32, zl32, ent0, F4, hJ4, Clean.new _ 1, AllE.new, Past.new, rfl, rfl, fun k hk => by
    rcases hF4 k hk with h | h
    · exact hF0 k h
    · omega⟩
  clear hop hS3 hjs2 md3 hJ4 hF4 m4 hjb4 md4 hlt3 hF0
  go_wp2_with fail
  refine (awake_journal W4).mono ?_
  rintro r W5 ⟨rfl, m5⟩
  have hA1 : OldAt w H b tb J job [] W5 := by
    obtain ⟨a1, a2, σ, x, τ, last, next, e, F, c1, c2, c3, c4, c5, c6, c7⟩ := hA0
    exact ⟨a1.trans m5, a2.mod m5 nob, σ, x, τ, last, next, e, F, c1.nob m5, c2, c3, c4, c5, c6, c7⟩
  clear hA0 m5
  go_wp2_with fail
  go_loopw [13] (fun t13 wr => ∃ i : Nat, i ≤ L ∧ t13 = .int .i64 i ∧ OldAt w H b tb J job (l.take i) wr) (fun i _ => L - (intOf i).toNat)
  case atStart => exact ⟨0, Nat.zero_le _, rfl, hA1⟩
  case round =>
    obtain ⟨i, hiL, rfl, hA⟩ := hrel
    clear hA1 W0 W1 W2 W3 W4 W5
    by_cases hlt1 : i < L
    · have hd1 : decide ((i : Int) < (L : Int)) = true := decide_eq_true (by omega)
      have hlen : (l.take i).length = i := by rw [List.length_take, HL.out]; omega
      obtain ⟨es, hes⟩ : ∃ y, l.take i = y := ⟨_, rfl⟩
      rw [hes] at hA hlen
      obtain ⟨en, hen⟩ : ∃ e, l[i]? = some e := ⟨_, List.getElem?_eq_getElem (by rw [HL.out]; exact hlt1)⟩
      have hes1 : l.take (i + 1) = es ++ [en] := by rw [List.take_add_one, hes, hen]; rfl
      have HES := Box.mk hes1
      have HEN := Box.mk (hok en (List.mem_of_getElem? hen))
      obtain ⟨bl, ol, rfl, hlc⟩ := hl i en hen
      have HLEN := Box.mk hlen
      obtain ⟨md, cjb, σ, x, τ, last, next, e0, F, hS, hC, hE, hP, hch, hep, hF⟩ := hA
      have hcell : ∀ {o : Nat} {v : Value}, w.cell? ⟨bl, o, none⟩ = some v → wr.cell? ⟨bl, o, none⟩ = some v := fun {o v} h => by
        have hb := md.block bl (cell_lt h) nob
        unfold World.cell? at h ⊢
        simpa [hb] using h
      have q0 := hcell (hlc 0 _ rfl)
      have q1 := hcell (hlc 1 _ rfl)
      have q2 := hcell (hlc 2 _ rfl)
      have q3 := hcell (hlc 3 _ rfl)
      rw [Nat.add_zero] at q0
      have hcl := hC.len
      have HCL := Box.mk hcl.1
      have hwr := sys_write en hS hE (by have := HLEN.out; omega) (by have := HLEN.out; omega) (by omega)
      change Calls _ _ #[_, .agg #[.int .i64 en.kind, .int .i64 en.task, .int .u64 en.att, .int .i64 en.state]] _ _ at hwr
      have hCC := hC.commit (by have := HLEN.out; omega) τ.ep (by omega) en HEN.out
      have hee := entry_ep (journalK job) τ.ep (es.length + 1) en last hcl.2 (by omega)
      have hPP := hP.put (entryL (journalK job) τ.ep (es.length + 1) en last) (by have := HLEN.out; omega) hee.1 hee.2
      rw [hch] at hPP
      have hi' := hcl.1
      rw [← hi'] at hCC
      have hch2 : (σ.put (nameS (es.length + 1)) (entryL (journalK job) τ.ep (es.length + 1) en last)).changes.length = es.length + 1 := by
        show (σ.changes ++ [_]).length = _
        rw [List.length_append, hch]; rfl
      obtain ⟨σ2, hσ2⟩ : ∃ y, σ.put (nameS (es.length + 1)) (entryL (journalK job) τ.ep (es.length + 1) en last) = y := ⟨_, rfl⟩
      obtain ⟨lk, hlk⟩ : ∃ y, linkL (entryL (journalK job) τ.ep (es.length + 1) en last) = y := ⟨_, rfl⟩
      rw [hσ2, hlk] at hwr
      rw [hσ2] at hPP hch2
      rw [hσ2, hlk] at hCC
      have HEP := Box.mk hep
      have HCH := Box.mk hch2
      clear hcl hi' hσ2 hlk hC hes hes1 hen hl hlc hlen hP hch hch2 hcell hee hep
      go_wp2_with fail
      refine hwr.mono ?_
      rintro r W1 ⟨rfl, x2, F2, hJ2, hE2, hF2, m1⟩
      have hcm := sys_commit hJ2 (by have := HLEN.out; omega) (by have := HEP.out; omega) (by have := HCL.out; have := HLEN.out; omega)
      have md1 := md.drop m1 (fun k hk => .inr (by have := hF k hk; have := HH.out; omega))
      have cjb1 := cjb.mod m1 (fun h => by have := hF H h; omega)
      have hz1 := m1.size
      have hltH := cjb.lt
      have hFF2 : ∀ k, F2 k → H + 1 ≤ k := fun k hk => by
        rcases hF2 k hk with h | h
        · exact hF k h
        · omega
      clear hwr hS hE hJ2 q0 q1 q2 q3 hF2 m1 md cjb hF
      go_wp2_with fail
      refine hcm.mono ?_
      rintro r W2 ⟨rfl, F3, hJ3, hF3, m2⟩
      have hltH1 := cjb1.lt
      have hAt : OldAt w H b tb J job (l.take (i + 1)) W2 := by
        have hel1 : (es ++ [en]).length = es.length + 1 := by simp
        rw [HES.out]
        refine ⟨md1.drop m2 (fun k hk => .inr (by have := hFF2 k hk; have := HH.out; omega)), cjb1.mod m2 (fun h => by have := hFF2 H h; omega), σ2, x2, _, lk, lk, en, F3, hJ3, ?_, by rw [hel1]; exact hE2, hPP, by rw [hel1]; exact HCH.out, HEP.out, fun k hk => ?_⟩
        · rw [HCL.out] at hCC
          exact hCC
        · rcases hF3 k hk with h | h
          · exact hFF2 k h
          · omega
      clear hcm hJ3 hF3 m2 md1 cjb1 hltH hltH1 hFF2 hz1 hCC hPP hE2
      go_wp2_with fail
      exact ⟨⟨i + 1, by omega, by go_num, hAt⟩, by simp [intOf]; omega⟩
    · obtain rfl : i = L := by omega
      have hd1 : decide ((i : Int) < (i : Int)) = false := by simp
      rw [List.take_of_length_le (by rw [HL.out]; exact Nat.le_refl _)] at hA
      go_wp2_with fail
      obtain ⟨N, hNe, hNi⟩ : ∃ N : Nat, wrap64 ((IntKind.u64.wrap back).tmod ((i : Int) + 1)) = (N : Int) ∧ N ≤ i := by
        have hu0 : 0 ≤ IntKind.u64.wrap back := by rw [IntKind.wrap_u64]; exact Int.emod_nonneg _ (by omega)
        obtain ⟨u, hu⟩ : ∃ u, IntKind.u64.wrap back = u := ⟨_, rfl⟩
        rw [hu] at hu0 ⊢
        have h5 : u.tmod ((i : Int) + 1) = u % ((i : Int) + 1) := Int.tmod_eq_emod_of_nonneg hu0
        have h6 := Int.emod_nonneg u (show ((i : Int) + 1) ≠ 0 by omega)
        have h7 := Int.emod_lt_of_pos u (show (0 : Int) < (i : Int) + 1 by omega)
        rw [h5, IntWalk.wrap64_in _ (by omega)]
        exact ⟨(u % ((i : Int) + 1)).toNat, by omega, by omega⟩
      rw [hNe]
      obtain ⟨md, cjb, σ, x, τ, last, next, e0, F, hJ, hC, hE, hP, hch, hep, hF⟩ := hA
      have hS := hJ.s0
      have hLl := HL.out
      have hro := sys_roll N hS hP (hE.wide (by omega)) (by omega) (by omega)
      have hcl := hC.len.1
      refine hro.mono ?_
      rintro r W1 ⟨rfl, σ2, x2, F2, hS2, hz0, hzp, hE2, hF2, m1⟩
      have md1 := md.drop m1 (fun k hk => .inr (by have := hF k hk; have := HH.out; omega))
      have cjb1 := cjb.mod m1 (fun h => by have := hF H h; omega)
      have hltH := cjb.lt
      have hz1 := m1.size
      have hFF2 : ∀ k, F2 k → H + 1 ≤ k := fun k hk => by
        rcases hF2 k hk with h | h
        · exact hF k h
        · omega
      have hbg := sys_begin hS2 (by omega)
      rw [hep] at hbg
      have HCH := Box.mk hch
      have HCL := Box.mk hcl
      have HEP := Box.mk hep
      have HL0 := Box.mk hL0
      have HL20 := Box.mk hL20
      have HNI := Box.mk hNi
      clear hro hNe hS hJ m1 md cjb hltH hz1 hF hF2 hE hP hch hcl hep hLl hL0 hL20 hNi hiL hlt1 hd1
      go_wp2_with fail
      refine hbg.mono ?_
      rintro r W2 ⟨rfl, hS3, m2⟩
      have md2 := md1.drop m2 (fun k (hk : k = tb) => .inr (by have := hFF2 tb hS2.tru; have := HH.out; omega))
      have cj1 := cjb1.mod m2 (fun (h : H = tb) => by have := hFF2 tb hS2.tru; omega)
      clear hbg m2 md1 cjb1
      by_cases hN0 : 0 < N
      · have hd1 : decide ((N : Int) > 0) = true := decide_eq_true (by omega)
        have hd2 : decide ((0 : Int) < (N : Int)) = true := decide_eq_true (by omega)
        have hbm := begin_missing (journalK job) (getP σ2) 2 τ.cnt τ.wr (σ.changes.length - N) (by have := HCH.out; have := HCL.out; have := HL.out; have := HL0.out; omega) (getP_none (hzp hN0))
        have hop := sys_open_any job 2000 hS3 hE2 (by omega) (by show τ.cnt ≤ 96; have := HCL.out; have := HL.out; have := HL20.out; omega) (by simp) (by simp) hj
        have HBM := Box.mk hbm
        change Calls _ _ #[_, _, _, .int .u64 ((1 + 1 : Nat) : Int)] _ _ at hop
        clear hbm hz0 hzp
        go_wp2_with (refine wpList_load_arr rfl 22 _ rfl H 32 5 rfl (arrB job) cj1 Tryz.underlying22 size_b32 hjs ?_)
        refine hop.mono ?_
        rintro r W3 ⟨m3, hr⟩
        rcases hr with ⟨_, rfl, _⟩ | ⟨es, l2, ad, J2, x3, F3, c1, _⟩
        · have md3 := md2.drop m3 (fun k hk => .inr (by have := hFF2 k hk; have := HH.out; omega))
          clear hop m3 md2 cj1 hS3 hE2
          go_wp2_with fail
          go_ret
          exact ⟨rfl, md3⟩
        · have c2 := HBM.out
          change beginP _ _ 2 _ _ = _ at c1
          rw [c2] at c1
          cases c1
      · obtain rfl : N = 0 := by omega
        obtain rfl := hz0 rfl
        have hop := sys_open_clean job 2000 hS3 (hC.ep 2) hE2 (by omega) (by show τ.cnt ≤ 96; have := HCL.out; have := HL.out; have := HL20.out; omega) (by simp) (by simp) hj
        change Calls _ _ #[_, _, _, .int .u64 ((1 + 1 : Nat) : Int)] _ _ at hop
        clear hzp
        go_wp2_with (refine wpList_load_arr rfl 22 _ rfl H 32 5 rfl (arrB job) cj1 Tryz.underlying22 size_b32 hjs ?_)
        refine hop.mono ?_
        rintro r W3 ⟨J2, x3, F3, rfl, hJ3, hF3, m3⟩
        have md3 := md2.drop m3 (fun k hk => .inr (by have := hFF2 k hk; have := HH.out; omega))
        clear hop m3 md2 cj1 hS3 hE2
        have hent := sys_entries hJ3 (by have := HL.out; have := HL20.out; omega)
        rw [HL.out] at hent
        go_wp2_with fail
        refine hent.mono ?_
        rintro r W4 ⟨ra, rc, rfl, hown4, m4⟩
        have md4 := md3.trans m4
        have hEl : EntsAt W4 (.slice la i lc) l := ⟨la, lc, by rw [HL.out], by have := HL.out; have := HL20.out; omega, fun k e h => by
          obtain ⟨bb, o, h1, h2⟩ := hl k e h
          refine ⟨bb, o, h1, fun q u hu => ?_⟩
          have h3 := h2 q u hu
          have hb := md4.block bb (cell_lt h3) nob
          unfold World.cell? at h3 ⊢
          simpa [hb] using h3⟩
        have hpl := plain_ent _ _ l l W4 (EntsAt.of_owns hown4 HL.out.symm (by have := HL.out; have := HL20.out; omega)) hEl
        rw [sameEs_self] at hpl
        clear hent md3 m4 hown4 hEl hJ3
        go_wp2_with fail
        refine hpl.mono ?_
        rintro r W5 ⟨rfl, m5⟩
        have md5 := md4.trans m5
        clear hpl md4 m5
        go_wp2_with fail
        go_ret
        exact ⟨rfl, md5⟩

end Go.Proofs.YtaeociedjdgdfaaGreatDoor

namespace Go.Proofs.YtaeociedjdgdfaaGreatDoor.journalOld
open Go.ChangeShapes Go.WideShapes Go.ChangeAt Go.RowKit
set_option linter.unusedVariables false

theorem own : ownKnob Tryz.prog.godebug = none := by kernel_rfl
theorem laidOut : laidOutB Tryz.prog = true := by kernel_rfl
theorem door_met (os : Os) (args : Array Value) : laidMetH Tryz.prog Rows.journalOldRow.laid ((World.doorLaid Tryz.prog 400 os).forCall (fun _ _ => 0) ⟨#[], args, []⟩).memory :=
  laidMetH_of_parts3 (fuel := 8) (laidMet_of_run' 8 (by kernel_rfl) (by kernel_rfl)) (by kernel_rfl) (by kernel_rfl)

theorem byte_wf {n : Int} (h : (Lit.int .u8 n).wf = true) : ∃ x : UInt8, Value.int .u8 n = B x := by
  have h2 : 0 ≤ n ∧ n < 256 := by
    simp [Lit.wf, IntKind.min, IntKind.max, IntKind.signed, IntKind.bits] at h
    omega
  refine ⟨UInt8.ofNat n.toNat, ?_⟩
  unfold B
  rw [UInt8.toNat_ofNat_of_lt' (by show _ < 256; omega)]
  congr 1
  omega
theorem u64_wf {n : Int} (h : (Lit.int .u64 n).wf = true) : ∃ m : Nat, n = (m : Int) := by
  have h2 : 0 ≤ n := by
    simp [Lit.wf, IntKind.min, IntKind.max, IntKind.signed, IntKind.bits] at h
    omega
  exact ⟨n.toNat, by omega⟩
theorem all_bytes : ∀ l : List Value, (∀ v ∈ l, ∃ x : UInt8, v = B x) → ∃ job : List UInt8, l = job.map B
  | [], _ => ⟨[], rfl⟩
  | v :: l, h => by
    obtain ⟨x, rfl⟩ := h v (by simp)
    obtain ⟨job, rfl⟩ := all_bytes l (fun u hu => h u (by simp [hu]))
    exact ⟨x :: job, rfl⟩

/-- A list of what is there at each place. -/
theorem list_of {α : Type} {P : Nat → α → Prop} : ∀ n, (∀ i, i < n → ∃ a, P i a) → ∃ l : List α, l.length = n ∧ ∀ i a, l[i]? = some a → P i a
  | 0, _ => ⟨[], rfl, fun i a h => by simp at h⟩
  | n + 1, h => by
    obtain ⟨l, h1, h2⟩ := list_of n (fun i hi => h i (by omega))
    obtain ⟨a, ha⟩ := h n (by omega)
    refine ⟨l ++ [a], by simp [h1], fun i b hb => ?_⟩
    by_cases hi : i < l.length
    · rw [List.getElem?_append_left hi] at hb
      exact h2 i b hb
    · rw [List.getElem?_append_right (by omega)] at hb
      have hi2 : i = n := by
        have := (List.getElem?_eq_some_iff.1 hb).1
        simp at this
        omega
      subst hi2
      rw [h1, Nat.sub_self] at hb
      cases hb
      exact ha
theorem i64_wf {n : Int} (h : (Lit.int .i64 n).wf = true) : -9223372036854775808 ≤ n ∧ n ≤ 9223372036854775807 := by
  simp [Lit.wf, IntKind.min, IntKind.max, IntKind.signed, IntKind.bits] at h
  omega
theorem u64_wf2 {n : Int} (h : (Lit.int .u64 n).wf = true) : ∃ m : Nat, n = (m : Int) ∧ m < 18446744073709551616 := by
  have h2 : 0 ≤ n ∧ n < 18446744073709551616 := by
    simp [Lit.wf, IntKind.min, IntKind.max, IntKind.signed, IntKind.bits] at h
    omega
  exact ⟨n.toNat, by omega, by omega⟩
theorem oks_ent {cs : List Value} (h : Oks [.int .i64, .int .i64, .int .u64, .int .i64] cs) : ∃ e : Ent, e.ok ∧ cs = e.cells := by
  cases h with | cons h0 t0 =>
  cases t0 with | cons h1 t1 =>
  cases t1 with | cons h2 t2 =>
  cases t2 with | cons h3 t3 =>
  cases t3
  obtain ⟨n0, rfl, b0⟩ := h0
  obtain ⟨n1, rfl, b1⟩ := h1
  obtain ⟨n2, rfl, b2⟩ := h2
  obtain ⟨n3, rfl, b3⟩ := h3
  obtain ⟨m, rfl, hm⟩ := u64_wf2 b2
  exact ⟨⟨n0, n1, m, n3⟩, ⟨(i64_wf b0).1, (i64_wf b0).2, (i64_wf b1).1, (i64_wf b1).2, hm, (i64_wf b3).1, (i64_wf b3).2⟩, rfl⟩
theorem ents_of {w : World} {a : Option Addr} {len cap : Nat} (h : Rowed w [.int .i64, .int .i64, .int .u64, .int .i64] a len cap) : ∃ l : List Ent, l.length = len ∧ ∀ (k : Nat) e, l[k]? = some e → e.ok ∧ ∃ b o, a = some ⟨b, o, none⟩ ∧ w.rangeAt b (o + k * 4) e.cells := by
  refine list_of len (fun i hi => ?_)
  rcases h.2.2.2 with h0 | ⟨b, o, rfl, _, hc⟩
  · omega
  · obtain ⟨cs, h1, h2⟩ := hc i hi
    obtain ⟨e, h3, rfl⟩ := oks_ent h1
    exact ⟨e, h3, b, o, rfl, fun j v hv => by rw [Nat.add_assoc]; exact h2 j v hv⟩
theorem ints_of {w : World} {a : Option Addr} {len cap : Nat} (h : Rowed w [.int .i64] a len cap) : ∃ l : List Int, l.length = len ∧ RowIn w (.slice a l.length cap) (l.map (Value.int .i64)) := by
  rcases h.2.2.2 with rfl | ⟨b, o, rfl, hb, hc⟩
  · refine ⟨[], rfl, ?_⟩
    cases a with
    | none => have := h.2.2.1 rfl; subst this; exact .inl (.inl ⟨rfl, rfl⟩)
    | some p => exact .inr ⟨rfl, p, cap, rfl, by unfold maxLen; have := h.2.1; omega⟩
  · obtain ⟨l, h1, h2⟩ := list_of (P := fun i (n : Int) => w.cell? ⟨b, o + i, none⟩ = some (.int .i64 n)) len (fun i hi => by
      obtain ⟨cs, h3, h4⟩ := hc i hi
      cases h3 with | cons h5 t5 =>
      cases t5
      obtain ⟨n, rfl, _⟩ := h5
      have h6 := h4 0 _ rfl
      simp at h6
      exact ⟨n, h6⟩)
    refine ⟨l, h1, .inl (.inr ⟨b, o, cap, by rw [List.length_map], hb, by rw [List.length_map, h1]; exact h.1, by unfold maxLen; have := h.2.1; omega, fun i x hx => ?_⟩)⟩
    rw [List.getElem?_map, Option.map_eq_some_iff] at hx
    obtain ⟨n, hn, rfl⟩ := hx
    exact h2 i n hn

set_option maxRecDepth 100000 in
theorem lifted (os : Os) (started : os.Started) (H : Type) (enc : TypeId × Value → H) :
    ReturnsInHanded {} Tryz.checked os 4 .any (fun w args => (Rows.journalOldSpec.pre enc Tryz.prog Tryz.f4 [] false w args ∧ laidMetH Tryz.prog Rows.journalOldRow.laid w) ∧ sizedMet enc Tryz.prog Tryz.f4 (OpenSpec.ofChange Rows.journalOldSpec) false w args)
      (Rows.journalOldSpec.post enc Tryz.prog Tryz.f4 false true false false) := by
  refine returnsInHanded_of_change_and (C := Tryz.checked) (X := fun w _ => laidMetH Tryz.prog Rows.journalOldRow.laid w) (fun _ _ _ hh h => h.of_heap hh) own started (by kernel_rfl) Tryz.func4
    (ChangeSpec.witness_shaped (enc := enc) (C := Tryz.checked) (os := os) (X := fun w _ => laidMetH Tryz.prog Rows.journalOldRow.laid w) false (World.doorLaid Tryz.prog 400 os) #[.agg (Array.replicate 32 (.int .u8 0)), .slice none 0 0, .int .i64 0] 8 rfl (World.shaped_of_RefB (by kernel_rfl) (by kernel_rfl)) (by kernel_rfl) (by kernel_rfl) (by kernel_rfl) (door_met os _)) ?_
  intro W base args ds gs before hval0 hW _ _ hL _
  have hval : ∀ (j : Nat) t v, Tryz.f4.params[j]? = some t → args[j]? = some v → Value.okWide Tryz.prog W .any base t v := hval0
  have hW' := hW
  obtain ⟨p, q, hA0, hV, rfl, hfz, hnd⟩ := hW
  have hA : DataW.TrodAll enc Tryz.prog W 0 (fun _ => true) true Tryz.f4.params.toList args.toList ds p := hA0
  rw [Tryz.params4] at hA hval
  obtain ⟨v0, vs0, d0, ds0, p0, q0, hargs, rfl, rfl, h0, r0⟩ := trodAll_cons hA
  obtain ⟨v1, vs1, d1, ds1, p1, q1, rfl, rfl, rfl, h1, r1⟩ := trodAll_cons r0
  obtain ⟨v2, vs2, d2, ds2, p2, q2, rfl, rfl, rfl, h2, r2⟩ := trodAll_cons r1
  obtain ⟨rfl, rfl, rfl⟩ := trodAll_nil r2
  obtain rfl : args = #[v0, v1, v2] := by cases args; simp_all
  obtain ⟨rfl, rfl⟩ := trodVars_none hV
  have k0 := h0
  have lt0 : ∀ x ∈ p0, x.block < W.heap.size := by obtain ⟨m, hm⟩ := k0; exact DataW.trod_lt m _ _ _ hm
  have k1 := h1
  have lt1 : ∀ x ∈ p1, x.block < W.heap.size := by obtain ⟨m, hm⟩ := k1; exact DataW.trod_lt m _ _ _ hm
  have k2 := h2
  have lt2 : ∀ x ∈ p2, x.block < W.heap.size := by obtain ⟨m, hm⟩ := k2; exact DataW.trod_lt m _ _ _ hm
  obtain ⟨job, hjl, rfl⟩ : ∃ job : List UInt8, job.length = 32 ∧ v0 = .agg (arrB job) := by
    have hv0 := hval 0 22 v0 rfl rfl
    simp only [Value.okWide, Tryz.underlying22] at hv0
    obtain ⟨cs, rfl, hsz, _⟩ := hv0
    obtain ⟨fuel, hf⟩ := h0
    obtain ⟨xs, m, rfl, hx, hlen, hn, hel⟩ := DataW.trod_array Tryz.underlying22 hf
    have e1 : Tryz.prog.cellsOf 5 = 1 := by kernel_rfl
    have e32 : Tryz.prog.cellsOf 22 = 32 := by kernel_rfl
    rw [e1] at hel
    rw [e32] at hlen
    change cs.toList.length = 32 at hlen
    change ∀ i, i < 32 → DataW.trod _ _ _ _ _ _ _ _ ((cs.toList.drop (i * 1)).take 1) = _ at hel
    obtain ⟨job, hjob⟩ := all_bytes cs.toList (fun v hv => by
      obtain ⟨i, hi, rfl⟩ := List.mem_iff_getElem.1 hv
      have h5 := hel i (by omega)
      rw [Nat.mul_one, List.drop_eq_getElem_cons hi, List.take_succ_cons, List.take_zero, List.getElem?_eq_getElem (by omega)] at h5
      obtain ⟨k, h6, _, h7⟩ := DataW.trod_int Tryz.underlying5 h5
      obtain ⟨x, hx2⟩ := byte_wf h7
      exact ⟨x, by rw [← hx2]; exact (List.cons.inj h6).1⟩)
    refine ⟨job, by rw [hjob, List.length_map] at hlen; exact hlen, ?_⟩
    unfold arrB
    rw [← hjob]
  obtain ⟨a1, len1, cap1, rfl, w1⟩ : ∃ a len cap, v1 = .slice a len cap ∧ Rowed W [.int .i64, .int .i64, .int .u64, .int .i64] a len cap := by
    obtain ⟨a', len', cap', rfl⟩ := okWide_slice Tryz.underlying23 (hval 1 23 v1 rfl rfl)
    obtain ⟨fuel, hf⟩ := h1
    exact rowed_of Tryz.underlying23 (n := 9) (ks := [.int .i64, .int .i64, .int .u64, .int .i64]) (by kernel_rfl) (by simp) (by kernel_rfl) (by simpa [Value.cells] using hf)
  obtain ⟨back, rfl, _, _, w2⟩ := open_int Tryz.underlying3 (hval 2 3 v2 rfl rfl) h2
  obtain ⟨l, hll, hlr⟩ := ents_of w1
  subst hll
  clear hA0 hval0
  refine (old_walk job hjl l a1 cap1 back W (fun k e h => (hlr k e h).2) (fun e h => by obtain ⟨k, hk⟩ := List.getElem?_of_mem h; exact (hlr k e hk).1)).mono fun r W' ⟨he, hm⟩ => ?_
  have bel : Below W.heap.size W W' := ⟨hm.os, hm.tape, hm.output, hm.size, fun k hk => hm.block k hk nob⟩
  subst he
  exact ⟨_, rfl, _, _, _, [], _, [], hW', trodAll_mk1 (shut_bool Tryz.underlying4 _), (trodAll_cons_mk (Below.trod laidOut (by kernel_rfl) (of_decide_eq_true (by kernel_rfl)) k0 bel lt0) (trodAll_cons_mk (Below.trod laidOut (by kernel_rfl) (of_decide_eq_true (by kernel_rfl)) k1 bel lt1) (trodAll_cons_mk (Below.trod laidOut (by kernel_rfl) (of_decide_eq_true (by kernel_rfl)) k2 bel lt2) trodAll_mk0))), rfl, bel.frame _, fun h => by cases h⟩

theorem over : Rows.journalOldRow.holds Tryz.pinned (OpenSpec.ofChange Rows.journalOldSpec) :=
  OpenClaim.holds_of_wide 4 Tryz.f4 rfl rfl rfl rfl rfl rfl rfl ⟨rfl, rfl, rfl, rfl, rfl⟩ rfl rfl rfl rfl rfl (by kernel_rfl) Tryz.func4 (by kernel_rfl)
    (of_decide_eq_true (by kernel_rfl)) (by unfold Func.isWrapper; first | (rw [if_pos (by decide +kernel)]; kernel_rfl) | (rw [if_neg (by decide +kernel)]; exact ⟨rfl, rfl⟩))
    (fun os started H enc _ => lifted os started H enc)

theorem proved : Rows.JournalOldCardSaid :=
  Claim7.holds_tied_plain_at .later [] [.data, .data, .data] true (true, "471d86ff024037794c3c82522131535f7692db5b923cae9b92a3af9fbb69ceab") false
    over (fun _ h => by cases h) (by kernel_rfl) (fun _ h => by cases h) journalOld_row_tie rfl ⟨rfl, rfl⟩ (by kernel_rfl) rfl
    (fun f fn hf hfn => by
      obtain rfl : f = 4 := Option.some.inj ((show Tryz.prog.funcNamed "domino/dominolaw22.JournalOld" = some 4 by kernel_rfl).symm.trans hf) |>.symm
      obtain rfl : fn = Tryz.f4 := (Option.some.inj (Tryz.func4.symm.trans hfn)).symm
      exact ⟨by kernel_rfl, fun j t ht => by
        rw [Tryz.params4] at ht
        have hm : t ∈ [22, 23, 3] := by simpa using Array.mem_of_getElem? ht
        have hall : ([22, 23, 3].all fun u => !Tryz.prog.wantsStandIn u) = true := by kernel_rfl
        exact (show Tryz.prog.wantsStandIn t = false by simpa using List.all_eq_true.1 hall t hm)⟩)
    (by kernel_rfl)
#print axioms proved
end Go.Proofs.YtaeociedjdgdfaaGreatDoor.journalOld
