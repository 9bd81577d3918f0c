/-
  JournalAdopts: what was written, and not committed, when it crashed, is there behind the next opening, however often it crashes; once. No condition.
-/
import Derived.Test.YtaeociedjdgdfaaDoorAdC
import Derived.Test.YtaeociedjdgdfaaDoorRows
import Derived.WalkKit
import Derived.ProofKit
import Derived.LaidMore
import Derived.OpenShut
import Derived.Stop.Joined
import Derived.Lib.SmallJoins
import Derived.ChangeOld
import Derived.Below
import Derived.Test.YtaeociedjdgdfaaDoorKb
import Derived.Test.YtaeociedjdgdfaaDoorCards
import Derived.Test.YtaeociedjdgdfaaDoorTie
import Derived.SevenTiedAt
namespace Go.Proofs.YtaeociedjdgdfaaDoor
open Go.RowKit Go.Shelf
set_option linter.unusedSimpArgs false

/-- What stands ahead of a round. -/
structure AdAt (w : World) (H b tb : Nat) (job : List UInt8) (es : List Ent) (K E : Nat) (hv : Value) (wr : World) : Prop where
  md : Mod w wr Nob
  jb : CellsAt wr H (arrB job) 22
  row : ∃ ha hc, hv = .slice ha es.length hc ∧ wr.ownsRow (H + 1) 25 4 hv es.length (es.flatMap Ent.cells)
  sys : ∃ σ x τ F, Sys0 wr b tb σ x τ F ∧ Ready (journalK job) σ τ es ∧ AllE σ K ∧ τ.ep ≤ E ∧ τ.cnt ≤ es.length ∧ (∀ k, F k → H + 1 ≤ k) ∧ ∀ k, inBlock hv k → ¬ F k
/-- .. with a journal that has begun. -/
structure AdJ (w : World) (H b tb : Nat) (job : List UInt8) (es : List Ent) (K E : Nat) (hv jv : Value) (wr : World) : Prop where
  md : Mod w wr Nob
  jb : CellsAt wr H (arrB job) 22
  row : ∃ ha hc, hv = .slice ha es.length hc ∧ wr.ownsRow (H + 1) 25 4 hv es.length (es.flatMap Ent.cells)
  sys : ∃ σ x τ J last F, jv = .pointer (some ⟨J, 0, none⟩) ∧ SysJ wr b tb σ x τ J (journalK job) τ.ep es last zl32 false ent0 F ∧ Clean (journalK job) σ τ es last ∧ AllE σ K ∧ τ.ep ≤ E ∧ 0 < τ.ep ∧ (∀ k, F k → H + 1 ≤ k) ∧ ∀ k, inBlock hv k → ¬ F k
theorem AdJ.at {w : World} {H b tb : Nat} {job : List UInt8} {es : List Ent} {K E : Nat} {hv jv : Value} {wr : World} (h : AdJ w H b tb job es K E hv jv wr) (hl : es.length < 99) : AdAt w H b tb job es K E hv wr := by
  obtain ⟨σ, x, τ, J, last, F, h1, h2, h3, h4, h5, h6, h7, h8⟩ := h.sys
  have := h3.len.1
  exact ⟨h.md, h.jb, h.row, σ, x, τ, F, h2.s0, h3.ready (by omega), h4, h5, by omega, h7, h8⟩

set_option maxRecDepth 100000 in
set_option maxHeartbeats 1000000 in
theorem adopts_walk (job : List UInt8) (hj : job.length = 32) (l : List Ent) (la : Option Addr) (lc : Nat) (cr : List Int) (cv : Value) (w : World)
    (hl : ∀ (k : Nat) e, l[k]? = some e → ∃ b o, la = some ⟨b, o, none⟩ ∧ w.rangeAt b (o + k * 4) e.cells) (hok : ∀ e ∈ l, e.ok) (hc : RowIn w cv (cr.map (Value.int .i64))) :
    Calls Tryd.prog 4 #[.agg (arrB job), .slice la l.length lc, cv] w fun r w' => r = .returned (.bool true) ∧ Mod w w' Nob := by
  obtain ⟨ca, cc, hcf, _, hcm⟩ := hc.form
  rw [List.length_map] at hcf
  subst hcf
  obtain ⟨L, hL⟩ : ∃ n, l.length = n := ⟨_, rfl⟩
  obtain ⟨C, hC⟩ : ∃ n, cr.length = n := ⟨_, rfl⟩
  rw [hC] at hc
  rw [hL, hC]
  have HL := Box.mk hL
  have HC := Box.mk hC
  have cj := CellsAt.new w (arrB job) 22
  have m0 := (Mod.refl w Nob).alloc (.cells (arrB job) 22)
  have hz : (w.alloc (.cells (arrB job) 22)).heap.size = w.heap.size + 1 := by simp
  clear hL hC
  go_enter Tryd.func4, Tryd.ntmps4
  go_wp2_with fail
  change Calls _ _ _ (w.alloc (.cells (arrB job) 22)) _
  obtain ⟨W0, hW0⟩ : ∃ V, w.alloc (.cells (arrB job) 22) = V := ⟨_, rfl⟩
  rw [hW0] at cj m0 hz ⊢
  obtain ⟨H, hH⟩ : ∃ H, w.heap.size = H := ⟨_, rfl⟩
  rw [hH] at cj hz ⊢
  have HH := Lib.hid hH
  clear hW0 hH
  refine (new_any W0).mono ?_
  rintro r W1 ⟨b, x, rfl, hσ, m1, hft⟩
  replace cj := cj.mod m1 nob
  replace m0 := m0.trans m1
  have hz1 := m1.size
  have hfl := hσ.foot_lt
  go_wp2_with fail
  refine (trust_new W1).mono ?_
  rintro r W2 ⟨rfl, hτ, m2⟩
  obtain ⟨tb, htb⟩ : ∃ y, W1.heap.size = y := ⟨_, rfl⟩
  rw [htb] at hτ hfl hz1 ⊢
  replace hσ := hσ.mod m2 (fun _ h => h.elim)
  replace cj := cj.mod m2 nob
  replace m0 := m0.trans m2
  have hS : Sys0 W2 b tb sto0 x ⟨0, 0, 0⟩ (fun k => x.foot b k ∨ k = tb) := ⟨hσ, hτ, fun h => by have := hfl tb h; omega, fun k h => .inl h, .inr rfl, fun k h => h.elim (hσ.foot_lt k) (fun e => e ▸ CellsAt.lt (show CellsAt W2 tb _ _ from hτ))⟩
  clear m1 m2
  go_wp2_with fail
  refine (awake_journal W2).mono ?_
  rintro r W3 ⟨rfl, m3⟩
  replace hS := hS.nob m3
  replace cj := cj.mod m3 nob
  replace m0 := m0.trans m3
  have hA0 : AdAt w H b tb job [] 0 0 (.slice none 0 0) W3 := ⟨m0, cj, ⟨none, 0, rfl, World.ownsRow_nil _ _ _ _⟩, sto0, x, ⟨0, 0, 0⟩, _, hS, (Clean.new _ 0).ready (by simp), AllE.new, Nat.le_refl _, Nat.le_refl _, fun k h => by
    rcases h with h | h
    · have := hft k h; omega
    · omega, fun k h => by cases h⟩
  clear hσ hτ hS m3 hft hfl hz1 cj m0
  go_wp2_with fail
  clear htb hz
  go_loopw [9, 10] (fun hv t10 wr => ∃ i : Nat, i ≤ L ∧ i ≤ 12 ∧ t10 = .int .i64 i ∧ AdAt w H b tb job (l.take i) (5 * i) (4 * i) hv wr) (fun _ i _ => 12 - (intOf i).toNat)
  case atStart => exact ⟨0, Nat.zero_le _, Nat.zero_le _, rfl, hA0⟩
  case round =>
    obtain ⟨i, hiL, hi12, rfl, hA⟩ := hrel
    by_cases hlt : i < L ∧ i < 12
    · obtain ⟨hlt1, hlt2⟩ := hlt
      have hd1 : decide ((i : Int) < (L : Int)) = true := decide_eq_true (by omega)
      have hd2 : decide ((i : Int) < 12) = true := decide_eq_true (by omega)
      have hmd := hA.md
      have hlen : (l.take i).length = i := by rw [List.length_take, HL.out]; omega
      obtain ⟨es, hes⟩ : ∃ y, l.take i = y := ⟨_, rfl⟩
      rw [hes] at hA hlen
      obtain ⟨hva, hvc, rfl, _⟩ := hA.row
      obtain ⟨en, hen⟩ : ∃ e, l[i]? = some e := ⟨_, List.getElem?_eq_getElem (by rw [HL.out]; exact hlt1)⟩
      have hes1 : l.take (i + 1) = es ++ [en] := by rw [List.take_add_one, hes, hen]; rfl
      have HES := Box.mk hes1
      have HEN := Box.mk (hok en (List.mem_of_getElem? hen))
      obtain ⟨bl, ol, rfl, hlc⟩ := hl i en hen
      have HLC := Box.mk hlc
      have hjs : (arrB job).size = 32 := by rw [arrB_size, hj]
      have HLEN := Box.mk hlen
      clear hes hes1 hen hl hlc hlen
      obtain ⟨NN, hN1, hN4, hNv⟩ : ∃ NN : Nat, 1 ≤ NN ∧ NN ≤ 4 ∧ True := ⟨1, Nat.le_refl _, by omega, trivial⟩
      clear hA0 W0 W1 W2 W3 hN1 hN4 hNv NN
      by_cases hci : i < C
      case pos =>
        obtain ⟨cq, hcq⟩ : ∃ q, cr[i]? = some q := ⟨_, List.getElem?_eq_getElem (by rw [HC.out]; exact hci)⟩
        obtain ⟨bq, oq, rfl, hqc⟩ := row_at (hc.mod hmd (fun _ _ => nob)) i (.int .i64 cq) (by rw [List.getElem?_map, hcq]; rfl)
        clear hcq
        go_wp2_with fail
        obtain ⟨NN, hNe, hN1, hN4⟩ : ∃ NN : Nat, wrap64 (1 + wrap64 ((IntKind.u64.wrap cq).tmod 4)) = (NN : Int) ∧ 1 ≤ NN ∧ NN ≤ 4 := by
          have hu0 : 0 ≤ IntKind.u64.wrap cq := by rw [IntKind.wrap_u64]; exact Int.emod_nonneg _ (by omega)
          obtain ⟨u, hu⟩ : ∃ u, IntKind.u64.wrap cq = u := ⟨_, rfl⟩
          rw [hu] at hu0 ⊢
          have h5 : u.tmod 4 = u % 4 := Int.tmod_eq_emod_of_nonneg hu0
          have h6 : wrap64 (u.tmod 4) = u % 4 := by rw [h5]; exact IntWalk.wrap64_in _ (by omega)
          have h7 : wrap64 (1 + u % 4) = 1 + u % 4 := IntWalk.wrap64_in _ (by omega)
          rw [h6, h7]
          exact ⟨(1 + u % 4).toNat, by omega, by omega, by omega⟩
        rw [hNe]
        clear hqc hNe
        clear hci hd1 hd2 hmd
        go_loopw [12, 13] (fun jv t13 wx => ∃ kk : Nat, kk ≤ NN ∧ t13 = .int .i64 kk ∧ ((kk = 0 ∧ jv = .pointer none ∧ AdAt w H b tb job es (5 * i) (4 * i) (.slice hva es.length hvc) wx) ∨ (1 ≤ kk ∧ AdJ w H b tb job es (5 * i + kk) (4 * i + kk) (.slice hva es.length hvc) jv wx))) (fun _ k _ => NN - (intOf k).toNat)
        case atStart => exact ⟨0, Nat.zero_le _, rfl, .inl ⟨rfl, rfl, hA⟩⟩
        case round =>
          obtain ⟨kk, hkN, rfl, hk⟩ := hrel
          by_cases hkl : kk < NN
          · have hd1 : decide ((kk : Int) < (NN : Int)) = true := decide_eq_true (by omega)
            have hA1 : AdAt w H b tb job es (5 * i + kk) (4 * i + kk) (.slice hva es.length hvc) wr := by
              rcases hk with ⟨rfl, _, h⟩ | ⟨_, h⟩
              · exact h
              · exact h.at (by have := HLEN.out; omega)
            clear hk hA
            obtain ⟨md, cjb, ⟨_, _, hve, hrow⟩, σ, xx, τ, F, hS, hR, hE, hep, hcnt, hF, hFv⟩ := hA1
            cases hve
            have hbg := sys_begin hS (by omega)
            obtain ⟨ep1, hep1⟩ : ∃ y, τ.ep + 1 = y := ⟨_, rfl⟩
            rw [hep1] at hbg
            go_wp2_with fail
            refine hbg.mono ?_
            rintro r W1 ⟨rfl, hS1, m1⟩
            have hop := sys_open job (5 * i + kk) es hS1 (hR.ep ep1) hE (by omega) (by show τ.cnt ≤ 96; have := HLEN.out; omega) (by show 0 < ep1; omega) (by show ep1 < _; omega) hj
            have mF1 : Mod wr W1 F := m1.wide (fun k (hk : k = tb) => .inl (hk ▸ hS.tru))
            have cj1 := cjb.mod m1 (fun (h : H = tb) => by have := hF tb hS.tru; omega)
            change Calls _ _ #[_, _, _, .int .u64 ep1] _ _ at hop
            clear hbg m1 hS hR hE
            go_wp2_with (refine wpList_load_arr rfl 22 _ rfl H 32 5 rfl (arrB job) cj1 Tryd.underlying22 size_b32 hjs ?_)
            refine hop.mono ?_
            rintro r W2 ⟨J, σ2, x2, τ2, last, F2, rfl, hJ2, hC2, hE2, hep2, hcn2, hF2, m2, hJW⟩
            have mF2 := mF1.trans (m2.wide (T := F) (fun _ h => .inl h))
            have hz1 := mF1.size
            clear hop m2 hS1 mF1 cj1
            go_wp2_with fail
            refine (sys_entries hJ2 (by have := HLEN.out; omega)).mono ?_
            rintro r W3 ⟨ra, rc, rfl, hown3, m3⟩
            have hJ3 := hJ2.nob m3
            have mF3 := mF2.trans (m3.wide (T := F) (fun _ h => h.elim))
            have hrow3 := owns_mod hrow mF3 hFv
            have hpl := plain_ent _ _ es es W3 (EntsAt.of_owns hown3 rfl (by have := HLEN.out; omega)) (EntsAt.of_owns hrow3 rfl (by have := HLEN.out; omega))
            rw [sameEs_self] at hpl
            clear hJ2 m3 mF2 hown3
            go_wp2_with fail
            refine hpl.mono ?_
            rintro r W4 ⟨rfl, m4⟩
            have hJ4 := hJ3.nob m4
            have mF4 := mF3.trans (m4.wide (T := F) (fun _ h => h.elim))
            clear hpl hJ3 m4 mF3
            go_wp2_with fail
            refine (sys_waiting hJ4).mono ?_
            rintro r V ⟨rfl, rfl⟩
            have hAJ : AdJ w H b tb job es (5 * i + (kk + 1)) (4 * i + (kk + 1)) (.slice hva es.length hvc) (.pointer (some ⟨J, 0, none⟩)) V :=
              ⟨md.drop mF4 (fun k hk => .inr (by have := hF k hk; have := HH.out; omega)), cjb.mod mF4 (fun h => by have := hF H h; omega), ⟨hva, hvc, rfl, owns_mod hrow mF4 hFv⟩,
                σ2, x2, τ2, J, last, F2, rfl, by rw [hep2]; exact hJ4, hC2, hE2, by rw [hep2]; show ep1 ≤ _; omega, by rw [hep2]; show 0 < ep1; omega, fun k hk => by
                  rcases hF2 k hk with h | h
                  · exact hF k h
                  · have := cjb.lt; omega, fun k hk h => by
                  rcases hF2 k h with h5 | h5
                  · exact hFv k hk h5
                  · have := (hrow.lt k hk).2; omega⟩
            clear hJ4 mF4 hrow hrow3 md cjb hC2 hE2 hFv hF hF2
            go_wp2_with fail
            refine ⟨⟨kk + 1, by omega, by go_num, .inr ⟨by omega, hAJ⟩⟩, by simp [intOf]; omega⟩
          · obtain rfl : kk = NN := by omega
            have hd1 : decide ((kk : Int) < (kk : Int)) = false := by simp
            have hJ1 : AdJ w H b tb job es (5 * i + kk) (4 * i + kk) (.slice hva es.length hvc) u12 wr := by
              rcases hk with ⟨h0, _, _⟩ | ⟨_, h⟩
              · omega
              · exact h
            clear hk hA
            obtain ⟨md, cjb, ⟨_, _, hve, hrow⟩, σ, xx, τ, J, last, F, rfl, hS, hC, hE, hep, hep0, hF, hFv⟩ := hJ1
            cases hve
            have hcl := hC.len
            have HCL := Box.mk hcl.1
            have hcell : ∀ {o : Nat} {v : Value} {W : World}, Mod w W Nob → w.cell? ⟨bl, o, none⟩ = some v → W.cell? ⟨bl, o, none⟩ = some v := fun {o v W} hm h => by
              have hb := hm.block bl (cell_lt h) nob
              unfold World.cell? at h ⊢
              simpa [hb] using h
            have q0 := hcell md (HLC.out 0 _ rfl)
            have q1 := hcell md (HLC.out 1 _ rfl)
            have q2 := hcell md (HLC.out 2 _ rfl)
            have q3 := hcell md (HLC.out 3 _ rfl)
            rw [Nat.add_zero] at q0
            have hwr := sys_write en hS hE (by omega) (by have := HLEN.out; omega) (by omega)
            change Calls _ _ #[_, .agg #[.int .i64 en.kind, .int .i64 en.task, .int .u64 en.att, .int .i64 en.state]] _ _ at hwr
            have hCW := hC.write (by have := HLEN.out; omega) τ.ep (by omega) en HEN.out
            have hCC := hC.commit (by have := HLEN.out; omega) τ.ep (by omega) en HEN.out
            have hi' := hcl.1
            rw [← hi'] at hCW hCC
            obtain ⟨σ2, hσ2⟩ : ∃ y, σ.put (nameS (es.length + 1)) (entryL (journalK job) τ.ep (es.length + 1) en last) = y := ⟨_, rfl⟩
            obtain ⟨lk, hlk⟩ : ∃ y, linkL (entryL (journalK job) τ.ep (es.length + 1) en last) = y := ⟨_, rfl⟩
            rw [hσ2, hlk] at hwr
            rw [hσ2] at hCW
            rw [hσ2, hlk] at hCC
            clear hcl hi' hσ2 hlk hC
            go_wp2_with fail
            refine hwr.mono ?_
            rintro r W1 ⟨rfl, x2, F2, hJ2, hE2, hF2, m1⟩
            have mF1 := m1
            clear hwr hS hE
            go_wp2_with fail
            refine (sys_waiting hJ2).mono ?_
            rintro r V ⟨rfl, rfl⟩
            go_wp2_with fail
            refine (sys_entries hJ2 (by have := HLEN.out; omega)).mono ?_
            rintro r W3 ⟨ra, rc, rfl, hown3, m3⟩
            have hJ3 := hJ2.nob m3
            have mF3 := mF1.trans (m3.wide (T := F) (fun _ h => h.elim))
            have hrow3 := owns_mod hrow mF3 hFv
            have hpl := plain_ent _ _ es es W3 (EntsAt.of_owns hown3 rfl (by have := HLEN.out; omega)) (EntsAt.of_owns hrow3 rfl (by have := HLEN.out; omega))
            rw [sameEs_self] at hpl
            clear hJ2 m3 mF1 hown3 m1
            go_wp2_with fail
            refine hpl.mono ?_
            rintro r W4 ⟨rfl, m4⟩
            have hJ4 := hJ3.nob m4
            have mF4 := mF3.trans (m4.wide (T := F) (fun _ h => h.elim))
            have md4 : Mod w W4 Nob := md.drop mF4 (fun k hk => .inr (by have := hF k hk; have := HH.out; omega))
            have cjb4 := cjb.mod mF4 (fun h => by have := hF H h; omega)
            have hrow4 := owns_mod hrow mF4 hFv
            have hF4 : ∀ k, F2 k → H + 1 ≤ k := fun k hk => by
              rcases hF2 k hk with h | h
              · exact hF k h
              · have := cjb.lt; omega
            have hFv4 : ∀ k, inBlock (.slice hva es.length hvc) k → ¬ F2 k := fun k hk h => by
              rcases hF2 k h with h5 | h5
              · exact hFv k hk h5
              · have := (hrow.lt k hk).2; omega
            clear hpl hJ3 m4 mF3 mF4 hrow3 q0 q1 q2 q3 hF hFv hF2
            have q0 := hcell md4 (HLC.out 0 _ rfl)
            have q1 := hcell md4 (HLC.out 1 _ rfl)
            have q2 := hcell md4 (HLC.out 2 _ rfl)
            have q3 := hcell md4 (HLC.out 3 _ rfl)
            rw [Nat.add_zero] at q0
            have mX := (Mod.refl W4 Nob).alloc (.cells #[.int .i64 en.kind, .int .i64 en.task, .int .u64 en.att, .int .i64 en.state] 25)
            have hrowX := owns_mod hrow4 mX (fun _ _ => nob)
            have hzX := mX.size
            have hl4 := cjb4.lt
            obtain ⟨i0, hi, hi0, hi1, hi2⟩ := info_parts info_ent
            have hnb := CellsAt.new W4 #[.int .i64 en.kind, .int .i64 en.task, .int .u64 en.att, .int .i64 en.state] 25
            have HROW : Box (∀ k, inBlock (.slice hva es.length hvc) k → H + 1 ≤ k) := ⟨fun k hk => (hrow4.lt k hk).1⟩
            have hel1 : (es ++ [en]).length = es.length + 1 := by simp
            have HEL1 := Box.mk hel1
            clear hrow md cjb hcell hel1
            go_wp2_with (at_builtin; refine wpList_append_lies _ rfl _ _ _ rfl (H + 1) 25 i0 _ 4 32 Tryd.underlying39 hi hi0 hi1 hi2 rfl (by omega) (.slice hva es.length hvc) es.length _ rfl hrowX ⟨W4.heap.size, 0, none⟩ 1 1 [.int .i64 en.kind, .int .i64 en.task, .int .u64 en.att, .int .i64 en.state] rfl rfl (World.news_of_block (cs := #[.int .i64 en.kind, .int .i64 en.task, .int .u64 en.att, .int .i64 en.state]) (t := 25) (fr := (0, 0)) hnb) (by simp [Value.oneCell']) (by omega) (by unfold maxLen; have := HLEN.out; omega) (by have := HLEN.out; omega) (by simp; omega) (W4.heap.size + 1) (by simp) ?_)
            intro g cap w6 hown6 hgr hat hlt6
            have m6 : Mod W4 w6 (inBlock (.slice hva es.length hvc)) := (mX.wide (T := inBlock (.slice hva es.length hvc)) (fun _ h => h.elim)).grown hgr (fun k hk => .inl hk)
            have hJ6 := hJ4.mod m6 hFv4
            have md6 : Mod w w6 Nob := md4.drop m6 (fun k hk => .inr (by have := HROW.out k hk; have := HH.out; omega))
            have cjb6 := cjb4.mod m6 (fun h => by have := HROW.out H h; omega)
            have hFv6 : ∀ k, inBlock (.slice (some ⟨g, 0, none⟩) (es ++ [en]).length cap) k → ¬ F2 k := fun k hk hf => by
              have hkg : g = k := by simpa [inBlock, Value.ownBlock] using hk
              subst hkg
              rcases hat with h5 | h5
              · exact hFv4 g h5 hf
              · have := hJ4.s0.lt g hf; omega
            have hrow6 : w6.ownsRow (H + 1) 25 4 (.slice (some ⟨g, 0, none⟩) (es ++ [en]).length cap) (es ++ [en]).length ((es ++ [en]).flatMap Ent.cells) := by
              rw [HEL1.out]
              simpa [Ent.cells] using hown6
            clear hJ4 md4 cjb4 hrow4 hFv4 q0 q1 q2 q3 mX hrowX hzX hi hi0 hi1 hi2 hnb hown6 hgr hat hl4 m6
            by_cases hpar : kk % 2 = 0
            · have hp : (kk : Int).tmod 2 = 0 := by rw [Int.tmod_eq_emod_of_nonneg (by omega)]; omega
              have hcm := sys_commit hJ6 (by have := HLEN.out; omega) hep0 (by have := HCL.out; have := HLEN.out; omega)
              go_wp2_with fail
              refine hcm.mono ?_
              rintro r W7 ⟨rfl, F3, hJ7, hF7, m7⟩
              have hAt : AdAt w H b tb job (l.take (i + 1)) (5 * (i + 1)) (4 * (i + 1)) (.slice (some ⟨g, 0, none⟩) (es.length + 1) cap) W7 := by
                rw [HES.out, ← HEL1.out]
                refine ⟨md6.drop m7 (fun k hk => .inr (by have := hF4 k hk; have := HH.out; omega)), cjb6.mod m7 (fun h => by have := hF4 H h; omega), ⟨_, _, rfl, owns_mod hrow6 m7 hFv6⟩,
                  σ2, x2, _, F3, hJ7.s0, ?_, hE2.wide (by omega), by show τ.ep ≤ _; omega, ?_, fun k hk => ?_, fun k hk hf => ?_⟩
                · have h5 := hCC.ready (by show es.length + 1 < 99; have := HLEN.out; omega)
                  rw [HCL.out] at h5
                  exact h5
                · show τ.cnt + 1 ≤ _
                  rw [HEL1.out]
                  have := HCL.out
                  omega
                · rcases hF7 k hk with h5 | h5
                  · exact hF4 k h5
                  · have := cjb6.lt; omega
                · rcases hF7 k hf with h5 | h5
                  · exact hFv6 k hk h5
                  · have := (hrow6.lt k hk).2; omega
              clear hcm hJ6 hJ7 hF7 m7 md6 cjb6 hFv6 hrow6 hCW hCC hE2 hF4
              go_wp2_with fail
              exact ⟨⟨i + 1, by omega, by omega, by go_num, hAt⟩, by simp [intOf]; omega⟩
            · have hp : (kk : Int).tmod 2 = 1 := by rw [Int.tmod_eq_emod_of_nonneg (by omega)]; omega
              have hAt : AdAt w H b tb job (l.take (i + 1)) (5 * (i + 1)) (4 * (i + 1)) (.slice (some ⟨g, 0, none⟩) (es.length + 1) cap) w6 := by
                rw [HES.out, ← HEL1.out]
                exact ⟨md6, cjb6, ⟨_, _, rfl, hrow6⟩, σ2, x2, τ, F2, hJ6.s0, hCW, hE2.wide (by omega), by omega, by rw [HEL1.out]; have := HCL.out; omega, hF4, hFv6⟩
              clear hJ6 md6 cjb6 hFv6 hrow6 hCW hCC hE2 hF4
              go_wp2_with fail
              exact ⟨⟨i + 1, by omega, by omega, by go_num, hAt⟩, by simp [intOf]; omega⟩
      case neg =>
        go_wp2_with fail
        clear hci hd1 hd2 hmd
        go_loopw [12, 13] (fun jv t13 wx => ∃ kk : Nat, kk ≤ 1 ∧ t13 = .int .i64 kk ∧ ((kk = 0 ∧ jv = .pointer none ∧ AdAt w H b tb job es (5 * i) (4 * i) (.slice hva es.length hvc) wx) ∨ (1 ≤ kk ∧ AdJ w H b tb job es (5 * i + kk) (4 * i + kk) (.slice hva es.length hvc) jv wx))) (fun _ k _ => 1 - (intOf k).toNat)
        case atStart => exact ⟨0, Nat.zero_le _, rfl, .inl ⟨rfl, rfl, hA⟩⟩
        case round =>
          obtain ⟨kk, hkN, rfl, hk⟩ := hrel
          by_cases hkl : kk < 1
          · have hd1 : decide ((kk : Int) < (1 : Int)) = true := decide_eq_true (by omega)
            have hA1 : AdAt w H b tb job es (5 * i + kk) (4 * i + kk) (.slice hva es.length hvc) wr := by
              rcases hk with ⟨rfl, _, h⟩ | ⟨_, h⟩
              · exact h
              · exact h.at (by have := HLEN.out; omega)
            clear hk hA
            obtain ⟨md, cjb, ⟨_, _, hve, hrow⟩, σ, xx, τ, F, hS, hR, hE, hep, hcnt, hF, hFv⟩ := hA1
            cases hve
            have hbg := sys_begin hS (by omega)
            obtain ⟨ep1, hep1⟩ : ∃ y, τ.ep + 1 = y := ⟨_, rfl⟩
            rw [hep1] at hbg
            go_wp2_with fail
            refine hbg.mono ?_
            rintro r W1 ⟨rfl, hS1, m1⟩
            have hop := sys_open job (5 * i + kk) es hS1 (hR.ep ep1) hE (by omega) (by show τ.cnt ≤ 96; have := HLEN.out; omega) (by show 0 < ep1; omega) (by show ep1 < _; omega) hj
            have mF1 : Mod wr W1 F := m1.wide (fun k (hk : k = tb) => .inl (hk ▸ hS.tru))
            have cj1 := cjb.mod m1 (fun (h : H = tb) => by have := hF tb hS.tru; omega)
            change Calls _ _ #[_, _, _, .int .u64 ep1] _ _ at hop
            clear hbg m1 hS hR hE
            go_wp2_with (refine wpList_load_arr rfl 22 _ rfl H 32 5 rfl (arrB job) cj1 Tryd.underlying22 size_b32 hjs ?_)
            refine hop.mono ?_
            rintro r W2 ⟨J, σ2, x2, τ2, last, F2, rfl, hJ2, hC2, hE2, hep2, hcn2, hF2, m2, hJW⟩
            have mF2 := mF1.trans (m2.wide (T := F) (fun _ h => .inl h))
            have hz1 := mF1.size
            clear hop m2 hS1 mF1 cj1
            go_wp2_with fail
            refine (sys_entries hJ2 (by have := HLEN.out; omega)).mono ?_
            rintro r W3 ⟨ra, rc, rfl, hown3, m3⟩
            have hJ3 := hJ2.nob m3
            have mF3 := mF2.trans (m3.wide (T := F) (fun _ h => h.elim))
            have hrow3 := owns_mod hrow mF3 hFv
            have hpl := plain_ent _ _ es es W3 (EntsAt.of_owns hown3 rfl (by have := HLEN.out; omega)) (EntsAt.of_owns hrow3 rfl (by have := HLEN.out; omega))
            rw [sameEs_self] at hpl
            clear hJ2 m3 mF2 hown3
            go_wp2_with fail
            refine hpl.mono ?_
            rintro r W4 ⟨rfl, m4⟩
            have hJ4 := hJ3.nob m4
            have mF4 := mF3.trans (m4.wide (T := F) (fun _ h => h.elim))
            clear hpl hJ3 m4 mF3
            go_wp2_with fail
            refine (sys_waiting hJ4).mono ?_
            rintro r V ⟨rfl, rfl⟩
            have hAJ : AdJ w H b tb job es (5 * i + (kk + 1)) (4 * i + (kk + 1)) (.slice hva es.length hvc) (.pointer (some ⟨J, 0, none⟩)) V :=
              ⟨md.drop mF4 (fun k hk => .inr (by have := hF k hk; have := HH.out; omega)), cjb.mod mF4 (fun h => by have := hF H h; omega), ⟨hva, hvc, rfl, owns_mod hrow mF4 hFv⟩,
                σ2, x2, τ2, J, last, F2, rfl, by rw [hep2]; exact hJ4, hC2, hE2, by rw [hep2]; show ep1 ≤ _; omega, by rw [hep2]; show 0 < ep1; omega, fun k hk => by
                  rcases hF2 k hk with h | h
                  · exact hF k h
                  · have := cjb.lt; omega, fun k hk h => by
                  rcases hF2 k h with h5 | h5
                  · exact hFv k hk h5
                  · have := (hrow.lt k hk).2; omega⟩
            clear hJ4 mF4 hrow hrow3 md cjb hC2 hE2 hFv hF hF2
            go_wp2_with fail
            refine ⟨⟨kk + 1, by omega, by go_num, .inr ⟨by omega, hAJ⟩⟩, by simp [intOf]; omega⟩
          · obtain rfl : kk = 1 := by omega
            have hd1 : decide ((1 : Int) < (1 : Int)) = false := rfl
            have hJ1 : AdJ w H b tb job es (5 * i + 1) (4 * i + 1) (.slice hva es.length hvc) u12 wr := by
              rcases hk with ⟨h0, _, _⟩ | ⟨_, h⟩
              · omega
              · exact h
            clear hk hA
            obtain ⟨md, cjb, ⟨_, _, hve, hrow⟩, σ, xx, τ, J, last, F, rfl, hS, hC, hE, hep, hep0, hF, hFv⟩ := hJ1
            cases hve
            have hcl := hC.len
            have HCL := Box.mk hcl.1
            have hcell : ∀ {o : Nat} {v : Value} {W : World}, Mod w W Nob → w.cell? ⟨bl, o, none⟩ = some v → W.cell? ⟨bl, o, none⟩ = some v := fun {o v W} hm h => by
              have hb := hm.block bl (cell_lt h) nob
              unfold World.cell? at h ⊢
              simpa [hb] using h
            have q0 := hcell md (HLC.out 0 _ rfl)
            have q1 := hcell md (HLC.out 1 _ rfl)
            have q2 := hcell md (HLC.out 2 _ rfl)
            have q3 := hcell md (HLC.out 3 _ rfl)
            rw [Nat.add_zero] at q0
            have hwr := sys_write en hS hE (by omega) (by have := HLEN.out; omega) (by omega)
            change Calls _ _ #[_, .agg #[.int .i64 en.kind, .int .i64 en.task, .int .u64 en.att, .int .i64 en.state]] _ _ at hwr
            have hCW := hC.write (by have := HLEN.out; omega) τ.ep (by omega) en HEN.out
            have hCC := hC.commit (by have := HLEN.out; omega) τ.ep (by omega) en HEN.out
            have hi' := hcl.1
            rw [← hi'] at hCW hCC
            obtain ⟨σ2, hσ2⟩ : ∃ y, σ.put (nameS (es.length + 1)) (entryL (journalK job) τ.ep (es.length + 1) en last) = y := ⟨_, rfl⟩
            obtain ⟨lk, hlk⟩ : ∃ y, linkL (entryL (journalK job) τ.ep (es.length + 1) en last) = y := ⟨_, rfl⟩
            rw [hσ2, hlk] at hwr
            rw [hσ2] at hCW
            rw [hσ2, hlk] at hCC
            clear hcl hi' hσ2 hlk hC
            go_wp2_with fail
            refine hwr.mono ?_
            rintro r W1 ⟨rfl, x2, F2, hJ2, hE2, hF2, m1⟩
            have mF1 := m1
            clear hwr hS hE
            go_wp2_with fail
            refine (sys_waiting hJ2).mono ?_
            rintro r V ⟨rfl, rfl⟩
            go_wp2_with fail
            refine (sys_entries hJ2 (by have := HLEN.out; omega)).mono ?_
            rintro r W3 ⟨ra, rc, rfl, hown3, m3⟩
            have hJ3 := hJ2.nob m3
            have mF3 := mF1.trans (m3.wide (T := F) (fun _ h => h.elim))
            have hrow3 := owns_mod hrow mF3 hFv
            have hpl := plain_ent _ _ es es W3 (EntsAt.of_owns hown3 rfl (by have := HLEN.out; omega)) (EntsAt.of_owns hrow3 rfl (by have := HLEN.out; omega))
            rw [sameEs_self] at hpl
            clear hJ2 m3 mF1 hown3 m1
            go_wp2_with fail
            refine hpl.mono ?_
            rintro r W4 ⟨rfl, m4⟩
            have hJ4 := hJ3.nob m4
            have mF4 := mF3.trans (m4.wide (T := F) (fun _ h => h.elim))
            have md4 : Mod w W4 Nob := md.drop mF4 (fun k hk => .inr (by have := hF k hk; have := HH.out; omega))
            have cjb4 := cjb.mod mF4 (fun h => by have := hF H h; omega)
            have hrow4 := owns_mod hrow mF4 hFv
            have hF4 : ∀ k, F2 k → H + 1 ≤ k := fun k hk => by
              rcases hF2 k hk with h | h
              · exact hF k h
              · have := cjb.lt; omega
            have hFv4 : ∀ k, inBlock (.slice hva es.length hvc) k → ¬ F2 k := fun k hk h => by
              rcases hF2 k h with h5 | h5
              · exact hFv k hk h5
              · have := (hrow.lt k hk).2; omega
            clear hpl hJ3 m4 mF3 mF4 hrow3 q0 q1 q2 q3 hF hFv hF2
            have q0 := hcell md4 (HLC.out 0 _ rfl)
            have q1 := hcell md4 (HLC.out 1 _ rfl)
            have q2 := hcell md4 (HLC.out 2 _ rfl)
            have q3 := hcell md4 (HLC.out 3 _ rfl)
            rw [Nat.add_zero] at q0
            have mX := (Mod.refl W4 Nob).alloc (.cells #[.int .i64 en.kind, .int .i64 en.task, .int .u64 en.att, .int .i64 en.state] 25)
            have hrowX := owns_mod hrow4 mX (fun _ _ => nob)
            have hzX := mX.size
            have hl4 := cjb4.lt
            obtain ⟨i0, hi, hi0, hi1, hi2⟩ := info_parts info_ent
            have hnb := CellsAt.new W4 #[.int .i64 en.kind, .int .i64 en.task, .int .u64 en.att, .int .i64 en.state] 25
            have HROW : Box (∀ k, inBlock (.slice hva es.length hvc) k → H + 1 ≤ k) := ⟨fun k hk => (hrow4.lt k hk).1⟩
            have hel1 : (es ++ [en]).length = es.length + 1 := by simp
            have HEL1 := Box.mk hel1
            clear hrow md cjb hcell hel1
            go_wp2_with (at_builtin; refine wpList_append_lies _ rfl _ _ _ rfl (H + 1) 25 i0 _ 4 32 Tryd.underlying39 hi hi0 hi1 hi2 rfl (by omega) (.slice hva es.length hvc) es.length _ rfl hrowX ⟨W4.heap.size, 0, none⟩ 1 1 [.int .i64 en.kind, .int .i64 en.task, .int .u64 en.att, .int .i64 en.state] rfl rfl (World.news_of_block (cs := #[.int .i64 en.kind, .int .i64 en.task, .int .u64 en.att, .int .i64 en.state]) (t := 25) (fr := (0, 0)) hnb) (by simp [Value.oneCell']) (by omega) (by unfold maxLen; have := HLEN.out; omega) (by have := HLEN.out; omega) (by simp; omega) (W4.heap.size + 1) (by simp) ?_)
            intro g cap w6 hown6 hgr hat hlt6
            have m6 : Mod W4 w6 (inBlock (.slice hva es.length hvc)) := (mX.wide (T := inBlock (.slice hva es.length hvc)) (fun _ h => h.elim)).grown hgr (fun k hk => .inl hk)
            have hJ6 := hJ4.mod m6 hFv4
            have md6 : Mod w w6 Nob := md4.drop m6 (fun k hk => .inr (by have := HROW.out k hk; have := HH.out; omega))
            have cjb6 := cjb4.mod m6 (fun h => by have := HROW.out H h; omega)
            have hFv6 : ∀ k, inBlock (.slice (some ⟨g, 0, none⟩) (es ++ [en]).length cap) k → ¬ F2 k := fun k hk hf => by
              have hkg : g = k := by simpa [inBlock, Value.ownBlock] using hk
              subst hkg
              rcases hat with h5 | h5
              · exact hFv4 g h5 hf
              · have := hJ4.s0.lt g hf; omega
            have hrow6 : w6.ownsRow (H + 1) 25 4 (.slice (some ⟨g, 0, none⟩) (es ++ [en]).length cap) (es ++ [en]).length ((es ++ [en]).flatMap Ent.cells) := by
              rw [HEL1.out]
              simpa [Ent.cells] using hown6
            clear hJ4 md4 cjb4 hrow4 hFv4 q0 q1 q2 q3 mX hrowX hzX hi hi0 hi1 hi2 hnb hown6 hgr hat hl4 m6
            by_cases hpar : 1 % 2 = 0
            · exact absurd hpar (by decide)
            · have hAt : AdAt w H b tb job (l.take (i + 1)) (5 * (i + 1)) (4 * (i + 1)) (.slice (some ⟨g, 0, none⟩) (es.length + 1) cap) w6 := by
                rw [HES.out, ← HEL1.out]
                exact ⟨md6, cjb6, ⟨_, _, rfl, hrow6⟩, σ2, x2, τ, F2, hJ6.s0, hCW, hE2.wide (by omega), by omega, by rw [HEL1.out]; have := HCL.out; omega, hF4, hFv6⟩
              clear hJ6 md6 cjb6 hFv6 hrow6 hCW hCC hE2 hF4
              go_wp2_with fail
              exact ⟨⟨i + 1, by omega, by omega, by go_num, hAt⟩, by simp [intOf]; omega⟩
    · have hA2 := hA
      have hlen : (l.take i).length = i := by rw [List.length_take, HL.out]; omega
      obtain ⟨es, hes⟩ : ∃ y, l.take i = y := ⟨_, rfl⟩
      rw [hes] at hA2 hlen
      have HLEN := Box.mk hlen
      have hjs : (arrB job).size = 32 := by rw [arrB_size, hj]
      obtain ⟨md, cjb, ⟨hva, hvc, rfl, hrow⟩, σ, xx, τ, F, hS, hR, hE, hep, hcnt, hF, hFv⟩ := hA2
      have hbg := sys_begin hS (by omega)
      obtain ⟨ep1, hep1⟩ : ∃ y, τ.ep + 1 = y := ⟨_, rfl⟩
      rw [hep1] at hbg
      have hd : (i < L ∧ ¬ ((i : Int) < 12)) ∨ ¬ (i < L) := by
        by_cases h5 : i < L
        · exact .inl ⟨h5, by omega⟩
        · exact .inr h5
      clear hA hes hlen hA0 W0 W1 W2 W3 hlt
      rcases hd with ⟨hd1, hd2⟩ | hd1
      case' inl => go_wp2_with fail
      case' inr => go_wp2_with fail
      all_goals (
        refine hbg.mono ?_
        rintro r W1 ⟨rfl, hS1, m1⟩
        have hop := sys_open job (5 * i) es hS1 (hR.ep ep1) hE (by omega) (by show τ.cnt ≤ 96; have := HLEN.out; omega) (by show 0 < ep1; omega) (by show ep1 < _; omega) hj
        have mF1 : Mod wr W1 F := m1.wide (fun k (hk : k = tb) => .inl (hk ▸ hS.tru))
        have cj1 := cjb.mod m1 (fun (h : H = tb) => by have := hF tb hS.tru; omega)
        change Calls _ _ #[_, _, _, .int .u64 ep1] _ _ at hop
        clear hbg m1 hS hR hE
        go_wp2_with (refine wpList_load_arr rfl 22 _ rfl H 32 5 rfl (arrB job) cj1 Tryd.underlying22 size_b32 hjs ?_)
        refine hop.mono ?_
        rintro r W2 ⟨J, σ2, x2, τ2, last, F2, rfl, hJ2, hC2, hE2, hep2, hcn2, hF2, m2, hJW⟩
        have mF2 := mF1.trans (m2.wide (T := F) (fun _ h => .inl h))
        clear hop m2 hS1 mF1 cj1
        go_wp2_with fail
        refine (sys_entries hJ2 (by have := HLEN.out; omega)).mono ?_
        rintro r W3 ⟨ra, rc, rfl, hown3, m3⟩
        have hJ3 := hJ2.nob m3
        have mF3 := mF2.trans (m3.wide (T := F) (fun _ h => h.elim))
        have hrow3 := owns_mod hrow mF3 hFv
        have hpl := plain_ent _ _ es es W3 (EntsAt.of_owns hown3 rfl (by have := HLEN.out; omega)) (EntsAt.of_owns hrow3 rfl (by have := HLEN.out; omega))
        rw [sameEs_self] at hpl
        clear hJ2 m3 mF2 hown3
        go_wp2_with fail
        refine hpl.mono ?_
        rintro r W4 ⟨rfl, m4⟩
        have hJ4 := hJ3.nob m4
        have mF4 := mF3.trans (m4.wide (T := F) (fun _ h => h.elim))
        have hct := trust_count tb τ2 W4 hJ4.s0.tr
        have hln := hC2.len.1
        rw [← hln] at hct
        have hconv : IntKind.u64.wrap (es.length : Int) = (es.length : Int) := u64_wrap_id _ (by omega) (by have := HLEN.out; omega)
        have mfin : Mod w W4 Nob := md.drop mF4 (fun k hk => .inr (by have := hF k hk; have := HH.out; omega))
        clear hpl hJ3 hJ4 m4 mF3 mF4 hrow3 hrow md cjb hln hC2 hE2 hF hF2 hFv
        go_wp2_with fail
        refine hct.mono ?_
        rintro r V ⟨rfl, rfl⟩
        have hbq : ((es.length : Int) == (es.length : Int)) = true := by simp
        go_wp2_with fail
        go_ret
        exact ⟨rfl, mfin⟩)

end Go.Proofs.YtaeociedjdgdfaaDoor

namespace Go.Proofs.YtaeociedjdgdfaaDoor.journalAdopts
open Go.ChangeShapes Go.WideShapes Go.ChangeAt Go.RowKit
set_option linter.unusedVariables false

theorem own : ownKnob Tryd.prog.godebug = none := by kernel_rfl
theorem laidOut : laidOutB Tryd.prog = true := by kernel_rfl
theorem door_met (os : Os) (args : Array Value) : laidMetH Tryd.prog Rows.journalAdoptsRow.laid ((World.doorLaid Tryd.prog 400 os).forCall (fun _ _ => 0) ⟨#[], args, []⟩).memory :=
  laidMetH_of_parts3 (fuel := 8) (laidMet_of_run' 8 (by kernel_rfl) (by kernel_rfl)) (by kernel_rfl) (by kernel_rfl)

theorem byte_wf {n : Int} (h : (Lit.int .u8 n).wf = true) : ∃ x : UInt8, Value.int .u8 n = B x := by
  have h2 : 0 ≤ n ∧ n < 256 := by
    simp [Lit.wf, IntKind.min, IntKind.max, IntKind.signed, IntKind.bits] at h
    omega
  refine ⟨UInt8.ofNat n.toNat, ?_⟩
  unfold B
  rw [UInt8.toNat_ofNat_of_lt' (by show _ < 256; omega)]
  congr 1
  omega
theorem u64_wf {n : Int} (h : (Lit.int .u64 n).wf = true) : ∃ m : Nat, n = (m : Int) := by
  have h2 : 0 ≤ n := by
    simp [Lit.wf, IntKind.min, IntKind.max, IntKind.signed, IntKind.bits] at h
    omega
  exact ⟨n.toNat, by omega⟩
theorem all_bytes : ∀ l : List Value, (∀ v ∈ l, ∃ x : UInt8, v = B x) → ∃ job : List UInt8, l = job.map B
  | [], _ => ⟨[], rfl⟩
  | v :: l, h => by
    obtain ⟨x, rfl⟩ := h v (by simp)
    obtain ⟨job, rfl⟩ := all_bytes l (fun u hu => h u (by simp [hu]))
    exact ⟨x :: job, rfl⟩

/-- A list of what is there at each place. -/
theorem list_of {α : Type} {P : Nat → α → Prop} : ∀ n, (∀ i, i < n → ∃ a, P i a) → ∃ l : List α, l.length = n ∧ ∀ i a, l[i]? = some a → P i a
  | 0, _ => ⟨[], rfl, fun i a h => by simp at h⟩
  | n + 1, h => by
    obtain ⟨l, h1, h2⟩ := list_of n (fun i hi => h i (by omega))
    obtain ⟨a, ha⟩ := h n (by omega)
    refine ⟨l ++ [a], by simp [h1], fun i b hb => ?_⟩
    by_cases hi : i < l.length
    · rw [List.getElem?_append_left hi] at hb
      exact h2 i b hb
    · rw [List.getElem?_append_right (by omega)] at hb
      have hi2 : i = n := by
        have := (List.getElem?_eq_some_iff.1 hb).1
        simp at this
        omega
      subst hi2
      rw [h1, Nat.sub_self] at hb
      cases hb
      exact ha
theorem i64_wf {n : Int} (h : (Lit.int .i64 n).wf = true) : -9223372036854775808 ≤ n ∧ n ≤ 9223372036854775807 := by
  simp [Lit.wf, IntKind.min, IntKind.max, IntKind.signed, IntKind.bits] at h
  omega
theorem u64_wf2 {n : Int} (h : (Lit.int .u64 n).wf = true) : ∃ m : Nat, n = (m : Int) ∧ m < 18446744073709551616 := by
  have h2 : 0 ≤ n ∧ n < 18446744073709551616 := by
    simp [Lit.wf, IntKind.min, IntKind.max, IntKind.signed, IntKind.bits] at h
    omega
  exact ⟨n.toNat, by omega, by omega⟩
theorem oks_ent {cs : List Value} (h : Oks [.int .i64, .int .i64, .int .u64, .int .i64] cs) : ∃ e : Ent, e.ok ∧ cs = e.cells := by
  cases h with | cons h0 t0 =>
  cases t0 with | cons h1 t1 =>
  cases t1 with | cons h2 t2 =>
  cases t2 with | cons h3 t3 =>
  cases t3
  obtain ⟨n0, rfl, b0⟩ := h0
  obtain ⟨n1, rfl, b1⟩ := h1
  obtain ⟨n2, rfl, b2⟩ := h2
  obtain ⟨n3, rfl, b3⟩ := h3
  obtain ⟨m, rfl, hm⟩ := u64_wf2 b2
  exact ⟨⟨n0, n1, m, n3⟩, ⟨(i64_wf b0).1, (i64_wf b0).2, (i64_wf b1).1, (i64_wf b1).2, hm, (i64_wf b3).1, (i64_wf b3).2⟩, rfl⟩
theorem ents_of {w : World} {a : Option Addr} {len cap : Nat} (h : Rowed w [.int .i64, .int .i64, .int .u64, .int .i64] a len cap) : ∃ l : List Ent, l.length = len ∧ ∀ (k : Nat) e, l[k]? = some e → e.ok ∧ ∃ b o, a = some ⟨b, o, none⟩ ∧ w.rangeAt b (o + k * 4) e.cells := by
  refine list_of len (fun i hi => ?_)
  rcases h.2.2.2 with h0 | ⟨b, o, rfl, _, hc⟩
  · omega
  · obtain ⟨cs, h1, h2⟩ := hc i hi
    obtain ⟨e, h3, rfl⟩ := oks_ent h1
    exact ⟨e, h3, b, o, rfl, fun j v hv => by rw [Nat.add_assoc]; exact h2 j v hv⟩
theorem ints_of {w : World} {a : Option Addr} {len cap : Nat} (h : Rowed w [.int .i64] a len cap) : ∃ l : List Int, l.length = len ∧ RowIn w (.slice a l.length cap) (l.map (Value.int .i64)) := by
  rcases h.2.2.2 with rfl | ⟨b, o, rfl, hb, hc⟩
  · refine ⟨[], rfl, ?_⟩
    cases a with
    | none => have := h.2.2.1 rfl; subst this; exact .inl (.inl ⟨rfl, rfl⟩)
    | some p => exact .inr ⟨rfl, p, cap, rfl, by unfold maxLen; have := h.2.1; omega⟩
  · obtain ⟨l, h1, h2⟩ := list_of (P := fun i (n : Int) => w.cell? ⟨b, o + i, none⟩ = some (.int .i64 n)) len (fun i hi => by
      obtain ⟨cs, h3, h4⟩ := hc i hi
      cases h3 with | cons h5 t5 =>
      cases t5
      obtain ⟨n, rfl, _⟩ := h5
      have h6 := h4 0 _ rfl
      simp at h6
      exact ⟨n, h6⟩)
    refine ⟨l, h1, .inl (.inr ⟨b, o, cap, by rw [List.length_map], hb, by rw [List.length_map, h1]; exact h.1, by unfold maxLen; have := h.2.1; omega, fun i x hx => ?_⟩)⟩
    rw [List.getElem?_map, Option.map_eq_some_iff] at hx
    obtain ⟨n, hn, rfl⟩ := hx
    exact h2 i n hn

set_option maxRecDepth 100000 in
theorem lifted (os : Os) (started : os.Started) (H : Type) (enc : TypeId × Value → H) :
    ReturnsInHanded {} Tryd.checked os 4 .any (fun w args => (Rows.journalAdoptsSpec.pre enc Tryd.prog Tryd.f4 [] false w args ∧ laidMetH Tryd.prog Rows.journalAdoptsRow.laid w) ∧ sizedMet enc Tryd.prog Tryd.f4 (OpenSpec.ofChange Rows.journalAdoptsSpec) false w args)
      (Rows.journalAdoptsSpec.post enc Tryd.prog Tryd.f4 false true false false) := by
  refine returnsInHanded_of_change_and (C := Tryd.checked) (X := fun w _ => laidMetH Tryd.prog Rows.journalAdoptsRow.laid w) (fun _ _ _ hh h => h.of_heap hh) own started (by kernel_rfl) Tryd.func4
    (ChangeSpec.witness_shaped (enc := enc) (C := Tryd.checked) (os := os) (X := fun w _ => laidMetH Tryd.prog Rows.journalAdoptsRow.laid w) false (World.doorLaid Tryd.prog 400 os) #[.agg (Array.replicate 32 (.int .u8 0)), .slice none 0 0, .slice none 0 0] 8 rfl (World.shaped_of_RefB (by kernel_rfl) (by kernel_rfl)) (by kernel_rfl) (by kernel_rfl) (by kernel_rfl) (door_met os _)) ?_
  intro W base args ds gs before hval0 hW _ _ hL _
  have hval : ∀ (j : Nat) t v, Tryd.f4.params[j]? = some t → args[j]? = some v → Value.okWide Tryd.prog W .any base t v := hval0
  have hW' := hW
  obtain ⟨p, q, hA0, hV, rfl, hfz, hnd⟩ := hW
  have hA : DataW.TrodAll enc Tryd.prog W 0 (fun _ => true) true Tryd.f4.params.toList args.toList ds p := hA0
  rw [Tryd.params4] at hA hval
  obtain ⟨v0, vs0, d0, ds0, p0, q0, hargs, rfl, rfl, h0, r0⟩ := trodAll_cons hA
  obtain ⟨v1, vs1, d1, ds1, p1, q1, rfl, rfl, rfl, h1, r1⟩ := trodAll_cons r0
  obtain ⟨v2, vs2, d2, ds2, p2, q2, rfl, rfl, rfl, h2, r2⟩ := trodAll_cons r1
  obtain ⟨rfl, rfl, rfl⟩ := trodAll_nil r2
  obtain rfl : args = #[v0, v1, v2] := by cases args; simp_all
  obtain ⟨rfl, rfl⟩ := trodVars_none hV
  have k0 := h0
  have lt0 : ∀ x ∈ p0, x.block < W.heap.size := by obtain ⟨m, hm⟩ := k0; exact DataW.trod_lt m _ _ _ hm
  have k1 := h1
  have lt1 : ∀ x ∈ p1, x.block < W.heap.size := by obtain ⟨m, hm⟩ := k1; exact DataW.trod_lt m _ _ _ hm
  have k2 := h2
  have lt2 : ∀ x ∈ p2, x.block < W.heap.size := by obtain ⟨m, hm⟩ := k2; exact DataW.trod_lt m _ _ _ hm
  obtain ⟨job, hjl, rfl⟩ : ∃ job : List UInt8, job.length = 32 ∧ v0 = .agg (arrB job) := by
    have hv0 := hval 0 22 v0 rfl rfl
    simp only [Value.okWide, Tryd.underlying22] at hv0
    obtain ⟨cs, rfl, hsz, _⟩ := hv0
    obtain ⟨fuel, hf⟩ := h0
    obtain ⟨xs, m, rfl, hx, hlen, hn, hel⟩ := DataW.trod_array Tryd.underlying22 hf
    have e1 : Tryd.prog.cellsOf 5 = 1 := by kernel_rfl
    have e32 : Tryd.prog.cellsOf 22 = 32 := by kernel_rfl
    rw [e1] at hel
    rw [e32] at hlen
    change cs.toList.length = 32 at hlen
    change ∀ i, i < 32 → DataW.trod _ _ _ _ _ _ _ _ ((cs.toList.drop (i * 1)).take 1) = _ at hel
    obtain ⟨job, hjob⟩ := all_bytes cs.toList (fun v hv => by
      obtain ⟨i, hi, rfl⟩ := List.mem_iff_getElem.1 hv
      have h5 := hel i (by omega)
      rw [Nat.mul_one, List.drop_eq_getElem_cons hi, List.take_succ_cons, List.take_zero, List.getElem?_eq_getElem (by omega)] at h5
      obtain ⟨k, h6, _, h7⟩ := DataW.trod_int Tryd.underlying5 h5
      obtain ⟨x, hx2⟩ := byte_wf h7
      exact ⟨x, by rw [← hx2]; exact (List.cons.inj h6).1⟩)
    refine ⟨job, by rw [hjob, List.length_map] at hlen; exact hlen, ?_⟩
    unfold arrB
    rw [← hjob]
  obtain ⟨a1, len1, cap1, rfl, w1⟩ : ∃ a len cap, v1 = .slice a len cap ∧ Rowed W [.int .i64, .int .i64, .int .u64, .int .i64] a len cap := by
    obtain ⟨a', len', cap', rfl⟩ := okWide_slice Tryd.underlying39 (hval 1 39 v1 rfl rfl)
    obtain ⟨fuel, hf⟩ := h1
    exact rowed_of Tryd.underlying39 (n := 9) (ks := [.int .i64, .int .i64, .int .u64, .int .i64]) (by kernel_rfl) (by simp) (by kernel_rfl) (by simpa [Value.cells] using hf)
  obtain ⟨a2, len2, cap2, rfl, w2⟩ : ∃ a len cap, v2 = .slice a len cap ∧ Rowed W [.int .i64] a len cap := by
    obtain ⟨a', len', cap', rfl⟩ := okWide_slice Tryd.underlying42 (hval 2 42 v2 rfl rfl)
    obtain ⟨fuel, hf⟩ := h2
    exact rowed_of Tryd.underlying42 (n := 9) (ks := [.int .i64]) (by kernel_rfl) (by simp) (by kernel_rfl) (by simpa [Value.cells] using hf)
  obtain ⟨l, hll, hlr⟩ := ents_of w1
  obtain ⟨cr, hcl, hcr⟩ := ints_of w2
  subst hll; subst hcl
  clear hA0 hval0
  refine (adopts_walk job hjl l a1 cap1 cr (.slice a2 cr.length cap2) W (fun k e h => (hlr k e h).2) (fun e h => by obtain ⟨k, hk⟩ := List.getElem?_of_mem h; exact (hlr k e hk).1) hcr).mono fun r W' ⟨he, hm⟩ => ?_
  have bel : Below W.heap.size W W' := ⟨hm.os, hm.tape, hm.output, hm.size, fun k hk => hm.block k hk nob⟩
  subst he
  exact ⟨_, rfl, _, _, _, [], _, [], hW', trodAll_mk1 (shut_bool Tryd.underlying4 _), (trodAll_cons_mk (Below.trod laidOut (by kernel_rfl) (of_decide_eq_true (by kernel_rfl)) k0 bel lt0) (trodAll_cons_mk (Below.trod laidOut (by kernel_rfl) (of_decide_eq_true (by kernel_rfl)) k1 bel lt1) (trodAll_cons_mk (Below.trod laidOut (by kernel_rfl) (of_decide_eq_true (by kernel_rfl)) k2 bel lt2) trodAll_mk0))), rfl, bel.frame _, fun h => by cases h⟩

theorem over : Rows.journalAdoptsRow.holds Tryd.pinned (OpenSpec.ofChange Rows.journalAdoptsSpec) :=
  OpenClaim.holds_of_wide 4 Tryd.f4 rfl rfl rfl rfl rfl rfl rfl ⟨rfl, rfl, rfl, rfl, rfl⟩ rfl rfl rfl rfl rfl (by kernel_rfl) Tryd.func4 (by kernel_rfl)
    (of_decide_eq_true (by kernel_rfl)) (by unfold Func.isWrapper; first | (rw [if_pos (by decide +kernel)]; kernel_rfl) | (rw [if_neg (by decide +kernel)]; exact ⟨rfl, rfl⟩))
    (fun os started H enc _ => lifted os started H enc)

theorem proved : Rows.JournalAdoptsCardSaid :=
  Claim7.holds_tied_plain_at .later [] [.data, .data, .data] true (true, "49db22bddcb1a0acd7125e45ab461c736033417cad65237429e5d4b4cc7b2735") false
    over (fun _ h => by cases h) (by kernel_rfl) (fun _ h => by cases h) journalAdopts_row_tie rfl ⟨rfl, rfl⟩ (by kernel_rfl) rfl
    (fun f fn hf hfn => by
      obtain rfl : f = 4 := Option.some.inj ((show Tryd.prog.funcNamed "domino/dominolaw22.JournalAdopts" = some 4 by kernel_rfl).symm.trans hf) |>.symm
      obtain rfl : fn = Tryd.f4 := (Option.some.inj (Tryd.func4.symm.trans hfn)).symm
      exact ⟨by kernel_rfl, fun j t ht => by
        rw [Tryd.params4] at ht
        have hm : t ∈ [22, 39, 42] := by simpa using Array.mem_of_getElem? ht
        have hall : ([22, 39, 42].all fun u => !Tryd.prog.wantsStandIn u) = true := by kernel_rfl
        exact (show Tryd.prog.wantsStandIn t = false by simpa using List.all_eq_true.1 hall t hm)⟩)
    (by kernel_rfl)
#print axioms proved
end Go.Proofs.YtaeociedjdgdfaaDoor.journalAdopts
