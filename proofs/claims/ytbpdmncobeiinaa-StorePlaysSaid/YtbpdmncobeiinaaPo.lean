/- The helper 'shows' of the law StorePlays: the store shows what the document's store does. The condition: they agree (Agree), at most sixty names. -/
import Derived.Test.YtbpdmncobeiinaaQc
import Derived.Test.YtbpdmncobeiinaaWh
namespace Go.Proofs.Ytbpdmncobeiinaa
open Go.RowKit

theorem Agree.short {k m : Nat} {σ : Sto} {L : List RC} {O : List (List RC)} (h : Agree k m σ L O) : σ.short := fun nm l hl => by
  have := h.small nm l hl
  omega
theorem Agree.sized {k m : Nat} {σ : Sto} {L : List RC} {O : List (List RC)} (h : Agree k m σ L O) : Sized L := fun c hc => by
  have h1 := (says_mem L h.rise c hc).1
  rw [h.shows] at h1
  cases hb : c.2.1 with
  | none => simp
  | some l =>
    rw [hb] at h1
    have := h.small c.1 l h1
    simp; omega

/-- Both, in one world. -/
structure Both (w : World) (b rb : Nat) (σ : Sto) (x : StoB) (L : List RC) (O : List (List RC)) (y : RefB) : Prop where
  s : StoreAt w b σ x
  r : RefAt w rb L O y
theorem Both.still {w w' : World} {b rb : Nat} {σ : Sto} {x : StoB} {L : List RC} {O : List (List RC)} {y : RefB} (h : Both w b rb σ x L O y) (hm : Mod w w' Nob) : Both w' b rb σ x L O y := ⟨h.s.still hm, h.r.still hm⟩

set_option maxRecDepth 100000 in
set_option maxHeartbeats 2000000 in
theorem shows_yes (b rb k m : Nat) (σ : Sto) (x : StoB) (L : List RC) (O : List (List RC)) (y : RefB) (nm : ByteArray) (w : World) (h : Both w b rb σ x L O y) (ha : Agree k m σ L O) (hk : k ≤ 60) (hm : m ≤ 100000) :
    Calls Try.prog 29 #[.pointer (some ⟨b, 0, none⟩), .pointer (some ⟨rb, 0, none⟩), .string nm] w (YesN w) := by
  have hsh := ha.short
  have hsz := ha.sized
  have hlen := ha.len
  have hch := ha.nch
  have hLk : L.length < 1000000 := by omega
  have hN := Lib.hid ha
  have hfair := Lib.hid ha.fair
  clear ha
  go_enter Try.func29, Try.ntmps29
  go_wp2_with fail
  refine (names_any _ _).mono ?_
  rintro e w1 ⟨rfl, rfl⟩
  have m1 : Mod w (w.alloc (.cells #[.pointer (some ⟨b, 0, none⟩)] 23)) Nob := (Mod.refl w Nob).alloc _
  have hc1 : (w.alloc (.cells #[.pointer (some ⟨b, 0, none⟩)] 23)).cell? ⟨w.heap.size, 0, none⟩ = some (.pointer (some ⟨b, 0, none⟩)) := ((CellsAt.new w #[.pointer (some ⟨b, 0, none⟩)] 23).cell 0).trans rfl
  have h1 := h.still m1
  have hs := seq_names w.heap.size b σ x 100 _ hc1 h1.s hfair.out (by omega) (by omega)
  obtain ⟨w1, hw1⟩ : ∃ w1, w.alloc (.cells #[.pointer (some ⟨b, 0, none⟩)] 23) = w1 := ⟨_, rfl⟩
  rw [hw1] at m1 h1 hs
  clear hc1
  go_wp2_with fail
  clear hw1
  refine ((callsIn_wide (n := 7)).1 hs).mono ?_
  clear hs
  rintro e w2 ⟨ns, hns, m2, hcase⟩
  have hnl : ns = namesOf L := hN.out.names ns hns
  have hnk : ns.length ≤ 60 := by
    have := namesOf_le L L.length
    rw [List.take_length] at this
    rw [hnl]; omega
  obtain ⟨v, rfl, hrow⟩ : ∃ v, e = .returned (.tuple #[v, .bool true]) ∧ w2.ownsRow w1.heap.size 9 1 v ns.length (ns.map Value.string) := by
    rcases hcase with ⟨_, v, he, hr⟩ | ⟨hlt, _⟩
    · exact ⟨v, he, hr⟩
    · omega
  clear hcase
  have h2 := h1.still m2
  have m02 := m1.trans m2
  clear h1 m2 m1
  obtain ⟨va, vc, rfl, hvc, hvm⟩ := owns_form hrow
  unfold maxLen at hvm
  have hin : RowIn w2 (.slice va ns.length vc) (ns.map Value.string) := .inl (RowAt.of_owns hrow)
  obtain ⟨N, hNn⟩ : ∃ N, ns.length = N := ⟨_, rfl⟩
  rw [hNn] at hrow hnk hvc hin ⊢
  have HNn := Lib.hid hNn
  have HNl := Lib.hid hnl
  have HNS := Lib.hid hns
  clear hNn hnl hns
  go_wp2_with fail
  refine (ref_names rb L O y w2 h2.r hLk).mono ?_
  rintro e w3 ⟨v3, rfl, hrow3, m3⟩
  have h3 := h2.still m3
  rw [← HNl.out] at hrow3
  obtain ⟨a3, c3, hf3, _⟩ := owns_form hrow3
  rw [HNn.out] at hf3 hrow3
  subst hf3
  have hin3 : RowIn w3 (.slice a3 N c3) (ns.map Value.string) := .inl (RowAt.of_owns hrow3)
  have hin2 : RowIn w3 (.slice va N vc) (ns.map Value.string) := hin.mod m3 (fun _ _ => nob)
  go_wp2_with fail
  refine (plain_str (.slice va N vc) (.slice a3 N c3) ns w3 hin2 hin3).mono ?_
  rintro e w4 ⟨rfl, n4, hw4⟩
  have m4 : Mod w3 w4 Nob := by rw [hw4]; exact (Mod.refl w3 Nob).drewN n4
  have h4 := h3.still m4
  have hrow4 := owns_mod (owns_mod hrow m3 (fun _ _ => nob)) m4 (fun _ _ => nob)
  have m04 := (m02.trans m3).trans m4
  clear hw4 hin3 hin2 hin hrow hrow3 h3 h2 m3 m02 m4
  go_wp2_with fail
  refine (writes_any b σ x w4 h4.s).mono ?_
  rintro e w5 ⟨rfl, rfl⟩
  go_wp2_with fail
  have hwr := ref_writes rb L O y w4 h4.r
  rw [hN.out.puts] at hwr
  refine hwr.mono ?_
  rintro e w5 ⟨rfl, n5, hw5⟩
  have m5 : Mod w4 w5 Nob := by rw [hw5]; exact (Mod.refl w4 Nob).drewN n5
  have h5 := h4.still m5
  have hrow5 := owns_mod hrow4 m5 (fun _ _ => nob)
  have m05 := m04.trans m5
  clear hw5 hrow4 h4 m5 hwr m04
  go_wp2_with fail
  refine (versions_any b σ x nm w5 h5.s).mono ?_
  rintro e w6 ⟨rfl, rfl⟩
  go_wp2_with fail
  have hwr := ref_versions rb L O y nm w5 h5.r
  rw [hN.out.vers] at hwr
  refine hwr.mono ?_
  rintro e w6 ⟨rfl, n6, hw6⟩
  have m6 : Mod w5 w6 Nob := by rw [hw6]; exact (Mod.refl w5 Nob).drewN n6
  have h6 := h5.still m6
  have hrow6 := owns_mod hrow5 m6 (fun _ _ => nob)
  have m06 := m05.trans m6
  clear hw6 hrow5 h5 m6 hwr m05
  go_wp2_with fail
  obtain ⟨wo, hwo⟩ : ∃ wo : World, wo = w6 := ⟨_, rfl⟩
  rw [← hwo]
  have HO := Lib.hid hwo
  clear hwo
  go_loopw [9, 10, 11, 12, 13] (fun i _ _ _ _ wr => ∃ k : Nat, k ≤ N ∧ i = .int .i64 k ∧ Mod w6 wr Nob) (fun i _ _ _ _ _ => N - (intOf i).toNat)
  case atStart => exact ⟨0, Nat.zero_le _, rfl, by rw [HO.out]; exact Mod.refl _ _⟩
  case round =>
    obtain ⟨i, hi, rfl, mi⟩ := hrel
    have hr := h6.still mi
    have hrow := owns_mod hrow6 mi (fun _ _ => nob)
    have m0 := m06.trans mi
    by_cases hlt : i < N
    · obtain ⟨nk, hnk2⟩ : ∃ nk, ns[i]? = some nk := ⟨_, List.getElem?_eq_getElem (by rw [HNn.out]; exact hlt)⟩
      obtain ⟨g, rfl⟩ : ∃ g, va = some ⟨g, 0, none⟩ := by
        rcases hrow.2 with ⟨_, h0⟩ | ⟨g, cap', cur, h0, _⟩
        · omega
        · cases h0; exact ⟨g, rfl⟩
      have hcell := own_cell hrow i (.string nk) (by rw [List.getElem?_map, hnk2]; rfl)
      obtain ⟨lb, hlb⟩ : ∃ lb, σ.shows nk = some lb := by
        have := (HNS.out.2.1 nk).1 (List.mem_of_getElem? hnk2)
        exact Option.isSome_iff_exists.1 this
      have hlb2 : shows_ L nk = some lb := by rw [hN.out.shows]; exact hlb
      have hg1 := get_any b σ x nk wr hr.s hsh
      rw [hlb] at hg1
      clear hlb hrow hrow6 hnk2 h h6
      go_wp2_with fail
      refine hg1.mono ?_
      rintro e wa ⟨v7, rfl, ho7, m7⟩
      obtain ⟨a7, c7, rfl, _⟩ := owns_form ho7
      have hg2 := ref_get rb L O y nk wa (hr.still m7).r hsz
      rw [hlb2] at hg2
      have hcell7 : wa.cell? ⟨g, i, none⟩ = some (.string nk) := by rw [m7.cell (cell_lt hcell) nob]; exact hcell
      clear hlb2 hg1 hcell hr
      simp only [Option.getD_some] at ho7
      obtain ⟨nl, hnl⟩ : ∃ nl, lb.length = nl := ⟨_, rfl⟩
      simp only [Option.getD_some, hnl] at ho7 ⊢
      have HL := Lib.hid hnl
      clear hnl
      go_wp2_with fail
      refine hg2.mono ?_
      rintro e wb ⟨v8, rfl, ho8, m8⟩
      obtain ⟨a8, c8, rfl, _⟩ := owns_form ho8
      simp only [Option.getD_some] at ho8
      have hB8 := BytesAt.of_owns ho8
      have ho9 := owns_mod ho7 m8 (fun _ _ => nob)
      have hB9 := BytesAt.of_owns ho9
      simp only [Option.getD_some, HL.out] at hB8 ⊢
      clear hg2 ho7 ho8 hcell7
      go_wp2_with fail
      refine (same_bytes _ _ lb lb wb hB9 hB8).mono ?_
      rintro e wc ⟨rfl, rfl⟩
      have hd : decide (lb = lb) = true := by simp
      rw [hd]
      clear hB8 hB9 hd
      go_wp2_with fail
      refine (spoil_own _ nl _ lb wb ho9).mono ?_
      rintro e wd ⟨rfl, m9⟩
      have m10 := (m7.trans m8).drop m9 (fun j hj => .inr (ho9.lt j hj).1)
      have m11 := mi.trans m10
      clear ho9 m7 m8 m9 m10 mi m0
      go_wp2_with fail
      exact ⟨⟨i + 1, by omega, by go_num, m11⟩, by simp [intOf]; omega⟩
    · obtain rfl : i = N := by omega
      clear hrow hrow6 h h6 mi
      have hg1 := get_any b σ x nm wr hr.s hsh
      rw [← hN.out.shows] at hg1
      go_wp2_with fail
      refine hg1.mono ?_
      rintro e wa ⟨v7, rfl, ho7, m7⟩
      obtain ⟨a7, c7, rfl, _⟩ := owns_form ho7
      have hg2 := ref_get rb L O y nm wa (hr.still m7).r hsz
      clear hg1
      obtain ⟨so, hso⟩ : ∃ so, shows_ L nm = so := ⟨_, rfl⟩
      rw [hso] at hg2 ho7 ⊢
      clear hso
      obtain ⟨bo, hbo⟩ : ∃ bo, so.isSome = bo := ⟨_, rfl⟩
      obtain ⟨lo, hlo⟩ : ∃ lo, so.getD [] = lo := ⟨_, rfl⟩
      unfold Got at hg2
      rw [hbo, hlo] at hg2
      rw [hlo] at ho7
      rw [hbo, hlo]
      obtain ⟨nl, hnl⟩ : ∃ nl, lo.length = nl := ⟨_, rfl⟩
      rw [hnl] at ho7 hg2 ⊢
      clear hbo hlo hnl
      go_wp2_with fail
      refine hg2.mono ?_
      rintro e wb ⟨v8, rfl, ho8, m8⟩
      obtain ⟨a8, c8, rfl, _⟩ := owns_form ho8
      have hB8 := BytesAt.of_owns ho8
      have hB9 := BytesAt.of_owns (owns_mod ho7 m8 (fun _ _ => nob))
      have m12 := (m0.trans m7).trans m8
      clear hg2 ho7 ho8 m7 m8 m0
      have hsb := same_bytes _ _ lo lo wb hB9 hB8
      have hd : decide (lo = lo) = true := by simp
      rw [hd] at hsb
      clear hB8 hB9 hd
      go_wp2_with fail
      refine hsb.mono ?_
      rintro e wc ⟨rfl, rfl⟩
      go_wp2_with fail
      go_ret
      exact ⟨rfl, m12⟩

end Go.Proofs.Ytbpdmncobeiinaa
