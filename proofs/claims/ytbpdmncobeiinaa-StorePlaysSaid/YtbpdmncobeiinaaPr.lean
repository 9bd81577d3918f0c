/- The law StorePlays: what is put, and what is forked. The condition: at most sixty steps. -/
import Derived.Test.YtbpdmncobeiinaaPq
namespace Go.Proofs.Ytbpdmncobeiinaa
open Go.RowKit

theorem owns_less {w : World} {base : Nat} {e : TypeId} {g n m c : Nat} {xs : List Value} (h : w.ownsRow base e 1 (.slice (some ⟨g, 0, none⟩) m c) m xs) (hn : n ≤ m) : w.ownsRow base e 1 (.slice (some ⟨g, 0, none⟩) n c) n (xs.take n) := by
  obtain ⟨hl, h | ⟨g', cap, cur, he, hb, hg, h1, h2, h3, h4⟩⟩ := h
  · cases h.1
  · cases he
    refine ⟨by rw [List.length_take]; omega, .inr ⟨g, c, cur, rfl, hb, hg, by omega, h2, h3, ?_⟩⟩
    rw [← h4, List.take_take]
    congr 1
    omega

/-- .. and a copy of bytes that is neither's. -/
structure PairI (w0 w : World) (b rb : Nat) (σ : Sto) (x : StoB) (L : List RC) (O : List (List RC)) (y : RefB) (q : Nat) (cs : Array Value) (t : TypeId) (g n : Nat) (l : List UInt8) : Prop where
  po : PairO w0 w b rb σ x L O y q cs t
  len : l.length = n
  small : n ≤ 300
  row : w.ownsRow 0 5 1 (.slice (some ⟨g, 0, none⟩) (l.length + 3) (l.length + 3)) (l.length + 3) ((l ++ [71, 71, 71]).map B)
  noS : ¬ x.foot b g
  noR : ¬ y.foot rb g
  new : w0.heap.size ≤ g
  qg : q ≠ g

section
variable {w0 w : World} {b rb : Nat} {σ : Sto} {x : StoB} {L : List RC} {O : List (List RC)} {y : RefB} {q : Nat} {cs : Array Value} {t : TypeId} {g n : Nat} {l : List UInt8}

theorem PairI.lt (h : PairI w0 w b rb σ x L O y q cs t g n l) : g < w.heap.size := (h.row.lt g rfl).2

theorem PairI.bytes (h : PairI w0 w b rb σ x L O y q cs t g n l) : BytesAt w (.slice (some ⟨g, 0, none⟩) n (n + 3)) l := by
  have h1 := owns_less h.row (n := l.length) (by omega)
  rw [List.map_append, List.take_left' (by simp)] at h1
  have h2 := BytesAt.of_owns h1
  rw [h.len] at h2
  exact h2

theorem PairI.still {w' : World} (h : PairI w0 w b rb σ x L O y q cs t g n l) (hm : Mod w w' Nob) : PairI w0 w' b rb σ x L O y q cs t g n l :=
  { h with po := h.po.still hm, row := owns_mod h.row hm (fun _ _ => nob) }

theorem PairI.stepS {w' : World} {σ' : Sto} {v : Value} {e : Ending} (h : PairI w0 w b rb σ x L O y q cs t g n l) (hd : DidS w b x v σ' e w') : ∃ x', e = .returned v ∧ PairI w0 w' b rb σ' x' L O y q cs t g n l := by
  obtain ⟨x', he, hp, hst⟩ := h.po.stepS hd
  have hlt := h.lt
  refine ⟨x', he, hp, h.len, h.small, owns_mod h.row hst.mod (fun k hk ho => h.noS (.inl ?_)), fun hf => ?_, h.noR, h.new, h.qg⟩
  · have : k = g := (Option.some.inj hk).symm
    subst this; exact ho
  · rcases hst.foot g hf with h1 | h1
    · exact h.noS h1
    · omega
theorem PairI.stepR {w' : World} {L' : List RC} {O' : List (List RC)} {v : Value} {e : Ending} (h : PairI w0 w b rb σ x L O y q cs t g n l) (hd : DidR w rb y v L' O' e w') : ∃ y', e = .returned v ∧ PairI w0 w' b rb σ x L' O' y' q cs t g n l := by
  obtain ⟨y', he, hp, hst⟩ := h.po.stepR hd
  have hlt := h.lt
  refine ⟨y', he, hp, h.len, h.small, owns_mod h.row hst.mod (fun k hk ho => h.noR (.inl ?_)), h.noS, fun hf => ?_, h.new, h.qg⟩
  · have : k = g := (Option.some.inj hk).symm
    subst this; exact ho
  · rcases hst.foot g hf with h1 | h1
    · exact h.noR h1
    · omega

theorem own_in (h : PairO w0 w b rb σ x L O y q cs t) {va : Option Addr} {vc : Nat} (hv : BytesAt w0 (.slice va n vc) l) (hl : l.length = n) (hn : n ≤ 300) :
    Calls Try.prog 25 #[.slice va n vc, .int .u8 71] w fun e w' => ∃ g, e = .returned (.slice (some ⟨g, 0, none⟩) n (n + 3)) ∧ PairI w0 w' b rb σ x L O y q cs t g n l := by
  have hvw := hv.mod h.pair.mod (fun _ _ => nob)
  refine (own_bytes (.slice va n vc) l 71 w hvw (by omega)).mono fun e w' ⟨he, hr, hm⟩ => ?_
  have h0 := h.pair.mod.size
  refine ⟨w.heap.size, by rw [he, hl], h.still hm, hl, hn, owns_base hr, fun hf => ?_, fun hf => ?_, h0, fun e => ?_⟩
  · have := h.pair.footS _ hf; omega
  · have := h.pair.footR _ hf; omega
  · have := h.cells.lt; omega

theorem put_in {k : Nat} (h : PairI w0 w b rb σ x L O y q cs t g n l) (ha : Agree k (64 * k) σ L O) (hk : k < 60) (nm : ByteArray) :
    Calls Try.prog 9 #[.pointer (some ⟨b, 0, none⟩), .string nm, .slice (some ⟨g, 0, none⟩) n (n + 3)] w fun e w' => ∃ x', e = .returned (.tuple #[]) ∧ PairI w0 w' b rb (σ.put nm l) x' L O y q cs t g n l := by
  have h1 := ha.nch
  have h2 := ha.puts
  have h3 := ha.nput
  have h4 := ha.nver nm
  have h5 := h.len
  have h6 := h.small
  exact (put_any b σ x nm _ l w h.po.pair.both.s h.bytes (by omega) (by omega) (by omega) (by omega)).mono fun e w' hd => h.stepS hd

theorem put_ref_in {k : Nat} {σ0 : Sto} (h : PairI w0 w b rb σ x L O y q cs t g n l) (ha : Agree k (64 * k) σ0 L O) (hk : k < 60) (nm : ByteArray) (v : Value) (hv : BytesAt w0 v l) :
    Calls Try.prog 26 #[.pointer (some ⟨rb, 0, none⟩), .string nm, v] w fun e w' => ∃ y', e = .returned (.tuple #[]) ∧ PairI w0 w' b rb σ x (putL L nm l) (O ++ [L]) y' q cs t g n l := by
  have h1 := ha.len
  have h3 := ha.nput
  have h4 := ha.nver nm
  have h5 := h.len
  have h6 := h.small
  exact (ref_put rb L O y nm v l w h.po.pair.both.r (by omega) (fun W hW => hv.mod (h.po.pair.mod.drop hW (fun k hk => .inr (h.po.pair.newR k hk))) (fun _ _ => nob)) (by omega) (by omega) (by rw [ha.vers]; omega)).mono fun e w' hd => h.stepR hd

theorem kept_in (h : PairI w0 w b rb σ x L O y q cs t g n l) (v : Value) (hv : BytesAt w0 v l) :
    Calls Try.prog 27 #[.slice (some ⟨g, 0, none⟩) n (n + 3), v, .int .u8 71] w fun e w' => e = .returned (.bool true) ∧ PairI w0 w' b rb σ x L O y q cs t g n l := by
  have hl := h.len
  have h6 := h.small
  have hk := kept_bytes 0 g v l 71 w h.row (hv.mod h.po.pair.mod (fun _ _ => nob)) (by omega)
  rw [hl] at hk
  refine hk.mono ?_
  rintro e w' ⟨he, m, rfl⟩
  exact ⟨he, h.still ((Mod.refl w Nob).drewN m)⟩

theorem spoil_in (h : PairI w0 w b rb σ x L O y q cs t g n l) :
    Calls Try.prog 28 #[.slice (some ⟨g, 0, none⟩) n (n + 3)] w fun e w' => e = .returned (.tuple #[]) ∧ PairO w0 w' b rb σ x L O y q cs t := by
  have h1 := owns_less h.row (n := l.length) (by omega)
  rw [List.map_append, List.take_left' (by simp), h.len] at h1
  refine (spoil_own 0 n _ l w h1).mono fun e w' ⟨he, hm⟩ => ?_
  have hS : ∀ k, inBlock (.slice (some ⟨g, 0, none⟩) n (n + 3)) k → k = g := fun k hk => (Option.some.inj hk).symm
  have hp := h.po.pair
  exact ⟨he, ⟨⟨⟨hp.both.s.mod hm (fun k hk => hS k hk ▸ h.noS), hp.both.r.mod hm (fun k hk => hS k hk ▸ h.noR)⟩, hp.mod.drop hm (fun k hk => .inr (hS k hk ▸ h.new)), hp.newS, hp.newR, hp.ap1, hp.ap2⟩, h.po.cells.mod hm (fun hk => h.qg (hS q hk)), h.po.noS, h.po.noR⟩⟩

/-- A store and its fork. -/
structure ForkI (w0 w : World) (b b2 rb : Nat) (σo σ : Sto) (x x2 : StoB) (L : List RC) (O : List (List RC)) (y : RefB) (q : Nat) (cs : Array Value) (t : TypeId) : Prop where
  old : PairO w0 w b rb σo x L O y q cs t
  new : PairO w0 w b2 rb σ x2 L O y q cs t
  apart : ∀ k, x.own b k → ¬ x2.foot b2 k

theorem ForkI.still {w' : World} {b2 : Nat} {σo : Sto} {x2 : StoB} (h : ForkI w0 w b b2 rb σo σ x x2 L O y q cs t) (hm : Mod w w' Nob) : ForkI w0 w' b b2 rb σo σ x x2 L O y q cs t := ⟨h.old.still hm, h.new.still hm, h.apart⟩

theorem ForkI.step {w' : World} {b2 : Nat} {σo σ' : Sto} {x2 : StoB} {v : Value} {e : Ending} (h : ForkI w0 w b b2 rb σo σ x x2 L O y q cs t) (hd : DidS w b x v σ' e w') : ∃ x', e = .returned v ∧ ForkI w0 w' b b2 rb σ' σ x' x2 L O y q cs t := by
  obtain ⟨x', he, hp, hst⟩ := h.old.stepS hd
  have hn := h.new.pair
  refine ⟨x', he, hp, ⟨⟨⟨hn.both.s.mod hst.mod h.apart, hp.pair.both.r⟩, hp.pair.mod, hn.newS, hn.newR, hn.ap1, hn.ap2⟩, hp.cells, h.new.noS, hp.noR⟩, fun k hk hf => ?_⟩
  rcases hst.own k hk with h1 | h1
  · exact h.apart k h1 hf
  · have := hn.footS k hf; omega

theorem fork_in {k : Nat} (h : PairO w0 w b rb σ x L O y q cs t) (ha : Agree k (64 * k) σ L O) (hk : k < 60) :
    Calls Try.prog 24 #[.pointer (some ⟨b, 0, none⟩)] w fun e w' => ∃ b2 x2, e = .returned (.pointer (some ⟨b2, 0, none⟩)) ∧ ForkI w0 w' b b2 rb σ σ x x2 L O y q cs t := by
  have h1 := ha.nch
  have h2 := ha.puts
  have h3 := ha.nput
  refine (fork_any b σ x w h.pair.both.s (by omega) (by omega)).mono ?_
  rintro e w' ⟨b2, x2, he, hs2, hs, hm, ho, hh⟩
  have hP := h.still hm
  have h0 := h.pair.mod.size
  refine ⟨b2, x2, he, hP, ⟨⟨⟨hs2, hP.pair.both.r⟩, hP.pair.mod, fun k hk => by have := ho k hk; omega, hP.pair.newR, fun k hk hf => ?_, fun k hk hf => ?_⟩, hP.cells, fun hk => ?_, hP.noR⟩, fun k hk hf => ?_⟩
  · have := h.pair.footR k hf
    have := ho k hk
    omega
  · rcases hf with hf | hf
    · have := h.pair.footR k (.inl hk)
      have := ho k hf
      omega
    · rw [hh] at hf
      exact h.pair.ap2 k hk (.inr hf)
  · have := h.cells.lt
    have := ho q hk
    omega
  · rcases hf with hf | hf
    · have := h.pair.footS k (.inl hk)
      have := ho k hf
      omega
    · rw [hh] at hf
      exact (h.pair.both.s.hold k hf).2 hk

theorem put_gone {k b2 : Nat} {x2 : StoB} (h : ForkI w0 w b b2 rb σ σ x x2 L O y q cs t) (ha : Agree k (64 * k) σ L O) (hk : k < 60) (nm : ByteArray) (v : Value) (hv : BytesAt w v [7]) :
    Calls Try.prog 9 #[.pointer (some ⟨b, 0, none⟩), .string nm, v] w fun e w' => ∃ x', e = .returned (.tuple #[]) ∧ ForkI w0 w' b b2 rb (σ.put nm [7]) σ x' x2 L O y q cs t := by
  have h1 := ha.nch
  have h2 := ha.puts
  have h3 := ha.nput
  have h4 := ha.nver nm
  exact (put_any b σ x nm v [7] w h.old.pair.both.s hv (by simp) (by omega) (by omega) (by omega)).mono fun e w' hd => h.step hd

theorem roll_gone {k b2 : Nat} {x2 : StoB} (nm : ByteArray) (h : ForkI w0 w b b2 rb (σ.put nm [7]) σ x x2 L O y q cs t) (ha : Agree k (64 * k) σ L O) (hk : k < 60) (hs : nm.size ≤ maxLen) :
    Calls Try.prog 17 #[.pointer (some ⟨b, 0, none⟩), .int .i64 3] w fun e w' => ∃ ok, e = .returned (.bool ok) ∧ PairO w0 w' b2 rb σ x2 L O y q cs t := by
  have h1 := (ha.put nm [7] (by simp) hs).nch
  have hf := (ha.put nm [7] (by simp) hs).fair
  by_cases hn : (3 : Int) < 0 ∨ ((σ.put nm [7]).puts.length : Int) < 3
  · refine (roll_no b _ x 3 w h.old.pair.both.s hn).mono ?_
    rintro e w' ⟨rfl, rfl⟩
    exact ⟨false, rfl, h.new⟩
  · obtain ⟨p, hp⟩ : ∃ p, (σ.put nm [7]).puts[(σ.put nm [7]).puts.length - 3]? = some p := ⟨_, List.getElem?_eq_getElem (by omega)⟩
    refine (roll_yes b _ x 3 p w h.old.pair.both.s hf (by omega) (by omega) (by omega) hp).mono ?_
    rintro e w' ⟨ns, _, _, hd⟩
    obtain ⟨x', he, hI⟩ := h.step hd
    exact ⟨true, he, hI.new⟩
end

end Go.Proofs.Ytbpdmncobeiinaa
