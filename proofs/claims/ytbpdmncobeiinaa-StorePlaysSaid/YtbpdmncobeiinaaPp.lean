/- The script of the law StorePlays, as it came in. No condition. -/
import Derived.Test.YtbpdmncobeiinaaSh
namespace Go.Proofs.Ytbpdmncobeiinaa
open Go.RowKit

/-- A call of the script, as it came in. -/
structure OpAt (w : World) (b o : Nat) (kd n : Int) (nm to : ByteArray) (v : Value) (l : List UInt8) : Prop where
  c0 : w.cell? ⟨b, o, none⟩ = some (.int .i64 kd)
  c1 : w.cell? ⟨b, o + 1, none⟩ = some (.int .i64 n)
  c2 : w.cell? ⟨b, o + 2, none⟩ = some (.string nm)
  c3 : w.cell? ⟨b, o + 3, none⟩ = some (.string to)
  c4 : w.cell? ⟨b, o + 4, none⟩ = some v
  wfk : (Lit.int .i64 kd).wf = true
  wfn : (Lit.int .i64 n).wf = true
  snm : nm.size ≤ maxLen
  sto : to.size ≤ maxLen
  bytes : BytesAt w v l

/-- A script that came in. -/
def OpsIn (w : World) (a : Option Addr) (len cap : Nat) : Prop :=
  len ≤ cap ∧ cap ≤ 9223372036854775807 ∧ (len = 0 ∨ ∃ b o, a = some ⟨b, o, none⟩ ∧ b < w.heap.size ∧ ∀ i, i < len → ∃ kd n nm to v l, OpAt w b (o + i * 5) kd n nm to v l)

section
variable {H : Type} {enc : TypeId × Value → H} {P : Program} {w : World} {base : Nat} {spare : Nat → Bool} {held : Bool}

theorem field_of {t : TypeId} {fs : Array Field} {fuel : Nat} {cs : List Value} {x : DataW H × List MemPlace} (ht : P.underlying t = some (.struct fs)) (h : DataW.trod enc P w base spare held fuel t cs = some x) (i : Nat) (f : Field) (hf : fs[i]? = some f) :
    cs.length = P.cellsOf t ∧ ∃ m y, DataW.trod enc P w base spare held m f.type ((cs.drop f.offset).take (P.cellsOf f.type)) = some y := by
  obtain ⟨xs, n, _, _, hlen, hxs, hall⟩ := DataW.trod_struct ht h
  have h3 := hall i f hf
  have hi : i < xs.length := by rw [hxs]; exact (Array.getElem?_eq_some_iff.1 hf).1
  rw [List.getElem?_eq_getElem hi] at h3
  exact ⟨hlen, n, _, h3⟩

theorem list5 {α : Type} {l : List α} (h : l.length = 5) : ∃ a b c d e, l = [a, b, c, d, e] := by
  match l, h with
  | [a, b, c, d, e], _ => exact ⟨a, b, c, d, e, rfl⟩
theorem oks_one {k : CK} {v : Value} (h : Oks [k] [v]) : k.ok v := by cases h; assumption
end

theorem ops_of {H : Type} {enc : TypeId × Value → H} {w : World} {base : Nat} {spare : Nat → Bool} {held : Bool} {fuel : Nat} {v : Value} {x : DataW H × List MemPlace}
    (h : DataW.trod enc Try.prog w base spare held fuel 43 [v] = some x) : ∃ a len cap, v = .slice a len cap ∧ OpsIn w a len cap := by
  rcases DataW.trod_slice Try.underlying43 h with ⟨h0, _⟩ | ⟨a, len, cap, elems, rest, m, _, h0, _, hb, hl, hm, hlen, hel, _, _⟩
  · simp only [List.cons.injEq, and_true] at h0
    subst h0
    exact ⟨none, 0, 0, rfl, Nat.le_refl _, by decide, .inl rfl⟩
  · simp only [List.cons.injEq, and_true] at h0
    subst h0
    refine ⟨some a, len, cap, rfl, hl, by unfold maxLen at hm; omega, ?_⟩
    by_cases hz : len = 0
    · exact .inl hz
    · right
      have key : ∀ i, i < len → ∃ (kd n : Int) (nm to : ByteArray) (v : Value) (l : List UInt8), (Lit.int .i64 kd).wf = true ∧ (Lit.int .i64 n).wf = true ∧ nm.size ≤ maxLen ∧ to.size ≤ maxLen ∧ BytesAt w v l ∧
          ∀ j u, [Value.int .i64 kd, .int .i64 n, .string nm, .string to, v][j]? = some u → w.cell? ((a.add (i * 5)).add j) = some u := by
        intro i hi
        have h1 := hel i hi
        have hi' : i < elems.length := by omega
        rw [List.getElem?_eq_getElem hi'] at h1
        obtain ⟨cs, h2, h3⟩ := Option.bind_eq_some_iff.1 h1
        have hco : Try.prog.cellsOf 50 = 5 := by kernel_rfl
        have hci : Try.prog.cellsOf 3 = 1 := by kernel_rfl
        have hcs : Try.prog.cellsOf 9 = 1 := by kernel_rfl
        have hcb : Try.prog.cellsOf 22 = 1 := by kernel_rfl
        rw [hco] at h2
        obtain ⟨hl0, m0, y0, f0⟩ := field_of Try.underlying50 h3 0 _ rfl
        obtain ⟨_, m1, y1, f1⟩ := field_of Try.underlying50 h3 1 _ rfl
        obtain ⟨_, m2, y2, f2⟩ := field_of Try.underlying50 h3 2 _ rfl
        obtain ⟨_, m3, y3, f3⟩ := field_of Try.underlying50 h3 3 _ rfl
        obtain ⟨_, m4, y4, f4⟩ := field_of Try.underlying50 h3 4 _ rfl
        rw [hco] at hl0
        have hcells := (cells_at h2).2
        obtain ⟨u0, u1, u2, u3, u4, rfl⟩ := list5 hl0
        · simp only [List.getElem_toArray, List.getElem_cons_zero, List.getElem_cons_succ, hci, hcs, hcb, List.drop_succ_cons, List.drop_zero, List.take_succ_cons, List.take_zero] at f0 f1 f2 f3 f4
          obtain ⟨kd, rfl, wk⟩ := oks_one (flat_ok 9 3 [.int .i64] m0 _ y0 (by kernel_rfl) f0)
          obtain ⟨n, rfl, wn⟩ := oks_one (flat_ok 9 3 [.int .i64] m1 _ y1 (by kernel_rfl) f1)
          obtain ⟨nm, rfl, wm⟩ := oks_one (flat_ok 9 9 [.str] m2 _ y2 (by kernel_rfl) f2)
          obtain ⟨to, rfl, wt⟩ := oks_one (flat_ok 9 9 [.str] m3 _ y3 (by kernel_rfl) f3)
          obtain ⟨ba, bn, bc, rfl, hr⟩ := rowed_of Try.underlying22 (n := 9) (ks := [.int .u8]) (by kernel_rfl) (by simp) (by kernel_rfl) f4
          obtain ⟨l, _, hlb⟩ := bytes_in hr
          exact ⟨kd, n, nm, to, _, l, wk, wn, wm, wt, hlb, hcells⟩
      obtain ⟨b, o, sp⟩ := a
      have hsp : sp = none := by
        obtain ⟨kd, n, nm, to, v, l, _, _, _, _, _, hc⟩ := key 0 (by omega)
        have h0 := hc 0 _ rfl
        simpa [Addr.add] using World.cell?_spot h0
      subst hsp
      refine ⟨b, o, rfl, ?_, fun i hi => ?_⟩
      · obtain ⟨kd, n, nm, to, v, l, _, _, _, _, _, hc⟩ := key 0 (by omega)
        have h0 := hc 0 _ rfl
        simp only [Addr.add_lit] at h0
        rcases Nat.lt_or_ge b w.heap.size with h1 | h1
        · exact h1
        · simp [World.cell?, Array.getElem?_eq_none h1] at h0
      · obtain ⟨kd, n, nm, to, v, l, h1, h2, h3, h4, h5, hc⟩ := key i hi
        have hc' : ∀ j u, [Value.int .i64 kd, .int .i64 n, .string nm, .string to, v][j]? = some u → w.cell? ⟨b, o + i * 5 + j, none⟩ = some u := fun j u hj => by
          have := hc j u hj
          rwa [Addr.add_lit, Addr.add_lit] at this
        exact ⟨kd, n, nm, to, v, l, hc' 0 _ rfl, hc' 1 _ rfl, hc' 2 _ rfl, hc' 3 _ rfl, hc' 4 _ rfl, h1, h2, h3, h4, h5⟩

end Go.Proofs.Ytbpdmncobeiinaa
