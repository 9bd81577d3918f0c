/- The law StoreUndo walked. No condition. -/
import Derived.Test.YtbpdmncobeiinaaSg
import Derived.Test.YtbpdmncobeiinaaKb
import Derived.Deep.Slices
import Derived.OpenShut
namespace Go.Proofs.Ytbpdmncobeiinaa
open Go.RowKit

def xName : ByteArray := ⟨#[120]⟩
def yName : ByteArray := ⟨#[121]⟩
theorem xy : xName ≠ yName := by
  intro h
  have h2 := congrArg (fun b => b.data.toList) h
  exact absurd h2 (by decide)

/-- What is known of a store with two names. -/
structure Knows (σ : Sto) (sx sy : Option (List UInt8)) (vx vy : List (List UInt8)) (n : Nat) : Prop where
  sx : σ.shows xName = sx
  sy : σ.shows yName = sy
  vx : σ.vers xName = vx
  vy : σ.vers yName = vy
  cs : σ.changes.length = n
  ps : σ.puts.length ≤ n
  short : σ.short

theorem set_same (σ : Sto) (nm : ByteArray) (o : Option (List UInt8)) : (σ.set nm o).shows nm = o := upd_same σ.shows nm o
theorem set_other (σ : Sto) {nm n : ByteArray} (o : Option (List UInt8)) (h : n ≠ nm) : (σ.set nm o).shows n = σ.shows n := upd_other σ.shows _ h
theorem put_same (σ : Sto) (nm : ByteArray) (l : List UInt8) : (σ.put nm l).vers nm = σ.vers nm ++ [l] := upd_same σ.vers nm _
theorem put_other (σ : Sto) {nm n : ByteArray} (l : List UInt8) (h : n ≠ nm) : (σ.put nm l).vers n = σ.vers n := upd_other σ.vers _ h

section
variable {σ : Sto} {sx sy : Option (List UInt8)} {vx vy : List (List UInt8)} {n : Nat}
theorem Knows.setX (h : Knows σ sx sy vx vy n) (o : Option (List UInt8)) (hl : (o.getD []).length ≤ 1099511627776) : Knows (σ.set xName o) o sy vx vy (n + 1) :=
  ⟨set_same _ _ _, (set_other _ _ (Ne.symm xy)).trans h.sy, h.vx, h.vy, by simp [Sto.set, h.cs], Nat.le_succ_of_le h.ps, by
    cases o
    · exact short_none h.short
    · exact short_set h.short hl⟩
theorem Knows.setY (h : Knows σ sx sy vx vy n) (o : Option (List UInt8)) (hl : (o.getD []).length ≤ 1099511627776) : Knows (σ.set yName o) sx o vx vy (n + 1) :=
  ⟨(set_other _ _ xy).trans h.sx, set_same _ _ _, h.vx, h.vy, by simp [Sto.set, h.cs], Nat.le_succ_of_le h.ps, by
    cases o
    · exact short_none h.short
    · exact short_set h.short hl⟩
theorem Knows.putX (h : Knows σ sx sy vx vy n) (l : List UInt8) (hl : l.length ≤ 1099511627776) : Knows (σ.put xName l) (some l) sy (vx ++ [l]) vy (n + 1) := by
  have k := h.setX (some l) hl
  refine ⟨k.sx, k.sy, ?_, ?_, k.cs, ?_, k.short⟩
  · rw [← h.vx]; exact put_same _ _ _
  · rw [← h.vy]; exact put_other _ _ (Ne.symm xy)
  · have := h.ps; simp [Sto.put]; omega
theorem Knows.putY (h : Knows σ sx sy vx vy n) (l : List UInt8) (hl : l.length ≤ 1099511627776) : Knows (σ.put yName l) sx (some l) vx (vy ++ [l]) (n + 1) := by
  have k := h.setY (some l) hl
  refine ⟨k.sx, k.sy, ?_, ?_, k.cs, ?_, k.short⟩
  · rw [← h.vx]; exact put_other _ _ xy
  · rw [← h.vy]; exact put_same _ _ _
  · have := h.ps; simp [Sto.put]; omega
end

theorem knows0 : Knows sto0 none none [] [] 0 := ⟨rfl, rfl, rfl, rfl, rfl, Nat.le_refl _, short0⟩

/-- A store made since w0 of which so much is known. -/
def Has (w0 w : World) (b : Nat) (sx sy : Option (List UInt8)) (vx vy : List (List UInt8)) (n : Nat) : Prop := ∃ σ x, Own w0 w b σ x ∧ Knows σ sx sy vx vy n

theorem Has.mod {w0 w : World} {b : Nat} {sx sy : Option (List UInt8)} {vx vy : List (List UInt8)} {n : Nat} (h : Has w0 w b sx sy vx vy n) : Mod w0 w Nob := by
  obtain ⟨σ, x, h, _⟩ := h
  exact h.mod
theorem Has.still {w0 w w' : World} {b : Nat} {sx sy : Option (List UInt8)} {vx vy : List (List UInt8)} {n : Nat} (h : Has w0 w b sx sy vx vy n) (hm : Mod w w' Nob) : Has w0 w' b sx sy vx vy n := by
  obtain ⟨σ, x, h, k⟩ := h
  exact ⟨σ, x, h.still hm, k⟩

def Turned (w0 : World) (b : Nat) (v : Value) (sx sy : Option (List UInt8)) (vx vy : List (List UInt8)) (n : Nat) (e : Ending) (w' : World) : Prop := e = .returned v ∧ Has w0 w' b sx sy vx vy n

section
variable {w0 w : World} {b : Nat} {sx sy : Option (List UInt8)} {vx vy : List (List UInt8)} {n : Nat}

theorem putX_has (h : Has w0 w b sx sy vx vy n) (hn : n < 1000) (hx : vx.length < 1000) (v : Value) (l : List UInt8) (hv : BytesAt w v l) (hl : l.length ≤ 300) :
    Calls Try.prog 9 #[.pointer (some ⟨b, 0, none⟩), .string ⟨#[120]⟩, v] w (Turned w0 b (.tuple #[]) (some l) sy (vx ++ [l]) vy (n + 1)) := by
  obtain ⟨σ, x, h, k⟩ := h
  refine (put_any b σ x xName v l w h.at_ hv (by omega) (by have := k.cs; omega) (by have := k.ps; omega) (by rw [k.vx]; omega)).mono fun e w' hd => ?_
  obtain ⟨x', he, h'⟩ := h.step hd
  exact ⟨he, _, x', h', k.putX l (by omega)⟩
theorem putY_has (h : Has w0 w b sx sy vx vy n) (hn : n < 1000) (hx : vy.length < 1000) (v : Value) (l : List UInt8) (hv : BytesAt w v l) (hl : l.length ≤ 300) :
    Calls Try.prog 9 #[.pointer (some ⟨b, 0, none⟩), .string ⟨#[121]⟩, v] w (Turned w0 b (.tuple #[]) sx (some l) vx (vy ++ [l]) (n + 1)) := by
  obtain ⟨σ, x, h, k⟩ := h
  refine (put_any b σ x yName v l w h.at_ hv (by omega) (by have := k.cs; omega) (by have := k.ps; omega) (by rw [k.vy]; omega)).mono fun e w' hd => ?_
  obtain ⟨x', he, h'⟩ := h.step hd
  exact ⟨he, _, x', h', k.putY l (by omega)⟩

theorem swapXY_has {l m : List UInt8} (h : Has w0 w b (some l) (some m) vx vy n) (hn : n < 1000) (hl : l.length ≤ 300) (hm : m.length ≤ 300) :
    Calls Try.prog 10 #[.pointer (some ⟨b, 0, none⟩), .string ⟨#[120]⟩, .string ⟨#[121]⟩] w (Turned w0 b (.bool true) (some m) (some l) vx vy (n + 2)) := by
  obtain ⟨σ, x, h, k⟩ := h
  refine (swap_yes b σ x xName yName l m w h.at_ k.sx k.sy (by have := k.cs; omega)).mono fun e w' hd => ?_
  obtain ⟨x', he, h'⟩ := h.step hd
  exact ⟨he, _, x', h', (k.setX (some m) (by simp; omega)).setY (some l) (by simp; omega)⟩
theorem swapYX_has {l m : List UInt8} (h : Has w0 w b (some l) (some m) vx vy n) (hn : n < 1000) (hl : l.length ≤ 300) (hm : m.length ≤ 300) :
    Calls Try.prog 10 #[.pointer (some ⟨b, 0, none⟩), .string ⟨#[121]⟩, .string ⟨#[120]⟩] w (Turned w0 b (.bool true) (some m) (some l) vx vy (n + 2)) := by
  obtain ⟨σ, x, h, k⟩ := h
  refine (swap_yes b σ x yName xName m l w h.at_ k.sy k.sx (by have := k.cs; omega)).mono fun e w' hd => ?_
  obtain ⟨x', he, h'⟩ := h.step hd
  exact ⟨he, _, x', h', (k.setY (some l) (by simp; omega)).setX (some m) (by simp; omega)⟩

theorem flipX_has {l : List UInt8} (h : Has w0 w b (some l) sy vx vy n) (hn : n < 1000) (hl : l.length ≤ 300) (k : Nat) (hk : k < 8 * l.length) :
    Calls Try.prog 11 #[.pointer (some ⟨b, 0, none⟩), .string ⟨#[120]⟩, .int .i64 k] w (Turned w0 b (.bool true) (some (flipped l k)) sy vx vy (n + 1)) := by
  obtain ⟨σ, x, h, kn⟩ := h
  refine (flip_yes b σ x xName k l w h.at_ kn.sx (by omega) (by omega) (by have := kn.cs; omega)).mono fun e w' hd => ?_
  obtain ⟨x', he, h'⟩ := h.step hd
  exact ⟨he, _, x', h', kn.setX (some (flipped l k)) (by simp [flipped]; omega)⟩

theorem deleteX_has {l : List UInt8} (h : Has w0 w b (some l) sy vx vy n) (hn : n < 1000) :
    Calls Try.prog 12 #[.pointer (some ⟨b, 0, none⟩), .string ⟨#[120]⟩] w (Turned w0 b (.bool true) none sy vx vy (n + 1)) := by
  obtain ⟨σ, x, h, k⟩ := h
  refine (delete_yes b σ x xName l w h.at_ k.sx (by have := k.cs; omega)).mono fun e w' hd => ?_
  obtain ⟨x', he, h'⟩ := h.step hd
  exact ⟨he, _, x', h', k.setX none (by simp)⟩

theorem replayX_has {l : List UInt8} (h : Has w0 w b sx sy vx vy n) (hn : n < 1000) (i : Nat) (hi : vx[i]? = some l) (hl : l.length ≤ 300) :
    Calls Try.prog 14 #[.pointer (some ⟨b, 0, none⟩), .string ⟨#[120]⟩, .int .i64 i] w (Turned w0 b (.bool true) (some l) sy vx vy (n + 1)) := by
  obtain ⟨σ, x, h, k⟩ := h
  refine (replay_yes b σ x xName i l w h.at_ (by rw [k.vx]; exact hi) (by have := k.cs; omega)).mono fun e w' hd => ?_
  obtain ⟨x', he, h'⟩ := h.step hd
  exact ⟨he, _, x', h', k.setX (some l) (by simp; omega)⟩
theorem replayX_no (h : Has w0 w b sx sy vx vy n) (i : Nat) (hi : vx.length ≤ i) :
    Calls Try.prog 14 #[.pointer (some ⟨b, 0, none⟩), .string ⟨#[120]⟩, .int .i64 i] w (Turned w0 b (.bool false) sx sy vx vy n) := by
  obtain ⟨σ, x, h, k⟩ := h
  refine (replay_no b σ x xName i w h.at_ (.inr (by rw [k.vx]; omega))).mono fun e w' hd => ?_
  obtain ⟨x', he, h'⟩ := h.step hd
  exact ⟨he, _, x', h', k⟩
theorem versionsX_has (h : Has w0 w b sx sy vx vy n) :
    Calls Try.prog 15 #[.pointer (some ⟨b, 0, none⟩), .string ⟨#[120]⟩] w (Turned w0 b (.int .i64 (vx.length : Int)) sx sy vx vy n) := by
  obtain ⟨σ, x, h, k⟩ := h
  refine (versions_any b σ x xName w h.at_).mono fun e w' hd => ?_
  obtain ⟨he, rfl⟩ := hd
  exact ⟨by rw [he, k.vx], σ, x, h, k⟩

/-- What Get answers. -/
def Shown (w0 w : World) (b : Nat) (o : Option (List UInt8)) (sx sy : Option (List UInt8)) (vx vy : List (List UInt8)) (n : Nat) (e : Ending) (w' : World) : Prop :=
  ∃ v', e = .returned (.tuple #[v', .bool o.isSome]) ∧ BytesAt w' v' (o.getD []) ∧ Mod w w' Nob ∧ Has w0 w' b sx sy vx vy n

theorem getX_has (h : Has w0 w b sx sy vx vy n) : Calls Try.prog 13 #[.pointer (some ⟨b, 0, none⟩), .string ⟨#[120]⟩] w (Shown w0 w b sx sx sy vx vy n) := by
  obtain ⟨σ, x, h, k⟩ := h
  have hg := get_any b σ x xName w h.at_ k.short
  rw [k.sx] at hg
  refine hg.mono fun e w' hd => ?_
  obtain ⟨v', he, hown, hm⟩ := hd
  exact ⟨v', he, BytesAt.of_owns hown, hm, σ, x, h.still hm, k⟩
theorem getY_has (h : Has w0 w b sx sy vx vy n) : Calls Try.prog 13 #[.pointer (some ⟨b, 0, none⟩), .string ⟨#[121]⟩] w (Shown w0 w b sy sx sy vx vy n) := by
  obtain ⟨σ, x, h, k⟩ := h
  have hg := get_any b σ x yName w h.at_ k.short
  rw [k.sy] at hg
  refine hg.mono fun e w' hd => ?_
  obtain ⟨v', he, hown, hm⟩ := hd
  exact ⟨v', he, BytesAt.of_owns hown, hm, σ, x, h.still hm, k⟩
end

theorem flipped_twice (l : List UInt8) (k : Nat) : flipped (flipped l k) k = l := by
  unfold flipped
  by_cases h : k / 8 < l.length
  · rw [List.set_set]
    apply List.ext_getElem?
    intro i
    rw [List.getElem?_set]
    by_cases hi : k / 8 = i
    · subst hi
      simp [h, List.getD, UInt8.xor_assoc]
    · simp [hi]
  · have h1 : ∀ v, l.set (k / 8) v = l := fun v => List.set_eq_of_length_le (by omega)
    simp [h1]

/-- Bytes that came in. -/
theorem bytes_in {w : World} {a : Option Addr} {len cap : Nat} (h : Rowed w [.int .u8] a len cap) : ∃ l : List UInt8, l.length = len ∧ BytesAt w (.slice a len cap) l := by
  obtain ⟨h1, h2, h3, h4⟩ := h
  have hc : cap ≤ maxLen := by unfold maxLen; omega
  by_cases h0 : len = 0
  · subst h0
    cases a with
    | none => rw [h3 rfl]; exact ⟨[], rfl, BytesAt.nil w⟩
    | some ad => exact ⟨[], rfl, .inr ⟨rfl, ad, cap, rfl, hc⟩⟩
  · obtain ⟨b, o, rfl, hb, hx⟩ := h4.resolve_left h0
    have h7 : ∀ i, i < len → ∃ z : UInt8, w.cell? ⟨b, o + i, none⟩ = some (B z) := by
      intro i hi
      obtain ⟨cs, hok, hc⟩ := hx i hi
      cases hok with
      | cons hv ht =>
        obtain ⟨z, rfl, hz⟩ := hv
        have h8 := hc 0 _ rfl
        have h9 := bounds_u8 hz
        refine ⟨UInt8.ofNat z.toNat, ?_⟩
        have h10 : B (UInt8.ofNat z.toNat) = .int .u8 z := by
          unfold B
          congr 1
          simp only [UInt8.toNat_ofNat']
          omega
        rw [h10]
        simpa using h8
    obtain ⟨z, hz⟩ := Go.Deep.choose_lt h7
    refine ⟨(List.range len).map z, by simp, .inl (.inr ⟨b, o, cap, by simp, hb, by simpa using h1, hc, fun i x hi => ?_⟩)⟩
    have hi2 : i < len := by
      have := (List.getElem?_eq_some_iff.1 hi).1
      simpa using this
    rw [hz i hi2]
    simpa [hi2] using hi

theorem bit_of (n : Int) (na : Nat) (h0 : 0 < na) (h1 : na ≤ 300) : ∃ k : Nat, wrap64 ((IntKind.u64.wrap n).tmod (8 * (na : Int))) = (k : Int) ∧ k < 8 * na := by
  have h2 : 0 ≤ IntKind.u64.wrap n := by unfold IntKind.wrap; simp [IntKind.signed, IntKind.bits]; omega
  have h3 : 0 ≤ (IntKind.u64.wrap n).tmod (8 * (na : Int)) := Int.tmod_nonneg _ h2
  have h4 : (IntKind.u64.wrap n).tmod (8 * (na : Int)) < 8 * (na : Int) := Int.tmod_lt_of_pos _ (by omega)
  obtain ⟨m, hm⟩ : ∃ m, (IntKind.u64.wrap n).tmod (8 * (na : Int)) = m := ⟨_, rfl⟩
  rw [hm] at h3 h4 ⊢
  refine ⟨m.toNat, ?_, by omega⟩
  unfold wrap64
  omega

set_option maxRecDepth 100000 in
set_option maxHeartbeats 4000000 in
theorem undo_bytes (va vb : Value) (la lb : List UInt8) (n : Int) (w : World) (ha : BytesAt w va la) (hb : BytesAt w vb lb) (_ : (Lit.int .i64 n).wf = true) :
    Calls Try.prog 3 #[va, vb, .int .i64 n] w (YesN w) := by
  obtain ⟨aa, ca, hfa, _, hcn⟩ := ha.form
  obtain ⟨ab, cb, hfb, _, hcb⟩ := hb.form
  rw [List.length_map] at hfa hfb
  subst hfa; subst hfb
  obtain ⟨na, hna⟩ : ∃ na, la.length = na := ⟨_, rfl⟩
  obtain ⟨nb, hnb⟩ : ∃ nb, lb.length = nb := ⟨_, rfl⟩
  rw [hna] at ha ⊢
  rw [hnb] at hb ⊢
  have HA := Lib.hid hna
  have HB := Lib.hid hnb
  clear hna hnb hcn hcb
  go_enter Try.func3, Try.ntmps3
  go_wp2_with fail
  refine (new_any w).mono ?_
  rintro e w1 h0
  obtain ⟨b, x, rfl, h1⟩ := Own.new h0
  have h2 : Has w w1 b none none [] [] 0 := ⟨_, _, h1, knows0⟩
  clear h0 h1
  go_wp2_with fail
  refine (awake_store w1).mono ?_
  rintro e w2 ⟨rfl, hm2⟩
  replace h2 := h2.still hm2
  clear hm2
  go_wp2_with fail
  all_goals try (
    go_at_call 8
    refine (awake_store w2).mono ?_
    rintro e w3 ⟨rfl, hm3⟩
    go_wp2_with fail
    go_ret
    exact ⟨rfl, h2.mod.trans hm3⟩)
  have h03 := ‹((((na : Int) == 0) = false ∧ (na : Int) ≤ 300) ∧ (nb : Int) ≤ 300)›
  have hn3 : 0 < na ∧ na ≤ 300 ∧ nb ≤ 300 := by have h05 := h03.1.2; have h06 := h03.2; have h07 := ‹¬ na = 0›; omega
  clear h03
  have hlb : lb.length ≤ 300 := by rw [HB.out]; omega
  have hla : la.length ≤ 300 := by rw [HA.out]; omega
  refine (putX_has h2 (by omega) (by simp) _ lb (hb.mod h2.mod (fun _ _ => nob)) hlb).mono ?_
  rintro e w3 ⟨rfl, h3⟩
  go_wp2_with fail
  refine (putX_has h3 (by omega) (by simp) _ la (ha.mod h3.mod (fun _ _ => nob)) hla).mono ?_
  rintro e w4 ⟨rfl, h4⟩
  clear h2 h3
  go_wp2_with fail
  refine (putY_has h4 (by omega) (by simp) _ lb (hb.mod h4.mod (fun _ _ => nob)) hlb).mono ?_
  rintro e w5 ⟨rfl, h5⟩
  clear h4
  simp only [List.nil_append, List.cons_append, Nat.zero_add, Nat.reduceAdd] at h5
  go_wp2_with fail
  obtain ⟨k, hk, hk8⟩ := bit_of n na hn3.1 hn3.2.1
  simp only [hk]
  clear hk
  have hkl : k < 8 * la.length := by rw [HA.out]; exact hk8
  refine (swapXY_has h5 (by omega) hla hlb).mono ?_
  rintro e w6 ⟨rfl, h6⟩
  clear h5
  go_wp2_with fail
  refine (swapYX_has h6 (by omega) hlb hla).mono ?_
  rintro e w7 ⟨rfl, h7⟩
  clear h6
  go_wp2_with fail
  refine (flipX_has h7 (by omega) hla k hkl).mono ?_
  rintro e w8 ⟨rfl, h8⟩
  clear h7
  go_wp2_with fail
  refine (flipX_has h8 (by omega) (by simp [flipped]; exact hla) k (by simp [flipped]; exact hkl)).mono ?_
  rintro e w9 ⟨rfl, h9⟩
  rw [flipped_twice] at h9
  clear h8
  go_wp2_with fail
  refine (deleteX_has h9 (by omega)).mono ?_
  rintro e w10 ⟨rfl, h10⟩
  clear h9
  go_wp2_with fail
  refine (getX_has h10).mono ?_
  rintro e w11 ⟨v11, rfl, _, _, h11⟩
  clear h10
  go_wp2_with fail
  refine (replayX_has h11 (by omega) 1 rfl hla).mono ?_
  rintro e w12 ⟨rfl, h12⟩
  clear h11
  go_wp2_with fail
  refine (replayX_no h12 2 (by simp)).mono ?_
  rintro e w13 ⟨rfl, h13⟩
  clear h12
  go_wp2_with fail
  refine (versionsX_has h13).mono ?_
  rintro e w14 ⟨rfl, h14⟩
  clear h13
  go_wp2_with fail
  refine (getX_has h14).mono ?_
  rintro e w15 ⟨v15, rfl, hb15, _, h15⟩
  clear h14
  go_wp2_with fail
  refine (getY_has h15).mono ?_
  rintro e w16 ⟨v16, rfl, hb16, hm16, h16⟩
  replace hb15 := hb15.mod hm16 (fun _ _ => nob)
  clear h15 hm16
  go_wp2_with fail
  refine (same_bytes v15 _ la la w16 hb15 (ha.mod h16.mod (fun _ _ => nob))).mono ?_
  rintro e w17 ⟨rfl, rfl⟩
  go_wp2_with fail
  refine (same_bytes v16 _ lb lb w16 hb16 (hb.mod h16.mod (fun _ _ => nob))).mono ?_
  rintro e w17 ⟨rfl, rfl⟩
  go_wp2_with fail
  go_ret
  exact ⟨rfl, h16.mod⟩

theorem undo_law (a0 : Option Addr) (len0 cap0 : Nat) (a1 : Option Addr) (len1 cap1 : Nat) (n : Int) (w : World) (h0 : Rowed w [.int .u8] a0 len0 cap0) (h1 : Rowed w [.int .u8] a1 len1 cap1) (h2 : (Lit.int .i64 n).wf = true) :
    Calls Try.prog 3 #[.slice a0 len0 cap0, .slice a1 len1 cap1, .int .i64 n] w (YesN w) := by
  obtain ⟨la, _, ha⟩ := bytes_in h0
  obtain ⟨lb, _, hb⟩ := bytes_in h1
  exact undo_bytes _ _ la lb n w ha hb h2

end Go.Proofs.Ytbpdmncobeiinaa
