/- A product of limbs: poly.times. No condition. -/
import Derived.Test.YtaeociedjdgdfaaGreatDoorDe
namespace Go.Proofs.YtaeociedjdgdfaaGreatDoor
open Go.RowKit

/-- Words as the cells of an array. -/
def arr64 (ws : List UInt64) : Array Value := (ws.map V64).toArray
theorem arr64_size (ws : List UInt64) : (arr64 ws).size = ws.length := by simp [arr64]
theorem arr64_at (x : List UInt64) (i : Nat) (hi : i < x.length) : (arr64 x)[i]? = some (V64 (x.getD i 0)) := by
  simp [arr64, List.getElem?_eq_getElem hi, List.getD_eq_getElem?_getD]
theorem arr64_put (x : List UInt64) (i : Nat) (v : UInt64) : (arr64 x).setIfInBounds i (V64 v) = arr64 (x.set i v) := by
  apply Array.toList_inj.1
  simp [arr64, List.map_set]

/-- One product of two limbs, added to a limb and to what is carried: the limb, and what is carried on. -/
def mulP (x y p carry : UInt64) : UInt64 := p + (x * y + carry)
def mulC (x y p carry : UInt64) : UInt64 := high64 x y + carry64 (x * y) carry 0 + carry64 p (x * y + carry) 0
/-- The limbs of a product on their way, and what is carried. -/
structure Prod where
  p : List UInt64
  c : UInt64
def Prod.step (s : Prod) (i : Nat) (x : UInt64) (r : List UInt64) (k : Nat) : Prod := ⟨s.p.set (i + k) (mulP x (r.getD k 0) (s.p.getD (i + k) 0) s.c), mulC x (r.getD k 0) (s.p.getD (i + k) 0) s.c⟩
def Prod.steps (p : List UInt64) (i : Nat) (x : UInt64) (r : List UInt64) : Nat → Prod
  | 0 => ⟨p, 0⟩
  | k + 1 => (Prod.steps p i x r k).step i x r k
/-- One limb times another number, added. -/
def limbP (p : List UInt64) (i : Nat) (x : UInt64) (r : List UInt64) : List UInt64 := (Prod.steps p i x r 2).p.set (i + 2) ((Prod.steps p i x r 2).p.getD (i + 2) 0 + (Prod.steps p i x r 2).c)
def limbsP (a r : List UInt64) : Nat → List UInt64
  | 0 => [0, 0, 0, 0, 0]
  | i + 1 => limbP (limbsP a r i) i (a.getD i 0) r
theorem Prod.steps_length (p : List UInt64) (i : Nat) (x : UInt64) (r : List UInt64) : ∀ k, (Prod.steps p i x r k).p.length = p.length
  | 0 => rfl
  | k + 1 => by simp [Prod.steps, Prod.step, Prod.steps_length p i x r k]
theorem limbP_length (p : List UInt64) (i : Nat) (x : UInt64) (r : List UInt64) : (limbP p i x r).length = p.length := by simp [limbP, Prod.steps_length]
theorem limbsP_length (a r : List UInt64) : ∀ i, (limbsP a r i).length = 5
  | 0 => rfl
  | i + 1 => by rw [limbsP, limbP_length, limbsP_length a r i]

/-- A word without its lowest two bits; words shifted. -/
def top62 (x : UInt64) : UInt64 := x &&& 18446744073709551612
def shr2 (x : UInt64) : UInt64 := UInt64.ofNat (x.toNat / 4)
def shl62 (x : UInt64) : UInt64 := x * 4611686018427387904
/-- A product, modulo 2^130 - 5, but for a few bits. -/
def foldP (p0 p1 p2 p3 p4 : UInt64) : N3 :=
  (N3.plus ⟨p0, p1, p2 &&& 3⟩ (top62 p2) p3 p4).plus (shr2 (top62 p2) ||| shl62 p3) (shr2 p3 ||| shl62 p4) (shr2 p4)
def N3.times (t : N3) (r0 r1 : UInt64) : N3 :=
  let p := limbsP [t.a, t.b, t.c] [r0, r1] 3
  foldP (p.getD 0 0) (p.getD 1 0) (p.getD 2 0) (p.getD 3 0) (p.getD 4 0)

theorem n64_andNot3 (x : UInt64) : bits BinOp.andNot IntKind.u64 (n64 x) 3 = n64 (top62 x) := by
  show IntKind.u64.wrap (((BitVec.ofInt 64 (x.toNat : Int)) &&& ~~~(BitVec.ofInt 64 3)).toNat : Int) = _
  rw [ofInt_u64, wrap_u64_toNat]
  rfl
theorem n64_shr2 (x : UInt64) : n64 x / 4 = n64 (shr2 x) := by
  unfold n64 shr2
  have h := x.toNat_lt
  rw [UInt64.toNat_ofNat_of_lt' (by show _ < 18446744073709551616; omega)]
  simp
theorem n64_shl62 (x : UInt64) : IntKind.u64.wrap (n64 x * 4611686018427387904) = n64 (shl62 x) := mul_u64 x 4611686018427387904

theorem zeros5 : #[.int .u64 0, .int .u64 0, .int .u64 0, .int .u64 0, .int .u64 0] = arr64 [0, 0, 0, 0, 0] := by kernel_rfl

set_option maxRecDepth 100000 in
set_option maxHeartbeats 2000000 in
theorem times_any (t : N3) (r0 r1 : UInt64) (w : World) :
    Calls Tryz.prog 155 #[.agg t.cells, .agg #[V64 r0, V64 r1]] w fun e w' => e = .returned (.agg (t.times r0 r1).cells) ∧ Mod w w' Nob := by
  obtain ⟨ta, tb, tc⟩ := t
  unfold N3.cells
  go_enter Tryz.func155, Tryz.ntmps155
  go_wp2_with fail
  go_step3
  go_wp2_with fail
  go_step3
  go_wp2_with fail
  rw [zeros5]
  have cA := ((CellsAt.new w #[V64 ta, V64 tb, V64 tc] 208).alloc (.cells #[V64 r0, V64 r1] 206)).alloc (.cells #[.int .u64 0, .int .u64 0, .int .u64 0] 208) |>.alloc (.cells (arr64 [0, 0, 0, 0, 0]) 222)
  have cR := ((CellsAt.new (w.alloc (.cells #[V64 ta, V64 tb, V64 tc] 208)) #[V64 r0, V64 r1] 206).alloc (.cells #[.int .u64 0, .int .u64 0, .int .u64 0] 208)).alloc (.cells (arr64 [0, 0, 0, 0, 0]) 222)
  have cO := (CellsAt.new ((w.alloc (.cells #[V64 ta, V64 tb, V64 tc] 208)).alloc (.cells #[V64 r0, V64 r1] 206)) #[.int .u64 0, .int .u64 0, .int .u64 0] 208).alloc (.cells (arr64 [0, 0, 0, 0, 0]) 222)
  have cP := CellsAt.new (((w.alloc (.cells #[V64 ta, V64 tb, V64 tc] 208)).alloc (.cells #[V64 r0, V64 r1] 206)).alloc (.cells #[.int .u64 0, .int .u64 0, .int .u64 0] 208)) (arr64 [0, 0, 0, 0, 0]) 222
  have m0 := ((((Mod.refl w Nob).alloc (.cells #[V64 ta, V64 tb, V64 tc] 208)).alloc (.cells #[V64 r0, V64 r1] 206)).alloc (.cells #[.int .u64 0, .int .u64 0, .int .u64 0] 208)).alloc (.cells (arr64 [0, 0, 0, 0, 0]) 222)
  simp only [World.size_alloc] at cR cO cP
  obtain ⟨W1, hW1⟩ : ∃ W1, (((w.alloc (.cells #[V64 ta, V64 tb, V64 tc] 208)).alloc (.cells #[V64 r0, V64 r1] 206)).alloc (.cells #[.int .u64 0, .int .u64 0, .int .u64 0] 208)).alloc (.cells (arr64 [0, 0, 0, 0, 0]) 222) = W1 := ⟨_, rfl⟩
  rw [hW1] at cA cR cO cP m0 ⊢
  obtain ⟨H, hH⟩ : ∃ H, w.heap.size = H := ⟨_, rfl⟩
  rw [hH] at cA cR cO cP ⊢
  have HH := Lib.hid hH
  clear hW1 hH
  have hix : ∀ (i : Nat), i < 3 → ∀ w, (Instr.index 208 (.agg #[V64 ta, V64 tb, V64 tc]) (.int .i64 (i : Int))).run Tryz.prog w = .ok (V64 ([ta, tb, tc].getD i 0)) w := fun i hi w =>
    run_index_arr 208 29 3 #[V64 ta, V64 tb, V64 tc] .i64 i _ Tryz.underlying208 (fun w => by kernel_rfl) (fun w => by kernel_rfl) hi (arr64_at [ta, tb, tc] i hi) w
  have hiy : ∀ (i : Nat), i < 2 → ∀ w, (Instr.index 206 (.agg #[V64 r0, V64 r1]) (.int .i64 (i : Int))).run Tryz.prog w = .ok (V64 ([r0, r1].getD i 0)) w := fun i hi w =>
    run_index_arr 206 29 2 #[V64 r0, V64 r1] .i64 i _ Tryz.underlying206 (fun w => by kernel_rfl) (fun w => by kernel_rfl) hi (arr64_at [r0, r1] i hi) w
  have HIX := Box.mk hix
  have HIY := Box.mk hiy
  clear hix hiy
  go_wp2_with fail
  go_loopg [18] 2 (fun k t wr => ∃ i : Nat, i + k = 2 ∧ t = .int .i64 i ∧ CellsAt wr (H + 1 + 1 + 1) (arr64 (limbsP [ta, tb, tc] [r0, r1] i)) 222 ∧ CellsAt wr (H + 1) #[V64 r0, V64 r1] 206 ∧ CellsAt wr (H + 1 + 1) #[.int .u64 0, .int .u64 0, .int .u64 0] 208 ∧ Mod w wr Nob)
  case atStart => exact ⟨0, by omega, rfl, cP, cR, cO, m0⟩
  case round =>
    clear cA cR cO cP m0
    obtain ⟨gz, rfl⟩ : ∃ g : Nat, g = gk := ⟨_, rfl⟩
    obtain ⟨i, hi, rfl, cP, cR, cO, m0⟩ := hrel
    have hi3 : i < 3 := by omega
    have hxi := HIX.out i hi3
    obtain ⟨x, hx⟩ : ∃ x, [ta, tb, tc].getD i 0 = x := ⟨_, rfl⟩
    rw [hx] at hxi
    have HNX : Box (limbsP [ta, tb, tc] [r0, r1] (i + 1) = limbP (limbsP [ta, tb, tc] [r0, r1] i) i x [r0, r1]) := ⟨by rw [limbsP, hx]⟩
    have hpl := limbsP_length [ta, tb, tc] [r0, r1] i
    obtain ⟨p, hp⟩ : ∃ p, limbsP [ta, tb, tc] [r0, r1] i = p := ⟨_, rfl⟩
    rw [hp] at cP HNX hpl
    have HPL := Lib.hid hpl
    have HI := Lib.hid hi
    have r0c := cR.cell 0
    have r1c := cR.cell 1
    simp at r0c r1c
    have hd3 : decide ((i : Int) < 3) = true := by simp; omega
    clear hx hp hpl hi
    go_wp2_with fail
    obtain ⟨wo, rfl⟩ : ∃ wo : World, wo = wr := ⟨_, rfl⟩
    go_loopg [8, 23] 2 (fun g c t wr => ∃ k : Nat, k + g = 2 ∧ t = .int .i64 k ∧ c = V64 (Prod.steps p i x [r0, r1] k).c ∧ CellsAt wr (H + 1 + 1 + 1) (arr64 (Prod.steps p i x [r0, r1] k).p) 222 ∧ CellsAt wr (H + 1) #[V64 r0, V64 r1] 206 ∧ CellsAt wr (H + 1 + 1) #[.int .u64 0, .int .u64 0, .int .u64 0] 208 ∧ Mod w wr Nob)
    case atStart => exact ⟨0, by omega, rfl, rfl, cP, cR, cO, m0⟩
    case round =>
      clear cP cR cO m0 r0c r1c
      obtain ⟨k, hk, rfl, rfl, cP, cR, cO, m0⟩ := hrel
      have hsl : (Prod.steps p i x [r0, r1] k).p.length = 5 := by rw [Prod.steps_length, HPL.out]
      by_cases hk2 : k < 2
      · have hyi := HIY.out k hk2
        have HST : Box (Prod.steps p i x [r0, r1] (k + 1) = (Prod.steps p i x [r0, r1] k).step i x [r0, r1] k) := ⟨rfl⟩
        obtain ⟨y, hy⟩ : ∃ y, [r0, r1].getD k 0 = y := ⟨_, rfl⟩
        obtain ⟨st, hst⟩ : ∃ st, Prod.steps p i x [r0, r1] k = st := ⟨_, rfl⟩
        rw [hst] at cP HST hsl ⊢
        obtain ⟨q, c⟩ := st
        change q.length = 5 at hsl
        have kp := (cP.cell (i + k)).trans (arr64_at q (i + k) (by omega))
        have fp := cP.free (i + k)
        obtain ⟨v, hv⟩ : ∃ v, q.getD (i + k) 0 = v := ⟨_, rfl⟩
        rw [hv] at kp
        have HS2 : Box (Prod.steps p i x [r0, r1] (k + 1) = ⟨q.set (i + k) (mulP x y v c), mulC x y v c⟩) := ⟨by rw [HST.out]; show Prod.mk (q.set (i + k) (mulP x ([r0, r1].getD k 0) (q.getD (i + k) 0) c)) (mulC x ([r0, r1].getD k 0) (q.getD (i + k) 0) c) = _; rw [hy, hv]⟩
        rw [hy] at hyi
        have hm := mul64_words x y wr
        have h1 := add64_two (x * y) c
        have h2 := add64_two v (x * y + c)
        have h3 := n64_add (high64 x y) (carry64 (x * y) c 0)
        have h4 := n64_add (high64 x y + carry64 (x * y) c 0) (carry64 v (x * y + c) 0)
        have hP : v + (x * y + c) = mulP x y v c := rfl
        have hC : high64 x y + carry64 (x * y) c 0 + carry64 v (x * y + c) 0 = mulC x y v c := rfl
        rw [hP] at h2
        rw [hC] at h4
        obtain ⟨p2, hp2⟩ : ∃ p2, mulP x y v c = p2 := ⟨_, rfl⟩
        obtain ⟨c2, hc2⟩ : ∃ c2, mulC x y v c = c2 := ⟨_, rfl⟩
        rw [hp2] at h2 HS2
        rw [hc2] at h4 HS2
        obtain ⟨e1, he1⟩ : ∃ e, carry64 v (x * y + c) 0 = e := ⟨_, rfl⟩
        obtain ⟨e2, he2⟩ : ∃ e, carry64 (x * y) c 0 = e := ⟨_, rfl⟩
        obtain ⟨e3, he3⟩ : ∃ e, x * y + c = e := ⟨_, rfl⟩
        obtain ⟨e4, he4⟩ : ∃ e, x * y = e := ⟨_, rfl⟩
        obtain ⟨e5, he5⟩ : ∃ e, high64 x y = e := ⟨_, rfl⟩
        rw [he1, he3] at h2
        rw [he5, he2] at h3
        rw [he5, he2, he1] at h4
        rw [he3, he2, he4] at h1
        rw [he5, he4] at hm
        obtain ⟨e6, he6⟩ : ∃ e, e5 + e2 = e := ⟨_, rfl⟩
        rw [he6] at h3 h4
        have w1 : IntKind.i64.wrap ((i : Int) + (k : Int)) = (i : Int) + (k : Int) := IntWalk.i64_in _ (by omega)
        have t1 : ((i : Int) + (k : Int)).toNat = i + k := by omega
        have l1 : (i : Int) + (k : Int) < 5 := by omega
        have g1 : (0 : Int) ≤ (i : Int) + (k : Int) := by omega
        have hdk : decide ((k : Int) < 2) = true := by simp; omega
        have HK := Lib.hid hk
        clear hk hy hst HST hv hP hC hp2 hc2 he1 he2 he3 he4 he5 he6
        go_wp2_with fail
        refine hm.mono ?_
        rintro e wz ⟨rfl, rfl⟩
        clear hm
        go_wp2_with fail
        have cP2 := cP.set (i + k) (V64 p2)
        rw [arr64_put] at cP2
        have hm2 := (Mod.refl wz (· = H + 1 + 1 + 1)).setCell (p := ⟨H + 1 + 1 + 1, i + k, none⟩) (.inl rfl) (V64 p2)
        have HH2 := HH.out
        go_roundg (gk - 1)
        case measure => have := HK.out; omega
        case rel => exact ⟨k + 1, by have := HK.out; omega, by go_num, by rw [HS2.out], by rw [HS2.out]; exact cP2, cR.mod hm2 (by omega), cO.mod hm2 (by omega), m0.drop hm2 (fun z (hz : z = H + 1 + 1 + 1) => .inr (by omega))⟩
      · obtain rfl : k = 2 := by omega
        have HL2 : Box (limbP p i x [r0, r1] = (Prod.steps p i x [r0, r1] 2).p.set (i + 2) ((Prod.steps p i x [r0, r1] 2).p.getD (i + 2) 0 + (Prod.steps p i x [r0, r1] 2).c)) := ⟨rfl⟩
        obtain ⟨st, hst⟩ : ∃ st, Prod.steps p i x [r0, r1] 2 = st := ⟨_, rfl⟩
        rw [hst] at cP HL2 hsl ⊢
        obtain ⟨q, c⟩ := st
        change q.length = 5 at hsl
        have kp := (cP.cell (i + 2)).trans (arr64_at q (i + 2) (by omega))
        have fp := cP.free (i + 2)
        have HL3 : Box (limbP p i x [r0, r1] = q.set (i + 2) (q.getD (i + 2) 0 + c)) := ⟨HL2.out⟩
        obtain ⟨v, hv⟩ : ∃ v, q.getD (i + 2) 0 = v := ⟨_, rfl⟩
        rw [hv] at kp HL3
        have h1 := n64_add v c
        obtain ⟨z, hz⟩ : ∃ z, v + c = z := ⟨_, rfl⟩
        rw [hz] at h1 HL3
        have w1 : IntKind.i64.wrap ((i : Int) + 2) = (i : Int) + 2 := IntWalk.i64_in _ (by omega)
        have t1 : ((i : Int) + 2).toNat = i + 2 := by omega
        have l1 : (i : Int) + 2 < 5 := by omega
        have g1 : (0 : Int) ≤ (i : Int) + 2 := by omega
        have hdk : decide (((2 : Nat) : Int) < 2) = false := by decide
        have cP2 := cP.set (i + 2) (V64 z)
        rw [arr64_put, ← HL3.out, ← HNX.out] at cP2
        have cP0 := fun o => cP.cell o
        have HLM : Box (limbsP [ta, tb, tc] [r0, r1] (i + 1) = q.set (i + 2) z) := ⟨by rw [HNX.out, HL3.out]⟩
        have hm2 := (Mod.refl wr (· = H + 1 + 1 + 1)).setCell (p := ⟨H + 1 + 1 + 1, i + 2, none⟩) (.inl rfl) (V64 z)
        have HH2 := HH.out
        have cR2 := cR.mod hm2 (by omega)
        have cO2 := cO.mod hm2 (by omega)
        have m2 := m0.drop hm2 (fun z (hz : z = H + 1 + 1 + 1) => .inr (by omega))
        have hi2 := HI.out
        clear hst HL2 HL3 hv hz cP cR cO m0 hm2 HNX
        rw [show ((2 : Nat) : Int) = 2 from rfl]
        by_cases hlast : i = 2
        · subst hlast
          have hb : (((2 : Nat) : Int) == 2) = true := rfl
          obtain ⟨q0, q1, q2, q3, q4, rfl⟩ : ∃ q0 q1 q2 q3 q4, q = [q0, q1, q2, q3, q4] := by
            match q, hsl with
            | [q0, q1, q2, q3, q4], _ => exact ⟨q0, q1, q2, q3, q4, rfl⟩
          have hlim : limbsP [ta, tb, tc] [r0, r1] 3 = [q0, q1, q2, q3, z] := HLM.out
          have htimes : Box ((N3.mk ta tb tc).times r0 r1 = foldP q0 q1 q2 q3 z) := ⟨by unfold N3.times; rw [hlim]; rfl⟩
          have k0 := cP0 0
          have k1 := cP0 1
          have k2 := cP0 2
          have k3 := cP0 3
          simp [arr64] at k0 k1 k2 k3
          have kp4 : wr.cell? ⟨H + 1 + 1 + 1, 4, none⟩ = some (V64 v) := kp
          have fp4 : wr.frozen? ⟨H + 1 + 1 + 1, 4, none⟩ = false := fp
          have a1 : bits BinOp.and IntKind.u64 (n64 q2) 3 = n64 (q2 &&& 3) := n64_and q2 3
          have a2 := n64_andNot3 q2
          have a3 := n64_shr2 (top62 q2)
          have a4 := n64_shl62 q3
          have a5 := n64_or (shr2 (top62 q2)) (shl62 q3)
          have a6 := n64_shr2 q3
          have a7 := n64_shl62 z
          have a8 := n64_or (shr2 q3) (shl62 z)
          have a9 := n64_shr2 z
          have hfold : Box (foldP q0 q1 q2 q3 z = (N3.plus ⟨q0, q1, q2 &&& 3⟩ (top62 q2) q3 z).plus (shr2 (top62 q2) ||| shl62 q3) (shr2 q3 ||| shl62 z) (shr2 z)) := ⟨rfl⟩
          obtain ⟨o2, ho2⟩ : ∃ o, shr2 z = o := ⟨_, rfl⟩
          obtain ⟨b1, hb1⟩ : ∃ o, shl62 z = o := ⟨_, rfl⟩
          obtain ⟨b2, hb2⟩ : ∃ o, shr2 q3 = o := ⟨_, rfl⟩
          obtain ⟨b3, hb3⟩ : ∃ o, shl62 q3 = o := ⟨_, rfl⟩
          obtain ⟨t2, ht2⟩ : ∃ o, top62 q2 = o := ⟨_, rfl⟩
          rw [ht2] at a2 a3 a5 hfold
          obtain ⟨b4, hb4⟩ : ∃ o, shr2 t2 = o := ⟨_, rfl⟩
          obtain ⟨m2', hm2'⟩ : ∃ o, q2 &&& 3 = o := ⟨_, rfl⟩
          rw [hb4] at a3 a5 hfold
          rw [hb3] at a4 a5 hfold
          rw [hb2] at a6 a8 hfold
          rw [hb1] at a7 a8 hfold
          rw [ho2] at a9 hfold
          rw [hm2'] at a1 hfold
          obtain ⟨o0, ho0⟩ : ∃ o, b4 ||| b3 = o := ⟨_, rfl⟩
          obtain ⟨o1, ho1⟩ : ∃ o, b2 ||| b1 = o := ⟨_, rfl⟩
          rw [ho0] at a5 hfold
          rw [ho1] at a8 hfold
          clear HLM hlim kp fp cP0 ho2 hb1 hb2 hb3 ht2 hb4 hm2' ho0 ho1 cP2 cR2 w1 t1 l1 g1 hxi hsl hk hk2
          change Mod w (wr.setCell ⟨H + 1 + 1 + 1, 4, none⟩ (V64 z)) Nob at m2
          change CellsAt (wr.setCell ⟨H + 1 + 1 + 1, 4, none⟩ (V64 z)) _ _ _ at cO2
          have hlt3 : H + 1 + 1 + 1 < wr.heap.size := cell_lt k0
          have hlt2 : H + 1 + 1 < wr.heap.size := by omega
          go_wp2_with fail
          have cF := new_at (w := wr.setCell ⟨H + 1 + 1 + 1, 4, none⟩ (V64 z)) (cs := #[V64 q0, V64 q1, V64 m2']) (t := 208) (g := wr.heap.size) (by simp)
          have cT := new_at (w := (wr.setCell ⟨H + 1 + 1 + 1, 4, none⟩ (V64 z)).alloc (.cells #[V64 q0, V64 q1, V64 m2'] 208)) (cs := #[V64 t2, V64 q3, V64 z]) (t := 208) (g := wr.heap.size + 1) (by simp)
          have cU := new_at (w := ((wr.setCell ⟨H + 1 + 1 + 1, 4, none⟩ (V64 z)).alloc (.cells #[V64 q0, V64 q1, V64 m2'] 208)).alloc (.cells #[V64 t2, V64 q3, V64 z] 208)) (cs := #[V64 o0, V64 o1, V64 o2]) (t := 208) (g := wr.heap.size + 1 + 1) (by simp)
          have cF3 := (cF.alloc (.cells #[V64 t2, V64 q3, V64 z] 208)).alloc (.cells #[V64 o0, V64 o1, V64 o2] 208)
          have cT3 := cT.alloc (.cells #[V64 o0, V64 o1, V64 o2] 208)
          have cO3 := ((cO2.alloc (.cells #[V64 q0, V64 q1, V64 m2'] 208)).alloc (.cells #[V64 t2, V64 q3, V64 z] 208)).alloc (.cells #[V64 o0, V64 o1, V64 o2] 208)
          have m3 := ((m2.alloc (.cells #[V64 q0, V64 q1, V64 m2'] 208)).alloc (.cells #[V64 t2, V64 q3, V64 z] 208)).alloc (.cells #[V64 o0, V64 o1, V64 o2] 208)
          change Code.wp _ _ _ _ ((((wr.setCell ⟨H + 1 + 1 + 1, 4, none⟩ (V64 z)).alloc (.cells #[V64 q0, V64 q1, V64 m2'] 208)).alloc (.cells #[V64 t2, V64 q3, V64 z] 208)).alloc (.cells #[V64 o0, V64 o1, V64 o2] 208))
          obtain ⟨V, hV⟩ : ∃ V, (((wr.setCell ⟨H + 1 + 1 + 1, 4, none⟩ (V64 z)).alloc (.cells #[V64 q0, V64 q1, V64 m2'] 208)).alloc (.cells #[V64 t2, V64 q3, V64 z] 208)).alloc (.cells #[V64 o0, V64 o1, V64 o2] 208) = V := ⟨_, rfl⟩
          obtain ⟨G, hG⟩ : ∃ G, wr.heap.size = G := ⟨_, rfl⟩
          rw [hV] at cU cF3 cT3 cO3 m3 ⊢
          rw [hG] at cU cF3 cT3 ⊢
          clear hV hG cF cT cO2 m2 k0 k1 k2 k3 kp4 fp4 hlt2 hlt3 a1 a2 a3 a4 a5 a6 a7 a8 a9 h1
          have hp1 := plus_any ⟨q0, q1, m2'⟩ t2 q3 z V.drew
          obtain ⟨n1, hn1⟩ : ∃ n, (N3.mk q0 q1 m2').plus t2 q3 z = n := ⟨_, rfl⟩
          rw [hn1] at hp1 hfold
          change Calls _ _ #[.agg #[V64 q0, V64 q1, V64 m2'], _, _, _] _ _ at hp1
          have hp2 := fun W => plus_any n1 o0 o1 o2 W
          obtain ⟨n2, hn2⟩ : ∃ n, n1.plus o0 o1 o2 = n := ⟨_, rfl⟩
          have hp2 : ∀ W, Calls Tryz.prog 153 #[.agg n1.cells, V64 o0, V64 o1, V64 o2] W fun e w' => e = .returned (.agg n2.cells) ∧ Mod W w' Nob := fun W => by rw [← hn2]; exact plus_any n1 o0 o1 o2 W
          have HN2 : Box ((N3.mk ta tb tc).times r0 r1 = n2) := ⟨by rw [htimes.out, hfold.out, hn2]⟩
          clear htimes hfold hn1 hn2
          have hS0 : CellsAt V.drew G #[V64 q0, V64 q1, V64 m2'] 208 ∧ CellsAt V.drew (G + 1) #[V64 t2, V64 q3, V64 z] 208 ∧ CellsAt V.drew (G + 1 + 1) #[V64 o0, V64 o1, V64 o2] 208 := ⟨cF3, cT3, cU⟩
          refine wp_region_U (S := fun W => CellsAt W G #[V64 q0, V64 q1, V64 m2'] 208 ∧ CellsAt W (G + 1) #[V64 t2, V64 q3, V64 z] 208 ∧ CellsAt W (G + 1 + 1) #[V64 o0, V64 o1, V64 o2] 208) 15 (by kernel_rfl) ?_
          refine wpAnyU_take (i := 0) (v := .agg #[V64 q0, V64 q1, V64 m2']) rfl (by kernel_rfl) (by kernel_rfl) (by kernel_rfl) (by kernel_rfl) (by kernel_rfl) (fun _ _ _ h => h) (Or.inl ⟨by rfl, fun W hSw => by have x0 := hSw.1.cell 0; have x1 := hSw.1.cell 1; have x2 := hSw.1.cell 2; simp at x0 x1 x2; go_simp⟩) hS0 ?_
          try simp only [Act.put, List.getElem_toArray, List.getElem_cons_zero, List.setIfInBounds_toArray, List.set_cons_zero, List.set_cons_succ]
          refine wpAnyU_takeP (i := 1) (v := .pointer (some ⟨G + 1, 0, none⟩)) rfl (by kernel_rfl) (by kernel_rfl) (by kernel_rfl) (by decide) (fun _ _ _ h => h) (Or.inl ⟨by rfl, fun W => by go_simp⟩) (fun _ => hS0) ?_
          try simp only [Act.put, List.getElem_toArray, List.getElem_cons_zero, List.getElem_cons_succ, List.setIfInBounds_toArray, List.set_cons_zero, List.set_cons_succ]
          refine wpAnyU_take (i := 2) (v := V64 t2) rfl (by kernel_rfl) (by kernel_rfl) (by kernel_rfl) (by kernel_rfl) (by kernel_rfl) (fun _ _ _ h => h) (Or.inl ⟨by rfl, fun W hSw => by have x0 := hSw.2.1.cell 0; simp at x0; go_simp⟩) hS0 ?_
          try simp only [Act.put, List.getElem_toArray, List.getElem_cons_zero, List.getElem_cons_succ, List.setIfInBounds_toArray, List.set_cons_zero, List.set_cons_succ]
          refine wpAnyU_takeP (i := 3) (v := .pointer (some ⟨G + 1, 1, none⟩)) rfl (by kernel_rfl) (by kernel_rfl) (by kernel_rfl) (by decide) (fun _ _ _ h => h) (Or.inl ⟨by rfl, fun W => by go_simp⟩) (fun _ => hS0) ?_
          try simp only [Act.put, List.getElem_toArray, List.getElem_cons_zero, List.getElem_cons_succ, List.setIfInBounds_toArray, List.set_cons_zero, List.set_cons_succ]
          refine wpAnyU_take (i := 4) (v := V64 q3) rfl (by kernel_rfl) (by kernel_rfl) (by kernel_rfl) (by kernel_rfl) (by kernel_rfl) (fun _ _ _ h => h) (Or.inl ⟨by rfl, fun W hSw => by have x1 := hSw.2.1.cell 1; simp at x1; go_simp⟩) hS0 ?_
          try simp only [Act.put, List.getElem_toArray, List.getElem_cons_zero, List.getElem_cons_succ, List.setIfInBounds_toArray, List.set_cons_zero, List.set_cons_succ]
          refine wpAnyU_takeP (i := 5) (v := .pointer (some ⟨G + 1, 2, none⟩)) rfl (by kernel_rfl) (by kernel_rfl) (by kernel_rfl) (by decide) (fun _ _ _ h => h) (Or.inl ⟨by rfl, fun W => by go_simp⟩) (fun _ => hS0) ?_
          try simp only [Act.put, List.getElem_toArray, List.getElem_cons_zero, List.getElem_cons_succ, List.setIfInBounds_toArray, List.set_cons_zero, List.set_cons_succ]
          refine wpAnyU_take (i := 6) (v := V64 z) rfl (by kernel_rfl) (by kernel_rfl) (by kernel_rfl) (by kernel_rfl) (by kernel_rfl) (fun _ _ _ h => h) (Or.inl ⟨by rfl, fun W hSw => by have x2 := hSw.2.1.cell 2; simp at x2; go_simp⟩) hS0 ?_
          try simp only [Act.put, List.getElem_toArray, List.getElem_cons_zero, List.getElem_cons_succ, List.setIfInBounds_toArray, List.set_cons_zero, List.set_cons_succ]
          refine wpAnyU_takeP (i := 8) (v := .pointer (some ⟨G + 1 + 1, 0, none⟩)) rfl (by kernel_rfl) (by kernel_rfl) (by kernel_rfl) (by decide) (fun _ _ _ h => h) (Or.inl ⟨by rfl, fun W => by go_simp⟩) (fun _ => hS0) ?_
          try simp only [Act.put, List.getElem_toArray, List.getElem_cons_zero, List.getElem_cons_succ, List.setIfInBounds_toArray, List.set_cons_zero, List.set_cons_succ]
          refine wpAnyU_take (i := 9) (v := V64 o0) rfl (by kernel_rfl) (by kernel_rfl) (by kernel_rfl) (by kernel_rfl) (by kernel_rfl) (fun _ _ _ h => h) (Or.inl ⟨by rfl, fun W hSw => by have x0 := hSw.2.2.cell 0; simp at x0; go_simp⟩) hS0 ?_
          try simp only [Act.put, List.getElem_toArray, List.getElem_cons_zero, List.getElem_cons_succ, List.setIfInBounds_toArray, List.set_cons_zero, List.set_cons_succ]
          refine wpAnyU_takeP (i := 10) (v := .pointer (some ⟨G + 1 + 1, 1, none⟩)) rfl (by kernel_rfl) (by kernel_rfl) (by kernel_rfl) (by decide) (fun _ _ _ h => h) (Or.inl ⟨by rfl, fun W => by go_simp⟩) (fun _ => hS0) ?_
          try simp only [Act.put, List.getElem_toArray, List.getElem_cons_zero, List.getElem_cons_succ, List.setIfInBounds_toArray, List.set_cons_zero, List.set_cons_succ]
          refine wpAnyU_take (i := 11) (v := V64 o1) rfl (by kernel_rfl) (by kernel_rfl) (by kernel_rfl) (by kernel_rfl) (by kernel_rfl) (fun _ _ _ h => h) (Or.inl ⟨by rfl, fun W hSw => by have x1 := hSw.2.2.cell 1; simp at x1; go_simp⟩) hS0 ?_
          try simp only [Act.put, List.getElem_toArray, List.getElem_cons_zero, List.getElem_cons_succ, List.setIfInBounds_toArray, List.set_cons_zero, List.set_cons_succ]
          refine wpAnyU_takeP (i := 12) (v := .pointer (some ⟨G + 1 + 1, 2, none⟩)) rfl (by kernel_rfl) (by kernel_rfl) (by kernel_rfl) (by decide) (fun _ _ _ h => h) (Or.inl ⟨by rfl, fun W => by go_simp⟩) (fun _ => hS0) ?_
          try simp only [Act.put, List.getElem_toArray, List.getElem_cons_zero, List.getElem_cons_succ, List.setIfInBounds_toArray, List.set_cons_zero, List.set_cons_succ]
          refine wpAnyU_take (i := 13) (v := V64 o2) rfl (by kernel_rfl) (by kernel_rfl) (by kernel_rfl) (by kernel_rfl) (by kernel_rfl) (fun _ _ _ h => h) (Or.inl ⟨by rfl, fun W hSw => by have x2 := hSw.2.2.cell 2; simp at x2; go_simp⟩) hS0 ?_
          try simp only [Act.put, List.getElem_toArray, List.getElem_cons_zero, List.getElem_cons_succ, List.setIfInBounds_toArray, List.set_cons_zero, List.set_cons_succ]
          refine wpAnyU_one 7 _ (by kernel_rfl) rfl (fun K hK => ?_)
          go_simp
          refine hp1.mono ?_
          rintro e V1 ⟨rfl, m4⟩
          go_wp2_with fail
          refine hK.out _ _ (fun _ => ⟨hS0.1.mod m4 nob, hS0.2.1.mod m4 nob, hS0.2.2.mod m4 nob⟩) ?_
          clear hK K hp1
          try simp only [Act.put, List.getElem_toArray, List.getElem_cons_zero, List.getElem_cons_succ, List.setIfInBounds_toArray, List.set_cons_zero, List.set_cons_succ]
          refine wpAnyU_one 14 _ (by kernel_rfl) rfl (fun K hK => ?_)
          go_simp
          refine (hp2 V1).mono ?_
          rintro e V2 ⟨rfl, m5⟩
          go_wp2_with fail
          refine hK.out _ _ (fun _ => ⟨(hS0.1.mod m4 nob).mod m5 nob, (hS0.2.1.mod m4 nob).mod m5 nob, (hS0.2.2.mod m4 nob).mod m5 nob⟩) ?_
          clear hK K hp2
          try simp only [Act.put, List.getElem_toArray, List.getElem_cons_zero, List.getElem_cons_succ, List.setIfInBounds_toArray, List.set_cons_zero, List.set_cons_succ]
          have cO4 := ((cO3.mod ((Mod.refl V Nob).drew) nob).mod m4 nob).mod m5 nob
          have m6 := (m3.drew.trans m4).trans m5
          clear cO3 m3 m4 m5 hS0 cU cF3 cT3
          refine wpAnyU_last (by kernel_rfl) (by simp) ?_
          refine wpAny_tail _ 15 _ _ _ (by kernel_rfl) ?_
          simp only [List.drop_succ_cons, List.drop_zero]
          go_wp2_with (refine wpList_store_arr rfl 208 _ _ rfl (H + 1 + 1) 3 n2.cells #[.int .u64 0, .int .u64 0, .int .u64 0] rfl rfl cO4 (by kernel_rfl) rfl rfl (by simp [N3.cells, Value.oneCell']) ?_)
          rw [Exit.noGoto_ret]
          go_wp2_with fail
          rw [HN2.out]
          exact bodyPost_ret (v := .agg n2.cells) (ret_arr rfl _ _ (H + 1 + 1) 3 29 _ rfl (cO4.setRow _) Tryz.underlying208 (by kernel_rfl) rfl) rfl ⟨rfl, m6.setRow (.inr (by omega)) _⟩
        · have hb : ((i : Int) == 2) = false := by simp; omega
          go_wp2_with fail
          go_roundg (gz - 1)
          case measure => omega
          case rel => exact ⟨i + 1, by omega, by go_num, cP2, cR2, cO2, m2⟩

end Go.Proofs.YtaeociedjdgdfaaGreatDoor
