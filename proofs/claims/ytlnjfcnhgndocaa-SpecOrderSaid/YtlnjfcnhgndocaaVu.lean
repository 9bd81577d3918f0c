/- What a job is to tell (spec.Run). No condition. -/
import Derived.Sort.CutIn
import Derived.Test.YtlnjfcnhgndocaaVj
import Derived.Test.YtlnjfcnhgndocaaVl
import Derived.Test.YtlnjfcnhgndocaaVt
import Derived.Test.YtlnjfcnhgndocaaBs
import Derived.Test.YtlnjfcnhgndocaaBn
namespace Go.Proofs.Ytlnjfcnhgndocaa
open Go.RowKit Go.Shelf
attribute [local go_sem] Oper.semAt_some

theorem info_i64 : (Try.prog.info? 2).map (fun i => (i.zero, i.size, i.bytes)) = some (some (.int .i64 0), 1, 8) := by kernel_rfl

theorem info_pair : (Try.prog.info? 36).map (fun i => (i.zero, i.size, i.bytes)) = some (some (.agg #[.int .i64 0, .int .i64 0]), 2, 16) := by kernel_rfl

def flatP (l : List (W64 × W64)) : List Value := (l.map fun p => [I p.1, I p.2]).flatten

/-- What there is so far, in memory: the map, the keys, the program. -/
structure SoFar (Z : Nat → Prop) (w : World) (M : Nat) (K : Nat) (a1 : Option Addr) (l1 c1 : Nat) (a2 : Option Addr) (l2 c2 : Nat) (a3 : Option Addr) (l3 c3 : Nat) (W : World) (t : Tal) : Prop where
  so : CellsAt W (M + 1) #[.map (some M)] 34
  ks : ∃ sv, CellsAt W (M + 1 + 1) #[sv] 49 ∧ W.ownsRow 0 2 1 sv t.keys.length (t.keys.map I) ∧ ∀ j, inBlock sv j → M + 1 + 1 < j ∧ ¬ Z j
  mp : MapAt encI W M (fun k => (t.f k).map I)
  pr : CellsAt W w.heap.size #[.int .i64 K, .slice a1 l1 c1, .slice a2 l2 c2, .slice a3 l3 c3] 30
  md : Mod w W Nob

theorem SoFar.kept {Z : Nat → Prop} {w : World} {M : Nat} {K : Nat} {a1 : Option Addr} {l1 c1 : Nat} {a2 : Option Addr} {l2 c2 : Nat} {a3 : Option Addr} {l3 c3 : Nat} {W W' : World} {t : Tal} (h : SoFar Z w M K a1 l1 c1 a2 l2 c2 a3 l3 c3 W t) {row : Option Nat} (hg : W.grownBy W' row)
    (hr : ∀ r, row = some r → M + 4 ≤ r ∧ ∃ o : Obj, W.heap[r]? = some o ∧ o.isCells = false) (hM : w.heap.size ≤ M + 4) : SoFar Z w M K a1 l1 c1 a2 l2 c2 a3 l3 c3 W' t := by
  obtain ⟨sv, k1, k2, k3⟩ := h.ks
  exact ⟨h.so.kept hg (fun r e => (hr r e).2), ⟨sv, k1.kept hg (fun r e => (hr r e).2), owns_kept k2 hg (fun r e => (hr r e).2), k3⟩,
    h.mp.mod ((Mod.refl W (M + 4 ≤ ·)).grown hg (fun k e => .inl (hr k e).1)) (by omega), h.pr.kept hg (fun r e => (hr r e).2), h.md.grown hg (fun k e => .inr (Nat.le_trans hM (hr k e).1))⟩

theorem SoFar.free {Z : Nat → Prop} {w : World} {M : Nat} {K : Nat} {a1 : Option Addr} {l1 c1 : Nat} {a2 : Option Addr} {l2 c2 : Nat} {a3 : Option Addr} {l3 c3 : Nat} {W : World} {t : Tal} (h : SoFar Z w M K a1 l1 c1 a2 l2 c2 a3 l3 c3 W t) : SoFar Nob w M K a1 l1 c1 a2 l2 c2 a3 l3 c3 W t := by
  obtain ⟨sv, k1, k2, k3⟩ := h.ks
  exact ⟨h.so, ⟨sv, k1, k2, fun j hj => ⟨(k3 j hj).1, nob⟩⟩, h.mp, h.pr, h.md⟩

theorem SoFar.mod {Z : Nat → Prop} {w : World} {M : Nat} {K : Nat} {a1 : Option Addr} {l1 c1 : Nat} {a2 : Option Addr} {l2 c2 : Nat} {a3 : Option Addr} {l3 c3 : Nat} {W W' : World} {t : Tal} (h : SoFar Z w M K a1 l1 c1 a2 l2 c2 a3 l3 c3 W t) (hm : Mod W W' Nob) : SoFar Z w M K a1 l1 c1 a2 l2 c2 a3 l3 c3 W' t := by
  obtain ⟨sv, k1, k2, k3⟩ := h.ks
  exact ⟨h.so.mod hm nob, ⟨sv, k1.mod hm nob, owns_mod k2 hm (fun _ _ => nob), k3⟩, h.mp.mod hm nob, h.pr.mod hm nob, h.md.trans hm⟩

theorem takes_snoc (fs : List Op1) (t : Tal) (rs : List Rec1) (q : Nat) (r : Rec1) (h : rs[q]? = some r) : t.takes fs (rs.take (q + 1)) = (t.takes fs (rs.take q)).take fs r := by
  obtain ⟨hq, e⟩ := List.getElem?_eq_some_iff.1 h
  rw [List.take_succ_eq_append_getElem hq, e]
  simp [Tal.takes]

section
variable {n₀ : Nat} {w w' : World} {K : Nat} {a1 : Option Addr} {l1 c1 : Nat} {ms : List Op1} {a2 : Option Addr} {l2 c2 : Nat} {fs : List Op1} {a3 : Option Addr} {l3 c3 : Nat} {ns : List Op1}

set_option maxRecDepth 100000 in
set_option maxHeartbeats 4000000 in
theorem run_job_in (F : Fence) (n : Nat) (hF : ∀ f, F.fn f) (hro : F.round = none) (hnn : 5 ≤ n) (hc : ∀ {f : Nat} {args : Array Value} {W : World} {R : Ending → World → Prop} {m : Nat}, Calls Try.prog f args W R → CallsIn F m Try.prog f args W R)
    (h : ProgAt n₀ w K a1 l1 c1 ms a2 l2 c2 fs a3 l3 c3 ns) (hn : n₀ ≤ w.heap.size) (b wk : Int) (a : Option Addr) (cap : Nat) (ps : List (W64 × W64)) (hps : PairsAt n₀ w (.slice a ps.length cap) ps) (hf : fit ps.length K b wk) :
    CallsIn F n Try.prog 9 #[.agg #[.int .i64 K, .slice a1 l1 c1, .slice a2 l2 c2, .slice a3 l3 c3], .agg #[.int .i64 ps.length, .int .i64 K, .int .i64 b, .int .i64 wk], .slice a ps.length cap] w fun e w' =>
      ∃ ov, e = .returned (.tuple #[ov, .int .i64 0]) ∧ w'.ownsRow 0 36 2 ov (Tal.told ns (Tal.pairs K ms fs (numbered ps))).length (flatP (Tal.told ns (Tal.pairs K ms fs (numbered ps)))) ∧ (∀ j, inBlock ov j → w.heap.size ≤ j) ∧ Mod w w' Nob := by
  have h1 : 1 ≤ n := by omega
  have hMay (W : World) (hm : Mod w W Nob) : Calls Try.prog 13 #[.agg #[.int .i64 K, .slice a1 l1 c1, .slice a2 l2 c2, .slice a3 l3 c3], .agg #[.int .i64 ps.length, .int .i64 K, .int .i64 b, .int .i64 wk], .slice a ps.length cap] W (Tells W (.int .i64 0)) :=
    may_yes (h.mod hm hn) (Nat.le_trans hn hm.size) ps.length b wk hf a cap
  have hlen : ps.length ≤ 64 := by have := hf.2.1; omega
  obtain ⟨len, hl⟩ : ∃ len, ps.length = len := ⟨_, rfl⟩
  rw [hl] at hps hMay hlen ⊢
  have HL := Lib.hid hl
  clear hf hl
  refine callsIn_of_wp_marks Try.func9 rfl (hF _) ?_ hro
  simp only [Try.ntmps9, List.size_toArray, List.length_cons, List.length_nil, Nat.reduceAdd, Nat.reduceSub, Array.replicate_succ, Array.replicate_zero, List.push_toArray, List.append_toArray, List.nil_append, List.cons_append]
  have hB := ((Mod.refl w Nob).alloc (.cells #[.int .i64 K, .slice a1 l1 c1, .slice a2 l2 c2, .slice a3 l3 c3] 30)).alloc (.cells #[.int .i64 len, .int .i64 K, .int .i64 b, .int .i64 wk] 33)
  have cP := (CellsAt.new w #[.int .i64 K, .slice a1 l1 c1, .slice a2 l2 c2, .slice a3 l3 c3] 30).alloc (.cells #[.int .i64 len, .int .i64 K, .int .i64 b, .int .i64 wk] 33)
  gi_wp2_with fail
  obtain ⟨W, hW⟩ : ∃ W, (w.alloc (.cells #[.int .i64 K, .slice a1 l1 c1, .slice a2 l2 c2, .slice a3 l3 c3] 30)).alloc (.cells #[.int .i64 len, .int .i64 K, .int .i64 b, .int .i64 wk] 33) = W := ⟨_, rfl⟩
  rw [hW] at hB cP ⊢
  have lW := hB.size
  clear hW
  gi_at_call 13
  refine (hc (hMay W hB)).mono ?_
  rintro e w1 ⟨rfl, m1⟩
  replace cP := cP.mod m1 nob
  replace m1 := hB.trans m1
  clear hB hMay
  have hmm := @run_makeMap Try.prog
  gi_wp2_with (gi_at_call 14; refine (all_in F (n - 1) (hF _) hro _ _ _ _).mono ?_; rintro e w' ⟨rfl, rfl⟩)
  have cM := ((MapAt.new encI w1).mod ((((Mod.refl _ Nob).alloc (.cells #[.map (some w1.heap.size)] 34)).alloc (.cells #[.slice none 0 0] 49)).alloc (.cells #[.slice a len cap] 22)) nob)
  have cS := ((CellsAt.new (w1.alloc (.map #[] 0)) #[.map (some w1.heap.size)] 34).alloc (.cells #[.slice none 0 0] 49)).alloc (.cells #[.slice a len cap] 22)
  have cK := (CellsAt.new ((w1.alloc (.map #[] 0)).alloc (.cells #[.map (some w1.heap.size)] 34)) #[.slice none 0 0] 49).alloc (.cells #[.slice a len cap] 22)
  have cA := CellsAt.new (((w1.alloc (.map #[] 0)).alloc (.cells #[.map (some w1.heap.size)] 34)).alloc (.cells #[.slice none 0 0] 49)) #[.slice a len cap] 22
  have m2 := (((m1.alloc (.map #[] 0)).alloc (.cells #[.map (some w1.heap.size)] 34)).alloc (.cells #[.slice none 0 0] 49)).alloc (.cells #[.slice a len cap] 22)
  have cP2 := cP.mod ((((Mod.refl w1 Nob).alloc (.map #[] 0)).alloc (.cells #[.map (some w1.heap.size)] 34)).alloc (.cells #[.slice none 0 0] 49)|>.alloc (.cells #[.slice a len cap] 22)) nob
  have hsz : ((((w1.alloc (.map #[] 0)).alloc (.cells #[.map (some w1.heap.size)] 34)).alloc (.cells #[.slice none 0 0] 49)).alloc (.cells #[.slice a len cap] 22)).heap.size = w1.heap.size + 4 := by simp
  simp only [World.size_alloc] at cS cK cA
  have lM := cP.lt
  obtain ⟨W0, hW0⟩ : ∃ W0, ((((w1.alloc (.map #[] 0)).alloc (.cells #[.map (some w1.heap.size)] 34)).alloc (.cells #[.slice none 0 0] 49)).alloc (.cells #[.slice a len cap] 22)) = W0 := ⟨_, rfl⟩
  rw [hW0] at cM cS cK cA m2 cP2 hsz ⊢
  obtain ⟨M, hM⟩ : ∃ M, w1.heap.size = M := ⟨_, rfl⟩
  rw [hM] at cM cS cK cA hsz lM ⊢
  clear hW0 hM cP m1 hmm
  have hsq := all_stops F (n - 1) (hF _) hro (by omega) (M + 1 + 1 + 1) n₀ (.slice a ps.length cap) ps (by rw [HL.out]; omega) W0 (by omega) (Nat.le_trans hn m2.size) (by rw [HL.out]; exact (cA.cell 0).trans rfl) (by rw [HL.out]; exact hps.below (m2.below hn (fun _ h => h.elim)))
  rw [HL.out] at hsq
  refine wpIn_rangeFunc_ownH hro h1 (gf := 21) (lb := #[.pointer (some ⟨M + 1 + 1 + 1, 0, none⟩)]) rfl (hF _) (enters_of Try.func21 (by kernel_rfl) rfl)
    hsq belowK_t (belowK_b (Nat.le_trans hn m2.size)) (Below.refl _ _) (fun _ => rfl)
    (fun pre W => SoFar Nob w M K a1 l1 c1 a2 l2 c2 a3 l3 c3 W (Tal.pairs K ms fs pre))
    (fun _ _ _ => False)
    (fun _ _ _ _ hs hg hr => hs.kept hg (by rw [hsz] at hr; exact hr) (by omega))
    (fun _ _ _ _ _ hs _ _ => hs)
    ⟨cS, ⟨_, cK, World.ownsRow_nil _ _ _ _, fun j hj => by simp [inBlock, Value.ownBlock] at hj⟩, cM, cP2, m2⟩
    (fun x a' W => ∃ Bx, M < Bx ∧ CellsAt W Bx #[I x.2.1, I x.2.2] 36 ∧ a' = { tmps := #[.agg #[.int .i64 K, .slice a1 l1 c1, .slice a2 l2 c2, .slice a3 l3 c3], .agg #[.int .i64 len, .int .i64 K, .int .i64 b, .int .i64 wk], .slice a len cap, .pointer (some ⟨w.heap.size, 0, none⟩), .pointer (some ⟨w.heap.size + 1, 0, none⟩), undef, .slice none 0 0, .int .i64 0, .int .i64 0, .pointer (some ⟨M + 1, 0, none⟩), .pointer (some ⟨M + 1 + 1, 0, none⟩), I x.1, .pointer (some ⟨Bx, 0, none⟩), undef, undef, undef, undef, undef, undef, undef, .agg #[.int .i64 K, .slice a1 l1 c1, .slice a2 l2 c2, .slice a3 l3 c3], .agg #[.int .i64 len, .int .i64 K, .int .i64 b, .int .i64 wk], .slice a len cap, .int .i64 0, .int .i64 0, .bool false, undef, .map (some M), .slice a len cap, .func (.func 21) #[] #[.pointer (some ⟨M + 1 + 1 + 1, 0, none⟩)], I x.1, .agg #[I x.2.1, I x.2.2], undef, undef, undef, undef, undef, undef, undef, undef, undef, undef, undef, undef, undef, undef, undef, undef, undef, undef, undef, undef, undef, undef, undef, undef, undef, undef, undef, undef, undef, undef, undef, undef, undef, undef, undef, undef, undef, undef, undef, undef, undef, undef, undef, undef, undef, undef, undef, undef, undef, undef, undef, undef, undef, undef, undef, undef, undef, undef, undef, undef], defers := [] })
    (fun x a' _ X Y row hs hg hr => by
      obtain ⟨Bx, h1, h2, h3⟩ := hs
      exact ⟨Bx, h1, h2.kept hg (fun r e => (hr r e).2), h3⟩)
    ?assign ?body ?done ?stop
  case stop =>
    intro D c pre W _ _ h
    exact h.elim
  case assign =>
    rintro l pre ⟨num, key, v⟩ W KK hSo hK
    dsimp only at hK ⊢
    gi_wp2
    have lWs := hSo.so.lt
    have lWk := (hSo.ks.choose_spec).1.lt
    have hsz' := hSo.md.size
    exact hK _ _ ((KeepsOthers.alloc _ _).from _) ((Below.refl _ W).alloc (Nat.le_trans hn hsz') _) (hSo.kept (World.grownBy_alloc W _ none) (fun r e => by cases e) (by omega)) ⟨W.heap.size, by omega, CellsAt.new W _ _, rfl⟩
  case body =>
    rintro l pre ⟨num, key, v⟩ a' W hlb ⟨r, hr⟩ hSo ⟨Bx, hBx, cX, rfl⟩ hlt
    dsimp only at cX ⊢
    obtain ⟨t, ht⟩ : ∃ t, Tal.pairs K ms fs pre = t := ⟨_, rfl⟩
    have hK4 := h.k4
    have hkl : t.keys.length ≤ 256 := by
      have := Tal.pairs_length K ms fs pre
      rw [ht] at this
      have h2 : pre.length * K ≤ 64 * 4 := Nat.mul_le_mul (by omega) hK4
      omega
    rw [ht] at hSo
    have HT := Lib.hid ht
    have HKL := Lib.hid hkl
    clear ht hkl
    obtain ⟨cso, ⟨sv, cks, oks, lks⟩, cmp, cpr, cmd⟩ := hSo
    have x0 := cX.cell 0
    have x1 := cX.cell 1
    have p0 := cpr.cell 0
    have p1 := cpr.cell 1
    have p2 := cpr.cell 2
    have p3 := cpr.cell 3
    simp at x0 x1 p0 p1 p2 p3
    gi_wp2_with fail
    refine wpIn_scope_straight ?_
    gi_wp2_with fail
    refine wpIn_label ?_
    gi_wp2_with fail
    refine ⟨fun _ => by omega, (CallsIn.inRound l (hc (map_any (h.mod cmd hn) (Nat.le_trans hn cmd.size) num key v))).mono ?_⟩
    rintro e w2 ⟨rv, rfl, orv, frv, mrv⟩
    rw [mapped_cells K ms num key v (fun o ho => (h.m.fine o ho).good)] at orv
    obtain ⟨rs, hrs⟩ : ∃ rs, mapped K ms num key v = rs := ⟨_, rfl⟩
    have hrl := mapped_length K ms num key v
    rw [hrs] at orv hrl
    have HRS := Lib.hid hrs
    have HRL := Lib.hid hrl
    clear hrs hrl
    obtain ⟨ra, rc, rfl, _, _⟩ := owns_form orv
    gi_wp2_with fail
    have horv := owns_mod orv (Mod.refl w2 Nob) (fun _ _ => nob)
    have hM3 := cmd.size
    have hm2 := mrv.size
    have hlk := oks.lt
    have lkW := cks.lt
    gi_loopw [37] (fun i wr => ∃ q : Nat, q ≤ K ∧ i = .int .i64 q ∧ SoFar (inBlock (.slice ra K rc)) w M K a1 l1 c1 a2 l2 c2 a3 l3 c3 wr (t.takes fs (rs.take q)) ∧ wr.ownsRow 0 56 4 (.slice ra K rc) K (flatR rs) ∧ KeepsFrom (M + 4) W wr ∧ Below n₀ W wr) (fun i _ => K - (intOf i).toNat)
    case atStart =>
      exact ⟨0, Nat.zero_le _, rfl, ⟨cso.mod mrv nob, ⟨sv, cks.mod mrv nob, owns_mod oks mrv (fun _ _ => nob), fun j hj => ⟨(lks j hj).1, fun hz => by have := frv j hz; have := (oks.lt j hj).2; omega⟩⟩, cmp.mod mrv nob, cpr.mod mrv nob, cmd.trans mrv⟩, orv, keepsFrom_mod mrv (fun k h => h.elim), mrv.below (Nat.le_trans hn hM3) (fun _ h => h.elim)⟩
    case round =>
      obtain ⟨q, hq, rfl, hS, hor, hkf, hbe⟩ := hrel
      by_cases hqk : q < K
      · obtain ⟨⟨dd, kk, vv, sq⟩, hrq⟩ : ∃ r, rs[q]? = some r := ⟨_, List.getElem?_eq_getElem (by rw [HRL.out]; exact hqk)⟩
        have hsn := takes_snoc fs t rs q _ hrq
        obtain ⟨g, rfl⟩ : ∃ g, ra = some ⟨g, 0, none⟩ := by
          rcases hor.2 with ⟨_, h0⟩ | ⟨g, cap', cur, h0, _⟩
          · omega
          · cases h0; exact ⟨g, rfl⟩
        obtain ⟨f0, f1, f2, f3⟩ := flatR_cell rs q _ hrq
        have r0 := owns_cell hor _ _ f0
        have r1 := owns_cell hor _ _ f1
        have r2 := owns_cell hor _ _ f2
        have r3 := owns_cell hor _ _ f3
        dsimp only at r0 r1 r2 r3
        clear f0 f1 f2 f3 hrq
        obtain ⟨t', ht'⟩ : ∃ t', t.takes fs (rs.take q) = t' := ⟨_, rfl⟩
        have hkl' : t'.keys.length ≤ 260 := by
          have := Tal.takes_length fs t (rs.take q)
          rw [ht'] at this
          have h2 := HKL.out
          have h3 : (rs.take q).length ≤ 4 := by rw [List.length_take]; omega
          omega
        rw [ht'] at hS hsn
        have HSN := Lib.hid hsn
        clear hsn ht'
        have hA := (Mod.refl wr Nob).alloc (.cells #[.bool dd, I kk, I vv, I sq] 56)
        cases dd with
        | true =>
          have hsn2 : t.takes fs (rs.take (q + 1)) = t' := by rw [HSN.out]; simp [Tal.take]
          have HS2 := Lib.hid hsn2
          clear hsn2
          gi_wp2_with fail
          go_roundw
          case rel => exact ⟨q + 1, by omega, by go_num, by rw [HS2.out]; exact hS.mod hA, owns_mod hor hA (fun _ _ => nob), hkf.trans (keepsFrom_mod hA (fun k h => h.elim)), hbe.trans (hA.below (Nat.le_trans hn hS.md.size) (fun _ h => h.elim))⟩
          case measure => simp [intOf]; omega
        | false =>
          have zeroE : ∀ W, (zeroValue 2).run Try.prog W = .ok (.int .i64 0) W := fun W => by kernel_rfl
          have s0 := hS.so.cell 0
          have g0 := hS.pr.cell 0
          have g1 := hS.pr.cell 1
          have g2 := hS.pr.cell 2
          have g3 := hS.pr.cell 3
          simp at s0 g0 g1 g2 g3
          have mp1 := hS.mp.mod hA nob
          have lq1 := hS.so.lt
          obtain ⟨ksv, ck, ok, lk⟩ := hS.ks
          obtain ⟨ka, kc, rfl, _, _⟩ := owns_form ok
          have k0 := ck.cell 0
          have kf := ck.free 0
          simp at k0
          have lq2 := ck.lt
          cases hfk : t'.f kk with
          | none =>
            have hsn2 : t.takes fs (rs.take (q + 1)) = ⟨upd t'.f kk (some vv), t'.keys ++ [kk]⟩ := by rw [HSN.out]; simp [Tal.take, hfk]
            have HS2 := Lib.hid hsn2
            have HF := Lib.hid hfk
            clear hsn2 hfk
            obtain ⟨j0, hj, hz0, hz1, hz2⟩ := info_parts info_i64
            have hown1 := owns_mod ok (hA.alloc (.cells #[I kk] 2)) (fun _ _ => nob)
            have hnb : CellsAt ((wr.alloc (.cells #[.bool false, I kk, I vv, I sq] 56)).alloc (.cells #[I kk] 2)) (wr.heap.size + 1) #[I kk] 2 := by
              have := CellsAt.new (wr.alloc (.cells #[.bool false, I kk, I vv, I sq] 56)) #[I kk] 2
              rwa [World.size_alloc] at this
            gi_wp2_with (first
              | (refine wpListIn_lookup_none rfl (.tmp 44) (.tmp 46) 34 rfl 2 2 (.int .i64 0) Try.underlying34 (keyOk_i64 Try.underlying2) zeroE rfl mp1 kk rfl (by rw [HF.out]; rfl) ?_)
              | (gi_at_builtin; refine wpListIn_append_lies rfl (.tmp 52) (.tmp 55) 49 rfl 0 2 j0 _ 1 8 Try.underlying49 hj hz0 hz1 hz2 rfl (by omega) (.slice ka t'.keys.length kc) t'.keys.length (t'.keys.map I) rfl hown1 ⟨wr.heap.size + 1, 0, none⟩ 1 1 [I kk] rfl rfl (World.news_of_block (cs := #[I kk]) (t := 2) (fr := (0, 0)) hnb) (by simp [Value.oneCell']) (by omega) (by unfold maxLen; omega) (by omega) (by simp) (wr.heap.size + 1 + 1) (by simp) ?_))
            intro gg cap3 w3 hown3 hgr3 hat3 hlt3
            have hA3 := (((Mod.refl wr (inBlock (.slice ka t'.keys.length kc))).alloc (.cells #[.bool false, I kk, I vv, I sq] 56)).alloc (.cells #[I kk] 2)).grown hgr3 (fun k hk => .inl hk)
            have nbox : ¬ inBlock (.slice ka t'.keys.length kc) (M + 1 + 1) := fun hb => by have := (lk _ hb).1; omega
            have nso : ¬ inBlock (.slice ka t'.keys.length kc) (M + 1) := fun hb => by have := (lk _ hb).1; omega
            have nmp : ¬ inBlock (.slice ka t'.keys.length kc) M := fun hb => by have := (lk _ hb).1; omega
            have npr : ¬ inBlock (.slice ka t'.keys.length kc) w.heap.size := fun hb => by have := (lk _ hb).1; omega
            have nrc : ¬ inBlock (.slice ka t'.keys.length kc) wr.heap.size := fun hb => by have := (ok.lt _ hb).2; omega
            have nrow : ∀ j, inBlock (.slice (some ⟨g, 0, none⟩) K rc) j → ¬ inBlock (.slice ka t'.keys.length kc) j := fun j hj hb => (lk j hb).2 hj
            have ck3 := ck.mod hA3 nbox
            have d8 := ck3.cell 0
            have e8 := ck3.free 0
            simp at d8
            have cR3 := (((CellsAt.new wr #[.bool false, I kk, I vv, I sq] 56).alloc (.cells #[I kk] 2)).mod ((Mod.refl _ (inBlock (.slice ka t'.keys.length kc))).grown hgr3 (fun k hk => .inl hk)) nrc)
            have hm4 : Mod w3 (w3.setCell ⟨M + 1 + 1, 0, none⟩ (.slice (some ⟨gg, 0, none⟩) (t'.keys.length + 1) cap3)) (· = M + 1 + 1) := (Mod.refl w3 (· = M + 1 + 1)).setCell (p := ⟨M + 1 + 1, 0, none⟩) (.inl rfl) _
            have ck4 := ck3.set 0 (.slice (some ⟨gg, 0, none⟩) (t'.keys.length + 1) cap3)
            gi_upto_region 16 with (fail)
            obtain ⟨W4, hW4⟩ : ∃ W4, w3.setCell ⟨M + 1 + 1, 0, none⟩ (.slice (some ⟨gg, 0, none⟩) (t'.keys.length + 1) cap3) = W4 := ⟨_, rfl⟩
            rw [hW4] at hm4 ck4 ⊢
            have cso4 := (hS.so.mod hA3 nso).mod hm4 (by omega)
            have s4 := cso4.cell 0
            have cR4 := cR3.mod hm4 (by omega)
            have q1 := cR4.cell 1
            have q2 := cR4.cell 2
            simp at s4 q1 q2
            have mp4 := (hS.mp.mod hA3 nmp).mod hm4 (by omega)
            have hgg : M + 1 + 1 < gg := by
              rcases hat3 with h0 | h0
              · exact (lk _ h0).1
              · omega
            have hggr : ¬ inBlock (.slice (some ⟨g, 0, none⟩) K rc) gg := by
              rcases hat3 with h0 | h0
              · exact (lk _ h0).2
              · intro hz
                have := (hor.lt _ hz).2
                omega
            have own4 := owns_mod hown3 hm4 (fun k hk e => by have e2 : gg = k := by simpa [inBlock, Value.ownBlock] using hk
                                                              omega)
            have hfg : W.heap.size ≤ g := frv g rfl
            have hor4 := owns_mod (owns_mod hor hA3 nrow) hm4 (fun k hk e => by have e2 : g = k := by simpa [inBlock, Value.ownBlock] using hk
                                                                                omega)
            have pr4 := (hS.pr.mod hA3 npr).mod hm4 (by omega)
            have kf4 : KeepsFrom (M + 4) wr W4 := (((keepsFrom_mod ((Mod.refl wr Nob).alloc (.cells #[.bool false, I kk, I vv, I sq] 56)) (fun k h => h.elim)).trans (keepsFrom_mod ((Mod.refl _ Nob).alloc (.cells #[I kk] 2)) (fun k h => h.elim))).trans (keepsFrom_grown hgr3 (fun j e => .inr (owns_cells hown1 j e)))).trans (keepsFrom_mod hm4 (fun k h => by omega))
            have md4 := (hS.md.drop hA3 (fun k hk => .inr (by have := (lk k hk).1; omega))).drop hm4 (fun k hk => .inr (by omega))
            have hnS := hS.md.size
            have hb4 := (hA3.below (B := n₀) (by omega) (fun k hk => by have := (lk k hk).1; omega)).trans (hm4.below (B := n₀) (by have := hA3.size; omega) (fun k hk => by omega))
            have h34 := hA3.size
            have h45 := hm4.size
            clear hW4 hm4 hnb hown1 d8 e8 cR3 ck3 mp1
            gi_wp2_with (refine wpListIn_mapUpdate_at rfl (.tmp 57) (.tmp 59) (.tmp 61) 34 rfl 2 2 Try.underlying34 (keyOk_i64 Try.underlying2) rfl mp4 kk rfl (I vv) rfl ?_)
            intro w5 mp5 hgr5
            have hm5 := (Mod.refl W4 (· = M)).grown hgr5 (fun k e => by cases e; exact .inl rfl)
            have mp6 : MapAt encI w5 M (fun k => (upd t'.f kk (some vv) k).map I) := by
              have e : (fun k => (upd t'.f kk (some vv) k).map I) = upd (fun k => (t'.f k).map I) kk (some (I vv)) := by
                funext k
                simp only [upd]
                split <;> rfl
              rw [e]; exact mp5
            clear mp5 q1 q2 s4
            gi_wp2_with fail
            go_roundw
            case rel =>
              refine ⟨q + 1, by omega, by go_num, ?_, owns_mod hor4 hm5 (fun k hk e => by have e2 : g = k := by simpa [inBlock, Value.ownBlock] using hk
                                                                                          omega), (hkf.trans kf4).trans (keepsFrom_mod hm5 (fun k (h : k = M) => by omega)), (hbe.trans hb4).trans (hm5.below (B := n₀) (by omega) (fun k (hk : k = M) => by omega))⟩
              rw [HS2.out]
              refine ⟨cso4.mod hm5 (by omega), ⟨.slice (some ⟨gg, 0, none⟩) (t'.keys.length + 1) cap3, ck4.mod hm5 (by omega), ?_, fun j hj => ?_⟩, mp6, pr4.mod hm5 (by omega), md4.drop hm5 (fun k hk => .inr (by omega))⟩
              · have := owns_mod own4 hm5 (fun k hk e => by have e2 : gg = k := by simpa [inBlock, Value.ownBlock] using hk
                                                            omega)
                simpa using this
              · have e2 : gg = j := by simpa [inBlock, Value.ownBlock] using hj
                subst e2
                exact ⟨hgg, hggr⟩
            case measure => simp [intOf]; omega
          | some ov =>
            have hsn2 : t.takes fs (rs.take (q + 1)) = ⟨upd t'.f kk (some (ran ov vv fs)), t'.keys⟩ := by rw [HSN.out]; simp [Tal.take, hfk]
            have HS2 := Lib.hid hsn2
            have HF := Lib.hid hfk
            clear hsn2 hfk
            gi_wp2_with (refine wpListIn_lookup_some rfl (.tmp 44) (.tmp 46) 34 rfl 2 2 (.int .i64 0) Try.underlying34 (keyOk_i64 Try.underlying2) zeroE rfl mp1 kk rfl (I ov) (by rw [HF.out]; rfl) ?_)
            have cR1 := CellsAt.new wr #[.bool false, I kk, I vv, I sq] 56
            have cso1 := hS.so.mod hA nob
            have cpr1 := hS.pr.mod hA nob
            have ck1 := ck.mod hA nob
            have ok1 := owns_mod ok hA (fun _ _ => nob)
            have or1 := owns_mod hor hA (fun _ _ => nob)
            have md1 := hS.md.trans hA
            have hfg : W.heap.size ≤ g := frv g rfl
            have hnS := hS.md.size
            have kf1 : KeepsFrom (M + 4) wr (wr.alloc (.cells #[.bool false, I kk, I vv, I sq] 56)) := keepsFrom_mod hA (fun k h => h.elim)
            have hb1 := hA.below (B := n₀) (by omega) (fun k h => h.elim)
            have hz1 := hA.size
            obtain ⟨Wx, hWx⟩ : ∃ Wx, wr.alloc (.cells #[.bool false, I kk, I vv, I sq] 56) = Wx := ⟨_, rfl⟩
            rw [hWx] at hA mp1 cR1 cso1 cpr1 ck1 ok1 or1 md1 kf1 hb1 hz1 ⊢
            have fx (w' : World) (hw : Mod Wx w' Nob) : w'.cell? ⟨M + 1, 0, none⟩ = some (.map (some M)) ∧ w'.cell? ⟨wr.heap.size, 1, none⟩ = some (I kk) ∧ w'.cell? ⟨wr.heap.size, 2, none⟩ = some (I vv) ∧
                w'.cell? ⟨w.heap.size, 0, none⟩ = some (.int .i64 K) ∧ w'.cell? ⟨w.heap.size, 1, none⟩ = some (.slice a1 l1 c1) ∧ w'.cell? ⟨w.heap.size, 2, none⟩ = some (.slice a2 l2 c2) ∧ w'.cell? ⟨w.heap.size, 3, none⟩ = some (.slice a3 l3 c3) :=
              ⟨(cso1.mod hw nob).cell 0, (cR1.mod hw nob).cell 1, (cR1.mod hw nob).cell 2, (cpr1.mod hw nob).cell 0, (cpr1.mod hw nob).cell 1, (cpr1.mod hw nob).cell 2, (cpr1.mod hw nob).cell 3⟩
            obtain ⟨fv, hfv⟩ : ∃ fv, ran ov vv fs = fv := ⟨_, rfl⟩
            have hfold (w' : World) (hw : Mod Wx w' Nob) := fold_any (h.mod (md1.trans hw) hn) (Nat.le_trans hn (md1.trans hw).size) ov vv
            rw [hfv] at HS2
            simp only [hfv] at hfold
            clear hfv hWx s0 g0 g1 g2 g3 k0 kf r0 r1 r2 r3
            refine wpIn_region_quiet_last_round (C := fun W'' => Mod Wx W'' Nob) 8 rfl rfl hro (by kernel_rfl) (by kernel_rfl) (by kernel_rfl) (by kernel_rfl) (by kernel_rfl) (by rfl) (by rfl) ((Mod.refl Wx Nob).drew) ?_
            simp only [List.take_succ_cons, List.take_zero, List.cons_append, List.nil_append, struck]
            refine q_val hF rfl (.map (some M)) (fun w' hw => by obtain ⟨z0, z1, z2, y0, y1, y2, y3⟩ := fx w' hw; go_simp) ?_
            refine q_val hF rfl (.pointer (some ⟨wr.heap.size, 1, none⟩)) (fun w' hw => by go_simp) ?_
            refine q_val hF rfl (I kk) (fun w' hw => by obtain ⟨z0, z1, z2, y0, y1, y2, y3⟩ := fx w' hw; go_simp) ?_
            refine q_val hF rfl (.agg #[.int .i64 K, .slice a1 l1 c1, .slice a2 l2 c2, .slice a3 l3 c3]) (fun w' hw => by obtain ⟨z0, z1, z2, y0, y1, y2, y3⟩ := fx w' hw; go_simp) ?_
            refine q_val hF rfl (I ov) (fun w' hw => by go_simp) ?_
            refine q_val hF rfl (.pointer (some ⟨wr.heap.size, 2, none⟩)) (fun w' hw => by go_simp) ?_
            refine q_val hF rfl (I vv) (fun w' hw => by obtain ⟨z0, z1, z2, y0, y1, y2, y3⟩ := fx w' hw; go_simp) ?_
            refine q_call hF rfl (fun _ => by omega) (I fv) 16 #[.agg #[.int .i64 K, .slice a1 l1 c1, .slice a2 l2 c2, .slice a3 l3 c3], I ov, I vv] (fun w' hw => by go_simp)
              (fun w' hw => (hc (hfold w' hw)).mono fun e w'' h => ⟨h.1, hw.trans h.2⟩) ?_
            refine q_val hF rfl undef (fun w' hw => by go_simp) ?_
            refine wpQuietIn_nil ?_
            intro w4 hw4
            have mp4 := mp1.mod hw4 nob
            refine wpIn_mapUpdate_at (.tmp 62) (.tmp 64) (.tmp 69) 34 rfl 2 2 Try.underlying34 (keyOk_i64 Try.underlying2) (by go_simp) mp4 kk (by go_simp; rfl) (I fv) (by go_simp) ?_
            intro w5 mp5 hgr5
            have hm5 := (Mod.nob (T := (· = M)) hw4).grown hgr5 (fun k e => by cases e; exact .inl rfl)
            have mp6 : MapAt encI w5 M (fun k => (upd t'.f kk (some fv) k).map I) := by
              have e : (fun k => (upd t'.f kk (some fv) k).map I) = upd (fun k => (t'.f k).map I) kk (some (I fv)) := by
                funext k
                simp only [upd]
                split <;> rfl
              rw [e]; exact mp5
            clear mp5 fx hfold
            go_simp
            gi_wp2_with fail
            go_roundw
            case rel =>
              refine ⟨q + 1, by omega, by go_num, ?_, owns_mod or1 hm5 (fun k hk e => by have e2 : g = k := by simpa [inBlock, Value.ownBlock] using hk
                                                                                         omega), (hkf.trans kf1).trans (keepsFrom_mod hm5 (fun k (h : k = M) => by omega)), (hbe.trans hb1).trans (hm5.below (B := n₀) (by omega) (fun k (hk : k = M) => by omega))⟩
              rw [HS2.out]
              refine ⟨cso1.mod hm5 (by omega), ⟨.slice ka t'.keys.length kc, ck1.mod hm5 (by omega), owns_mod ok1 hm5 (fun k hk e => by have := (lk k hk).1; omega), lk⟩, mp6, cpr1.mod hm5 (by omega), md1.drop hm5 (fun k (hk : k = M) => .inr (by omega))⟩
            case measure => simp [intOf]; omega
      · obtain rfl : q = K := by omega
        have htk : t.takes fs (rs.take q) = Tal.pairs q ms fs (pre ++ [(num, key, v)]) := by
          rw [List.take_of_length_le (by rw [HRL.out]; exact Nat.le_refl _), ← HRS.out, ← HT.out]
          unfold Tal.pairs
          rw [List.foldl_append]
          rfl
        rw [htk] at hS
        have hS' := hS.free
        clear htk hS
        gi_wp2_with fail
        exact ⟨by rw [hsz]; exact hkf, hbe, hS'⟩
  case done =>
    rintro D ys W hD rfl hSo hK
    have hok := Tal.pairs_ok K ms fs (numbered ps)
    have hkl := Tal.pairs_length K ms fs (numbered ps)
    obtain ⟨t, ht⟩ : ∃ t, Tal.pairs K ms fs (numbered ps) = t := ⟨_, rfl⟩
    rw [ht] at hSo hok hkl
    have HT := Lib.hid ht
    have hK4 := h.k4
    rw [numbered_length, HL.out] at hkl
    have hk256 : t.keys.length ≤ 256 := Nat.le_trans hkl (Nat.le_trans (Nat.mul_le_mul hlen hK4) (by omega))
    obtain ⟨cso, ⟨sv, cks, oks, lks⟩, cmp, cpr, cmd⟩ := hSo
    have k0 := cks.cell 0
    simp at k0
    have hMW := cmd.size
    have lkW := cks.lt
    obtain ⟨nk, hnk⟩ : ∃ nk, t.keys.length = nk := ⟨_, rfl⟩
    rw [hnk] at oks hk256
    have HNK := Lib.hid hnk
    clear ht hkl hnk
    gi_wp2_with fail
    gi_at_call 17
    refine (hc (sort_row 0 sv nk t.keys W oks (by omega))).mono ?_
    rintro e w2 ⟨rfl, ok2, hm2⟩
    have so2 := cso.mod hm2 (fun hb => by have := (lks _ hb).1; omega)
    have ck2 := cks.mod hm2 (fun hb => by have := (lks _ hb).1; omega)
    have mp2 := cmp.mod hm2 (fun hb => by have := (lks _ hb).1; omega)
    have pr2 := cpr.mod hm2 (fun hb => by have := (lks _ hb).1; omega)
    have md2 := cmd.drop hm2 (fun k hk => .inr (by have := (lks k hk).1; omega))
    have hD2 : w2.heap[D]? = some (.deferred (some [])) := hm2.keep hK (fun hb => by
      obtain ⟨o', h1, h2⟩ := owns_cells oks D hb
      rw [hK] at h1; cases h1; cases h2)
    obtain ⟨ka, kc, rfl, _, _⟩ := owns_form ok2
    have hsl : (sortW t.keys).length = nk := by rw [← HNK.out]; exact List.length_mergeSort _
    have HSL := Lib.hid hsl
    have k2 := ck2.cell 0
    simp at k2
    have hsz2 := hm2.size
    clear hsl k0 cso cks cmp cpr oks hm2
    gi_wp2_with fail
    have zeroE : ∀ W, (zeroValue 2).run Try.prog W = .ok (.int .i64 0) W := fun W => by kernel_rfl
    gi_loopw [17, 75] (fun ov i wr => ∃ q : Nat, q ≤ nk ∧ i = .int .i64 q ∧ wr.ownsRow 0 36 2 ov q (flatP ((t.told ns).take q)) ∧ (∀ j, inBlock ov j → w2.heap.size ≤ j) ∧ Mod w2 wr Nob) (fun _ i _ => nk - (intOf i).toNat)
    case atStart => exact ⟨0, Nat.zero_le _, rfl, World.ownsRow_nil _ _ _ _, fun j hj => by simp [inBlock, Value.ownBlock] at hj, Mod.refl _ _⟩
    case round =>
      obtain ⟨q, hq, rfl, hov, fov, hmr⟩ := hrel
      by_cases hqn : q < nk
      · obtain ⟨kg, rfl⟩ : ∃ g, ka = some ⟨g, 0, none⟩ := by
          rcases ok2.2 with ⟨_, h0⟩ | ⟨g, cap', cur, h0, _⟩
          · omega
          · cases h0; exact ⟨g, rfl⟩
        have hqs : q < (sortW t.keys).length := by rw [HSL.out]; exact hqn
        obtain ⟨kq, hkq⟩ : ∃ kq, (sortW t.keys)[q]? = some kq := ⟨_, List.getElem?_eq_getElem hqs⟩
        have hmem : kq ∈ t.keys := List.mem_mergeSort.1 (List.mem_of_getElem? hkq)
        obtain ⟨vq, hvq⟩ := Option.isSome_iff_exists.1 ((hok.mem kq).1 hmem)
        have htold : (t.told ns).take (q + 1) = (t.told ns).take q ++ [(kq, ran vq kq ns)] := by
          have hg : (t.told ns)[q]? = some (kq, ran vq kq ns) := by
            show ((sortW t.keys).map _)[q]? = _
            rw [List.getElem?_map, hkq, Option.map_some, hvq]
            rfl
          obtain ⟨h1, h2⟩ := List.getElem?_eq_some_iff.1 hg
          rw [List.take_succ_eq_append_getElem h1, h2]
        have hkc : wr.cell? ⟨kg, q, none⟩ = some (I kq) := by
          rw [hmr.cell (ok2.lt kg rfl).2 nob]
          have := owns_open ok2 (by omega)
          obtain ⟨g', cap', e1, _, _, hcl, _⟩ := this
          cases e1
          exact hcl q _ (by rw [List.getElem?_map, hkq]; rfl)
        have HV := Lib.hid hvq
        have HTD := Lib.hid htold
        clear hvq htold hkq hmem
        have sr := (so2.mod hmr nob).cell 0
        have pr := pr2.mod hmr nob
        have g0 := pr.cell 0
        have g1 := pr.cell 1
        have g2 := pr.cell 2
        have g3 := pr.cell 3
        simp at sr g0 g1 g2 g3
        have mpr := mp2.mod hmr nob
        have mdr := md2.trans hmr
        have hnr := Nat.le_trans hn mdr.size
        obtain ⟨fv, hfv⟩ : ∃ fv, ran vq kq ns = fv := ⟨_, rfl⟩
        have hfin := finish_any (h.mod mdr hn) hnr kq vq
        rw [hfv] at HTD hfin
        clear hfv
        gi_wp2_with (refine wpListIn_lookup_val rfl (.tmp 83) (.tmp 84) 34 rfl 2 2 (.int .i64 0) Try.underlying34 (keyOk_i64 Try.underlying2) zeroE rfl mpr kq rfl (I vq) (by rw [HV.out]; rfl) ?_)
        gi_at_call 18
        refine (hc hfin).mono ?_
        rintro e w4 ⟨rfl, hm4⟩
        obtain ⟨oa, oc, rfl, _, _⟩ := owns_form hov
        obtain ⟨j0, hj, hz0, hz1, hz2⟩ := info_parts info_pair
        have hA := hm4.alloc (.cells #[I kq, I fv] 36)
        have hown1 := owns_mod hov hA (fun _ _ => nob)
        have hnb := CellsAt.new w4 #[I kq, I fv] 36
        have h4s := hm4.size
        gi_wp2_with (gi_at_builtin; refine wpListIn_append_lies rfl (.tmp 79) (.tmp 88) 22 rfl 0 36 j0 _ 2 16 Try.underlying22 hj hz0 hz1 hz2 rfl (by omega) (.slice oa q oc) q _ rfl hown1 ⟨w4.heap.size, 0, none⟩ 1 1 [I kq, I fv] rfl rfl (World.news_of_block (cs := #[I kq, I fv]) (t := 36) (fr := (0, 0)) hnb) (by simp [Value.oneCell']) (by omega) (by unfold maxLen; omega) (by omega) (by simp) (w4.heap.size + 1) (by simp) ?_)
        intro gg cap3 w5 hown3 hgr3 hat3 hlt3
        have hm5 := (Mod.nob (T := inBlock (.slice oa q oc)) hA).grown hgr3 (fun k hk => .inl hk)
        clear hA hown1 hnb sr g0 g1 g2 g3
        gi_wp2_with fail
        go_roundw
        case rel =>
          refine ⟨q + 1, by omega, by go_num, ?_, fun j hj => ?_, hmr.drop hm5 (fun k hk => .inr (fov k hk))⟩
          · rw [HTD.out]
            simpa [flatP] using hown3
          · have e2 : gg = j := by simpa [inBlock, Value.ownBlock] using hj
            subst e2
            rcases hat3 with h0 | h0
            · exact fov _ h0
            · have := hmr.size; omega
        case measure => simp [intOf]; omega
      · obtain rfl : q = nk := by omega
        have hDr : wr.heap[D]? = some (.deferred (some [])) := hmr.keep hD2 nob
        have htl : (t.told ns).length = q := by
          show ((sortW t.keys).map _).length = _
          rw [List.length_map]; exact HSL.out
        rw [List.take_of_length_le (by rw [htl]; exact Nat.le_refl _)] at hov
        have HTL := Lib.hid htl
        clear htl
        gi_wp2_with fail
        refine ⟨by simp, .inl ⟨_, _, rfl, run_takeDeferred hDr, ?_⟩⟩
        have hmD : Mod wr (wr.putObj D (.deferred none)) (· = D) := (Mod.refl wr (· = D)).putObj (.inl rfl) _
        have hwD : w.heap.size ≤ D := by omega
        refine ⟨.tuple #[u17, .int .i64 0], ?_, u17, rfl, ?_, fun j hj => ?_, (md2.trans hmr).drop hmD (fun k hk => .inr (by omega))⟩
        · simp [results, Try.f9, go_sem]
        · rw [HT.out, HTL.out]
          exact owns_mod hov hmD (fun k hk e => by
            obtain ⟨o', h1, h2⟩ := owns_cells hov k hk
            have e' : k = D := e
            rw [e', hDr] at h1; cases h1; cases h2)
        · have := fov j hj; omega

theorem run_job (h : ProgAt n₀ w K a1 l1 c1 ms a2 l2 c2 fs a3 l3 c3 ns) (hn : n₀ ≤ w.heap.size) (b wk : Int) (a : Option Addr) (cap : Nat) (ps : List (W64 × W64)) (hps : PairsAt n₀ w (.slice a ps.length cap) ps) (hf : fit ps.length K b wk) :
    Calls Try.prog 9 #[.agg #[.int .i64 K, .slice a1 l1 c1, .slice a2 l2 c2, .slice a3 l3 c3], .agg #[.int .i64 ps.length, .int .i64 K, .int .i64 b, .int .i64 wk], .slice a ps.length cap] w fun e w' =>
      ∃ ov, e = .returned (.tuple #[ov, .int .i64 0]) ∧ w'.ownsRow 0 36 2 ov (Tal.told ns (Tal.pairs K ms fs (numbered ps))).length (flatP (Tal.told ns (Tal.pairs K ms fs (numbered ps)))) ∧ (∀ j, inBlock ov j → w.heap.size ≤ j) ∧ Mod w w' Nob :=
  (callsIn_wide (n := 6)).1 (run_job_in Fence.wide 6 (fun _ => trivial) rfl (by omega) (fun h => callsIn_wide.2 h) h hn b wk a cap ps hps hf)
end
end Go.Proofs.Ytlnjfcnhgndocaa
