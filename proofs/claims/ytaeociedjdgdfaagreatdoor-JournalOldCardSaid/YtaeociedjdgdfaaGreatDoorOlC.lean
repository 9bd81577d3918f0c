/- A store, a trust and a journal together: what each step does of them. The conditions: at most 96 entries counted. -/
import Derived.Test.YtaeociedjdgdfaaGreatDoorBh
import Derived.StillTail
import Derived.Test.YtaeociedjdgdfaaGreatDoorBk
import Derived.Test.YtaeociedjdgdfaaGreatDoorOlB
import Derived.Stop.BytesEq
import Derived.Still
import Derived.Laws.StructEq
import Derived.StillTailTactics
namespace Go.Proofs.YtaeociedjdgdfaaGreatDoor
open Go.RowKit

/-- What an iterator without an end owes to whoever calls it: the caller's words speak of fewer than N told. -/
def SeqEverX {α : Type} (n : Nat) (P : Program) (g : Nat) (lb : Array Value) (encs : α → Array Value) (Kp : World → World → Prop) (R : List α → α → World → Prop) (Sp : List α → Prop) (N : Nat) (w : World) : Prop :=
  ∀ (l : Nat) (J Jx : List α → World → Prop) (W : World), Below w.heap.size w W → AbidesFrom W.heap.size J → (∀ pre W1, J pre W1 → pre.length < N) →
    (∀ pre x W1, J pre W1 → R pre x W1 → pre.length < N → YieldAt Fence.wide (n - 1) P l (encs x) W1 fun e W' =>
      (e = .returned (.bool true) ∧ J (pre ++ [x]) W' ∧ Kp W1 W') ∨ (e = .returned (.bool false) ∧ Jx (pre ++ [x]) W')) →
    J [] W →
    CallsIn Fence.wide n P g (#[.func (.yield l) #[] #[]] ++ lb) W fun e W' => (∃ v, e = .returned v) ∧ ∃ pre, Sp pre ∧ Jx pre W'

section
variable {α : Type} {n : Nat} {P : Program} {g : Operand} {ps : Array Tmp} {assign body : Code} {Q : Exit → Act → World → Prop} {a : Act} {w : World}
theorem wpIn_rangeFunc_everX (h1 : 1 ≤ n) {gf : Nat} {lb : Array Value} (hg : a.eval g = .func (.func gf) #[] lb) (eg : ∀ args w, (callFunc gf args).run P w = .ok (.enter gf args) w)
    {encs : α → Array Value} {Kp : World → World → Prop} {R : List α → α → World → Prop} {Sp : List α → Prop} {N : Nat} (hseq : SeqEverX (n - 1) P gf lb encs Kp R Sp N w)
    (hKt : ∀ {A B C : World}, Kp A B → Kp B C → Kp A C) (hKb : ∀ (W : World) (l : Nat) (o o' : Obj), w.heap.size ≤ l → W.heap[l]? = some o → o.isCells = false → o.isWalk = false → Kp W (W.putObj l o')) (hps : ∀ x, (encs x).size = ps.size)
    (I : List α → World → Prop) (Ix : Code → List α → World → Prop) (hI : OwnFrom w.heap.size I) (hIx : ∀ c pre W r r', Ix c pre W → W.heap[w.heap.size + 1]? = some (.loop r) → Ix c pre (W.putObj (w.heap.size + 1) (.loop r'))) (h0 : I [] w) (hN : ∀ pre W, I pre W → pre.length < N) (Ax : List α → α → Act → World → Prop) (hAx : ∀ pre x a', OwnFrom w.heap.size (fun (_ : Unit) W => Ax pre x a' W))
    (hassign : ∀ (l : Nat) (pre : List α) (x : α) (W : World) (K : Act → World → Prop), I pre W → R pre x W → (∀ a' W', KeepsFrom w.heap.size W W' → Kp W W' → I pre W' → Ax pre x a' W' → K a' W') →
      assign.wpIn (Fence.wide.inRound l) (n - 1 - 1) P (Exit.then K (fun _ _ _ => False)) { tmps := (ps.zip (encs x)).foldl (fun t (p, v) => t.setIfInBounds p v) a.tmps, defers := [] } W)
    (hbody : ∀ (l : Nat) (pre : List α) (x : α) (a' : Act) (W : World), l = w.heap.size + 1 → (∃ r, W.heap[l]? = some (.loop r)) → I pre W → Ax pre x a' W → pre.length < N → body.wpIn (Fence.wide.inRound l) (n - 1 - 1) P (ownPostG w.heap.size Kp I Ix (pre ++ [x]) W) a' W)
    (hstop : ∀ (D : Nat) (c : Code) (pre : List α) (W : World), D = w.heap.size → Sp pre → Ix c pre W → W.heap[D]? = some (.deferred (some [])) → c.wpIn Fence.wide n P Q { a with defers := { target := .collected D, args := #[] } :: a.defers } W) :
    (Code.rangeFunc g ps assign body).wpIn Fence.wide n P Q a w := by
  refine wpIn_rangeFunc fun fn hfn => ?_
  obtain ⟨D, hD⟩ : ∃ D, w.heap.size = D := ⟨_, rfl⟩
  have hrun := run_enterLoop_outer (P := P) (w := w) fn a.tmps ps assign body
  have hb : Books w.heap.size (recOf w.heap.size fn a.tmps ps assign body .ready none) ((w.alloc (.deferred (some []))).alloc (.loop (recOf w.heap.size fn a.tmps ps assign body .ready none))) := by
    refine ⟨?_, (Below.heap_alloc _ _ _ (by simp)).trans (World.alloc_heap_new w _)⟩
    have := World.alloc_heap_new (w.alloc (.deferred (some []))) (.loop (recOf w.heap.size fn a.tmps ps assign body .ready none))
    rwa [World.size_alloc] at this
  have hI1 : I [] ((w.alloc (.deferred (some []))).alloc (.loop (recOf w.heap.size fn a.tmps ps assign body .ready none))) := hI.alloc _ (hI.alloc _ h0)
  have hbel : Below w.heap.size w ((w.alloc (.deferred (some []))).alloc (.loop (recOf w.heap.size fn a.tmps ps assign body .ready none))) := ((Below.refl _ w).alloc (Nat.le_refl _) _).alloc (by simp) _
  have hsz1 : ((w.alloc (.deferred (some []))).alloc (.loop (recOf w.heap.size fn a.tmps ps assign body .ready none))).heap.size = w.heap.size + 2 := by simp
  change _ = Result.ok _ ((w.alloc (.deferred (some []))).alloc (.loop (recOf w.heap.size fn a.tmps ps assign body .ready none))) at hrun
  obtain ⟨W1, hW1⟩ : ∃ W1, (w.alloc (.deferred (some []))).alloc (.loop (recOf w.heap.size fn a.tmps ps assign body .ready none)) = W1 := ⟨_, rfl⟩
  rw [hW1] at hrun hb hI1 hbel hsz1
  rw [hD] at hrun hb hsz1 hKb hI hIx hAx hassign hbody hstop
  refine ⟨D + 1, [{ target := .collected D, args := #[] }], W1, { target := .fn (.func gf) lb, args := #[.func (.yield (D + 1)) #[] #[]] }, W1, gf, #[.func (.yield (D + 1)) #[] #[]] ++ lb, W1, hrun, ?_, ?_, ?_, fun _ => h1, ?_⟩
  · simp only [resolve, hg]
    simp [go_sem]
  · intro f' hf'; simp [Target.leads] at hf'; subst hf'; trivial
  · simp [invoke, go_sem, eg]
  have hwalk : ∀ {A : World} {row : Option Nat}, (∀ r, row = some r → W1.heap.size ≤ r ∧ ∃ o : Obj, A.heap[r]? = some o ∧ o.isWalk = true) → (∀ r, row = some r → D ≤ r ∧ ∃ o : Obj, A.heap[r]? = some o ∧ o.isCells = false) := fun hr r e => by
    obtain ⟨h2, o, h3, h4⟩ := hr r e
    exact ⟨by omega, o, h3, Obj.not_cells_of_walk h4⟩
  refine (hseq (D + 1) (fun pre W => I pre W ∧ Books D (recOf D fn a.tmps ps assign body .ready none) W)
    (fun pre W => ∃ c, Ix c pre W ∧ Books D (recOf D fn a.tmps ps assign body .done (some c)) W) W1 hbel
    (fun s A B row hs hg2 hr => ⟨hI s A B row hs.1 hg2 (hwalk hr), hs.2.grown hg2 (fun r e => (hr r e).2)⟩)
    ?long ?round ⟨hI1, hb⟩).mono ?behind
  case long => exact fun pre W h => hN pre W h.1
  case round =>
    rintro pre x W ⟨hi, hbk⟩ hR hlen
    have hy := run_yield (P := P) (args := encs x) hbk.1 (hps x)
    refine ⟨fn, _, assign, body, hy, roundIn_of_wpIn hfn (hassign (D + 1) pre x W _ hi hR fun a' Wa hk1 hk2 hi2 hax => ?_)⟩
    have hbk2 := hbk.keeps hk1
    refine ⟨_, run_beginRound hbk2.1 rfl, ?_⟩
    have hbk3 := hbk2.put (recOf D fn a.tmps ps assign body .busy none)
    have hp1 : Kp Wa (Wa.putObj (D + 1) (.loop (recOf D fn a.tmps ps assign body .busy none))) := hKb _ _ _ _ (by omega) hbk2.1 rfl rfl
    have hi3 := hI.putObj (.loop (recOf D fn a.tmps ps assign body .busy none)) hi2 (by omega) hbk2.1 rfl
    have hax3 := (hAx pre x a').putObj (s := ()) (.loop (recOf D fn a.tmps ps assign body .busy none)) hax (by omega) hbk2.1 rfl
    refine wpIn_mono (hbody (D + 1) pre x a' _ rfl ⟨_, hbk3.1⟩ hi3 hax3 hlen) ?_
    -- how a round ends
    have fin : ∀ (j : Option Code) (W3 : World), Books D (recOf D fn a.tmps ps assign body .busy none) W3 →
        ∃ W4, (Instr.endRound (D + 1) j).run P W3 = .ok (.bool j.isNone) W4 ∧ W4 = W3.putObj (D + 1) (.loop (recOf D fn a.tmps ps assign body (if j.isNone then .ready else .done) j)) ∧ Books D (recOf D fn a.tmps ps assign body (if j.isNone then .ready else .done) j) W4 := fun j W3 h3 =>
      ⟨_, run_endRound j h3.1, rfl, h3.put _⟩
    have stop : ∀ (c : Code) (W3 : World), KeepsFrom D (Wa.putObj (D + 1) (.loop (recOf D fn a.tmps ps assign body .busy none))) W3 → Ix c (pre ++ [x]) W3 →
        ∃ W4, (Instr.endRound (D + 1) (some c)).run P W3 = .ok (.bool false) W4 ∧ ∃ c', Ix c' (pre ++ [x]) W4 ∧ Books D (recOf D fn a.tmps ps assign body .done (some c')) W4 := fun c W3 hk3 hx3 => by
      have h3 := hbk3.keeps hk3
      obtain ⟨W4, e1, rfl, e2⟩ := fin (some c) W3 h3
      exact ⟨_, e1, c, hIx c _ _ _ _ hx3 h3.1, e2⟩
    rintro e a3 W3 hp
    cases e with
    | normal =>
      obtain ⟨hk3, hkp3, hi4⟩ := hp
      have h3 := hbk3.keeps hk3
      obtain ⟨W4, e1, rfl, e2⟩ := fin none W3 h3
      exact ⟨_, _, e1, .inl ⟨rfl, ⟨hI.putObj _ hi4 (by omega) h3.1 rfl, e2⟩, hKt hk2 (hKt hp1 (hKt hkp3 (hKb _ _ _ _ (by omega) h3.1 rfl rfl)))⟩⟩
    | ret =>
      obtain ⟨W4, e1, e2⟩ := stop .ret W3 hp.1 hp.2
      exact ⟨_, _, e1, .inr ⟨rfl, e2⟩⟩
    | exit id =>
      obtain ⟨W4, e1, e2⟩ := stop (.exit id) W3 hp.1 hp.2
      exact ⟨_, _, e1, .inr ⟨rfl, e2⟩⟩
    | goto t =>
      obtain ⟨W4, e1, e2⟩ := stop (.goto t) W3 hp.1 hp.2
      exact ⟨_, _, e1, .inr ⟨rfl, e2⟩⟩
    | panic ch => exact hp.elim
    | outgrown => exact hp.elim
  case behind =>
    rintro e W2 ⟨⟨v, rfl⟩, pre, hSp, c, hi, hbk⟩
    exact ⟨some c, _, run_endLoop (P := P) hbk.1 (by simp [recOf]), hstop D c pre _ rfl hSp (hIx c _ _ _ _ hi hbk.1) (hbk.put _).2⟩
end

end Go.Proofs.YtaeociedjdgdfaaGreatDoor

namespace Go.Proofs.YtaeociedjdgdfaaGreatDoor
open Go.RowKit

theorem wpIn_region_tail_round {n0 : Nat} {P : Program} {Q : Exit → Act → World → Prop} {l0 id : Nat} {a : Act} {w : World} {l : List Oper} (n : Nat) (hm : P.follows .mixedOrders = true) (hd : l.all calmB = true) (hB : Region.lexTailB .any l.toArray n = true)
    {K : Act → World → Prop} (hK : ∀ a w, K a w → Q .normal a w)
    (h : wpStill P l.toArray w.drew (fun a' => wpList P l.toArray (Exit.then K (fun _ _ _ => False)) (l.drop n) a' w.drew) (l.take n) a) : (Code.region id l.toArray true).wpIn (Fence.wide.inRound l0) n0 P Q a w := by
  simp only [Region.lexTailB, Bool.and_eq_true, decide_eq_true_eq] at hB
  obtain ⟨⟨⟨⟨hsel, hn⟩, hs⟩, hc⟩, hlex⟩ := hB
  have hn' : n < l.length := by simpa using hn
  have htl : (l.take n).length = n := by simp; omega
  have hdl : (l.drop n).length = l.toArray.size - n := by simp
  have inv0 : HeadInv .any l.toArray n (Array.replicate l.toArray.size false) :=
    ⟨by simp, fun j oj _ hl => (by rw [getD_replicate_false] at hl; cases hl), fun t _ ht => getD_in (by simpa using ht) (getD_replicate_false _ _)⟩
  have H := wpAnyL_lex (md := .any) (g := l.toArray.size - n) hsel hs hc hn (l.take n) 0 _ a (fun j hj => by
    have hj' : j < n := by rw [htl] at hj; exact hj
    simp [hj']) (by simpa using htl) inv0 (by rw [htl]; exact hlex) h
  refine wpIn_region_round hm hd hK ?_
  have := wpAny_of_head (Q' := Exit.then K (fun _ _ _ => False)) (g := l.toArray.size - n) (fun listed a' hL => by
    have := wpAny_of_seq (md := .any) (Q' := Exit.then K (fun _ _ _ => False)) (l.drop n) n listed a' w.drew (fun j => by simp [List.getElem?_drop]) (by rw [hdl]; exact hL.1) hL.2
    rwa [hdl] at this) _ _ _ H
  rw [htl, show n + (l.toArray.size - n) = l.toArray.size by omega] at this
  exact this

end Go.Proofs.YtaeociedjdgdfaaGreatDoor

namespace Go.Proofs.YtaeociedjdgdfaaGreatDoor
open Go.RowKit Go.Shelf
set_option linter.unusedSimpArgs false

set_option maxRecDepth 100000 in
set_option maxHeartbeats 4000000 in
theorem count_any (J base m ep : Nat) (sv tv : Value) (ea : Option Addr) (ec : Nat) (es : List Ent) (key last next : List UInt8) (wv : Bool) (e0 e : Ent) (ba : Option Addr) (bn bc : Nat) (b : List UInt8) (w : World)
    (hJ : CellsAt w J (jcells sv tv key ep (.slice ea m ec) last next wv e0).toArray 92) (hm : m < 98) (hk : key.length = 32) (hl : last.length = 32) (hnx : next.length = 32)
    (hown : w.ownsRow base 38 4 (.slice ea m ec) m (es.flatMap Ent.cells)) (hbase : base ≤ w.heap.size) (hJo : ¬ inBlock (.slice ea m ec) J)
    (hb : BytesAt w (.slice ba bn bc) b) (hbn : b.length = bn) (h16 : 16 ≤ bn) (hb2 : bn ≤ 1048576) (hbJ : ¬ inBlock (.slice ba bn bc) J) (hbo : ∀ k, inBlock (.slice ba bn bc) k → ¬ inBlock (.slice ea m ec) k) :
    Calls Tryz.prog 59 #[.pointer (some ⟨J, 0, none⟩), .agg e.cells.toArray, .slice ba bn bc] w fun r w' => (∃ v, r = .returned v) ∧ ∃ g c,
      CellsAt w' J (jcells sv tv key ep (.slice (some ⟨g, 0, none⟩) (m + 1) c) (linkL b) next wv e0).toArray 92 ∧
      w'.ownsRow base 38 4 (.slice (some ⟨g, 0, none⟩) (m + 1) c) (m + 1) ((es ++ [e]).flatMap Ent.cells) ∧
      Mod w w' (fun k => k = J ∨ inBlock (.slice ea m ec) k) ∧ (ea = some ⟨g, 0, none⟩ ∨ w.heap.size ≤ g) := by
  have hlJ := hJ.lt
  have mA := (Mod.refl w Nob).alloc (.cells #[.int .i64 e.kind, .int .i64 e.task, .int .u64 e.att, .int .i64 e.state] 38)
  have cA := CellsAt.new w #[.int .i64 e.kind, .int .i64 e.task, .int .u64 e.att, .int .i64 e.state] 38
  have mD := mA.drew
  replace cA := cA.mod (Mod.refl _ Nob).drew nob
  have hJ0 := hJ.mod mD nob
  have hown0 := owns_mod hown mD (fun _ _ => nob)
  have hb0 := hb.mod mD (fun _ _ => nob)
  have hz0 : (w.alloc (.cells #[.int .i64 e.kind, .int .i64 e.task, .int .u64 e.att, .int .i64 e.state] 38)).drew.heap.size = w.heap.size + 1 := by
    show (w.alloc _).heap.size = _
    simp
  go_enter Tryz.func59, Tryz.ntmps59
  go_wp2_with fail
  refine wp_no_panic ?_
  refine wp_region_U (S := fun W => CellsAt W J (jcells sv tv key ep (.slice ea m ec) last next wv e0).toArray 92 ∧ CellsAt W w.heap.size #[.int .i64 e.kind, .int .i64 e.task, .int .u64 e.att, .int .i64 e.state] 38) 10 (by kernel_rfl) ?_
  change wpAnyU _ _ _ _ _ _ _ _ _ (w.alloc (.cells #[.int .i64 e.kind, .int .i64 e.task, .int .u64 e.att, .int .i64 e.state] 38)).drew
  obtain ⟨V0, hV0⟩ : ∃ V, (w.alloc (.cells #[.int .i64 e.kind, .int .i64 e.task, .int .u64 e.att, .int .i64 e.state] 38)).drew = V := ⟨_, rfl⟩
  rw [hV0] at mD cA hJ0 hown0 hb0 hz0 ⊢
  obtain ⟨H, hH⟩ : ∃ H, w.heap.size = H := ⟨_, rfl⟩
  rw [hH] at cA hlJ hz0 hbase ⊢
  have HH := Lib.hid hH
  have hS0 : CellsAt V0 J (jcells sv tv key ep (.slice ea m ec) last next wv e0).toArray 92 ∧ CellsAt V0 H #[.int .i64 e.kind, .int .i64 e.task, .int .u64 e.att, .int .i64 e.state] 38 := ⟨hJ0, cA⟩
  clear hV0 mA hH
  refine wpAnyU_takeP (i := 0) (v := .pointer (some ⟨J, 0, none⟩)) rfl (by kernel_rfl) (by kernel_rfl) (by kernel_rfl) (by decide) (fun _ _ _ h => h) (Or.inl ⟨by rfl, fun W => by go_simp⟩) (fun _ => hS0) ?_
  try simp only [Act.put, List.getElem_toArray, List.getElem_cons_zero, List.getElem_cons_succ, List.setIfInBounds_toArray, List.set_cons_zero, List.set_cons_succ]
  refine wpAnyU_takeP (i := 1) (v := .pointer (some ⟨J, 0, none⟩)) rfl (by kernel_rfl) (by kernel_rfl) (by kernel_rfl) (by decide) (fun _ _ _ h => h) (Or.inl ⟨by rfl, fun W => by go_simp⟩) (fun _ => hS0) ?_
  try simp only [Act.put, List.getElem_toArray, List.getElem_cons_zero, List.getElem_cons_succ, List.setIfInBounds_toArray, List.set_cons_zero, List.set_cons_succ]
  refine wpAnyU_takeP (i := 2) (v := .pointer (some ⟨J, 0, none⟩)) rfl (by kernel_rfl) (by kernel_rfl) (by kernel_rfl) (by decide) (fun _ _ _ h => h) (Or.inl ⟨by rfl, fun W => by go_simp⟩) (fun _ => hS0) ?_
  try simp only [Act.put, List.getElem_toArray, List.getElem_cons_zero, List.getElem_cons_succ, List.setIfInBounds_toArray, List.set_cons_zero, List.set_cons_succ]
  refine wpAnyU_takeP (i := 3) (v := .pointer (some ⟨J, 35, none⟩)) rfl (by kernel_rfl) (by kernel_rfl) (by kernel_rfl) (by decide) (fun _ _ _ h => h) (Or.inl ⟨by rfl, fun W => by go_simp⟩) (fun _ => hS0) ?_
  try simp only [Act.put, List.getElem_toArray, List.getElem_cons_zero, List.getElem_cons_succ, List.setIfInBounds_toArray, List.set_cons_zero, List.set_cons_succ]
  refine wpAnyU_take (i := 4) (v := .slice ea m ec) rfl (by kernel_rfl) (by kernel_rfl) (by kernel_rfl) (by kernel_rfl) (by kernel_rfl) (fun _ _ _ h => h) (Or.inl ⟨by rfl, fun W hS => by have y := (JFacts.of hS.1 hk hl hnx).ev; go_simp⟩) hS0 ?_
  try simp only [Act.put, List.getElem_toArray, List.getElem_cons_zero, List.getElem_cons_succ, List.setIfInBounds_toArray, List.set_cons_zero, List.set_cons_succ]
  refine wpAnyU_take (i := 5) (v := .agg #[.int .i64 e.kind, .int .i64 e.task, .int .u64 e.att, .int .i64 e.state]) rfl (by kernel_rfl) (by kernel_rfl) (by kernel_rfl) (by kernel_rfl) (by kernel_rfl) (fun _ _ _ h => h) (yieldsIf_load_mid (by rfl) 38 _ rfl H 0 rfl e.cells _ (fun W hS q u hq => by rw [Nat.zero_add]; exact (hS.2.cell q).trans (by simpa [Ent.cells] using hq)) Tryz.underlying38 rfl (by kernel_rfl)) hS0 ?_
  try simp only [Act.put, List.getElem_toArray, List.getElem_cons_zero, List.getElem_cons_succ, List.setIfInBounds_toArray, List.set_cons_zero, List.set_cons_succ]
  have HZ := Box.mk hz0
  clear hz0
  have mX := (Mod.refl V0 Nob).alloc (.cells #[.int .i64 e.kind, .int .i64 e.task, .int .u64 e.att, .int .i64 e.state] 38)
  have cX := CellsAt.new V0 #[.int .i64 e.kind, .int .i64 e.task, .int .u64 e.att, .int .i64 e.state] 38
  have hJ2 := hJ0.mod mX nob
  have hown2 := owns_mod hown0 mX (fun _ _ => nob)
  have hb3 := hb0.mod mX (fun _ _ => nob)
  have hzX : (V0.alloc (.cells #[.int .i64 e.kind, .int .i64 e.task, .int .u64 e.att, .int .i64 e.state] 38)).heap.size = V0.heap.size + 1 := by simp
  obtain ⟨i0, hi, hi0, hi1, hi2⟩ := info_parts info_ent
  obtain ⟨g, cap, V2, hrun, r1, r2, r3, r4⟩ := run_append_lies (P := Tryz.prog) (V0.alloc (.cells #[.int .i64 e.kind, .int .i64 e.task, .int .u64 e.att, .int .i64 e.state] 38)) 23 23 base 38 i0 _ 4 32 Tryz.underlying23 hi hi0 hi1 hi2 rfl (by omega) (.slice ea m ec) m _ hown2 ⟨V0.heap.size, 0, none⟩ 1 1 e.cells rfl (fun q u hq => by
    have hadd : (⟨V0.heap.size, 0, none⟩ : Addr).add q = ⟨V0.heap.size, q, none⟩ := by unfold Addr.add; split <;> simp_all
    rw [hadd, cX.cell q]
    simpa [Ent.cells] using hq) (by simp [Ent.cells, Value.oneCell']) (by omega) (by unfold maxLen; omega) (by omega) (by have := HZ.out; omega) (V0.heap.size + 1) hzX
  refine wpAnyU_one 6 _ (by kernel_rfl) rfl (fun K hK => ?_)
  go_simp
  refine hK.out _ _ (fun _ => ⟨hJ2, cA.mod mX nob⟩) ?_
  clear hK K
  try simp only [Act.put, List.getElem_toArray, List.getElem_cons_zero, List.getElem_cons_succ, List.setIfInBounds_toArray, List.set_cons_zero, List.set_cons_succ]
  have m3 : Mod (V0.alloc (.cells #[.int .i64 e.kind, .int .i64 e.task, .int .u64 e.att, .int .i64 e.state] 38)) V2 (inBlock (.slice ea m ec)) := (Mod.refl _ _).grown r2 (fun k hk2 => .inl hk2)
  have hJ3 := hJ2.mod m3 hJo
  have hHo : ¬ inBlock (.slice ea m ec) H := fun h => by have := (hown.lt H h).2; have := HH.out; omega
  have hS3 : CellsAt V2 J (jcells sv tv key ep (.slice ea m ec) last next wv e0).toArray 92 ∧ CellsAt V2 H #[.int .i64 e.kind, .int .i64 e.task, .int .u64 e.att, .int .i64 e.state] 38 := ⟨hJ3, (cA.mod mX nob).mod m3 hHo⟩
  refine wpAnyU_one 7 _ (by kernel_rfl) rfl (fun K hK => ?_)
  rw [if_pos (by rfl)]
  refine wp_append_run (.tmp 10) (.tmp 12) 23 23 rfl _ _ rfl rfl _ _ hrun ?_
  refine hK.out _ _ (fun _ => hS3) ?_
  clear hK K hrun
  try simp only [Act.put, List.getElem_toArray, List.getElem_cons_zero, List.getElem_cons_succ, List.setIfInBounds_toArray, List.set_cons_zero, List.set_cons_succ]
  refine wpAnyU_takeP (i := 8) (v := .pointer (some ⟨J, 0, none⟩)) rfl (by kernel_rfl) (by kernel_rfl) (by kernel_rfl) (by decide) (fun _ _ _ h => h) (Or.inl ⟨by rfl, fun W => by go_simp⟩) (fun _ => hS3) ?_
  try simp only [Act.put, List.getElem_toArray, List.getElem_cons_zero, List.getElem_cons_succ, List.setIfInBounds_toArray, List.set_cons_zero, List.set_cons_succ]
  refine wpAnyU_takeP (i := 9) (v := .pointer (some ⟨J, 35, none⟩)) rfl (by kernel_rfl) (by kernel_rfl) (by kernel_rfl) (by decide) (fun _ _ _ h => h) (Or.inl ⟨by rfl, fun W => by go_simp⟩) (fun _ => hS3) ?_
  try simp only [Act.put, List.getElem_toArray, List.getElem_cons_zero, List.getElem_cons_succ, List.setIfInBounds_toArray, List.set_cons_zero, List.set_cons_succ]
  have mm3 := ((mD.wide (T := fun k => k = J ∨ inBlock (.slice ea m ec) k) (fun _ h => h.elim)).trans (mX.wide (T := fun k => k = J ∨ inBlock (.slice ea m ec) k) (fun _ h => h.elim))).trans (m3.wide (T := fun k => k = J ∨ inBlock (.slice ea m ec) k) (fun _ h => .inl (.inr h)))
  have hb4 := hb3.mod m3 hbo
  have hge : (ea = some ⟨g, 0, none⟩ ∨ H ≤ g) := by
    rcases r3 with h | h
    · left
      rcases hown.2 with ⟨h5, _⟩ | ⟨g', cap', cur, h5, _⟩
      · cases h5; cases h
      · cases h5; cases h; rfl
    · right; have := HZ.out; omega
  have hgJ : g ≠ J := by
    rcases r3 with h | h
    · intro h2; exact hJo (h2 ▸ h)
    · have := HZ.out; omega
  clear hS0 hJ0 hown0 hb0 hJ2 hown2 hb3 m3 mX cX cA mD hi hi0 hi1 hi2 r2 r3 hzX hS3
  refine wpAnyU_last (by kernel_rfl) (by simp) ?_
  refine wpAny_tail _ 10 _ _ _ (by kernel_rfl) ?_
  simp only [List.drop_succ_cons, List.drop_zero]
  have p1 : jcells sv tv key ep (.slice ea m ec) last next wv e0 = ([sv, tv] ++ (key.map B ++ [.int .u64 ep])) ++ ([.slice ea m ec] ++ (last.map B ++ (next.map B ++ (.bool wv :: e0.cells)))) := by simp [jcells]
  have p2 : ([sv, tv] ++ (key.map B ++ [.int .u64 ep])) ++ ([.slice (some ⟨g, 0, none⟩) (m + 1) cap] ++ (last.map B ++ (next.map B ++ (.bool wv :: e0.cells)))) = ([sv, tv] ++ (key.map B ++ [.int .u64 ep, .slice (some ⟨g, 0, none⟩) (m + 1) cap])) ++ (last.map B ++ (next.map B ++ (.bool wv :: e0.cells))) := by simp
  rw [p1] at hJ3
  have t1 := range_of (o := 35) hJ3 (by simp [hk]) 0 _ rfl
  have f1 := hJ3.free 35
  have s1 := set_mid (last.map B ++ (next.map B ++ (.bool wv :: e0.cells))) [.slice (some ⟨g, 0, none⟩) (m + 1) cap] [.slice ea m ec] _ 35 hJ3 (by simp [hk]) rfl
  change CellsAt (V2.setCell ⟨J, 35, none⟩ (.slice (some ⟨g, 0, none⟩) (m + 1) cap)) _ _ _ at s1
  have mE1 := (Mod.refl V2 (· = J)).setCell (p := ⟨J, 35, none⟩) (.inl rfl) (.slice (some ⟨g, 0, none⟩) (m + 1) cap)
  rw [Nat.add_zero] at t1
  obtain ⟨X1, hX1⟩ : ∃ X, V2.setCell ⟨J, 35, none⟩ (.slice (some ⟨g, 0, none⟩) (m + 1) cap) = X := ⟨_, rfl⟩
  rw [hX1] at s1 mE1
  have HX1 := Box.mk hX1
  clear hX1
  go_wp2_with fail
  rw [HX1.out]
  have hlk := linked_any ba bn bc b X1 (hb4.mod mE1 (fun k hk2 h => hbJ (h ▸ hk2))) hbn h16 hb2
  have hll := linkL_length b (by omega)
  obtain ⟨lk, hlkx⟩ : ∃ y, linkL b = y := ⟨_, rfl⟩
  rw [hlkx] at hlk hll
  have HLK := Box.mk hlkx
  clear hlkx hJ3 t1 f1
  refine hlk.mono ?_
  rintro r X2 ⟨rfl, m4⟩
  replace s1 := s1.mod m4 nob
  rw [p2] at s1
  have t2 := there_of (o := 36) s1 (by simp [hk])
  rw [List.length_map, hl] at t2
  have s2 := set_mid (next.map B ++ (.bool wv :: e0.cells)) (lk.map B) (last.map B) _ 36 s1 (by simp [hk]) (by simp [hl, hll])
  have mE2 := Mod.setCells (b := J) (lk.map B) 36 (Mod.refl X2 (· = J)) rfl
  obtain ⟨X3, hX3⟩ : ∃ X, X2.setCells J 36 (lk.map B) = X := ⟨_, rfl⟩
  rw [hX3] at s2 mE2
  have p3 : ([sv, tv] ++ (key.map B ++ [.int .u64 ep, .slice (some ⟨g, 0, none⟩) (m + 1) cap])) ++ (lk.map B ++ (next.map B ++ (.bool wv :: e0.cells))) = jcells sv tv key ep (.slice (some ⟨g, 0, none⟩) (m + 1) cap) lk next wv e0 := by simp [jcells]
  rw [p3] at s2
  have hns : (arrB lk).size = 32 := by rw [arrB_size, hll]
  have mT := (mE1.wide (T := fun k => k = J ∨ inBlock (.slice ea m ec) k) (fun _ h => .inl (.inl h))).trans ((m4.wide (T := fun k => k = J ∨ inBlock (.slice ea m ec) k) (fun _ h => h.elim)).trans (mE2.wide (T := fun k => k = J ∨ inBlock (.slice ea m ec) k) (fun _ h => .inl (.inl h))))
  have hfin := owns_keep (owns_mod (owns_keep r1 mE1 hgJ) m4 (fun _ _ => nob)) mE2 hgJ
  have HX3 := Box.mk hX3
  clear hX3 s1 p1 p2 p3 hlk hb4 mE1 mE2 m4
  go_wp2_with (refine wpList_store_mid rfl 22 _ _ rfl J 36 (arrB lk) rfl rfl (by rw [hns]; exact t2) (by rw [hns]; exact size_b32) (arrB_one _) ?_; rw [show X2.setCells J 36 (arrB lk).toList = X3 from HX3.out])
  go_end0
  refine ⟨⟨_, rfl⟩, g, cap, by rw [HLK.out]; exact s2, ?_, mm3.trans mT, by rw [HH.out]; exact hge⟩
  simpa using hfin

end Go.Proofs.YtaeociedjdgdfaaGreatDoor

namespace Go.Proofs.YtaeociedjdgdfaaGreatDoor
open Go.RowKit Go.Shelf
set_option linter.unusedSimpArgs false
attribute [local go_sem] Oper.semAt_some

theorem wpStill_run {P : Program} {ops : Array Oper} {w : World} {Q : Act → Prop} {o : Oper} {a : Act} {rest : List Oper} {v : Value} (hw : Region.wanted o (yielded ops a.tmps) = true) (hr : (execOp a.eval o).run P w = .ok (.value v) w) (h : wpStill P ops w Q rest (a.put o.dst v)) : wpStill P ops w Q (o :: rest) a := by
  unfold wpStill
  rw [if_pos hw]
  unfold Oper.still
  rw [hr]
  exact ⟨rfl, h⟩
theorem wpStill_skip {P : Program} {ops : Array Oper} {w : World} {Q : Act → Prop} {o : Oper} {a : Act} {rest : List Oper} (hw : Region.wanted o (yielded ops a.tmps) = false) (h : wpStill P ops w Q rest (a.put o.dst undef)) : wpStill P ops w Q (o :: rest) a := by
  unfold wpStill
  rw [if_neg (by rw [hw]; exact Bool.false_ne_true)]
  exact h
/-- Bytes of which there are some lie in a block. -/
theorem bytes_lie {w : World} {a : Option Addr} {n c : Nat} {l : List UInt8} (h : BytesAt w (.slice a n c) l) (hl : 0 < l.length) : ∃ b o, a = some ⟨b, o, none⟩ ∧ ∀ (j : Nat) v, (l.map B)[j]? = some v → w.cell? ⟨b, o + j, none⟩ = some v := by
  rcases h with (⟨h1, h2⟩ | ⟨b, o, cap, h1, _, _, _, h4⟩) | ⟨h1, _⟩
  · have h5 := congrArg List.length h2
    simp at h5
    subst h5
    simp at hl
  · injection h1 with h5 h6 h7
    exact ⟨b, o, h5, h4⟩
  · have h5 := congrArg List.length h1
    simp at h5
    subst h5
    simp at hl

theorem four_set {V : World} {H : Nat} {t : TypeId} {a b c d u0 u1 u2 u3 : Value} (h : CellsAt V H #[a, b, c, d] t) :
    CellsAt ((((V.setCell ⟨H, 0, none⟩ u0).setCell ⟨H, 1, none⟩ u1).setCell ⟨H, 2, none⟩ u2).setCell ⟨H, 3, none⟩ u3) H #[u0, u1, u2, u3] t ∧
    Mod V ((((V.setCell ⟨H, 0, none⟩ u0).setCell ⟨H, 1, none⟩ u1).setCell ⟨H, 2, none⟩ u2).setCell ⟨H, 3, none⟩ u3) (· = H) := by
  refine ⟨?_, ((((Mod.refl V (· = H)).setCell (p := ⟨H, 0, none⟩) (.inl rfl) u0).setCell (p := ⟨H, 1, none⟩) (.inl rfl) u1).setCell (p := ⟨H, 2, none⟩) (.inl rfl) u2).setCell (p := ⟨H, 3, none⟩) (.inl rfl) u3⟩
  have h1 := (((h.set 0 u0).set 1 u1).set 2 u2).set 3 u3
  simpa using h1

set_option maxRecDepth 100000 in
set_option maxHeartbeats 4000000 in
theorem opened_any (J n : Nat) (key last b : List UInt8) (ba : Option Addr) (bn bc : Nat) (w : World) (hk : key.length = 32) (hl : last.length = 32) (c2 : w.rangeAt J 2 (key.map B)) (c36 : w.rangeAt J 36 (last.map B)) (hJ : J < w.heap.size)
    (hb : BytesAt w (.slice ba bn bc) b) (hbn : b.length = bn) (hblt : ∀ k, inBlock (.slice ba bn bc) k → k < w.heap.size) (hep : b.length = 96 → leN (b.take 8) < 1099511627776) :
    Calls Tryz.prog 54 #[.pointer (some ⟨J, 0, none⟩), .int .u64 n, .slice ba bn bc] w fun r w' => ∃ (e : Ent) (wr : Nat) (is : Bool), r = .returned (.tuple #[.agg #[.int .i64 e.kind, .int .i64 e.task, .int .u64 e.att, .int .i64 e.state], .int .u64 wr, .bool is]) ∧ Mod w w' Nob ∧
      ((openedP key last n b = some (e, wr) ∧ is = true) ∨ (openedP key last n b = none ∧ is = false)) := by
  by_cases h96 : bn = 96
  case neg =>
    refine (opened_short (.pointer (some ⟨J, 0, none⟩)) (.int .u64 n) ba bn bc w h96).mono ?_
    rintro r w' ⟨rfl, h⟩
    exact ⟨ent0, 0, false, rfl, h, .inr ⟨opened_none key last n b (by omega), rfl⟩⟩
  subst h96
  have hep' := hep hbn
  clear hep
  -- the parts
  obtain ⟨hd, hhd⟩ : ∃ y, b.take 16 = y := ⟨_, rfl⟩
  obtain ⟨x, hx⟩ : ∃ y, (b.drop 16).take 64 = y := ⟨_, rfl⟩
  obtain ⟨t, ht⟩ : ∃ y, b.drop 80 = y := ⟨_, rfl⟩
  have hhl : hd.length = 16 := by rw [← hhd, List.length_take, hbn]; rfl
  have hxl : x.length = 64 := by rw [← hx, List.length_take, List.length_drop, hbn]; rfl
  have htl : t.length = 16 := by rw [← ht, List.length_drop, hbn]
  have hxt : b.drop 16 = x ++ t := by rw [← hx, ← ht, show b.drop 80 = (b.drop 16).drop 64 by rw [List.drop_drop]]; exact (List.take_append_drop 64 _).symm
  obtain ⟨ep, hepx⟩ : ∃ y, leN (b.take 8) = y := ⟨_, rfl⟩
  obtain ⟨n', hn'⟩ : ∃ y, leN ((b.drop 8).take 8) = y := ⟨_, rfl⟩
  have hOP : openedP key last n b = bif (n' == n && (openOk key (nonceL n ep) hd x t && (xorL key (nonceL n ep) 1 x).drop 32 == last)) then some (entP (xorL key (nonceL n ep) 1 x), ep) else none := by
    unfold openedP tagOk unsealL openOk
    rw [hbn, hepx, hn', hhd, hx, ht]
    rfl
  have HOP := Box.mk hOP
  clear hOP
  have hlow := low_any (.slice ba 96 bc) b 8
  have hlow2 := fun (v : Value) => low_any v (b.drop 8) 8
  rw [hepx] at hep' hlow
  simp only [hn'] at hlow2
  obtain ⟨fa, fc, hsf, hbf⟩ := slice_from hb hbn 8 (by omega)
  obtain ⟨hsu, hbu⟩ := slice_upto hb hbn 16 (by omega)
  obtain ⟨ga, gc, hsg, hbg⟩ := slice_from hb hbn 16 (by omega)
  rw [hhd] at hbu
  rw [hxt] at hbg
  have hlt2 : ∀ k, inBlock (.slice ba 16 bc) k → k < w.heap.size := fun k hk2 => hblt k (by
    cases ba with
    | none => cases hk2
    | some p => obtain ⟨q, o, f⟩ := p; cases f <;> exact hk2)
  have hlt3 : ∀ k, inBlock (.slice ga 80 gc) k → k < w.heap.size := fun k hk2 => by
    obtain ⟨q, o, rfl, hq⟩ := bytes_lie hbg (by rw [List.length_append, hxl]; omega)
    obtain rfl : q = k := by simpa [inBlock, Value.ownBlock] using hk2
    exact cell_lt (hq 0 (B ((x ++ t)[0]'(by rw [List.length_append, hxl]; omega))) (by rw [List.getElem?_map, List.getElem?_eq_getElem]; rfl))
  have c0 := CellsAt.new w ent0.cells.toArray 38
  have m0 := (Mod.refl w Nob).alloc (.cells ent0.cells.toArray 38)
  have hz0 : (w.alloc (.cells ent0.cells.toArray 38)).heap.size = w.heap.size + 1 := by simp
  go_enter Tryz.func54, Tryz.ntmps54
  go_wp2_with fail
  change Calls _ _ _ (w.alloc (.cells ent0.cells.toArray 38)) _
  obtain ⟨W0, hW0⟩ : ∃ V, w.alloc (.cells ent0.cells.toArray 38) = V := ⟨_, rfl⟩
  rw [hW0] at c0 m0 hz0 ⊢
  obtain ⟨H, hH⟩ : ∃ H, w.heap.size = H := ⟨_, rfl⟩
  rw [hH] at c0 hz0 hblt hlt2 hlt3 hJ ⊢
  have HH := Lib.hid hH
  have hb0 := hb.mod m0 (fun _ _ => nob)
  have hbf0 := hbf.mod m0 (fun _ _ => nob)
  have hbu0 := hbu.mod m0 (fun _ _ => nob)
  have hbg0 := hbg.mod m0 (fun _ _ => nob)
  have hJn : ∀ W, Mod w W Nob → W.rangeAt J 2 (key.map B) ∧ W.rangeAt J 36 (last.map B) := fun W hm => by
    have hb := hm.block J (by rw [HH.out]; exact hJ) nob
    have hc : ∀ o, W.cell? ⟨J, o, none⟩ = w.cell? ⟨J, o, none⟩ := fun o => by simp [World.cell?, hb]
    exact ⟨fun j v hv => (hc _).trans (c2 j v hv), fun j v hv => (hc _).trans (c36 j v hv)⟩
  replace hlow := hlow W0 hb0 (by omega) (by omega)
  replace hlow2 := hlow2 (.slice fa 88 fc) W0 hbf0 (by rw [List.length_drop, hbn]; omega) (by omega)
  have hwe : IntKind.i64.wrap (ep : Int) = (ep : Int) := IntWalk.i64_in _ (by omega)
  have HEP := Box.mk hep'
  clear hep' hW0 hH c2 c36 hb hbf hbu hbg hhd hx ht hxt hepx hn' hb0 hbf0
  refine hlow.mono ?_
  rintro r V ⟨rfl, rfl⟩
  clear hlow
  rw [show (((8 : Nat) : Int)) = 8 from rfl, show 96 - 8 = 88 from rfl] at hsf
  rw [show (((16 : Nat) : Int)) = 16 from rfl] at hsu
  rw [show (((16 : Nat) : Int)) = 16 from rfl, show 96 - 16 = 80 from rfl] at hsg
  go_wp2_with fail
  refine hlow2.mono ?_
  rintro r V' ⟨rfl, rfl⟩
  clear hlow2 hsf
  by_cases hnn : n' = n
  case neg =>
    have hne : ((n' : Int) != (n : Int)) = true := bne_iff_ne.2 (by omega)
    have hnb : (n' == n) = false := beq_eq_false_iff_ne.2 hnn
    have q0 := c0.cell 0
    have q1 := c0.cell 1
    have q2 := c0.cell 2
    have q3 := c0.cell 3
    simp [ent0, Ent.cells] at q0 q1 q2 q3
    have f0 := c0.free 0
    have f1 := c0.free 1
    have f2 := c0.free 2
    have f3 := c0.free 3
    go_wp2_with fail
    obtain ⟨s4, mE⟩ := four_set (u0 := .int .i64 0) (u1 := .int .i64 0) (u2 := .int .u64 0) (u3 := .int .i64 0) (show CellsAt V' H #[.int .i64 0, .int .i64 0, .int .u64 0, .int .i64 0] _ from c0)
    have r0 := s4.cell 0
    have r1 := s4.cell 1
    have r2 := s4.cell 2
    have r3 := s4.cell 3
    simp at r0 r1 r2 r3
    refine bodyPost_ret (v := .tuple #[.agg #[.int .i64 0, .int .i64 0, .int .u64 0, .int .i64 0], .int .u64 0, .bool false]) (by simp [results, Tryz.f54, go_sem, r0, r1, r2, r3]) rfl ⟨ent0, 0, false, rfl, m0.drop mE (fun k (hk2 : k = H) => .inr (by have := HH.out; omega)), .inr ⟨?_, rfl⟩⟩
    rw [HOP.out, hnb]
    rfl
  subst hnn
  have hne : ((n' : Int) != (n' : Int)) = false := by simp
  go_wp2_with fail
  refine wp_no_panic ?_
  have mD := (Mod.refl V' Nob).drew
  replace m0 := m0.trans mD
  replace c0 := c0.mod mD nob
  have hbu1 := hbu0.mod mD (fun _ _ => nob)
  have hbg1 := hbg0.mod mD (fun _ _ => nob)
  have hz1 : V'.drew.heap.size = H + 1 := hz0
  refine wp_region_U (S := fun W => W.rangeAt J 2 (key.map B)) 12 (by kernel_rfl) ?_
  change wpAnyU _ _ _ _ _ _ _ _ _ V'.drew
  obtain ⟨V0, hV0⟩ : ∃ V, V'.drew = V := ⟨_, rfl⟩
  rw [hV0] at m0 c0 hbu1 hbg1 hz1 ⊢
  have hS0 : V0.rangeAt J 2 (key.map B) := (hJn V0 m0).1
  have hnl := nonceL_length n' ep
  have hno := fun W => nonce_any n' ep W (by have := HEP.out; omega)
  obtain ⟨nc, hnc⟩ : ∃ y, nonceL n' ep = y := ⟨_, rfl⟩
  rw [hnc] at hnl
  simp only [hnc] at hno
  have HNC := Box.mk hnc
  have HZ := Box.mk hz1
  clear hV0 mD hbu0 hbg0 hz0 hz1 hnc
  refine wpAnyU_takeP (i := 0) (v := .pointer (some ⟨J, 0, none⟩)) rfl (by kernel_rfl) (by kernel_rfl) (by kernel_rfl) (by decide) (fun _ _ _ h => h) (Or.inl ⟨by rfl, fun W => by go_simp⟩) (fun _ => hS0) ?_
  try simp only [Act.put, List.getElem_toArray, List.getElem_cons_zero, List.getElem_cons_succ, List.setIfInBounds_toArray, List.set_cons_zero, List.set_cons_succ]
  refine wpAnyU_takeP (i := 1) (v := .pointer (some ⟨J, 0, none⟩)) rfl (by kernel_rfl) (by kernel_rfl) (by kernel_rfl) (by decide) (fun _ _ _ h => h) (Or.inl ⟨by rfl, fun W => by go_simp⟩) (fun _ => hS0) ?_
  try simp only [Act.put, List.getElem_toArray, List.getElem_cons_zero, List.getElem_cons_succ, List.setIfInBounds_toArray, List.set_cons_zero, List.set_cons_succ]
  refine wpAnyU_takeP (i := 2) (v := .pointer (some ⟨J, 2, none⟩)) rfl (by kernel_rfl) (by kernel_rfl) (by kernel_rfl) (by decide) (fun _ _ _ h => h) (Or.inl ⟨by rfl, fun W => by go_simp⟩) (fun _ => hS0) ?_
  try simp only [Act.put, List.getElem_toArray, List.getElem_cons_zero, List.getElem_cons_succ, List.setIfInBounds_toArray, List.set_cons_zero, List.set_cons_succ]
  refine wpAnyU_take (i := 3) (v := .agg (arrB key)) rfl (by kernel_rfl) (by kernel_rfl) (by kernel_rfl) (by kernel_rfl) (by kernel_rfl) (fun _ _ _ h => h) (yieldsIf_load_mid (by rfl) 22 _ rfl J 2 rfl (key.map B) _ (fun W hS => hS) Tryz.underlying22 rfl (by rw [List.length_map, hk]; exact size_b32)) hS0 ?_
  try simp only [Act.put, List.getElem_toArray, List.getElem_cons_zero, List.getElem_cons_succ, List.setIfInBounds_toArray, List.set_cons_zero, List.set_cons_succ]
  refine wpAnyU_takeP (i := 4) (v := .int .u64 n') rfl (by kernel_rfl) (by kernel_rfl) (by kernel_rfl) (by decide) (fun _ _ _ h => h) (Or.inl ⟨by rfl, fun W => by go_simp⟩) (fun _ => hS0) ?_
  try simp only [Act.put, List.getElem_toArray, List.getElem_cons_zero, List.getElem_cons_succ, List.setIfInBounds_toArray, List.set_cons_zero, List.set_cons_succ]
  refine wpAnyU_takeP (i := 5) (v := .int .u64 ep) rfl (by kernel_rfl) (by kernel_rfl) (by kernel_rfl) (by decide) (fun _ _ _ h => h) (Or.inl ⟨by rfl, fun W => by go_simp⟩) (fun _ => hS0) ?_
  try simp only [Act.put, List.getElem_toArray, List.getElem_cons_zero, List.getElem_cons_succ, List.setIfInBounds_toArray, List.set_cons_zero, List.set_cons_succ]
  refine wpAnyU_takeP (i := 6) (v := .int .i64 ep) rfl (by kernel_rfl) (by kernel_rfl) (by kernel_rfl) (by decide) (fun _ _ _ h => h) (Or.inl ⟨by rfl, fun W => by go_simp⟩) (fun _ => hS0) ?_
  try simp only [Act.put, List.getElem_toArray, List.getElem_cons_zero, List.getElem_cons_succ, List.setIfInBounds_toArray, List.set_cons_zero, List.set_cons_succ]
  refine wpAnyU_takeP (i := 8) (v := .slice ba 96 bc) rfl (by kernel_rfl) (by kernel_rfl) (by kernel_rfl) (by decide) (fun _ _ _ h => h) (Or.inl ⟨by rfl, fun W => by go_simp⟩) (fun _ => hS0) ?_
  try simp only [Act.put, List.getElem_toArray, List.getElem_cons_zero, List.getElem_cons_succ, List.setIfInBounds_toArray, List.set_cons_zero, List.set_cons_succ]
  refine wpAnyU_takeP (i := 9) (v := .slice ba 16 bc) rfl (by kernel_rfl) (by kernel_rfl) (by kernel_rfl) (by decide) (fun _ _ _ h => h) (Or.inl ⟨by rfl, fun W => by go_simp⟩) (fun _ => hS0) ?_
  try simp only [Act.put, List.getElem_toArray, List.getElem_cons_zero, List.getElem_cons_succ, List.setIfInBounds_toArray, List.set_cons_zero, List.set_cons_succ]
  refine wpAnyU_takeP (i := 10) (v := .slice ba 96 bc) rfl (by kernel_rfl) (by kernel_rfl) (by kernel_rfl) (by decide) (fun _ _ _ h => h) (Or.inl ⟨by rfl, fun W => by go_simp⟩) (fun _ => hS0) ?_
  try simp only [Act.put, List.getElem_toArray, List.getElem_cons_zero, List.getElem_cons_succ, List.setIfInBounds_toArray, List.set_cons_zero, List.set_cons_succ]
  refine wpAnyU_takeP (i := 11) (v := .slice ga 80 gc) rfl (by kernel_rfl) (by kernel_rfl) (by kernel_rfl) (by decide) (fun _ _ _ h => h) (Or.inl ⟨by rfl, fun W => by go_simp⟩) (fun _ => hS0) ?_
  try simp only [Act.put, List.getElem_toArray, List.getElem_cons_zero, List.getElem_cons_succ, List.setIfInBounds_toArray, List.set_cons_zero, List.set_cons_succ]
  refine wpAnyU_one 7 _ (by kernel_rfl) rfl (fun K hK => ?_)
  go_simp
  refine (hno V0).mono ?_
  rintro r V1 ⟨rfl, m1⟩
  go_wp2_with fail
  replace m0 := m0.trans m1
  replace c0 := c0.mod m1 nob
  refine hK.out _ _ (fun _ => (hJn V1 m0).1) ?_
  clear hK K hno
  try simp only [Act.put, List.getElem_toArray, List.getElem_cons_zero, List.getElem_cons_succ, List.setIfInBounds_toArray, List.set_cons_zero, List.set_cons_succ]
  refine wpAnyU_last (by kernel_rfl) (by simp) ?_
  have hop := open_any key nc hd x t (ba, 16, bc) ga 64 gc V1 hk hnl (hbu1.mod m1 (fun _ _ => nob)) (hbg1.mod m1 (fun _ _ => nob)) hxl htl (by omega) (by omega) (fun k hk2 => by have := hlt2 k hk2; have := m0.size; have := HH.out; omega) (fun k hk2 => by have := hlt3 k hk2; have := m0.size; have := HH.out; omega)
  dsimp only [scv] at hop
  clear hS0 hbu1 hbg1 m1 hsu hsg
  refine wpAny_one 12 _ (by kernel_rfl) rfl (fun K hK => ?_)
  go_simp
  refine hop.mono ?_
  rintro r V2 ⟨pa, pn, pc, er, rfl, m2, hres⟩
  have HR := Box.mk hres
  clear hres
  go_wp2_with fail
  refine hK.out _ _ ?_
  clear hK K hop
  try simp only [Act.put, List.getElem_toArray, List.getElem_cons_zero, List.getElem_cons_succ, List.setIfInBounds_toArray, List.set_cons_zero, List.set_cons_succ]
  replace m0 := m0.trans m2
  replace c0 := c0.mod m2 nob
  refine wpAny_take (i := 13) (v := .tuple #[.slice pa pn pc, .int .i64 er]) rfl (by kernel_rfl) (by kernel_rfl) (by kernel_rfl) (fun _ _ _ h => h) (Or.inl ⟨by rfl, fun W => by go_simp⟩) ?_
  try simp only [Act.put, List.getElem_toArray, List.getElem_cons_zero, List.getElem_cons_succ, List.setIfInBounds_toArray, List.set_cons_zero, List.set_cons_succ]
  refine wpAny_take (i := 14) (v := .slice pa pn pc) rfl (by kernel_rfl) (by kernel_rfl) (by kernel_rfl) (fun _ _ _ h => h) (Or.inl ⟨by rfl, fun W => by go_simp⟩) ?_
  try simp only [Act.put, List.getElem_toArray, List.getElem_cons_zero, List.getElem_cons_succ, List.setIfInBounds_toArray, List.set_cons_zero, List.set_cons_succ]
  refine wpAny_take (i := 15) (v := .int .i64 er) rfl (by kernel_rfl) (by kernel_rfl) (by kernel_rfl) (fun _ _ _ h => h) (Or.inl ⟨by rfl, fun W => by go_simp⟩) ?_
  try simp only [Act.put, List.getElem_toArray, List.getElem_cons_zero, List.getElem_cons_succ, List.setIfInBounds_toArray, List.set_cons_zero, List.set_cons_succ]
  refine wpAny_take (i := 16) (v := .slice pa pn pc) rfl (by kernel_rfl) (by kernel_rfl) (by kernel_rfl) (fun _ _ _ h => h) (Or.inl ⟨by rfl, fun W => by go_simp⟩) ?_
  try simp only [Act.put, List.getElem_toArray, List.getElem_cons_zero, List.getElem_cons_succ, List.setIfInBounds_toArray, List.set_cons_zero, List.set_cons_succ]
  refine wpAny_take (i := 17) (v := .int .i64 er) rfl (by kernel_rfl) (by kernel_rfl) (by kernel_rfl) (fun _ _ _ h => h) (Or.inl ⟨by rfl, fun W => by go_simp⟩) ?_
  try simp only [Act.put, List.getElem_toArray, List.getElem_cons_zero, List.getElem_cons_succ, List.setIfInBounds_toArray, List.set_cons_zero, List.set_cons_succ]
  refine wpAny_done (by kernel_rfl) ?_ _
  try simp only [Act.put, List.getElem_toArray, List.getElem_cons_zero, List.getElem_cons_succ]
  go_wp2_with fail
  rcases HR.out with ⟨hok, rfl, rfl, hown⟩ | ⟨hok, rfl, rfl, rfl, rfl⟩
  case inr =>
    have HOK := Box.mk hok
    clear hok HR
    have mD := (Mod.refl V2 Nob).drew
    replace m0 := m0.trans mD
    replace c0 := c0.mod mD nob
    refine wp_no_panic ?_
    refine wp_region_still_lit (by kernel_rfl) (by kernel_rfl) ?_
    with_reducible refine wpStill_run (v := .int .i64 6) (by kernel_rfl) (by go_simp) ?_
    try simp only [Act.put, List.getElem_toArray, List.getElem_cons_zero, List.getElem_cons_succ, List.setIfInBounds_toArray, List.set_cons_zero, List.set_cons_succ]
    with_reducible refine wpStill_run (v := .bool true) (by kernel_rfl) (by go_simp) ?_
    try simp only [Act.put, List.getElem_toArray, List.getElem_cons_zero, List.getElem_cons_succ, List.setIfInBounds_toArray, List.set_cons_zero, List.set_cons_succ]
    with_reducible refine wpStill_run (v := .bool true) (by kernel_rfl) (by go_simp) ?_
    try simp only [Act.put, List.getElem_toArray, List.getElem_cons_zero, List.getElem_cons_succ, List.setIfInBounds_toArray, List.set_cons_zero, List.set_cons_succ]
    with_reducible refine wpStill_skip (by kernel_rfl) ?_
    try simp only [Act.put, List.getElem_toArray, List.getElem_cons_zero, List.getElem_cons_succ, List.setIfInBounds_toArray, List.set_cons_zero, List.set_cons_succ]
    with_reducible refine wpStill_skip (by kernel_rfl) ?_
    try simp only [Act.put, List.getElem_toArray, List.getElem_cons_zero, List.getElem_cons_succ, List.setIfInBounds_toArray, List.set_cons_zero, List.set_cons_succ]
    with_reducible refine wpStill_skip (by kernel_rfl) ?_
    try simp only [Act.put, List.getElem_toArray, List.getElem_cons_zero, List.getElem_cons_succ, List.setIfInBounds_toArray, List.set_cons_zero, List.set_cons_succ]
    with_reducible refine wpStill_skip (by kernel_rfl) ?_
    try simp only [Act.put, List.getElem_toArray, List.getElem_cons_zero, List.getElem_cons_succ, List.setIfInBounds_toArray, List.set_cons_zero, List.set_cons_succ]
    with_reducible refine wpStill_skip (by kernel_rfl) ?_
    try simp only [Act.put, List.getElem_toArray, List.getElem_cons_zero, List.getElem_cons_succ, List.setIfInBounds_toArray, List.set_cons_zero, List.set_cons_succ]
    with_reducible refine wpStill_skip (by kernel_rfl) ?_
    try simp only [Act.put, List.getElem_toArray, List.getElem_cons_zero, List.getElem_cons_succ, List.setIfInBounds_toArray, List.set_cons_zero, List.set_cons_succ]
    with_reducible refine wpStill_skip (by kernel_rfl) ?_
    try simp only [Act.put, List.getElem_toArray, List.getElem_cons_zero, List.getElem_cons_succ, List.setIfInBounds_toArray, List.set_cons_zero, List.set_cons_succ]
    with_reducible refine wpStill_skip (by kernel_rfl) ?_
    try simp only [Act.put, List.getElem_toArray, List.getElem_cons_zero, List.getElem_cons_succ, List.setIfInBounds_toArray, List.set_cons_zero, List.set_cons_succ]
    with_reducible refine wpStill_skip (by kernel_rfl) ?_
    try simp only [Act.put, List.getElem_toArray, List.getElem_cons_zero, List.getElem_cons_succ, List.setIfInBounds_toArray, List.set_cons_zero, List.set_cons_succ]
    with_reducible refine wpStill_run (v := .bool true) (by kernel_rfl) (by go_simp) ?_
    try simp only [Act.put, List.getElem_toArray, List.getElem_cons_zero, List.getElem_cons_succ, List.setIfInBounds_toArray, List.set_cons_zero, List.set_cons_succ]
    with_reducible refine wpStill_nil ?_
    change Exit.then _ _ _ _ V2.drew
    obtain ⟨V3, hV3⟩ : ∃ V, V2.drew = V := ⟨_, rfl⟩
    rw [hV3] at m0 c0 ⊢
    clear hV3 mD
    have q0 := c0.cell 0
    have q1 := c0.cell 1
    have q2 := c0.cell 2
    have q3 := c0.cell 3
    simp [ent0, Ent.cells] at q0 q1 q2 q3
    have f0 := c0.free 0
    have f1 := c0.free 1
    have f2 := c0.free 2
    have f3 := c0.free 3
    go_wp2_with fail
    obtain ⟨s4, mE⟩ := four_set (u0 := .int .i64 0) (u1 := .int .i64 0) (u2 := .int .u64 0) (u3 := .int .i64 0) (show CellsAt V3 H #[.int .i64 0, .int .i64 0, .int .u64 0, .int .i64 0] _ from c0)
    have r0 := s4.cell 0
    have r1 := s4.cell 1
    have r2 := s4.cell 2
    have r3 := s4.cell 3
    simp at r0 r1 r2 r3
    refine bodyPost_ret (v := .tuple #[.agg #[.int .i64 0, .int .i64 0, .int .u64 0, .int .i64 0], .int .u64 0, .bool false]) (by simp [results, Tryz.f54, go_sem, r0, r1, r2, r3]) rfl ⟨ent0, 0, false, rfl, m0.drop mE (fun k (hk2 : k = H) => .inr (by have := HH.out; omega)), .inr ⟨?_, rfl⟩⟩
    rw [HOP.out, HNC.out, HOK.out, Bool.false_and, Bool.and_false]
    rfl
  have hpl := xorL_length key nc 1 x
  rw [hxl] at hpl
  obtain ⟨p, hp⟩ : ∃ y, xorL key nc 1 x = y := ⟨_, rfl⟩
  rw [hp] at hown hpl
  have HP := Box.mk hp
  have HOK := Box.mk hok
  clear hok hp HR
  have hbp : BytesAt V2 (.slice pa 64 pc) p := BytesAt.of_owns hown
  obtain ⟨da, dc, hsd, hbd⟩ := slice_from hbp hpl 32 (by omega)
  obtain ⟨hse, hbe⟩ := slice_upto hbp hpl 32 (by omega)
  rw [show (((32 : Nat) : Int)) = 32 from rfl, show 64 - 32 = 32 from rfl] at hsd
  rw [show 64 - 32 = 32 from rfl] at hbd
  rw [show (((32 : Nat) : Int)) = 32 from rfl] at hse
  have hdl : (p.drop 32).length = 32 := by rw [List.length_drop, hpl]
  have htl2 : (p.take 32).length = 32 := by rw [List.length_take, hpl]; rfl
  obtain ⟨dp, hdp⟩ : ∃ y, p.drop 32 = y := ⟨_, rfl⟩
  rw [hdp] at hbd hdl
  have HDP := Box.mk hdp
  have mD := (Mod.refl V2 Nob).drew
  obtain ⟨qb, qo, rfl, hq⟩ := bytes_lie (hbd.mod mD (fun _ _ => nob)) (by omega)
  have hto := run_toArray (P := Tryz.prog) 22 32 5 (some ⟨qb, qo, none⟩) 32 dc Tryz.underlying22 (Nat.le_refl _)
  have hne2 : ∀ W, (binOp .neq 22 (.agg (dp.map B).toArray) (.agg (last.map B).toArray)).run Tryz.prog W = .ok (.bool (!(dp == last))) W := fun W => by
    have h5 := run_equalIn_bytes (P := Tryz.prog) W 9998 22 5 32 Tryz.underlying22 Tryz.underlying5 size_u8 dp last hdl hl
    rw [run_neq_struct]
    change ((Op.equalIn (9998 + 2) 22 (.agg (dp.map Extern.Stop.cell).toArray) (.agg (last.map Extern.Stop.cell).toArray)).run Tryz.prog W).andThen _ = _
    rw [h5]
    rfl
  have heg : Tryz.prog.eqGuardType Tryz.prog.depth 22 = false := by kernel_rfl
  obtain ⟨bb, hbb⟩ : ∃ y, (dp == last) = y := ⟨_, rfl⟩
  rw [hbb] at hne2
  have HBB := Box.mk hbb
  clear hbb hdp
  replace m0 := m0.trans mD
  replace c0 := c0.mod mD nob
  have hbe1 := hbe.mod mD (fun _ _ => nob)
  have hJ36 := (hJn _ m0).2
  have hz3 := m0.size
  refine wp_no_panic ?_
  refine wp_region_still_lit (by kernel_rfl) (by kernel_rfl) ?_
  change wpStill _ _ V2.drew (fun a' => Exit.then _ _ Exit.normal a' V2.drew) _ _
  obtain ⟨V3, hV3⟩ : ∃ V, V2.drew = V := ⟨_, rfl⟩
  rw [hV3] at m0 c0 hbe1 hJ36 hz3 hq ⊢
  clear hV3 mD hbe hbd hbp hown m2
  have hld1 : ∀ (o : Oper) (a : Act), o.op = .load 22 (.tmp 46) → a.eval (.tmp 46) = .pointer (some ⟨qb, qo, none⟩) → (execOp a.eval o).run Tryz.prog V3 = .ok (.value (.agg (dp.map B).toArray)) V3 := fun o a h1 h2 => exec_load_cells 22 _ h1 qb qo 32 5 h2 (dp.map B) Tryz.underlying22 size_b32 (by rw [List.length_map, hdl]) hq
  have hld2 : ∀ (o : Oper) (a : Act), o.op = .load 22 (.tmp 50) → a.eval (.tmp 50) = .pointer (some ⟨J, 36, none⟩) → (execOp a.eval o).run Tryz.prog V3 = .ok (.value (.agg (last.map B).toArray)) V3 := fun o a h1 h2 => exec_load_cells 22 _ h1 J 36 32 5 h2 (last.map B) Tryz.underlying22 size_b32 (by rw [List.length_map, hl]) hJ36
  with_reducible refine wpStill_run (v := .int .i64 0) (by kernel_rfl) (by go_simp) ?_
  try simp only [Act.put, List.getElem_toArray, List.getElem_cons_zero, List.getElem_cons_succ, List.setIfInBounds_toArray, List.set_cons_zero, List.set_cons_succ]
  with_reducible refine wpStill_run (v := .bool false) (by kernel_rfl) (by go_simp) ?_
  try simp only [Act.put, List.getElem_toArray, List.getElem_cons_zero, List.getElem_cons_succ, List.setIfInBounds_toArray, List.set_cons_zero, List.set_cons_succ]
  with_reducible refine wpStill_run (v := .bool false) (by kernel_rfl) (by go_simp) ?_
  try simp only [Act.put, List.getElem_toArray, List.getElem_cons_zero, List.getElem_cons_succ, List.setIfInBounds_toArray, List.set_cons_zero, List.set_cons_succ]
  with_reducible refine wpStill_run (v := .slice pa 64 pc) (by kernel_rfl) (by go_simp) ?_
  try simp only [Act.put, List.getElem_toArray, List.getElem_cons_zero, List.getElem_cons_succ, List.setIfInBounds_toArray, List.set_cons_zero, List.set_cons_succ]
  with_reducible refine wpStill_run (v := .slice (some ⟨qb, qo, none⟩) 32 dc) (by kernel_rfl) (by go_simp) ?_
  try simp only [Act.put, List.getElem_toArray, List.getElem_cons_zero, List.getElem_cons_succ, List.setIfInBounds_toArray, List.set_cons_zero, List.set_cons_succ]
  with_reducible refine wpStill_run (v := .pointer (some ⟨qb, qo, none⟩)) (by kernel_rfl) (by go_simp) ?_
  try simp only [Act.put, List.getElem_toArray, List.getElem_cons_zero, List.getElem_cons_succ, List.setIfInBounds_toArray, List.set_cons_zero, List.set_cons_succ]
  with_reducible refine wpStill_run (v := .agg (dp.map B).toArray) (by kernel_rfl) (hld1 _ _ rfl rfl) ?_
  try simp only [Act.put, List.getElem_toArray, List.getElem_cons_zero, List.getElem_cons_succ, List.setIfInBounds_toArray, List.set_cons_zero, List.set_cons_succ]
  with_reducible refine wpStill_run (v := .pointer (some ⟨J, 0, none⟩)) (by kernel_rfl) (by go_simp) ?_
  try simp only [Act.put, List.getElem_toArray, List.getElem_cons_zero, List.getElem_cons_succ, List.setIfInBounds_toArray, List.set_cons_zero, List.set_cons_succ]
  with_reducible refine wpStill_run (v := .pointer (some ⟨J, 0, none⟩)) (by kernel_rfl) (by go_simp) ?_
  try simp only [Act.put, List.getElem_toArray, List.getElem_cons_zero, List.getElem_cons_succ, List.setIfInBounds_toArray, List.set_cons_zero, List.set_cons_succ]
  with_reducible refine wpStill_run (v := .pointer (some ⟨J, 36, none⟩)) (by kernel_rfl) (by go_simp) ?_
  try simp only [Act.put, List.getElem_toArray, List.getElem_cons_zero, List.getElem_cons_succ, List.setIfInBounds_toArray, List.set_cons_zero, List.set_cons_succ]
  with_reducible refine wpStill_run (v := .agg (last.map B).toArray) (by kernel_rfl) (hld2 _ _ rfl rfl) ?_
  try simp only [Act.put, List.getElem_toArray, List.getElem_cons_zero, List.getElem_cons_succ, List.setIfInBounds_toArray, List.set_cons_zero, List.set_cons_succ]
  with_reducible refine wpStill_run (v := .bool (!bb)) (by kernel_rfl) (by go_simp) ?_
  try simp only [Act.put, List.getElem_toArray, List.getElem_cons_zero, List.getElem_cons_succ, List.setIfInBounds_toArray, List.set_cons_zero, List.set_cons_succ]
  with_reducible refine wpStill_run (v := .bool (!bb)) (by kernel_rfl) (by go_simp) ?_
  try simp only [Act.put, List.getElem_toArray, List.getElem_cons_zero, List.getElem_cons_succ, List.setIfInBounds_toArray, List.set_cons_zero, List.set_cons_succ]
  with_reducible refine wpStill_nil ?_
  clear hld1 hld2 hne2 heg hto hsd hq hJ36
  cases bb
  case false =>
    have q0 := c0.cell 0
    have q1 := c0.cell 1
    have q2 := c0.cell 2
    have q3 := c0.cell 3
    simp [ent0, Ent.cells] at q0 q1 q2 q3
    have f0 := c0.free 0
    have f1 := c0.free 1
    have f2 := c0.free 2
    have f3 := c0.free 3
    go_wp2_with fail
    obtain ⟨s4, mE⟩ := four_set (u0 := .int .i64 0) (u1 := .int .i64 0) (u2 := .int .u64 0) (u3 := .int .i64 0) (show CellsAt V3 H #[.int .i64 0, .int .i64 0, .int .u64 0, .int .i64 0] _ from c0)
    have r0 := s4.cell 0
    have r1 := s4.cell 1
    have r2 := s4.cell 2
    have r3 := s4.cell 3
    simp at r0 r1 r2 r3
    refine bodyPost_ret (v := .tuple #[.agg #[.int .i64 0, .int .i64 0, .int .u64 0, .int .i64 0], .int .u64 0, .bool false]) (by simp [results, Tryz.f54, go_sem, r0, r1, r2, r3]) rfl ⟨ent0, 0, false, rfl, m0.drop mE (fun k (hk2 : k = H) => .inr (by have := HH.out; omega)), .inr ⟨?_, rfl⟩⟩
    rw [HOP.out, HNC.out, HP.out, HDP.out, HBB.out, Bool.and_false, Bool.and_false]
    rfl
  go_wp2_with fail
  have hwo := words_any pa 32 pc 4 (p.take 32) V3 hbe1 htl2 rfl (by omega)
  clear hse hbe1 hne hwe
  refine hwo.mono ?_
  rintro r V4 ⟨wa, wc, rfl, hown, m4⟩
  replace m0 := m0.trans m4
  replace c0 := c0.mod m4 nob
  clear hwo m4
  obtain ⟨wg, rfl⟩ : ∃ g, wa = some ⟨g, 0, none⟩ := by
    rcases hown.2 with ⟨_, h0⟩ | ⟨g, cap', cur, h0, _⟩
    · omega
    · cases h0; exact ⟨g, rfl⟩
  obtain ⟨n0, hn0⟩ : ∃ y, wordP p 0 = y := ⟨_, rfl⟩
  obtain ⟨n1, hn1⟩ : ∃ y, wordP p 1 = y := ⟨_, rfl⟩
  obtain ⟨n2, hn2⟩ : ∃ y, wordP p 2 = y := ⟨_, rfl⟩
  obtain ⟨n3, hn3⟩ : ∃ y, wordP p 3 = y := ⟨_, rfl⟩
  have hwl : (wordsL (p.take 32) 4).map U64 = [U64 n0, U64 n1, U64 n2, U64 n3] := by
    rw [← hn0, ← hn1, ← hn2, ← hn3]
    rfl
  rw [hwl] at hown
  have HN0 := Box.mk hn0
  have HN1 := Box.mk hn1
  have HN2 := Box.mk hn2
  have HN3 := Box.mk hn3
  clear hn0 hn1 hn2 hn3 hwl
  have mD := (Mod.refl V4 Nob).drew
  have hown4 := owns_mod hown mD (fun _ _ => nob)
  replace m0 := m0.trans mD
  replace c0 := c0.mod mD nob
  have hS0 : V4.drew.ownsRow w.heap.size 29 1 (.slice (some ⟨wg, 0, none⟩) 4 wc) 4 [U64 n0, U64 n1, U64 n2, U64 n3] := by
    refine owns_down hown4 ?_
    have := HH.out
    omega
  go_wp2_with fail
  refine wp_no_panic ?_
  have hcl : ∀ W : World, W.ownsRow w.heap.size 29 1 (.slice (some ⟨wg, 0, none⟩) 4 wc) 4 [U64 n0, U64 n1, U64 n2, U64 n3] → W.cell? ⟨wg, 0, none⟩ = some (.int .u64 n0) ∧ W.cell? ⟨wg, 1, none⟩ = some (.int .u64 n1) ∧ W.cell? ⟨wg, 2, none⟩ = some (.int .u64 n2) ∧ W.cell? ⟨wg, 3, none⟩ = some (.int .u64 n3) := fun W h =>
    ⟨own_cell h 0 _ rfl, own_cell h 1 _ rfl, own_cell h 2 _ rfl, own_cell h 3 _ rfl⟩
  have hbu : Tryz.prog.built 38 [(0, .int .i64 (IntKind.i64.wrap (n0 : Int))), (1, .int .i64 (IntKind.i64.wrap (n1 : Int))), (2, .int .u64 n2), (3, .int .i64 (IntKind.i64.wrap (n3 : Int)))] = some #[.int .i64 (IntKind.i64.wrap (n0 : Int)), .int .i64 (IntKind.i64.wrap (n1 : Int)), .int .u64 n2, .int .i64 (IntKind.i64.wrap (n3 : Int))] := by kernel_rfl
  refine wp_region_U (S := fun W => W.ownsRow w.heap.size 29 1 (.slice (some ⟨wg, 0, none⟩) 4 wc) 4 [U64 n0, U64 n1, U64 n2, U64 n3]) 17 (by kernel_rfl) ?_
  change wpAnyU _ _ _ _ _ _ _ _ _ V4.drew
  obtain ⟨V5, hV5⟩ : ∃ V, V4.drew = V := ⟨_, rfl⟩
  rw [hV5] at m0 c0 hS0 ⊢
  clear hV5 mD hown hown4
  refine wpAnyU_takeP (i := 0) (v := .slice (some ⟨wg, 0, none⟩) 4 wc) rfl (by kernel_rfl) (by kernel_rfl) (by kernel_rfl) (by decide) (fun _ _ _ h => h) (Or.inl ⟨by rfl, fun W => by go_simp⟩) (fun _ => hS0) ?_
  try simp only [Act.put, List.getElem_toArray, List.getElem_cons_zero, List.getElem_cons_succ, List.setIfInBounds_toArray, List.set_cons_zero, List.set_cons_succ]
  refine wpAnyU_takeP (i := 1) (v := .pointer (some ⟨wg, 0, none⟩)) rfl (by kernel_rfl) (by kernel_rfl) (by kernel_rfl) (by decide) (fun _ _ _ h => h) (Or.inl ⟨by rfl, fun W => by go_simp⟩) (fun _ => hS0) ?_
  try simp only [Act.put, List.getElem_toArray, List.getElem_cons_zero, List.getElem_cons_succ, List.setIfInBounds_toArray, List.set_cons_zero, List.set_cons_succ]
  refine wpAnyU_take (i := 2) (v := .int .u64 n0) rfl (by kernel_rfl) (by kernel_rfl) (by kernel_rfl) (by kernel_rfl) (by kernel_rfl) (fun _ _ _ h => h) (Or.inl ⟨by rfl, fun W hS => by have y := (hcl W hS).1; go_simp⟩) hS0 ?_
  try simp only [Act.put, List.getElem_toArray, List.getElem_cons_zero, List.getElem_cons_succ, List.setIfInBounds_toArray, List.set_cons_zero, List.set_cons_succ]
  refine wpAnyU_takeP (i := 3) (v := .int .i64 (IntKind.i64.wrap (n0 : Int))) rfl (by kernel_rfl) (by kernel_rfl) (by kernel_rfl) (by decide) (fun _ _ _ h => h) (Or.inl ⟨by rfl, fun W => by go_simp⟩) (fun _ => hS0) ?_
  try simp only [Act.put, List.getElem_toArray, List.getElem_cons_zero, List.getElem_cons_succ, List.setIfInBounds_toArray, List.set_cons_zero, List.set_cons_succ]
  refine wpAnyU_takeP (i := 4) (v := .slice (some ⟨wg, 0, none⟩) 4 wc) rfl (by kernel_rfl) (by kernel_rfl) (by kernel_rfl) (by decide) (fun _ _ _ h => h) (Or.inl ⟨by rfl, fun W => by go_simp⟩) (fun _ => hS0) ?_
  try simp only [Act.put, List.getElem_toArray, List.getElem_cons_zero, List.getElem_cons_succ, List.setIfInBounds_toArray, List.set_cons_zero, List.set_cons_succ]
  refine wpAnyU_takeP (i := 5) (v := .pointer (some ⟨wg, 1, none⟩)) rfl (by kernel_rfl) (by kernel_rfl) (by kernel_rfl) (by decide) (fun _ _ _ h => h) (Or.inl ⟨by rfl, fun W => by go_simp⟩) (fun _ => hS0) ?_
  try simp only [Act.put, List.getElem_toArray, List.getElem_cons_zero, List.getElem_cons_succ, List.setIfInBounds_toArray, List.set_cons_zero, List.set_cons_succ]
  refine wpAnyU_take (i := 6) (v := .int .u64 n1) rfl (by kernel_rfl) (by kernel_rfl) (by kernel_rfl) (by kernel_rfl) (by kernel_rfl) (fun _ _ _ h => h) (Or.inl ⟨by rfl, fun W hS => by have y := (hcl W hS).2.1; go_simp⟩) hS0 ?_
  try simp only [Act.put, List.getElem_toArray, List.getElem_cons_zero, List.getElem_cons_succ, List.setIfInBounds_toArray, List.set_cons_zero, List.set_cons_succ]
  refine wpAnyU_takeP (i := 7) (v := .int .i64 (IntKind.i64.wrap (n1 : Int))) rfl (by kernel_rfl) (by kernel_rfl) (by kernel_rfl) (by decide) (fun _ _ _ h => h) (Or.inl ⟨by rfl, fun W => by go_simp⟩) (fun _ => hS0) ?_
  try simp only [Act.put, List.getElem_toArray, List.getElem_cons_zero, List.getElem_cons_succ, List.setIfInBounds_toArray, List.set_cons_zero, List.set_cons_succ]
  refine wpAnyU_takeP (i := 8) (v := .slice (some ⟨wg, 0, none⟩) 4 wc) rfl (by kernel_rfl) (by kernel_rfl) (by kernel_rfl) (by decide) (fun _ _ _ h => h) (Or.inl ⟨by rfl, fun W => by go_simp⟩) (fun _ => hS0) ?_
  try simp only [Act.put, List.getElem_toArray, List.getElem_cons_zero, List.getElem_cons_succ, List.setIfInBounds_toArray, List.set_cons_zero, List.set_cons_succ]
  refine wpAnyU_takeP (i := 9) (v := .pointer (some ⟨wg, 2, none⟩)) rfl (by kernel_rfl) (by kernel_rfl) (by kernel_rfl) (by decide) (fun _ _ _ h => h) (Or.inl ⟨by rfl, fun W => by go_simp⟩) (fun _ => hS0) ?_
  try simp only [Act.put, List.getElem_toArray, List.getElem_cons_zero, List.getElem_cons_succ, List.setIfInBounds_toArray, List.set_cons_zero, List.set_cons_succ]
  refine wpAnyU_take (i := 10) (v := .int .u64 n2) rfl (by kernel_rfl) (by kernel_rfl) (by kernel_rfl) (by kernel_rfl) (by kernel_rfl) (fun _ _ _ h => h) (Or.inl ⟨by rfl, fun W hS => by have y := (hcl W hS).2.2.1; go_simp⟩) hS0 ?_
  try simp only [Act.put, List.getElem_toArray, List.getElem_cons_zero, List.getElem_cons_succ, List.setIfInBounds_toArray, List.set_cons_zero, List.set_cons_succ]
  refine wpAnyU_takeP (i := 11) (v := .slice (some ⟨wg, 0, none⟩) 4 wc) rfl (by kernel_rfl) (by kernel_rfl) (by kernel_rfl) (by decide) (fun _ _ _ h => h) (Or.inl ⟨by rfl, fun W => by go_simp⟩) (fun _ => hS0) ?_
  try simp only [Act.put, List.getElem_toArray, List.getElem_cons_zero, List.getElem_cons_succ, List.setIfInBounds_toArray, List.set_cons_zero, List.set_cons_succ]
  refine wpAnyU_takeP (i := 12) (v := .pointer (some ⟨wg, 3, none⟩)) rfl (by kernel_rfl) (by kernel_rfl) (by kernel_rfl) (by decide) (fun _ _ _ h => h) (Or.inl ⟨by rfl, fun W => by go_simp⟩) (fun _ => hS0) ?_
  try simp only [Act.put, List.getElem_toArray, List.getElem_cons_zero, List.getElem_cons_succ, List.setIfInBounds_toArray, List.set_cons_zero, List.set_cons_succ]
  refine wpAnyU_take (i := 13) (v := .int .u64 n3) rfl (by kernel_rfl) (by kernel_rfl) (by kernel_rfl) (by kernel_rfl) (by kernel_rfl) (fun _ _ _ h => h) (Or.inl ⟨by rfl, fun W hS => by have y := (hcl W hS).2.2.2; go_simp⟩) hS0 ?_
  try simp only [Act.put, List.getElem_toArray, List.getElem_cons_zero, List.getElem_cons_succ, List.setIfInBounds_toArray, List.set_cons_zero, List.set_cons_succ]
  refine wpAnyU_takeP (i := 14) (v := .int .i64 (IntKind.i64.wrap (n3 : Int))) rfl (by kernel_rfl) (by kernel_rfl) (by kernel_rfl) (by decide) (fun _ _ _ h => h) (Or.inl ⟨by rfl, fun W => by go_simp⟩) (fun _ => hS0) ?_
  try simp only [Act.put, List.getElem_toArray, List.getElem_cons_zero, List.getElem_cons_succ, List.setIfInBounds_toArray, List.set_cons_zero, List.set_cons_succ]
  refine wpAnyU_takeP (i := 15) (v := .agg #[.int .i64 (IntKind.i64.wrap (n0 : Int)), .int .i64 (IntKind.i64.wrap (n1 : Int)), .int .u64 n2, .int .i64 (IntKind.i64.wrap (n3 : Int))]) rfl (by kernel_rfl) (by kernel_rfl) (by kernel_rfl) (by decide) (fun _ _ _ h => h) (Or.inl ⟨by rfl, fun W => exec_build4 38 0 1 2 3 (.tmp 61) (.tmp 65) (.tmp 68) (.tmp 72) _ _ _ _ rfl rfl rfl rfl rfl _ hbu W⟩) (fun _ => hS0) ?_
  try simp only [Act.put, List.getElem_toArray, List.getElem_cons_zero, List.getElem_cons_succ, List.setIfInBounds_toArray, List.set_cons_zero, List.set_cons_succ]
  refine wpAnyU_takeP (i := 16) (v := .int .u64 ep) rfl (by kernel_rfl) (by kernel_rfl) (by kernel_rfl) (by decide) (fun _ _ _ h => h) (Or.inl ⟨by rfl, fun W => by go_simp⟩) (fun _ => hS0) ?_
  try simp only [Act.put, List.getElem_toArray, List.getElem_cons_zero, List.getElem_cons_succ, List.setIfInBounds_toArray, List.set_cons_zero, List.set_cons_succ]
  refine wpAnyU_last (by kernel_rfl) (by simp) ?_
  refine wpAny_tail _ 17 _ _ _ (by kernel_rfl) ?_
  simp only [List.drop_succ_cons, List.drop_zero]
  clear hS0 hcl hbu
  obtain ⟨x0, hx0⟩ : ∃ y, IntKind.i64.wrap (n0 : Int) = y := ⟨_, rfl⟩
  obtain ⟨x1, hx1⟩ : ∃ y, IntKind.i64.wrap (n1 : Int) = y := ⟨_, rfl⟩
  obtain ⟨x3, hx3⟩ : ∃ y, IntKind.i64.wrap (n3 : Int) = y := ⟨_, rfl⟩
  rw [hx0, hx1, hx3]
  have HX0 := Box.mk hx0
  have HX1 := Box.mk hx1
  have HX3 := Box.mk hx3
  clear hx0 hx1 hx3
  have q0 := c0.cell 0
  have q1 := c0.cell 1
  have q2 := c0.cell 2
  have q3 := c0.cell 3
  simp [ent0, Ent.cells] at q0 q1 q2 q3
  have f0 := c0.free 0
  have f1 := c0.free 1
  have f2 := c0.free 2
  have f3 := c0.free 3
  go_wp2_with fail
  obtain ⟨s4, mE⟩ := four_set (u0 := .int .i64 x0) (u1 := .int .i64 x1) (u2 := .int .u64 n2) (u3 := .int .i64 x3) (show CellsAt V5 H #[.int .i64 0, .int .i64 0, .int .u64 0, .int .i64 0] _ from c0)
  have r0 := s4.cell 0
  have r1 := s4.cell 1
  have r2 := s4.cell 2
  have r3 := s4.cell 3
  simp at r0 r1 r2 r3
  refine bodyPost_ret (v := .tuple #[.agg #[.int .i64 x0, .int .i64 x1, .int .u64 n2, .int .i64 x3], .int .u64 ep, .bool true]) (by simp [results, Tryz.f54, go_sem, r0, r1, r2, r3]) rfl ⟨⟨x0, x1, n2, x3⟩, ep, true, rfl, m0.drop mE (fun k (hk2 : k = H) => .inr (by have := HH.out; omega)), .inl ⟨?_, rfl⟩⟩
  rw [HOP.out, HNC.out, HOK.out, HP.out, HDP.out, HBB.out, Bool.and_true, Bool.and_true, show (n' == n') = true from beq_self_eq_true n']
  unfold entP
  rw [HN0.out, HN1.out, HN2.out, HN3.out, HX0.out, HX1.out, HX3.out]
  rfl

end Go.Proofs.YtaeociedjdgdfaaGreatDoor

namespace Go.Proofs.YtaeociedjdgdfaaGreatDoor
open Go.RowKit Go.Shelf
set_option linter.unusedSimpArgs false
attribute [local go_sem] Oper.semAt_some

/-- journal.stored, as it is ranged over, for a body that leaves whatever it likes. -/
theorem stored_everX (n : Nat) (hn : 1 ≤ n) (Bs Jb b N : Nat) (σ : Sto) (x : StoB) (hN99 : N ≤ 98) (hsh : σ.short) (w : World)
    (h1 : CellsAt w Bs #[.pointer (some ⟨Jb, 0, none⟩)] 33) (h2 : CellsAt w (Bs + 1) #[.nilFunc, .nilFunc] 89) (h3 : w.cell? ⟨Jb, 0, none⟩ = some (.pointer (some ⟨b, 0, none⟩))) (h4 : StoreAt w b σ x) :
    SeqEverX n Tryz.prog 75 #[.pointer (some ⟨Bs, 0, none⟩), .pointer (some ⟨Bs + 1, 0, none⟩)] nbv (KM (fun k => x.foot b k ∨ k = Bs ∨ k = Bs + 1) Jb) (EntIs σ w.heap.size) (fun _ => True) N w := fun l J Jx W hW hJ hN hY h0 => by
  have hm : Mod w W (fun k => w.heap.size ≤ k) := ⟨hW.os, hW.tape, hW.output, hW.size, fun k hk _ => hW.block k hk⟩
  have hb := hW.block Jb (cell_lt h3)
  refine (stored_in n hn l Bs Jb b N w.heap.size σ x hN99 J Jx W hW.size hsh hJ hN hY ((hW.block Bs h1.lt).trans h1) ((hW.block (Bs + 1) h2.lt).trans h2) (by unfold World.cell? at h3 ⊢; simpa [hb] using h3) (h4.mod hm (fun k hk h => by have := h4.foot_lt k h; omega)) h0).mono ?_
  rintro e W' ⟨he, pre, hx⟩
  exact ⟨he, pre, trivial, hx⟩

/-- What a store shows at an entry's name. -/
def getP (σ : Sto) (n : Nat) : List UInt8 := (σ.shows (nameS n)).getD []
/-- What a journal begins with: its entries, what the next one bears, and the entry that is adopted (sealed anew), if one is. -/
def beginP (key : List UInt8) (get : Nat → List UInt8) (ep cnt wr : Nat) : Option (List Ent × List UInt8 × Option (List UInt8)) :=
  (stepsP key get cnt).bind fun s => bif s.2.2 == wr then
    (match openedP key s.2.1 (cnt + 1) (get (cnt + 1)) with
    | none => some (s.1, s.2.1, none)
    | some y => some (s.1 ++ [y.1], linkL (entryL key ep (cnt + 1) y.1 s.2.1), some (entryL key ep (cnt + 1) y.1 s.2.1))) else none
def putAd (σ : Sto) (cnt : Nat) : Option (List UInt8) → Sto
  | none => σ
  | some en => σ.put (nameS (cnt + 1)) en
def movAd (τ : Tru) : Option (List UInt8) → Tru
  | none => τ
  | some _ => ⟨τ.ep, τ.cnt + 1, τ.ep⟩
section
variable {key : List UInt8} {get : Nat → List UInt8} {ep cnt wr wr' k : Nat} {es : List Ent} {last : List UInt8}
theorem beginP_stop (h : stepsP key get cnt = some (es, last, wr)) (ho : openedP key last (cnt + 1) (get (cnt + 1)) = none) : beginP key get ep cnt wr = some (es, last, none) := by
  unfold beginP
  rw [h, Option.bind_some, ho, show (wr == wr) = true from beq_self_eq_true wr]
  rfl
theorem beginP_adopt {e : Ent} {by_ : Nat} (h : stepsP key get cnt = some (es, last, wr)) (ho : openedP key last (cnt + 1) (get (cnt + 1)) = some (e, by_)) :
    beginP key get ep cnt wr = some (es ++ [e], linkL (entryL key ep (cnt + 1) e last), some (entryL key ep (cnt + 1) e last)) := by
  unfold beginP
  rw [h, Option.bind_some, ho, show (wr == wr) = true from beq_self_eq_true wr]
  rfl
theorem beginP_other (h : stepsP key get cnt = some (es, last, wr')) (hw : wr' ≠ wr) : beginP key get ep cnt wr = none := by
  unfold beginP
  rw [h, Option.bind_some, show (wr' == wr) = false from beq_eq_false_iff_ne.2 hw]
  rfl
theorem beginP_bad (h : stepsP key get k = some (es, last, wr')) (ho : openedP key last (k + 1) (get (k + 1)) = none) (hk : k < cnt) : beginP key get ep cnt wr = none := by
  have h1 : stepsP key get (k + 1) = none := by
    rw [stepsP_succ key get k es last wr' h, ho]
    rfl
  obtain ⟨j, rfl⟩ : ∃ j, cnt = k + 1 + j := ⟨cnt - (k + 1), by omega⟩
  unfold beginP
  rw [stepsP_down key get (k + 1) h1 j]
  rfl
end

/-- What stands while the journal begins. -/
structure BegG (w : World) (H tb gp jb G b : Nat) (key : List UInt8) (ep : Nat) (T : Nat → Prop) (σ : Sto) (x : StoB) (τ : Tru) (es : List Ent) (last : List UInt8) (wr : Nat) (good : Bool) (W : World) : Prop where
  t : CellsAt W H #[.pointer (some ⟨tb, 0, none⟩)] 26
  pe : CellsAt W (H + 2) #[.int .u64 ep] 29
  y : CellsAt W (H + 3) #[.nilFunc, .nilFunc] 89
  g : CellsAt W gp #[.pointer (some ⟨jb, 0, none⟩)] 33
  j : ∃ ea ec, CellsAt W jb (jcells (.pointer (some ⟨b, 0, none⟩)) (.pointer (some ⟨tb, 0, none⟩)) key ep (.slice ea es.length ec) last zl32 false ent0).toArray 92 ∧
    W.ownsRow (G + 4) 38 4 (.slice ea es.length ec) es.length (es.flatMap Ent.cells) ∧ ∀ k, inBlock (.slice ea es.length ec) k → ¬ x.foot b k
  r : CellsAt W (H + 4) #[.pointer none] 33
  s : CellsAt W (H + 5) #[.int .i64 0] 30
  pwr : CellsAt W G #[.int .u64 wr] 29
  pgood : CellsAt W (G + 1) #[.bool good] 4
  tr : TruAt W tb τ
  st : StoreAt W b σ x
  md : Mod w W T
  size : G + 4 ≤ W.heap.size
section
variable {w W W' : World} {H tb gp jb G b : Nat} {key : List UInt8} {ep : Nat} {T : Nat → Prop} {σ : Sto} {x : StoB} {τ : Tru} {es : List Ent} {last : List UInt8} {wr : Nat} {good : Bool}
theorem BegG.mod (h : BegG w H tb gp jb G b key ep T σ x τ es last wr good W) (hm : Mod W W' Nob) : BegG w H tb gp jb G b key ep T σ x τ es last wr good W' := by
  obtain ⟨ea, ec, j1, j2, j3⟩ := h.j
  exact ⟨h.t.mod hm nob, h.pe.mod hm nob, h.y.mod hm nob, h.g.mod hm nob, ⟨ea, ec, j1.mod hm nob, owns_mod j2 hm (fun _ _ => nob), j3⟩, h.r.mod hm nob, h.s.mod hm nob, h.pwr.mod hm nob, h.pgood.mod hm nob, h.tr.mod hm nob, h.st.mod hm (fun _ h => h.elim), h.md.trans hm.nob, by have := hm.size; have := h.size; omega⟩
/-- Blocks that are no cells, and none of the store's, turn. -/
theorem BegG.far (h : BegG w H tb gp jb G b key ep T σ x τ es last wr good W) {S : Nat → Prop} (hm : Mod W W' S) (hS : ∀ k, S k → G + 4 ≤ k ∧ ¬ x.foot b k ∧ ∀ o : Obj, W.heap[k]? = some o → o.isCells = false) (hH : w.heap.size = H) (hG : H ≤ G) : BegG w H tb gp jb G b key ep T σ x τ es last wr good W' := by
  have hn : ∀ {g : Nat} {cs : Array Value} {t : TypeId}, CellsAt W g cs t → CellsAt W' g cs t := fun {g cs t} hc => hc.mod hm (fun hs => by
    have h1 := (hS g hs).2.2 _ hc
    cases h1)
  obtain ⟨ea, ec, j1, j2, j3⟩ := h.j
  refine ⟨hn h.t, hn h.pe, hn h.y, hn h.g, ⟨ea, ec, hn j1, owns_mod j2 hm (fun k hk hs => ?_), j3⟩, hn h.r, hn h.s, hn h.pwr, hn h.pgood, hn h.tr, h.st.mod hm (fun k hs => (hS k hs).2.1), h.md.drop hm (fun k hs => .inr (by have := (hS k hs).1; omega)), by have := hm.size; have := h.size; omega⟩
  obtain ⟨o, h1, h2⟩ := owns_cells j2 k hk
  rw [(hS k hs).2.2 o h1] at h2
  cases h2
end

theorem own_notE {A : World} {base n : Nat} {v : Value} {xs : List Value} (c : A.ownsRow base 38 4 v n xs) (k : Nat) (hk : inBlock v k) : ¬ IsB A k := by
  rintro ⟨cs, hc⟩
  rcases c with ⟨hl, ⟨rfl, h0⟩ | ⟨g, cap, cur, rfl, hb, hg, rest⟩⟩
  · cases hk
  · cases hk
    have := Option.some.inj (hc.symm.trans hg)
    cases this
theorem keepsFrom_cells {B : Nat} {W W' : World} {S : Nat → Prop} (h : Mod W W' S) (hS : ∀ k, S k → k < B ∨ ∃ o : Obj, W.heap[k]? = some o ∧ o.isCells = true) : KeepsFrom B W W' :=
  ⟨h.size, fun k o hk ho hc => h.keep ho (fun hs => by
    rcases hS k hs with h1 | ⟨o', h1, h2⟩
    · omega
    · rw [ho] at h1; cases h1; rw [hc] at h2; cases h2)⟩
/-- Some blocks turn; what they hold then is known. -/
theorem BegG.turn {w W W' : World} {H tb gp jb G b : Nat} {key : List UInt8} {ep : Nat} {x0 : StoB} {σ σ' : Sto} {x x' : StoB} {τ τ' : Tru} {es es' : List Ent} {last last' : List UInt8} {wr wr' : Nat} {good good' : Bool} {S : Nat → Prop}
    (h : BegG w H tb gp jb G b key ep (fun k => k = tb ∨ x0.own b k) σ x τ es last wr good W) (hm : Mod W W' S) (hS : ∀ k, S k → k = G ∨ k = G + 1 ∨ k = jb ∨ k = tb ∨ x0.own b k ∨ G + 4 ≤ k)
    (hH : w.heap.size = H) (h1 : tb < H) (h2 : ∀ k, x0.foot b k → k < H) (h3 : H + 6 ≤ gp) (h4 : H + 6 ≤ jb) (h5 : gp < G) (h6 : jb < G) (h7 : gp ≠ jb)
    (hj : ∃ ea ec, CellsAt W' jb (jcells (.pointer (some ⟨b, 0, none⟩)) (.pointer (some ⟨tb, 0, none⟩)) key ep (.slice ea es'.length ec) last' zl32 false ent0).toArray 92 ∧
      W'.ownsRow (G + 4) 38 4 (.slice ea es'.length ec) es'.length (es'.flatMap Ent.cells) ∧ ∀ k, inBlock (.slice ea es'.length ec) k → ¬ x'.foot b k)
    (hw : CellsAt W' G #[.int .u64 wr'] 29) (hg : CellsAt W' (G + 1) #[.bool good'] 4) (ht : TruAt W' tb τ') (hs : StoreAt W' b σ' x') :
    BegG w H tb gp jb G b key ep (fun k => k = tb ∨ x0.own b k) σ' x' τ' es' last' wr' good' W' := by
  have hn : ∀ k, (k = H ∨ k = H + 2 ∨ k = H + 3 ∨ k = gp ∨ k = H + 4 ∨ k = H + 5) → ¬ S k := fun k hk hs2 => by
    rcases hS k hs2 with h8 | h8 | h8 | h8 | h8 | h8
    · omega
    · omega
    · omega
    · omega
    · have := h2 k (.inl h8); omega
    · omega
  exact ⟨h.t.mod hm (hn _ (by omega)), h.pe.mod hm (hn _ (by omega)), h.y.mod hm (hn _ (by omega)), h.g.mod hm (hn _ (by omega)), hj, h.r.mod hm (hn _ (by omega)), h.s.mod hm (hn _ (by omega)), hw, hg, ht, hs,
    h.md.drop hm (fun k hk => by
      rcases hS k hk with h8 | h8 | h8 | h8 | h8 | h8
      · right; omega
      · right; omega
      · right; omega
      · left; left; exact h8
      · left; right; exact h8
      · right; omega), by have := hm.size; have := h.size; omega⟩

/-- How it ends: what stands then. -/
def OutOf (key : List UInt8) (σ : Sto) (τ : Tru) (σ' : Sto) (τ' : Tru) (es : List Ent) (last : List UInt8) (wr : Nat) (good : Bool) : Prop :=
  (good = true ∧ wr = τ'.wr ∧ ∃ ad, beginP key (getP σ) τ.ep τ.cnt τ.wr = some (es, last, ad) ∧ σ' = putAd σ τ.cnt ad ∧ τ' = movAd τ ad) ∨
  ((good = false ∨ wr ≠ τ'.wr) ∧ beginP key (getP σ) τ.ep τ.cnt τ.wr = none ∧ σ' = σ ∧ τ' = τ)

set_option maxRecDepth 100000 in
set_option maxHeartbeats 16000000 in
theorem begin_any (b tb : Nat) (σ : Sto) (x : StoB) (τ : Tru) (job : List UInt8) (w : World) (hσ : StoreAt w b σ x) (hsh : σ.short) (hτ : TruAt w tb τ) (he : 0 < τ.ep) (h60 : τ.ep < 1073741824) (hj : job.length = 32)
    (hcn : τ.cnt ≤ 96) (htf : ¬ x.foot b tb) (heps : ∀ n, (getP σ n).length = 96 → leN ((getP σ n).take 8) < 1099511627776) (hch : σ.changes.length < 1073741824) (hpu : σ.puts.length < 1073741824) (hve : ∀ nm, (σ.vers nm).length < 1073741824) :
    Calls Tryz.prog 31 #[.pointer (some ⟨b, 0, none⟩), .pointer (some ⟨tb, 0, none⟩), .agg (arrB job), .int .u64 τ.ep, eyes0] w fun r w' => ∃ σ' x' τ', StoreAt w' b σ' x' ∧ (∀ k, x'.foot b k → x.foot b k ∨ w.heap.size ≤ k) ∧ TruAt w' tb τ' ∧ Mod w w' (fun k => k = tb ∨ x.own b k) ∧
      ((beginP (journalK job) (getP σ) τ.ep τ.cnt τ.wr = none ∧ r = .returned (.tuple #[.pointer none, .int .i64 9]) ∧ σ' = σ ∧ τ' = τ) ∨
      ∃ es last ad J ea ec, beginP (journalK job) (getP σ) τ.ep τ.cnt τ.wr = some (es, last, ad) ∧ σ' = putAd σ τ.cnt ad ∧ τ' = movAd τ ad ∧ r = .returned (.tuple #[.pointer (some ⟨J, 0, none⟩), .int .i64 0]) ∧ w.heap.size ≤ J ∧ ¬ x'.foot b J ∧
        CellsAt w' J (jcells (.pointer (some ⟨b, 0, none⟩)) (.pointer (some ⟨tb, 0, none⟩)) (journalK job) τ.ep (.slice ea es.length ec) last zl32 false ent0).toArray 92 ∧
        w'.ownsRow w.heap.size 38 4 (.slice ea es.length ec) es.length (es.flatMap Ent.cells) ∧ ¬ inBlock (.slice ea es.length ec) J ∧ ∀ k, inBlock (.slice ea es.length ec) k → ¬ x'.foot b k) := by
  obtain ⟨ep, cnt, wr⟩ := τ
  unfold eyes0
  have m0 := ((((((Mod.refl w Nob).alloc (.cells #[.pointer (some ⟨tb, 0, none⟩)] 26)).alloc (.cells (arrB job) 22)).alloc (.cells #[.int .u64 ep] 29)).alloc (.cells #[.nilFunc, .nilFunc] 89)).alloc (.cells #[.pointer none] 33)).alloc (.cells #[.int .i64 0] 30)
  refine (callsIn_wide (n := 6)).1 ?_
  refine callsIn_of_wp_marks Tryz.func31 rfl trivial ?_ rfl
  simp only [Tryz.ntmps31, List.size_toArray, List.length_cons, List.length_nil, Nat.reduceAdd, Nat.reduceSub, Array.replicate_succ, Array.replicate_zero, List.push_toArray, List.append_toArray, List.nil_append, List.cons_append]
  refine wpIn_wide.2 ?_
  go_wp2_with fail
  have cT := (((((CellsAt.new w #[.pointer (some ⟨tb, 0, none⟩)] 26).alloc (.cells (arrB job) 22)).alloc (.cells #[.int .u64 ep] 29)).alloc (.cells #[.nilFunc, .nilFunc] 89)).alloc (.cells #[.pointer none] 33)).alloc (.cells #[.int .i64 0] 30)
  have cJ := ((((new_at (w := w.alloc (.cells #[.pointer (some ⟨tb, 0, none⟩)] 26)) (cs := arrB job) (t := 22) (g := w.heap.size + 1) (by simp)).alloc (.cells #[.int .u64 ep] 29)).alloc (.cells #[.nilFunc, .nilFunc] 89)).alloc (.cells #[.pointer none] 33)).alloc (.cells #[.int .i64 0] 30)
  have cE := (((new_at (w := (w.alloc (.cells #[.pointer (some ⟨tb, 0, none⟩)] 26)).alloc (.cells (arrB job) 22)) (cs := #[.int .u64 ep]) (t := 29) (g := w.heap.size + 2) (by simp)).alloc (.cells #[.nilFunc, .nilFunc] 89)).alloc (.cells #[.pointer none] 33)).alloc (.cells #[.int .i64 0] 30)
  have cY := ((new_at (w := ((w.alloc (.cells #[.pointer (some ⟨tb, 0, none⟩)] 26)).alloc (.cells (arrB job) 22)).alloc (.cells #[.int .u64 ep] 29)) (cs := #[.nilFunc, .nilFunc]) (t := 89) (g := w.heap.size + 3) (by simp)).alloc (.cells #[.pointer none] 33)).alloc (.cells #[.int .i64 0] 30)
  have cR := (new_at (w := (((w.alloc (.cells #[.pointer (some ⟨tb, 0, none⟩)] 26)).alloc (.cells (arrB job) 22)).alloc (.cells #[.int .u64 ep] 29)).alloc (.cells #[.nilFunc, .nilFunc] 89)) (cs := #[.pointer none]) (t := 33) (g := w.heap.size + 4) (by simp)).alloc (.cells #[.int .i64 0] 30)
  have cS := new_at (w := ((((w.alloc (.cells #[.pointer (some ⟨tb, 0, none⟩)] 26)).alloc (.cells (arrB job) 22)).alloc (.cells #[.int .u64 ep] 29)).alloc (.cells #[.nilFunc, .nilFunc] 89)).alloc (.cells #[.pointer none] 33)) (cs := #[.int .i64 0]) (t := 30) (g := w.heap.size + 5) (by simp)
  have hz : ((((((w.alloc (.cells #[.pointer (some ⟨tb, 0, none⟩)] 26)).alloc (.cells (arrB job) 22)).alloc (.cells #[.int .u64 ep] 29)).alloc (.cells #[.nilFunc, .nilFunc] 89)).alloc (.cells #[.pointer none] 33)).alloc (.cells #[.int .i64 0] 30)).heap.size = w.heap.size + 6 := by simp
  obtain ⟨W1, hW1⟩ : ∃ W1, ((((((w.alloc (.cells #[.pointer (some ⟨tb, 0, none⟩)] 26)).alloc (.cells (arrB job) 22)).alloc (.cells #[.int .u64 ep] 29)).alloc (.cells #[.nilFunc, .nilFunc] 89)).alloc (.cells #[.pointer none] 33)).alloc (.cells #[.int .i64 0] 30)) = W1 := ⟨_, rfl⟩
  rw [hW1] at m0 cT cJ cE cY cR cS hz ⊢
  obtain ⟨H, hH⟩ : ∃ H, w.heap.size = H := ⟨_, rfl⟩
  rw [hH] at cT cJ cE cY cR cS hz ⊢
  have HH := Lib.hid hH
  have hσ1 := hσ.mod m0 (fun _ h => h.elim)
  have hτ1 := hτ.mod m0 nob
  clear hW1 hH
  go_step3
  have t6 := cT.cell 0
  have t8 := cE.cell 0
  simp at t6 t8
  have hep0 : ((ep : Int) == 0) = false := beq_eq_false_iff_ne.2 (by have : 0 < ep := he; omega)
  go_wp2_with fail
  refine wp_no_panic ?_
  have hepo : Calls Tryz.prog 51 #[.pointer (some ⟨tb, 0, none⟩)] { W1 with drawn := W1.drawn + 1 } (fun e w' => e = .returned (.int .u64 ep) ∧ w' = { W1 with drawn := W1.drawn + 1 }) :=
    (trust_epoch tb ⟨ep, cnt, wr⟩ { W1 with drawn := W1.drawn + 1 } (hτ1.mod (Mod.refl W1 Nob).drew nob)).mono (fun e w' h => ⟨h.1, h.2.symm⟩)
  refine wp_region_still_lit (by kernel_rfl) (by kernel_rfl) ?_
  repeat still_step
  still_call hepo
  repeat still_step
  refine wpStill_nil ?_
  have mD := (Mod.refl W1 Nob).drew
  replace cT := cT.mod mD nob
  replace cJ := cJ.mod mD nob
  replace cE := cE.mod mD nob
  replace cY := cY.mod mD nob
  replace cR := cR.mod mD nob
  replace cS := cS.mod mD nob
  replace hσ1 := hσ1.mod mD (fun _ h => h.elim)
  replace hτ1 := hτ1.mod mD nob
  replace m0 := m0.trans mD
  have hz2 : W1.drew.heap.size = H + 6 := hz
  obtain ⟨W2, hW2⟩ : ∃ W, W1.drew = W := ⟨_, rfl⟩
  change Exit.then _ _ _ _ W1.drew
  rw [hW2] at cT cJ cE cY cR cS hσ1 hτ1 m0 hz2 ⊢
  clear hW2 mD t6 t8 hepo hz
  go_wp2_with fail
  -- G5
  obtain ⟨jc, hjc⟩ : ∃ y, (jcells (.pointer (some ⟨b, 0, none⟩)) (.pointer (some ⟨tb, 0, none⟩)) (journalK job) ep (.slice none 0 0) zl32 zl32 false ent0).toArray = y := ⟨_, rfl⟩
  have HJC := Box.mk hjc
  go_cut [12] from 22 (fun t12 wx => ∃ gp jb, t12 = .pointer (some ⟨gp, 0, none⟩) ∧ H + 6 ≤ gp ∧ H + 6 ≤ jb ∧ CellsAt wx gp #[.pointer (some ⟨jb, 0, none⟩)] 33 ∧ CellsAt wx jb jc 92 ∧ Mod W2 wx Nob)
  case first =>
    have mD := (Mod.refl W2 Nob).drew
    have hkl := journalK_length job
    have hjk := fun W => journalK_any job W hj
    have hbu := built_jou (.pointer (some ⟨b, 0, none⟩)) (.pointer (some ⟨tb, 0, none⟩)) (journalK job) ep rfl rfl hkl
    change _ = some (jcells (.pointer (some ⟨b, 0, none⟩)) (.pointer (some ⟨tb, 0, none⟩)) (journalK job) ep (.slice none 0 0) zl32 zl32 false ent0).toArray at hbu
    rw [hjc] at hbu
    obtain ⟨jk, hjk0⟩ : ∃ y, journalK job = y := ⟨_, rfl⟩
    rw [hjk0] at hbu
    simp only [hjk0] at hjk
    have hS0 : CellsAt W2.drew H #[.pointer (some ⟨tb, 0, none⟩)] 26 ∧ CellsAt W2.drew (H + 1) (arrB job) 22 ∧ CellsAt W2.drew (H + 2) #[.int .u64 ep] 29 := ⟨cT.mod mD nob, cJ.mod mD nob, cE.mod mD nob⟩
    have hSm : ∀ W, Mod W2.drew W Nob → CellsAt W H #[.pointer (some ⟨tb, 0, none⟩)] 26 ∧ CellsAt W (H + 1) (arrB job) 22 ∧ CellsAt W (H + 2) #[.int .u64 ep] 29 := fun W hm => ⟨hS0.1.mod hm nob, hS0.2.1.mod hm nob, hS0.2.2.mod hm nob⟩
    have z0 : W2.drew.heap.size = H + 6 := hz2
    refine wp_no_panic ?_
    refine wp_region_U (S := fun W => CellsAt W H #[.pointer (some ⟨tb, 0, none⟩)] 26 ∧ CellsAt W (H + 1) (arrB job) 22 ∧ CellsAt W (H + 2) #[.int .u64 ep] 29) 8 (by kernel_rfl) ?_
    change wpAnyU _ _ _ _ _ _ _ _ _ W2.drew
    obtain ⟨V0, hV0⟩ : ∃ V, W2.drew = V := ⟨_, rfl⟩
    rw [hV0] at hS0 hSm z0 mD ⊢
    clear hV0 hjk0 hjc
    refine wpAnyU_takeP (i := 0) (v := .pointer (some ⟨b, 0, none⟩)) rfl (by kernel_rfl) (by kernel_rfl) (by kernel_rfl) (by decide) (fun _ _ _ h => h) (Or.inl ⟨by rfl, fun W => by go_simp⟩) (fun _ => hS0) ?_
    try simp only [Act.put, List.getElem_toArray, List.getElem_cons_zero, List.getElem_cons_succ, List.setIfInBounds_toArray, List.set_cons_zero, List.set_cons_succ]
    refine wpAnyU_take (i := 1) (v := .pointer (some ⟨tb, 0, none⟩)) rfl (by kernel_rfl) (by kernel_rfl) (by kernel_rfl) (by kernel_rfl) (by kernel_rfl) (fun _ _ _ h => h) (Or.inl ⟨by rfl, fun W hS => by have y := hS.1.cell 0; simp at y; go_simp⟩) hS0 ?_
    try simp only [Act.put, List.getElem_toArray, List.getElem_cons_zero, List.getElem_cons_succ, List.setIfInBounds_toArray, List.set_cons_zero, List.set_cons_succ]
    refine wpAnyU_take (i := 2) (v := .agg (arrB job)) rfl (by kernel_rfl) (by kernel_rfl) (by kernel_rfl) (by kernel_rfl) (by kernel_rfl) (fun _ _ _ h => h) (yieldsIf_load_mid (by rfl) 22 _ rfl (H + 1) 0 rfl (job.map B) _ (fun W hS => fun q u hq => by rw [Nat.zero_add, hS.2.1.cell q]; simpa [arrB] using hq) Tryz.underlying22 rfl (by rw [List.length_map, hj]; exact size_b32)) hS0 ?_
    try simp only [Act.put, List.getElem_toArray, List.getElem_cons_zero, List.getElem_cons_succ, List.setIfInBounds_toArray, List.set_cons_zero, List.set_cons_succ]
    refine wpAnyU_take (i := 4) (v := .int .u64 ep) rfl (by kernel_rfl) (by kernel_rfl) (by kernel_rfl) (by kernel_rfl) (by kernel_rfl) (fun _ _ _ h => h) (Or.inl ⟨by rfl, fun W hS => by have y := hS.2.2.cell 0; simp at y; go_simp⟩) hS0 ?_
    try simp only [Act.put, List.getElem_toArray, List.getElem_cons_zero, List.getElem_cons_succ, List.setIfInBounds_toArray, List.set_cons_zero, List.set_cons_succ]
    have HZW := Box.mk hz2
    clear hS0 hz2
    have HZ0 := Box.mk z0
    clear z0
    refine wpAnyU_two 3 7 _ _ (by kernel_rfl) rfl rfl (fun K hK => ?_) (fun K hK => ?_)
    · go_simp
      refine (hjk V0).mono ?_
      rintro e V1 ⟨rfl, mbV1⟩
      go_wp2_with fail
      have zV1 := mbV1.size
      refine hK.out _ _ (fun _ => hSm _ (mbV1)) ?_
      clear hK K
      try simp only [Act.put, List.getElem_toArray, List.getElem_cons_zero, List.getElem_cons_succ, List.setIfInBounds_toArray, List.set_cons_zero, List.set_cons_succ]
      refine wpAnyU_takeP (i := 5) (v := .agg jc) rfl (by kernel_rfl) (by kernel_rfl) (by kernel_rfl) (by decide) (fun _ _ _ h => h) (Or.inl ⟨by rfl, fun W => exec_build4 92 0 1 2 3 (.tmp 37) (.tmp 38) (.tmp 40) (.tmp 41) _ _ _ _ rfl rfl rfl rfl rfl _ hbu W⟩) (fun _ => hSm _ (mbV1)) ?_
      try simp only [Act.put, List.getElem_toArray, List.getElem_cons_zero, List.getElem_cons_succ, List.setIfInBounds_toArray, List.set_cons_zero, List.set_cons_succ]
      refine wpAnyU_two 6 7 _ _ (by kernel_rfl) rfl rfl (fun K hK => ?_) (fun K hK => ?_)
      · go_simp
        have mbV2 := (Mod.refl V1 Nob).alloc (.cells jc 92)
        have cbV2 := CellsAt.new V1 jc 92
        refine hK.out _ _ (fun _ => hSm _ (mbV1.trans mbV2)) ?_
        clear hK K
        try simp only [Act.put, List.getElem_toArray, List.getElem_cons_zero, List.getElem_cons_succ, List.setIfInBounds_toArray, List.set_cons_zero, List.set_cons_succ]
        change wpAnyU _ _ _ _ _ _ _ _ _ (V1.alloc (.cells jc 92))
        obtain ⟨V2, hV2⟩ : ∃ V, V1.alloc (.cells jc 92) = V := ⟨_, rfl⟩
        have zV2 : V2.heap.size = V1.heap.size + 1 := by rw [← hV2]; simp
        rw [hV2] at mbV2 cbV2 ⊢
        clear hV2
        refine wpAnyU_one 7 _ (by kernel_rfl) rfl (fun K hK => ?_)
        have HZ2 := Box.mk zV2
        clear zV2
        go_simp
        have mbV3 := (Mod.refl V2 Nob).alloc (.cells #[Value.pointer none] 33)
        have cbV3 := CellsAt.new V2 #[Value.pointer none] 33
        refine hK.out _ _ (fun _ => hSm _ ((mbV1.trans mbV2).trans mbV3)) ?_
        clear hK K
        try simp only [Act.put, List.getElem_toArray, List.getElem_cons_zero, List.getElem_cons_succ, List.setIfInBounds_toArray, List.set_cons_zero, List.set_cons_succ]
        change wpAnyU _ _ _ _ _ _ _ _ _ (V2.alloc (.cells #[Value.pointer none] 33))
        obtain ⟨V3, hV3⟩ : ∃ V, V2.alloc (.cells #[Value.pointer none] 33) = V := ⟨_, rfl⟩
        have zV3 : V3.heap.size = V2.heap.size + 1 := by rw [← hV3]; simp
        rw [hV3] at mbV3 cbV3 ⊢
        clear hV3
        have zz := HZ0.out
        have zz2 := HZ2.out
        refine wpAnyU_last (by kernel_rfl) (by simp) ?_
        refine wpAny_tail _ 8 _ _ _ (by kernel_rfl) ?_
        simp only [List.drop_succ_cons, List.drop_zero]
        have cg : CellsAt V3 V2.heap.size #[Value.pointer none] 33 := cbV3
        have cj : CellsAt V3 V1.heap.size jc 92 := cbV2.mod mbV3 nob
        have mA : Mod W2 V3 Nob := mD.trans ((mbV1.trans mbV2).trans mbV3)
        have hne : V2.heap.size ≠ V1.heap.size := by omega
        have hg6 : H + 6 ≤ V2.heap.size := by omega
        have hj6 : H + 6 ≤ V1.heap.size := by omega
        obtain ⟨gp, hgp⟩ : ∃ y, V2.heap.size = y := ⟨_, rfl⟩
        obtain ⟨jb, hjb⟩ : ∃ y, V1.heap.size = y := ⟨_, rfl⟩
        rw [hgp] at cg hne hg6 ⊢
        rw [hjb] at cj hne hj6 ⊢
        have k0 := cg.cell 0
        have f0 := cg.free 0
        simp at k0
        have mS := (Mod.refl V3 (· = gp)).setCell (p := ⟨gp, 0, none⟩) (.inl rfl) (.pointer (some ⟨jb, 0, none⟩))
        clear hSm hjk
        go_wp2_with fail
        go_meet
        exact ⟨gp, jb, rfl, hg6, hj6, cg.set 0 _, cj.mod mS (fun e => hne e.symm), mA.drop mS (fun k (hk : k = gp) => .inr (by have := HZW.out; omega))⟩
      · go_simp
        have mbV2 := (Mod.refl V1 Nob).alloc (.cells #[Value.pointer none] 33)
        have cbV2 := CellsAt.new V1 #[Value.pointer none] 33
        refine hK.out _ _ (fun _ => hSm _ (mbV1.trans mbV2)) ?_
        clear hK K
        try simp only [Act.put, List.getElem_toArray, List.getElem_cons_zero, List.getElem_cons_succ, List.setIfInBounds_toArray, List.set_cons_zero, List.set_cons_succ]
        change wpAnyU _ _ _ _ _ _ _ _ _ (V1.alloc (.cells #[Value.pointer none] 33))
        obtain ⟨V2, hV2⟩ : ∃ V, V1.alloc (.cells #[Value.pointer none] 33) = V := ⟨_, rfl⟩
        have zV2 : V2.heap.size = V1.heap.size + 1 := by rw [← hV2]; simp
        rw [hV2] at mbV2 cbV2 ⊢
        clear hV2
        have HZ2 := Box.mk zV2
        clear zV2
        refine wpAnyU_one 6 _ (by kernel_rfl) rfl (fun K hK => ?_)
        go_simp
        have mbV3 := (Mod.refl V2 Nob).alloc (.cells jc 92)
        have cbV3 := CellsAt.new V2 jc 92
        refine hK.out _ _ (fun _ => hSm _ ((mbV1.trans mbV2).trans mbV3)) ?_
        clear hK K
        try simp only [Act.put, List.getElem_toArray, List.getElem_cons_zero, List.getElem_cons_succ, List.setIfInBounds_toArray, List.set_cons_zero, List.set_cons_succ]
        change wpAnyU _ _ _ _ _ _ _ _ _ (V2.alloc (.cells jc 92))
        obtain ⟨V3, hV3⟩ : ∃ V, V2.alloc (.cells jc 92) = V := ⟨_, rfl⟩
        have zV3 : V3.heap.size = V2.heap.size + 1 := by rw [← hV3]; simp
        rw [hV3] at mbV3 cbV3 ⊢
        clear hV3
        have zz := HZ0.out
        have zz2 := HZ2.out
        refine wpAnyU_last (by kernel_rfl) (by simp) ?_
        refine wpAny_tail _ 8 _ _ _ (by kernel_rfl) ?_
        simp only [List.drop_succ_cons, List.drop_zero]
        have cg : CellsAt V3 V1.heap.size #[Value.pointer none] 33 := cbV2.mod mbV3 nob
        have cj : CellsAt V3 V2.heap.size jc 92 := cbV3
        have mA : Mod W2 V3 Nob := mD.trans ((mbV1.trans mbV2).trans mbV3)
        have hne : V1.heap.size ≠ V2.heap.size := by omega
        have hg6 : H + 6 ≤ V1.heap.size := by omega
        have hj6 : H + 6 ≤ V2.heap.size := by omega
        obtain ⟨gp, hgp⟩ : ∃ y, V1.heap.size = y := ⟨_, rfl⟩
        obtain ⟨jb, hjb⟩ : ∃ y, V2.heap.size = y := ⟨_, rfl⟩
        rw [hgp] at cg hne hg6 ⊢
        rw [hjb] at cj hne hj6 ⊢
        have k0 := cg.cell 0
        have f0 := cg.free 0
        simp at k0
        have mS := (Mod.refl V3 (· = gp)).setCell (p := ⟨gp, 0, none⟩) (.inl rfl) (.pointer (some ⟨jb, 0, none⟩))
        clear hSm hjk
        go_wp2_with fail
        go_meet
        exact ⟨gp, jb, rfl, hg6, hj6, cg.set 0 _, cj.mod mS (fun e => hne e.symm), mA.drop mS (fun k (hk : k = gp) => .inr (by have := HZW.out; omega))⟩
    · go_simp
      have mbV1 := (Mod.refl V0 Nob).alloc (.cells #[Value.pointer none] 33)
      have cbV1 := CellsAt.new V0 #[Value.pointer none] 33
      refine hK.out _ _ (fun _ => hSm _ (mbV1)) ?_
      clear hK K
      try simp only [Act.put, List.getElem_toArray, List.getElem_cons_zero, List.getElem_cons_succ, List.setIfInBounds_toArray, List.set_cons_zero, List.set_cons_succ]
      change wpAnyU _ _ _ _ _ _ _ _ _ (V0.alloc (.cells #[Value.pointer none] 33))
      obtain ⟨V1, hV1⟩ : ∃ V, V0.alloc (.cells #[Value.pointer none] 33) = V := ⟨_, rfl⟩
      have zV1 : V1.heap.size = V0.heap.size + 1 := by rw [← hV1]; simp
      rw [hV1] at mbV1 cbV1 ⊢
      clear hV1
      have HZ1 := Box.mk zV1
      clear zV1
      refine wpAnyU_one 3 _ (by kernel_rfl) rfl (fun K hK => ?_)
      go_simp
      refine (hjk V1).mono ?_
      rintro e V2 ⟨rfl, mbV2⟩
      go_wp2_with fail
      have zV2 := mbV2.size
      refine hK.out _ _ (fun _ => hSm _ (mbV1.trans mbV2)) ?_
      clear hK K
      try simp only [Act.put, List.getElem_toArray, List.getElem_cons_zero, List.getElem_cons_succ, List.setIfInBounds_toArray, List.set_cons_zero, List.set_cons_succ]
      refine wpAnyU_takeP (i := 5) (v := .agg jc) rfl (by kernel_rfl) (by kernel_rfl) (by kernel_rfl) (by decide) (fun _ _ _ h => h) (Or.inl ⟨by rfl, fun W => exec_build4 92 0 1 2 3 (.tmp 37) (.tmp 38) (.tmp 40) (.tmp 41) _ _ _ _ rfl rfl rfl rfl rfl _ hbu W⟩) (fun _ => hSm _ (mbV1.trans mbV2)) ?_
      try simp only [Act.put, List.getElem_toArray, List.getElem_cons_zero, List.getElem_cons_succ, List.setIfInBounds_toArray, List.set_cons_zero, List.set_cons_succ]
      refine wpAnyU_one 6 _ (by kernel_rfl) rfl (fun K hK => ?_)
      go_simp
      have mbV3 := (Mod.refl V2 Nob).alloc (.cells jc 92)
      have cbV3 := CellsAt.new V2 jc 92
      refine hK.out _ _ (fun _ => hSm _ ((mbV1.trans mbV2).trans mbV3)) ?_
      clear hK K
      try simp only [Act.put, List.getElem_toArray, List.getElem_cons_zero, List.getElem_cons_succ, List.setIfInBounds_toArray, List.set_cons_zero, List.set_cons_succ]
      change wpAnyU _ _ _ _ _ _ _ _ _ (V2.alloc (.cells jc 92))
      obtain ⟨V3, hV3⟩ : ∃ V, V2.alloc (.cells jc 92) = V := ⟨_, rfl⟩
      have zV3 : V3.heap.size = V2.heap.size + 1 := by rw [← hV3]; simp
      rw [hV3] at mbV3 cbV3 ⊢
      clear hV3
      have zz := HZ0.out
      have zz1 := HZ1.out
      refine wpAnyU_last (by kernel_rfl) (by simp) ?_
      refine wpAny_tail _ 8 _ _ _ (by kernel_rfl) ?_
      simp only [List.drop_succ_cons, List.drop_zero]
      have cg : CellsAt V3 V0.heap.size #[Value.pointer none] 33 := (cbV1.mod mbV2 nob).mod mbV3 nob
      have cj : CellsAt V3 V2.heap.size jc 92 := cbV3
      have mA : Mod W2 V3 Nob := mD.trans ((mbV1.trans mbV2).trans mbV3)
      have hne : V0.heap.size ≠ V2.heap.size := by omega
      have hg6 : H + 6 ≤ V0.heap.size := by omega
      have hj6 : H + 6 ≤ V2.heap.size := by omega
      obtain ⟨gp, hgp⟩ : ∃ y, V0.heap.size = y := ⟨_, rfl⟩
      obtain ⟨jb, hjb⟩ : ∃ y, V2.heap.size = y := ⟨_, rfl⟩
      rw [hgp] at cg hne hg6 ⊢
      rw [hjb] at cj hne hj6 ⊢
      have k0 := cg.cell 0
      have f0 := cg.free 0
      simp at k0
      have mS := (Mod.refl V3 (· = gp)).setCell (p := ⟨gp, 0, none⟩) (.inl rfl) (.pointer (some ⟨jb, 0, none⟩))
      clear hSm hjk
      go_wp2_with fail
      go_meet
      exact ⟨gp, jb, rfl, hg6, hj6, cg.set 0 _, cj.mod mS (fun e => hne e.symm), mA.drop mS (fun k (hk : k = gp) => .inr (by have := HZW.out; omega))⟩
  -- G5 END
  case rest =>
    obtain ⟨gp, jb, rfl, hg6, hj6, cg, cj, mA⟩ := hcut
    replace cT := cT.mod mA nob
    replace cY := cY.mod mA nob
    replace cR := cR.mod mA nob
    replace cS := cS.mod mA nob
    replace hσ1 := hσ1.mod mA (fun _ h => h.elim)
    replace hτ1 := hτ1.mod mA nob
    replace m0 := m0.trans mA
    have hzc := mA.size
    replace cE := cE.mod mA nob
    clear cJ mA hjc
    go_wp2_with fail
    change Code.wp _ _ _ _ ((wc.alloc (.cells #[.int .u64 0] 29)).alloc (.cells #[.bool true] 4))
    have mX := ((Mod.refl wc Nob).alloc (.cells #[.int .u64 0] 29)).alloc (.cells #[.bool true] 4)
    have cW := (CellsAt.new wc #[.int .u64 0] 29).alloc (.cells #[.bool true] 4)
    have cB := new_at (w := wc.alloc (.cells #[.int .u64 0] 29)) (cs := #[.bool true]) (t := 4) (g := wc.heap.size + 1) (by simp)
    have hz3 : ((wc.alloc (.cells #[.int .u64 0] 29)).alloc (.cells #[.bool true] 4)).heap.size = wc.heap.size + 2 := by simp
    obtain ⟨W3, hW3⟩ : ∃ V, (wc.alloc (.cells #[.int .u64 0] 29)).alloc (.cells #[.bool true] 4) = V := ⟨_, rfl⟩
    rw [hW3] at mX cW cB hz3 ⊢
    obtain ⟨G, hG⟩ : ∃ g, wc.heap.size = g := ⟨_, rfl⟩
    rw [hG] at cW cB hz3 hzc ⊢
    have lg := cg.lt
    have lj := cj.lt
    rw [hG] at lg lj
    replace cT := cT.mod mX nob
    replace cE := cE.mod mX nob
    replace cY := cY.mod mX nob
    replace cR := cR.mod mX nob
    replace cS := cS.mod mX nob
    replace cg := cg.mod mX nob
    replace cj := cj.mod mX nob
    replace hσ1 := hσ1.mod mX (fun _ h => h.elim)
    replace hτ1 := hτ1.mod mX nob
    replace m0 := m0.trans mX
    clear mX hW3 hG
    have kg := cg.cell 0
    have ky0 := cY.cell 0
    have ky1 := cY.cell 1
    simp at kg ky0 ky1
    go_step3
    go_wp2_with fail
    change Calls _ _ #[_, eyes0] _ _
    refine (stored_any jb W3).mono ?_
    rintro e W4 ⟨rfl, hW4⟩
    have hA := ((Mod.refl W3 Nob).alloc (.cells #[.pointer (some ⟨jb, 0, none⟩)] 33)).alloc (.cells #[.nilFunc, .nilFunc] 89)
    have b1 := (CellsAt.new W3 #[.pointer (some ⟨jb, 0, none⟩)] 33).alloc (.cells #[.nilFunc, .nilFunc] 89)
    have b2 := CellsAt.new (W3.alloc (.cells #[.pointer (some ⟨jb, 0, none⟩)] 33)) #[.nilFunc, .nilFunc] 89
    rw [World.size_alloc] at b2
    have hz4 : W4.heap.size = G + 4 := by rw [hW4]; simp [hz3]
    rw [← hW4] at hA b1 b2
    rw [hz3] at b1 b2 ⊢
    replace cT := cT.mod hA nob
    replace cE := cE.mod hA nob
    replace cY := cY.mod hA nob
    replace cR := cR.mod hA nob
    replace cS := cS.mod hA nob
    replace cg := cg.mod hA nob
    replace cj := cj.mod hA nob
    replace cW := cW.mod hA nob
    replace cB := cB.mod hA nob
    replace hσ1 := hσ1.mod hA (fun _ h => h.elim)
    replace hτ1 := hτ1.mod hA nob
    replace m0 := m0.trans hA
    clear hA hW4 hz3 kg ky0 ky1
    have hj0 : W4.cell? ⟨jb, 0, none⟩ = some (.pointer (some ⟨b, 0, none⟩)) := by
      rw [cj.cell 0, ← HJC.out]
      rfl
    have hlT := CellsAt.lt (show CellsAt w tb _ _ from hτ)
    rw [HH.out] at hlT
    have hfl0 : ∀ k, x.foot b k → k < H := fun k h => by have := hσ.foot_lt k h; have := HH.out; omega
    have hkl := journalK_length job
    obtain ⟨key, hkey⟩ : ∃ y, journalK job = y := ⟨_, rfl⟩
    have HKEY := Box.mk hkey
    rw [hkey] at hkl
    have hjc2 : jc = (jcells (.pointer (some ⟨b, 0, none⟩)) (.pointer (some ⟨tb, 0, none⟩)) key ep (.slice none 0 0) zl32 zl32 false ent0).toArray := by rw [← HJC.out, hkey]
    have hseq := stored_everX 5 (by omega) (G + 2) jb b (cnt + 1) σ x (by omega) hsh W4 b1 b2 hj0 hσ1
    have hfl : ∀ k, (x.foot b k ∨ k = G + 2 ∨ k = G + 2 + 1) → k < W4.heap.size := fun k hk => by
      rcases hk with h | h | h
      · exact hσ1.foot_lt k h
      · omega
      · omega
    have hB0 : BegG w H tb gp jb G b key ep (fun k => k = tb ∨ x.own b k) σ x ⟨ep, cnt, wr⟩ [] zl32 0 true W4 := by
      refine ⟨cT, cE, cY, cg, ⟨none, 0, by have h5 := cj; rw [hjc2] at h5; exact h5, World.ownsRow_nil _ _ _ _, fun k h => by cases h⟩, cR, cS, cW, cB, hτ1, hσ1, m0.nob, by omega⟩
    go_wp2_with fail
    refine (wpIn_wide (n := 6)).1 ?_
    refine wpIn_rangeFunc_everX (n := 6) (by omega) (gf := 75) (lb := #[.pointer (some ⟨G + 2, 0, none⟩), .pointer (some ⟨G + 2 + 1, 0, none⟩)]) rfl (enters_of Tryz.func75 (by kernel_rfl) rfl)
      hseq (fun h k => h.trans k) (fun W l o o' h1 h2 h3 _ => KM.put hfl W l o o' h1 h2 h3) (fun _ => rfl)
      (fun pre W => pre.length ≤ cnt ∧ ∃ es last wr1, stepsP key (getP σ) pre.length = some (es, last, wr1) ∧ BegG w H tb gp jb G b key ep (fun k => k = tb ∨ x.own b k) σ x ⟨ep, cnt, wr⟩ es last wr1 true W)
      (fun c pre W => c = .exit 1 ∧ ∃ σ' x' τ' es last wr1 good, OutOf key σ ⟨ep, cnt, wr⟩ σ' τ' es last wr1 good ∧ (∀ k, x'.foot b k → x.foot b k ∨ G + 6 ≤ k) ∧ BegG w H tb gp jb G b key ep (fun k => k = tb ∨ x.own b k) σ' x' τ' es last wr1 good W) ?own ?ownx ⟨Nat.zero_le _, [], zl32, 0, rfl, hB0⟩ (fun pre W h => by have := h.1; omega)
      (fun pre y a' W => a' = { tmps := #[.pointer (some ⟨b, 0, none⟩), .pointer (some ⟨tb, 0, none⟩), .agg (arrB job), .int .u64 ep, .agg #[.nilFunc, .nilFunc], undef, .pointer (some ⟨H, 0, none⟩), .pointer (some ⟨H + 1, 0, none⟩), .pointer (some ⟨H + 1 + 1, 0, none⟩), .pointer (some ⟨H + 1 + 1 + 1, 0, none⟩), .pointer (some ⟨H + 1 + 1 + 1 + 1, 0, none⟩), .pointer (some ⟨H + 1 + 1 + 1 + 1 + 1, 0, none⟩), .pointer (some ⟨gp, 0, none⟩), .pointer (some ⟨G, 0, none⟩), .pointer (some ⟨G + 1, 0, none⟩), .int .u64 y.1, scv y.2, undef, undef, undef, undef, .bool false, u22, u23, u24, u25, u26, u27, u28, u29, u30, u31, u32, u33, u34, u35, u36, u37, u38, u39, u40, u41, u42, u43, .pointer (some ⟨jb, 0, none⟩), .agg #[.nilFunc, .nilFunc], .func (.func 75) #[] #[.pointer (some ⟨G + 2, 0, none⟩), .pointer (some ⟨G + 2 + 1, 0, none⟩)], .int .u64 y.1, scv y.2, u49, u50, u51, u52, u53, u54, u55, u56, u57, u58, u59, u60, u61, u62, u63, u64, u65, u66, u67, u68, u69, u70, u71, u72, u73, u74, u75, u76, u77, u78, u79, u80, u81, u82, u83, u84, u85, u86, u87, u88, u89, u90, u91, u92, u93, u94, u95, u96, u97, u98, u99, u100, u101, u102, u103, u104, u105, u106, u107, u108, u109, u110, u111, u112, u113, u114, u115, u116, u117, u118, u119, u120, u121, u122, u123, u124, u125], defers := [] } ∧ EntIs σ W4.heap.size pre y W) ?ownax
      ?assign ?body ?stop
    case own =>
      rintro pre W W' row ⟨h0, es, last, wr1, h1, h2⟩ hg hr
      refine ⟨h0, es, last, wr1, h1, h2.far ((Mod.refl W _).grown hg (fun k e => .inl e)) (fun k e => ?_) HH.out (by omega)⟩
      obtain ⟨hr1, o, hr2, hr3⟩ := hr k e
      exact ⟨by omega, fun h => by have := hfl0 k h; omega, fun o' ho' => by rw [hr2] at ho'; cases ho'; exact hr3⟩
    case ownx =>
      rintro c pre W r r' ⟨h0, σ', x', τ', es, last, wr1, good, h1, h2, h3⟩ hr
      rw [hz4] at hr ⊢
      refine ⟨h0, σ', x', τ', es, last, wr1, good, h1, h2, h3.far ((Mod.refl W (· = G + 4 + 1)).putObj (.inl rfl) _) (fun k hk => ?_) HH.out (by omega)⟩
      subst hk
      exact ⟨by omega, fun h => by rcases h2 _ h with h | h; have := hfl0 _ h; omega; omega, fun o' ho' => by rw [hr] at ho'; cases ho'; rfl⟩
    case ownax =>
      rintro pre y a' _ W W' row ⟨h0, h1, h2, h3⟩ hg hr
      have hm : Mod W W' (fun k => row = some k) := (Mod.refl W _).grown hg (fun k e => .inl e)
      have hnT : ∀ k, inBlock (scv y.2) k → ¬ row = some k := fun k hk e => by
        obtain ⟨_, o, h5, h6⟩ := hr k e
        exact not_isB h5 h6 (h3 k hk).2
      exact ⟨h0, h1, h2.mod hm hnT, fun k hk => ⟨(h3 k hk).1, by obtain ⟨cs, hc⟩ := (h3 k hk).2; exact ⟨cs, hc.mod hm (hnT k hk)⟩⟩⟩
    case assign =>
      intro l pre y W K hI hR hK
      dsimp only [nbv]
      gi_wp2
      exact hK _ _ (KeepsFrom.refl _ _) (KM.of_mod (Mod.refl W Nob) (fun k h => h.elim) nob) hI ⟨rfl, hR⟩
    case body =>
      rintro l pre ⟨yn, ya, yl, yc⟩ a' W hl ⟨lr, hlr⟩ ⟨hkc, es, last, wr1, hst, hI⟩ ⟨rfl, hR⟩ hlt
      have HLZ : Box (G + 6 ≤ W.heap.size) := ⟨by have := heap_lt hlr; omega⟩
      clear hl hlr
      obtain ⟨hyn, hyb, hyf⟩ := hR
      obtain ⟨K0, hK0⟩ : ∃ k, pre.length = k := ⟨_, rfl⟩
      have hxl : (pre ++ [((yn, (ya, yl, yc)) : NB)]).length = K0 + 1 := by rw [List.length_append, hK0]; rfl
      dsimp only [scv] at *
      rw [hK0] at hkc hst hyb hyn hlt
      subst hyn
      change BytesAt W (.slice ya yl yc) (getP σ (K0 + 1)) at hyb
      have hep' := heps (K0 + 1)
      obtain ⟨bl, hbl⟩ : ∃ y, getP σ (K0 + 1) = y := ⟨_, rfl⟩
      rw [hbl] at hyb hep'
      have hbn : bl.length = yl := by
        obtain ⟨a', c', hf, _⟩ := hyb.form
        rw [List.length_map] at hf
        cases hf
        rfl
      obtain ⟨hel, hll⟩ := stepsP_facts key (getP σ) K0 es last wr1 hst
      have HST := Box.mk hst
      have HBL := Box.mk hbl
      have HXL := Box.mk hxl
      have HEL := Box.mk hel
      obtain ⟨ea, ec, j1, j2, j3⟩ := hI.j
      have hF := JFacts.of j1 hkl hll rfl
      have hjs := hF.s
      have hgj : gp ≠ jb := fun h => by
        subst h
        have h9 := Option.some.inj (hI.g.symm.trans j1)
        cases h9
      have hop := opened_any jb (K0 + 1) key last bl ya yl yc W hkl hll hF.key hF.last j1.lt hyb hbn (fun k hk => by
        obtain ⟨cs, hc⟩ := (hyf k hk).2
        exact hc.lt) hep'
      rw [show (((K0 + 1 : Nat) : Int)) = (K0 : Int) + 1 by omega] at hop
      have kg := hI.g.cell 0
      simp at kg
      clear hseq hfl b1 b2 hσ1 cT cE cY cg cj cR cS cW cB hτ1 m0 hB0 hj0 hjc2 hep0 hkey heps hst hbl hxl hel hF hep' j1 j2 j3 ea ec hK0
      gi_wp2
      refine ⟨trivial, (CallsIn.inRound l ((callsIn_wide (n := 3)).2 hop)).mono ?_⟩
      rintro e W5 ⟨oe, owr, ois, rfl, m5, hres⟩
      have HRES := Box.mk hres
      have hI5 := hI.mod m5
      have hyb5 := hyb.mod m5 (fun _ _ => nob)
      have hyf5 : ∀ k, inBlock (.slice ya yl yc) k → W4.heap.size ≤ k ∧ IsB W5 k := fun k hk => by
        obtain ⟨h1, cs, hc⟩ := hyf k hk
        exact ⟨h1, cs, hc.mod m5 nob⟩
      clear hres hop hI hyb hyf kg
      gi_wp2
      change Code.wpIn _ _ _ _ _ _ (W5.alloc (.cells #[.int .i64 oe.kind, .int .i64 oe.task, .int .u64 oe.att, .int .i64 oe.state] 38))
      have m6 := (Mod.refl W5 Nob).alloc (.cells #[.int .i64 oe.kind, .int .i64 oe.task, .int .u64 oe.att, .int .i64 oe.state] 38)
      have cO := CellsAt.new W5 #[.int .i64 oe.kind, .int .i64 oe.task, .int .u64 oe.att, .int .i64 oe.state] 38
      have hz5 : W4.heap.size ≤ W5.heap.size := by have := hI5.size; omega
      have mD := m6.drew
      replace cO := cO.mod (Mod.refl _ Nob).drew nob
      obtain ⟨OE, hOE⟩ : ∃ y, W5.heap.size = y := ⟨_, rfl⟩
      rw [hOE] at cO hz5 ⊢
      obtain ⟨W6, hW6⟩ : ∃ V, W5.alloc (.cells #[.int .i64 oe.kind, .int .i64 oe.task, .int .u64 oe.att, .int .i64 oe.state] 38) = V := ⟨_, rfl⟩
      rw [hW6] at mD cO ⊢
      have hI6 := hI5.mod mD
      have hyb6 := hyb5.mod mD (fun _ _ => nob)
      have hyf6 : ∀ k, inBlock (.slice ya yl yc) k → W4.heap.size ≤ k ∧ IsB W6.drew k ∧ k < OE := fun k hk => by
        obtain ⟨h1, cs, hc⟩ := hyf5 k hk
        exact ⟨h1, ⟨cs, hc.mod mD nob⟩, by have := hc.lt; omega⟩
      have mB := m5.trans mD
      have hoz : OE < W6.drew.heap.size := cO.lt
      clear hW6 m6 hI5 hyb5 hyf5 m5 mD hOE
      change BegG w H tb gp jb G b key ep (fun k => k = tb ∨ x.own b k) σ x ⟨ep, cnt, wr⟩ es last wr1 true { W6 with drawn := W6.drawn + 1 } at hI6
      have kt6 := hI6.t.cell 0
      have kw6 := hI6.pwr.cell 0
      simp at kt6 kw6
      have hco : Calls Tryz.prog 30 #[.pointer (some ⟨tb, 0, none⟩)] { W6 with drawn := W6.drawn + 1 } (fun e w' => e = .returned (.int .u64 cnt) ∧ w' = { W6 with drawn := W6.drawn + 1 }) :=
        (trust_count tb ⟨ep, cnt, wr⟩ { W6 with drawn := W6.drawn + 1 } hI6.tr).mono (fun e w' h => ⟨h.1, h.2.symm⟩)
      have hwr6 : Calls Tryz.prog 55 #[.pointer (some ⟨tb, 0, none⟩)] { W6 with drawn := W6.drawn + 1 } (fun e w' => e = .returned (.int .u64 wr) ∧ w' = { W6 with drawn := W6.drawn + 1 }) :=
        (trust_writer tb ⟨ep, cnt, wr⟩ { W6 with drawn := W6.drawn + 1 } hI6.tr).mono (fun e w' h => ⟨h.1, h.2.symm⟩)
      by_cases hK : K0 < cnt
      · -- an entry that counts
        have hg1 : decide ((K0 : Int) + 1 > (cnt : Int)) = false := decide_eq_false (by omega)
        have hg2 : decide ((cnt : Int) < (K0 : Int) + 1) = false := decide_eq_false (by omega)
        have hg3 : decide ((cnt : Int) ≤ (K0 : Int)) = false := decide_eq_false (by omega)
        refine wpIn_region_still_round (by kernel_rfl) (by rfl) (by kernel_rfl) (fun _ _ h => h) ?_
        repeat still_step
        still_call hco
        repeat still_step
        refine wpStill_nil ?_
        change Exit.then _ _ _ _ W6.drew
        have hI7 : BegG w H tb gp jb G b key ep (fun k => k = tb ∨ x.own b k) σ x ⟨ep, cnt, wr⟩ es last wr1 true W6.drew := hI6
        have hco2 := trust_count tb ⟨ep, cnt, wr⟩ W6.drew hI7.tr
        obtain ⟨W7, hW7⟩ : ∃ V, W6.drew = V := ⟨_, rfl⟩
        rw [hW7] at hI7 hco2 mB cO hyb6 hyf6 hoz ⊢
        have kt7 := hI7.t.cell 0
        simp at kt7
        clear hW7 hco hI6 kt6 kw6 hwr6
        gi_wp2
        refine ⟨trivial, (CallsIn.inRound l ((callsIn_wide (n := 3)).2 hco2)).mono ?_⟩
        rintro e W8 ⟨rfl, rfl⟩
        clear hco2 kt7
        have HAH : ∀ k, x.foot b k → k < H := hfl0
        obtain ⟨ea, ec, j1, j2, j3⟩ := hI7.j
        rcases HRES.out with ⟨ho, rfl⟩ | ⟨ho, rfl⟩
        case inr =>
          have HO := Box.mk ho
          have kb := hI7.pgood.cell 0
          have fb := hI7.pgood.free 0
          simp at kb
          have mG := (Mod.refl W7 (· = G + 1)).setCell (p := ⟨G + 1, 0, none⟩) (.inl rfl) (.bool false)
          have hI8 : BegG w H tb gp jb G b key ep (fun k => k = tb ∨ x.own b k) σ x ⟨ep, cnt, wr⟩ es last wr1 false (W7.setCell ⟨G + 1, 0, none⟩ (.bool false)) :=
            hI7.turn mG (fun k (hk : k = G + 1) => .inr (.inl hk)) HH.out hlT HAH hg6 hj6 lg lj hgj
              ⟨ea, ec, j1.mod mG (by omega), owns_mod j2 mG (fun k hk (h : k = G + 1) => by have := (j2.lt k hk).1; omega), j3⟩ (hI7.pwr.mod mG (by omega)) (hI7.pgood.set 0 (.bool false)) (hI7.tr.mod mG (by omega)) (hI7.st.mod mG (fun k (hk : k = G + 1) h => by have := HAH k h; omega))
          have kf : KeepsFrom W4.heap.size W (W7.setCell ⟨G + 1, 0, none⟩ (.bool false)) := (keepsFrom_mod mB (fun k h => h.elim)).trans (keepsFrom_mod mG (fun k (hk : k = G + 1) => by omega))
          have hb1 := beginP_bad (ep := ep) (wr := wr) HST.out (by rw [HBL.out]; exact HO.out) hK
          have HB1 := Box.mk hb1
          clear ho hb1 hI7 mB mG j1 j2 j3 hyb6 hyf6 cO hg1 hg2 hg3
          gi_wp2
          exact ⟨kf, rfl, σ, x, ⟨ep, cnt, wr⟩, es, last, wr1, false, .inr ⟨.inl rfl, HB1.out, rfl, rfl⟩, fun k h => .inl h, hI8⟩
        case inl =>
          have h96 := opened_length ho
          have HO := Box.mk ho
          have kw := hI7.pwr.cell 0
          have fw := hI7.pwr.free 0
          simp at kw
          have hln : es.length < 98 := by have := HEL.out; omega
          have mG := (Mod.refl W7 (· = G)).setCell (p := ⟨G, 0, none⟩) (.inl rfl) (.int .u64 owr)
          have q0 : (W7.setCell ⟨G, 0, none⟩ (.int .u64 owr)).cell? ⟨OE, 0, none⟩ = some (.int .i64 oe.kind) := (cO.mod mG (by omega)).cell 0
          have q1 : (W7.setCell ⟨G, 0, none⟩ (.int .u64 owr)).cell? ⟨OE, 1, none⟩ = some (.int .i64 oe.task) := (cO.mod mG (by omega)).cell 1
          have q2 : (W7.setCell ⟨G, 0, none⟩ (.int .u64 owr)).cell? ⟨OE, 2, none⟩ = some (.int .u64 oe.att) := (cO.mod mG (by omega)).cell 2
          have q3 : (W7.setCell ⟨G, 0, none⟩ (.int .u64 owr)).cell? ⟨OE, 3, none⟩ = some (.int .i64 oe.state) := (cO.mod mG (by omega)).cell 3
          have kgX : (W7.setCell ⟨G, 0, none⟩ (.int .u64 owr)).cell? ⟨gp, 0, none⟩ = some (.pointer (some ⟨jb, 0, none⟩)) := (hI7.g.mod mG (by omega)).cell 0
          have j1X := j1.mod mG (by omega)
          have j2X := owns_mod j2 mG (fun k hk (h : k = G) => by have := (j2.lt k hk).1; omega)
          have hbX := hyb6.mod mG (fun k hk (h : k = G) => by have := (hyf6 k hk).1; omega)
          have hwX := hI7.pwr.set 0 (.int .u64 (owr : Int))
          have hgX := hI7.pgood.mod mG (by omega)
          have htX := hI7.tr.mod mG (by omega)
          have hsX := hI7.st.mod mG (fun k (hk : k = G) h => by have := HAH k h; omega)
          have hzX := mG.size
          change CellsAt (W7.setCell ⟨G, 0, none⟩ (.int .u64 owr)) G #[.int .u64 owr] _ at hwX
          have hcX := count_any jb (G + 4) es.length ep (.pointer (some ⟨b, 0, none⟩)) (.pointer (some ⟨tb, 0, none⟩)) ea ec es key last zl32 false ent0 oe ya yl yc bl (W7.setCell ⟨G, 0, none⟩ (.int .u64 owr)) j1X hln hkl hll rfl j2X (by have := hI7.size; omega) (fun h => by have := (j2.lt jb h).1; omega) hbX hbn (by omega) (by omega) (fun h => by have := (hyf6 jb h).1; omega)
            (fun k hk h => own_notE j2 k h (hyf6 k hk).2.1)
          change Calls _ _ #[_, .agg #[.int .i64 oe.kind, .int .i64 oe.task, .int .u64 oe.att, .int .i64 oe.state], _] _ _ at hcX
          clear ho hyb6 cO hg1 hg2 hg3 j1 hbX
          gi_wp2
          refine ⟨trivial, (CallsIn.inRound l ((callsIn_wide (n := 3)).2 hcX)).mono ?_⟩
          rintro e W9 ⟨⟨v9, rfl⟩, g9, c9, k1, k2, m9, hge⟩
          have mBG := (mB.wide (T := fun k => k = G ∨ k = jb ∨ inBlock (.slice ea es.length ec) k) (fun _ h => h.elim)).trans (mG.wide (T := fun k => k = G ∨ k = jb ∨ inBlock (.slice ea es.length ec) k) (fun _ h => .inl (.inl h)))
          have mBC := mBG.trans (m9.wide (T := fun k => k = G ∨ k = jb ∨ inBlock (.slice ea es.length ec) k) (fun _ h => .inl (.inr h)))
          have m7 := ((mG.wide (T := fun k => k = G ∨ k = jb ∨ inBlock (.slice ea es.length ec) k) (fun _ h => .inl (.inl h)))).trans (m9.wide (T := fun k => k = G ∨ k = jb ∨ inBlock (.slice ea es.length ec) k) (fun _ h => .inl (.inr h)))
          have hrow : ∀ k, inBlock (.slice ea es.length ec) k → G + 4 ≤ k := fun k hk => (j2.lt k hk).1
          have hS9 : ∀ k, (k = G ∨ k = jb ∨ inBlock (.slice ea es.length ec) k) → ¬ x.foot b k := fun k hk h => by
            have := HAH k h
            rcases hk with h5 | h5 | h5
            · omega
            · omega
            · have := hrow k h5; omega
          have hel1 : (es ++ [oe]).length = es.length + 1 := by simp
          have hI9 : BegG w H tb gp jb G b key ep (fun k => k = tb ∨ x.own b k) σ x ⟨ep, cnt, wr⟩ (es ++ [oe]) (linkL bl) owr true W9 :=
            hI7.turn m7 (fun k hk => by
              rcases hk with h5 | h5 | h5
              · exact .inl h5
              · exact .inr (.inr (.inl h5))
              · exact .inr (.inr (.inr (.inr (.inr (hrow k h5)))))) HH.out hlT HAH hg6 hj6 lg lj hgj
              ⟨some ⟨g9, 0, none⟩, c9, by rw [hel1]; exact k1, by rw [hel1]; exact k2, fun k hk h => by have h5 := HAH k h; rw [hel1] at hk; have := (k2.lt k hk).1; omega⟩
              (hwX.mod m9 (fun h => by rcases h with h | h; omega; have := hrow _ h; omega)) (hgX.mod m9 (fun h => by rcases h with h | h; omega; have := hrow _ h; omega)) (htX.mod m9 (fun h => by rcases h with h | h; omega; have := hrow _ h; omega))
              (hsX.mod m9 (fun k hk => hS9 k (.inr hk)))
          have kf : KeepsFrom W4.heap.size W W9 := (keepsFrom_mod mB (fun k h => h.elim)).trans ((keepsFrom_mod mG (fun k (hk : k = G) => by omega)).trans (keepsFrom_cells m9 (fun k hk => by
            rcases hk with h5 | h5
            · left; omega
            · right; exact owns_cells j2X k h5)))
          have km : KM (fun k => x.foot b k ∨ k = G + 2 ∨ k = G + 2 + 1) jb W W9 := ⟨⟨_, mBC, fun k hk h => by
            rcases h with h | h | h
            · exact hS9 k hk h
            · rcases hk with h5 | h5 | h5
              · omega
              · omega
              · have := hrow k h5; omega
            · rcases hk with h5 | h5 | h5
              · omega
              · omega
              · have := hrow k h5; omega⟩, fun v hv => by
              rw [hjs] at hv
              rw [← hv]
              exact (JFacts.of k1 hkl (linkL_length bl (by omega)) rfl).s⟩
          have hst2 : stepsP key (getP σ) (K0 + 1) = some (es ++ [oe], linkL bl, owr) := by
            rw [stepsP_succ key (getP σ) K0 es last wr1 HST.out, HBL.out, HO.out]
            rfl
          have HST2 := Box.mk hst2
          clear hst2 hI7 mB mG mBG mBC m9 m7 hrow hS9 j2 j3 j1X j2X hwX hgX htX hsX hyf6 k1 k2 hcX q0 q1 q2 q3 kgX
          gi_wp2
          exact ⟨kf, km, by rw [HXL.out]; omega, es ++ [oe], linkL bl, owr, by rw [HXL.out]; exact HST2.out, hI9⟩
      · -- one behind those that count
        obtain rfl : K0 = cnt := by omega
        have hg1 : decide ((K0 : Int) + 1 > (K0 : Int)) = true := decide_eq_true (by omega)
        have hg2 : decide ((K0 : Int) < (K0 : Int) + 1) = true := decide_eq_true (by omega)
        have HAH : ∀ k, x.foot b k → k < H := hfl0
        rcases HRES.out with ⟨ho, rfl⟩ | ⟨ho, rfl⟩
        case inr =>
          have HO := Box.mk ho
          clear ho
          refine wpIn_region_still_round (by kernel_rfl) (by rfl) (by kernel_rfl) (fun _ _ h => h) ?_
          repeat still_step
          still_call hco
          repeat still_step
          refine wpStill_nil ?_
          change Exit.then _ _ _ _ W6.drew
          have hI7 : BegG w H tb gp jb G b key ep (fun k => k = tb ∨ x.own b k) σ x ⟨ep, K0, wr⟩ es last wr1 true W6.drew := hI6
          have hco2 := trust_count tb ⟨ep, K0, wr⟩ W6.drew hI7.tr
          obtain ⟨W7, hW7⟩ : ∃ V, W6.drew = V := ⟨_, rfl⟩
          rw [hW7] at hI7 hco2 mB cO hyb6 hyf6 hoz ⊢
          have kt7 := hI7.t.cell 0
          simp at kt7
          clear hW7 hco hI6 kt6 kw6 hwr6
          gi_wp2
          refine ⟨trivial, (CallsIn.inRound l ((callsIn_wide (n := 3)).2 hco2)).mono ?_⟩
          rintro e W8 ⟨rfl, rfl⟩
          have kf : KeepsFrom W4.heap.size W W7 := keepsFrom_mod mB (fun k h => h.elim)
          have hout : OutOf key σ ⟨ep, K0, wr⟩ σ ⟨ep, K0, wr⟩ es last wr1 true := by
            by_cases hw : wr1 = wr
            · subst hw
              exact .inl ⟨rfl, rfl, none, beginP_stop HST.out (by rw [HBL.out]; exact HO.out), rfl, rfl⟩
            · exact .inr ⟨.inr hw, beginP_other HST.out hw, rfl, rfl⟩
          have HOUT := Box.mk hout
          clear hout hco2 kt7 mB cO hyb6 hyf6 hg1 hg2
          gi_wp2
          exact ⟨kf, rfl, σ, x, ⟨ep, K0, wr⟩, es, last, wr1, true, HOUT.out, fun k h => .inl h, hI7⟩
        case inl =>
          have HO := Box.mk ho
          by_cases hw : wr1 = wr
          case neg =>
            have hwe : ((wr1 : Int) == (wr : Int)) = false := beq_eq_false_iff_ne.2 (by omega)
            clear ho
            refine wpIn_region_still_round (by kernel_rfl) (by rfl) (by kernel_rfl) (fun _ _ h => h) ?_
            repeat still_step
            still_call hco
            repeat still_step
            still_call hwr6
            repeat still_step
            refine wpStill_nil ?_
            change Exit.then _ _ _ _ W6.drew
            have hI7 : BegG w H tb gp jb G b key ep (fun k => k = tb ∨ x.own b k) σ x ⟨ep, K0, wr⟩ es last wr1 true W6.drew := hI6
            have hco2 := trust_count tb ⟨ep, K0, wr⟩ W6.drew hI7.tr
            obtain ⟨W7, hW7⟩ : ∃ V, W6.drew = V := ⟨_, rfl⟩
            rw [hW7] at hI7 hco2 mB cO hyb6 hyf6 hoz ⊢
            have kt7 := hI7.t.cell 0
            simp at kt7
            clear hW7 hco hI6 kt6 kw6 hwr6
            gi_wp2
            refine ⟨trivial, (CallsIn.inRound l ((callsIn_wide (n := 3)).2 hco2)).mono ?_⟩
            rintro e W8 ⟨rfl, rfl⟩
            have kf : KeepsFrom W4.heap.size W W7 := keepsFrom_mod mB (fun k h => h.elim)
            have hout : OutOf key σ ⟨ep, K0, wr⟩ σ ⟨ep, K0, wr⟩ es last wr1 true := .inr ⟨.inr hw, beginP_other HST.out hw, rfl, rfl⟩
            have HOUT := Box.mk hout
            clear hout hco2 kt7 mB cO hyb6 hyf6 hg1 hg2 hwe
            gi_wp2
            exact ⟨kf, rfl, σ, x, ⟨ep, K0, wr⟩, es, last, wr1, true, HOUT.out, fun k h => .inl h, hI7⟩
          case pos =>
            subst hw
            have hwe : ((wr1 : Int) == (wr1 : Int)) = true := by simp
            have h96 := opened_length ho
            clear ho
            refine wpIn_region_still_round (by kernel_rfl) (by rfl) (by kernel_rfl) (fun _ _ h => h) ?_
            repeat still_step
            still_call hco
            repeat still_step
            still_call hwr6
            repeat still_step
            refine wpStill_nil ?_
            change Exit.then _ _ _ _ W6.drew
            have hI7 : BegG w H tb gp jb G b key ep (fun k => k = tb ∨ x.own b k) σ x ⟨ep, K0, wr1⟩ es last wr1 true W6.drew := hI6
            obtain ⟨W7, hW7⟩ : ∃ V, W6.drew = V := ⟨_, rfl⟩
            rw [hW7] at hI7 mB cO hoz ⊢
            clear hW7 hco hI6 kt6 kw6 hwr6 hyb6 hyf6 hg1 hg2 hwe
            obtain ⟨ea, ec, j1, j2, j3⟩ := hI7.j
            have hF := JFacts.of j1 hkl hll rfl
            have q0 := cO.cell 0
            have q1 := cO.cell 1
            have q2 := cO.cell 2
            have q3 := cO.cell 3
            have kg := hI7.g.cell 0
            have y0 := hI7.y.cell 0
            have y1 := hI7.y.cell 1
            simp at q0 q1 q2 q3 kg y0 y1
            have hse := sealed_any jb ep (K0 + 1) key last oe W7 hkl hll h60 hF.key hF.ep hF.last j1.lt
            obtain ⟨en, hen⟩ : ∃ y, entryL key ep (K0 + 1) oe last = y := ⟨_, rfl⟩
            have hel96 := entryL_length key ep (K0 + 1) oe last hll
            rw [hen] at hse hel96
            have HEN := Box.mk hen
            rw [show (((K0 + 1 : Nat) : Int)) = (K0 : Int) + 1 by omega] at hse
            change Calls _ _ #[_, _, .agg #[.int .i64 oe.kind, .int .i64 oe.task, .int .u64 oe.att, .int .i64 oe.state], .agg #[.nilFunc, .nilFunc]] _ _ at hse
            clear hen
            gi_wp2
            refine ⟨trivial, (CallsIn.inRound l ((callsIn_wide (n := 3)).2 hse)).mono ?_⟩
            rintro e W8 ⟨sa, sc, rfl, hown, m8⟩
            have hI8 := hI7.mod m8
            replace mB := mB.trans m8
            replace cO := cO.mod m8 nob
            clear hse hI7 q0 q1 q2 q3 kg y0 y1 hF j1 j2 j3 ea ec m8
            gi_wp2
            have kf8 : KeepsFrom W4.heap.size W W8 := keepsFrom_mod mB (fun k h => h.elim)
            have hz8 : G + 6 ≤ W8.heap.size := by have := HLZ.out; have := mB.size; omega
            have hnm := fun W => name_any (K0 + 1) W (by omega)
            obtain ⟨nm, hnmS⟩ : ∃ y, nameS (K0 + 1) = y := ⟨_, rfl⟩
            rw [hnmS] at hnm
            rw [show (((K0 + 1 : Nat) : Int)) = (K0 : Int) + 1 by omega] at hnm
            have HNM := Box.mk hnmS
            have mD := (Mod.refl W8 Nob).drew
            replace hI8 := hI8.mod mD
            replace cO := cO.mod mD nob
            have hownD := owns_mod hown mD (fun _ _ => nob)
            replace kf8 := kf8.trans (keepsFrom_mod mD (fun k h => h.elim))
            have hzD : G + 6 ≤ W8.drew.heap.size := hz8
            refine wpIn_region_tail_round 7 (by kernel_rfl) (by rfl) (by kernel_rfl) (fun _ _ h => h) ?_
            simp only [List.take_succ_cons, List.take_zero, List.drop_succ_cons, List.drop_zero]
            obtain ⟨V0, hV0⟩ : ∃ V, W8.drew = V := ⟨_, rfl⟩
            rw [hV0] at hI8 cO hownD kf8 hzD ⊢
            obtain ⟨ea, ec, j1, j2, j3⟩ := hI8.j
            have kg := hI8.g.cell 0
            have kj := (JFacts.of j1 hkl hll rfl).s
            simp at kg
            have hnm0 := hnm V0
            clear hV0 mD hnmS hown hz8
            repeat still_step
            still_call hnm0
            repeat still_step
            refine wpStill_nil ?_
            clear kg kj hnm0
            have hput := put_any b σ x nm (.slice sa 96 sc) en V0 hI8.st (BytesAt.of_owns hownD) (by omega) hch hpu (hve nm)
            go_wp2_with fail
            refine hput.mono ?_
            rintro r W9 ⟨x', rfl, hσ9, hstep⟩
            have m9 := hstep.mod
            have hfoot := hstep.foot
            have hft9 : ∀ k, x'.foot b k → x.foot b k ∨ G + 6 ≤ k := fun k hk => (hfoot k hk).imp id (fun h => by omega)
            have hHo : ∀ k, x.own b k → k < H := fun k hk => HAH k (.inl hk)
            have hI9 : BegG w H tb gp jb G b key ep (fun k => k = tb ∨ x.own b k) (σ.put nm en) x' ⟨ep, K0, wr1⟩ es last wr1 true W9 :=
              hI8.turn m9 (fun k hk => .inr (.inr (.inr (.inr (.inl hk))))) HH.out hlT HAH hg6 hj6 lg lj hgj
                ⟨ea, ec, j1.mod m9 (fun h => by have := hHo _ h; omega), owns_mod j2 m9 (fun k hk h => by have := hHo _ h; have := (j2.lt k hk).1; omega), fun k hk h => by
                  rcases hfoot k h with h5 | h5
                  · exact j3 k hk h5
                  · have := (j2.lt k hk).2; omega⟩
                (hI8.pwr.mod m9 (fun h => by have := hHo _ h; omega)) (hI8.pgood.mod m9 (fun h => by have := hHo _ h; omega)) (hI8.tr.mod m9 (fun h => htf (.inl h))) hσ9
            have cO9 := cO.mod m9 (fun h => by have := hHo _ h; omega)
            have hown9 := owns_mod hownD m9 (fun k hk h => by have := hHo _ h; have := (hownD.lt k hk).1; omega)
            have kf9 := kf8.trans (keepsFrom_mod m9 (fun k hk => by have := hHo _ hk; omega))
            clear hput hI8 cO hownD kf8 hstep m9 hfoot j1 j2 j3 ea ec hσ9 mB
            go_wp2_with fail
            gi_wp2
            have mD := (Mod.refl W9 Nob).drew
            replace hI9 := hI9.mod mD
            replace cO9 := cO9.mod mD nob
            replace hown9 := owns_mod hown9 mD (fun _ _ => nob)
            replace kf9 := kf9.trans (keepsFrom_mod mD (fun k h => h.elim))
            refine wpIn_region_round (by kernel_rfl) (by rfl) (fun _ _ h => h) ?_
            refine wpAny_of_U (S := fun W => CellsAt W (H + 3) #[.nilFunc, .nilFunc] 89) (k := 5) _ _ _ _ ?_
            change wpAnyU _ _ _ _ _ _ _ _ _ W9.drew
            obtain ⟨V1, hV1⟩ : ∃ V, W9.drew = V := ⟨_, rfl⟩
            rw [hV1] at hI9 cO9 hown9 kf9 ⊢
            have hS0 := hI9.y
            clear hV1 mD
            refine wpAnyU_take (i := 0) (v := .agg #[.nilFunc, .nilFunc]) rfl (by kernel_rfl) (by kernel_rfl) (by kernel_rfl) (by kernel_rfl) (by kernel_rfl) (fun _ _ _ h => h) (Or.inl ⟨by rfl, fun W hS => by have y := hS.cell 0; have y2 := hS.cell 1; simp at y y2; go_simp⟩) hS0 ?_
            try simp only [Act.put, List.getElem_toArray, List.getElem_cons_zero, List.getElem_cons_succ, List.setIfInBounds_toArray, List.set_cons_zero, List.set_cons_succ]
            refine wpAnyU_takeP (i := 1) (v := .int .u64 ((K0 : Int) + 1)) rfl (by kernel_rfl) (by kernel_rfl) (by kernel_rfl) (by decide) (fun _ _ _ h => h) (Or.inl ⟨by rfl, fun W => by go_simp⟩) (fun _ => hS0) ?_
            try simp only [Act.put, List.getElem_toArray, List.getElem_cons_zero, List.getElem_cons_succ, List.setIfInBounds_toArray, List.set_cons_zero, List.set_cons_succ]
            refine wpAnyU_takeP (i := 3) (v := .slice sa 96 sc) rfl (by kernel_rfl) (by kernel_rfl) (by kernel_rfl) (by decide) (fun _ _ _ h => h) (Or.inl ⟨by rfl, fun W => by go_simp⟩) (fun _ => hS0) ?_
            try simp only [Act.put, List.getElem_toArray, List.getElem_cons_zero, List.getElem_cons_succ, List.setIfInBounds_toArray, List.set_cons_zero, List.set_cons_succ]
            refine wpAnyU_takeP (i := 4) (v := .int .i64 96) rfl (by kernel_rfl) (by kernel_rfl) (by kernel_rfl) (by decide) (fun _ _ _ h => h) (Or.inl ⟨by rfl, fun W => by go_simp⟩) (fun _ => hS0) ?_
            try simp only [Act.put, List.getElem_toArray, List.getElem_cons_zero, List.getElem_cons_succ, List.setIfInBounds_toArray, List.set_cons_zero, List.set_cons_succ]
            refine wpAnyU_one 2 _ (by kernel_rfl) rfl (fun K hK => ?_)
            go_simp
            refine (hnm _).mono ?_
            rintro r V2 ⟨rfl, rfl⟩
            go_wp2_with fail
            refine hK.out _ _ (fun _ => hS0) ?_
            clear hK K
            try simp only [Act.put, List.getElem_toArray, List.getElem_cons_zero, List.getElem_cons_succ, List.setIfInBounds_toArray, List.set_cons_zero, List.set_cons_succ]
            refine wpAnyU_last (by kernel_rfl) (by simp) ?_
            refine wpAny_tail _ 5 _ _ _ (by kernel_rfl) ?_
            simp only [List.drop_succ_cons, List.drop_zero]
            clear hS0
            go_wp2_with fail
            change Calls _ _ #[eyes0, _, _, _] _ _
            refine (note_any _ nm _ _).mono ?_
            rintro r W10 ⟨⟨nv, rfl⟩, m10⟩
            replace hI9 := hI9.mod m10
            replace cO9 := cO9.mod m10 nob
            replace hown9 := owns_mod hown9 m10 (fun _ _ => nob)
            replace kf9 := kf9.trans (keepsFrom_mod m10 (fun k h => h.elim))
            clear m10
            have kt := hI9.t.cell 0
            have ke := hI9.pe.cell 0
            simp at kt ke
            have hmv := trust_move tb ⟨ep, K0, wr1⟩ W10 hI9.tr he (by show K0 < _; omega)
            go_wp2_with fail
            gi_wp2
            refine ⟨trivial, (CallsIn.inRound l ((callsIn_wide (n := 3)).2 hmv)).mono ?_⟩
            rintro e W11 ⟨rfl, ht11, m11⟩
            change TruAt W11 tb ⟨ep, K0 + 1, ep⟩ at ht11
            obtain ⟨ea, ec, j1, j2, j3⟩ := hI9.j
            have hftb : ¬ x'.foot b tb := fun h => by
              rcases hft9 tb h with h5 | h5
              · exact htf h5
              · omega
            have hI11 : BegG w H tb gp jb G b key ep (fun k => k = tb ∨ x.own b k) (σ.put nm en) x' ⟨ep, K0 + 1, ep⟩ es last wr1 true W11 :=
              hI9.turn m11 (fun k hk => .inr (.inr (.inr (.inl hk)))) HH.out hlT HAH hg6 hj6 lg lj hgj
                ⟨ea, ec, j1.mod m11 (by omega), owns_mod j2 m11 (fun k hk (h : k = tb) => by have := (j2.lt k hk).1; omega), j3⟩
                (hI9.pwr.mod m11 (by omega)) (hI9.pgood.mod m11 (by omega)) ht11 (hI9.st.mod m11 (fun k (hk : k = tb) h => hftb (hk ▸ h)))
            have cO11 := cO9.mod m11 (by omega)
            have hown11 := owns_mod hown9 m11 (fun k hk (h : k = tb) => by have := (hown9.lt k hk).1; omega)
            have kf11 := kf9.trans (keepsFrom_mod m11 (fun k (hk : k = tb) => by omega))
            clear hmv hI9 cO9 hown9 kf9 m11 ht11 j1 j2 j3 ea ec kt ke
            have y0 := hI11.y.cell 0
            have y1 := hI11.y.cell 1
            simp at y0 y1
            have hnt := note_any (.int .i64 5) ⟨#[]⟩ (.int .i64 0) W11
            change Calls _ _ #[.agg #[.nilFunc, .nilFunc], _, _, _] _ _ at hnt
            gi_wp2
            refine ⟨trivial, (CallsIn.inRound l ((callsIn_wide (n := 3)).2 hnt)).mono ?_⟩
            rintro e W12 ⟨⟨nv2, rfl⟩, m12⟩
            have hI12 := hI11.mod m12
            have cO12 := cO11.mod m12 nob
            have hown12 := owns_mod hown11 m12 (fun _ _ => nob)
            have kf12 := kf11.trans (keepsFrom_mod m12 (fun k h => h.elim))
            clear hnt hI11 cO11 hown11 kf11 m12 y0 y1
            obtain ⟨ea, ec, j1, j2, j3⟩ := hI12.j
            have q0 := cO12.cell 0
            have q1 := cO12.cell 1
            have q2 := cO12.cell 2
            have q3 := cO12.cell 3
            have kg := hI12.g.cell 0
            simp at q0 q1 q2 q3 kg
            have hcX := count_any jb (G + 4) es.length ep (.pointer (some ⟨b, 0, none⟩)) (.pointer (some ⟨tb, 0, none⟩)) ea ec es key last zl32 false ent0 oe sa 96 sc en W12 j1 (by have := HEL.out; omega) hkl hll rfl j2 (by have := hI12.size; omega) (fun h => by have := (j2.lt jb h).1; omega) (BytesAt.of_owns hown12) hel96 (by omega) (by omega) (fun h => by have := (hown12.lt jb h).1; omega)
              (fun k hk h => own_notE j2 k h (own_isB hown12 k hk))
            change Calls _ _ #[_, .agg #[.int .i64 oe.kind, .int .i64 oe.task, .int .u64 oe.att, .int .i64 oe.state], _] _ _ at hcX
            gi_wp2
            refine ⟨trivial, (CallsIn.inRound l ((callsIn_wide (n := 3)).2 hcX)).mono ?_⟩
            rintro e W13 ⟨⟨v13, rfl⟩, g9, c9, k1, k2, m13, hge⟩
            have hrow : ∀ k, inBlock (.slice ea es.length ec) k → G + 4 ≤ k := fun k hk => (j2.lt k hk).1
            have hel1 : (es ++ [oe]).length = es.length + 1 := by simp
            have hS13 : ∀ k, (k = jb ∨ inBlock (.slice ea es.length ec) k) → ¬ x'.foot b k := fun k hk h => by
              rcases hk with h5 | h5
              · rcases hft9 k h with h6 | h6
                · have := HAH k h6; omega
                · omega
              · exact j3 k h5 h
            have hI13 : BegG w H tb gp jb G b key ep (fun k => k = tb ∨ x.own b k) (σ.put nm en) x' ⟨ep, K0 + 1, ep⟩ (es ++ [oe]) (linkL en) wr1 true W13 :=
              hI12.turn m13 (fun k hk => by
                rcases hk with h5 | h5
                · exact .inr (.inr (.inl h5))
                · exact .inr (.inr (.inr (.inr (.inr (hrow k h5)))))) HH.out hlT HAH hg6 hj6 lg lj hgj
                ⟨some ⟨g9, 0, none⟩, c9, by rw [hel1]; exact k1, by rw [hel1]; exact k2, fun k hk h => by
                  rw [hel1] at hk
                  have hkg : g9 = k := by simpa [inBlock, Value.ownBlock] using hk
                  subst hkg
                  rcases hge with h5 | h5
                  · exact j3 g9 (by rw [h5]; rfl) h
                  · have := hI12.st.foot_lt g9 h; omega⟩
                (hI12.pwr.mod m13 (fun h => by rcases h with h | h; omega; have := hrow _ h; omega)) (hI12.pgood.mod m13 (fun h => by rcases h with h | h; omega; have := hrow _ h; omega)) (hI12.tr.mod m13 (fun h => by rcases h with h | h; omega; have := hrow _ h; omega))
                (hI12.st.mod m13 hS13)
            have kf13 := kf12.trans (keepsFrom_cells m13 (fun k hk => by
              rcases hk with h5 | h5
              · left; omega
              · right; exact owns_cells j2 k h5))
            clear hcX hI12 cO12 hown12 kf12 m13 hrow hS13 j1 j2 j3 q0 q1 q2 q3 kg k1 k2 hge
            have kt := hI13.t.cell 0
            have kw := hI13.pwr.cell 0
            have fw := hI13.pwr.free 0
            simp at kt kw
            have hwr := trust_writer tb ⟨ep, K0 + 1, ep⟩ W13 hI13.tr
            gi_wp2
            refine ⟨trivial, (CallsIn.inRound l ((callsIn_wide (n := 3)).2 hwr)).mono ?_⟩
            rintro e W14 ⟨rfl, rfl⟩
            obtain ⟨ea2, ec2, j1, j2, j3⟩ := hI13.j
            have mG := (Mod.refl W13 (· = G)).setCell (p := ⟨G, 0, none⟩) (.inl rfl) (.int .u64 ep)
            have hI14 : BegG w H tb gp jb G b key ep (fun k => k = tb ∨ x.own b k) (σ.put nm en) x' ⟨ep, K0 + 1, ep⟩ (es ++ [oe]) (linkL en) ep true (W13.setCell ⟨G, 0, none⟩ (.int .u64 ep)) :=
              hI13.turn mG (fun k (hk : k = G) => .inl hk) HH.out hlT HAH hg6 hj6 lg lj hgj
                ⟨ea2, ec2, j1.mod mG (by omega), owns_mod j2 mG (fun k hk (h : k = G) => by have := (j2.lt k hk).1; omega), j3⟩ (hI13.pwr.set 0 (.int .u64 ep)) (hI13.pgood.mod mG (by omega)) (hI13.tr.mod mG (by omega))
                (hI13.st.mod mG (fun k (hk : k = G) h => by
                  rcases hft9 k h with h6 | h6
                  · have := HAH k h6; omega
                  · omega))
            have kf14 := kf13.trans (keepsFrom_mod mG (fun k (hk : k = G) => by omega))
            have hout : OutOf key σ ⟨ep, K0, wr1⟩ (σ.put nm en) ⟨ep, K0 + 1, ep⟩ (es ++ [oe]) (linkL en) ep true := by
              have h5 := beginP_adopt (ep := ep) HST.out (by rw [HBL.out]; exact HO.out)
              rw [HEN.out] at h5
              exact .inl ⟨rfl, rfl, some en, h5, by rw [← HNM.out]; rfl, rfl⟩
            have HOUT := Box.mk hout
            clear hout hI13 kf13 mG j1 j2 j3 hwr kt
            gi_wp2
            exact ⟨kf14, rfl, σ.put nm en, x', ⟨ep, K0 + 1, ep⟩, es ++ [oe], linkL en, ep, true, HOUT.out, hft9, hI14⟩
    case stop =>
      rintro D c pre W hD _ ⟨rfl, σ', x', τ', es, last, wr1, good, hout, hft, hI⟩ hK
      obtain rfl : D = G + 4 := hD.trans hz4
      clear hD
      have HOUT := Box.mk hout
      have kg := hI.g.cell 0
      have kt := hI.t.cell 0
      have kw := hI.pwr.cell 0
      have kb := hI.pgood.cell 0
      simp at kg kt kw kb
      clear hout hseq hfl b1 b2 hσ1 cT cE cY cg cj cR cS cW cB hτ1 m0 hB0 hj0 hjc2 hep0 hkey heps hcn hch hpu hve
      have hwri : Calls Tryz.prog 55 #[.pointer (some ⟨tb, 0, none⟩)] { W with drawn := W.drawn + 1 } (fun e w' => e = .returned (.int .u64 τ'.wr) ∧ w' = { W with drawn := W.drawn + 1 }) :=
        (trust_writer tb τ' { W with drawn := W.drawn + 1 } (hI.tr.mod (Mod.refl W Nob).drew nob)).mono (fun e w' h => ⟨h.1, h.2.symm⟩)
      refine wpIn_wide.2 ?_
      rcases HOUT.out with ⟨rfl, hw1, ad, hb1, rfl, rfl⟩ | ⟨hbad, hb1, rfl, rfl⟩
      · have hne : (((movAd ⟨ep, cnt, wr⟩ ad).wr : Int) != ((movAd ⟨ep, cnt, wr⟩ ad).wr : Int)) = false := by simp
        subst hw1
        obtain ⟨τw, hτw⟩ : ∃ y, (movAd ⟨ep, cnt, wr⟩ ad).wr = y := ⟨_, rfl⟩
        rw [hτw] at hne kw hwri
        go_wp2_with fail
        refine wp_no_panic ?_
        refine wp_region_still_lit (by kernel_rfl) (by kernel_rfl) ?_
        repeat still_step
        still_call hwri
        repeat still_step
        refine wpStill_nil ?_
        change Exit.then _ _ _ _ W.drew
        have mD := (Mod.refl W Nob).drew
        have hI2 := hI.mod mD
        have hK2 := mD.keep hK nob
        obtain ⟨W5, hW5⟩ : ∃ V, W.drew = V := ⟨_, rfl⟩
        rw [hW5] at hI2 hK2 ⊢
        have kg2 := hI2.g.cell 0
        have cr := hI2.r
        have cs := hI2.s
        have kr := cr.cell 0
        have fr := cr.free 0
        have ks := cs.cell 0
        have fs := cs.free 0
        simp at kg2 kr ks
        have mS := ((Mod.refl W5 (fun k => k = H + 4 ∨ k = H + 5)).setCell (p := ⟨H + 4, 0, none⟩) (.inl (.inl rfl)) (.pointer (some ⟨jb, 0, none⟩))).setCell (p := ⟨H + 5, 0, none⟩) (.inl (.inr rfl)) (.int .i64 0)
        have ks2 := (cs.mod ((Mod.refl W5 (· = H + 4)).setCell (p := ⟨H + 4, 0, none⟩) (.inl rfl) (.pointer (some ⟨jb, 0, none⟩))) (by omega))
        have c1 := (cr.set 0 (.pointer (some ⟨jb, 0, none⟩))).mod ((Mod.refl _ (· = H + 5)).setCell (p := ⟨H + 5, 0, none⟩) (.inl rfl) (.int .i64 0)) (by omega)
        have c2 := ks2.set 0 (.int .i64 0)
        have fs2 := ks2.free 0
        have ks3 := ks2.cell 0
        simp at ks3
        clear hW5 mD hI hK kg kt kw kb hwri
        go_wp2_with fail
        rw [Exit.noGoto_ret]
        go_wp2_with fail
        obtain ⟨W6, hW6⟩ : ∃ V, (W5.setCell ⟨H + 4, 0, none⟩ (.pointer (some ⟨jb, 0, none⟩))).setCell ⟨H + 5, 0, none⟩ (.int .i64 0) = V := ⟨_, rfl⟩
        change (W5.setCell ⟨H + 1 + 1 + 1 + 1, 0, none⟩ (.pointer (some ⟨jb, 0, none⟩))).setCell ⟨H + 1 + 1 + 1 + 1 + 1, 0, none⟩ (.int .i64 0) = _ at hW6
        change Mod W5 ((W5.setCell ⟨H + 1 + 1 + 1 + 1, 0, none⟩ (.pointer (some ⟨jb, 0, none⟩))).setCell ⟨H + 1 + 1 + 1 + 1 + 1, 0, none⟩ (.int .i64 0)) _ at mS
        change CellsAt ((W5.setCell ⟨H + 1 + 1 + 1 + 1, 0, none⟩ (.pointer (some ⟨jb, 0, none⟩))).setCell ⟨H + 1 + 1 + 1 + 1 + 1, 0, none⟩ (.int .i64 0)) _ _ _ at c1 c2
        rw [hW6] at mS c1 c2
        simp only [hW6]
        have DS := mS.keep hK2 (fun h => by omega)
        have mD : Mod W6 (W6.putObj (G + 4) (.deferred none)) (· = (G + 4)) := (Mod.refl _ (· = (G + 4))).putObj (.inl rfl) _
        have r1 := (c1.mod mD (by omega)).cell 0
        have r2 := (c2.mod mD (by omega)).cell 0
        simp at r1 r2
        have mf := (hI2.md.drop mS (fun k hk => .inr (by have := HH.out; omega))).drop mD (fun k (hk : k = (G + 4)) => .inr (by have := HH.out; omega))
        have hsz := hI2.size
        have mSD : Mod W5 (W6.putObj (G + 4) (.deferred none)) (fun k => k = H + 4 ∨ k = H + 5 ∨ k = (G + 4)) := (mS.wide (T := fun k => k = H + 4 ∨ k = H + 5 ∨ k = (G + 4)) (fun k hk => .inl (hk.elim .inl (fun h => .inr (.inl h))))).trans (mD.wide (T := fun k => k = H + 4 ∨ k = H + 5 ∨ k = (G + 4)) (fun k hk => .inl (.inr (.inr hk))))
        obtain ⟨ea, ec, j1, j2, j3⟩ := hI2.j
        have hDf : ∀ k, (k = H + 4 ∨ k = H + 5 ∨ k = (G + 4)) → ¬ x'.foot b k := fun k hk h => by
          rcases hft k h with h2 | h2
          · have := hfl0 k h2; omega
          · omega
        have jn : ∀ k, inBlock (.slice ea es.length ec) k → ¬ (k = H + 4 ∨ k = H + 5 ∨ k = (G + 4)) := fun k hk h => by
          have h5 := (j2.lt k hk).1
          rcases h with h | h | h
          · omega
          · omega
          · rw [h] at hk
            obtain ⟨o, o1, o2⟩ := owns_cells j2 (G + 4) hk
            rw [hK2] at o1
            cases o1
            cases o2
        refine ⟨by simp, .inl ⟨_, _, rfl, run_takeDeferred DS, ?_⟩⟩
        refine ⟨.tuple #[.pointer (some ⟨jb, 0, none⟩), .int .i64 0], ?_, putAd σ cnt ad, x', movAd ⟨ep, cnt, wr⟩ ad, hI2.st.mod mSD hDf, fun k hk => (hft k hk).imp id (fun h => by have := HH.out; omega), hI2.tr.mod mSD (by omega), mf, .inr ⟨es, last, ad, jb, ea, ec, by rw [HKEY.out]; exact hb1, rfl, rfl, rfl, by have := HH.out; omega, fun h => by rcases hft jb h with h2 | h2; have := hfl0 jb h2; omega; omega, by rw [HKEY.out]; exact j1.mod mSD (by omega), owns_down (owns_mod j2 mSD jn) (by have := HH.out; omega), fun h => by have := (j2.lt jb h).1; omega, j3⟩⟩
        simp [results, Tryz.f31, go_sem, r1, r2]
      · cases good
        case' true =>
          have hne : ((wr1 : Int) != (wr : Int)) = true := by
            rcases hbad with h | h
            · cases h
            · exact bne_iff_ne.2 (by simp only at h; omega)
          have hwri2 : Calls Tryz.prog 55 #[.pointer (some ⟨tb, 0, none⟩)] { W with drawn := W.drawn + 1 } (fun e w' => e = .returned (.int .u64 wr) ∧ w' = { W with drawn := W.drawn + 1 }) := hwri
          go_wp2_with fail
          refine wp_no_panic ?_
          refine wp_region_still_lit (by kernel_rfl) (by kernel_rfl) ?_
          repeat still_step
          still_call hwri2
          repeat still_step
          refine wpStill_nil ?_
        case' false =>
          go_wp2_with fail
          refine wp_no_panic ?_
          refine wp_region_still_lit (by kernel_rfl) (by kernel_rfl) ?_
          repeat still_step
          refine wpStill_nil ?_
        all_goals (

          change Exit.then _ _ _ _ W.drew
          have mD := (Mod.refl W Nob).drew
          have hI2 := hI.mod mD
          have hK2 := mD.keep hK nob
          obtain ⟨W5, hW5⟩ : ∃ V, W.drew = V := ⟨_, rfl⟩
          rw [hW5] at hI2 hK2 ⊢
          have kg2 := hI2.g.cell 0
          have cr := hI2.r
          have cs := hI2.s
          have kr := cr.cell 0
          have fr := cr.free 0
          have ks := cs.cell 0
          have fs := cs.free 0
          simp at kg2 kr ks
          have mS := ((Mod.refl W5 (fun k => k = H + 4 ∨ k = H + 5)).setCell (p := ⟨H + 4, 0, none⟩) (.inl (.inl rfl)) (.pointer none)).setCell (p := ⟨H + 5, 0, none⟩) (.inl (.inr rfl)) (.int .i64 9)
          have ks2 := (cs.mod ((Mod.refl W5 (· = H + 4)).setCell (p := ⟨H + 4, 0, none⟩) (.inl rfl) (.pointer none)) (by omega))
          have c1 := (cr.set 0 (.pointer none)).mod ((Mod.refl _ (· = H + 5)).setCell (p := ⟨H + 5, 0, none⟩) (.inl rfl) (.int .i64 9)) (by omega)
          have c2 := ks2.set 0 (.int .i64 9)
          have fs2 := ks2.free 0
          have ks3 := ks2.cell 0
          simp at ks3
          clear hW5 mD hI hK kg kt kw kb hwri
          go_wp2_with fail
          rw [Exit.noGoto_ret]
          go_wp2_with fail
          obtain ⟨W6, hW6⟩ : ∃ V, (W5.setCell ⟨H + 4, 0, none⟩ (.pointer none)).setCell ⟨H + 5, 0, none⟩ (.int .i64 9) = V := ⟨_, rfl⟩
          change (W5.setCell ⟨H + 1 + 1 + 1 + 1, 0, none⟩ (.pointer none)).setCell ⟨H + 1 + 1 + 1 + 1 + 1, 0, none⟩ (.int .i64 9) = _ at hW6
          change Mod W5 ((W5.setCell ⟨H + 1 + 1 + 1 + 1, 0, none⟩ (.pointer none)).setCell ⟨H + 1 + 1 + 1 + 1 + 1, 0, none⟩ (.int .i64 9)) _ at mS
          change CellsAt ((W5.setCell ⟨H + 1 + 1 + 1 + 1, 0, none⟩ (.pointer none)).setCell ⟨H + 1 + 1 + 1 + 1 + 1, 0, none⟩ (.int .i64 9)) _ _ _ at c1 c2
          rw [hW6] at mS c1 c2
          simp only [hW6]
          have DS := mS.keep hK2 (fun h => by omega)
          have mD : Mod W6 (W6.putObj (G + 4) (.deferred none)) (· = (G + 4)) := (Mod.refl _ (· = (G + 4))).putObj (.inl rfl) _
          have r1 := (c1.mod mD (by omega)).cell 0
          have r2 := (c2.mod mD (by omega)).cell 0
          simp at r1 r2
          have mf := (hI2.md.drop mS (fun k hk => .inr (by have := HH.out; omega))).drop mD (fun k (hk : k = (G + 4)) => .inr (by have := HH.out; omega))
          have hsz := hI2.size
          have mSD : Mod W5 (W6.putObj (G + 4) (.deferred none)) (fun k => k = H + 4 ∨ k = H + 5 ∨ k = (G + 4)) := (mS.wide (T := fun k => k = H + 4 ∨ k = H + 5 ∨ k = (G + 4)) (fun k hk => .inl (hk.elim .inl (fun h => .inr (.inl h))))).trans (mD.wide (T := fun k => k = H + 4 ∨ k = H + 5 ∨ k = (G + 4)) (fun k hk => .inl (.inr (.inr hk))))
          have hDf : ∀ k, (k = H + 4 ∨ k = H + 5 ∨ k = (G + 4)) → ¬ x'.foot b k := fun k hk h => by
            rcases hft k h with h2 | h2
            · have := hfl0 k h2; omega
            · omega
          refine ⟨by simp, .inl ⟨_, _, rfl, run_takeDeferred DS, ?_⟩⟩
          refine ⟨.tuple #[.pointer none, .int .i64 9], ?_, σ', x', ⟨ep, cnt, wr⟩, hI2.st.mod mSD hDf, fun k hk => (hft k hk).imp id (fun h => by have := HH.out; omega), hI2.tr.mod mSD (by omega), mf, .inl ⟨by rw [HKEY.out]; exact hb1, rfl, rfl, rfl⟩⟩
          simp [results, Tryz.f31, go_sem, r1, r2])

end Go.Proofs.YtaeociedjdgdfaaGreatDoor

namespace Go.Proofs.YtaeociedjdgdfaaGreatDoor
open Go.RowKit Go.Shelf
set_option linter.unusedSimpArgs false

/-- Are two entries alike? -/
def sameE (e f : Ent) : Bool := decide (e.kind = f.kind ∧ e.task = f.task ∧ e.att = f.att ∧ e.state = f.state)
theorem sameE_iff (e f : Ent) : sameE e f = true ↔ e = f := by
  obtain ⟨a, b, c, d⟩ := e
  obtain ⟨a', b', c', d'⟩ := f
  simp [sameE]
/-- Are two lists of entries alike, from a place on? -/
def sameFrom (es fs : List Ent) (k : Nat) : Bool := (es.drop k).zipWith sameE (fs.drop k) |>.all id
theorem sameFrom_step (es fs : List Ent) (k : Nat) (e f : Ent) (he : es[k]? = some e) (hf : fs[k]? = some f) : sameFrom es fs k = (sameE e f && sameFrom es fs (k + 1)) := by
  obtain ⟨h1, h2⟩ := List.getElem?_eq_some_iff.1 he
  obtain ⟨h3, h4⟩ := List.getElem?_eq_some_iff.1 hf
  unfold sameFrom
  rw [List.drop_eq_getElem_cons h1, List.drop_eq_getElem_cons h3, h2, h4]
  rfl
theorem sameFrom_end (es fs : List Ent) (k : Nat) (h : es.length ≤ k) : sameFrom es fs k = true := by
  unfold sameFrom
  rw [List.drop_of_length_le h]
  rfl
def sameEs (es fs : List Ent) : Bool := es.length == fs.length && sameFrom es fs 0
theorem sameFrom_iff : ∀ (es fs : List Ent), es.length = fs.length → (sameFrom es fs 0 = true ↔ es = fs)
  | [], [], _ => ⟨fun _ => rfl, fun _ => rfl⟩
  | [], _ :: _, h => by cases h
  | _ :: _, [], h => by cases h
  | e :: es, f :: fs, h => by
    have ih := sameFrom_iff es fs (by simpa using h)
    have h1 : sameFrom (e :: es) (f :: fs) 0 = (sameE e f && sameFrom es fs 0) := rfl
    rw [h1, Bool.and_eq_true, ih, sameE_iff]
    simp
theorem sameEs_iff (es fs : List Ent) : sameEs es fs = true ↔ es = fs := by
  unfold sameEs
  rw [Bool.and_eq_true, beq_iff_eq]
  exact ⟨fun h => (sameFrom_iff es fs h.1).1 h.2, fun h => by subst h; exact ⟨rfl, (sameFrom_iff es es rfl).2 rfl⟩⟩
theorem sameEs_self (es : List Ent) : sameEs es es = true := (sameEs_iff es es).2 rfl

/-- A list of entries that lies somewhere. -/
def EntsAt (w : World) (v : Value) (es : List Ent) : Prop :=
  ∃ a c, v = .slice a es.length c ∧ es.length < 1073741824 ∧ ∀ (k : Nat) e, es[k]? = some e → ∃ b o, a = some ⟨b, o, none⟩ ∧ w.rangeAt b (o + k * 4) e.cells
theorem ents_cell : ∀ (es : List Ent) (k : Nat) (e : Ent), es[k]? = some e → ∀ (j : Nat) u, e.cells[j]? = some u → (es.flatMap Ent.cells)[k * 4 + j]? = some u
  | [], k, e, h, _, _, _ => by simp at h
  | e0 :: es, 0, e, h, j, u, hu => by
    cases h
    rw [List.flatMap_cons, List.getElem?_append_left (by have := (List.getElem?_eq_some_iff.1 hu).1; simpa using this)]
    simpa using hu
  | e0 :: es, k + 1, e, h, j, u, hu => by
    rw [List.flatMap_cons, List.getElem?_append_right (by simp [Ent.cells]; omega)]
    have := ents_cell es k e (by simpa using h) j u hu
    rw [← this]
    congr 1
    simp [Ent.cells]
    omega
theorem EntsAt.of_owns {w : World} {base n : Nat} {v : Value} {es : List Ent} (h : w.ownsRow base 38 4 v n (es.flatMap Ent.cells)) (hn : n = es.length) (hl : es.length < 1073741824) : EntsAt w v es := by
  subst hn
  obtain ⟨a, c, rfl, _, _⟩ := owns_form h
  refine ⟨a, c, rfl, hl, fun k e he => ?_⟩
  have hk := (List.getElem?_eq_some_iff.1 he).1
  rcases h.2 with ⟨_, h0⟩ | ⟨g, cap', cur, h0, _⟩
  · omega
  · cases h0
    refine ⟨g, 0, rfl, fun j u hu => ?_⟩
    have h5 := ents_cell es k e he j u hu
    have h6 := h.cells (g := g) rfl (k * 4 + j) u h5
    have hadd : (⟨g, 0, none⟩ : Addr).add (k * 4 + j) = ⟨g, k * 4 + j, none⟩ := by unfold Addr.add; split <;> simp_all
    rw [hadd] at h6
    rw [show 0 + k * 4 + j = k * 4 + j by omega]
    exact h6
theorem EntsAt.mod {w w' : World} {S : Nat → Prop} {v : Value} {es : List Ent} (h : EntsAt w v es) (hm : Mod w w' S) (hn : ∀ k, inBlock v k → ¬ S k) : EntsAt w' v es := by
  obtain ⟨a, c, rfl, hl, hc⟩ := h
  refine ⟨a, c, rfl, hl, fun k e he => ?_⟩
  obtain ⟨b, o, rfl, hr⟩ := hc k e he
  refine ⟨b, o, rfl, fun j u hu => ?_⟩
  have h1 := hr j u hu
  have hb := hm.block b (cell_lt h1) (hn b rfl)
  unfold World.cell? at h1 ⊢
  simpa [hb] using h1
theorem EntsAt.nil (w : World) : EntsAt w (.slice none 0 0) [] := ⟨none, 0, rfl, by simp, fun k e h => by simp at h⟩

set_option maxRecDepth 100000 in
set_option maxHeartbeats 1000000 in
theorem eq_ent (e f : Ent) (w : World) : Calls Tryz.prog 45 #[.agg #[.int .i64 e.kind, .int .i64 e.task, .int .u64 e.att, .int .i64 e.state], .agg #[.int .i64 f.kind, .int .i64 f.task, .int .u64 f.att, .int .i64 f.state]] w fun r w' => r = .returned (.bool (sameE e f)) ∧ Mod w w' Nob := by
  have heq : ∀ W, (binOp .eql 38 (.agg #[.int .i64 e.kind, .int .i64 e.task, .int .u64 e.att, .int .i64 e.state]) (.agg #[.int .i64 f.kind, .int .i64 f.task, .int .u64 f.att, .int .i64 f.state])).run Tryz.prog W = .ok (.bool (sameE e f)) W := fun W => by
    go_simp
    unfold sameE
    by_cases h1 : e.kind = f.kind <;> by_cases h2 : e.task = f.task <;> by_cases h3 : e.att = f.att <;> by_cases h4 : e.state = f.state <;> simp [h1, h2, h3, h4]
    all_goals omega
  have c1 := (CellsAt.new w #[.int .i64 e.kind, .int .i64 e.task, .int .u64 e.att, .int .i64 e.state] 38).alloc (.cells #[.int .i64 f.kind, .int .i64 f.task, .int .u64 f.att, .int .i64 f.state] 38)
  have c2 := CellsAt.new (w.alloc (.cells #[.int .i64 e.kind, .int .i64 e.task, .int .u64 e.att, .int .i64 e.state] 38)) #[.int .i64 f.kind, .int .i64 f.task, .int .u64 f.att, .int .i64 f.state] 38
  rw [World.size_alloc] at c2
  have m0 := ((Mod.refl w Nob).alloc (.cells #[.int .i64 e.kind, .int .i64 e.task, .int .u64 e.att, .int .i64 e.state] 38)).alloc (.cells #[.int .i64 f.kind, .int .i64 f.task, .int .u64 f.att, .int .i64 f.state] 38)
  go_enter Tryz.func45, Tryz.ntmps45
  go_wp2_with fail
  go_ret
  exact ⟨rfl, m0⟩

set_option maxRecDepth 100000 in
set_option maxHeartbeats 2000000 in
theorem same_ent (u v : Value) (es fs : List Ent) (w : World) (hu : EntsAt w u es) (hv : EntsAt w v fs) :
    Calls Tryz.prog 44 #[u, v, .func (.func 45) #[] #[]] w fun r w' => r = .returned (.bool (sameEs es fs)) ∧ Mod w w' Nob := by
  obtain ⟨ua, uc, rfl, hul, hur⟩ := hu
  obtain ⟨va, vc, rfl, hvl, hvr⟩ := hv
  obtain ⟨n, hn⟩ : ∃ n, es.length = n := ⟨_, rfl⟩
  obtain ⟨m, hm⟩ : ∃ m, fs.length = m := ⟨_, rfl⟩
  rw [hn] at hul ⊢
  rw [hm] at hvl ⊢
  have HN := Box.mk hn
  have HM := Box.mk hm
  clear hn hm
  by_cases hnm : n = m
  case neg =>
    have dn : ((n : Int) != (m : Int)) = true := bne_iff_ne.2 (by omega)
    have hres : sameEs es fs = false := by
      unfold sameEs
      rw [HN.out, HM.out, show (n == m) = false from beq_eq_false_iff_ne.2 hnm]
      rfl
    rw [hres]
    clear hres hur hvr hnm
    go_enter Tryz.func44, Tryz.ntmps44
    go_wp2_with fail
    go_ret
    exact ⟨rfl, Mod.refl w Nob⟩
  subst hnm
  have dn : ((n : Int) != (n : Int)) = false := by simp
  have hres : sameEs es fs = sameFrom es fs 0 := by
    unfold sameEs
    rw [HN.out, HM.out, show (n == n) = true from beq_self_eq_true n, Bool.true_and]
  rw [hres]
  obtain ⟨R, hR⟩ : ∃ R, sameFrom es fs 0 = R := ⟨_, rfl⟩
  rw [hR]
  have HR := Box.mk hR
  clear hres hR
  go_enter Tryz.func44, Tryz.ntmps44
  go_wp2_with fail
  go_loopw [7] (fun i wr => ∃ k : Nat, k ≤ n ∧ i = .int .i64 k ∧ sameFrom es fs k = R ∧ Mod w wr Nob) (fun i _ => n - (intOf i).toNat)
  case atStart => exact ⟨0, Nat.zero_le _, rfl, HR.out, Mod.refl w Nob⟩
  case round =>
    obtain ⟨k, hk, rfl, hkR, hmm⟩ := hrel
    have HKR := Box.mk hkR
    clear hkR
    by_cases hlt : k < n
    · obtain ⟨e, he⟩ : ∃ e, es[k]? = some e := ⟨_, List.getElem?_eq_getElem (by rw [HN.out]; exact hlt)⟩
      obtain ⟨f, hf⟩ : ∃ f, fs[k]? = some f := ⟨_, List.getElem?_eq_getElem (by rw [HM.out]; exact hlt)⟩
      obtain ⟨bu, ou, rfl, cu⟩ := hur k e he
      obtain ⟨bv, ov, rfl, cv⟩ := hvr k f hf
      have hsf := sameFrom_step es fs k e f he hf
      have HSF := Box.mk hsf
      have mD := hmm.drew
      have cell : ∀ {b o : Nat} {x : Value}, w.cell? ⟨b, o, none⟩ = some x → wr.drew.cell? ⟨b, o, none⟩ = some x := fun {b o x} h => by
        have hb := mD.block b (cell_lt h) nob
        unfold World.cell? at h ⊢
        simpa [hb] using h
      have u0 := cell (cu 0 _ rfl)
      have u1 := cell (cu 1 _ rfl)
      have u2 := cell (cu 2 _ rfl)
      have u3 := cell (cu 3 _ rfl)
      have v0 := cell (cv 0 _ rfl)
      have v1 := cell (cv 1 _ rfl)
      have v2 := cell (cv 2 _ rfl)
      have v3 := cell (cv 3 _ rfl)
      rw [Nat.add_zero] at u0 v0
      clear hsf he hf cu cv hur hvr cell
      go_wp2_with fail
      refine wp_no_panic ?_
      refine wp_region_still_tail 9 (by kernel_rfl) (by kernel_rfl) ?_
      simp only [List.take_succ_cons, List.take_zero, List.drop_succ_cons, List.drop_zero]
      change wpStill _ _ wr.drew (fun a' => wpList _ _ _ _ a' wr.drew) _ _
      obtain ⟨V, hV⟩ : ∃ V, wr.drew = V := ⟨_, rfl⟩
      rw [hV] at u0 u1 u2 u3 v0 v1 v2 v3 mD ⊢
      clear hV
      repeat still_step
      refine wpStill_nil ?_
      clear u0 u1 u2 u3 v0 v1 v2 v3
      go_wp2_with fail
      refine (eq_ent e f V).mono ?_
      rintro r V2 ⟨rfl, m2⟩
      have mA := mD.trans m2
      have hkR := HKR.out
      rw [HSF.out] at hkR
      cases hb : sameE e f
      · rw [hb, Bool.false_and] at hkR
        subst hkR
        clear hb HKR HR HSF hmm mD
        go_wp2_with fail
        go_ret
        exact ⟨rfl, mA⟩
      · rw [hb, Bool.true_and] at hkR
        have HK2 := Box.mk hkR
        clear hkR hb HKR HSF hmm mD
        go_wp2_with fail
        exact ⟨⟨k + 1, by omega, by go_num, HK2.out, mA⟩, by simp [intOf]; omega⟩
    · obtain rfl : k = n := by omega
      have hkR := HKR.out
      rw [sameFrom_end es fs k (by rw [HN.out]; exact Nat.le_refl _)] at hkR
      subst hkR
      clear HKR
      go_wp2_with fail
      go_ret
      exact ⟨rfl, hmm⟩

set_option maxRecDepth 100000 in
set_option maxHeartbeats 1000000 in
theorem plain_ent (u v : Value) (es fs : List Ent) (w : World) (hu : EntsAt w u es) (hv : EntsAt w v fs) :
    Calls Tryz.prog 20 #[u, v] w fun r w' => r = .returned (.bool (sameEs es fs)) ∧ Mod w w' Nob := by
  have hs := same_ent u v es fs w hu hv
  obtain ⟨ua, uc, rfl, _, _⟩ := hu
  obtain ⟨va, vc, rfl, _, _⟩ := hv
  obtain ⟨R, hR⟩ : ∃ R, sameEs es fs = R := ⟨_, rfl⟩
  rw [hR] at hs ⊢
  clear hR
  go_enter Tryz.func20, Tryz.ntmps20
  go_wp2_with fail
  refine hs.mono ?_
  rintro r W ⟨rfl, m1⟩
  go_wp2_with fail
  go_ret
  exact ⟨rfl, m1⟩

end Go.Proofs.YtaeociedjdgdfaaGreatDoor

namespace Go.Proofs.YtaeociedjdgdfaaGreatDoor
open Go.RowKit Go.Shelf
set_option linter.unusedSimpArgs false

theorem nameS_inj {n m : Nat} (hn : n < 100) (hm : m < 100) (h : nameS n = nameS m) : n = m := by
  have h1 : Lib.decDigits n = Lib.decDigits m := by
    unfold nameS at h
    have h2 := congrArg (fun b : ByteArray => b.data.toList) h
    simpa using h2
  by_cases a : n < 10 <;> by_cases b : m < 10
  · rw [Lib.decDigits_one a, Lib.decDigits_one b] at h1
    have h2 := congrArg (fun l : List UInt8 => (l.head?.map (·.toNat))) h1
    simp at h2
    omega
  · rw [Lib.decDigits_one a, Lib.decDigits_two (by omega) hm] at h1
    have h2 := congrArg List.length h1
    simp at h2
  · rw [Lib.decDigits_two (by omega) hn, Lib.decDigits_one b] at h1
    have h2 := congrArg List.length h1
    simp at h2
  · rw [Lib.decDigits_two (by omega) hn, Lib.decDigits_two (by omega) hm] at h1
    have h2 := congrArg (fun l : List UInt8 => l.map (·.toNat)) h1
    simp at h2
    omega

theorem put_shows (σ : Sto) (nm : ByteArray) (l : List UInt8) : (σ.put nm l).shows nm = some l := by simp [Sto.put, Sto.set, upd]
theorem put_other (σ : Sto) (nm nm' : ByteArray) (l : List UInt8) (h : nm' ≠ nm) : (σ.put nm l).shows nm' = σ.shows nm' := by simp [Sto.put, Sto.set, upd, h]
theorem getP_put (σ : Sto) (n : Nat) (l : List UInt8) : getP (σ.put (nameS n) l) n = l := by
  unfold getP
  rw [put_shows]
  rfl
theorem getP_other (σ : Sto) (n m : Nat) (l : List UInt8) (hn : n < 100) (hm : m < 100) (h : m ≠ n) : getP (σ.put (nameS n) l) m = getP σ m := by
  unfold getP
  rw [put_other _ _ _ _ (fun e => h (nameS_inj hm hn e))]

theorem entP_ok (p : List UInt8) : (entP p).ok := by
  have h : ∀ i, wordP p i < 18446744073709551616 := fun i => by
    have h1 := leN_lt (((p.take 32).drop (8 * i)).take 8)
    have h2 : (((p.take 32).drop (8 * i)).take 8).length ≤ 8 := List.length_take_le _ _
    have h3 : 256 ^ (((p.take 32).drop (8 * i)).take 8).length ≤ 256 ^ 8 := Nat.pow_le_pow_right (by omega) h2
    unfold wordP
    omega
  have hw : ∀ n : Nat, n < 18446744073709551616 → -9223372036854775808 ≤ IntKind.i64.wrap (n : Int) ∧ IntKind.i64.wrap (n : Int) ≤ 9223372036854775807 := fun n hn => by
    simp only [IntKind.wrap, IntKind.signed, IntKind.bits]
    simp
    omega
  exact ⟨(hw _ (h 0)).1, (hw _ (h 0)).2, (hw _ (h 1)).1, (hw _ (h 1)).2, h 2, (hw _ (h 3)).1, (hw _ (h 3)).2⟩
theorem opened_ok {key last : List UInt8} {n : Nat} {b : List UInt8} {e : Ent} {wr : Nat} (h : openedP key last n b = some (e, wr)) : e.ok := by
  unfold openedP at h
  cases hc : (b.length == 96 && (leN ((b.drop 8).take 8) == n && (tagOk key n b && (unsealL key n b).drop 32 == last))) with
  | false => rw [hc] at h; cases h
  | true =>
    rw [hc] at h
    have h2 := Option.some.inj h
    cases h2
    exact entP_ok _

/-- All that is shown was sealed as entries are. -/
structure AllE (σ : Sto) (K : Nat) : Prop where
  shown : ∀ nm l, σ.shows nm = some l → l.length = 96 ∧ leN (l.take 8) < 1073741824
  chs : σ.changes.length ≤ K
  puts : σ.puts.length ≤ K
  vers : ∀ nm, (σ.vers nm).length ≤ K
theorem AllE.short {σ : Sto} {K : Nat} (h : AllE σ K) : σ.short := fun nm l hl => by have := (h.shown nm l hl).1; omega
theorem AllE.eps {σ : Sto} {K : Nat} (h : AllE σ K) (n : Nat) : (getP σ n).length = 96 → leN ((getP σ n).take 8) < 1099511627776 := fun hl => by
  unfold getP at hl ⊢
  cases hs : σ.shows (nameS n) with
  | none => rw [hs] at hl; cases hl
  | some l => have := (h.shown _ l hs).2; simp only [Option.getD_some]; omega
theorem AllE.wide {σ : Sto} {K K' : Nat} (h : AllE σ K) (hk : K ≤ K') : AllE σ K' := ⟨h.shown, by have := h.chs; omega, by have := h.puts; omega, fun nm => by have := h.vers nm; omega⟩
theorem AllE.new : AllE sto0 0 := ⟨fun nm l h => (by cases h), Nat.le_refl _, Nat.le_refl _, fun nm => Nat.le_refl _⟩
theorem AllE.put {σ : Sto} {K : Nat} (h : AllE σ K) (nm : ByteArray) (l : List UInt8) (hl : l.length = 96) (hl2 : leN (l.take 8) < 1073741824) : AllE (σ.put nm l) (K + 1) := by
  refine ⟨fun nm' l' h' => ?_, ?_, ?_, fun nm' => ?_⟩
  · by_cases hn : nm' = nm
    · subst hn
      rw [put_shows] at h'
      cases h'
      exact ⟨hl, hl2⟩
    · rw [put_other _ _ _ _ hn] at h'
      exact h.shown nm' l' h'
  · have := h.chs
    simp [Sto.put, Sto.set]
    exact this
  · have := h.puts
    simp [Sto.put]
    exact this
  · by_cases hn : nm' = nm
    · subst hn
      have := h.vers nm'
      simp [Sto.put, upd]
      exact this
    · have := h.vers nm'
      simp [Sto.put, upd, hn]
      omega
theorem entry_ep (key : List UInt8) (ep n : Nat) (e : Ent) (last : List UInt8) (hl : last.length = 32) (h : ep < 1073741824) : (entryL key ep n e last).length = 96 ∧ leN ((entryL key ep n e last).take 8) < 1073741824 := by
  refine ⟨entryL_length key ep n e last hl, ?_⟩
  rw [(entry_parts key ep n e last hl).2.2.2.1, leN8 _ (by omega)]
  exact h

/-- A journal may begin with these entries: so many stand there, nothing behind them. -/
structure Ready (key : List UInt8) (σ : Sto) (τ : Tru) (es : List Ent) : Prop where
  begins : ∀ ep, ∃ last ad, beginP key (getP σ) ep τ.cnt τ.wr = some (es, last, ad)
  behind : ∀ n, es.length < n → n < 100 → σ.shows (nameS n) = none
/-- A journal that has begun has these entries, all of which count. -/
structure Clean (key : List UInt8) (σ : Sto) (τ : Tru) (es : List Ent) (last : List UInt8) : Prop where
  steps : stepsP key (getP σ) τ.cnt = some (es, last, τ.wr)
  behind : ∀ n, τ.cnt < n → n < 100 → σ.shows (nameS n) = none
theorem Clean.len {key : List UInt8} {σ : Sto} {τ : Tru} {es : List Ent} {last : List UInt8} (h : Clean key σ τ es last) : es.length = τ.cnt ∧ last.length = 32 := stepsP_facts _ _ _ _ _ _ h.steps
theorem Clean.ep {key : List UInt8} {σ : Sto} {τ : Tru} {es : List Ent} {last : List UInt8} (h : Clean key σ τ es last) (ep : Nat) : Clean key σ ⟨ep, τ.cnt, τ.wr⟩ es last := ⟨h.steps, h.behind⟩
theorem Ready.ep {key : List UInt8} {σ : Sto} {τ : Tru} {es : List Ent} (h : Ready key σ τ es) (ep : Nat) : Ready key σ ⟨ep, τ.cnt, τ.wr⟩ es := ⟨h.begins, h.behind⟩
theorem getP_none {σ : Sto} {n : Nat} (h : σ.shows (nameS n) = none) : getP σ n = [] := by
  unfold getP
  rw [h]
  rfl
theorem Clean.ready {key : List UInt8} {σ : Sto} {τ : Tru} {es : List Ent} {last : List UInt8} (h : Clean key σ τ es last) (hc : τ.cnt < 99) : Ready key σ τ es := by
  have hl := h.len
  refine ⟨fun ep => ⟨last, none, beginP_stop h.steps ?_⟩, fun n h1 h2 => h.behind n (by omega) h2⟩
  rw [getP_none (h.behind _ (by omega) (by omega))]
  exact opened_none _ _ _ _ (by simp)
theorem Clean.new (key : List UInt8) (ep : Nat) : Clean key sto0 ⟨ep, 0, 0⟩ [] zl32 := ⟨rfl, fun _ _ _ => rfl⟩
/-- So much was put behind what counts. -/
theorem steps_put (key : List UInt8) (σ : Sto) (c : Nat) (l : List UInt8) (hc : c < 99) : stepsP key (getP (σ.put (nameS (c + 1)) l)) c = stepsP key (getP σ) c :=
  stepsP_ext key _ _ c (fun i h1 h2 => getP_other σ (c + 1) i l (by omega) (by omega) (by omega))
/-- Written: it waits. -/
theorem Clean.write {key : List UInt8} {σ : Sto} {τ : Tru} {es : List Ent} {last : List UInt8} (h : Clean key σ τ es last) (hc : τ.cnt < 98) (ep : Nat) (hep : ep < 1073741824) (e : Ent) (he : e.ok) : Ready key (σ.put (nameS (τ.cnt + 1)) (entryL key ep (τ.cnt + 1) e last)) τ (es ++ [e]) := by
  have hl := h.len
  refine ⟨fun ep' => ⟨_, _, beginP_adopt (by rw [steps_put key σ τ.cnt _ (by omega)]; exact h.steps) (by rw [getP_put]; exact opened_entry key last ep (τ.cnt + 1) e hl.2 (by omega) (by omega) he)⟩, fun n h1 h2 => ?_⟩
  rw [List.length_append, hl.1] at h1
  simp at h1
  rw [put_other _ _ _ _ (fun e2 => by have := nameS_inj (by omega) (by omega) e2; omega)]
  exact h.behind n (by omega) h2
/-- Written and counted. -/
theorem Clean.commit {key : List UInt8} {σ : Sto} {τ : Tru} {es : List Ent} {last : List UInt8} (h : Clean key σ τ es last) (hc : τ.cnt < 98) (ep : Nat) (hep : ep < 1073741824) (e : Ent) (he : e.ok) :
    Clean key (σ.put (nameS (τ.cnt + 1)) (entryL key ep (τ.cnt + 1) e last)) ⟨ep, τ.cnt + 1, ep⟩ (es ++ [e]) (linkL (entryL key ep (τ.cnt + 1) e last)) := by
  have hl := h.len
  refine ⟨?_, fun n h1 h2 => ?_⟩
  · show stepsP key _ (τ.cnt + 1) = _
    rw [stepsP_succ key _ τ.cnt es last τ.wr (by rw [steps_put key σ τ.cnt _ (by omega)]; exact h.steps), getP_put, opened_entry key last ep (τ.cnt + 1) e hl.2 (by omega) (by omega) he]
    rfl
  · have h3 : τ.cnt + 1 < n := h1
    rw [put_other _ _ _ _ (fun e2 => by have := nameS_inj (by omega) (by omega) e2; omega)]
    exact h.behind n (by omega) h2
/-- Begun: clean. -/
theorem Ready.begun {key : List UInt8} {σ : Sto} {τ : Tru} {es : List Ent} {last : List UInt8} {ad : Option (List UInt8)} (h : Ready key σ τ es) (hc : τ.cnt < 98) (hep : τ.ep < 1073741824) (hb : beginP key (getP σ) τ.ep τ.cnt τ.wr = some (es, last, ad)) :
    Clean key (putAd σ τ.cnt ad) (movAd τ ad) es last ∧ last.length = 32 ∧ (∀ K, AllE σ K → AllE (putAd σ τ.cnt ad) (K + 1)) ∧ (movAd τ ad).cnt ≤ τ.cnt + 1 := by
  have hb0 := hb
  unfold beginP at hb
  cases hs : stepsP key (getP σ) τ.cnt with
  | none => rw [hs] at hb; cases hb
  | some s =>
    obtain ⟨es0, last0, wr0⟩ := s
    have hf := stepsP_facts _ _ _ _ _ _ hs
    by_cases hw : wr0 = τ.wr
    · subst hw
      cases ho : openedP key last0 (τ.cnt + 1) (getP σ (τ.cnt + 1)) with
      | none =>
        rw [beginP_stop hs ho] at hb0
        have h2 := Option.some.inj hb0
        cases h2
        exact ⟨⟨hs, fun n h1 h2 => h.behind n (by have h3 : τ.cnt < n := h1; have := hf.1; omega) h2⟩, hf.2, fun K hK => hK.wide (Nat.le_succ K), Nat.le_succ _⟩
      | some y =>
        obtain ⟨e, by_⟩ := y
        rw [beginP_adopt hs ho] at hb0
        have h2 := Option.some.inj hb0
        cases h2
        have hcl : stepsP key (getP (σ.put (nameS (τ.cnt + 1)) (entryL key τ.ep (τ.cnt + 1) e last0))) (τ.cnt + 1) = some (es0 ++ [e], linkL (entryL key τ.ep (τ.cnt + 1) e last0), τ.ep) := by
          rw [stepsP_succ key _ τ.cnt es0 last0 τ.wr (by rw [steps_put key σ τ.cnt _ (by omega)]; exact hs), getP_put, opened_entry key last0 τ.ep (τ.cnt + 1) e hf.2 (by omega) (by omega) (opened_ok ho)]
          rfl
        refine ⟨⟨hcl, fun n h1 h2 => ?_⟩, linkL_length _ (by rw [entryL_length _ _ _ _ _ hf.2]; omega), fun K hK => hK.put _ _ (entry_ep key _ _ e _ hf.2 hep).1 (entry_ep key _ _ e _ hf.2 hep).2, Nat.le_refl _⟩
        have h3 : τ.cnt + 1 < n := h1
        show (σ.put _ _).shows _ = none
        rw [put_other _ _ _ _ (fun e2 => by have := nameS_inj (by omega) (by omega) e2; omega)]
        exact h.behind n (by rw [List.length_append, hf.1]; simpa using h3) h2
    · rw [beginP_other hs hw] at hb0
      cases hb0

end Go.Proofs.YtaeociedjdgdfaaGreatDoor

namespace Go.Proofs.YtaeociedjdgdfaaGreatDoor
open Go.RowKit Go.Shelf
set_option linter.unusedSimpArgs false

/-- A store and a trust; all blocks that they hang on are of F. -/
structure Sys0 (w : World) (b tb : Nat) (σ : Sto) (x : StoB) (τ : Tru) (F : Nat → Prop) : Prop where
  st : StoreAt w b σ x
  tr : TruAt w tb τ
  far : ¬ x.foot b tb
  foot : ∀ k, x.foot b k → F k
  tru : F tb
  lt : ∀ k, F k → k < w.heap.size
/-- .. and a journal. -/
structure SysJ (w : World) (b tb : Nat) (σ : Sto) (x : StoB) (τ : Tru) (J : Nat) (key : List UInt8) (ep : Nat) (es : List Ent) (last next : List UInt8) (wv : Bool) (e : Ent) (F : Nat → Prop) : Prop where
  s0 : Sys0 w b tb σ x τ F
  jou : ∃ ea ec, CellsAt w J (jcells (.pointer (some ⟨b, 0, none⟩)) (.pointer (some ⟨tb, 0, none⟩)) key ep (.slice ea es.length ec) last next wv e).toArray 92 ∧
    w.ownsRow 0 38 4 (.slice ea es.length ec) es.length (es.flatMap Ent.cells) ∧ ¬ inBlock (.slice ea es.length ec) J ∧ ¬ inBlock (.slice ea es.length ec) tb ∧ (∀ k, inBlock (.slice ea es.length ec) k → ¬ x.foot b k) ∧ ∀ k, inBlock (.slice ea es.length ec) k → F k
  nf : ¬ x.foot b J
  nt : J ≠ tb
  fj : F J
  kl : key.length = 32
  ll : last.length = 32
  nl : next.length = 32

section
variable {w w' : World} {b tb : Nat} {σ : Sto} {x : StoB} {τ : Tru} {F S : Nat → Prop}
theorem Sys0.mod (h : Sys0 w b tb σ x τ F) (hm : Mod w w' S) (hS : ∀ k, S k → ¬ F k) : Sys0 w' b tb σ x τ F :=
  ⟨h.st.mod hm (fun k hk hf => hS k hk (h.foot k hf)), h.tr.mod hm (fun hk => hS tb hk h.tru), h.far, h.foot, h.tru, fun k hk => by have := h.lt k hk; have := hm.size; omega⟩
theorem SysJ.mod {J ep : Nat} {key last next : List UInt8} {es : List Ent} {wv : Bool} {e : Ent} (h : SysJ w b tb σ x τ J key ep es last next wv e F) (hm : Mod w w' S) (hS : ∀ k, S k → ¬ F k) : SysJ w' b tb σ x τ J key ep es last next wv e F := by
  obtain ⟨ea, ec, j1, j2, j3, j4, j5, j6⟩ := h.jou
  exact ⟨h.s0.mod hm hS, ⟨ea, ec, j1.mod hm (fun hk => hS J hk h.fj), owns_mod j2 hm (fun k hk hs => hS k hs (j6 k hk)), j3, j4, j5, j6⟩, h.nf, h.nt, h.fj, h.kl, h.ll, h.nl⟩
theorem Sys0.nob (h : Sys0 w b tb σ x τ F) (hm : Mod w w' Nob) : Sys0 w' b tb σ x τ F := h.mod hm (fun _ h => h.elim)
theorem SysJ.nob {J ep : Nat} {key last next : List UInt8} {es : List Ent} {wv : Bool} {e : Ent} (h : SysJ w b tb σ x τ J key ep es last next wv e F) (hm : Mod w w' Nob) : SysJ w' b tb σ x τ J key ep es last next wv e F := h.mod hm (fun _ h => h.elim)
end

/-- An epoch begins. -/
theorem sys_begin {w : World} {b tb : Nat} {σ : Sto} {x : StoB} {τ : Tru} {F : Nat → Prop} (h : Sys0 w b tb σ x τ F) (h6 : τ.ep < 60) :
    Calls Tryz.prog 9 #[.pointer (some ⟨tb, 0, none⟩)] w fun r w' => r = .returned (.tuple #[.int .u64 ((τ.ep + 1 : Nat) : Int), .int .i64 0]) ∧ Sys0 w' b tb σ x ⟨τ.ep + 1, τ.cnt, τ.wr⟩ F ∧ Mod w w' (· = tb) := by
  refine (trust_begin tb τ w h.tr h6).mono ?_
  rintro r w' ⟨h1, h2, h3⟩
  exact ⟨h1, ⟨h.st.mod h3 (fun k (hk : k = tb) hf => h.far (hk ▸ hf)), h2, h.far, h.foot, h.tru, fun k hk => by have := h.lt k hk; have := h3.size; omega⟩, h3⟩

/-- A journal is opened, or told that somebody laid hands on its store. -/
theorem sys_open_any {w : World} {b tb : Nat} {σ : Sto} {x : StoB} {τ : Tru} {F : Nat → Prop} (job : List UInt8) (K : Nat) (h : Sys0 w b tb σ x τ F) (hE : AllE σ K) (hK : K < 1073741824) (hc : τ.cnt ≤ 96) (he : 0 < τ.ep) (h60 : τ.ep < 1073741824) (hj : job.length = 32) :
    Calls Tryz.prog 10 #[.pointer (some ⟨b, 0, none⟩), .pointer (some ⟨tb, 0, none⟩), .agg (arrB job), .int .u64 τ.ep] w fun r w' => Mod w w' F ∧
      ((beginP (journalK job) (getP σ) τ.ep τ.cnt τ.wr = none ∧ r = .returned (.tuple #[.pointer none, .int .i64 9]) ∧ ∃ x' F', Sys0 w' b tb σ x' τ F' ∧ ∀ k, F' k → F k ∨ w.heap.size ≤ k) ∨
      ∃ es last ad J x' F', beginP (journalK job) (getP σ) τ.ep τ.cnt τ.wr = some (es, last, ad) ∧ r = .returned (.tuple #[.pointer (some ⟨J, 0, none⟩), .int .i64 0]) ∧ last.length = 32 ∧
        (last.length = 32 → SysJ w' b tb (putAd σ τ.cnt ad) x' (movAd τ ad) J (journalK job) τ.ep es last zl32 false ent0 F') ∧ w.heap.size ≤ J ∧ ∀ k, F' k → F k ∨ w.heap.size ≤ k) := by
  have hA := (Mod.refl w Nob).alloc (.cells (arrB job) 22)
  have h1 := h.nob hA
  have hz : (w.alloc (.cells (arrB job) 22)).heap.size = w.heap.size + 1 := by simp
  have hb := begin_any b tb σ x τ job _ h1.st hE.short h1.tr he h60 hj hc h1.far hE.eps (by have := hE.chs; omega) (by have := hE.puts; omega) (fun nm => by have := hE.vers nm; omega)
  have ho := open_of (.pointer (some ⟨b, 0, none⟩)) (.pointer (some ⟨tb, 0, none⟩)) job hj τ.ep w (fun v1 v2 w' => Mod w w' F ∧
      ((beginP (journalK job) (getP σ) τ.ep τ.cnt τ.wr = none ∧ v1 = .pointer none ∧ v2 = .int .i64 9 ∧ ∃ x' F', Sys0 w' b tb σ x' τ F' ∧ ∀ k, F' k → F k ∨ w.heap.size ≤ k) ∨
      ∃ es last ad J x' F', beginP (journalK job) (getP σ) τ.ep τ.cnt τ.wr = some (es, last, ad) ∧ v1 = .pointer (some ⟨J, 0, none⟩) ∧ v2 = .int .i64 0 ∧ last.length = 32 ∧
        (last.length = 32 → SysJ w' b tb (putAd σ τ.cnt ad) x' (movAd τ ad) J (journalK job) τ.ep es last zl32 false ent0 F') ∧ w.heap.size ≤ J ∧ ∀ k, F' k → F k ∨ w.heap.size ≤ k))
    (hb.mono (fun r w' ⟨σ', x', τ', b1, b2, b3, b4, b5⟩ => by
      have hm : Mod w w' F := hA.nob.trans (b4.wide (fun k hk => .inl (hk.elim (fun e => e ▸ h.tru) (fun o => h.foot k (.inl o)))))
      have hlt : ∀ k, x'.foot b k → k < w'.heap.size := b1.foot_lt
      have htb : ¬ x'.foot b tb := fun hf => by
        rcases b2 tb hf with h5 | h5
        · exact h.far h5
        · have := h.lt tb h.tru; omega
      have hft : tb < w'.heap.size := by have := h.lt tb h.tru; have := hm.size; omega
      rcases b5 with ⟨c1, c2, rfl, rfl⟩ | ⟨es, last, ad, J, ea, ec, c1, rfl, rfl, c2, c3, c4, c5, c6, c7, c8⟩
      · exact ⟨_, _, c2, hm, .inl ⟨c1, rfl, rfl, x', fun k => x'.foot b k ∨ k = tb, ⟨b1, b3, htb, fun k hk => .inl hk, .inr rfl, fun k hk => hk.elim (hlt k) (fun e => e ▸ hft)⟩, fun k hk => by
          rcases hk with hk | hk
          · rcases b2 k hk with h5 | h5
            · exact .inl (h.foot k h5)
            · right; omega
          · subst hk; exact .inl h.tru⟩⟩
      · have hl : last.length = 32 := by
          unfold beginP at c1
          cases hs : stepsP (journalK job) (getP σ) τ.cnt with
          | none => rw [hs] at c1; cases c1
          | some s =>
            obtain ⟨es0, last0, wr0⟩ := s
            have hf := stepsP_facts _ _ _ _ _ _ hs
            rw [hs, Option.bind_some] at c1
            cases hw : (wr0 == τ.wr) with
            | false => rw [hw] at c1; cases c1
            | true =>
              rw [hw] at c1
              cases ho : openedP (journalK job) last0 (τ.cnt + 1) (getP σ (τ.cnt + 1)) with
              | none => rw [ho] at c1; have h2 := Option.some.inj c1; cases h2; exact hf.2
              | some y => rw [ho] at c1; have h2 := Option.some.inj c1; cases h2; exact linkL_length _ (by rw [entryL_length _ _ _ _ _ hf.2]; omega)
        have hJl : J < w'.heap.size := c5.lt
        refine ⟨_, _, c2, hm, .inr ⟨es, last, ad, J, x', fun k => x'.foot b k ∨ k = tb ∨ k = J ∨ inBlock (.slice ea es.length ec) k, c1, rfl, rfl, hl, fun hl => ⟨⟨b1, b3, htb, fun k hk => .inl hk, .inr (.inl rfl), fun k hk => ?_⟩, ⟨ea, ec, c5, owns_base c6, c7, fun hk => by have := (c6.lt tb hk).1; have := h.lt tb h.tru; omega, c8, fun k hk => .inr (.inr (.inr hk))⟩, c4, fun e => by subst e; have := h.lt J h.tru; omega, .inr (.inr (.inl rfl)), journalK_length job, hl, rfl⟩, by omega, fun k hk => ?_⟩⟩
        · rcases hk with hk | hk | hk | hk
          · exact hlt k hk
          · exact hk ▸ hft
          · exact hk ▸ hJl
          · exact (c6.lt k hk).2
        · rcases hk with hk | hk | hk | hk
          · rcases b2 k hk with h5 | h5
            · exact .inl (h.foot k h5)
            · right; omega
          · subst hk; exact .inl h.tru
          · right; omega
          · right; have := (c6.lt k hk).1; omega))
  refine ho.mono ?_
  rintro r w' ⟨v1, v2, rfl, hm, hr⟩
  refine ⟨hm, ?_⟩
  rcases hr with ⟨c1, rfl, rfl, c2⟩ | ⟨es, last, ad, J, x', F', c1, rfl, rfl, c2⟩
  · exact .inl ⟨c1, rfl, c2⟩
  · exact .inr ⟨es, last, ad, J, x', F', c1, rfl, c2⟩

/-- A journal is opened whose entries are known. -/
theorem sys_open {w : World} {b tb : Nat} {σ : Sto} {x : StoB} {τ : Tru} {F : Nat → Prop} (job : List UInt8) (K : Nat) (es : List Ent) (h : Sys0 w b tb σ x τ F) (hR : Ready (journalK job) σ τ es) (hE : AllE σ K) (hK : K < 1073741824) (hc : τ.cnt ≤ 96) (he : 0 < τ.ep) (h60 : τ.ep < 1073741824) (hj : job.length = 32) :
    Calls Tryz.prog 10 #[.pointer (some ⟨b, 0, none⟩), .pointer (some ⟨tb, 0, none⟩), .agg (arrB job), .int .u64 τ.ep] w fun r w' => ∃ J σ' x' τ' last F', r = .returned (.tuple #[.pointer (some ⟨J, 0, none⟩), .int .i64 0]) ∧
      SysJ w' b tb σ' x' τ' J (journalK job) τ.ep es last zl32 false ent0 F' ∧ Clean (journalK job) σ' τ' es last ∧ AllE σ' (K + 1) ∧ τ'.ep = τ.ep ∧ τ'.cnt ≤ τ.cnt + 1 ∧ (∀ k, F' k → F k ∨ w.heap.size ≤ k) ∧ Mod w w' F ∧ w.heap.size ≤ J := by
  refine (sys_open_any job K h hE hK hc he h60 hj).mono ?_
  rintro r w' ⟨hm, hr⟩
  obtain ⟨last0, ad0, hb0⟩ := hR.begins τ.ep
  rcases hr with ⟨c1, _⟩ | ⟨es', last, ad, J, x', F', c1, rfl, c2, c3, c4, c5⟩
  · rw [hb0] at c1
    cases c1
  · rw [hb0] at c1
    have h2 := Option.some.inj c1
    cases h2
    obtain ⟨g1, g2, g3, g4⟩ := hR.begun (by omega) h60 hb0
    exact ⟨J, _, x', _, last0, F', rfl, c3 g2, g1, g3 K hE, by cases ad0 <;> rfl, g4, c5, hm, c4⟩

/-- An entry is written. -/
theorem sys_write {w : World} {b tb : Nat} {σ : Sto} {x : StoB} {τ : Tru} {F : Nat → Prop} {J ep K : Nat} {key last next : List UInt8} {es : List Ent} {e0 : Ent} (e : Ent) (h : SysJ w b tb σ x τ J key ep es last next false e0 F) (hE : AllE σ K) (hK : K < 1073741824) (hm : es.length < 98) (hep : ep < 1073741824) :
    Calls Tryz.prog 11 #[.pointer (some ⟨J, 0, none⟩), .agg e.cells.toArray] w fun r w' => r = .returned (.int .i64 0) ∧ ∃ x' F',
      SysJ w' b tb (σ.put (nameS (es.length + 1)) (entryL key ep (es.length + 1) e last)) x' τ J key ep es last (linkL (entryL key ep (es.length + 1) e last)) true e F' ∧ AllE (σ.put (nameS (es.length + 1)) (entryL key ep (es.length + 1) e last)) (K + 1) ∧ (∀ k, F' k → F k ∨ w.heap.size ≤ k) ∧ Mod w w' F := by
  obtain ⟨ea, ec, j1, j2, j3, j4, j5, j6⟩ := h.jou
  refine (write_ok J b ep es.length (.pointer (some ⟨tb, 0, none⟩)) ea ec σ x key last next e0 e w j1 hm h.kl h.ll h.nl hep h.s0.st h.nf (by have := hE.chs; omega) (by have := hE.puts; omega) (by have := hE.vers (nameS (es.length + 1)); omega)).mono ?_
  rintro r w' ⟨rfl, k1, ⟨x', k2, k3⟩, k4⟩
  have hF : Mod w w' F := k4.wide (fun k hk => .inl (hk.elim (fun e => e ▸ h.fj) (fun o => h.s0.foot k (.inl o))))
  have hx : ∀ k, F k → ¬ x.foot b k → ¬ x'.foot b k := fun k hk hn hf => by
    rcases k3 k hf with h5 | h5
    · exact hn h5
    · have := h.s0.lt k hk; omega
  have hz := k4.size
  refine ⟨rfl, x', fun k => F k ∨ x'.foot b k, ⟨⟨k2, h.s0.tr.mod k4 (fun hk => hk.elim (fun e => h.nt e.symm) (fun o => h.s0.far (.inl o))), hx tb h.s0.tru h.s0.far, fun k hk => .inr hk, .inl h.s0.tru, fun k hk => hk.elim (fun hk => by have := h.s0.lt k hk; omega) (k2.foot_lt k)⟩,
    ⟨ea, ec, k1, owns_mod j2 k4 (fun k hk hs => hs.elim (fun e => j3 (e ▸ hk)) (fun o => j5 k hk (.inl o))), j3, j4, fun k hk => hx k (j6 k hk) (j5 k hk), fun k hk => .inl (j6 k hk)⟩, hx J h.fj h.nf, h.nt, .inl h.fj, h.kl, h.ll, linkL_length _ (by rw [entryL_length _ _ _ _ _ h.ll]; omega)⟩,
    hE.put _ _ (entry_ep key ep _ e last h.ll hep).1 (entry_ep key ep _ e last h.ll hep).2, fun k hk => ?_, hF⟩
  rcases hk with hk | hk
  · exact .inl hk
  · rcases k3 k hk with h5 | h5
    · exact .inl (h.s0.foot k h5)
    · exact .inr h5

/-- An entry that waits is counted. -/
theorem sys_commit {w : World} {b tb : Nat} {σ : Sto} {x : StoB} {τ : Tru} {F : Nat → Prop} {J : Nat} {key last next : List UInt8} {es : List Ent} {e : Ent} (h : SysJ w b tb σ x τ J key τ.ep es last next true e F) (hm : es.length < 98) (he : 0 < τ.ep) (hc : τ.cnt < 1099511627776) :
    Calls Tryz.prog 12 #[.pointer (some ⟨J, 0, none⟩)] w fun r w' => r = .returned (.int .i64 0) ∧ ∃ F',
      SysJ w' b tb σ x ⟨τ.ep, τ.cnt + 1, τ.ep⟩ J key τ.ep (es ++ [e]) next next false e F' ∧ (∀ k, F' k → F k ∨ w.heap.size ≤ k) ∧ Mod w w' F := by
  obtain ⟨ea, ec, j1, j2, j3, j4, j5, j6⟩ := h.jou
  refine (commit_ok J tb 0 es.length (.pointer (some ⟨b, 0, none⟩)) ea ec es key last next e τ w j1 hm h.kl h.ll h.nl j2 (Nat.zero_le _) h.s0.tr he hc h.nt j3 j4).mono ?_
  rintro r w' ⟨rfl, g, c, k1, k2, k3, k4, k5⟩
  have hF : Mod w w' F := k4.wide (fun k hk => .inl (by rcases hk with e | e | e; exact e ▸ h.fj; exact e ▸ h.s0.tru; exact j6 k e))
  have hz := k4.size
  have hlen : (es ++ [e]).length = es.length + 1 := by simp
  have hg : ∀ k, inBlock (.slice (some ⟨g, 0, none⟩) (es ++ [e]).length c) k → inBlock (.slice ea es.length ec) k ∨ w.heap.size ≤ k := fun k hk => by
    have hkg : g = k := by simpa [inBlock, Value.ownBlock] using hk
    subst hkg
    exact k5.imp (fun h5 => by rw [h5]; rfl) id
  refine ⟨rfl, fun k => F k ∨ inBlock (.slice (some ⟨g, 0, none⟩) (es ++ [e]).length c) k, ⟨⟨h.s0.st.mod k4 (fun k hk hf => ?_), k3, h.s0.far, fun k hk => .inl (h.s0.foot k hk), .inl h.s0.tru, fun k hk => ?_⟩,
    ⟨some ⟨g, 0, none⟩, c, by rw [hlen]; exact k1, by rw [hlen]; exact k2, fun hk => ?_, fun hk => ?_, fun k hk hf => ?_, fun k hk => .inr hk⟩, h.nf, h.nt, .inl h.fj, h.kl, h.nl, h.nl⟩, fun k hk => ?_, hF⟩
  · rcases hk with h5 | h5 | h5
    · exact h.nf (h5 ▸ hf)
    · exact h.s0.far (h5 ▸ hf)
    · exact j5 k h5 hf
  · rcases hk with hk | hk
    · have := h.s0.lt k hk; omega
    · rw [hlen] at hk; exact (k2.lt k hk).2
  · rcases hg J hk with h5 | h5
    · exact j3 h5
    · have := h.s0.lt J h.fj; omega
  · rcases hg tb hk with h5 | h5
    · exact j4 h5
    · have := h.s0.lt tb h.s0.tru; omega
  · rcases hg k hk with h5 | h5
    · exact j5 k h5 hf
    · have := h.s0.lt k (h.s0.foot k hf); omega
  · rcases hk with hk | hk
    · exact .inl hk
    · exact (hg k hk).imp (j6 k) id

/-- The entries; whether one waits. -/
theorem sys_entries {w : World} {b tb : Nat} {σ : Sto} {x : StoB} {τ : Tru} {F : Nat → Prop} {J ep : Nat} {key last next : List UInt8} {es : List Ent} {wv : Bool} {e : Ent} (h : SysJ w b tb σ x τ J key ep es last next wv e F) (hm : es.length < 1073741824) :
    Calls Tryz.prog 21 #[.pointer (some ⟨J, 0, none⟩)] w fun r w' => ∃ a c, r = .returned (.slice a es.length c) ∧ w'.ownsRow w.heap.size 38 4 (.slice a es.length c) es.length (es.flatMap Ent.cells) ∧ Mod w w' Nob := by
  obtain ⟨ea, ec, j1, j2, _⟩ := h.jou
  exact entries_any J es.length ea ec 0 es w (JFacts.of j1 h.kl h.ll h.nl).ev j2 hm
theorem sys_waiting {w : World} {b tb : Nat} {σ : Sto} {x : StoB} {τ : Tru} {F : Nat → Prop} {J ep : Nat} {key last next : List UInt8} {es : List Ent} {wv : Bool} {e : Ent} (h : SysJ w b tb σ x τ J key ep es last next wv e F) :
    Calls Tryz.prog 29 #[.pointer (some ⟨J, 0, none⟩)] w fun r w' => r = .returned (.bool wv) ∧ w' = w := by
  obtain ⟨ea, ec, j1, j2, _⟩ := h.jou
  exact waiting_any J wv w (JFacts.of j1 h.kl h.ll h.nl).wv

end Go.Proofs.YtaeociedjdgdfaaGreatDoor
