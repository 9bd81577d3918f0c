/- A range over a function whose iterator never ends by itself: the body ends it. No condition. -/
import Derived.Test.YtakgnkjopbflbaaGreatDoorBg
namespace Go.Proofs.YtakgnkjopbflbaaGreatDoor
open Go.RowKit

/-- What an iterator without an end owes to whoever calls it: the caller's words speak of fewer than N told. -/
def SeqEver {α : Type} (n : Nat) (P : Program) (g : Nat) (lb : Array Value) (encs : α → Array Value) (Kp : World → World → Prop) (R : List α → α → World → Prop) (Sp : List α → Prop) (N : Nat) (w : World) : Prop :=
  ∀ (l : Nat) (J Jx : List α → World → Prop) (W : World), Below w.heap.size w W → AbidesFrom W.heap.size J → AbidesFrom W.heap.size Jx → (∀ pre W1, J pre W1 → pre.length < N) →
    (∀ pre x W1, J pre W1 → R pre x W1 → pre.length < N → YieldAt Fence.wide (n - 1) P l (encs x) W1 fun e W' =>
      (e = .returned (.bool true) ∧ J (pre ++ [x]) W' ∧ Kp W1 W') ∨ (e = .returned (.bool false) ∧ Jx (pre ++ [x]) W')) →
    J [] W →
    CallsIn Fence.wide n P g (#[.func (.yield l) #[] #[]] ++ lb) W fun e W' => (∃ v, e = .returned v) ∧ ∃ pre, Sp pre ∧ Jx pre W'

section
variable {α : Type} {n : Nat} {P : Program} {g : Operand} {ps : Array Tmp} {assign body : Code} {Q : Exit → Act → World → Prop} {a : Act} {w : World}
theorem wpIn_rangeFunc_ever (h1 : 1 ≤ n) {gf : Nat} {lb : Array Value} (hg : a.eval g = .func (.func gf) #[] lb) (eg : ∀ args w, (callFunc gf args).run P w = .ok (.enter gf args) w)
    {encs : α → Array Value} {Kp : World → World → Prop} {R : List α → α → World → Prop} {Sp : List α → Prop} {N : Nat} (hseq : SeqEver (n - 1) P gf lb encs Kp R Sp N w)
    (hKt : ∀ {A B C : World}, Kp A B → Kp B C → Kp A C) (hKb : ∀ (W : World) (l : Nat) (o o' : Obj), w.heap.size ≤ l → W.heap[l]? = some o → o.isCells = false → o.isWalk = false → Kp W (W.putObj l o')) (hps : ∀ x, (encs x).size = ps.size)
    (I : List α → World → Prop) (Ix : Code → List α → World → Prop) (hI : OwnFrom w.heap.size I) (hIx : ∀ c, OwnFrom w.heap.size (Ix c)) (h0 : I [] w) (hN : ∀ pre W, I pre W → pre.length < N) (Ax : List α → α → Act → World → Prop) (hAx : ∀ pre x a', OwnFrom w.heap.size (fun (_ : Unit) W => Ax pre x a' W))
    (hassign : ∀ (l : Nat) (pre : List α) (x : α) (W : World) (K : Act → World → Prop), I pre W → R pre x W → (∀ a' W', KeepsFrom w.heap.size W W' → Kp W W' → I pre W' → Ax pre x a' W' → K a' W') →
      assign.wpIn (Fence.wide.inRound l) (n - 1 - 1) P (Exit.then K (fun _ _ _ => False)) { tmps := (ps.zip (encs x)).foldl (fun t (p, v) => t.setIfInBounds p v) a.tmps, defers := [] } W)
    (hbody : ∀ (l : Nat) (pre : List α) (x : α) (a' : Act) (W : World), w.heap.size ≤ l → (∃ r, W.heap[l]? = some (.loop r)) → I pre W → Ax pre x a' W → pre.length < N → body.wpIn (Fence.wide.inRound l) (n - 1 - 1) P (ownPostG w.heap.size Kp I Ix (pre ++ [x]) W) a' W)
    (hstop : ∀ (D : Nat) (c : Code) (pre : List α) (W : World), w.heap.size ≤ D → Sp pre → Ix c pre W → W.heap[D]? = some (.deferred (some [])) → c.wpIn Fence.wide n P Q { a with defers := { target := .collected D, args := #[] } :: a.defers } W) :
    (Code.rangeFunc g ps assign body).wpIn Fence.wide n P Q a w := by
  refine wpIn_rangeFunc fun fn hfn => ?_
  obtain ⟨D, hD⟩ : ∃ D, w.heap.size = D := ⟨_, rfl⟩
  have hrun := run_enterLoop_outer (P := P) (w := w) fn a.tmps ps assign body
  have hb : Books w.heap.size (recOf w.heap.size fn a.tmps ps assign body .ready none) ((w.alloc (.deferred (some []))).alloc (.loop (recOf w.heap.size fn a.tmps ps assign body .ready none))) := by
    refine ⟨?_, (Below.heap_alloc _ _ _ (by simp)).trans (World.alloc_heap_new w _)⟩
    have := World.alloc_heap_new (w.alloc (.deferred (some []))) (.loop (recOf w.heap.size fn a.tmps ps assign body .ready none))
    rwa [World.size_alloc] at this
  have hI1 : I [] ((w.alloc (.deferred (some []))).alloc (.loop (recOf w.heap.size fn a.tmps ps assign body .ready none))) := hI.alloc _ (hI.alloc _ h0)
  have hbel : Below w.heap.size w ((w.alloc (.deferred (some []))).alloc (.loop (recOf w.heap.size fn a.tmps ps assign body .ready none))) := ((Below.refl _ w).alloc (Nat.le_refl _) _).alloc (by simp) _
  have hsz1 : ((w.alloc (.deferred (some []))).alloc (.loop (recOf w.heap.size fn a.tmps ps assign body .ready none))).heap.size = w.heap.size + 2 := by simp
  change _ = Result.ok _ ((w.alloc (.deferred (some []))).alloc (.loop (recOf w.heap.size fn a.tmps ps assign body .ready none))) at hrun
  obtain ⟨W1, hW1⟩ : ∃ W1, (w.alloc (.deferred (some []))).alloc (.loop (recOf w.heap.size fn a.tmps ps assign body .ready none)) = W1 := ⟨_, rfl⟩
  rw [hW1] at hrun hb hI1 hbel hsz1
  rw [hD] at hrun hb hsz1 hKb hI hIx hAx hassign hbody hstop
  refine ⟨D + 1, [{ target := .collected D, args := #[] }], W1, { target := .fn (.func gf) lb, args := #[.func (.yield (D + 1)) #[] #[]] }, W1, gf, #[.func (.yield (D + 1)) #[] #[]] ++ lb, W1, hrun, ?_, ?_, ?_, fun _ => h1, ?_⟩
  · simp only [resolve, hg]
    simp [go_sem]
  · intro f' hf'; simp [Target.leads] at hf'; subst hf'; trivial
  · simp [invoke, go_sem, eg]
  have hwalk : ∀ {A : World} {row : Option Nat}, (∀ r, row = some r → W1.heap.size ≤ r ∧ ∃ o : Obj, A.heap[r]? = some o ∧ o.isWalk = true) → (∀ r, row = some r → D ≤ r ∧ ∃ o : Obj, A.heap[r]? = some o ∧ o.isCells = false) := fun hr r e => by
    obtain ⟨h2, o, h3, h4⟩ := hr r e
    exact ⟨by omega, o, h3, Obj.not_cells_of_walk h4⟩
  refine (hseq (D + 1) (fun pre W => I pre W ∧ Books D (recOf D fn a.tmps ps assign body .ready none) W)
    (fun pre W => ∃ c, Ix c pre W ∧ Books D (recOf D fn a.tmps ps assign body .done (some c)) W) W1 hbel
    (fun s A B row hs hg2 hr => ⟨hI s A B row hs.1 hg2 (hwalk hr), hs.2.grown hg2 (fun r e => (hr r e).2)⟩)
    (fun s A B row hs hg2 hr => by
      obtain ⟨c, h2, h3⟩ := hs
      exact ⟨c, hIx c s A B row h2 hg2 (hwalk hr), h3.grown hg2 (fun r e => (hr r e).2)⟩) ?long ?round ⟨hI1, hb⟩).mono ?behind
  case long => exact fun pre W h => hN pre W h.1
  case round =>
    rintro pre x W ⟨hi, hbk⟩ hR hlen
    have hy := run_yield (P := P) (args := encs x) hbk.1 (hps x)
    refine ⟨fn, _, assign, body, hy, roundIn_of_wpIn hfn (hassign (D + 1) pre x W _ hi hR fun a' Wa hk1 hk2 hi2 hax => ?_)⟩
    have hbk2 := hbk.keeps hk1
    refine ⟨_, run_beginRound hbk2.1 rfl, ?_⟩
    have hbk3 := hbk2.put (recOf D fn a.tmps ps assign body .busy none)
    have hp1 : Kp Wa (Wa.putObj (D + 1) (.loop (recOf D fn a.tmps ps assign body .busy none))) := hKb _ _ _ _ (by omega) hbk2.1 rfl rfl
    have hi3 := hI.putObj (.loop (recOf D fn a.tmps ps assign body .busy none)) hi2 (by omega) hbk2.1 rfl
    have hax3 := (hAx pre x a').putObj (s := ()) (.loop (recOf D fn a.tmps ps assign body .busy none)) hax (by omega) hbk2.1 rfl
    refine wpIn_mono (hbody (D + 1) pre x a' _ (by omega) ⟨_, hbk3.1⟩ hi3 hax3 hlen) ?_
    -- how a round ends
    have fin : ∀ (j : Option Code) (W3 : World), Books D (recOf D fn a.tmps ps assign body .busy none) W3 →
        ∃ W4, (Instr.endRound (D + 1) j).run P W3 = .ok (.bool j.isNone) W4 ∧ W4 = W3.putObj (D + 1) (.loop (recOf D fn a.tmps ps assign body (if j.isNone then .ready else .done) j)) ∧ Books D (recOf D fn a.tmps ps assign body (if j.isNone then .ready else .done) j) W4 := fun j W3 h3 =>
      ⟨_, run_endRound j h3.1, rfl, h3.put _⟩
    have stop : ∀ (c : Code) (W3 : World), KeepsFrom D (Wa.putObj (D + 1) (.loop (recOf D fn a.tmps ps assign body .busy none))) W3 → Ix c (pre ++ [x]) W3 →
        ∃ W4, (Instr.endRound (D + 1) (some c)).run P W3 = .ok (.bool false) W4 ∧ ∃ c', Ix c' (pre ++ [x]) W4 ∧ Books D (recOf D fn a.tmps ps assign body .done (some c')) W4 := fun c W3 hk3 hx3 => by
      have h3 := hbk3.keeps hk3
      obtain ⟨W4, e1, rfl, e2⟩ := fin (some c) W3 h3
      exact ⟨_, e1, c, (hIx c).putObj _ hx3 (by omega) h3.1 rfl, e2⟩
    rintro e a3 W3 hp
    cases e with
    | normal =>
      obtain ⟨hk3, hkp3, hi4⟩ := hp
      have h3 := hbk3.keeps hk3
      obtain ⟨W4, e1, rfl, e2⟩ := fin none W3 h3
      exact ⟨_, _, e1, .inl ⟨rfl, ⟨hI.putObj _ hi4 (by omega) h3.1 rfl, e2⟩, hKt hk2 (hKt hp1 (hKt hkp3 (hKb _ _ _ _ (by omega) h3.1 rfl rfl)))⟩⟩
    | ret =>
      obtain ⟨W4, e1, e2⟩ := stop .ret W3 hp.1 hp.2
      exact ⟨_, _, e1, .inr ⟨rfl, e2⟩⟩
    | exit id =>
      obtain ⟨W4, e1, e2⟩ := stop (.exit id) W3 hp.1 hp.2
      exact ⟨_, _, e1, .inr ⟨rfl, e2⟩⟩
    | goto t =>
      obtain ⟨W4, e1, e2⟩ := stop (.goto t) W3 hp.1 hp.2
      exact ⟨_, _, e1, .inr ⟨rfl, e2⟩⟩
    | panic ch => exact hp.elim
    | outgrown => exact hp.elim
  case behind =>
    rintro e W2 ⟨⟨v, rfl⟩, pre, hSp, c, hi, hbk⟩
    exact ⟨some c, _, run_endLoop (P := P) hbk.1 (by simp [recOf]), hstop D c pre _ (Nat.le_refl _) hSp ((hIx c).putObj _ hi (by omega) hbk.1 rfl) (hbk.put _).2⟩
end

end Go.Proofs.YtakgnkjopbflbaaGreatDoor
