/- A region that draws its order, all of whose operations but the last one read, or call what keeps a class of worlds; the last one, for which all others are done, may write: in a round of a loop over an iterator too. No condition. -/
import Derived.StillTail
import Derived.Test.YtlnjfcnhgndocaaBr
namespace Go.Proofs.Ytlnjfcnhgndocaa
open Go

/-- The last operation, struck. -/
def struck (o : Oper) : Oper := { o with op := .move (.const undef), dst := none }

def backB (ops : Array Oper) : Bool := (List.range ops.size).all fun j => match ops[j]? with
  | some o => o.after.all fun e => !(Region.binds .any e) || decide (e.on < j)
  | none => true
theorem back_of {ops : Array Oper} (h : backB ops = true) (j : Nat) (o : Oper) (ho : ops[j]? = some o) : ∀ e ∈ o.after, Region.binds .any e = true → e.on < j := fun e he hb => by
  have hj : j < ops.size := (Array.getElem?_eq_some_iff.1 ho).1
  have h1 := List.all_eq_true.1 h j (List.mem_range.2 hj)
  simp only [ho] at h1
  have h2 := Array.all_eq_true_iff_forall_mem.1 h1 e he
  simpa [hb] using h2

theorem ready_some {ops : Array Oper} (hb : backB ops = true) {listed : Array Bool} (hs : listed.size = ops.size) : ∀ j, j < ops.size → listed.getD j true = false → Region.ready .any ops listed ≠ [] := by
  intro j
  induction j using Nat.strongRecOn with
  | _ j ih =>
    intro hj hl h0
    have ho : ops[j]? = some ops[j] := Array.getElem?_eq_some_iff.2 ⟨hj, rfl⟩
    by_cases hall : ∀ e ∈ (ops[j]).after, Region.binds .any e = true → listed.getD e.on false = true
    · have hm : j ∈ Region.ready .any ops listed := mem_ready.2 ⟨hl, _, ho, hall⟩
      rw [h0] at hm
      cases hm
    · simp only [Classical.not_forall] at hall
      obtain ⟨e, he, hbi, hne⟩ := hall
      have hlt := back_of hb j _ ho e he hbi
      refine ih e.on hlt (by omega) (getD_in (by omega) ?_) h0
      cases hx : listed.getD e.on false
      · rfl
      · exact absurd hx hne

section
variable {F : Fence} {n : Nat} {P : Program} {Q : Exit → Act → World → Prop} {C : World → Prop} {heads : List Oper} {ol : Oper} {l0 : Nat}

theorem at_head (i : Nat) (h : i < heads.length) : (heads ++ [struck ol]).toArray[i]? = (heads ++ [ol]).toArray[i]? := by
  rw [List.getElem?_toArray, List.getElem?_toArray, List.getElem?_append_left h, List.getElem?_append_left h]
theorem at_last (o : Oper) : (heads ++ [o]).toArray[heads.length]? = some o := by
  rw [List.getElem?_toArray, List.getElem?_append_right (Nat.le_refl _)]
  simp

theorem ready_struck {listed : Array Bool} (i : Nat) : i ∈ Region.ready .any (heads ++ [struck ol]).toArray listed ↔ i ∈ Region.ready .any (heads ++ [ol]).toArray listed := by
  rw [mem_ready, mem_ready]
  by_cases h : i < heads.length
  · rw [at_head i h]
  · by_cases h2 : i = heads.length
    · subst h2
      rw [at_last, at_last]
      simp [struck]
    · have e1 : (heads ++ [struck ol]).toArray[i]? = none := Array.getElem?_eq_none (by simp; omega)
      have e2 : (heads ++ [ol]).toArray[i]? = none := Array.getElem?_eq_none (by simp; omega)
      rw [e1, e2]

theorem quiet_last (hro : F.round = none) (hb : backB (heads ++ [ol]).toArray = true) (hsink : Region.sinkB .any (heads ++ [ol]).toArray heads.length = true) (hchain : Region.chainB .any (heads ++ [ol]).toArray heads.length = true)
    (hg : ∀ o ∈ heads ++ [ol], o.guard = none) : ∀ (fuel : Nat) (listed : Array Bool) (a : Act) (w : World), C w → HeadInv .any (heads ++ [ol]).toArray heads.length listed →
    wpAnyQIn F n P .any (heads ++ [struck ol]).toArray C (fun a' => ∀ w', C w' → ol.wpIn F n P a' w' (fun a'' w'' => Q .normal a'' w'') Q) fuel listed a → wpAnyIn F n P .any (heads ++ [ol]).toArray Q fuel listed a w := by
  have hsz : (heads ++ [ol]).toArray.size = heads.length + 1 := by simp
  have hne {listed : Array Bool} (inv : HeadInv .any (heads ++ [ol]).toArray heads.length listed) : Region.ready .any (heads ++ [ol]).toArray listed ≠ [] :=
    ready_some hb inv.size heads.length (by omega) (inv.tail _ (Nat.le_refl _) (by omega))
  have hne' {listed : Array Bool} (inv : HeadInv .any (heads ++ [ol]).toArray heads.length listed) : Region.ready .any (heads ++ [struck ol]).toArray listed ≠ [] := fun h0 => by
    obtain ⟨i, hi⟩ := List.exists_mem_of_ne_nil _ (hne inv)
    have h2 := (ready_struck (ol := ol) i).2 hi
    rw [h0] at h2
    cases h2
  intro fuel
  induction fuel with
  | zero => exact fun listed a w _ inv h => absurd h.1 (hne' inv)
  | succ fuel ih =>
    intro listed a w hC inv h
    refine ⟨fun h0 => absurd h0 (hne inv), fun i hi => ?_⟩
    have h2 := h.2 i ((ready_struck i).2 hi)
    obtain ⟨_, oi, hoi, _⟩ := mem_ready.1 hi
    have hlt : i < heads.length + 1 := by rw [← hsz]; exact (Array.getElem?_eq_some_iff.1 hoi).1
    by_cases hih : i < heads.length
    · unfold qOpIn at h2
      rw [at_head i hih, hoi] at h2
      dsimp only at h2
      have hgo : oi.guard = none := hg oi (by rw [List.getElem?_toArray] at hoi; exact List.mem_of_getElem? hoi)
      have hw1 : Region.wanted oi (yielded (heads ++ [struck ol]).toArray a.tmps) = true := by simp [Region.wanted, hgo]
      have hw2 : Region.wanted oi (yielded (heads ++ [ol]).toArray a.tmps) = true := by simp [Region.wanted, hgo]
      rw [if_pos hw1] at h2
      unfold wpOpIn
      rw [hoi]
      dsimp only
      rw [if_pos hw2]
      exact Oper.wpIn_of_quiet hro hC (fun a' w' hw' hK => ih _ a' w' hw' (inv.set hi hih) hK) h2.1 h2.2
    · obtain rfl : i = heads.length := by omega
      have hall : ∀ j, j < heads.length → ¬ listed.getD j true = false := fun j hj hl => tail_waits hsink hchain (by omega) inv _ j rfl hj hl _ (Nat.le_refl _) hi
      have hdone : Region.ready .any (heads ++ [ol]).toArray (listed.setIfInBounds heads.length true) = [] := by
        rw [List.eq_nil_iff_forall_not_mem]
        intro j hj
        obtain ⟨h3, oj, hoj, _⟩ := mem_ready.1 hj
        have hjl : j < heads.length + 1 := by rw [← hsz]; exact (Array.getElem?_eq_some_iff.1 hoj).1
        by_cases hjm : j = heads.length
        · subst hjm
          have hs2 := inv.size
          have : (listed.setIfInBounds heads.length true).getD heads.length true = true := by simp
          rw [this] at h3
          cases h3
        · rw [getD_set_ne true (Ne.symm hjm)] at h3
          exact hall j (by omega) h3
      have hdone' : Region.ready .any (heads ++ [struck ol]).toArray (listed.setIfInBounds heads.length true) = [] := by
        rw [List.eq_nil_iff_forall_not_mem]
        intro j hj
        have h3 := (ready_struck j).1 hj
        rw [hdone] at h3
        cases h3
      obtain rfl : ol = oi := by
        have := (at_last (heads := heads) ol).symm.trans hoi
        exact Option.some.inj this
      unfold qOpIn at h2
      rw [at_last] at h2
      dsimp only at h2
      have hgo : ol.guard = none := hg ol (by simp)
      have hw1 : Region.wanted (struck ol) (yielded (heads ++ [struck ol]).toArray a.tmps) = true := by simp [Region.wanted, struck, hgo]
      have hw2 : Region.wanted ol (yielded (heads ++ [ol]).toArray a.tmps) = true := by simp [Region.wanted, hgo]
      rw [if_pos hw1] at h2
      obtain ⟨_, v, _, hK⟩ := h2
      have hQ : ol.wpIn F n P a w (fun a'' w'' => Q .normal a'' w'') Q := by
        cases fuel with
        | zero => exact hK.2 w hC
        | succ f => exact hK.1 hdone' w hC
      unfold wpOpIn
      rw [hoi]
      dsimp only
      rw [if_pos hw2]
      refine Oper.wpIn_mono (fun a' w' hq => ?_) hQ
      cases fuel with
      | zero => exact ⟨hdone, hq⟩
      | succ f => exact ⟨fun _ => hq, fun j hj => by rw [hdone] at hj; cases hj⟩

theorem wpIn_region_quiet_last_round {id : Nat} {a : Act} {w : World} {l : List Oper} (k : Nat) (hol : l[k]? = some ol) (hk : l.length = k + 1) (hro : F.round = none) (hm : P.follows .mixedOrders = true) (hB : Region.lexB .any (l.take k ++ [struck ol]).toArray = true)
    (hb : backB l.toArray = true) (hsink : Region.sinkB .any l.toArray k = true) (hchain : Region.chainB .any l.toArray k = true) (hg : l.all (fun o => o.guard.isNone) = true) (hd : l.all calmB = true) (hC : C { w with drawn := w.drawn + 1 })
    (h : wpQuietIn F n P (l.take k ++ [struck ol]).toArray C (fun a' => ∀ w', C w' → ol.wpIn F n P a' w' (fun a'' w'' => Q .normal a'' w'') Q) (l.take k ++ [struck ol]) a) : (Code.region id l.toArray true).wpIn (F.inRound l0) n P Q a w := by
  have hl : l = l.take k ++ [ol] := by
    obtain ⟨hkl, he⟩ := List.getElem?_eq_some_iff.1 hol
    rw [← he, ← List.take_succ_eq_append_getElem hkl, ← hk, List.take_length]
  have hlen : (l.take k).length = k := by simp; omega
  obtain ⟨heads, hh⟩ : ∃ heads, l.take k = heads := ⟨_, rfl⟩
  rw [hh] at hl hlen hB h
  subst hl
  subst hlen
  simp only [Region.lexB, Bool.and_eq_true] at hB
  have hsz : (heads ++ [ol]).toArray.size = heads.length + 1 := by simp
  refine wpIn_region_any hm (wpAnyIn_round hro (calm_of hd) _ _ _ _ (quiet_last hro hb hsink hchain (fun o ho => by simpa using List.all_eq_true.1 hg o ho) _ _ _ _ hC
    ⟨by simp, fun j oj _ hl => (by rw [getD_replicate_false] at hl; cases hl), fun t _ ht => getD_in (by simpa using ht) (getD_replicate_false _ _)⟩ ?_))
  have := wpAnyQIn_lex (F := F) (n := n) (C := C) (md := .any) hB.1 (heads ++ [struck ol]) 0 (Array.replicate (heads ++ [struck ol]).toArray.size false) a (by simp) (by simpa using hB.2) h
  simpa using this

/-- One operation of the walk: it yields v in every world of the class. -/
theorem q_val {ops : Array Oper} {Q' : Act → Prop} {o : Oper} {rest : List Oper} {a : Act} (hF : ∀ f, F.fn f) (hg : o.guard = none) (v : Value) (hw : ∀ w', C w' → (execOp a.eval o).run P w' = .ok (.value v) w')
    (h : wpQuietIn F n P ops C Q' rest (a.put o.dst v)) : wpQuietIn F n P ops C Q' (o :: rest) a := by
  refine ⟨fun _ _ f _ => hF f, ?_⟩
  rw [if_pos (by simp [Region.wanted, hg])]
  exact ⟨v, fun w' hw' => by unfold Oper.quietAtIn; rw [hw w' hw']; exact ⟨rfl, rfl⟩, h⟩

/-- A call: it answers v in every world of the class, and the world is of the class. -/
theorem q_call {ops : Array Oper} {Q' : Act → Prop} {o : Oper} {rest : List Oper} {a : Act} (hF : ∀ f, F.fn f) (hg : o.guard = none) (hd : F.depth.isSome = true → 1 ≤ n) (v : Value) (f : FuncId) (args : Array Value)
    (hw : ∀ w', C w' → (execOp a.eval o).run P w' = .ok (.enter f args) w') (hc : ∀ w', C w' → CallsIn F (n - 1) P f args w' fun e w'' => e = .returned v ∧ C w'')
    (h : wpQuietIn F n P ops C Q' rest (a.put o.dst v)) : wpQuietIn F n P ops C Q' (o :: rest) a := by
  refine ⟨fun _ _ f _ => hF f, ?_⟩
  rw [if_pos (by simp [Region.wanted, hg])]
  exact ⟨v, fun w' hw' => by unfold Oper.quietAtIn; rw [hw w' hw']; exact ⟨rfl, hd, hc w' hw'⟩, h⟩
end
end Go.Proofs.Ytlnjfcnhgndocaa
