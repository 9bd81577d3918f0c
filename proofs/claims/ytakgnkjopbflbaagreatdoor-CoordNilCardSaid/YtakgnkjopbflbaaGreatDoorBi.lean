/- A region whose operations come in whatever order: each is shown once, under what holds whenever it may come up. No condition. -/
import Derived.Deep.RegionHeld
import Derived.Deep.RegionLaw
import Derived.Test.YtakgnkjopbflbaaGreatDoorBf
namespace Go.Proofs.YtakgnkjopbflbaaGreatDoor
open Go.RowKit

theorem countP_drop (f g : Nat → Bool) (i : Nat) (hf : f i = true) (hg : g i = false) (h : ∀ j, j ≠ i → g j = f j) : ∀ n, i < n → ((List.range n).countP g) + 1 = (List.range n).countP f
  | 0, hi => by omega
  | n + 1, hi => by
    rw [List.range_succ, List.countP_append, List.countP_append]
    by_cases hin : i = n
    · subst hin
      have : (List.range i).countP g = (List.range i).countP f := by
        refine List.countP_congr fun j hj => ?_
        rw [h j (by have := List.mem_range.1 hj; omega)]
      rw [this]
      simp [hf, hg]
    · have ih := countP_drop f g i hf hg h n (by omega)
      have hn := h n (fun e => hin e.symm)
      simp only [List.countP_singleton, hn]
      omega

section
variable {P : Program} {ops : Array Oper} {Q : Exit → Act → World → Prop} {md : Region.Mode}

/-- How many have not come up. -/
def openN (n : Nat) (listed : Array Bool) : Nat := (List.range n).countP fun i => !listed.getD i true

/-- Each operation waits for earlier ones alone. -/
def backward (md : Region.Mode) (ops : Array Oper) : Bool := (List.range ops.size).all fun i => match ops[i]? with | some o => o.after.all fun e => !Region.binds md e || decide (e.on < i) | none => true

theorem ready_all (hb : backward md ops = true) {listed : Array Bool} (hs : listed.size = ops.size) (h : Region.ready md ops listed = []) (i : Nat) (hi : i < ops.size) : listed.getD i true = true := by
  induction i using Nat.strongRecOn with
  | _ i ih =>
    rcases hl : listed.getD i true with _ | _
    · exfalso
      have hmem : i ∈ Region.ready md ops listed := by
        rw [mem_ready]
        refine ⟨hl, ops[i], Array.getElem?_eq_getElem hi, fun e he hbd => ?_⟩
        have h1 := List.all_eq_true.1 hb i (List.mem_range.2 hi)
        rw [Array.getElem?_eq_getElem hi] at h1
        have h2 := Array.all_eq_true_iff_forall_mem.1 h1 e he
        simp only [hbd, Bool.not_true, Bool.false_or, decide_eq_true_eq] at h2
        have h3 := ih e.on h2 (by omega)
        have hlt : e.on < listed.size := by omega
        simp only [Array.getD_eq_getD_getElem?, Array.getElem?_eq_getElem hlt, Option.getD_some] at h3 ⊢
        exact h3
      rw [h] at hmem
      cases hmem
    · rfl

/-- What has come up, as a word. -/
def lstd (listed : Array Bool) (i : Nat) : Bool := listed.getD i false

theorem wpAny_inv (hb : backward md ops = true) (I : (Nat → Bool) → Act → World → Prop)
    (hstep : ∀ (i : Nat) (L : Nat → Bool) (a : Act) (w : World) (o : Oper), I L a w → L i = false → ops[i]? = some o → (∀ e ∈ o.after, Region.binds md e = true → L e.on = true) →
      ∀ K' : Act → World → Prop, Shut (∀ a' w', I (fun j => if j = i then true else L j) a' w' → K' a' w') → if Region.wanted o (yielded ops a.tmps) = true then Oper.wp P o a w K' Q else K' (a.put o.dst undef) w)
    (hdone : ∀ (L : Nat → Bool) (a : Act) (w : World), (∀ i, i < ops.size → L i = true) → I L a w → Q .normal a w) :
    ∀ (fuel : Nat) (listed : Array Bool) (a : Act) (w : World), listed.size = ops.size → openN ops.size listed ≤ fuel → I (lstd listed) a w → wpAny P md ops Q fuel listed a w := by
  have fin : ∀ (listed : Array Bool) (a : Act) (w : World), listed.size = ops.size → I (lstd listed) a w → Region.ready md ops listed = [] → Q .normal a w := fun listed a w hs hI hr => by
    refine hdone _ a w (fun i hi => ?_) hI
    have h1 := ready_all hb hs hr i hi
    have hlt : i < listed.size := by omega
    simp only [lstd, Array.getD_eq_getD_getElem?, Array.getElem?_eq_getElem hlt, Option.getD_some] at h1 ⊢
    exact h1
  intro fuel
  induction fuel with
  | zero =>
    intro listed a w hs hc hI
    have hr : Region.ready md ops listed = [] := by
      rw [List.eq_nil_iff_forall_not_mem]
      intro j hj
      obtain ⟨h1, o, ho, _⟩ := mem_ready.1 hj
      have hjs : j < ops.size := (Array.getElem?_eq_some_iff.1 ho).1
      have h2 : 0 < openN ops.size listed := by
        unfold openN
        rw [List.countP_pos_iff]
        exact ⟨j, List.mem_range.2 hjs, by rw [h1]; rfl⟩
      omega
    exact ⟨hr, fin listed a w hs hI hr⟩
  | succ fuel ih =>
    intro listed a w hs hc hI
    refine ⟨fin listed a w hs hI, fun i hi => ?_⟩
    obtain ⟨h1, o, ho, hall⟩ := mem_ready.1 hi
    have hio : i < ops.size := (Array.getElem?_eq_some_iff.1 ho).1
    have hlt : i < listed.size := by omega
    refine wpOp_step ho (fun K' hK => hstep i (lstd listed) a w o hI ?_ ho hall K' ?_)
    · simp only [lstd, Array.getD_eq_getD_getElem?, Array.getElem?_eq_getElem hlt, Option.getD_some] at h1 ⊢
      exact h1
    · intro a' w' hI'
      refine hK a' w' (ih _ a' w' (by simpa using hs) ?_ ?_)
      · have := countP_drop (fun j => !listed.getD j true) (fun j => !(listed.setIfInBounds i true).getD j true) i (by rw [h1]; rfl) (by simp [hlt]) (fun j hj => by rw [getD_set_ne true (fun e => hj e.symm)]) ops.size hio
        unfold openN at hc ⊢
        omega
      · have e : lstd (listed.setIfInBounds i true) = fun j => if j = i then true else lstd listed j := by
          funext j
          unfold lstd
          by_cases hj : j = i
          · subst hj; simp [hlt]
          · rw [if_neg hj, getD_set_ne false (fun e => hj e.symm)]
        rw [e]
        exact hI'

/-- A whole region so. -/
theorem wp_region_inv {id : Nat} {a : Act} {w : World} (hm : P.follows .mixedOrders = true) (hb : backward .any ops = true) (I : (Nat → Bool) → Act → World → Prop) (h0 : I (fun _ => false) a w.drew)
    (hstep : ∀ (i : Nat) (L : Nat → Bool) (a : Act) (w : World) (o : Oper), I L a w → L i = false → ops[i]? = some o → (∀ e ∈ o.after, Region.binds .any e = true → L e.on = true) →
      ∀ K' : Act → World → Prop, Shut (∀ a' w', I (fun j => if j = i then true else L j) a' w' → K' a' w') → if Region.wanted o (yielded ops a.tmps) = true then Oper.wp P o a w K' Q else K' (a.put o.dst undef) w)
    (hdone : ∀ (L : Nat → Bool) (a : Act) (w : World), (∀ i, i < ops.size → L i = true) → I L a w → Q .normal a w) : (Code.region id ops true).wp P Q a w := by
  refine wp_region_any hm ?_
  refine wpAny_inv hb I hstep hdone ops.size _ a _ (by simp) ?_ ?_
  · unfold openN
    refine Nat.le_trans List.countP_le_length ?_
    simp
  · have e : lstd (Array.replicate ops.size false) = fun _ => false := by
      funext j
      unfold lstd
      by_cases hj : j < ops.size <;> simp [hj]
    rw [e]
    exact h0
end

end Go.Proofs.YtakgnkjopbflbaaGreatDoor
