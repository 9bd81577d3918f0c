/- The records that a pair is mapped to, plainly; what there is so far of each key. No condition. -/
import Derived.Test.YtlnjfcnhgndocaaVk
import Derived.Test.YtlnjfcnhgndocaaBm
namespace Go.Proofs.Ytlnjfcnhgndocaa
open Go.RowKit

/-- A machine, plainly: registers, slots. -/
structure Mech where
  r : List W64
  rs : List Rec1

def Mech.step (seq : W64) (s : Mech) (o : Op1) : Mech :=
  if o.code = 12 then { s with rs := s.rs.set o.n.toNat (Rec1.made (s.r.getD o.c.toNat 0) (s.r.getD o.a.toNat 0) (s.r.getD o.b.toNat 0) (seq + o.n)) }
  else { s with r := s.r.set o.d.toNat (o.made (s.r.getD o.a.toNat 0) (s.r.getD o.b.toNat 0) (s.r.getD o.c.toNat 0)) }
def Mech.run (seq : W64) (s : Mech) (l : List Op1) : Mech := l.foldl (Mech.step seq) s
def flatR (rs : List Rec1) : List Value := (rs.map Rec1.cells).flatten

theorem flatR_length (rs : List Rec1) : (flatR rs).length = rs.length * 4 := by
  induction rs with
  | nil => rfl
  | cons r rs ih => simp [flatR, Rec1.cells] at ih ⊢; omega

theorem setRec_flat : ∀ (rs : List Rec1) (i : Nat) (r : Rec1), i < rs.length → setRec (flatR rs) i r = flatR (rs.set i r)
  | [], _, _, h => by simp at h
  | x :: rs, 0, r, _ => by simp [setRec, flatR, Rec1.cells]
  | x :: rs, i + 1, r, h => by
    have ih := setRec_flat rs i r (by simpa using h)
    have e : (i + 1) * 4 = i * 4 + 4 := by omega
    unfold setRec at ih ⊢
    rw [e]
    simp only [flatR, List.map_cons, List.flatten_cons, Rec1.cells, List.cons_append, List.nil_append, List.set_cons_succ] at ih ⊢
    rw [← ih]

theorem mech_length (seq : W64) (s : Mech) (l : List Op1) : (s.run seq l).rs.length = s.rs.length := by
  induction l generalizing s with
  | nil => rfl
  | cons o l ih =>
    show ((s.step seq o).run seq l).rs.length = _
    rw [ih]
    unfold Mech.step
    split <;> simp

theorem mach_mech (seq : W64) (k : Nat) (l : List Op1) : ∀ (s : Mech), s.rs.length = k → (∀ o ∈ l, GoodOp k o) → Mach.run seq ⟨s.r, flatR s.rs⟩ l = ⟨(s.run seq l).r, flatR (s.run seq l).rs⟩ := by
  induction l with
  | nil => intro s _ _; rfl
  | cons o l ih =>
    intro s hs hg
    have h1 : Mach.step seq ⟨s.r, flatR s.rs⟩ o = ⟨(s.step seq o).r, flatR (s.step seq o).rs⟩ := by
      unfold Mach.step Mech.step
      by_cases h : o.code = 12
      · have := (hg o (List.mem_cons_self ..)).n1 h
        simp only [if_pos h]
        rw [setRec_flat _ _ _ (by omega)]
      · simp only [if_neg h]
    show Mach.run seq (Mach.step seq ⟨s.r, flatR s.rs⟩ o) l = _
    rw [h1]
    exact ih (s.step seq o) (by rw [← hs]; exact mech_length seq s [o]) (fun x hx => hg x (List.mem_cons_of_mem _ hx))

/-- The records that a pair is mapped to. -/
def mapped (K : Nat) (ms : List Op1) (num key v : W64) : List Rec1 := (Mech.run (num * BitVec.ofNat 64 K) ⟨[key, v, num, 0, 0, 0, 0, 0], List.replicate K rec0⟩ ms).rs
theorem mapped_length (K : Nat) (ms : List Op1) (num key v : W64) : (mapped K ms num key v).length = K := by
  unfold mapped; rw [mech_length]; simp

theorem mapped_cells (K : Nat) (ms : List Op1) (num key v : W64) (h : ∀ o ∈ ms, GoodOp K o) : (Mach.run (num * BitVec.ofNat 64 K) ⟨[key, v, num, 0, 0, 0, 0, 0], (List.replicate K rec0.cells).flatten⟩ ms).xs = flatR (mapped K ms num key v) := by
  have e : (List.replicate K rec0.cells).flatten = flatR (List.replicate K rec0) := by simp [flatR]
  rw [e]
  have := mach_mech (num * BitVec.ofNat 64 K) K ms ⟨[key, v, num, 0, 0, 0, 0, 0], List.replicate K rec0⟩ (by simp) h
  dsimp only at this
  rw [this]
  rfl

theorem flatR_cell (rs : List Rec1) (i : Nat) (r : Rec1) (h : rs[i]? = some r) : (flatR rs)[i * 4]? = some (.bool r.dead) ∧ (flatR rs)[i * 4 + 1]? = some (I r.key) ∧ (flatR rs)[i * 4 + 2]? = some (I r.value) ∧ (flatR rs)[i * 4 + 3]? = some (I r.seq) := by
  induction rs generalizing i with
  | nil => simp at h
  | cons x rs ih =>
    cases i with
    | zero => simp at h; subst h; simp [flatR, Rec1.cells]
    | succ i =>
      have := ih i (by simpa using h)
      rw [show (i + 1) * 4 = i * 4 + 4 by omega]
      simpa [flatR, Rec1.cells] using this

/-- What there is so far: of each key; the keys, in the order in which they came. -/
structure Tal where
  f : W64 → Option W64
  keys : List W64

def Tal.none : Tal := ⟨fun _ => Option.none, []⟩
def Tal.take (fs : List Op1) (t : Tal) (r : Rec1) : Tal :=
  if r.dead then t else match t.f r.key with
    | .none => ⟨upd t.f r.key (some r.value), t.keys ++ [r.key]⟩
    | some v => ⟨upd t.f r.key (some (ran v r.value fs)), t.keys⟩
def Tal.takes (fs : List Op1) (t : Tal) (rs : List Rec1) : Tal := rs.foldl (Tal.take fs) t
def Tal.pair (K : Nat) (ms fs : List Op1) (t : Tal) (x : W64 × W64 × W64) : Tal := t.takes fs (mapped K ms x.1 x.2.1 x.2.2)
def Tal.pairs (K : Nat) (ms fs : List Op1) (l : List (W64 × W64 × W64)) : Tal := l.foldl (Tal.pair K ms fs) Tal.none

/-- It is in order. -/
structure Tal.Ok (t : Tal) : Prop where
  nodup : t.keys.Nodup
  mem : ∀ k, k ∈ t.keys ↔ (t.f k).isSome = true

theorem Tal.none_ok : Tal.none.Ok := ⟨List.nodup_nil, fun k => by simp [Tal.none]⟩

theorem Tal.take_ok {fs : List Op1} {t : Tal} (h : t.Ok) (r : Rec1) : (t.take fs r).Ok := by
  unfold Tal.take
  split
  · exact h
  · split
    · rename_i hn
      have hk : r.key ∉ t.keys := fun hm => by have := (h.mem _).1 hm; simp [hn] at this
      refine ⟨by rw [List.nodup_append]; exact ⟨h.nodup, by simp, fun a ha b hb => by simp at hb; subst hb; exact fun e => hk (e ▸ ha)⟩, fun k => ?_⟩
      simp only [List.mem_append, List.mem_singleton, h.mem, upd]
      by_cases hkk : k = r.key <;> simp [hkk]
    · rename_i v hv
      refine ⟨h.nodup, fun k => ?_⟩
      simp only [h.mem, upd]
      by_cases hkk : k = r.key
      · subst hkk; simp [hv]
      · simp [hkk]

theorem Tal.takes_ok {fs : List Op1} {t : Tal} (h : t.Ok) (rs : List Rec1) : (t.takes fs rs).Ok := by
  induction rs generalizing t with
  | nil => exact h
  | cons r rs ih => exact ih (Tal.take_ok h r)

theorem Tal.pairs_ok (K : Nat) (ms fs : List Op1) (l : List (W64 × W64 × W64)) : (Tal.pairs K ms fs l).Ok := by
  unfold Tal.pairs
  have : ∀ (l : List (W64 × W64 × W64)) (t : Tal), t.Ok → (l.foldl (Tal.pair K ms fs) t).Ok := by
    intro l
    induction l with
    | nil => exact fun t h => h
    | cons x l ih => exact fun t h => ih _ (Tal.takes_ok h _)
  exact this l _ Tal.none_ok

theorem Tal.take_length (fs : List Op1) (t : Tal) (r : Rec1) : (t.take fs r).keys.length ≤ t.keys.length + 1 := by
  unfold Tal.take
  split
  · omega
  · split <;> simp
theorem Tal.takes_length (fs : List Op1) (t : Tal) (rs : List Rec1) : (t.takes fs rs).keys.length ≤ t.keys.length + rs.length := by
  induction rs generalizing t with
  | nil => exact Nat.le_refl _
  | cons r rs ih =>
    have h1 := ih (t.take fs r)
    have h2 := Tal.take_length fs t r
    show (Tal.takes fs (t.take fs r) rs).keys.length ≤ _
    simp
    omega
theorem Tal.pairs_length (K : Nat) (ms fs : List Op1) (l : List (W64 × W64 × W64)) : (Tal.pairs K ms fs l).keys.length ≤ l.length * K := by
  unfold Tal.pairs
  have : ∀ (l : List (W64 × W64 × W64)) (t : Tal), (l.foldl (Tal.pair K ms fs) t).keys.length ≤ t.keys.length + l.length * K := by
    intro l
    induction l with
    | nil => exact fun t => by simp
    | cons x l ih =>
      intro t
      have h1 := ih (t.pair K ms fs x)
      have h2 := Tal.takes_length fs t (mapped K ms x.1 x.2.1 x.2.2)
      rw [mapped_length] at h2
      rw [List.foldl_cons, List.length_cons, Nat.succ_mul]
      unfold Tal.pair at h1 ⊢
      omega
  have h := this l Tal.none
  simpa [Tal.none] using h

/-- What is told: of each key, by rising keys. -/
def Tal.told (ns : List Op1) (t : Tal) : List (W64 × W64) := (t.keys.mergeSort (fun a b => decide (a.toInt ≤ b.toInt))).map fun k => (k, ran ((t.f k).getD 0) k ns)

end Go.Proofs.Ytlnjfcnhgndocaa
