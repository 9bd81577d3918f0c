/- Rolling back, plainly: what a store shows behind it is what it showed then; a history of Puts. No condition. -/
import Derived.Test.YtbpdmncobeiinaaWb
import Derived.Test.YtbpdmncobeiinaaSg
namespace Go.Proofs.Ytbpdmncobeiinaa
open Go.RowKit

set_option maxRecDepth 100000 in
set_option maxHeartbeats 1000000 in
theorem roll_no (b : Nat) (σ : Sto) (x : StoB) (n : Int) (w : World) (h : StoreAt w b σ x) (hn : n < 0 ∨ (σ.puts.length : Int) < n) :
    Calls Try.prog 17 #[.pointer (some ⟨b, 0, none⟩), .int .i64 n] w (Reads w (.bool false)) := by
  obtain ⟨pa, pc, hpv, _, hpc⟩ := owns_form h.puts
  have c3 := h.cells.cell 3
  rw [hpv] at c3
  simp at c3
  obtain ⟨P, hP⟩ : ∃ P, σ.puts.length = P := ⟨_, rfl⟩
  rw [hP] at c3 hn
  clear hP hpv
  rcases hn with hn | hn
  · have d0 : decide (n < 0) = true := by simpa using hn
    go_enter Try.func17, Try.ntmps17
    go_wp2_with fail
    go_ret
    exact ⟨rfl, rfl⟩
  · have hn0 : ¬ n < 0 := by omega
    have d0 : decide (n < 0) = false := by simpa using hn0
    have d1 : decide ((P : Int) < n) = true := by simpa using hn
    go_enter Try.func17, Try.ntmps17
    go_wp2_with fail
    go_ret
    exact ⟨rfl, rfl⟩

set_option maxRecDepth 100000 in
set_option maxHeartbeats 1000000 in
theorem roll_zero (b : Nat) (σ : Sto) (x : StoB) (w : World) (h : StoreAt w b σ x) :
    Calls Try.prog 17 #[.pointer (some ⟨b, 0, none⟩), .int .i64 0] w (Reads w (.bool true)) := by
  obtain ⟨pa, pc, hpv, _, hpc⟩ := owns_form h.puts
  have c3 := h.cells.cell 3
  rw [hpv] at c3
  simp at c3
  go_enter Try.func17, Try.ntmps17
  go_wp2_with fail
  go_ret
  exact ⟨rfl, rfl⟩

/-- What was shown when there were so many changes. -/
def Sto.at_ (σ : Sto) (p : Nat) (nm : ByteArray) : Option (List UInt8) := (wasOf (σ.changes.drop p) nm).getD (σ.shows nm)

theorem wasOf_snoc (cs : List (ByteArray × Option (List UInt8))) (c : ByteArray × Option (List UInt8)) (nm : ByteArray) : wasOf (cs ++ [c]) nm = if (wasOf cs nm).isSome then wasOf cs nm else if c.1 = nm then some c.2 else none := by
  unfold wasOf
  rw [List.find?_append]
  cases cs.find? (fun c => decide (c.1 = nm)) with
  | some c' => simp
  | none =>
    by_cases h : c.1 = nm <;> simp [h]

theorem at_set (σ : Sto) (nm : ByteArray) (o : Option (List UInt8)) (p : Nat) (hp : p ≤ σ.changes.length) : (σ.set nm o).at_ p = σ.at_ p := by
  funext n
  unfold Sto.at_ Sto.set
  dsimp only
  rw [List.drop_append_of_le_length hp, wasOf_snoc]
  by_cases hs : (wasOf (σ.changes.drop p) n).isSome = true
  · rw [if_pos hs]
    obtain ⟨o', ho⟩ := Option.isSome_iff_exists.1 hs
    rw [ho]; rfl
  · rw [if_neg hs]
    have hn : wasOf (σ.changes.drop p) n = none := by simpa using hs
    rw [hn]
    by_cases hnm : nm = n
    · subst hnm; simp
    · rw [if_neg hnm]
      show upd σ.shows nm o n = σ.shows n
      exact upd_other _ _ (fun e => hnm e.symm)

theorem at_end (σ : Sto) : σ.at_ σ.changes.length = σ.shows := by
  funext n
  unfold Sto.at_
  rw [List.drop_length]
  rfl

theorem at_put (σ : Sto) (nm : ByteArray) (l : List UInt8) (p : Nat) (hp : p ≤ σ.changes.length) : (σ.put nm l).at_ p = σ.at_ p := at_set σ nm (some l) p hp

theorem rolled_other (was : ByteArray → Option (Option (List UInt8))) : ∀ (ns : List ByteArray) (σ : Sto) (n : ByteArray), n ∉ ns → (σ.rolled was ns).shows n = σ.shows n
  | [], _, _, _ => rfl
  | nm :: ns, σ, n, hn => by
    have h1 : n ∉ ns := fun hc => hn (List.mem_cons_of_mem _ hc)
    have h2 : n ≠ nm := fun hc => hn (hc ▸ List.mem_cons_self)
    show ((σ.set nm ((was nm).getD none)).rolled was ns).shows n = _
    rw [rolled_other was ns _ n h1]
    show upd σ.shows nm _ n = _
    exact upd_other _ _ h2

theorem rolled_same (was : ByteArray → Option (Option (List UInt8))) : ∀ (ns : List ByteArray) (σ : Sto) (n : ByteArray), n ∈ ns → (σ.rolled was ns).shows n = (was n).getD none
  | [], _, _, h => by cases h
  | nm :: ns, σ, n, hn => by
    show ((σ.set nm ((was nm).getD none)).rolled was ns).shows n = _
    by_cases h1 : n ∈ ns
    · exact rolled_same was ns _ n h1
    · rw [rolled_other was ns _ n h1]
      have h2 : n = nm := (List.mem_cons.1 hn).resolve_right h1
      subst h2
      show upd σ.shows n _ n = _
      simp [upd]

theorem rolled_at (σ : Sto) (p : Nat) (ns : List ByteArray) (h : ∀ nm, nm ∈ ns ↔ (wasOf (σ.changes.drop p) nm).isSome = true) : (σ.rolled (wasOf (σ.changes.drop p)) ns).shows = σ.at_ p := by
  funext n
  unfold Sto.at_
  by_cases hn : n ∈ ns
  · rw [rolled_same _ _ _ _ hn]
    obtain ⟨o, ho⟩ := Option.isSome_iff_exists.1 ((h n).1 hn)
    rw [ho]; rfl
  · rw [rolled_other _ _ _ _ hn]
    have : wasOf (σ.changes.drop p) n = none := by
      have h2 := mt (h n).2 hn
      simpa using h2
    rw [this]; rfl

theorem rolled_keeps (was : ByteArray → Option (Option (List UInt8))) : ∀ (ns : List ByteArray) (σ : Sto), (σ.rolled was ns).vers = σ.vers ∧ (σ.rolled was ns).puts = σ.puts
  | [], _ => ⟨rfl, rfl⟩
  | nm :: ns, σ => by
    have ih := rolled_keeps was ns (σ.set nm ((was nm).getD none))
    exact ih

/-- Of each name: which one of a list of names it was last. -/
def lastOf (l : List ByteArray) : ByteArray → Option Nat := l.zipIdx.foldl (fun f x => upd f x.1 (some x.2)) (fun _ => none)
theorem lastOf_snoc (l : List ByteArray) (nm : ByteArray) : lastOf (l ++ [nm]) = upd (lastOf l) nm (some l.length) := by
  unfold lastOf
  rw [List.zipIdx_append, List.foldl_append]
  simp

theorem lastOf_lt : ∀ (k : Nat) (l : List ByteArray) (nm : ByteArray) (i : Nat), l.length = k → lastOf l nm = some i → i < l.length
  | 0, l, nm, i, hk, h => by
    rw [List.length_eq_zero_iff.1 hk] at h
    simp [lastOf] at h
  | k + 1, l, nm, i, hk, h => by
    have hne : l ≠ [] := fun e => by simp [e] at hk
    have hl := List.dropLast_concat_getLast hne
    have hd : l.dropLast.length = k := by simp [hk]
    rw [← hl, lastOf_snoc] at h
    unfold upd at h
    split at h
    · simp at h
      omega
    · have := lastOf_lt k _ nm i hd h
      omega

/-- How often a name stands in a list. -/
def timesOf (l : List ByteArray) (nm : ByteArray) : Nat := l.countP fun k => decide (k = nm)
theorem timesOf_snoc (l : List ByteArray) (k nm : ByteArray) : timesOf (l ++ [k]) nm = timesOf l nm + if k = nm then 1 else 0 := by
  unfold timesOf
  rw [List.countP_append]
  by_cases h : k = nm <;> simp [h]

/-- A history of Puts: of each name its place among all. -/
structure Hist (names : List ByteArray) (σ : Sto) : Prop where
  shows : ∀ nm, σ.shows nm = (lastOf names nm).map fun i => [UInt8.ofNat i]
  len : σ.changes.length = names.length
  puts : σ.puts = List.range names.length
  vers : ∀ nm, (σ.vers nm).length = timesOf names nm
  past : ∀ p, p ≤ names.length → ∀ nm, σ.at_ p nm = (lastOf (names.take p) nm).map fun i => [UInt8.ofNat i]
  fair : σ.Fair

theorem hist0 : Hist [] sto0 := ⟨fun _ => rfl, rfl, rfl, fun _ => rfl, fun p _ nm => by simp [Sto.at_, sto0, wasOf, lastOf], ⟨fun p h => (by cases h), fun c h => (by cases h), fun nm h => (by cases h)⟩⟩

theorem Hist.put {names : List ByteArray} {σ : Sto} (h : Hist names σ) (nm : ByteArray) (hs : nm.size ≤ maxLen) : Hist (names ++ [nm]) (σ.put nm [UInt8.ofNat names.length]) := by
  have hsh : ∀ n, (σ.put nm [UInt8.ofNat names.length]).shows n = (lastOf (names ++ [nm]) n).map fun i => [UInt8.ofNat i] := fun n => by
    rw [lastOf_snoc]
    show upd σ.shows nm (some [UInt8.ofNat names.length]) n = _
    unfold upd
    split
    · rfl
    · exact h.shows n
  have hlen : (σ.put nm [UInt8.ofNat names.length]).changes.length = names.length + 1 := by
    show (σ.changes ++ [_]).length = _
    rw [List.length_append, h.len]; rfl
  refine ⟨hsh, by rw [hlen]; simp, ?_, fun n => ?_, fun p hp n => ?_, ?_, ?_, ?_⟩
  · show σ.puts ++ [σ.changes.length] = _
    rw [h.puts, h.len, List.length_append, List.length_singleton, List.range_succ]
  · show (upd σ.vers nm (σ.vers nm ++ [_]) n).length = _
    unfold upd
    rw [timesOf_snoc]
    split
    · rename_i e; subst e; simp [h.vers]
    · rename_i e
      rw [if_neg fun h => e h.symm, h.vers n]; rfl
  · by_cases hp2 : p ≤ names.length
    · rw [at_put σ nm _ p (by rw [h.len]; exact hp2), h.past p hp2, List.take_append_of_le_length hp2]
    · have e : p = (σ.put nm [UInt8.ofNat names.length]).changes.length := by
        rw [hlen]
        simp at hp
        omega
      rw [e, at_end, hsh, hlen, List.take_of_length_le (by simp)]
  · intro p hp
    have hp' : p ∈ σ.puts ++ [σ.changes.length] := hp
    rw [hlen]
    rcases List.mem_append.1 hp' with h1 | h1
    · have := h.fair.puts p h1
      rw [h.len] at this
      omega
    · simp at h1
      rw [h1, h.len]
      omega
  · intro c hc
    have hc' : c ∈ σ.changes ++ [(nm, σ.shows nm)] := hc
    rcases List.mem_append.1 hc' with h1 | h1
    · exact h.fair.size c h1
    · simp at h1
      subst h1
      exact hs
  · intro n hn
    show n ∈ (σ.changes ++ [(nm, σ.shows nm)]).map (·.1)
    rw [List.map_append, List.mem_append]
    have hn' : (upd σ.shows nm (some [UInt8.ofNat names.length]) n).isSome = true := hn
    unfold upd at hn'
    split at hn'
    · rename_i e; subst e; exact .inr (by simp)
    · exact .inl (h.fair.shown n hn')

theorem Hist.short {names : List ByteArray} {σ : Sto} (h : Hist names σ) : σ.short := fun nm l hl => by
  rw [h.shows] at hl
  obtain ⟨i, _, rfl⟩ := Option.map_eq_some_iff.1 hl
  simp

/-- Rolled back so many Puts. -/
def Rolled (names : List ByteArray) (n : Nat) (σ : Sto) : Prop :=
  (∀ nm, σ.shows nm = (lastOf (names.take (names.length - n)) nm).map fun i => [UInt8.ofNat i]) ∧ σ.puts.length = names.length ∧ ∀ nm, (σ.vers nm).length = timesOf names nm

theorem Rolled.short {names : List ByteArray} {n : Nat} {σ : Sto} (h : Rolled names n σ) : σ.short := fun nm l hl => by
  rw [h.1] at hl
  obtain ⟨i, _, rfl⟩ := Option.map_eq_some_iff.1 hl
  simp

theorem roll_hist (b : Nat) (σ : Sto) (x : StoB) (names : List ByteArray) (n : Nat) (w : World) (h : StoreAt w b σ x) (hh : Hist names σ) (hl : names.length ≤ 1000) (hn : n ≤ names.length) :
    Calls Try.prog 17 #[.pointer (some ⟨b, 0, none⟩), .int .i64 n] w fun e w' => ∃ σ', Rolled names n σ' ∧ DidS w b x (.bool true) σ' e w' := by
  by_cases h0 : n = 0
  · subst h0
    refine (roll_zero b σ x w h).mono ?_
    rintro e w' ⟨rfl, rfl⟩
    refine ⟨σ, ⟨fun nm => ?_, by rw [hh.puts]; simp, hh.vers⟩, x, rfl, h, StepS.refl _ _ _⟩
    rw [Nat.sub_zero, List.take_length]
    exact hh.shows nm
  · have hp : σ.puts[σ.puts.length - n]? = some (names.length - n) := by
      rw [hh.puts, List.length_range, List.getElem?_range (by omega)]
    refine (roll_yes b σ x n (names.length - n) w h hh.fair (by rw [hh.len]; omega) (by omega) (by rw [hh.puts, List.length_range]; exact hn) hp).mono ?_
    rintro e w' ⟨ns, _, hmem, hd⟩
    refine ⟨_, ⟨fun nm => ?_, ?_, fun nm => ?_⟩, hd⟩
    · rw [rolled_at σ _ ns hmem, hh.past _ (by omega)]
    · rw [(rolled_keeps _ ns σ).2, hh.puts, List.length_range]
    · rw [(rolled_keeps _ ns σ).1]; exact hh.vers nm

end Go.Proofs.Ytbpdmncobeiinaa
