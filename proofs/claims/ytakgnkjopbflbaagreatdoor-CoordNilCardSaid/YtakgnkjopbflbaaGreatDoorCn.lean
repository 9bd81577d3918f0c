/- Rows of bytes, one behind the other: slices.Values. The condition: at most a thousand. -/
import Derived.Test.YtakgnkjopbflbaaGreatDoorCm
namespace Go.Proofs.YtakgnkjopbflbaaGreatDoor
open Go.RowKit Go.Shelf
attribute [local go_sem] Oper.semAt_some

/-- Some blocks stay. -/
def KK (S : Nat → Prop) (A B : World) : Prop := ∀ k, S k → B.heap[k]? = A.heap[k]?
theorem KK.refl (S : Nat → Prop) (A : World) : KK S A A := fun _ _ => rfl
theorem KK.trans {S : Nat → Prop} {A B C : World} (h : KK S A B) (k : KK S B C) : KK S A C := fun j hj => (k j hj).trans (h j hj)
theorem KK.cells {S : Nat → Prop} {A B : World} (h : KK S A B) {b : Nat} (hb : S b) {cs : Array Value} {t : TypeId} (c : CellsAt A b cs t) : CellsAt B b cs t := (h b hb).trans c
theorem KK.cell {S : Nat → Prop} {A B : World} (h : KK S A B) {b : Nat} (hb : S b) (o : Nat) : B.cell? ⟨b, o, none⟩ = A.cell? ⟨b, o, none⟩ := by simp [World.cell?, h b hb]
theorem KK.of_mod {S T : Nat → Prop} {A B : World} (h : Mod A B T) (hS : ∀ k, S k → k < A.heap.size) (hT : ∀ k, S k → ¬ T k) : KK S A B := fun k hk => h.block k (hS k hk) (hT k hk)
theorem KK.put {S : Nat → Prop} {w : World} (hS : ∀ k, S k → k < w.heap.size) (W : World) (l : Nat) (o o' : Obj) (hl : w.heap.size ≤ l) (ho : W.heap[l]? = some o) (_ : o.isCells = false) (_ : o.isWalk = false) : KK S W (W.putObj l o') :=
  KK.of_mod ((Mod.refl W (· = l)).putObj (.inl rfl) o') (fun k hk => by have := hS k hk; have := heap_lt ho; omega) (fun k hk (e : k = l) => by have := hS k hk; omega)

/-- A slice's address, length, capacity. -/
abbrev Sc := Option Addr × Nat × Nat
abbrev scv (s : Sc) : Value := .slice s.1 s.2.1 s.2.2
/-- What the iterator looks at. -/
def AtVal (Bs b k : Nat) : Prop := k = Bs ∨ k = b

set_option maxRecDepth 100000 in
set_option maxHeartbeats 1000000 in
theorem values_any (a : Option Addr) (n c : Nat) (w : World) :
    Calls Tryz.prog 148 #[.slice a n c] w fun e w' => e = .returned (.func (.func 167) #[] #[.pointer (some ⟨w.heap.size, 0, none⟩)]) ∧ w' = w.alloc (.cells #[.slice a n c] 183) := by
  go_enter Tryz.func148, Tryz.ntmps148
  go_wp2_with fail
  go_ret
  exact ⟨rfl, rfl⟩

set_option maxRecDepth 100000 in
set_option maxHeartbeats 2000000 in
theorem values1_in (n : Nat) (hn : 1 ≤ n) (l Bs b o c : Nat) (us : List Sc) (hus : us.length ≤ 1000) (J Jx : List Sc → World → Prop)
    (hY : ∀ pre x W, J pre W → pre.length < us.length → YieldAt Fence.wide (n - 1) Tryz.prog l #[scv x] W fun e W' => (e = .returned (.bool true) ∧ J (pre ++ [x]) W' ∧ KK (AtVal Bs b) W W') ∨ (e = .returned (.bool false) ∧ Jx (pre ++ [x]) W'))
    (W : World) (h1 : CellsAt W Bs #[.slice (some ⟨b, o, none⟩) us.length c] 183) (hc : ∀ (j : Nat) (s : Sc), us[j]? = some s → W.cell? ⟨b, o + j, none⟩ = some (scv s)) (h0 : J [] W) :
    CallsIn Fence.wide n Tryz.prog 167 #[.func (.yield l) #[] #[], .pointer (some ⟨Bs, 0, none⟩)] W fun e W' => (∃ v, e = .returned v) ∧ (J us W' ∨ ∃ pre, Jx pre W') := by
  refine callsIn_of_wp Tryz.func167 rfl trivial ?_ rfl
  simp only [Tryz.ntmps167, List.size_toArray, List.length_cons, List.length_nil, Nat.reduceAdd, Nat.reduceSub, Array.replicate_succ, Array.replicate_zero, List.push_toArray, List.append_toArray, List.nil_append, List.cons_append]
  obtain ⟨len, hlen⟩ : ∃ len, us.length = len := ⟨_, rfl⟩
  rw [hlen] at h1 hus
  have HL := Lib.hid hlen
  have c1 := h1.cell 0
  simp at c1
  clear hlen h1
  gi_wp2
  gi_loopw [7] (fun i wr => ∃ k : Nat, k ≤ len ∧ i = .int .i64 k ∧ J (us.take k) wr ∧ KK (AtVal Bs b) W wr)
    (fun i _ => len - (intOf i).toNat)
  case atStart => exact ⟨0, Nat.zero_le _, rfl, h0, KK.refl _ _⟩
  case round =>
    obtain ⟨k, hk, rfl, hJs, hkk⟩ := hrel
    by_cases hlt : k < len
    · have hko : k < us.length := by rw [HL.out]; exact hlt
      have hcx := (hkk.cell (.inr rfl) (o + k)).trans (hc k _ (List.getElem?_eq_getElem hko))
      have hT : Hid (us.take (k + 1) = us.take k ++ [us[k]]) := by
        have := List.take_succ_eq_append_getElem hko
        exact this
      obtain ⟨fn, tmps, assign, body, hy, hR⟩ := hY (us.take k) (us[k]) _ hJs (by simp; omega)
      obtain ⟨x, hx⟩ : ∃ x, us[k] = x := ⟨_, rfl⟩
      rw [hx] at hcx hy hR hT
      obtain ⟨xa, xl, xc⟩ := x
      dsimp only [scv] at hcx hy hR
      obtain ⟨pre, hpre⟩ : ∃ pre, us.take k = pre := ⟨_, rfl⟩
      rw [hpre] at hJs hR hT
      clear hc hpre hY hx
      gi_wp2
      refine hR.mono ?_
      rintro e W3 (⟨rfl, hJ3, hk3⟩ | ⟨rfl, hJx3⟩)
      · gi_wp2
        go_roundw
        case rel => exact ⟨k + 1, by omega, by go_num, by rw [hT.out]; exact hJ3, hkk.trans hk3⟩
        case measure => simp [intOf]; omega
      · gi_wp2
        refine bodyPost_ret (results_none rfl _ _ _) rfl ?_
        exact ⟨⟨_, rfl⟩, .inr ⟨_, hJx3⟩⟩
    · obtain rfl : k = len := by omega
      gi_wp2
      go_end0
      exact ⟨⟨_, rfl⟩, .inl (by rwa [← HL.out, List.take_length] at hJs)⟩

/-- slices.Values of rows of bytes. -/
theorem values_stops (n : Nat) (hn : 1 ≤ n) (Bs b o c : Nat) (us : List Sc) (hus : us.length ≤ 1000) (w : World) (h1 : CellsAt w Bs #[.slice (some ⟨b, o, none⟩) us.length c] 183) (hb : b < w.heap.size) (hc : ∀ (j : Nat) (s : Sc), us[j]? = some s → w.cell? ⟨b, o + j, none⟩ = some (scv s)) :
    SeqStopsK Fence.wide n Tryz.prog 167 #[.pointer (some ⟨Bs, 0, none⟩)] (fun s : Sc => #[scv s]) (KK (AtVal Bs b)) (fun ys => ys = us) (fun _ => True) us.length w := fun l J Jx W hW _ _ hY h0 => by
  refine (values1_in n hn l Bs b o c us hus J Jx hY W ((hW.block Bs h1.lt).trans h1) (fun j s hj => (hW.cell (p := ⟨b, o + j, none⟩) hb).trans (hc j s hj)) h0).mono ?_
  rintro e W' ⟨he, h2 | ⟨pre, h2⟩⟩
  · exact ⟨he, .inl ⟨_, rfl, h2⟩⟩
  · exact ⟨he, .inr ⟨_, trivial, h2⟩⟩

end Go.Proofs.YtakgnkjopbflbaaGreatDoor
