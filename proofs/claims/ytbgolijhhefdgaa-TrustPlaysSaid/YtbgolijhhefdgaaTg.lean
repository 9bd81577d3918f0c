/- The walk of TrustPlays: it returns true and writes nothing that was there, for every script. No condition. -/
import Derived.Test.YtbgolijhhefdgaaTf
namespace Go.Proofs.Ytbgolijhhefdgaa
open Go.RowKit

/-- The reference's block. -/
def RfAt (w : World) (b : Nat) (t : Tr) : Prop := CellsAt w b t.cells 40

theorem RfAt.c0 {w : World} {b : Nat} {t : Tr} (h : RfAt w b t) : w.cell? ⟨b, 0, none⟩ = some (.int .u64 t.E) := by
  rw [CellsAt.cell h]; rfl
theorem RfAt.c1 {w : World} {b : Nat} {t : Tr} (h : RfAt w b t) : w.cell? ⟨b, 1, none⟩ = some (.int .u64 t.C) := by
  rw [CellsAt.cell h]; rfl
theorem RfAt.c2 {w : World} {b : Nat} {t : Tr} (h : RfAt w b t) : w.cell? ⟨b, 2, none⟩ = some (.int .u64 t.W) := by
  rw [CellsAt.cell h]; rfl
theorem RfAt.c3 {w : World} {b : Nat} {t : Tr} (h : RfAt w b t) : w.cell? ⟨b, 3, none⟩ = some (.int .u64 t.S) := by
  rw [CellsAt.cell h]; rfl
theorem RfAt.c4 {w : World} {b : Nat} {t : Tr} (h : RfAt w b t) : w.cell? ⟨b, 4, none⟩ = some (.int .i64 t.T) := by
  rw [CellsAt.cell h]; rfl
theorem RfAt.free {w : World} {b : Nat} {t : Tr} (h : RfAt w b t) (i : Nat) : w.frozen? ⟨b, i, none⟩ = false := CellsAt.free h i
theorem RfAt.mod {w w' : World} {b : Nat} {t : Tr} {bs : List Nat} (h : RfAt w b t) (hm : Mod w w' bs) (hn : ¬ b ∈ bs) : RfAt w' b t := CellsAt.mod h hm hn
theorem RfAt.setE {w : World} {b : Nat} {t : Tr} (h : RfAt w b t) (x : Int) : RfAt (w.setCell ⟨b, 0, none⟩ (.int .u64 x)) b { t with E := x } := CellsAt.set h 0 _
theorem RfAt.setC {w : World} {b : Nat} {t : Tr} (h : RfAt w b t) (x : Int) : RfAt (w.setCell ⟨b, 1, none⟩ (.int .u64 x)) b { t with C := x } := CellsAt.set h 1 _
theorem RfAt.setW {w : World} {b : Nat} {t : Tr} (h : RfAt w b t) (x : Int) : RfAt (w.setCell ⟨b, 2, none⟩ (.int .u64 x)) b { t with W := x } := CellsAt.set h 2 _
theorem RfAt.setS {w : World} {b : Nat} {t : Tr} (h : RfAt w b t) (x : Int) : RfAt (w.setCell ⟨b, 3, none⟩ (.int .u64 x)) b { t with S := x } := CellsAt.set h 3 _

def DidR (w : World) (b : Nat) (v : Value) (t : Tr) (e : Ending) (w' : World) : Prop := e = .returned v ∧ RfAt w' b t ∧ Mod w w' [b]

set_option maxHeartbeats 400000 in
theorem rbegin_ok (b : Nat) (t : Tr) (w : World) (ht : RfAt w b t) (h0 : 0 ≤ t.E) (h : t.E < 60) :
    Calls Try.prog 17 #[.pointer (some ⟨b, 0, none⟩)] w (DidR w b (.tuple #[.int .u64 (t.E + 1), .int .i64 0]) { t with E := t.E + 1 }) := by
  have hc := ht.c0
  have hf := ht.free 0
  go_enter Try.func17, Try.ntmps17
  go_wp2
  go_ret2
  exact ⟨rfl, ht.setE _, (Mod.refl _ _).setCell mem1 _⟩

set_option maxHeartbeats 400000 in
theorem rbegin_no (b : Nat) (t : Tr) (w : World) (ht : RfAt w b t) (h : 60 ≤ t.E) :
    Calls Try.prog 17 #[.pointer (some ⟨b, 0, none⟩)] w (DidR w b (.tuple #[.int .u64 0, .int .i64 10]) t) := by
  have hc := ht.c0
  go_enter Try.func17, Try.ntmps17
  go_wp2
  go_ret2
  exact ⟨rfl, ht, Mod.refl _ _⟩

set_option maxHeartbeats 400000 in
theorem rstart_ok (b : Nat) (t : Tr) (w : World) (ht : RfAt w b t) (h0 : 0 ≤ t.S) (h : t.S < 300) :
    Calls Try.prog 19 #[.pointer (some ⟨b, 0, none⟩)] w (DidR w b (.tuple #[.int .u64 (t.S + 1), .int .i64 0]) { t with S := t.S + 1 }) := by
  have hc := ht.c3
  have hf := ht.free 3
  go_enter Try.func19, Try.ntmps19
  go_wp2
  go_ret2
  exact ⟨rfl, ht.setS _, (Mod.refl _ _).setCell mem1 _⟩

set_option maxHeartbeats 400000 in
theorem rstart_no (b : Nat) (t : Tr) (w : World) (ht : RfAt w b t) (h : 300 ≤ t.S) :
    Calls Try.prog 19 #[.pointer (some ⟨b, 0, none⟩)] w (DidR w b (.tuple #[.int .u64 0, .int .i64 10]) t) := by
  have hc := ht.c3
  go_enter Try.func19, Try.ntmps19
  go_wp2
  go_ret2
  exact ⟨rfl, ht, Mod.refl _ _⟩

set_option maxHeartbeats 400000 in
theorem rmove_ok (b : Nat) (t : Tr) (w : World) (ht : RfAt w b t) (hC0 : 0 ≤ t.C) (hC : t.C < 1000) (h0 : t.E ≠ 0) :
    Calls Try.prog 18 #[.pointer (some ⟨b, 0, none⟩), .int .u64 t.E] w (DidR w b (.int .i64 0) { t with C := t.C + 1, W := t.E }) := by
  obtain ⟨E, C, W, S, T⟩ := t
  have hc := ht.c0
  have hc1 := ht.c1
  have hf := ht.free 1
  have hf2 := ht.free 2
  have hc2 := ht.c2
  simp only at hc hc1 hc2 hC0 hC h0
  have g0 : (E == 0) = false := by simpa using h0
  clear h0
  go_enter Try.func18, Try.ntmps18
  go_wp2
  go_ret
  refine ⟨rfl, ?_, ?_⟩
  · exact (ht.setC (C + 1)).setW E
  · exact ((Mod.refl w [b]).setCell mem1 _).setCell mem1 _

set_option maxHeartbeats 400000 in
theorem rmove_bad (b : Nat) (t : Tr) (n : Int) (w : World) (ht : RfAt w b t) (hn : n = 0 ∨ n ≠ t.E) :
    Calls Try.prog 18 #[.pointer (some ⟨b, 0, none⟩), .int .u64 n] w (DidR w b (.int .i64 13) t) := by
  by_cases h : n = 0
  · subst h
    go_enter Try.func18, Try.ntmps18
    go_wp2
    go_ret
    exact ⟨rfl, ht, Mod.refl _ _⟩
  · have hc := ht.c0
    have g0 : (n == 0) = false := by simpa using h
    have g1 : (n != t.E) = true := by
      rcases hn with h1 | h1
      · exact absurd h1 h
      · simpa using h1
    clear h hn
    go_enter Try.func18, Try.ntmps18
    go_wp2
    go_ret
    exact ⟨rfl, ht, Mod.refl _ _⟩

set_option maxHeartbeats 400000 in
theorem rpass_any (b : Nat) (t : Tr) (n : Int) (w : World) (ht : RfAt w b t) (h0 : 0 ≤ t.T) (h : t.T ≤ 1099511627776) :
    Calls Try.prog 21 #[.pointer (some ⟨b, 0, none⟩), .int .i64 n] w (DidR w b (.tuple #[]) { t with T := passed t.T n }) := by
  have hc := ht.c4
  have hf := ht.free 4
  go_enter Try.func21, Try.ntmps21
  go_wp2
  all_goals (go_end0; refine ⟨rfl, ?_, (Mod.refl _ _).setCell mem1 _⟩)
  all_goals
    have hp := CellsAt.set ht 4 (.int .i64 (passed t.T n))
    refine cast (congrArg (fun z => CellsAt (w.setCell ⟨b, 4, none⟩ (.int .i64 z)) b _ 40) ?_) hp
    unfold passed
    omega

theorem epoch_q {b : Nat} {t : Tr} {w : World} {n : Nat} (ht : TrAt w b t) : Calls Try.prog 22 #[.pointer (some ⟨b, 0, none⟩)] (w.drewN n) fun e w'' => e = .returned (.int .u64 t.E) ∧ ∃ m, w'' = w.drewN m :=
  Calls.quiet_of_same ((epoch_any b t (w.drewN n) ht).mono fun _ _ h => ⟨h.1, h.2.symm⟩)
theorem count_q {b : Nat} {t : Tr} {w : World} {n : Nat} (ht : TrAt w b t) : Calls Try.prog 12 #[.pointer (some ⟨b, 0, none⟩)] (w.drewN n) fun e w'' => e = .returned (.int .u64 t.C) ∧ ∃ m, w'' = w.drewN m :=
  Calls.quiet_of_same ((count_any b t (w.drewN n) ht).mono fun _ _ h => ⟨h.1, h.2.symm⟩)
theorem writer_q {b : Nat} {t : Tr} {w : World} {n : Nat} (ht : TrAt w b t) : Calls Try.prog 13 #[.pointer (some ⟨b, 0, none⟩)] (w.drewN n) fun e w'' => e = .returned (.int .u64 t.W) ∧ ∃ m, w'' = w.drewN m :=
  Calls.quiet_of_same ((writer_any b t (w.drewN n) ht).mono fun _ _ h => ⟨h.1, h.2.symm⟩)
theorem tick_q {b : Nat} {t : Tr} {w : World} {n : Nat} (ht : TrAt w b t) : Calls Try.prog 16 #[.pointer (some ⟨b, 0, none⟩)] (w.drewN n) fun e w'' => e = .returned (.int .i64 t.T) ∧ ∃ m, w'' = w.drewN m :=
  Calls.quiet_of_same ((tick_any b t (w.drewN n) ht).mono fun _ _ h => ⟨h.1, h.2.symm⟩)

/-- The five numbers are within their bounds. -/
def Tr.fine (t : Tr) (k : Nat) : Prop := 0 ≤ t.E ∧ t.E ≤ 60 ∧ 0 ≤ t.C ∧ t.C ≤ k ∧ 0 ≤ t.S ∧ t.S ≤ 300 ∧ 0 ≤ t.T ∧ t.T ≤ 1099511627776

def PlI (w : World) (len rb : Nat) (tp i : Value) (wr : World) : Prop :=
  ∃ (k b : Nat) (t : Tr), k ≤ len ∧ k ≤ 150 ∧ i = .int .i64 k ∧ tp = .pointer (some ⟨b, 0, none⟩) ∧ t.fine k ∧ TrAt wr b t ∧ RfAt wr rb t ∧ Mod w wr [] ∧ w.heap.size ≤ b ∧ b ≠ rb

end Go.Proofs.Ytbgolijhhefdgaa
