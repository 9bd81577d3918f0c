/- What each method of a Trust answers and does, at a block that holds one and at nil. The condition: numbers within small bounds. -/
import Derived.Test.YtbgolijhhefdgaaTa
namespace Go.Proofs.Ytbgolijhhefdgaa
open Go.RowKit

/-- The numbers of a Trust. -/
structure Tr where
  E : Int
  C : Int
  W : Int
  S : Int
  T : Int

def Tr.cells (t : Tr) : Array Value := #[.int .u64 t.E, .int .u64 t.C, .int .u64 t.W, .int .u64 t.S, .int .i64 t.T]

def TrAt (w : World) (b : Nat) (t : Tr) : Prop := CellsAt w b t.cells 46

theorem TrAt.c0 {w : World} {b : Nat} {t : Tr} (h : TrAt w b t) : w.cell? ⟨b, 0, none⟩ = some (.int .u64 t.E) := by
  rw [CellsAt.cell h]; rfl
theorem TrAt.c1 {w : World} {b : Nat} {t : Tr} (h : TrAt w b t) : w.cell? ⟨b, 1, none⟩ = some (.int .u64 t.C) := by
  rw [CellsAt.cell h]; rfl
theorem TrAt.c2 {w : World} {b : Nat} {t : Tr} (h : TrAt w b t) : w.cell? ⟨b, 2, none⟩ = some (.int .u64 t.W) := by
  rw [CellsAt.cell h]; rfl
theorem TrAt.c3 {w : World} {b : Nat} {t : Tr} (h : TrAt w b t) : w.cell? ⟨b, 3, none⟩ = some (.int .u64 t.S) := by
  rw [CellsAt.cell h]; rfl
theorem TrAt.c4 {w : World} {b : Nat} {t : Tr} (h : TrAt w b t) : w.cell? ⟨b, 4, none⟩ = some (.int .i64 t.T) := by
  rw [CellsAt.cell h]; rfl
theorem TrAt.free {w : World} {b : Nat} {t : Tr} (h : TrAt w b t) (i : Nat) : w.frozen? ⟨b, i, none⟩ = false := CellsAt.free h i
theorem TrAt.mod {w w' : World} {b : Nat} {t : Tr} {bs : List Nat} (h : TrAt w b t) (hm : Mod w w' bs) (hn : ¬ b ∈ bs) : TrAt w' b t := CellsAt.mod h hm hn

theorem TrAt.setE {w : World} {b : Nat} {t : Tr} (h : TrAt w b t) (x : Int) : TrAt (w.setCell ⟨b, 0, none⟩ (.int .u64 x)) b { t with E := x } := CellsAt.set h 0 _
theorem TrAt.setC {w : World} {b : Nat} {t : Tr} (h : TrAt w b t) (x : Int) : TrAt (w.setCell ⟨b, 1, none⟩ (.int .u64 x)) b { t with C := x } := CellsAt.set h 1 _
theorem TrAt.setW {w : World} {b : Nat} {t : Tr} (h : TrAt w b t) (x : Int) : TrAt (w.setCell ⟨b, 2, none⟩ (.int .u64 x)) b { t with W := x } := CellsAt.set h 2 _
theorem TrAt.setS {w : World} {b : Nat} {t : Tr} (h : TrAt w b t) (x : Int) : TrAt (w.setCell ⟨b, 3, none⟩ (.int .u64 x)) b { t with S := x } := CellsAt.set h 3 _
theorem TrAt.setT {w : World} {b : Nat} {t : Tr} (h : TrAt w b t) (x : Int) : TrAt (w.setCell ⟨b, 4, none⟩ (.int .i64 x)) b { t with T := x } := CellsAt.set h 4 _

/-- What is done to one Trust. -/
def Did (w : World) (b : Nat) (v : Value) (t : Tr) (e : Ending) (w' : World) : Prop := e = .returned v ∧ TrAt w' b t ∧ Mod w w' [b]

theorem mem1 {b : Nat} {n : Nat} : b ∈ [b] ∨ n ≤ b := .inl (by simp)

theorem new_any (w : World) : Calls Try.prog 8 #[] w fun e w' => e = .returned (.pointer (some ⟨w.heap.size, 0, none⟩)) ∧ w' = w.alloc (.cells #[.int .u64 0, .int .u64 0, .int .u64 0, .int .u64 0, .int .i64 0] 46 (0, 0)) := by
  go_enter Try.func8, Try.ntmps8
  go_wp2
  go_ret
  exact ⟨rfl, rfl⟩

set_option maxHeartbeats 400000 in
theorem begin_ok (b : Nat) (t : Tr) (w : World) (ht : TrAt w b t) (h0 : 0 ≤ t.E) (h : t.E < 60) :
    Calls Try.prog 10 #[.pointer (some ⟨b, 0, none⟩)] w (Did w b (.tuple #[.int .u64 (t.E + 1), .int .i64 0]) { t with E := t.E + 1 }) := by
  have hc := ht.c0
  have hf := ht.free 0
  go_enter Try.func10, Try.ntmps10
  go_wp2
  go_ret2
  exact ⟨rfl, ht.setE _, (Mod.refl _ _).setCell mem1 _⟩

set_option maxHeartbeats 400000 in
theorem begin_no (b : Nat) (t : Tr) (w : World) (ht : TrAt w b t) (h : 60 ≤ t.E) :
    Calls Try.prog 10 #[.pointer (some ⟨b, 0, none⟩)] w (Did w b (.tuple #[.int .u64 0, .int .i64 10]) t) := by
  have hc := ht.c0
  go_enter Try.func10, Try.ntmps10
  go_wp2
  go_ret2
  exact ⟨rfl, ht, Mod.refl _ _⟩

set_option maxHeartbeats 400000 in
theorem start_ok (b : Nat) (t : Tr) (w : World) (ht : TrAt w b t) (h0 : 0 ≤ t.S) (h : t.S < 300) :
    Calls Try.prog 14 #[.pointer (some ⟨b, 0, none⟩)] w (Did w b (.tuple #[.int .u64 (t.S + 1), .int .i64 0]) { t with S := t.S + 1 }) := by
  have hc := ht.c3
  have hf := ht.free 3
  go_enter Try.func14, Try.ntmps14
  go_wp2
  go_ret2
  exact ⟨rfl, ht.setS _, (Mod.refl _ _).setCell mem1 _⟩

set_option maxHeartbeats 400000 in
theorem start_no (b : Nat) (t : Tr) (w : World) (ht : TrAt w b t) (h : 300 ≤ t.S) :
    Calls Try.prog 14 #[.pointer (some ⟨b, 0, none⟩)] w (Did w b (.tuple #[.int .u64 0, .int .i64 10]) t) := by
  have hc := ht.c3
  go_enter Try.func14, Try.ntmps14
  go_wp2
  go_ret2
  exact ⟨rfl, ht, Mod.refl _ _⟩

/-- A method that reads one number. -/
def Reads (w : World) (v : Value) (e : Ending) (w' : World) : Prop := e = .returned v ∧ w = w'

theorem epoch_any (b : Nat) (t : Tr) (w : World) (ht : TrAt w b t) : Calls Try.prog 22 #[.pointer (some ⟨b, 0, none⟩)] w (Reads w (.int .u64 t.E)) := by
  have hc := ht.c0
  go_enter Try.func22, Try.ntmps22
  go_wp2
  go_ret
  exact ⟨rfl, rfl⟩
theorem count_any (b : Nat) (t : Tr) (w : World) (ht : TrAt w b t) : Calls Try.prog 12 #[.pointer (some ⟨b, 0, none⟩)] w (Reads w (.int .u64 t.C)) := by
  have hc := ht.c1
  go_enter Try.func12, Try.ntmps12
  go_wp2
  go_ret
  exact ⟨rfl, rfl⟩
theorem writer_any (b : Nat) (t : Tr) (w : World) (ht : TrAt w b t) : Calls Try.prog 13 #[.pointer (some ⟨b, 0, none⟩)] w (Reads w (.int .u64 t.W)) := by
  have hc := ht.c2
  go_enter Try.func13, Try.ntmps13
  go_wp2
  go_ret
  exact ⟨rfl, rfl⟩
theorem tick_any (b : Nat) (t : Tr) (w : World) (ht : TrAt w b t) : Calls Try.prog 16 #[.pointer (some ⟨b, 0, none⟩)] w (Reads w (.int .i64 t.T)) := by
  have hc := ht.c4
  go_enter Try.func16, Try.ntmps16
  go_wp2
  go_ret
  exact ⟨rfl, rfl⟩

set_option maxHeartbeats 400000 in
theorem move_ok (b : Nat) (t : Tr) (w : World) (ht : TrAt w b t) (hC0 : 0 ≤ t.C) (hC : t.C < 1000) (h0 : t.E ≠ 0) :
    Calls Try.prog 11 #[.pointer (some ⟨b, 0, none⟩), .int .u64 t.E] w (Did w b (.int .i64 0) { t with C := t.C + 1, W := t.E }) := by
  obtain ⟨E, C, W, S, T⟩ := t
  have hc := ht.c0
  have hc1 := ht.c1
  have hf := ht.free 1
  have hf2 := ht.free 2
  have hc2 := ht.c2
  simp only at hc hc1 hc2 hC0 hC h0
  have g0 : (E == 0) = false := by simpa using h0
  clear h0
  go_enter Try.func11, Try.ntmps11
  go_wp2
  go_ret
  refine ⟨rfl, ?_, ?_⟩
  · exact (ht.setC (C + 1)).setW E
  · exact ((Mod.refl w [b]).setCell mem1 _).setCell mem1 _

set_option maxHeartbeats 400000 in
theorem move_zero (b : Nat) (t : Tr) (w : World) (ht : TrAt w b t) :
    Calls Try.prog 11 #[.pointer (some ⟨b, 0, none⟩), .int .u64 0] w (Did w b (.int .i64 13) t) := by
  go_enter Try.func11, Try.ntmps11
  go_wp2
  go_ret
  exact ⟨rfl, ht, Mod.refl _ _⟩

set_option maxHeartbeats 400000 in
theorem move_no (b : Nat) (t : Tr) (n : Int) (w : World) (ht : TrAt w b t) (h0 : n ≠ 0) (h : n ≠ t.E) :
    Calls Try.prog 11 #[.pointer (some ⟨b, 0, none⟩), .int .u64 n] w (Did w b (.int .i64 13) t) := by
  have hc := ht.c0
  have g0 : (n == 0) = false := by simpa using h0
  have g1 : (n != t.E) = true := by simpa using h
  clear h h0
  go_enter Try.func11, Try.ntmps11
  go_wp2
  go_ret
  exact ⟨rfl, ht, Mod.refl _ _⟩

def passed (T n : Int) : Int := min (T + max 0 (min n 1000000)) 1099511627776

set_option maxHeartbeats 400000 in
theorem pass_any (b : Nat) (t : Tr) (n : Int) (w : World) (ht : TrAt w b t) (h0 : 0 ≤ t.T) (h : t.T ≤ 1099511627776) :
    Calls Try.prog 15 #[.pointer (some ⟨b, 0, none⟩), .int .i64 n] w (Did w b (.tuple #[]) { t with T := passed t.T n }) := by
  have hc := ht.c4
  have hf := ht.free 4
  go_enter Try.func15, Try.ntmps15
  go_wp2
  all_goals (go_end0; refine ⟨rfl, ?_, (Mod.refl _ _).setCell mem1 _⟩)
  all_goals
    have hp := CellsAt.set ht 4 (.int .i64 (passed t.T n))
    refine cast (congrArg (fun z => CellsAt (w.setCell ⟨b, 4, none⟩ (.int .i64 z)) b _ 46) ?_) hp
    unfold passed
    omega

set_option maxHeartbeats 400000 in
theorem fork_any (b : Nat) (t : Tr) (w : World) (ht : TrAt w b t) :
    Calls Try.prog 20 #[.pointer (some ⟨b, 0, none⟩)] w fun e w' => e = .returned (.pointer (some ⟨w.heap.size, 0, none⟩)) ∧ w' = w.alloc (.cells t.cells 46 (0, 0)) := by
  have hc := ht.c4
  have hc0 := ht.c0
  have hc1 := ht.c1
  have hc2 := ht.c2
  have hc3 := ht.c3
  go_enter Try.func20, Try.ntmps20
  go_wp2
  go_ret
  exact ⟨rfl, rfl⟩

end Go.Proofs.Ytbgolijhhefdgaa
