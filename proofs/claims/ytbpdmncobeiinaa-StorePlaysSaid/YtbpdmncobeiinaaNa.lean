/- What the methods of a nil store do. No condition. -/
import Derived.Test.YtbpdmncobeiinaaSg
namespace Go.Proofs.Ytbpdmncobeiinaa
open Go.RowKit

set_option maxRecDepth 100000 in
theorem nil_put (s : ByteArray) (v : Value) (w : World) : Calls Try.prog 9 #[.pointer none, .string s, v] w (Reads w (.tuple #[])) := by
  go_enter Try.func9, Try.ntmps9
  go_wp2_with fail
  go_end0
  exact ⟨rfl, rfl⟩
theorem nil_get (s : ByteArray) (w : World) : Calls Try.prog 13 #[.pointer none, .string s] w (Reads w (.tuple #[.slice none 0 0, .bool false])) := by
  go_enter Try.func13, Try.ntmps13
  go_wp2_with fail
  go_ret2
  exact ⟨rfl, rfl⟩
theorem nil_versions (s : ByteArray) (w : World) : Calls Try.prog 15 #[.pointer none, .string s] w (Reads w (.int .i64 0)) := by
  go_enter Try.func15, Try.ntmps15
  go_wp2_with fail
  go_ret
  exact ⟨rfl, rfl⟩
theorem nil_writes (w : World) : Calls Try.prog 18 #[.pointer none] w (Reads w (.int .i64 0)) := by
  go_enter Try.func18, Try.ntmps18
  go_wp2_with fail
  go_ret
  exact ⟨rfl, rfl⟩
theorem nil_has (s : ByteArray) (w : World) : Calls Try.prog 35 #[.pointer none, .string s] w (Reads w (.bool false)) := by
  go_enter Try.func35, Try.ntmps35
  go_wp2_with fail
  go_ret
  exact ⟨rfl, rfl⟩
theorem nil_replay (s : ByteArray) (n : Int) (w : World) : Calls Try.prog 14 #[.pointer none, .string s, .int .i64 n] w (Reads w (.bool false)) := by
  by_cases h0 : n < 0
  · go_enter Try.func14, Try.ntmps14
    go_wp2_with fail
    go_ret
    exact ⟨rfl, rfl⟩
  · have h1 : (0 : Int) ≤ n := by omega
    go_enter Try.func14, Try.ntmps14
    go_wp2_with fail
    refine (nil_versions s w).mono ?_
    rintro e w1 ⟨rfl, rfl⟩
    go_wp2_with fail
    go_ret
    exact ⟨rfl, rfl⟩
theorem nil_swap (s t : ByteArray) (w : World) : Calls Try.prog 10 #[.pointer none, .string s, .string t] w (Reads w (.bool false)) := by
  go_enter Try.func10, Try.ntmps10
  go_wp2_with fail
  refine (nil_has s w).mono ?_
  rintro e w1 ⟨rfl, rfl⟩
  go_wp2_with fail
  go_ret
  exact ⟨rfl, rfl⟩
theorem nil_delete (s : ByteArray) (w : World) : Calls Try.prog 12 #[.pointer none, .string s] w (Reads w (.bool false)) := by
  go_enter Try.func12, Try.ntmps12
  go_wp2_with fail
  refine (nil_has s w).mono ?_
  rintro e w1 ⟨rfl, rfl⟩
  go_wp2_with fail
  go_ret
  exact ⟨rfl, rfl⟩
theorem nil_flip (s : ByteArray) (n : Int) (w : World) : Calls Try.prog 11 #[.pointer none, .string s, .int .i64 n] w (Reads w (.bool false)) := by
  go_enter Try.func11, Try.ntmps11
  go_wp2_with fail
  refine (nil_has s w).mono ?_
  rintro e w1 ⟨rfl, rfl⟩
  go_wp2_with fail
  go_ret
  exact ⟨rfl, rfl⟩
set_option maxRecDepth 100000 in
theorem nil_roll (n : Int) (w : World) : Calls Try.prog 17 #[.pointer none, .int .i64 n] w (Reads w (.bool false)) := by
  go_enter Try.func17, Try.ntmps17
  go_wp2_with fail
  go_ret
  exact ⟨rfl, rfl⟩
theorem nil_fork (w : World) : Calls Try.prog 24 #[.pointer none] w (Reads w (.pointer none)) := by
  go_enter Try.func24, Try.ntmps24
  go_wp2_with fail
  go_ret
  exact ⟨rfl, rfl⟩
theorem names_any (p : Option Addr) (w : World) : Calls Try.prog 31 #[.pointer p] w fun e w' =>
    e = .returned (.func (.func 54) #[] #[.pointer (some ⟨w.heap.size, 0, none⟩)]) ∧ w' = w.alloc (.cells #[.pointer p] 23) := by
  go_enter Try.func31, Try.ntmps31
  go_wp2_with fail
  go_ret
  exact ⟨rfl, rfl⟩

end Go.Proofs.Ytbpdmncobeiinaa
