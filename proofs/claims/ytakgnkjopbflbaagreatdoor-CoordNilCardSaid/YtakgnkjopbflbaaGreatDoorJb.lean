/- Names of entries; what is told; what the next entry bears of one. The conditions: a number below 100; an entry of at least 16 bytes; eyes that are nil. -/
import Derived.Test.YtakgnkjopbflbaaGreatDoorJa
import Derived.Test.YtakgnkjopbflbaaGreatDoorDs
namespace Go.Proofs.YtakgnkjopbflbaaGreatDoor
open Go.RowKit Go.Shelf

/-- How an entry is called. -/
def nameS (n : Nat) : ByteArray := ⟨#[106]⟩ ++ ⟨(Lib.decDigits n).toArray⟩

set_option maxRecDepth 100000 in
set_option maxHeartbeats 400000 in
theorem format_any (n : Nat) (w : World) (hn : n < 100) : Calls Tryz.prog 118 #[.int .u64 n, .int .i64 10] w fun e w' => e = .returned (.string ⟨(Lib.decDigits n).toArray⟩) ∧ w' = w := by
  have hs := shelf_internal_strconv_small n hn
  have hw : IntKind.i64.wrap (n : Int) = (n : Int) := IntWalk.i64_in _ (by omega)
  have hd : (n : Int) < 100 := by omega
  go_enter Tryz.func118, Tryz.ntmps118
  go_wp2_with fail
  refine (hs w).mono ?_
  rintro e W ⟨rfl, rfl⟩
  go_wp2_with fail
  go_ret
  exact ⟨rfl, rfl⟩

set_option maxRecDepth 100000 in
set_option maxHeartbeats 400000 in
theorem formatUint_any (n : Nat) (w : World) (hn : n < 100) : Calls Tryz.prog 90 #[.int .u64 n, .int .i64 10] w fun e w' => e = .returned (.string ⟨(Lib.decDigits n).toArray⟩) ∧ w' = w := by
  go_enter Tryz.func90, Tryz.ntmps90
  go_wp2_with fail
  refine (format_any n w hn).mono ?_
  rintro e W ⟨rfl, rfl⟩
  go_wp2_with fail
  go_ret
  exact ⟨rfl, rfl⟩

theorem dec_length (n : Nat) (h : n < 100) : (Lib.decDigits n).length ≤ 2 := by
  by_cases h1 : n < 10
  · rw [Lib.decDigits_one h1]; simp
  · rw [Lib.decDigits_two h1 h]; simp

set_option maxRecDepth 100000 in
set_option maxHeartbeats 400000 in
theorem name_any (n : Nat) (w : World) (hn : n < 100) : Calls Tryz.prog 50 #[.int .u64 n] w fun e w' => e = .returned (.string (nameS n)) ∧ w' = w := by
  have hl : ¬ 9223372036854775807 < 1 + (Lib.decDigits n).length := by have := dec_length n hn; omega
  go_enter Tryz.func50, Tryz.ntmps50
  go_wp2_with fail
  refine (formatUint_any n w hn).mono ?_
  rintro e W ⟨rfl, rfl⟩
  go_wp2_with fail
  go_ret
  exact ⟨rfl, rfl⟩

/-- Eyes that are told of seals alone. -/
def eyesV (sv : Value) : Value := .agg #[.nilFunc, sv]
/-- Eyes that see nothing. -/
def eyes0 : Value := .agg #[.nilFunc, .nilFunc]
set_option maxRecDepth 100000 in
set_option maxHeartbeats 400000 in
theorem note_any (v1 : Value) (nm : ByteArray) (v3 : Value) (w : World) : Calls Tryz.prog 51 #[eyes0, v1, .string nm, v3] w fun e w' => (∃ v, e = .returned v) ∧ Mod w w' Nob := by
  unfold eyes0
  have hbn : ∀ w, (binOp BinOp.neq 64 .nilFunc .nilFunc).run Tryz.prog w = .ok (.bool false) w := fun w => by kernel_rfl
  go_enter Tryz.func51, Tryz.ntmps51
  go_wp2_with fail
  go_end0
  exact ⟨⟨_, rfl⟩, (Mod.refl w Nob).alloc _⟩

set_option maxRecDepth 100000 in
set_option maxHeartbeats 400000 in
theorem note_anyV (sv v1 : Value) (nm : ByteArray) (v3 : Value) (w : World) : Calls Tryz.prog 51 #[eyesV sv, v1, .string nm, v3] w fun e w' => (∃ v, e = .returned v) ∧ Mod w w' Nob := by
  unfold eyesV
  have hbn : ∀ w, (binOp BinOp.neq 64 .nilFunc .nilFunc).run Tryz.prog w = .ok (.bool false) w := fun w => by kernel_rfl
  go_enter Tryz.func51, Tryz.ntmps51
  go_wp2_with fail
  go_end0
  exact ⟨⟨_, rfl⟩, (Mod.refl w Nob).alloc _⟩

set_option maxRecDepth 100000 in
set_option maxHeartbeats 400000 in
theorem noteSeal_any (u : Array Value) (w : World) : Calls Tryz.prog 84 #[eyes0, .agg u] w fun e w' => (∃ v, e = .returned v) ∧ Mod w w' Nob := by
  unfold eyes0
  have hbn : ∀ w, (binOp BinOp.neq 65 .nilFunc .nilFunc).run Tryz.prog w = .ok (.bool false) w := fun w => by kernel_rfl
  go_enter Tryz.func84, Tryz.ntmps84
  go_wp2_with fail
  go_end0
  exact ⟨⟨_, rfl⟩, ((Mod.refl w Nob).alloc _).alloc _⟩

/-- What the next one bears of an entry. -/
def linkL (b : List UInt8) : List UInt8 := List.replicate 16 0 ++ b.drop (b.length - 16)
theorem linkL_length (b : List UInt8) (h : 16 ≤ b.length) : (linkL b).length = 32 := by simp [linkL]; omega
theorem zeros32b : #[.int .u8 0, .int .u8 0, .int .u8 0, .int .u8 0, .int .u8 0, .int .u8 0, .int .u8 0, .int .u8 0, .int .u8 0, .int .u8 0, .int .u8 0, .int .u8 0, .int .u8 0, .int .u8 0, .int .u8 0, .int .u8 0, .int .u8 0, .int .u8 0, .int .u8 0, .int .u8 0, .int .u8 0, .int .u8 0, .int .u8 0, .int .u8 0, .int .u8 0, .int .u8 0, .int .u8 0, .int .u8 0, .int .u8 0, .int .u8 0, .int .u8 0, .int .u8 0] = arrB (List.replicate 32 0) := by kernel_rfl

set_option maxRecDepth 100000 in
set_option maxHeartbeats 1000000 in
theorem linked_any (a : Option Addr) (n c : Nat) (b : List UInt8) (w : World) (hb : BytesAt w (.slice a n c) b) (hn : b.length = n) (h16 : 16 ≤ n) (h48 : n ≤ 1048576) :
    Calls Tryz.prog 91 #[.slice a n c] w fun e w' => e = .returned (.agg (arrB (linkL b))) ∧ Mod w w' Nob := by
  obtain ⟨k, rfl⟩ : ∃ k, n = k + 16 := ⟨n - 16, by omega⟩
  have m0 := ((Mod.refl w Nob).alloc (.cells (arrB (List.replicate 32 0)) 22)).alloc (.cells (arrB (List.replicate 32 0)) 22)
  have cO := (CellsAt.new w (arrB (List.replicate 32 0)) 22).alloc (.cells (arrB (List.replicate 32 0)) 22)
  have cX := new_at (w := w.alloc (.cells (arrB (List.replicate 32 0)) 22)) (cs := arrB (List.replicate 32 0)) (t := 22) (g := w.heap.size + 1) (by simp)
  have hz : ((w.alloc (.cells (arrB (List.replicate 32 0)) 22)).alloc (.cells (arrB (List.replicate 32 0)) 22)).heap.size = w.heap.size + 2 := by simp
  go_enter Tryz.func91, Tryz.ntmps91
  go_wp2_with fail
  change Code.wp _ _ _ _ ((w.alloc (.cells (arrB (List.replicate 32 0)) 22)).alloc (.cells (arrB (List.replicate 32 0)) 22))
  obtain ⟨W1, hW1⟩ : ∃ W1, ((w.alloc (.cells (arrB (List.replicate 32 0)) 22)).alloc (.cells (arrB (List.replicate 32 0)) 22)) = W1 := ⟨_, rfl⟩
  rw [hW1] at m0 cO cX hz ⊢
  obtain ⟨H, hH⟩ : ∃ H, w.heap.size = H := ⟨_, rfl⟩
  rw [hH] at cO cX hz ⊢
  have HH := Lib.hid hH
  have mD := (Mod.refl W1 Nob).drew
  replace m0 := m0.trans mD
  replace cO := cO.mod mD nob
  replace cX := cX.mod mD nob
  have hb0 := hb.mod m0 (fun _ _ => nob)
  obtain ⟨a', c', hsl, hbs⟩ := slice_from hb0 hn k (by omega)
  rw [Nat.add_sub_cancel_left] at hsl hbs
  have hdl : (b.drop k).length = 16 := by rw [List.length_drop, hn]; omega
  obtain ⟨W2, hrun, c2, m2⟩ : ∃ W2, (Builtin.copy_ #[43, 43] 3 #[.slice (some ⟨H + 1, 16, none⟩) 16 16, .slice a' 16 c']).run Tryz.prog W1.drew = .ok (.int .i64 16) W2 ∧ CellsAt W2 (H + 1) (arrB (linkL b)) 22 ∧ Mod W1.drew W2 (· = H + 1) := by
    rcases hbs with (⟨h1, _⟩ | ⟨bb, o, cap, h1, hbb, h2, h3, h4⟩) | ⟨h1, _⟩
    · cases h1
    · have h1' : a' = some ⟨bb, o, none⟩ ∧ c' = cap := by
        injection h1 with h5 h6 h7
        exact ⟨h5, h7⟩
      obtain ⟨rfl, rfl⟩ := h1'
      have hrun := run_copy_row (P := Tryz.prog) W1.drew 43 43 3 5 (H + 1) 16 16 16 ⟨bb, o, none⟩ 16 c' (arrB (List.replicate 32 0)) 22 ((b.drop k).map B) Tryz.underlying43 (by kernel_rfl) cX (by rw [List.length_map, hdl]; rfl) (fun j v hv => by
        have hadd : (⟨bb, o, none⟩ : Addr).add j = ⟨bb, o + j, none⟩ := by unfold Addr.add; split <;> simp_all
        rw [hadd]
        exact h4 j v hv) (by rw [List.length_map, hdl, arrB_size]; decide) (bytes_one _)
      rw [List.length_map, hdl] at hrun
      refine ⟨_, hrun, ?_, (Mod.refl _ (· = H + 1)).setRow (.inl rfl) _⟩
      have h5 := cX.setRow (((arrB (List.replicate 32 0)).toList.take 16 ++ (b.drop k).map B ++ (arrB (List.replicate 32 0)).toList.drop (16 + 16)).toArray)
      have e : (((arrB (List.replicate 32 0)).toList.take 16 ++ (b.drop k).map B ++ (arrB (List.replicate 32 0)).toList.drop (16 + 16)).toArray) = arrB (linkL b) := by
        unfold linkL arrB
        rw [hn, Nat.add_sub_cancel]
        simp
      rw [e] at h5 ⊢
      exact h5
    · have h5 := congrArg List.length h1
      rw [List.length_map, hdl] at h5
      simp at h5
  have hll := linkL_length b (by omega)
  obtain ⟨out, ho⟩ : ∃ x, linkL b = x := ⟨_, rfl⟩
  rw [ho] at c2 hll
  have HO := Box.mk ho
  have hos : (arrB out).size = 32 := by rw [arrB_size, hll]
  replace m0 := m0.drop m2 (fun z (hz : z = H + 1) => .inr (by have := HH.out; omega))
  replace cO := cO.mod m2 (by omega)
  clear hW1 hH hb hb0 hbs mD cX m2 hn hdl ho
  have hwk : IntKind.i64.wrap (k : Int) = (k : Int) := IntWalk.i64_in _ (by omega)
  refine wp_region_still_tail 6 (by kernel_rfl) (by kernel_rfl) ?_
  simp only [List.take_succ_cons, List.take_zero, List.drop_succ_cons, List.drop_zero]
  repeat still_step
  refine wpStill_nil ?_
  change wpList _ _ _ _ _ W1.drew
  go_wp2_with (first
    | (refine wpList_load_arr rfl 22 _ rfl (H + 1) 32 5 rfl (arrB out) c2 Tryz.underlying22 size_b32 hos ?_)
    | (refine wpList_store_arr rfl 22 _ _ rfl H 32 (arrB out) (arrB (List.replicate 32 0)) rfl rfl cO size_b32 hos (by rw [arrB_size]; rfl) (arrB_one _) ?_))
  rw [HO.out]
  exact bodyPost_ret (v := .agg (arrB out)) (ret_arr rfl _ _ H 32 5 _ rfl (cO.setRow _) Tryz.underlying22 size_b32 hos) rfl ⟨rfl, m0.setRow (.inr (by have := HH.out; omega)) _⟩

end Go.Proofs.YtakgnkjopbflbaaGreatDoor
