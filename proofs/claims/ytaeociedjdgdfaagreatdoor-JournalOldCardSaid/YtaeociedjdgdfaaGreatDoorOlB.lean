/- What an entry is opened to; what was sealed is opened to what it was. No condition but the numbers' bounds. -/
import Derived.Test.YtaeociedjdgdfaaGreatDoorOlA
import Derived.Great.FillDense
import Derived.Deep.MidRow
import Derived.Still
namespace Go.Proofs.YtaeociedjdgdfaaGreatDoor
open Go.RowKit

/-- A trust's numbers. -/
structure Tru where
  ep : Nat
  cnt : Nat
  wr : Nat
def Tru.cells (τ : Tru) : Array Value := #[.int .u64 τ.ep, .int .u64 τ.cnt, .int .u64 τ.wr, .int .u64 0, .int .i64 0]
def TruAt (w : World) (b : Nat) (τ : Tru) : Prop := CellsAt w b τ.cells 84
theorem TruAt.mod {w w' : World} {b : Nat} {τ : Tru} {S : Nat → Prop} (h : TruAt w b τ) (hm : Mod w w' S) (hn : ¬ S b) : TruAt w' b τ := CellsAt.mod h hm hn
theorem TruAt.at {w : World} {b : Nat} {τ : Tru} (h : TruAt w b τ) : w.cell? ⟨b, 0, none⟩ = some (.int .u64 τ.ep) ∧ w.cell? ⟨b, 1, none⟩ = some (.int .u64 τ.cnt) ∧ w.cell? ⟨b, 2, none⟩ = some (.int .u64 τ.wr) :=
  ⟨CellsAt.cell h 0, CellsAt.cell h 1, CellsAt.cell h 2⟩

set_option maxRecDepth 100000 in
set_option maxHeartbeats 400000 in
theorem trust_new (w : World) : Calls Tryz.prog 7 #[] w fun e w' => e = .returned (.pointer (some ⟨w.heap.size, 0, none⟩)) ∧ TruAt w' w.heap.size ⟨0, 0, 0⟩ ∧ Mod w w' Nob := by
  go_enter Tryz.func7, Tryz.ntmps7
  go_wp2_with fail
  go_ret
  exact ⟨rfl, CellsAt.new w _ _, (Mod.refl w Nob).alloc _⟩

set_option maxRecDepth 100000 in
set_option maxHeartbeats 400000 in
theorem trust_epoch (b : Nat) (τ : Tru) (w : World) (h : TruAt w b τ) : Calls Tryz.prog 51 #[.pointer (some ⟨b, 0, none⟩)] w fun e w' => e = .returned (.int .u64 τ.ep) ∧ w = w' := by
  obtain ⟨c0, c1, c2⟩ := h.at
  go_enter Tryz.func51, Tryz.ntmps51
  go_wp2_with fail
  go_ret
  exact ⟨rfl, rfl⟩
set_option maxRecDepth 100000 in
set_option maxHeartbeats 400000 in
theorem trust_count (b : Nat) (τ : Tru) (w : World) (h : TruAt w b τ) : Calls Tryz.prog 30 #[.pointer (some ⟨b, 0, none⟩)] w fun e w' => e = .returned (.int .u64 τ.cnt) ∧ w = w' := by
  obtain ⟨c0, c1, c2⟩ := h.at
  go_enter Tryz.func30, Tryz.ntmps30
  go_wp2_with fail
  go_ret
  exact ⟨rfl, rfl⟩
set_option maxRecDepth 100000 in
set_option maxHeartbeats 400000 in
theorem trust_writer (b : Nat) (τ : Tru) (w : World) (h : TruAt w b τ) : Calls Tryz.prog 55 #[.pointer (some ⟨b, 0, none⟩)] w fun e w' => e = .returned (.int .u64 τ.wr) ∧ w = w' := by
  obtain ⟨c0, c1, c2⟩ := h.at
  go_enter Tryz.func55, Tryz.ntmps55
  go_wp2_with fail
  go_ret
  exact ⟨rfl, rfl⟩

set_option maxRecDepth 100000 in
set_option maxHeartbeats 800000 in
theorem trust_begin (b : Nat) (τ : Tru) (w : World) (h : TruAt w b τ) (h6 : τ.ep < 60) : Calls Tryz.prog 9 #[.pointer (some ⟨b, 0, none⟩)] w fun e w' => e = .returned (.tuple #[.int .u64 ((τ.ep + 1 : Nat) : Int), .int .i64 0]) ∧ TruAt w' b ⟨τ.ep + 1, τ.cnt, τ.wr⟩ ∧ Mod w w' (· = b) := by
  obtain ⟨c0, c1, c2⟩ := h.at
  obtain ⟨ep, cnt, wr⟩ := τ
  have f0 := CellsAt.free h 0
  have s0 := CellsAt.set h 0 (.int .u64 ((ep + 1 : Nat) : Int))
  have k0 := CellsAt.cell s0 0
  have hw : IntKind.u64.wrap ((ep : Int) + 1) = ((ep + 1 : Nat) : Int) := by have := u64_wrap_id ((ep : Int) + 1) (by omega) (by simp only at h6; omega); rw [this]; omega
  simp only [Tru.cells] at s0 k0 c0
  simp at k0
  have hd : ¬ (60 : Int) ≤ (ep : Int) := by simp only at h6; omega
  have hm := (Mod.refl w (· = b)).setCell (p := ⟨b, 0, none⟩) (.inl rfl) (.int .u64 ((ep + 1 : Nat) : Int))
  rw [show (((ep + 1 : Nat) : Int)) = (ep : Int) + 1 by omega] at *
  go_enter Tryz.func9, Tryz.ntmps9
  go_wp2_with fail
  exact bodyPost_ret (v := .tuple #[.int .u64 ((ep : Int) + 1), .int .i64 0]) (by simp [results, Tryz.f9, go_sem]) rfl ⟨rfl, by unfold TruAt Tru.cells; simpa using s0, hm⟩

set_option maxRecDepth 100000 in
set_option maxHeartbeats 800000 in
theorem trust_move (b : Nat) (τ : Tru) (w : World) (h : TruAt w b τ) (h0 : 0 < τ.ep) (hc : τ.cnt < 1099511627776) : Calls Tryz.prog 33 #[.pointer (some ⟨b, 0, none⟩), .int .u64 τ.ep] w fun e w' => e = .returned (.int .i64 0) ∧ TruAt w' b ⟨τ.ep, τ.cnt + 1, τ.ep⟩ ∧ Mod w w' (· = b) := by
  obtain ⟨c0, c1, c2⟩ := h.at
  obtain ⟨ep, cnt, wr⟩ := τ
  have f1 := CellsAt.free h 1
  have s1 := CellsAt.set h 1 (.int .u64 ((cnt : Int) + 1))
  have f2 := CellsAt.free s1 2
  have k2 := CellsAt.cell s1 2
  have s2 := CellsAt.set s1 2 (.int .u64 (ep : Int))
  have hw : IntKind.u64.wrap ((cnt : Int) + 1) = (cnt : Int) + 1 := u64_wrap_id _ (by omega) (by simp only at hc; omega)
  simp only [Tru.cells] at k2
  simp at k2
  have hz : ((ep : Int) == 0) = false := by simp only at h0; simp; omega
  have hm := ((Mod.refl w (· = b)).setCell (p := ⟨b, 1, none⟩) (.inl rfl) (.int .u64 ((cnt : Int) + 1))).setCell (p := ⟨b, 2, none⟩) (.inl rfl) (.int .u64 (ep : Int))
  go_enter Tryz.func33, Tryz.ntmps33
  go_wp2_with fail
  go_ret
  exact ⟨rfl, by unfold TruAt Tru.cells; simpa [Tru.cells] using s2, hm⟩

end Go.Proofs.YtaeociedjdgdfaaGreatDoor

namespace Go.Proofs.YtaeociedjdgdfaaGreatDoor
open Go.RowKit Go.Shelf

/-- How an entry is called. -/
def nameS (n : Nat) : ByteArray := ⟨#[106]⟩ ++ ⟨(Lib.decDigits n).toArray⟩

set_option maxRecDepth 100000 in
set_option maxHeartbeats 400000 in
theorem format_any (n : Nat) (w : World) (hn : n < 100) : Calls Tryz.prog 61 #[.int .u64 n, .int .i64 10] w fun e w' => e = .returned (.string ⟨(Lib.decDigits n).toArray⟩) ∧ w' = w := by
  have hs := shelf_internal_strconv_small n hn
  have hw : IntKind.i64.wrap (n : Int) = (n : Int) := IntWalk.i64_in _ (by omega)
  have hd : (n : Int) < 100 := by omega
  go_enter Tryz.func61, Tryz.ntmps61
  go_wp2_with fail
  refine (hs w).mono ?_
  rintro e W ⟨rfl, rfl⟩
  go_wp2_with fail
  go_ret
  exact ⟨rfl, rfl⟩

set_option maxRecDepth 100000 in
set_option maxHeartbeats 400000 in
theorem formatUint_any (n : Nat) (w : World) (hn : n < 100) : Calls Tryz.prog 35 #[.int .u64 n, .int .i64 10] w fun e w' => e = .returned (.string ⟨(Lib.decDigits n).toArray⟩) ∧ w' = w := by
  go_enter Tryz.func35, Tryz.ntmps35
  go_wp2_with fail
  refine (format_any n w hn).mono ?_
  rintro e W ⟨rfl, rfl⟩
  go_wp2_with fail
  go_ret
  exact ⟨rfl, rfl⟩

theorem dec_length (n : Nat) (h : n < 100) : (Lib.decDigits n).length ≤ 2 := by
  by_cases h1 : n < 10
  · rw [Lib.decDigits_one h1]; simp
  · rw [Lib.decDigits_two h1 h]; simp

set_option maxRecDepth 100000 in
set_option maxHeartbeats 400000 in
theorem name_any (n : Nat) (w : World) (hn : n < 100) : Calls Tryz.prog 14 #[.int .u64 n] w fun e w' => e = .returned (.string (nameS n)) ∧ w' = w := by
  have hl : ¬ 9223372036854775807 < 1 + (Lib.decDigits n).length := by have := dec_length n hn; omega
  go_enter Tryz.func14, Tryz.ntmps14
  go_wp2_with fail
  refine (formatUint_any n w hn).mono ?_
  rintro e W ⟨rfl, rfl⟩
  go_wp2_with fail
  go_ret
  exact ⟨rfl, rfl⟩

/-- Eyes that see nothing. -/
def eyes0 : Value := .agg #[.nilFunc, .nilFunc]
set_option maxRecDepth 100000 in
set_option maxHeartbeats 400000 in
theorem note_any (v1 : Value) (nm : ByteArray) (v3 : Value) (w : World) : Calls Tryz.prog 58 #[eyes0, v1, .string nm, v3] w fun e w' => (∃ v, e = .returned v) ∧ Mod w w' Nob := by
  unfold eyes0
  have hbn : ∀ w, (binOp BinOp.neq 86 .nilFunc .nilFunc).run Tryz.prog w = .ok (.bool false) w := fun w => by kernel_rfl
  go_enter Tryz.func58, Tryz.ntmps58
  go_wp2_with fail
  go_end0
  exact ⟨⟨_, rfl⟩, (Mod.refl w Nob).alloc _⟩

set_option maxRecDepth 100000 in
set_option maxHeartbeats 400000 in
theorem noteSeal_any (u : Array Value) (w : World) : Calls Tryz.prog 80 #[eyes0, .agg u] w fun e w' => (∃ v, e = .returned v) ∧ Mod w w' Nob := by
  unfold eyes0
  have hbn : ∀ w, (binOp BinOp.neq 87 .nilFunc .nilFunc).run Tryz.prog w = .ok (.bool false) w := fun w => by kernel_rfl
  go_enter Tryz.func80, Tryz.ntmps80
  go_wp2_with fail
  go_end0
  exact ⟨⟨_, rfl⟩, ((Mod.refl w Nob).alloc _).alloc _⟩

/-- What the next one bears of an entry. -/
def linkL (b : List UInt8) : List UInt8 := List.replicate 16 0 ++ b.drop (b.length - 16)
theorem linkL_length (b : List UInt8) (h : 16 ≤ b.length) : (linkL b).length = 32 := by simp [linkL]; omega
theorem zeros32b : #[.int .u8 0, .int .u8 0, .int .u8 0, .int .u8 0, .int .u8 0, .int .u8 0, .int .u8 0, .int .u8 0, .int .u8 0, .int .u8 0, .int .u8 0, .int .u8 0, .int .u8 0, .int .u8 0, .int .u8 0, .int .u8 0, .int .u8 0, .int .u8 0, .int .u8 0, .int .u8 0, .int .u8 0, .int .u8 0, .int .u8 0, .int .u8 0, .int .u8 0, .int .u8 0, .int .u8 0, .int .u8 0, .int .u8 0, .int .u8 0, .int .u8 0, .int .u8 0] = arrB (List.replicate 32 0) := by kernel_rfl

set_option maxRecDepth 100000 in
set_option maxHeartbeats 1000000 in
theorem linked_any (a : Option Addr) (n c : Nat) (b : List UInt8) (w : World) (hb : BytesAt w (.slice a n c) b) (hn : b.length = n) (h16 : 16 ≤ n) (h48 : n ≤ 1048576) :
    Calls Tryz.prog 60 #[.slice a n c] w fun e w' => e = .returned (.agg (arrB (linkL b))) ∧ Mod w w' Nob := by
  obtain ⟨k, rfl⟩ : ∃ k, n = k + 16 := ⟨n - 16, by omega⟩
  have m0 := ((Mod.refl w Nob).alloc (.cells (arrB (List.replicate 32 0)) 22)).alloc (.cells (arrB (List.replicate 32 0)) 22)
  have cO := (CellsAt.new w (arrB (List.replicate 32 0)) 22).alloc (.cells (arrB (List.replicate 32 0)) 22)
  have cX := new_at (w := w.alloc (.cells (arrB (List.replicate 32 0)) 22)) (cs := arrB (List.replicate 32 0)) (t := 22) (g := w.heap.size + 1) (by simp)
  have hz : ((w.alloc (.cells (arrB (List.replicate 32 0)) 22)).alloc (.cells (arrB (List.replicate 32 0)) 22)).heap.size = w.heap.size + 2 := by simp
  go_enter Tryz.func60, Tryz.ntmps60
  go_wp2_with fail
  change Code.wp _ _ _ _ ((w.alloc (.cells (arrB (List.replicate 32 0)) 22)).alloc (.cells (arrB (List.replicate 32 0)) 22))
  obtain ⟨W1, hW1⟩ : ∃ W1, ((w.alloc (.cells (arrB (List.replicate 32 0)) 22)).alloc (.cells (arrB (List.replicate 32 0)) 22)) = W1 := ⟨_, rfl⟩
  rw [hW1] at m0 cO cX hz ⊢
  obtain ⟨H, hH⟩ : ∃ H, w.heap.size = H := ⟨_, rfl⟩
  rw [hH] at cO cX hz ⊢
  have HH := Lib.hid hH
  have mD := (Mod.refl W1 Nob).drew
  replace m0 := m0.trans mD
  replace cO := cO.mod mD nob
  replace cX := cX.mod mD nob
  have hb0 := hb.mod m0 (fun _ _ => nob)
  obtain ⟨a', c', hsl, hbs⟩ := slice_from hb0 hn k (by omega)
  rw [Nat.add_sub_cancel_left] at hsl hbs
  have hdl : (b.drop k).length = 16 := by rw [List.length_drop, hn]; omega
  obtain ⟨W2, hrun, c2, m2⟩ : ∃ W2, (Builtin.copy_ #[40, 40] 3 #[.slice (some ⟨H + 1, 16, none⟩) 16 16, .slice a' 16 c']).run Tryz.prog W1.drew = .ok (.int .i64 16) W2 ∧ CellsAt W2 (H + 1) (arrB (linkL b)) 22 ∧ Mod W1.drew W2 (· = H + 1) := by
    rcases hbs with (⟨h1, _⟩ | ⟨bb, o, cap, h1, hbb, h2, h3, h4⟩) | ⟨h1, _⟩
    · cases h1
    · have h1' : a' = some ⟨bb, o, none⟩ ∧ c' = cap := by
        injection h1 with h5 h6 h7
        exact ⟨h5, h7⟩
      obtain ⟨rfl, rfl⟩ := h1'
      have hrun := run_copy_row (P := Tryz.prog) W1.drew 40 40 3 5 (H + 1) 16 16 16 ⟨bb, o, none⟩ 16 c' (arrB (List.replicate 32 0)) 22 ((b.drop k).map B) Tryz.underlying40 (by kernel_rfl) cX (by rw [List.length_map, hdl]; rfl) (fun j v hv => by
        have hadd : (⟨bb, o, none⟩ : Addr).add j = ⟨bb, o + j, none⟩ := by unfold Addr.add; split <;> simp_all
        rw [hadd]
        exact h4 j v hv) (by rw [List.length_map, hdl, arrB_size]; decide) (bytes_one _)
      rw [List.length_map, hdl] at hrun
      refine ⟨_, hrun, ?_, (Mod.refl _ (· = H + 1)).setRow (.inl rfl) _⟩
      have h5 := cX.setRow (((arrB (List.replicate 32 0)).toList.take 16 ++ (b.drop k).map B ++ (arrB (List.replicate 32 0)).toList.drop (16 + 16)).toArray)
      have e : (((arrB (List.replicate 32 0)).toList.take 16 ++ (b.drop k).map B ++ (arrB (List.replicate 32 0)).toList.drop (16 + 16)).toArray) = arrB (linkL b) := by
        unfold linkL arrB
        rw [hn, Nat.add_sub_cancel]
        simp
      rw [e] at h5 ⊢
      exact h5
    · have h5 := congrArg List.length h1
      rw [List.length_map, hdl] at h5
      simp at h5
  have hll := linkL_length b (by omega)
  obtain ⟨out, ho⟩ : ∃ x, linkL b = x := ⟨_, rfl⟩
  rw [ho] at c2 hll
  have HO := Box.mk ho
  have hos : (arrB out).size = 32 := by rw [arrB_size, hll]
  replace m0 := m0.drop m2 (fun z (hz : z = H + 1) => .inr (by have := HH.out; omega))
  replace cO := cO.mod m2 (by omega)
  clear hW1 hH hb hb0 hbs mD cX m2 hn hdl ho
  have hwk : IntKind.i64.wrap (k : Int) = (k : Int) := IntWalk.i64_in _ (by omega)
  refine wp_region_still_tail 6 (by kernel_rfl) (by kernel_rfl) ?_
  simp only [List.take_succ_cons, List.take_zero, List.drop_succ_cons, List.drop_zero]
  repeat still_step
  refine wpStill_nil ?_
  change wpList _ _ _ _ _ W1.drew
  go_wp2_with (first
    | (refine wpList_load_arr rfl 22 _ rfl (H + 1) 32 5 rfl (arrB out) c2 Tryz.underlying22 size_b32 hos ?_)
    | (refine wpList_store_arr rfl 22 _ _ rfl H 32 (arrB out) (arrB (List.replicate 32 0)) rfl rfl cO size_b32 hos (by rw [arrB_size]; rfl) (arrB_one _) ?_))
  rw [HO.out]
  exact bodyPost_ret (v := .agg (arrB out)) (ret_arr rfl _ _ H 32 5 _ rfl (cO.setRow _) Tryz.underlying22 size_b32 hos) rfl ⟨rfl, m0.setRow (.inr (by have := HH.out; omega)) _⟩

end Go.Proofs.YtaeociedjdgdfaaGreatDoor

namespace Go.Proofs.YtaeociedjdgdfaaGreatDoor
open Go.RowKit Go.Shelf

theorem put_range (off : Nat) (pre old post vs : List Value) (h1 : pre.length = off) (h2 : old.length = vs.length) :
    ((vs.toArray.zipIdx.foldl (fun cs (x : Value × Nat) => cs.setIfInBounds (off + x.2) x.1) (pre ++ (old ++ post)).toArray)) = (pre ++ (vs ++ post)).toArray := by
  have h := Great.foldl_set off vs 0 (pre ++ (old ++ post)).toArray
  have e : vs.toArray.zipIdx.foldl (fun cs (x : Value × Nat) => cs.setIfInBounds (off + x.2) x.1) (pre ++ (old ++ post)).toArray = (vs.zipIdx 0).foldl (fun cs (x : Value × Nat) => cs.setIfInBounds (off + x.2) x.1) (pre ++ (old ++ post)).toArray := by
    rw [← Array.foldl_toList, Array.toList_zipIdx]
  rw [e]
  refine Array.ext_getElem? (fun k => ?_)
  rw [h.2 k]
  simp only [Nat.add_zero, List.getElem?_toArray, List.size_toArray, List.length_append]
  subst h1
  by_cases hk : pre.length ≤ k ∧ k < pre.length + vs.length ∧ k < pre.length + (old.length + post.length)
  · rw [if_pos hk, List.getElem?_append_right hk.1, List.getElem?_append_left (by omega)]
  · rw [if_neg hk]
    by_cases h3 : k < pre.length
    · rw [List.getElem?_append_left h3, List.getElem?_append_left h3]
    · rw [List.getElem?_append_right (by omega), List.getElem?_append_right (by omega), List.getElem?_append_right (by omega), List.getElem?_append_right (by omega), h2]

theorem fill_one (place : Nat → Option (Nat × Nat)) (i off : Nat) (pre old post vs : List Value) (v : Value) (rest : List (Nat × Value)) (hp : place i = some (off, vs.length)) (hv : v.cells = vs.toArray) (h1 : pre.length = off) (h2 : old.length = vs.length) :
    Instr.fill place (pre ++ (old ++ post)).toArray ((i, v) :: rest) = Instr.fill place (pre ++ (vs ++ post)).toArray rest := by
  rw [← put_range off pre old post vs h1 h2]
  conv => lhs; unfold Instr.fill
  simp only [hp, hv]
  rw [if_neg (by simp; omega)]

/-- A key and a nonce. -/
theorem built_use (key nonce : List UInt8) (hk : key.length = 32) (hn : nonce.length = 12) : Tryz.prog.built 142 [(0, .agg (arrB key)), (1, .agg (arrB nonce))] = some (key.map B ++ nonce.map B).toArray := by
  have e : ∀ parts, Tryz.prog.built 142 parts = Instr.fill (fun i => #[(0, 32), (32, 12)][i]?) (List.replicate 44 (.int .u8 0)).toArray parts := fun parts => by kernel_rfl
  rw [e]
  have s1 := fill_one (fun i => #[(0, 32), (32, 12)][i]?) 0 0 [] (List.replicate 32 (.int .u8 0)) (List.replicate 12 (.int .u8 0)) (key.map B) (.agg (arrB key)) [(1, .agg (arrB nonce))] (by rw [List.length_map, hk]; rfl) rfl rfl (by simp [hk])
  have s2 := fill_one (fun i => #[(0, 32), (32, 12)][i]?) 1 32 (key.map B) (List.replicate 12 (.int .u8 0)) [] (nonce.map B) (.agg (arrB nonce)) [] (by rw [List.length_map, hn]; rfl) rfl (by simp [hk]) (by simp [hn])
  rw [List.nil_append, List.nil_append] at s1
  rw [List.append_nil, List.append_nil] at s2
  have z : (List.replicate 44 (Value.int .u8 0)) = List.replicate 32 (.int .u8 0) ++ List.replicate 12 (.int .u8 0) := by rw [List.replicate_append_replicate]
  rw [z, s1, s2]
  rfl

/-- An entry. -/
structure Ent where
  kind : Int
  task : Int
  att : Nat
  state : Int
def Ent.cells (e : Ent) : List Value := [.int .i64 e.kind, .int .i64 e.task, .int .u64 e.att, .int .i64 e.state]
/-- A journal's cells. -/
def jcells (s t : Value) (key : List UInt8) (ep : Nat) (ev : Value) (last next : List UInt8) (wv : Bool) (e : Ent) : List Value :=
  [s, t] ++ (key.map B ++ ([.int .u64 ep, ev] ++ (last.map B ++ (next.map B ++ (.bool wv :: e.cells)))))
theorem jcells_length (s t : Value) (key : List UInt8) (ep : Nat) (ev : Value) (last next : List UInt8) (wv : Bool) (e : Ent) (h1 : key.length = 32) (h2 : last.length = 32) (h3 : next.length = 32) : (jcells s t key ep ev last next wv e).length = 105 := by
  simp [jcells, Ent.cells, h1, h2, h3]
def zl32 : List UInt8 := List.replicate 32 0
theorem built_jou (s t : Value) (key : List UInt8) (ep : Nat) (hs : s.cells = #[s]) (ht : t.cells = #[t]) (hk : key.length = 32) : Tryz.prog.built 92 [(0, s), (1, t), (2, .agg (arrB key)), (3, .int .u64 ep)] = some (jcells s t key ep (.slice none 0 0) zl32 zl32 false ⟨0, 0, 0, 0⟩).toArray := by
  have e : ∀ parts, Tryz.prog.built 92 parts = Instr.fill (fun i => #[(0, 1), (1, 1), (2, 32), (34, 1), (35, 1), (36, 32), (68, 32), (100, 1), (101, 4)][i]?) (jcells (.pointer none) (.pointer none) zl32 0 (.slice none 0 0) zl32 zl32 false ⟨0, 0, 0, 0⟩).toArray parts := fun parts => by kernel_rfl
  rw [e]
  have s1 := fill_one (fun i => #[(0, 1), (1, 1), (2, 32), (34, 1), (35, 1), (36, 32), (68, 32), (100, 1), (101, 4)][i]?) 0 0 [] [.pointer none] (([Value.pointer none] : List Value) ++ (zl32.map B ++ ([.int .u64 0, .slice none 0 0] ++ (zl32.map B ++ (zl32.map B ++ (.bool false :: (Ent.mk 0 0 0 0).cells)))))) [s] s
    [(1, t), (2, .agg (arrB key)), (3, .int .u64 ep)] rfl hs rfl rfl
  have s2 := fill_one (fun i => #[(0, 1), (1, 1), (2, 32), (34, 1), (35, 1), (36, 32), (68, 32), (100, 1), (101, 4)][i]?) 1 1 [s] [.pointer none] (zl32.map B ++ ([.int .u64 0, .slice none 0 0] ++ (zl32.map B ++ (zl32.map B ++ (.bool false :: (Ent.mk 0 0 0 0).cells))))) [t] t
    [(2, .agg (arrB key)), (3, .int .u64 ep)] rfl ht rfl rfl
  have s3 := fill_one (fun i => #[(0, 1), (1, 1), (2, 32), (34, 1), (35, 1), (36, 32), (68, 32), (100, 1), (101, 4)][i]?) 2 2 [s, t] (zl32.map B) ([.int .u64 0, .slice none 0 0] ++ (zl32.map B ++ (zl32.map B ++ (.bool false :: (Ent.mk 0 0 0 0).cells)))) (key.map B) (.agg (arrB key))
    [(3, .int .u64 ep)] (by rw [List.length_map, hk]; rfl) rfl rfl (by simp [zl32, hk])
  have s4 := fill_one (fun i => #[(0, 1), (1, 1), (2, 32), (34, 1), (35, 1), (36, 32), (68, 32), (100, 1), (101, 4)][i]?) 3 34 ([s, t] ++ key.map B) [.int .u64 0] ([.slice none 0 0] ++ (zl32.map B ++ (zl32.map B ++ (.bool false :: (Ent.mk 0 0 0 0).cells)))) [.int .u64 ep] (.int .u64 ep)
    [] rfl rfl (by simp [hk]) rfl
  have z1 : (jcells (.pointer none) (.pointer none) zl32 0 (.slice none 0 0) zl32 zl32 false ⟨0, 0, 0, 0⟩) = [] ++ ([Value.pointer none] ++ ([Value.pointer none] ++ (zl32.map B ++ ([.int .u64 0, .slice none 0 0] ++ (zl32.map B ++ (zl32.map B ++ (.bool false :: (Ent.mk 0 0 0 0).cells))))))) := rfl
  have z2 : ([] ++ ([s] ++ ([Value.pointer none] ++ (zl32.map B ++ ([.int .u64 0, .slice none 0 0] ++ (zl32.map B ++ (zl32.map B ++ (.bool false :: (Ent.mk 0 0 0 0).cells)))))))) = [s] ++ ([Value.pointer none] ++ (zl32.map B ++ ([.int .u64 0, .slice none 0 0] ++ (zl32.map B ++ (zl32.map B ++ (.bool false :: (Ent.mk 0 0 0 0).cells)))))) := rfl
  have z3 : ([s] ++ ([t] ++ (zl32.map B ++ ([.int .u64 0, .slice none 0 0] ++ (zl32.map B ++ (zl32.map B ++ (.bool false :: (Ent.mk 0 0 0 0).cells))))))) = [s, t] ++ (zl32.map B ++ ([.int .u64 0, .slice none 0 0] ++ (zl32.map B ++ (zl32.map B ++ (.bool false :: (Ent.mk 0 0 0 0).cells))))) := rfl
  have z4 : [s, t] ++ (key.map B ++ ([.int .u64 0, .slice none 0 0] ++ (zl32.map B ++ (zl32.map B ++ (.bool false :: (Ent.mk 0 0 0 0).cells))))) = ([s, t] ++ key.map B) ++ ([.int .u64 0] ++ ([.slice none 0 0] ++ (zl32.map B ++ (zl32.map B ++ (.bool false :: (Ent.mk 0 0 0 0).cells))))) := by simp
  rw [z1, s1, z2, s2, z3, s3, z4, s4]
  unfold jcells
  simp [Instr.fill]

end Go.Proofs.YtaeociedjdgdfaaGreatDoor

namespace Go.Proofs.YtaeociedjdgdfaaGreatDoor
open Go.RowKit Go.Shelf
set_option linter.unusedSimpArgs false

theorem exec_build {P : Program} {o : Oper} {a : Act} (t : TypeId) (parts : Array (Nat × Operand)) (ho : o.op = .build t parts) (cells : Array Value) (hb : P.built t (parts.map fun (i, x) => (i, a.eval x)).toList = some cells) (w : World) :
    (execOp a.eval o).run P w = .ok (.value (.agg cells)) w := by
  have h := run_build (P := P) w t (parts.map fun (i, x) => (i, a.eval x)) cells hb
  unfold execOp
  simp only [ho, Sem.run_bind, h, Result.andThen_ok, Sem.run_pure]

theorem exec_build2 {P : Program} {o : Oper} {a : Act} (t : TypeId) (i j : Nat) (x y : Operand) (u v : Value) (ho : o.op = .build t #[(i, x), (j, y)]) (hx : a.eval x = u) (hy : a.eval y = v) (cells : Array Value) (hb : P.built t [(i, u), (j, v)] = some cells) (w : World) :
    (execOp a.eval o).run P w = .ok (.value (.agg cells)) w := exec_build t _ ho cells (by simpa [hx, hy] using hb) w

/-- One of two may come up. -/
theorem wpAnyU_two {P : Program} {md : Region.Mode} {ops : Array Oper} {Q : Exit → Act → World → Prop} {S : World → Prop} {k fuel : Nat} {listed : Array Bool} {a : Act} {w : World} (i j : Nat) (oi oj : Oper) (hr : Region.ready md ops listed = [i, j]) (hi : ops[i]? = some oi) (hj : ops[j]? = some oj)
    (h1 : ∀ K' : Act → World → Prop, Shut (∀ a w, ((listed.setIfInBounds i true).getD k true = false → S w) → wpAnyU P md ops Q S k fuel (listed.setIfInBounds i true) a w → K' a w) → if Region.wanted oi (yielded ops a.tmps) = true then Oper.wp P oi a w K' Q else K' (a.put oi.dst undef) w)
    (h2 : ∀ K' : Act → World → Prop, Shut (∀ a w, ((listed.setIfInBounds j true).getD k true = false → S w) → wpAnyU P md ops Q S k fuel (listed.setIfInBounds j true) a w → K' a w) → if Region.wanted oj (yielded ops a.tmps) = true then Oper.wp P oj a w K' Q else K' (a.put oj.dst undef) w) :
    wpAnyU P md ops Q S k (fuel + 1) listed a w := by
  refine ⟨(fun h0 => by rw [hr] at h0; cases h0), fun x hx => ?_⟩
  rw [hr] at hx
  rcases List.mem_cons.1 hx with rfl | hx
  · exact wpOp_step hi (fun K' hK => h1 K' (fun a w h1 h2 => hK a w ⟨h1, h2⟩))
  · rw [List.mem_singleton] at hx
    subst hx
    exact wpOp_step hj (fun K' hK => h2 K' (fun a w h1 h2 => hK a w ⟨h1, h2⟩))

/-- A number as 64 bits. -/
def toU (x : Int) : Nat := (x % 18446744073709551616).toNat
theorem toU_wrap (x : Int) : IntKind.u64.wrap x = ((toU x : Nat) : Int) := by
  unfold toU
  rw [IntKind.wrap_u64, Int.toNat_of_nonneg (Int.emod_nonneg _ (by omega))]
/-- What stands ahead of an entry; what is sealed of it; the entry. -/
def headL (ep n : Nat) : List UInt8 := eightsL [ep, n]
def plainL (e : Ent) (last : List UInt8) : List UInt8 := eightsL [toU e.kind, toU e.task, e.att, toU e.state] ++ last
def entryL (key : List UInt8) (ep n : Nat) (e : Ent) (last : List UInt8) : List UInt8 := headL ep n ++ sealL key (nonceL n ep) (headL ep n) (plainL e last)
theorem headL_length (ep n : Nat) : (headL ep n).length = 16 := eightsL_length _
theorem plainL_length (e : Ent) (last : List UInt8) (h : last.length = 32) : (plainL e last).length = 64 := by unfold plainL; rw [List.length_append, eightsL_length, h]; rfl
theorem entryL_length (key : List UInt8) (ep n : Nat) (e : Ent) (last : List UInt8) (h : last.length = 32) : (entryL key ep n e last).length = 96 := by
  unfold entryL
  rw [List.length_append, headL_length, sealL_length, plainL_length e last h]

set_option maxRecDepth 100000 in
set_option maxHeartbeats 4000000 in
theorem sealed_any (J ep n : Nat) (key last : List UInt8) (e : Ent) (w : World) (hk : key.length = 32) (hl : last.length = 32) (hep : ep < 1073741824)
    (c2 : w.rangeAt J 2 (key.map B)) (c34 : w.cell? ⟨J, 34, none⟩ = some (.int .u64 ep)) (c36 : w.rangeAt J 36 (last.map B)) (hJ : J < w.heap.size) :
    Calls Tryz.prog 56 #[.pointer (some ⟨J, 0, none⟩), .int .u64 n, .agg e.cells.toArray, eyes0] w fun r w' => ∃ a c, r = .returned (.slice a 96 c) ∧ w'.ownsRow w.heap.size 5 1 (.slice a 96 c) 96 ((entryL key ep n e last).map B) ∧ Mod w w' Nob := by
  obtain ⟨kd, tk, at', st⟩ := e
  have hwe : IntKind.i64.wrap (ep : Int) = (ep : Int) := IntWalk.i64_in _ (by omega)
  have k1 := toU_wrap kd
  have k2 := toU_wrap tk
  have k3 := toU_wrap st
  unfold eyes0
  dsimp only [Ent.cells]
  have cE := (CellsAt.new w #[.int .i64 kd, .int .i64 tk, .int .u64 at', .int .i64 st] 38).alloc (.cells #[.nilFunc, .nilFunc] 89)
  have cY := new_at (w := w.alloc (.cells #[.int .i64 kd, .int .i64 tk, .int .u64 at', .int .i64 st] 38)) (cs := #[.nilFunc, .nilFunc]) (t := 89) (g := w.heap.size + 1) (by simp)
  have m0 := ((Mod.refl w Nob).alloc (.cells #[.int .i64 kd, .int .i64 tk, .int .u64 at', .int .i64 st] 38)).alloc (.cells #[.nilFunc, .nilFunc] 89)
  have hz : ((w.alloc (.cells #[.int .i64 kd, .int .i64 tk, .int .u64 at', .int .i64 st] 38)).alloc (.cells #[.nilFunc, .nilFunc] 89)).heap.size = w.heap.size + 2 := by simp
  go_enter Tryz.func56, Tryz.ntmps56
  go_wp2_with fail
  obtain ⟨W1, hW1⟩ : ∃ W1, (w.alloc (.cells #[.int .i64 kd, .int .i64 tk, .int .u64 at', .int .i64 st] 38)).alloc (.cells #[.nilFunc, .nilFunc] 89) = W1 := ⟨_, rfl⟩
  rw [hW1] at cE cY m0 hz ⊢
  obtain ⟨H, hH⟩ : ∃ H, w.heap.size = H := ⟨_, rfl⟩
  rw [hH] at cE cY hz hJ ⊢
  have HH := Lib.hid hH
  have hJn : ∀ W, Mod w W Nob → W.rangeAt J 2 (key.map B) ∧ W.cell? ⟨J, 34, none⟩ = some (.int .u64 ep) ∧ W.rangeAt J 36 (last.map B) := fun W hm => by
    have hb := hm.block J (by rw [hH]; exact hJ) nob
    have hc : ∀ o, W.cell? ⟨J, o, none⟩ = w.cell? ⟨J, o, none⟩ := fun o => by simp [World.cell?, hb]
    exact ⟨fun j v hv => (hc _).trans (c2 j v hv), (hc _).trans c34, fun j v hv => (hc _).trans (c36 j v hv)⟩
  clear hW1 hH c2 c34 c36
  go_cut [9] from 14 (fun t9 wx => ∃ g9, t9 = .pointer (some ⟨g9, 0, none⟩) ∧ H + 2 ≤ g9 ∧ CellsAt wx g9 (key.map B ++ (nonceL n ep).map B).toArray 142 ∧ Mod W1 wx Nob)
  case first =>
    have hnl := nonceL_length n ep
    obtain ⟨nc, hnc⟩ : ∃ x, nonceL n ep = x := ⟨_, rfl⟩
    have hno := fun W => nonce_any n ep W (by omega)
    rw [hnc] at hnl
    simp only [hnc] at hno ⊢
    have hbu := built_use key nc hk hnl
    have mD := (Mod.refl W1 Nob).drew
    obtain ⟨j2, j34, _⟩ := hJn W1.drew (m0.trans mD)
    have hS0 : W1.drew.rangeAt J 2 (key.map B) ∧ W1.drew.cell? ⟨J, 34, none⟩ = some (.int .u64 ep) := ⟨j2, j34⟩
    have hSm : ∀ W, Mod W1.drew W Nob → W.rangeAt J 2 (key.map B) ∧ W.cell? ⟨J, 34, none⟩ = some (.int .u64 ep) := fun W hm => by
      obtain ⟨y1, y2, _⟩ := hJn W ((m0.trans mD).trans hm)
      exact ⟨y1, y2⟩
    refine wp_no_panic ?_
    refine wp_region_U (S := fun W => W.rangeAt J 2 (key.map B) ∧ W.cell? ⟨J, 34, none⟩ = some (.int .u64 ep)) 13 (by kernel_rfl) ?_
    refine wpAnyU_takeP (i := 0) (v := .pointer (some ⟨J, 0, none⟩)) rfl (by kernel_rfl) (by kernel_rfl) (by kernel_rfl) (by decide) (fun _ _ _ h => h) (Or.inl ⟨by rfl, fun W => by go_simp⟩) (fun _ => hS0) ?_
    try simp only [Act.put, List.getElem_toArray, List.getElem_cons_zero, List.getElem_cons_succ, List.setIfInBounds_toArray, List.set_cons_zero, List.set_cons_succ]
    refine wpAnyU_takeP (i := 1) (v := .pointer (some ⟨J, 0, none⟩)) rfl (by kernel_rfl) (by kernel_rfl) (by kernel_rfl) (by decide) (fun _ _ _ h => h) (Or.inl ⟨by rfl, fun W => by go_simp⟩) (fun _ => hS0) ?_
    try simp only [Act.put, List.getElem_toArray, List.getElem_cons_zero, List.getElem_cons_succ, List.setIfInBounds_toArray, List.set_cons_zero, List.set_cons_succ]
    refine wpAnyU_takeP (i := 2) (v := .pointer (some ⟨J, 2, none⟩)) rfl (by kernel_rfl) (by kernel_rfl) (by kernel_rfl) (by decide) (fun _ _ _ h => h) (Or.inl ⟨by rfl, fun W => by go_simp⟩) (fun _ => hS0) ?_
    try simp only [Act.put, List.getElem_toArray, List.getElem_cons_zero, List.getElem_cons_succ, List.setIfInBounds_toArray, List.set_cons_zero, List.set_cons_succ]
    refine wpAnyU_take (i := 3) (v := .agg (arrB key)) rfl (by kernel_rfl) (by kernel_rfl) (by kernel_rfl) (by kernel_rfl) (by kernel_rfl) (fun _ _ _ h => h) (yieldsIf_load_mid (by rfl) 22 _ rfl J 2 rfl (key.map B) _ (fun W hS => hS.1) Tryz.underlying22 rfl (by rw [List.length_map, hk]; exact size_b32)) hS0 ?_
    try simp only [Act.put, List.getElem_toArray, List.getElem_cons_zero, List.getElem_cons_succ, List.setIfInBounds_toArray, List.set_cons_zero, List.set_cons_succ]
    refine wpAnyU_takeP (i := 4) (v := .int .u64 n) rfl (by kernel_rfl) (by kernel_rfl) (by kernel_rfl) (by decide) (fun _ _ _ h => h) (Or.inl ⟨by rfl, fun W => by go_simp⟩) (fun _ => hS0) ?_
    try simp only [Act.put, List.getElem_toArray, List.getElem_cons_zero, List.getElem_cons_succ, List.setIfInBounds_toArray, List.set_cons_zero, List.set_cons_succ]
    refine wpAnyU_takeP (i := 5) (v := .pointer (some ⟨J, 0, none⟩)) rfl (by kernel_rfl) (by kernel_rfl) (by kernel_rfl) (by decide) (fun _ _ _ h => h) (Or.inl ⟨by rfl, fun W => by go_simp⟩) (fun _ => hS0) ?_
    try simp only [Act.put, List.getElem_toArray, List.getElem_cons_zero, List.getElem_cons_succ, List.setIfInBounds_toArray, List.set_cons_zero, List.set_cons_succ]
    refine wpAnyU_takeP (i := 6) (v := .pointer (some ⟨J, 0, none⟩)) rfl (by kernel_rfl) (by kernel_rfl) (by kernel_rfl) (by decide) (fun _ _ _ h => h) (Or.inl ⟨by rfl, fun W => by go_simp⟩) (fun _ => hS0) ?_
    try simp only [Act.put, List.getElem_toArray, List.getElem_cons_zero, List.getElem_cons_succ, List.setIfInBounds_toArray, List.set_cons_zero, List.set_cons_succ]
    refine wpAnyU_takeP (i := 7) (v := .pointer (some ⟨J, 34, none⟩)) rfl (by kernel_rfl) (by kernel_rfl) (by kernel_rfl) (by decide) (fun _ _ _ h => h) (Or.inl ⟨by rfl, fun W => by go_simp⟩) (fun _ => hS0) ?_
    try simp only [Act.put, List.getElem_toArray, List.getElem_cons_zero, List.getElem_cons_succ, List.setIfInBounds_toArray, List.set_cons_zero, List.set_cons_succ]
    refine wpAnyU_take (i := 8) (v := .int .u64 ep) rfl (by kernel_rfl) (by kernel_rfl) (by kernel_rfl) (by kernel_rfl) (by kernel_rfl) (fun _ _ _ h => h) (Or.inl ⟨by rfl, fun W hS => by obtain ⟨_, s2⟩ := hS; go_simp⟩) hS0 ?_
    try simp only [Act.put, List.getElem_toArray, List.getElem_cons_zero, List.getElem_cons_succ, List.setIfInBounds_toArray, List.set_cons_zero, List.set_cons_succ]
    refine wpAnyU_takeP (i := 9) (v := .int .i64 ep) rfl (by kernel_rfl) (by kernel_rfl) (by kernel_rfl) (by decide) (fun _ _ _ h => h) (Or.inl ⟨by rfl, fun W => by go_simp⟩) (fun _ => hS0) ?_
    try simp only [Act.put, List.getElem_toArray, List.getElem_cons_zero, List.getElem_cons_succ, List.setIfInBounds_toArray, List.set_cons_zero, List.set_cons_succ]
    have hz9 : W1.drew.heap.size = H + 2 := hz
    obtain ⟨V0, hV0⟩ : ∃ V, W1.drew = V := ⟨_, rfl⟩
    change wpAnyU _ _ _ _ _ _ _ _ _ W1.drew
    rw [hV0] at hSm hz9 mD ⊢
    clear hS0 hV0 j2 j34
    refine wpAnyU_two 10 12 _ _ (by kernel_rfl) rfl rfl (fun K hK => ?_) (fun K hK => ?_)
    · go_simp
      refine (hno V0).mono ?_
      rintro e V1 ⟨rfl, m1⟩
      go_wp2_with fail
      refine hK.out _ _ (fun _ => hSm V1 m1) ?_
      clear hK K
      try simp only [Act.put, List.getElem_toArray, List.getElem_cons_zero, List.getElem_cons_succ, List.setIfInBounds_toArray, List.set_cons_zero, List.set_cons_succ]
      refine wpAnyU_takeP (i := 11) (v := .agg (key.map B ++ nc.map B).toArray) rfl (by kernel_rfl) (by kernel_rfl) (by kernel_rfl) (by decide) (fun _ _ _ h => h) (Or.inl ⟨by rfl, fun W => exec_build2 142 0 1 (.tmp 17) (.tmp 24) _ _ rfl rfl rfl _ hbu W⟩) (fun _ => hSm V1 m1) ?_
      try simp only [Act.put, List.getElem_toArray, List.getElem_cons_zero, List.getElem_cons_succ, List.setIfInBounds_toArray, List.set_cons_zero, List.set_cons_succ]
      refine wpAnyU_one 12 _ (by kernel_rfl) rfl (fun K hK => ?_)
      go_simp
      have ma := m1.alloc (.cells (List.replicate 44 (Value.int .u8 0)).toArray 142)
      refine hK.out _ _ (fun _ => hSm _ ma) ?_
      clear hK K
      change wpAnyU _ _ _ _ _ _ _ _ _ (V1.alloc (.cells (List.replicate 44 (Value.int .u8 0)).toArray 142))
      try simp only [Act.put, List.getElem_toArray, List.getElem_cons_zero, List.getElem_cons_succ, List.setIfInBounds_toArray, List.set_cons_zero, List.set_cons_succ]
      refine wpAnyU_last (by kernel_rfl) (by simp) ?_
      refine wpAny_tail _ 13 _ _ _ (by kernel_rfl) ?_
      simp only [List.drop_succ_cons, List.drop_zero]
      obtain ⟨g9, hg9⟩ : ∃ g, V1.heap.size = g := ⟨_, rfl⟩
      rw [hg9]
      have hcs : ((key.map B ++ nc.map B).toArray).size = 44 := by simp [hk, hnl]
      have h1c : ((key.map B ++ nc.map B).toArray).all (·.oneCell') = true := all_oneCell_toArray (fun v hv => by rcases List.mem_append.1 hv with h | h; exact bytes_one _ v h; exact bytes_one _ v h)
      have cz : CellsAt (V1.alloc (.cells (List.replicate 44 (Value.int .u8 0)).toArray 142)) g9 (List.replicate 44 (Value.int .u8 0)).toArray 142 := new_at hg9.symm
      have m9 : Mod W1 (V1.alloc (.cells (List.replicate 44 (Value.int .u8 0)).toArray 142)) Nob := mD.trans ma
      have hg : H + 2 ≤ g9 := by rw [← hg9]; have := m1.size; omega
      go_wp2_with (refine wpList_store_arr rfl 142 _ _ rfl g9 44 (key.map B ++ nc.map B).toArray (List.replicate 44 (Value.int .u8 0)).toArray rfl rfl cz (by kernel_rfl) hcs (by simp) h1c ?_)
      go_meet
      exact ⟨g9, rfl, hg, by rw [hnc]; exact cz.setRow _, m9.setRow (.inr (by omega)) _⟩
    · go_simp
      have ma := (Mod.refl V0 Nob).alloc (.cells (List.replicate 44 (Value.int .u8 0)).toArray 142)
      have cz0 := CellsAt.new V0 (List.replicate 44 (Value.int .u8 0)).toArray 142
      refine hK.out _ _ (fun _ => hSm _ ma) ?_
      clear hK K
      try simp only [Act.put, List.getElem_toArray, List.getElem_cons_zero, List.getElem_cons_succ, List.setIfInBounds_toArray, List.set_cons_zero, List.set_cons_succ]
      change wpAnyU _ _ _ _ _ _ _ _ _ (V0.alloc (.cells (List.replicate 44 (Value.int .u8 0)).toArray 142))
      obtain ⟨V1, hV1⟩ : ∃ V, V0.alloc (.cells (List.replicate 44 (Value.int .u8 0)).toArray 142) = V := ⟨_, rfl⟩
      rw [hV1] at ma cz0 ⊢
      clear hV1
      refine wpAnyU_one 10 _ (by kernel_rfl) rfl (fun K hK => ?_)
      go_simp
      refine (hno V1).mono ?_
      rintro e V2 ⟨rfl, m1⟩
      go_wp2_with fail
      refine hK.out _ _ (fun _ => hSm V2 (ma.trans m1)) ?_
      clear hK K
      try simp only [Act.put, List.getElem_toArray, List.getElem_cons_zero, List.getElem_cons_succ, List.setIfInBounds_toArray, List.set_cons_zero, List.set_cons_succ]
      refine wpAnyU_takeP (i := 11) (v := .agg (key.map B ++ nc.map B).toArray) rfl (by kernel_rfl) (by kernel_rfl) (by kernel_rfl) (by decide) (fun _ _ _ h => h) (Or.inl ⟨by rfl, fun W => exec_build2 142 0 1 (.tmp 17) (.tmp 24) _ _ rfl rfl rfl _ hbu W⟩) (fun _ => hSm V2 (ma.trans m1)) ?_
      try simp only [Act.put, List.getElem_toArray, List.getElem_cons_zero, List.getElem_cons_succ, List.setIfInBounds_toArray, List.set_cons_zero, List.set_cons_succ]
      refine wpAnyU_last (by kernel_rfl) (by simp) ?_
      refine wpAny_tail _ 13 _ _ _ (by kernel_rfl) ?_
      simp only [List.drop_succ_cons, List.drop_zero]
      obtain ⟨g9, hg9⟩ : ∃ g, H + 2 = g := ⟨_, rfl⟩
      rw [hg9]
      have hcs : ((key.map B ++ nc.map B).toArray).size = 44 := by simp [hk, hnl]
      have h1c : ((key.map B ++ nc.map B).toArray).all (·.oneCell') = true := all_oneCell_toArray (fun v hv => by rcases List.mem_append.1 hv with h | h; exact bytes_one _ v h; exact bytes_one _ v h)
      have cz : CellsAt V2 g9 (List.replicate 44 (Value.int .u8 0)).toArray 142 := by rw [← hg9, ← hz9]; exact cz0.mod m1 nob
      have m9 : Mod W1 V2 Nob := (mD.trans ma).trans m1
      have hg : H + 2 ≤ g9 := by rw [← hg9]; omega
      go_wp2_with (refine wpList_store_arr rfl 142 _ _ rfl g9 44 (key.map B ++ nc.map B).toArray (List.replicate 44 (Value.int .u8 0)).toArray rfl rfl cz (by kernel_rfl) hcs (by simp) h1c ?_)
      go_meet
      exact ⟨g9, rfl, hg, by rw [hnc]; exact cz.setRow _, m9.setRow (.inr (by omega)) _⟩
  case rest =>
    obtain ⟨g9, rfl, hg9, cU, mU⟩ := hcut
    have hnl := nonceL_length n ep
    have hmw := m0.trans mU
    have hzx := mU.size
    have cE1 := cE.mod mU nob
    have cY1 := cY.mod mU nob
    have hu1 : wc.rangeAt g9 0 (key.map B ++ (nonceL n ep).map B) := fun j v hv => by rw [Nat.zero_add, CellsAt.cell cU j]; simpa using hv
    have hul : (key.map B ++ (nonceL n ep).map B).length = 44 := by simp [hk, hnl]
    have hyl : (CellsAt wc (H + 1) #[.nilFunc, .nilFunc] 89) := cY1
    have y0 := cY1.cell 0
    have y1 := cY1.cell 1
    simp at y0 y1
    clear cY cE m0
    go_wp2_with (refine wpList_load_mid rfl 142 _ rfl g9 0 rfl (key.map B ++ (nonceL n ep).map B) _ hu1 Tryz.underlying142 rfl (by rw [hul]; kernel_rfl) ?_)
    change Calls _ _ #[eyes0, .agg (key.map B ++ (nonceL n ep).map B).toArray] wc _
    refine (noteSeal_any _ wc).mono ?_
    rintro e W2 ⟨⟨v, rfl⟩, m2⟩
    obtain ⟨j2, j34, j36⟩ := hJn W2 (hmw.trans m2)
    have mX := (Mod.refl W2 Nob).alloc (.cells #[.int .u64 ep, .int .u64 n] 29)
    have cX := CellsAt.new W2 #[.int .u64 ep, .int .u64 n] 29
    have hrow : RowIn (W2.alloc (.cells #[.int .u64 ep, .int .u64 n] 29)) (.slice (some ⟨W2.heap.size, 0, none⟩) 2 2) ([ep, n].map U64) :=
      .inl (.inr ⟨_, 0, 2, rfl, cX.lt, Nat.le_refl _, by unfold maxLen; omega, fun j u hu => by rw [Nat.zero_add, cX.cell j]; simpa [U64] using hu⟩)
    have hei := eights_any _ [ep, n] _ hrow (by simp)
    clear hu1 hul hyl y0 y1 cX hrow
    go_wp2_with fail
    refine hei.mono ?_
    rintro e W3 ⟨ha, hc, he, hown, m3⟩
    obtain rfl : e = .returned (.slice ha 16 hc) := he
    change W3.ownsRow _ 5 1 (.slice ha 16 hc) 16 ((headL ep n).map B) at hown
    have hzX : (W2.alloc (.cells #[.int .u64 ep, .int .u64 n] 29)).heap.size = W2.heap.size + 1 := by simp
    rw [hzX] at hown
    have mm := (m2.trans mX).trans m3
    have hzm := mm.size
    have cE3 := cE1.mod mm nob
    have cU3 := CellsAt.mod cU mm nob
    have hmw3 := hmw.trans mm
    have hz2' := m2.size
    replace hown := owns_down (b' := H) hown (by omega)
    clear hei mX m2 m3 hzX j2 j34 j36 cE1 cY1 mm
    go_wp2_with fail
    have mD := (Mod.refl W3 Nob).drew
    have hS0 := cE3.mod mD nob
    replace hmw3 := hmw3.trans mD
    have hz4 : W3.drew.heap.size = W3.heap.size := rfl
    replace hown := owns_mod hown mD (fun _ _ => nob)
    replace cU3 := CellsAt.mod cU3 mD nob
    refine wp_no_panic ?_
    refine wp_region_U (S := fun W => CellsAt W H #[.int .i64 kd, .int .i64 tk, .int .u64 at', .int .i64 st] 38) 18 (by kernel_rfl) ?_
    change wpAnyU _ _ _ _ _ _ _ _ _ W3.drew
    obtain ⟨V0, hV0⟩ : ∃ V, W3.drew = V := ⟨_, rfl⟩
    rw [hV0] at hS0 hmw3 hz4 hown cU3 ⊢
    have HZ4 := Box.mk hz4
    clear hV0 cE3 mD hz4
    refine wpAnyU_takeP (i := 0) (v := .pointer (some ⟨H, 0, none⟩)) rfl (by kernel_rfl) (by kernel_rfl) (by kernel_rfl) (by decide) (fun _ _ _ h => h) (Or.inl ⟨by rfl, fun W => by go_simp⟩) (fun _ => hS0) ?_
    try simp only [Act.put, List.getElem_toArray, List.getElem_cons_zero, List.getElem_cons_succ, List.setIfInBounds_toArray, List.set_cons_zero, List.set_cons_succ]
    refine wpAnyU_take (i := 1) (v := .int .i64 kd) rfl (by kernel_rfl) (by kernel_rfl) (by kernel_rfl) (by kernel_rfl) (by kernel_rfl) (fun _ _ _ h => h) (Or.inl ⟨by rfl, fun W hS => by have x := hS.cell 0; simp at x; go_simp⟩) hS0 ?_
    try simp only [Act.put, List.getElem_toArray, List.getElem_cons_zero, List.getElem_cons_succ, List.setIfInBounds_toArray, List.set_cons_zero, List.set_cons_succ]
    refine wpAnyU_takeP (i := 2) (v := .int .u64 (toU kd)) rfl (by kernel_rfl) (by kernel_rfl) (by kernel_rfl) (by decide) (fun _ _ _ h => h) (Or.inl ⟨by rfl, fun W => by go_simp⟩) (fun _ => hS0) ?_
    try simp only [Act.put, List.getElem_toArray, List.getElem_cons_zero, List.getElem_cons_succ, List.setIfInBounds_toArray, List.set_cons_zero, List.set_cons_succ]
    refine wpAnyU_takeP (i := 3) (v := .pointer (some ⟨H, 1, none⟩)) rfl (by kernel_rfl) (by kernel_rfl) (by kernel_rfl) (by decide) (fun _ _ _ h => h) (Or.inl ⟨by rfl, fun W => by go_simp⟩) (fun _ => hS0) ?_
    try simp only [Act.put, List.getElem_toArray, List.getElem_cons_zero, List.getElem_cons_succ, List.setIfInBounds_toArray, List.set_cons_zero, List.set_cons_succ]
    refine wpAnyU_take (i := 4) (v := .int .i64 tk) rfl (by kernel_rfl) (by kernel_rfl) (by kernel_rfl) (by kernel_rfl) (by kernel_rfl) (fun _ _ _ h => h) (Or.inl ⟨by rfl, fun W hS => by have x := hS.cell 1; simp at x; go_simp⟩) hS0 ?_
    try simp only [Act.put, List.getElem_toArray, List.getElem_cons_zero, List.getElem_cons_succ, List.setIfInBounds_toArray, List.set_cons_zero, List.set_cons_succ]
    refine wpAnyU_takeP (i := 5) (v := .int .u64 (toU tk)) rfl (by kernel_rfl) (by kernel_rfl) (by kernel_rfl) (by decide) (fun _ _ _ h => h) (Or.inl ⟨by rfl, fun W => by go_simp⟩) (fun _ => hS0) ?_
    try simp only [Act.put, List.getElem_toArray, List.getElem_cons_zero, List.getElem_cons_succ, List.setIfInBounds_toArray, List.set_cons_zero, List.set_cons_succ]
    refine wpAnyU_takeP (i := 6) (v := .pointer (some ⟨H, 2, none⟩)) rfl (by kernel_rfl) (by kernel_rfl) (by kernel_rfl) (by decide) (fun _ _ _ h => h) (Or.inl ⟨by rfl, fun W => by go_simp⟩) (fun _ => hS0) ?_
    try simp only [Act.put, List.getElem_toArray, List.getElem_cons_zero, List.getElem_cons_succ, List.setIfInBounds_toArray, List.set_cons_zero, List.set_cons_succ]
    refine wpAnyU_take (i := 7) (v := .int .u64 at') rfl (by kernel_rfl) (by kernel_rfl) (by kernel_rfl) (by kernel_rfl) (by kernel_rfl) (fun _ _ _ h => h) (Or.inl ⟨by rfl, fun W hS => by have x := hS.cell 2; simp at x; go_simp⟩) hS0 ?_
    try simp only [Act.put, List.getElem_toArray, List.getElem_cons_zero, List.getElem_cons_succ, List.setIfInBounds_toArray, List.set_cons_zero, List.set_cons_succ]
    refine wpAnyU_takeP (i := 8) (v := .pointer (some ⟨H, 3, none⟩)) rfl (by kernel_rfl) (by kernel_rfl) (by kernel_rfl) (by decide) (fun _ _ _ h => h) (Or.inl ⟨by rfl, fun W => by go_simp⟩) (fun _ => hS0) ?_
    try simp only [Act.put, List.getElem_toArray, List.getElem_cons_zero, List.getElem_cons_succ, List.setIfInBounds_toArray, List.set_cons_zero, List.set_cons_succ]
    refine wpAnyU_take (i := 9) (v := .int .i64 st) rfl (by kernel_rfl) (by kernel_rfl) (by kernel_rfl) (by kernel_rfl) (by kernel_rfl) (fun _ _ _ h => h) (Or.inl ⟨by rfl, fun W hS => by have x := hS.cell 3; simp at x; go_simp⟩) hS0 ?_
    try simp only [Act.put, List.getElem_toArray, List.getElem_cons_zero, List.getElem_cons_succ, List.setIfInBounds_toArray, List.set_cons_zero, List.set_cons_succ]
    refine wpAnyU_takeP (i := 10) (v := .int .u64 (toU st)) rfl (by kernel_rfl) (by kernel_rfl) (by kernel_rfl) (by decide) (fun _ _ _ h => h) (Or.inl ⟨by rfl, fun W => by go_simp⟩) (fun _ => hS0) ?_
    try simp only [Act.put, List.getElem_toArray, List.getElem_cons_zero, List.getElem_cons_succ, List.setIfInBounds_toArray, List.set_cons_zero, List.set_cons_succ]
    refine wpAnyU_takeP (i := 13) (v := .pointer (some ⟨J, 0, none⟩)) rfl (by kernel_rfl) (by kernel_rfl) (by kernel_rfl) (by decide) (fun _ _ _ h => h) (Or.inl ⟨by rfl, fun W => by go_simp⟩) (fun _ => hS0) ?_
    try simp only [Act.put, List.getElem_toArray, List.getElem_cons_zero, List.getElem_cons_succ, List.setIfInBounds_toArray, List.set_cons_zero, List.set_cons_succ]
    refine wpAnyU_takeP (i := 14) (v := .pointer (some ⟨J, 0, none⟩)) rfl (by kernel_rfl) (by kernel_rfl) (by kernel_rfl) (by decide) (fun _ _ _ h => h) (Or.inl ⟨by rfl, fun W => by go_simp⟩) (fun _ => hS0) ?_
    try simp only [Act.put, List.getElem_toArray, List.getElem_cons_zero, List.getElem_cons_succ, List.setIfInBounds_toArray, List.set_cons_zero, List.set_cons_succ]
    refine wpAnyU_takeP (i := 15) (v := .pointer (some ⟨J, 36, none⟩)) rfl (by kernel_rfl) (by kernel_rfl) (by kernel_rfl) (by decide) (fun _ _ _ h => h) (Or.inl ⟨by rfl, fun W => by go_simp⟩) (fun _ => hS0) ?_
    try simp only [Act.put, List.getElem_toArray, List.getElem_cons_zero, List.getElem_cons_succ, List.setIfInBounds_toArray, List.set_cons_zero, List.set_cons_succ]
    refine wpAnyU_takeP (i := 16) (v := .slice (some ⟨J, 36, none⟩) 32 32) rfl (by kernel_rfl) (by kernel_rfl) (by kernel_rfl) (by decide) (fun _ _ _ h => h) (Or.inl ⟨by rfl, fun W => by go_simp⟩) (fun _ => hS0) ?_
    try simp only [Act.put, List.getElem_toArray, List.getElem_cons_zero, List.getElem_cons_succ, List.setIfInBounds_toArray, List.set_cons_zero, List.set_cons_succ]
    have mX := (Mod.refl V0 Nob).alloc (.cells #[.int .u64 (toU kd), .int .u64 (toU tk), .int .u64 at', .int .u64 (toU st)] 29)
    have cX := CellsAt.new V0 #[.int .u64 (toU kd), .int .u64 (toU tk), .int .u64 at', .int .u64 (toU st)] 29
    have hrow : RowIn (V0.alloc (.cells #[.int .u64 (toU kd), .int .u64 (toU tk), .int .u64 at', .int .u64 (toU st)] 29)) (.slice (some ⟨V0.heap.size, 0, none⟩) 4 4) ([toU kd, toU tk, at', toU st].map U64) :=
      .inl (.inr ⟨_, 0, 4, rfl, cX.lt, Nat.le_refl _, by unfold maxLen; omega, fun j u hu => by rw [Nat.zero_add, cX.cell j]; simpa [U64] using hu⟩)
    have hei := eights_any _ [toU kd, toU tk, at', toU st] _ hrow (by simp)
    clear cX hrow
    refine wpAnyU_one 11 _ (by kernel_rfl) rfl (fun K hK => ?_)
    go_simp
    refine hK.out _ _ (fun _ => hS0.mod mX nob) ?_
    clear hK K
    try simp only [Act.put, List.getElem_toArray, List.getElem_cons_zero, List.getElem_cons_succ, List.setIfInBounds_toArray, List.set_cons_zero, List.set_cons_succ]
    refine wpAnyU_one 12 _ (by kernel_rfl) rfl (fun K hK => ?_)
    go_simp
    refine hei.mono ?_
    rintro e V1 ⟨pa, pc, he, hownp, m5⟩
    obtain rfl : e = .returned (.slice pa 32 pc) := he
    change V1.ownsRow _ 5 1 (.slice pa 32 pc) 32 ((eightsL [toU kd, toU tk, at', toU st]).map B) at hownp
    have hzX : (V0.alloc (.cells #[.int .u64 (toU kd), .int .u64 (toU tk), .int .u64 at', .int .u64 (toU st)] 29)).heap.size = V0.heap.size + 1 := by simp
    rw [hzX] at hownp
    have mm := mX.trans m5
    have hS1 := hS0.mod mm nob
    go_wp2_with fail
    refine hK.out _ _ (fun _ => hS1) ?_
    clear hK K hei
    try simp only [Act.put, List.getElem_toArray, List.getElem_cons_zero, List.getElem_cons_succ, List.setIfInBounds_toArray, List.set_cons_zero, List.set_cons_succ]
    obtain ⟨j0, hj, hz0, hz1, hz2⟩ := info_parts info_u8
    have hmw4 := hmw3.trans mm
    obtain ⟨_, _, j36⟩ := hJn V1 hmw4
    have hbl : BytesAt V1 (.slice (some ⟨J, 36, none⟩) 32 32) last := by
      refine .inl (.inr ⟨J, 36, 32, by rw [List.length_map, hl], by have := hmw4.size; have := HH.out; omega, by rw [List.length_map, hl]; exact Nat.le_refl _, by unfold maxLen; omega, fun q u hq => j36 q u hq⟩)
    obtain ⟨v5, V2, hrun, hown5, hgr5, _, _⟩ := run_append_row (P := Tryz.prog) (w := V1) (V0.heap.size + 1) 40 40 5 j0 _ 1 Tryz.underlying40 hj hz0 hz1 hz2 rfl (.slice pa 32 pc) 32 _ hownp (.slice (some ⟨J, 36, none⟩) 32 32) (last.map B) hbl (bytes_one _) (by rw [List.length_map, hl]; unfold maxLen; omega) (by rw [List.length_map, hl]; omega) (by have := mm.size; have := hownp.lt; have := m5.size; omega)
    rw [← List.map_append, List.length_map, hl] at hown5
    change V2.ownsRow _ 5 1 v5 64 ((plainL ⟨kd, tk, at', st⟩ last).map B) at hown5
    have m6 : Mod V1 V2 (inBlock (.slice pa 32 pc)) := (Mod.refl V1 _).grown hgr5 (fun k hk => .inl hk)
    have hnot : ∀ k, k ≤ V0.heap.size → ¬ inBlock (.slice pa 32 pc) k := fun k hk hb => by have := (hownp.lt k hb).1; omega
    have hS2 := hS1.mod m6 (hnot H (by have := HZ4.out; omega))
    refine wpAnyU_one 17 _ (by kernel_rfl) rfl (fun K hK => ?_)
    rw [if_pos (by rfl)]
    refine wp_append_run (.tmp 48) (.tmp 52) 40 40 rfl _ _ rfl rfl _ _ hrun ?_
    refine hK.out _ _ (fun _ => hS2) ?_
    clear hK K hrun
    try simp only [Act.put, List.getElem_toArray, List.getElem_cons_zero, List.getElem_cons_succ, List.setIfInBounds_toArray, List.set_cons_zero, List.set_cons_succ]
    have g9lt := CellsAt.lt cU3
    have hown6 := owns_mod (owns_mod hown mm (fun _ _ => nob)) m6 (fun k hk => hnot k (by have := (hown.lt k hk).2; omega))
    have cU6 := CellsAt.mod (CellsAt.mod cU3 mm nob) m6 (hnot g9 (by omega))
    have hmw6 := hmw4.drop m6 (fun k hk => .inr (by have := (hownp.lt k hk).1; have := HZ4.out; have := HH.out; omega))
    obtain ⟨qa, qc, rfl, hqc, hqm⟩ := owns_form hown5
    have hz6 := hmw6.size
    have hbh : BytesAt V2 (.slice ha 16 hc) (headL ep n) := BytesAt.of_owns hown6
    have hbp : BytesAt V2 (.slice qa 64 qc) (plainL ⟨kd, tk, at', st⟩ last) := BytesAt.of_owns hown5
    have hhl := headL_length ep n
    have hpl := plainL_length ⟨kd, tk, at', st⟩ last hl
    have hse := seal_any key (nonceL n ep) (headL ep n) (plainL ⟨kd, tk, at', st⟩ last) (ha, 16, hc) (qa, 64, qc) V2 hk hnl hbh hbp (by omega) (by omega) (fun k hk => (hown6.lt k hk).2) (fun k hk => (hown5.lt k hk).2)
    dsimp only [scv] at hse
    rw [hpl] at hse
    have hen : Box (entryL key ep n ⟨kd, tk, at', st⟩ last = headL ep n ++ sealL key (nonceL n ep) (headL ep n) (plainL ⟨kd, tk, at', st⟩ last)) := ⟨rfl⟩
    have hsl := sealL_length key (nonceL n ep) (headL ep n) (plainL ⟨kd, tk, at', st⟩ last)
    rw [hpl] at hsl
    obtain ⟨nc, hnc⟩ : ∃ x, nonceL n ep = x := ⟨_, rfl⟩
    obtain ⟨hd, hhd⟩ : ∃ x, headL ep n = x := ⟨_, rfl⟩
    rw [hhd] at hown6 hse hen hsl hhl
    simp only [hnc] at cU6 hse hen hnl hsl ⊢
    obtain ⟨se, hss⟩ : ∃ x, sealL key nc hd (plainL ⟨kd, tk, at', st⟩ last) = x := ⟨_, rfl⟩
    rw [hss] at hse hen hsl
    have u1 : V2.rangeAt g9 0 (key.map B) := fun j v hv => by
      rw [Nat.zero_add, CellsAt.cell cU6 j]
      have hj := (List.getElem?_eq_some_iff.1 hv).1
      simp only [List.getElem?_toArray]
      rw [List.getElem?_append_left hj]
      exact hv
    have u2 : V2.rangeAt g9 32 (nc.map B) := fun j v hv => by
      rw [CellsAt.cell cU6]
      simp only [List.getElem?_toArray]
      rw [List.getElem?_append_right (by rw [List.length_map, hk]; omega), List.length_map, hk, Nat.add_sub_cancel_left]
      exact hv
    clear hS0 hS1 hS2 mX mm m5 m6 hown hownp hown5 hgr5 hbl j36 cU cU3 hmw3 hmw4 hnot hbh hbp hhd hnc hss hzX hmw mU
    refine wpAnyU_last (by kernel_rfl) (by simp) ?_
    refine wpAny_tail _ 18 _ _ _ (by kernel_rfl) ?_
    simp only [List.drop_succ_cons, List.drop_zero]
    go_wp2_with (first
      | (refine wpList_load_mid rfl 22 _ rfl g9 0 rfl (key.map B) _ u1 Tryz.underlying22 rfl (by rw [List.length_map, hk]; exact size_b32) ?_)
      | (refine wpList_load_mid rfl 47 _ rfl g9 32 rfl (nc.map B) _ u2 Tryz.underlying47 rfl (by rw [List.length_map, hnl]; exact size_b12) ?_))
    change Calls _ _ #[.agg (arrB key), .agg (arrB nc), _, _] _ _
    refine hse.mono ?_
    rintro e W6 ⟨v6, rfl, hown7, m7⟩
    change W6.ownsRow _ 5 1 v6 80 _ at hown7
    obtain ⟨ra, rc, rfl, _, _⟩ := owns_form hown7
    have hown8 := owns_mod hown6 m7 (fun _ _ => nob)
    have hb7 : BytesAt W6 (.slice ra 80 rc) se := BytesAt.of_owns hown7
    have hmw7 := hmw6.trans m7
    have hz7 := hmw7.size
    have hZH := HH.out
    clear hse u1 u2 hown6 hown7 m7 cU6 hmw6
    go_wp2_with (at_builtin; refine wpList_append_row _ rfl _ _ 40 rfl H 5 j0 _ 1 Tryz.underlying40 hj hz0 hz1 hz2 rfl _ _ _ rfl hown8 _ (se.map B) rfl hb7 (bytes_one _) (by rw [List.length_map, hsl]; unfold maxLen; omega) (by rw [List.length_map, hsl]; omega) (by omega) ?_)
    intro v8 W8 hown9 hgr9 _ _
    rw [← List.map_append, ← hen.out] at hown9
    change W8.ownsRow H 5 1 v8 96 _ at hown9
    obtain ⟨fa, fc, rfl, _, _⟩ := owns_form hown9
    have hmf := hmw7.grown hgr9 (fun k hk => .inr (by have := (hown8.lt k hk).1; omega))
    clear hown8 hb7 hgr9 hj hz0 hz1 hz2
    go_wp2_with fail
    exact bodyPost_ret (v := .slice fa 96 fc) (by simp [results, Tryz.f56, go_sem]) rfl ⟨fa, fc, rfl, by rw [hZH]; exact hown9, hmf⟩

end Go.Proofs.YtaeociedjdgdfaaGreatDoor

namespace Go.Proofs.YtaeociedjdgdfaaGreatDoor
open Go.RowKit Go.Shelf
set_option linter.unusedSimpArgs false
attribute [local go_sem] Oper.semAt_some

/-- A number and bytes. -/
abbrev NB := Nat × Sc
def nbv (x : NB) : Array Value := #[.int .u64 x.1, scv x.2]
/-- What a round yields. -/
def EntIs (σ : Sto) (lim : Nat) (pre : List NB) (x : NB) (W : World) : Prop :=
  x.1 = pre.length + 1 ∧ BytesAt W (scv x.2) ((σ.shows (nameS (pre.length + 1))).getD []) ∧ ∀ k, inBlock (scv x.2) k → lim ≤ k ∧ IsB W k
/-- What a round keeps: some blocks, and the journal's first cell. -/
structure KM (F : Nat → Prop) (J : Nat) (A B : World) : Prop where
  md : ∃ S, Mod A B S ∧ ∀ k, S k → ¬ F k
  cell : ∀ v, A.cell? ⟨J, 0, none⟩ = some v → B.cell? ⟨J, 0, none⟩ = some v
theorem KM.trans {F : Nat → Prop} {J : Nat} {A B C : World} (h : KM F J A B) (k : KM F J B C) : KM F J A C := by
  obtain ⟨⟨S, h1, h2⟩, h3⟩ := h
  obtain ⟨⟨T, k1, k2⟩, k3⟩ := k
  refine ⟨⟨fun k => S k ∨ T k, (h1.wide (fun _ h => .inl (.inl h))).trans (k1.wide (fun _ h => .inl (.inr h))), fun k hk => hk.elim (h2 k) (k2 k)⟩, fun v hv => k3 v (h3 v hv)⟩
theorem KM.of_mod {F : Nat → Prop} {J : Nat} {A B : World} {S : Nat → Prop} (h : Mod A B S) (hF : ∀ k, S k → ¬ F k) (hJ : ¬ S J) : KM F J A B :=
  ⟨⟨S, h, hF⟩, fun v hv => by
    have hb := h.block J (cell_lt hv) hJ
    unfold World.cell? at hv ⊢
    simpa [hb] using hv⟩
theorem KM.put {F : Nat → Prop} {J B : Nat} (hF : ∀ k, F k → k < B) (W : World) (l : Nat) (o o' : Obj) (hl : B ≤ l) (ho : W.heap[l]? = some o) (hc : o.isCells = false) : KM F J W (W.putObj l o') := by
  refine ⟨⟨(· = l), (Mod.refl W (· = l)).putObj (.inl rfl) o', fun k (hk : k = l) h => by have := hF k h; omega⟩, fun v hv => ?_⟩
  have hne : l ≠ J := fun e => by
    subst e
    obtain ⟨ob, h1, h2⟩ := cell_cells hv
    rw [ho] at h1
    cases h1
    rw [hc] at h2
    cases h2
  have hb : (W.putObj l o').heap[J]? = W.heap[J]? := World.putObj_heap_other (by omega)
  unfold World.cell? at hv ⊢
  simp only [hb]
  exact hv

set_option maxRecDepth 100000 in
set_option maxHeartbeats 400000 in
theorem stored_any (J : Nat) (w : World) : Calls Tryz.prog 53 #[.pointer (some ⟨J, 0, none⟩), eyes0] w fun e w' => e = .returned (.func (.func 75) #[] #[.pointer (some ⟨w.heap.size, 0, none⟩), .pointer (some ⟨w.heap.size + 1, 0, none⟩)]) ∧
    w' = (w.alloc (.cells #[.pointer (some ⟨J, 0, none⟩)] 33)).alloc (.cells #[.nilFunc, .nilFunc] 89) := by
  unfold eyes0
  go_enter Tryz.func53, Tryz.ntmps53
  go_wp2_with fail
  go_ret
  exact ⟨rfl, rfl⟩

set_option maxRecDepth 100000 in
set_option maxHeartbeats 4000000 in
theorem stored_in (n : Nat) (hn : 1 ≤ n) (l Bs Jb b N lim : Nat) (σ : Sto) (x : StoB) (hN99 : N ≤ 98) (J Jx : List NB → World → Prop) (W : World) (hlim : lim ≤ W.heap.size) (hsh : σ.short) (hJa : AbidesFrom W.heap.size J) (hN : ∀ pre W1, J pre W1 → pre.length < N)
    (hY : ∀ pre y W, J pre W → EntIs σ lim pre y W → pre.length < N → YieldAt Fence.wide (n - 1) Tryz.prog l (nbv y) W fun e W' => (e = .returned (.bool true) ∧ J (pre ++ [y]) W' ∧ KM (fun k => x.foot b k ∨ k = Bs ∨ k = Bs + 1) Jb W W') ∨ (e = .returned (.bool false) ∧ Jx (pre ++ [y]) W'))
    (h1 : CellsAt W Bs #[.pointer (some ⟨Jb, 0, none⟩)] 33) (h2 : CellsAt W (Bs + 1) #[.nilFunc, .nilFunc] 89) (h3 : W.cell? ⟨Jb, 0, none⟩ = some (.pointer (some ⟨b, 0, none⟩))) (h4 : StoreAt W b σ x) (h0 : J [] W) :
    CallsIn Fence.wide n Tryz.prog 75 #[.func (.yield l) #[] #[], .pointer (some ⟨Bs, 0, none⟩), .pointer (some ⟨Bs + 1, 0, none⟩)] W fun e W' => (∃ v, e = .returned v) ∧ ∃ pre, Jx pre W' := by
  refine callsIn_of_wp Tryz.func75 rfl trivial ?_ rfl
  simp only [Tryz.ntmps75, List.size_toArray, List.length_cons, List.length_nil, Nat.reduceAdd, Nat.reduceSub, Array.replicate_succ, Array.replicate_zero, List.push_toArray, List.append_toArray, List.nil_append, List.cons_append]
  gi_wp2
  gi_loopg [4, 5, 6] N (fun k t _ _ wr => ∃ j : Nat, j + k = N ∧ t = .int .u64 ((j : Int) + 1) ∧ ∃ xs : List NB, xs.length = j ∧ J xs wr ∧ W.heap.size ≤ wr.heap.size ∧ CellsAt wr Bs #[.pointer (some ⟨Jb, 0, none⟩)] 33 ∧ CellsAt wr (Bs + 1) #[.nilFunc, .nilFunc] 89 ∧ wr.cell? ⟨Jb, 0, none⟩ = some (.pointer (some ⟨b, 0, none⟩)) ∧ StoreAt wr b σ x)
  case atStart => exact ⟨0, by omega, rfl, [], rfl, h0, Nat.le_refl _, h1, h2, h3, h4⟩
  case round =>
    clear h0 h1 h2 h3 h4
    obtain ⟨j, hj, rfl, xs, hxl, hJs, hsz, h1, h2, h3, h4⟩ := hrel
    have hlt := hN xs wr hJs
    have HJ := Lib.hid hj
    clear hj
    gi_wp2
    refine wpIn_wide.2 ?_
    refine wp_no_panic ?_
    have mD := (Mod.refl wr Nob).drew
    have h1d := h1.mod mD nob
    have h2d := h2.mod mD nob
    have h4d := h4.mod mD (fun k h => h.elim)
    have hS0 : CellsAt wr.drew Bs #[.pointer (some ⟨Jb, 0, none⟩)] 33 ∧ wr.drew.cell? ⟨Jb, 0, none⟩ = some (.pointer (some ⟨b, 0, none⟩)) := ⟨h1d, h3⟩
    have hnm := fun W => name_any (j + 1) W (by omega)
    obtain ⟨nm, hnmS⟩ : ∃ y, nameS (j + 1) = y := ⟨_, rfl⟩
    rw [hnmS] at hnm
    rw [show (((j + 1 : Nat) : Int)) = (j : Int) + 1 by omega] at hnm
    have hget := get_any b σ x nm wr.drew h4d hsh
    refine wp_region_U (S := fun W => CellsAt W Bs #[.pointer (some ⟨Jb, 0, none⟩)] 33 ∧ W.cell? ⟨Jb, 0, none⟩ = some (.pointer (some ⟨b, 0, none⟩))) 11 (by kernel_rfl) ?_
    refine wpAnyU_take (i := 0) (v := .pointer (some ⟨Jb, 0, none⟩)) rfl (by kernel_rfl) (by kernel_rfl) (by kernel_rfl) (by kernel_rfl) (by kernel_rfl) (fun _ _ _ h => h) (Or.inl ⟨by rfl, fun W hS => by have y := hS.1.cell 0; simp at y; go_simp⟩) hS0 ?_
    try simp only [Act.put, List.getElem_toArray, List.getElem_cons_zero, List.getElem_cons_succ, List.setIfInBounds_toArray, List.set_cons_zero, List.set_cons_succ]
    refine wpAnyU_takeP (i := 1) (v := .pointer (some ⟨Jb, 0, none⟩)) rfl (by kernel_rfl) (by kernel_rfl) (by kernel_rfl) (by decide) (fun _ _ _ h => h) (Or.inl ⟨by rfl, fun W => by go_simp⟩) (fun _ => hS0) ?_
    try simp only [Act.put, List.getElem_toArray, List.getElem_cons_zero, List.getElem_cons_succ, List.setIfInBounds_toArray, List.set_cons_zero, List.set_cons_succ]
    refine wpAnyU_takeP (i := 2) (v := .pointer (some ⟨Jb, 0, none⟩)) rfl (by kernel_rfl) (by kernel_rfl) (by kernel_rfl) (by decide) (fun _ _ _ h => h) (Or.inl ⟨by rfl, fun W => by go_simp⟩) (fun _ => hS0) ?_
    try simp only [Act.put, List.getElem_toArray, List.getElem_cons_zero, List.getElem_cons_succ, List.setIfInBounds_toArray, List.set_cons_zero, List.set_cons_succ]
    refine wpAnyU_take (i := 3) (v := .pointer (some ⟨b, 0, none⟩)) rfl (by kernel_rfl) (by kernel_rfl) (by kernel_rfl) (by kernel_rfl) (by kernel_rfl) (fun _ _ _ h => h) (Or.inl ⟨by rfl, fun W hS => by obtain ⟨_, y⟩ := hS; go_simp⟩) hS0 ?_
    try simp only [Act.put, List.getElem_toArray, List.getElem_cons_zero, List.getElem_cons_succ, List.setIfInBounds_toArray, List.set_cons_zero, List.set_cons_succ]
    refine wpAnyU_takeP (i := 4) (v := .int .u64 ((j : Int) + 1)) rfl (by kernel_rfl) (by kernel_rfl) (by kernel_rfl) (by decide) (fun _ _ _ h => h) (Or.inl ⟨by rfl, fun W => by go_simp⟩) (fun _ => hS0) ?_
    try simp only [Act.put, List.getElem_toArray, List.getElem_cons_zero, List.getElem_cons_succ, List.setIfInBounds_toArray, List.set_cons_zero, List.set_cons_succ]
    refine wpAnyU_one 5 _ (by kernel_rfl) rfl (fun K hK => ?_)
    go_simp
    refine (hnm _).mono ?_
    rintro e V ⟨rfl, rfl⟩
    go_wp2_with fail
    refine hK.out _ _ (fun _ => hS0) ?_
    clear hK K
    try simp only [Act.put, List.getElem_toArray, List.getElem_cons_zero, List.getElem_cons_succ, List.setIfInBounds_toArray, List.set_cons_zero, List.set_cons_succ]
    refine wpAnyU_one 6 _ (by kernel_rfl) rfl (fun K hK => ?_)
    go_simp
    refine hget.mono ?_
    rintro e V1 ⟨bv, rfl, hown, m1⟩
    obtain ⟨ba, bc, rfl, hbc, hbm⟩ := owns_form hown
    have hS1 : CellsAt V1 Bs #[.pointer (some ⟨Jb, 0, none⟩)] 33 ∧ V1.cell? ⟨Jb, 0, none⟩ = some (.pointer (some ⟨b, 0, none⟩)) := ⟨h1d.mod m1 nob, by
      have hb := m1.block Jb (cell_lt hS0.2) nob
      have := hS0.2
      unfold World.cell? at this ⊢
      simpa [hb] using this⟩
    have h2e := h2d.mod m1 nob
    have h4e := h4d.mod m1 (fun k h => h.elim)
    have hJ1 := hJa _ _ _ none hJs (grown_of_mod (mD.trans m1)) (fun r e => by cases e)
    have hz1 := (mD.trans m1).size
    obtain ⟨bl, hbl⟩ : ∃ y, (σ.shows nm).getD [] = y := ⟨_, rfl⟩
    rw [hbl] at hown hbc ⊢
    obtain ⟨L, hL⟩ : ∃ y, bl.length = y := ⟨_, rfl⟩
    rw [hL] at hown hbc ⊢
    obtain ⟨is, his⟩ : ∃ y, (σ.shows nm).isSome = y := ⟨_, rfl⟩
    rw [his]
    go_wp2_with fail
    refine hK.out _ _ (fun _ => hS1) ?_
    clear hK K hget
    try simp only [Act.put, List.getElem_toArray, List.getElem_cons_zero, List.getElem_cons_succ, List.setIfInBounds_toArray, List.set_cons_zero, List.set_cons_succ]
    refine wpAnyU_takeP (i := 7) (v := .tuple #[.slice ba L bc, .bool is]) rfl (by kernel_rfl) (by kernel_rfl) (by kernel_rfl) (by decide) (fun _ _ _ h => h) (Or.inl ⟨by rfl, fun W => by go_simp⟩) (fun _ => hS1) ?_
    try simp only [Act.put, List.getElem_toArray, List.getElem_cons_zero, List.getElem_cons_succ, List.setIfInBounds_toArray, List.set_cons_zero, List.set_cons_succ]
    refine wpAnyU_takeP (i := 8) (v := .slice ba L bc) rfl (by kernel_rfl) (by kernel_rfl) (by kernel_rfl) (by decide) (fun _ _ _ h => h) (Or.inl ⟨by rfl, fun W => by go_simp⟩) (fun _ => hS1) ?_
    try simp only [Act.put, List.getElem_toArray, List.getElem_cons_zero, List.getElem_cons_succ, List.setIfInBounds_toArray, List.set_cons_zero, List.set_cons_succ]
    refine wpAnyU_takeP (i := 9) (v := .bool is) rfl (by kernel_rfl) (by kernel_rfl) (by kernel_rfl) (by decide) (fun _ _ _ h => h) (Or.inl ⟨by rfl, fun W => by go_simp⟩) (fun _ => hS1) ?_
    try simp only [Act.put, List.getElem_toArray, List.getElem_cons_zero, List.getElem_cons_succ, List.setIfInBounds_toArray, List.set_cons_zero, List.set_cons_succ]
    refine wpAnyU_takeP (i := 10) (v := .slice ba L bc) rfl (by kernel_rfl) (by kernel_rfl) (by kernel_rfl) (by decide) (fun _ _ _ h => h) (Or.inl ⟨by rfl, fun W => by go_simp⟩) (fun _ => hS1) ?_
    try simp only [Act.put, List.getElem_toArray, List.getElem_cons_zero, List.getElem_cons_succ, List.setIfInBounds_toArray, List.set_cons_zero, List.set_cons_succ]
    refine wpAnyU_last (by kernel_rfl) (by simp) ?_
    refine wpAny_tail _ 11 _ _ _ (by kernel_rfl) ?_
    simp only [List.drop_succ_cons, List.drop_zero]
    clear hS0 h1d h2d h4d h1 h2 h3 h4 hJs mD m1
    obtain ⟨h1e, h3e⟩ := hS1
    cases is
    · go_wp2_with fail
      gi_wp2
      refine wpIn_wide.2 ?_
      refine wp_no_panic ?_
      have mE := (Mod.refl V1 Nob).drew
      have hS2 := h2e.mod mE nob
      refine wp_region_U (S := fun W => CellsAt W (Bs + 1) #[.nilFunc, .nilFunc] 89) 3 (by kernel_rfl) ?_
      refine wpAnyU_take (i := 0) (v := .agg #[.nilFunc, .nilFunc]) rfl (by kernel_rfl) (by kernel_rfl) (by kernel_rfl) (by kernel_rfl) (by kernel_rfl) (fun _ _ _ h => h) (Or.inl ⟨by rfl, fun W hS => by have y := hS.cell 0; have y2 := hS.cell 1; simp at y y2; go_simp⟩) hS2 ?_
      try simp only [Act.put, List.getElem_toArray, List.getElem_cons_zero, List.getElem_cons_succ, List.setIfInBounds_toArray, List.set_cons_zero, List.set_cons_succ]
      refine wpAnyU_takeP (i := 1) (v := .int .u64 ((j : Int) + 1)) rfl (by kernel_rfl) (by kernel_rfl) (by kernel_rfl) (by decide) (fun _ _ _ h => h) (Or.inl ⟨by rfl, fun W => by go_simp⟩) (fun _ => hS2) ?_
      try simp only [Act.put, List.getElem_toArray, List.getElem_cons_zero, List.getElem_cons_succ, List.setIfInBounds_toArray, List.set_cons_zero, List.set_cons_succ]
      refine wpAnyU_one 2 _ (by kernel_rfl) rfl (fun K hK => ?_)
      go_simp
      refine (hnm _).mono ?_
      rintro e V ⟨rfl, rfl⟩
      go_wp2_with fail
      refine hK.out _ _ (fun _ => hS2) ?_
      clear hK K
      try simp only [Act.put, List.getElem_toArray, List.getElem_cons_zero, List.getElem_cons_succ, List.setIfInBounds_toArray, List.set_cons_zero, List.set_cons_succ]
      refine wpAnyU_last (by kernel_rfl) (by simp) ?_
      refine wpAny_tail _ 3 _ _ _ (by kernel_rfl) ?_
      simp only [List.drop_succ_cons, List.drop_zero]
      go_wp2_with fail
      change Calls _ _ #[eyes0, _, _, _] V1.drew _
      refine (note_any _ nm _ V1.drew).mono ?_
      rintro e V2 ⟨⟨nv, rfl⟩, m2⟩
      have mF := mE.trans m2
      have b1 := h1e.mod mF nob
      have b2 := h2e.mod mF nob
      have b4 := h4e.mod mF (fun k h => h.elim)
      have b3 : V2.cell? ⟨Jb, 0, none⟩ = some (.pointer (some ⟨b, 0, none⟩)) := by
        have hb := mF.block Jb (cell_lt h3e) nob
        have := h3e
        unfold World.cell? at this ⊢
        simpa [hb] using this
      have hown2 := owns_mod hown mF (fun _ _ => nob)
      have hJ2 := hJa _ _ _ none hJ1 (grown_of_mod mF) (fun r e => by cases e)
      have hz2 := mF.size
      have hent : EntIs σ lim xs (j + 1, (ba, L, bc)) V2 := ⟨by rw [hxl], by rw [hxl, hnmS, hbl]; exact BytesAt.of_owns hown2, fun k hk => ⟨by have := (hown2.lt k hk).1; have h9 : wr.drew.heap.size = wr.heap.size := rfl; omega, own_isB hown2 k hk⟩⟩
      obtain ⟨fn, tmps, assign, body, hy, hR⟩ := hY xs (j + 1, (ba, L, bc)) V2 hJ2 hent hlt
      dsimp only [nbv, scv] at hy
      rw [show (((j + 1 : Nat) : Int)) = (j : Int) + 1 by omega] at hy
      have HXS : Hid ((xs ++ [((j + 1, (ba, L, bc)) : NB)]).length = j + 1) := by rw [List.length_append, hxl]; exact rfl
      have hadd : IntKind.u64.wrap ((j : Int) + 1 + 1) = (j : Int) + 1 + 1 := u64_wrap_id _ (by omega) (by omega)
      clear hS2 mE m2 mF h1e h2e h3e h4e hown hown2 hJ1 hJ2 hent hY hnm hbl hL
      go_wp2_with fail
      gi_wp2
      refine hR.mono ?_
      rintro e W3 (⟨rfl, hJ3, hk3⟩ | ⟨rfl, hJx3⟩)
      · obtain ⟨⟨S3, m3, hS3⟩, hc3⟩ := hk3
        have d1 := b1.mod m3 (fun h => hS3 _ h (.inr (.inl rfl)))
        have d2 := b2.mod m3 (fun h => hS3 _ h (.inr (.inr rfl)))
        have d4 := b4.mod m3 (fun k h h2 => hS3 k h (.inl h2))
        have d3 := hc3 _ b3
        have hz3 := m3.size
        clear hR hy b1 b2 b3 b4 m3 hS3 hc3
        gi_wp2
        go_roundg (gk - 1)
        case measure => have := HJ.out; omega
        case rel => exact ⟨j + 1, by have := HJ.out; omega, by congr 1, _, HXS.out, hJ3, by omega, d1, d2, d3, d4⟩
      · clear hR hy
        gi_wp2
        refine bodyPost_ret (results_none rfl _ _ _) rfl ?_
        exact ⟨⟨_, rfl⟩, _, hJx3⟩
    · go_wp2_with fail
      gi_wp2
      refine wpIn_wide.2 ?_
      refine wp_no_panic ?_
      have mE := (Mod.refl V1 Nob).drew
      have hS2 := h2e.mod mE nob
      refine wp_region_U (S := fun W => CellsAt W (Bs + 1) #[.nilFunc, .nilFunc] 89) 5 (by kernel_rfl) ?_
      refine wpAnyU_take (i := 0) (v := .agg #[.nilFunc, .nilFunc]) rfl (by kernel_rfl) (by kernel_rfl) (by kernel_rfl) (by kernel_rfl) (by kernel_rfl) (fun _ _ _ h => h) (Or.inl ⟨by rfl, fun W hS => by have y := hS.cell 0; have y2 := hS.cell 1; simp at y y2; go_simp⟩) hS2 ?_
      try simp only [Act.put, List.getElem_toArray, List.getElem_cons_zero, List.getElem_cons_succ, List.setIfInBounds_toArray, List.set_cons_zero, List.set_cons_succ]
      refine wpAnyU_takeP (i := 1) (v := .int .u64 ((j : Int) + 1)) rfl (by kernel_rfl) (by kernel_rfl) (by kernel_rfl) (by decide) (fun _ _ _ h => h) (Or.inl ⟨by rfl, fun W => by go_simp⟩) (fun _ => hS2) ?_
      try simp only [Act.put, List.getElem_toArray, List.getElem_cons_zero, List.getElem_cons_succ, List.setIfInBounds_toArray, List.set_cons_zero, List.set_cons_succ]
      refine wpAnyU_takeP (i := 3) (v := .slice ba L bc) rfl (by kernel_rfl) (by kernel_rfl) (by kernel_rfl) (by decide) (fun _ _ _ h => h) (Or.inl ⟨by rfl, fun W => by go_simp⟩) (fun _ => hS2) ?_
      try simp only [Act.put, List.getElem_toArray, List.getElem_cons_zero, List.getElem_cons_succ, List.setIfInBounds_toArray, List.set_cons_zero, List.set_cons_succ]
      refine wpAnyU_takeP (i := 4) (v := .int .i64 L) rfl (by kernel_rfl) (by kernel_rfl) (by kernel_rfl) (by decide) (fun _ _ _ h => h) (Or.inl ⟨by rfl, fun W => by go_simp⟩) (fun _ => hS2) ?_
      try simp only [Act.put, List.getElem_toArray, List.getElem_cons_zero, List.getElem_cons_succ, List.setIfInBounds_toArray, List.set_cons_zero, List.set_cons_succ]
      refine wpAnyU_one 2 _ (by kernel_rfl) rfl (fun K hK => ?_)
      go_simp
      refine (hnm _).mono ?_
      rintro e V ⟨rfl, rfl⟩
      go_wp2_with fail
      refine hK.out _ _ (fun _ => hS2) ?_
      clear hK K
      try simp only [Act.put, List.getElem_toArray, List.getElem_cons_zero, List.getElem_cons_succ, List.setIfInBounds_toArray, List.set_cons_zero, List.set_cons_succ]
      refine wpAnyU_last (by kernel_rfl) (by simp) ?_
      refine wpAny_tail _ 5 _ _ _ (by kernel_rfl) ?_
      simp only [List.drop_succ_cons, List.drop_zero]
      go_wp2_with fail
      change Calls _ _ #[eyes0, _, _, _] V1.drew _
      refine (note_any _ nm _ V1.drew).mono ?_
      rintro e V2 ⟨⟨nv, rfl⟩, m2⟩
      have mF := mE.trans m2
      have b1 := h1e.mod mF nob
      have b2 := h2e.mod mF nob
      have b4 := h4e.mod mF (fun k h => h.elim)
      have b3 : V2.cell? ⟨Jb, 0, none⟩ = some (.pointer (some ⟨b, 0, none⟩)) := by
        have hb := mF.block Jb (cell_lt h3e) nob
        have := h3e
        unfold World.cell? at this ⊢
        simpa [hb] using this
      have hown2 := owns_mod hown mF (fun _ _ => nob)
      have hJ2 := hJa _ _ _ none hJ1 (grown_of_mod mF) (fun r e => by cases e)
      have hz2 := mF.size
      have hent : EntIs σ lim xs (j + 1, (ba, L, bc)) V2 := ⟨by rw [hxl], by rw [hxl, hnmS, hbl]; exact BytesAt.of_owns hown2, fun k hk => ⟨by have := (hown2.lt k hk).1; have h9 : wr.drew.heap.size = wr.heap.size := rfl; omega, own_isB hown2 k hk⟩⟩
      obtain ⟨fn, tmps, assign, body, hy, hR⟩ := hY xs (j + 1, (ba, L, bc)) V2 hJ2 hent hlt
      dsimp only [nbv, scv] at hy
      rw [show (((j + 1 : Nat) : Int)) = (j : Int) + 1 by omega] at hy
      have HXS : Hid ((xs ++ [((j + 1, (ba, L, bc)) : NB)]).length = j + 1) := by rw [List.length_append, hxl]; exact rfl
      have hadd : IntKind.u64.wrap ((j : Int) + 1 + 1) = (j : Int) + 1 + 1 := u64_wrap_id _ (by omega) (by omega)
      clear hS2 mE m2 mF h1e h2e h3e h4e hown hown2 hJ1 hJ2 hent hY hnm hbl hL
      go_wp2_with fail
      gi_wp2
      refine hR.mono ?_
      rintro e W3 (⟨rfl, hJ3, hk3⟩ | ⟨rfl, hJx3⟩)
      · obtain ⟨⟨S3, m3, hS3⟩, hc3⟩ := hk3
        have d1 := b1.mod m3 (fun h => hS3 _ h (.inr (.inl rfl)))
        have d2 := b2.mod m3 (fun h => hS3 _ h (.inr (.inr rfl)))
        have d4 := b4.mod m3 (fun k h h2 => hS3 k h (.inl h2))
        have d3 := hc3 _ b3
        have hz3 := m3.size
        clear hR hy b1 b2 b3 b4 m3 hS3 hc3
        gi_wp2
        go_roundg (gk - 1)
        case measure => have := HJ.out; omega
        case rel => exact ⟨j + 1, by have := HJ.out; omega, by congr 1, _, HXS.out, hJ3, by omega, d1, d2, d3, d4⟩
      · clear hR hy
        gi_wp2
        refine bodyPost_ret (results_none rfl _ _ _) rfl ?_
        exact ⟨⟨_, rfl⟩, _, hJx3⟩

/-- journal.stored, as it is ranged over. -/
theorem stored_ever (n : Nat) (hn : 1 ≤ n) (Bs Jb b N : Nat) (σ : Sto) (x : StoB) (hN99 : N ≤ 98) (hsh : σ.short) (w : World)
    (h1 : CellsAt w Bs #[.pointer (some ⟨Jb, 0, none⟩)] 33) (h2 : CellsAt w (Bs + 1) #[.nilFunc, .nilFunc] 89) (h3 : w.cell? ⟨Jb, 0, none⟩ = some (.pointer (some ⟨b, 0, none⟩))) (h4 : StoreAt w b σ x) :
    SeqEver n Tryz.prog 75 #[.pointer (some ⟨Bs, 0, none⟩), .pointer (some ⟨Bs + 1, 0, none⟩)] nbv (KM (fun k => x.foot b k ∨ k = Bs ∨ k = Bs + 1) Jb) (EntIs σ w.heap.size) (fun _ => True) N w := fun l J Jx W hW hJ hJx hN hY h0 => by
  have hm : Mod w W (fun k => w.heap.size ≤ k) := ⟨hW.os, hW.tape, hW.output, hW.size, fun k hk _ => hW.block k hk⟩
  have hb := hW.block Jb (cell_lt h3)
  refine (stored_in n hn l Bs Jb b N w.heap.size σ x hN99 J Jx W hW.size hsh hJ hN hY ((hW.block Bs h1.lt).trans h1) ((hW.block (Bs + 1) h2.lt).trans h2) (by unfold World.cell? at h3 ⊢; simpa [hb] using h3) (h4.mod hm (fun k hk h => by have := h4.foot_lt k h; omega)) h0).mono ?_
  rintro e W' ⟨he, pre, hx⟩
  exact ⟨he, pre, trivial, hx⟩

end Go.Proofs.YtaeociedjdgdfaaGreatDoor

namespace Go.Proofs.YtaeociedjdgdfaaGreatDoor
open Go.RowKit Go.Shelf
set_option linter.unusedSimpArgs false

def ent0 : Ent := ⟨0, 0, 0, 0⟩
set_option maxRecDepth 100000 in
set_option maxHeartbeats 1000000 in
theorem opened_short (jv nv : Value) (a : Option Addr) (n c : Nat) (w : World) (hn : n ≠ 96) :
    Calls Tryz.prog 54 #[jv, nv, .slice a n c] w fun e w' => e = .returned (.tuple #[.agg ent0.cells.toArray, .int .u64 0, .bool false]) ∧ Mod w w' Nob := by
  have hne : ((n : Int) == 96) = false := by simp; omega
  have c0 := CellsAt.new w ent0.cells.toArray 38
  go_enter Tryz.func54, Tryz.ntmps54
  go_wp2_with fail
  have k0 := c0.cell 0
  have k1 := c0.cell 1
  have k2 := c0.cell 2
  have k3 := c0.cell 3
  simp [ent0, Ent.cells] at k0 k1 k2 k3
  refine bodyPost_ret (v := .tuple #[.agg #[.int .i64 0, .int .i64 0, .int .u64 0, .int .i64 0], .int .u64 0, .bool false]) (by simp [results, Tryz.f54, go_sem, k0, k1, k2, k3]) rfl ⟨rfl, (Mod.refl w Nob).alloc _⟩

end Go.Proofs.YtaeociedjdgdfaaGreatDoor

namespace Go.Proofs.YtaeociedjdgdfaaGreatDoor
open Go.RowKit Go.Shelf
set_option linter.unusedSimpArgs false
attribute [local go_sem] Oper.semAt_some

theorem exec_build4 {P : Program} {o : Oper} {a : Act} (t : TypeId) (i j k l : Nat) (x y z q : Operand) (u v s r : Value) (ho : o.op = .build t #[(i, x), (j, y), (k, z), (l, q)]) (hx : a.eval x = u) (hy : a.eval y = v) (hz : a.eval z = s) (hq : a.eval q = r) (cells : Array Value) (hb : P.built t [(i, u), (j, v), (k, s), (l, r)] = some cells) (w : World) :
    (execOp a.eval o).run P w = .ok (.value (.agg cells)) w := exec_build t _ ho cells (by simpa [hx, hy, hz, hq] using hb) w

section
variable {n : Nat} {P : Program} {Q : Exit → Act → World → Prop} {l0 : Nat}
/-- A drawn region in a round, of operations that leave the world as it is. -/
theorem wpIn_region_still_round {id : Nat} {a : Act} {w : World} {l : List Oper} (hm : P.follows .mixedOrders = true) (hd : l.all calmB = true) (hB : Region.lexB .any l.toArray = true) {K : Act → World → Prop} (hK : ∀ a w, K a w → Q .normal a w)
    (h : wpStill P l.toArray { w with drawn := w.drawn + 1 } (fun a' => K a' { w with drawn := w.drawn + 1 }) l a) : (Code.region id l.toArray true).wpIn (Fence.wide.inRound l0) n P Q a w := by
  refine wpIn_region_round hm hd hK ?_
  simp only [Region.lexB, Bool.and_eq_true] at hB
  refine wpAny_of_still (Q := fun a' => K a' { w with drawn := w.drawn + 1 }) (fun _ h => h) _ _ _ ?_
  have := wpAnyS_lex (md := .any) hB.1 l 0 (Array.replicate l.toArray.size false) a (by simp) (by simpa using hB.2) h
  simpa using this
end

/-- What stands while the journal begins. -/
structure BegAt (w : World) (H tb gp jb G ep : Nat) (jc : Array Value) (W : World) : Prop where
  t : CellsAt W H #[.pointer (some ⟨tb, 0, none⟩)] 26
  g : CellsAt W gp #[.pointer (some ⟨jb, 0, none⟩)] 33
  j : CellsAt W jb jc 92
  r : CellsAt W (H + 4) #[.pointer none] 33
  s : CellsAt W (H + 5) #[.int .i64 0] 30
  wr : CellsAt W G #[.int .u64 0] 29
  good : CellsAt W (G + 1) #[.bool true] 4
  τ : TruAt W tb ⟨ep, 0, 0⟩
  md : Mod w W Nob
  size : G + 4 ≤ W.heap.size
theorem BegAt.mod {w W W' : World} {H tb gp jb G ep : Nat} {jc : Array Value} (h : BegAt w H tb gp jb G ep jc W) (hm : Mod W W' Nob) : BegAt w H tb gp jb G ep jc W' :=
  ⟨h.t.mod hm nob, h.g.mod hm nob, h.j.mod hm nob, h.r.mod hm nob, h.s.mod hm nob, h.wr.mod hm nob, h.good.mod hm nob, h.τ.mod hm nob, h.md.trans hm, by have := hm.size; have := h.size; omega⟩
theorem BegAt.grown {w W W' : World} {H tb gp jb G ep : Nat} {jc : Array Value} {row : Option Nat} (h : BegAt w H tb gp jb G ep jc W) (hg : W.grownBy W' row) (hr : ∀ r, row = some r → ∃ o : Obj, W.heap[r]? = some o ∧ o.isCells = false) (hlo : ∀ r, row = some r → H ≤ r) (hH : w.heap.size = H) : BegAt w H tb gp jb G ep jc W' :=
  ⟨(grownBy_keeps_cells hg hr h.t rfl).trans h.t, (grownBy_keeps_cells hg hr h.g rfl).trans h.g, (grownBy_keeps_cells hg hr h.j rfl).trans h.j, (grownBy_keeps_cells hg hr h.r rfl).trans h.r, (grownBy_keeps_cells hg hr h.s rfl).trans h.s, (grownBy_keeps_cells hg hr h.wr rfl).trans h.wr, (grownBy_keeps_cells hg hr h.good rfl).trans h.good, (grownBy_keeps_cells hg hr (show CellsAt W tb _ _ from h.τ) rfl).trans h.τ, h.md.grown hg (fun k e => .inr (by have := hlo k e; omega)), by have := hg.size; have := h.size; omega⟩

set_option maxRecDepth 100000 in
set_option maxHeartbeats 8000000 in
theorem begin_empty (b tb : Nat) (σ : Sto) (x : StoB) (τ : Tru) (job : List UInt8) (w : World) (hσ : StoreAt w b σ x) (hsh : σ.short) (hno : σ.shows (nameS 1) = none) (hτ : TruAt w tb τ) (h0 : τ.cnt = 0) (hw0 : τ.wr = 0) (he : 0 < τ.ep) (h60 : τ.ep < 1073741824) (hj : job.length = 32) :
    Calls Tryz.prog 31 #[.pointer (some ⟨b, 0, none⟩), .pointer (some ⟨tb, 0, none⟩), .agg (arrB job), .int .u64 τ.ep, eyes0] w fun r w' => ∃ J, r = .returned (.tuple #[.pointer (some ⟨J, 0, none⟩), .int .i64 0]) ∧ w.heap.size ≤ J ∧
      CellsAt w' J (jcells (.pointer (some ⟨b, 0, none⟩)) (.pointer (some ⟨tb, 0, none⟩)) (journalK job) τ.ep (.slice none 0 0) zl32 zl32 false ent0).toArray 92 ∧ Mod w w' Nob := by
  obtain ⟨ep, cnt, wr⟩ := τ
  obtain rfl : cnt = 0 := h0
  obtain rfl : wr = 0 := hw0
  unfold eyes0
  have m0 := ((((((Mod.refl w Nob).alloc (.cells #[.pointer (some ⟨tb, 0, none⟩)] 26)).alloc (.cells (arrB job) 22)).alloc (.cells #[.int .u64 ep] 29)).alloc (.cells #[.nilFunc, .nilFunc] 89)).alloc (.cells #[.pointer none] 33)).alloc (.cells #[.int .i64 0] 30)
  refine (callsIn_wide (n := 6)).1 ?_
  refine callsIn_of_wp_marks Tryz.func31 rfl trivial ?_ rfl
  simp only [Tryz.ntmps31, List.size_toArray, List.length_cons, List.length_nil, Nat.reduceAdd, Nat.reduceSub, Array.replicate_succ, Array.replicate_zero, List.push_toArray, List.append_toArray, List.nil_append, List.cons_append]
  refine wpIn_wide.2 ?_
  go_wp2_with fail
  have cT := (((((CellsAt.new w #[.pointer (some ⟨tb, 0, none⟩)] 26).alloc (.cells (arrB job) 22)).alloc (.cells #[.int .u64 ep] 29)).alloc (.cells #[.nilFunc, .nilFunc] 89)).alloc (.cells #[.pointer none] 33)).alloc (.cells #[.int .i64 0] 30)
  have cJ := ((((new_at (w := w.alloc (.cells #[.pointer (some ⟨tb, 0, none⟩)] 26)) (cs := arrB job) (t := 22) (g := w.heap.size + 1) (by simp)).alloc (.cells #[.int .u64 ep] 29)).alloc (.cells #[.nilFunc, .nilFunc] 89)).alloc (.cells #[.pointer none] 33)).alloc (.cells #[.int .i64 0] 30)
  have cE := (((new_at (w := (w.alloc (.cells #[.pointer (some ⟨tb, 0, none⟩)] 26)).alloc (.cells (arrB job) 22)) (cs := #[.int .u64 ep]) (t := 29) (g := w.heap.size + 2) (by simp)).alloc (.cells #[.nilFunc, .nilFunc] 89)).alloc (.cells #[.pointer none] 33)).alloc (.cells #[.int .i64 0] 30)
  have cY := ((new_at (w := ((w.alloc (.cells #[.pointer (some ⟨tb, 0, none⟩)] 26)).alloc (.cells (arrB job) 22)).alloc (.cells #[.int .u64 ep] 29)) (cs := #[.nilFunc, .nilFunc]) (t := 89) (g := w.heap.size + 3) (by simp)).alloc (.cells #[.pointer none] 33)).alloc (.cells #[.int .i64 0] 30)
  have cR := (new_at (w := (((w.alloc (.cells #[.pointer (some ⟨tb, 0, none⟩)] 26)).alloc (.cells (arrB job) 22)).alloc (.cells #[.int .u64 ep] 29)).alloc (.cells #[.nilFunc, .nilFunc] 89)) (cs := #[.pointer none]) (t := 33) (g := w.heap.size + 4) (by simp)).alloc (.cells #[.int .i64 0] 30)
  have cS := new_at (w := ((((w.alloc (.cells #[.pointer (some ⟨tb, 0, none⟩)] 26)).alloc (.cells (arrB job) 22)).alloc (.cells #[.int .u64 ep] 29)).alloc (.cells #[.nilFunc, .nilFunc] 89)).alloc (.cells #[.pointer none] 33)) (cs := #[.int .i64 0]) (t := 30) (g := w.heap.size + 5) (by simp)
  have hz : ((((((w.alloc (.cells #[.pointer (some ⟨tb, 0, none⟩)] 26)).alloc (.cells (arrB job) 22)).alloc (.cells #[.int .u64 ep] 29)).alloc (.cells #[.nilFunc, .nilFunc] 89)).alloc (.cells #[.pointer none] 33)).alloc (.cells #[.int .i64 0] 30)).heap.size = w.heap.size + 6 := by simp
  obtain ⟨W1, hW1⟩ : ∃ W1, ((((((w.alloc (.cells #[.pointer (some ⟨tb, 0, none⟩)] 26)).alloc (.cells (arrB job) 22)).alloc (.cells #[.int .u64 ep] 29)).alloc (.cells #[.nilFunc, .nilFunc] 89)).alloc (.cells #[.pointer none] 33)).alloc (.cells #[.int .i64 0] 30)) = W1 := ⟨_, rfl⟩
  rw [hW1] at m0 cT cJ cE cY cR cS hz ⊢
  obtain ⟨H, hH⟩ : ∃ H, w.heap.size = H := ⟨_, rfl⟩
  rw [hH] at cT cJ cE cY cR cS hz ⊢
  have HH := Lib.hid hH
  have hσ1 := hσ.mod m0 (fun _ h => h.elim)
  have hτ1 := hτ.mod m0 nob
  clear hW1 hH
  go_step3
  have t6 := cT.cell 0
  have t8 := cE.cell 0
  simp at t6 t8
  have hep0 : ((ep : Int) == 0) = false := beq_eq_false_iff_ne.2 (by have : 0 < ep := he; omega)
  go_wp2_with fail
  refine wp_no_panic ?_
  have hepo : Calls Tryz.prog 51 #[.pointer (some ⟨tb, 0, none⟩)] { W1 with drawn := W1.drawn + 1 } (fun e w' => e = .returned (.int .u64 ep) ∧ w' = { W1 with drawn := W1.drawn + 1 }) :=
    (trust_epoch tb ⟨ep, 0, 0⟩ { W1 with drawn := W1.drawn + 1 } (hτ1.mod (Mod.refl W1 Nob).drew nob)).mono (fun e w' h => ⟨h.1, h.2.symm⟩)
  refine wp_region_still_lit (by kernel_rfl) (by kernel_rfl) ?_
  repeat still_step
  still_call hepo
  repeat still_step
  refine wpStill_nil ?_
  have mD := (Mod.refl W1 Nob).drew
  replace cT := cT.mod mD nob
  replace cJ := cJ.mod mD nob
  replace cE := cE.mod mD nob
  replace cY := cY.mod mD nob
  replace cR := cR.mod mD nob
  replace cS := cS.mod mD nob
  replace hσ1 := hσ1.mod mD (fun _ h => h.elim)
  replace hτ1 := hτ1.mod mD nob
  replace m0 := m0.trans mD
  have hz2 : W1.drew.heap.size = H + 6 := hz
  obtain ⟨W2, hW2⟩ : ∃ W, W1.drew = W := ⟨_, rfl⟩
  change Exit.then _ _ _ _ W1.drew
  rw [hW2] at cT cJ cE cY cR cS hσ1 hτ1 m0 hz2 ⊢
  clear hW2 mD t6 t8 hepo hz
  go_wp2_with fail
  -- G5
  obtain ⟨jc, hjc⟩ : ∃ y, (jcells (.pointer (some ⟨b, 0, none⟩)) (.pointer (some ⟨tb, 0, none⟩)) (journalK job) ep (.slice none 0 0) zl32 zl32 false ent0).toArray = y := ⟨_, rfl⟩
  have HJC := Box.mk hjc
  go_cut [12] from 22 (fun t12 wx => ∃ gp jb, t12 = .pointer (some ⟨gp, 0, none⟩) ∧ H + 6 ≤ gp ∧ H + 6 ≤ jb ∧ CellsAt wx gp #[.pointer (some ⟨jb, 0, none⟩)] 33 ∧ CellsAt wx jb jc 92 ∧ Mod W2 wx Nob)
  case first =>
    have mD := (Mod.refl W2 Nob).drew
    have hkl := journalK_length job
    have hjk := fun W => journalK_any job W hj
    have hbu := built_jou (.pointer (some ⟨b, 0, none⟩)) (.pointer (some ⟨tb, 0, none⟩)) (journalK job) ep rfl rfl hkl
    change _ = some (jcells (.pointer (some ⟨b, 0, none⟩)) (.pointer (some ⟨tb, 0, none⟩)) (journalK job) ep (.slice none 0 0) zl32 zl32 false ent0).toArray at hbu
    rw [hjc] at hbu
    obtain ⟨jk, hjk0⟩ : ∃ y, journalK job = y := ⟨_, rfl⟩
    rw [hjk0] at hbu
    simp only [hjk0] at hjk
    have hS0 : CellsAt W2.drew H #[.pointer (some ⟨tb, 0, none⟩)] 26 ∧ CellsAt W2.drew (H + 1) (arrB job) 22 ∧ CellsAt W2.drew (H + 2) #[.int .u64 ep] 29 := ⟨cT.mod mD nob, cJ.mod mD nob, cE.mod mD nob⟩
    have hSm : ∀ W, Mod W2.drew W Nob → CellsAt W H #[.pointer (some ⟨tb, 0, none⟩)] 26 ∧ CellsAt W (H + 1) (arrB job) 22 ∧ CellsAt W (H + 2) #[.int .u64 ep] 29 := fun W hm => ⟨hS0.1.mod hm nob, hS0.2.1.mod hm nob, hS0.2.2.mod hm nob⟩
    have z0 : W2.drew.heap.size = H + 6 := hz2
    refine wp_no_panic ?_
    refine wp_region_U (S := fun W => CellsAt W H #[.pointer (some ⟨tb, 0, none⟩)] 26 ∧ CellsAt W (H + 1) (arrB job) 22 ∧ CellsAt W (H + 2) #[.int .u64 ep] 29) 8 (by kernel_rfl) ?_
    change wpAnyU _ _ _ _ _ _ _ _ _ W2.drew
    obtain ⟨V0, hV0⟩ : ∃ V, W2.drew = V := ⟨_, rfl⟩
    rw [hV0] at hS0 hSm z0 mD ⊢
    clear hV0 hjk0 hjc
    refine wpAnyU_takeP (i := 0) (v := .pointer (some ⟨b, 0, none⟩)) rfl (by kernel_rfl) (by kernel_rfl) (by kernel_rfl) (by decide) (fun _ _ _ h => h) (Or.inl ⟨by rfl, fun W => by go_simp⟩) (fun _ => hS0) ?_
    try simp only [Act.put, List.getElem_toArray, List.getElem_cons_zero, List.getElem_cons_succ, List.setIfInBounds_toArray, List.set_cons_zero, List.set_cons_succ]
    refine wpAnyU_take (i := 1) (v := .pointer (some ⟨tb, 0, none⟩)) rfl (by kernel_rfl) (by kernel_rfl) (by kernel_rfl) (by kernel_rfl) (by kernel_rfl) (fun _ _ _ h => h) (Or.inl ⟨by rfl, fun W hS => by have y := hS.1.cell 0; simp at y; go_simp⟩) hS0 ?_
    try simp only [Act.put, List.getElem_toArray, List.getElem_cons_zero, List.getElem_cons_succ, List.setIfInBounds_toArray, List.set_cons_zero, List.set_cons_succ]
    refine wpAnyU_take (i := 2) (v := .agg (arrB job)) rfl (by kernel_rfl) (by kernel_rfl) (by kernel_rfl) (by kernel_rfl) (by kernel_rfl) (fun _ _ _ h => h) (yieldsIf_load_mid (by rfl) 22 _ rfl (H + 1) 0 rfl (job.map B) _ (fun W hS => fun q u hq => by rw [Nat.zero_add, hS.2.1.cell q]; simpa [arrB] using hq) Tryz.underlying22 rfl (by rw [List.length_map, hj]; exact size_b32)) hS0 ?_
    try simp only [Act.put, List.getElem_toArray, List.getElem_cons_zero, List.getElem_cons_succ, List.setIfInBounds_toArray, List.set_cons_zero, List.set_cons_succ]
    refine wpAnyU_take (i := 4) (v := .int .u64 ep) rfl (by kernel_rfl) (by kernel_rfl) (by kernel_rfl) (by kernel_rfl) (by kernel_rfl) (fun _ _ _ h => h) (Or.inl ⟨by rfl, fun W hS => by have y := hS.2.2.cell 0; simp at y; go_simp⟩) hS0 ?_
    try simp only [Act.put, List.getElem_toArray, List.getElem_cons_zero, List.getElem_cons_succ, List.setIfInBounds_toArray, List.set_cons_zero, List.set_cons_succ]
    have HZW := Box.mk hz2
    clear hS0 hz2
    have HZ0 := Box.mk z0
    clear z0
    refine wpAnyU_two 3 7 _ _ (by kernel_rfl) rfl rfl (fun K hK => ?_) (fun K hK => ?_)
    · go_simp
      refine (hjk V0).mono ?_
      rintro e V1 ⟨rfl, mbV1⟩
      go_wp2_with fail
      have zV1 := mbV1.size
      refine hK.out _ _ (fun _ => hSm _ (mbV1)) ?_
      clear hK K
      try simp only [Act.put, List.getElem_toArray, List.getElem_cons_zero, List.getElem_cons_succ, List.setIfInBounds_toArray, List.set_cons_zero, List.set_cons_succ]
      refine wpAnyU_takeP (i := 5) (v := .agg jc) rfl (by kernel_rfl) (by kernel_rfl) (by kernel_rfl) (by decide) (fun _ _ _ h => h) (Or.inl ⟨by rfl, fun W => exec_build4 92 0 1 2 3 (.tmp 37) (.tmp 38) (.tmp 40) (.tmp 41) _ _ _ _ rfl rfl rfl rfl rfl _ hbu W⟩) (fun _ => hSm _ (mbV1)) ?_
      try simp only [Act.put, List.getElem_toArray, List.getElem_cons_zero, List.getElem_cons_succ, List.setIfInBounds_toArray, List.set_cons_zero, List.set_cons_succ]
      refine wpAnyU_two 6 7 _ _ (by kernel_rfl) rfl rfl (fun K hK => ?_) (fun K hK => ?_)
      · go_simp
        have mbV2 := (Mod.refl V1 Nob).alloc (.cells jc 92)
        have cbV2 := CellsAt.new V1 jc 92
        refine hK.out _ _ (fun _ => hSm _ (mbV1.trans mbV2)) ?_
        clear hK K
        try simp only [Act.put, List.getElem_toArray, List.getElem_cons_zero, List.getElem_cons_succ, List.setIfInBounds_toArray, List.set_cons_zero, List.set_cons_succ]
        change wpAnyU _ _ _ _ _ _ _ _ _ (V1.alloc (.cells jc 92))
        obtain ⟨V2, hV2⟩ : ∃ V, V1.alloc (.cells jc 92) = V := ⟨_, rfl⟩
        have zV2 : V2.heap.size = V1.heap.size + 1 := by rw [← hV2]; simp
        rw [hV2] at mbV2 cbV2 ⊢
        clear hV2
        refine wpAnyU_one 7 _ (by kernel_rfl) rfl (fun K hK => ?_)
        have HZ2 := Box.mk zV2
        clear zV2
        go_simp
        have mbV3 := (Mod.refl V2 Nob).alloc (.cells #[Value.pointer none] 33)
        have cbV3 := CellsAt.new V2 #[Value.pointer none] 33
        refine hK.out _ _ (fun _ => hSm _ ((mbV1.trans mbV2).trans mbV3)) ?_
        clear hK K
        try simp only [Act.put, List.getElem_toArray, List.getElem_cons_zero, List.getElem_cons_succ, List.setIfInBounds_toArray, List.set_cons_zero, List.set_cons_succ]
        change wpAnyU _ _ _ _ _ _ _ _ _ (V2.alloc (.cells #[Value.pointer none] 33))
        obtain ⟨V3, hV3⟩ : ∃ V, V2.alloc (.cells #[Value.pointer none] 33) = V := ⟨_, rfl⟩
        have zV3 : V3.heap.size = V2.heap.size + 1 := by rw [← hV3]; simp
        rw [hV3] at mbV3 cbV3 ⊢
        clear hV3
        have zz := HZ0.out
        have zz2 := HZ2.out
        refine wpAnyU_last (by kernel_rfl) (by simp) ?_
        refine wpAny_tail _ 8 _ _ _ (by kernel_rfl) ?_
        simp only [List.drop_succ_cons, List.drop_zero]
        have cg : CellsAt V3 V2.heap.size #[Value.pointer none] 33 := cbV3
        have cj : CellsAt V3 V1.heap.size jc 92 := cbV2.mod mbV3 nob
        have mA : Mod W2 V3 Nob := mD.trans ((mbV1.trans mbV2).trans mbV3)
        have hne : V2.heap.size ≠ V1.heap.size := by omega
        have hg6 : H + 6 ≤ V2.heap.size := by omega
        have hj6 : H + 6 ≤ V1.heap.size := by omega
        obtain ⟨gp, hgp⟩ : ∃ y, V2.heap.size = y := ⟨_, rfl⟩
        obtain ⟨jb, hjb⟩ : ∃ y, V1.heap.size = y := ⟨_, rfl⟩
        rw [hgp] at cg hne hg6 ⊢
        rw [hjb] at cj hne hj6 ⊢
        have k0 := cg.cell 0
        have f0 := cg.free 0
        simp at k0
        have mS := (Mod.refl V3 (· = gp)).setCell (p := ⟨gp, 0, none⟩) (.inl rfl) (.pointer (some ⟨jb, 0, none⟩))
        clear hSm hjk
        go_wp2_with fail
        go_meet
        exact ⟨gp, jb, rfl, hg6, hj6, cg.set 0 _, cj.mod mS (fun e => hne e.symm), mA.drop mS (fun k (hk : k = gp) => .inr (by have := HZW.out; omega))⟩
      · go_simp
        have mbV2 := (Mod.refl V1 Nob).alloc (.cells #[Value.pointer none] 33)
        have cbV2 := CellsAt.new V1 #[Value.pointer none] 33
        refine hK.out _ _ (fun _ => hSm _ (mbV1.trans mbV2)) ?_
        clear hK K
        try simp only [Act.put, List.getElem_toArray, List.getElem_cons_zero, List.getElem_cons_succ, List.setIfInBounds_toArray, List.set_cons_zero, List.set_cons_succ]
        change wpAnyU _ _ _ _ _ _ _ _ _ (V1.alloc (.cells #[Value.pointer none] 33))
        obtain ⟨V2, hV2⟩ : ∃ V, V1.alloc (.cells #[Value.pointer none] 33) = V := ⟨_, rfl⟩
        have zV2 : V2.heap.size = V1.heap.size + 1 := by rw [← hV2]; simp
        rw [hV2] at mbV2 cbV2 ⊢
        clear hV2
        have HZ2 := Box.mk zV2
        clear zV2
        refine wpAnyU_one 6 _ (by kernel_rfl) rfl (fun K hK => ?_)
        go_simp
        have mbV3 := (Mod.refl V2 Nob).alloc (.cells jc 92)
        have cbV3 := CellsAt.new V2 jc 92
        refine hK.out _ _ (fun _ => hSm _ ((mbV1.trans mbV2).trans mbV3)) ?_
        clear hK K
        try simp only [Act.put, List.getElem_toArray, List.getElem_cons_zero, List.getElem_cons_succ, List.setIfInBounds_toArray, List.set_cons_zero, List.set_cons_succ]
        change wpAnyU _ _ _ _ _ _ _ _ _ (V2.alloc (.cells jc 92))
        obtain ⟨V3, hV3⟩ : ∃ V, V2.alloc (.cells jc 92) = V := ⟨_, rfl⟩
        have zV3 : V3.heap.size = V2.heap.size + 1 := by rw [← hV3]; simp
        rw [hV3] at mbV3 cbV3 ⊢
        clear hV3
        have zz := HZ0.out
        have zz2 := HZ2.out
        refine wpAnyU_last (by kernel_rfl) (by simp) ?_
        refine wpAny_tail _ 8 _ _ _ (by kernel_rfl) ?_
        simp only [List.drop_succ_cons, List.drop_zero]
        have cg : CellsAt V3 V1.heap.size #[Value.pointer none] 33 := cbV2.mod mbV3 nob
        have cj : CellsAt V3 V2.heap.size jc 92 := cbV3
        have mA : Mod W2 V3 Nob := mD.trans ((mbV1.trans mbV2).trans mbV3)
        have hne : V1.heap.size ≠ V2.heap.size := by omega
        have hg6 : H + 6 ≤ V1.heap.size := by omega
        have hj6 : H + 6 ≤ V2.heap.size := by omega
        obtain ⟨gp, hgp⟩ : ∃ y, V1.heap.size = y := ⟨_, rfl⟩
        obtain ⟨jb, hjb⟩ : ∃ y, V2.heap.size = y := ⟨_, rfl⟩
        rw [hgp] at cg hne hg6 ⊢
        rw [hjb] at cj hne hj6 ⊢
        have k0 := cg.cell 0
        have f0 := cg.free 0
        simp at k0
        have mS := (Mod.refl V3 (· = gp)).setCell (p := ⟨gp, 0, none⟩) (.inl rfl) (.pointer (some ⟨jb, 0, none⟩))
        clear hSm hjk
        go_wp2_with fail
        go_meet
        exact ⟨gp, jb, rfl, hg6, hj6, cg.set 0 _, cj.mod mS (fun e => hne e.symm), mA.drop mS (fun k (hk : k = gp) => .inr (by have := HZW.out; omega))⟩
    · go_simp
      have mbV1 := (Mod.refl V0 Nob).alloc (.cells #[Value.pointer none] 33)
      have cbV1 := CellsAt.new V0 #[Value.pointer none] 33
      refine hK.out _ _ (fun _ => hSm _ (mbV1)) ?_
      clear hK K
      try simp only [Act.put, List.getElem_toArray, List.getElem_cons_zero, List.getElem_cons_succ, List.setIfInBounds_toArray, List.set_cons_zero, List.set_cons_succ]
      change wpAnyU _ _ _ _ _ _ _ _ _ (V0.alloc (.cells #[Value.pointer none] 33))
      obtain ⟨V1, hV1⟩ : ∃ V, V0.alloc (.cells #[Value.pointer none] 33) = V := ⟨_, rfl⟩
      have zV1 : V1.heap.size = V0.heap.size + 1 := by rw [← hV1]; simp
      rw [hV1] at mbV1 cbV1 ⊢
      clear hV1
      have HZ1 := Box.mk zV1
      clear zV1
      refine wpAnyU_one 3 _ (by kernel_rfl) rfl (fun K hK => ?_)
      go_simp
      refine (hjk V1).mono ?_
      rintro e V2 ⟨rfl, mbV2⟩
      go_wp2_with fail
      have zV2 := mbV2.size
      refine hK.out _ _ (fun _ => hSm _ (mbV1.trans mbV2)) ?_
      clear hK K
      try simp only [Act.put, List.getElem_toArray, List.getElem_cons_zero, List.getElem_cons_succ, List.setIfInBounds_toArray, List.set_cons_zero, List.set_cons_succ]
      refine wpAnyU_takeP (i := 5) (v := .agg jc) rfl (by kernel_rfl) (by kernel_rfl) (by kernel_rfl) (by decide) (fun _ _ _ h => h) (Or.inl ⟨by rfl, fun W => exec_build4 92 0 1 2 3 (.tmp 37) (.tmp 38) (.tmp 40) (.tmp 41) _ _ _ _ rfl rfl rfl rfl rfl _ hbu W⟩) (fun _ => hSm _ (mbV1.trans mbV2)) ?_
      try simp only [Act.put, List.getElem_toArray, List.getElem_cons_zero, List.getElem_cons_succ, List.setIfInBounds_toArray, List.set_cons_zero, List.set_cons_succ]
      refine wpAnyU_one 6 _ (by kernel_rfl) rfl (fun K hK => ?_)
      go_simp
      have mbV3 := (Mod.refl V2 Nob).alloc (.cells jc 92)
      have cbV3 := CellsAt.new V2 jc 92
      refine hK.out _ _ (fun _ => hSm _ ((mbV1.trans mbV2).trans mbV3)) ?_
      clear hK K
      try simp only [Act.put, List.getElem_toArray, List.getElem_cons_zero, List.getElem_cons_succ, List.setIfInBounds_toArray, List.set_cons_zero, List.set_cons_succ]
      change wpAnyU _ _ _ _ _ _ _ _ _ (V2.alloc (.cells jc 92))
      obtain ⟨V3, hV3⟩ : ∃ V, V2.alloc (.cells jc 92) = V := ⟨_, rfl⟩
      have zV3 : V3.heap.size = V2.heap.size + 1 := by rw [← hV3]; simp
      rw [hV3] at mbV3 cbV3 ⊢
      clear hV3
      have zz := HZ0.out
      have zz1 := HZ1.out
      refine wpAnyU_last (by kernel_rfl) (by simp) ?_
      refine wpAny_tail _ 8 _ _ _ (by kernel_rfl) ?_
      simp only [List.drop_succ_cons, List.drop_zero]
      have cg : CellsAt V3 V0.heap.size #[Value.pointer none] 33 := (cbV1.mod mbV2 nob).mod mbV3 nob
      have cj : CellsAt V3 V2.heap.size jc 92 := cbV3
      have mA : Mod W2 V3 Nob := mD.trans ((mbV1.trans mbV2).trans mbV3)
      have hne : V0.heap.size ≠ V2.heap.size := by omega
      have hg6 : H + 6 ≤ V0.heap.size := by omega
      have hj6 : H + 6 ≤ V2.heap.size := by omega
      obtain ⟨gp, hgp⟩ : ∃ y, V0.heap.size = y := ⟨_, rfl⟩
      obtain ⟨jb, hjb⟩ : ∃ y, V2.heap.size = y := ⟨_, rfl⟩
      rw [hgp] at cg hne hg6 ⊢
      rw [hjb] at cj hne hj6 ⊢
      have k0 := cg.cell 0
      have f0 := cg.free 0
      simp at k0
      have mS := (Mod.refl V3 (· = gp)).setCell (p := ⟨gp, 0, none⟩) (.inl rfl) (.pointer (some ⟨jb, 0, none⟩))
      clear hSm hjk
      go_wp2_with fail
      go_meet
      exact ⟨gp, jb, rfl, hg6, hj6, cg.set 0 _, cj.mod mS (fun e => hne e.symm), mA.drop mS (fun k (hk : k = gp) => .inr (by have := HZW.out; omega))⟩
  -- G5 END
  case rest =>
    obtain ⟨gp, jb, rfl, hg6, hj6, cg, cj, mA⟩ := hcut
    replace cT := cT.mod mA nob
    replace cY := cY.mod mA nob
    replace cR := cR.mod mA nob
    replace cS := cS.mod mA nob
    replace hσ1 := hσ1.mod mA (fun _ h => h.elim)
    replace hτ1 := hτ1.mod mA nob
    replace m0 := m0.trans mA
    have hzc := mA.size
    clear cE cJ mA hjc
    go_wp2_with fail
    change Code.wp _ _ _ _ ((wc.alloc (.cells #[.int .u64 0] 29)).alloc (.cells #[.bool true] 4))
    have mX := ((Mod.refl wc Nob).alloc (.cells #[.int .u64 0] 29)).alloc (.cells #[.bool true] 4)
    have cW := (CellsAt.new wc #[.int .u64 0] 29).alloc (.cells #[.bool true] 4)
    have cB := new_at (w := wc.alloc (.cells #[.int .u64 0] 29)) (cs := #[.bool true]) (t := 4) (g := wc.heap.size + 1) (by simp)
    have hz3 : ((wc.alloc (.cells #[.int .u64 0] 29)).alloc (.cells #[.bool true] 4)).heap.size = wc.heap.size + 2 := by simp
    obtain ⟨W3, hW3⟩ : ∃ V, (wc.alloc (.cells #[.int .u64 0] 29)).alloc (.cells #[.bool true] 4) = V := ⟨_, rfl⟩
    rw [hW3] at mX cW cB hz3 ⊢
    obtain ⟨G, hG⟩ : ∃ g, wc.heap.size = g := ⟨_, rfl⟩
    rw [hG] at cW cB hz3 hzc ⊢
    have lg := cg.lt
    have lj := cj.lt
    rw [hG] at lg lj
    replace cT := cT.mod mX nob
    replace cY := cY.mod mX nob
    replace cR := cR.mod mX nob
    replace cS := cS.mod mX nob
    replace cg := cg.mod mX nob
    replace cj := cj.mod mX nob
    replace hσ1 := hσ1.mod mX (fun _ h => h.elim)
    replace hτ1 := hτ1.mod mX nob
    replace m0 := m0.trans mX
    clear mX hW3 hG
    have kg := cg.cell 0
    have ky0 := cY.cell 0
    have ky1 := cY.cell 1
    simp at kg ky0 ky1
    go_step3
    go_wp2_with fail
    change Calls _ _ #[_, eyes0] _ _
    refine (stored_any jb W3).mono ?_
    rintro e W4 ⟨rfl, hW4⟩
    have hA := ((Mod.refl W3 Nob).alloc (.cells #[.pointer (some ⟨jb, 0, none⟩)] 33)).alloc (.cells #[.nilFunc, .nilFunc] 89)
    have b1 := (CellsAt.new W3 #[.pointer (some ⟨jb, 0, none⟩)] 33).alloc (.cells #[.nilFunc, .nilFunc] 89)
    have b2 := CellsAt.new (W3.alloc (.cells #[.pointer (some ⟨jb, 0, none⟩)] 33)) #[.nilFunc, .nilFunc] 89
    rw [World.size_alloc] at b2
    have hz4 : W4.heap.size = G + 4 := by rw [hW4]; simp [hz3]
    rw [← hW4] at hA b1 b2
    rw [hz3] at b1 b2 ⊢
    replace cT := cT.mod hA nob
    replace cR := cR.mod hA nob
    replace cS := cS.mod hA nob
    replace cg := cg.mod hA nob
    replace cj := cj.mod hA nob
    replace cW := cW.mod hA nob
    replace cB := cB.mod hA nob
    replace hσ1 := hσ1.mod hA (fun _ h => h.elim)
    replace hτ1 := hτ1.mod hA nob
    replace m0 := m0.trans hA
    clear hA hW4 hz3 kg ky0 ky1 cY
    have hj0 : W4.cell? ⟨jb, 0, none⟩ = some (.pointer (some ⟨b, 0, none⟩)) := by
      rw [cj.cell 0, ← HJC.out]
      rfl
    have hseq := stored_ever 5 (by omega) (G + 2) jb b 1 σ x (by omega) hsh W4 b1 b2 hj0 hσ1
    have hfl : ∀ k, (x.foot b k ∨ k = G + 2 ∨ k = G + 2 + 1) → k < W4.heap.size := fun k hk => by
      rcases hk with h | h | h
      · exact hσ1.foot_lt k h
      · omega
      · omega
    go_wp2_with fail
    refine (wpIn_wide (n := 6)).1 ?_
    refine wpIn_rangeFunc_ever (n := 6) (by omega) (gf := 75) (lb := #[.pointer (some ⟨G + 2, 0, none⟩), .pointer (some ⟨G + 2 + 1, 0, none⟩)]) rfl (enters_of Tryz.func75 (by kernel_rfl) rfl)
      hseq (fun h k => h.trans k) (fun W l o o' h1 h2 h3 _ => KM.put hfl W l o o' h1 h2 h3) (fun _ => rfl)
      (fun pre W => pre = [] ∧ BegAt w H tb gp jb G ep jc W)
      (fun c pre W => c = .exit 1 ∧ BegAt w H tb gp jb G ep jc W) ?own ?ownx ⟨rfl, ⟨cT, cg, cj, cR, cS, cW, cB, hτ1, m0, by omega⟩⟩ (fun pre W h => by rw [h.1]; exact Nat.zero_lt_one)
      (fun pre y a' W => a' = { tmps := #[.pointer (some ⟨b, 0, none⟩), .pointer (some ⟨tb, 0, none⟩), .agg (arrB job), .int .u64 ep, .agg #[.nilFunc, .nilFunc], undef, .pointer (some ⟨H, 0, none⟩), .pointer (some ⟨H + 1, 0, none⟩), .pointer (some ⟨H + 1 + 1, 0, none⟩), .pointer (some ⟨H + 1 + 1 + 1, 0, none⟩), .pointer (some ⟨H + 1 + 1 + 1 + 1, 0, none⟩), .pointer (some ⟨H + 1 + 1 + 1 + 1 + 1, 0, none⟩), .pointer (some ⟨gp, 0, none⟩), .pointer (some ⟨G, 0, none⟩), .pointer (some ⟨G + 1, 0, none⟩), .int .u64 y.1, scv y.2, undef, undef, undef, undef, .bool false, u22, u23, u24, u25, u26, u27, u28, u29, u30, u31, u32, u33, u34, u35, u36, u37, u38, u39, u40, u41, u42, u43, .pointer (some ⟨jb, 0, none⟩), .agg #[.nilFunc, .nilFunc], .func (.func 75) #[] #[.pointer (some ⟨G + 2, 0, none⟩), .pointer (some ⟨G + 2 + 1, 0, none⟩)], .int .u64 y.1, scv y.2, u49, u50, u51, u52, u53, u54, u55, u56, u57, u58, u59, u60, u61, u62, u63, u64, u65, u66, u67, u68, u69, u70, u71, u72, u73, u74, u75, u76, u77, u78, u79, u80, u81, u82, u83, u84, u85, u86, u87, u88, u89, u90, u91, u92, u93, u94, u95, u96, u97, u98, u99, u100, u101, u102, u103, u104, u105, u106, u107, u108, u109, u110, u111, u112, u113, u114, u115, u116, u117, u118, u119, u120, u121, u122, u123, u124, u125], defers := [] } ∧ EntIs σ W4.heap.size pre y W) ?ownax
      ?assign ?body ?stop
    case own =>
      rintro pre W W' row ⟨h0, h1⟩ hg hr
      exact ⟨h0, h1.grown hg (fun r e => (hr r e).2) (fun r e => by have := (hr r e).1; omega) HH.out⟩
    case ownx =>
      rintro c pre W W' row ⟨h0, h1⟩ hg hr
      exact ⟨h0, h1.grown hg (fun r e => (hr r e).2) (fun r e => by have := (hr r e).1; omega) HH.out⟩
    case ownax =>
      rintro pre y a' _ W W' row ⟨h0, h1, h2, h3⟩ hg hr
      have hm : Mod W W' (fun k => row = some k) := (Mod.refl W _).grown hg (fun k e => .inl e)
      have hnT : ∀ k, inBlock (scv y.2) k → ¬ row = some k := fun k hk e => by
        obtain ⟨_, o, h5, h6⟩ := hr k e
        exact not_isB h5 h6 (h3 k hk).2
      exact ⟨h0, h1, h2.mod hm hnT, fun k hk => ⟨(h3 k hk).1, by obtain ⟨cs, hc⟩ := (h3 k hk).2; exact ⟨cs, hc.mod hm (hnT k hk)⟩⟩⟩
    case assign =>
      intro l pre y W K hI hR hK
      dsimp only [nbv]
      gi_wp2
      exact hK _ _ (KeepsFrom.refl _ _) (KM.of_mod (Mod.refl W Nob) (fun k h => h.elim) nob) hI ⟨rfl, hR⟩
    case body =>
      rintro l pre ⟨yn, ya, yl, yc⟩ a' W hl _ ⟨rfl, hI⟩ ⟨rfl, hR⟩ hlt
      obtain ⟨hyn, hyb, -⟩ := hR
      obtain rfl : yn = 1 := hyn
      rw [show ([] : List NB).length + 1 = 1 from rfl, hno] at hyb
      obtain rfl : yl = 0 := by
        obtain ⟨a', c', hf, _⟩ := hyb.form
        unfold scv at hf
        cases hf
        rfl
      dsimp only [scv]
      have kg := hI.g.cell 0
      have kt := hI.t.cell 0
      simp at kg kt
      have hop : Calls Tryz.prog 54 #[.pointer (some ⟨jb, 0, none⟩), .int .u64 1, .slice ya 0 yc] W fun e w' => e = .returned (.tuple #[.agg #[.int .i64 0, .int .i64 0, .int .u64 0, .int .i64 0], .int .u64 0, .bool false]) ∧ Mod W w' Nob := opened_short (.pointer (some ⟨jb, 0, none⟩)) (.int .u64 1) ya 0 yc W (by omega)
      clear hseq hfl hyb b1 b2 hσ1 cT cg cj cR cS cW cB hτ1 m0 hno
      gi_wp2
      refine ⟨trivial, (CallsIn.inRound l ((callsIn_wide (n := 3)).2 hop)).mono ?_⟩
      rintro e W5 ⟨rfl, m5⟩
      have hI5 := hI.mod m5
      gi_wp2
      change Code.wpIn _ _ _ _ _ _ (W5.alloc (.cells #[.int .i64 0, .int .i64 0, .int .u64 0, .int .i64 0] 38))
      have m6 := (Mod.refl W5 Nob).alloc (.cells #[.int .i64 0, .int .i64 0, .int .u64 0, .int .i64 0] 38)
      have mD := m6.drew
      obtain ⟨W6, hW6⟩ : ∃ V, W5.alloc (.cells #[.int .i64 0, .int .i64 0, .int .u64 0, .int .i64 0] 38) = V := ⟨_, rfl⟩
      rw [hW6] at mD ⊢
      clear hW6 m6
      have hI6 := hI5.mod mD
      change BegAt w H tb gp jb G ep jc { W6 with drawn := W6.drawn + 1 } at hI6
      have kt6 := hI6.t.cell 0
      simp at kt6
      have hco : Calls Tryz.prog 30 #[.pointer (some ⟨tb, 0, none⟩)] { W6 with drawn := W6.drawn + 1 } (fun e w' => e = .returned (.int .u64 0) ∧ w' = { W6 with drawn := W6.drawn + 1 }) :=
        (trust_count tb ⟨ep, 0, 0⟩ { W6 with drawn := W6.drawn + 1 } hI6.τ).mono (fun e w' h => ⟨h.1, h.2.symm⟩)
      refine wpIn_region_still_round (by kernel_rfl) (by rfl) (by kernel_rfl) (fun _ _ h => h) ?_
      repeat still_step
      still_call hco
      repeat still_step
      refine wpStill_nil ?_
      change Exit.then _ _ _ _ W6.drew
      have hI7 : BegAt w H tb gp jb G ep jc W6.drew := hI6
      have hco2 := trust_count tb ⟨ep, 0, 0⟩ W6.drew hI7.τ
      have kf : KeepsFrom W4.heap.size W W6.drew := keepsFrom_mod (m5.trans mD) (fun k h => h.elim)
      obtain ⟨W7, hW7⟩ : ∃ V, W6.drew = V := ⟨_, rfl⟩
      rw [hW7] at hI7 hco2 kf ⊢
      have kt7 := hI7.t.cell 0
      simp at kt7
      clear hW7 hco hI6 kt6 mD hop kg kt
      gi_wp2
      refine ⟨trivial, (CallsIn.inRound l ((callsIn_wide (n := 3)).2 hco2)).mono ?_⟩
      rintro e W8 ⟨rfl, rfl⟩
      gi_wp2
      exact ⟨kf, rfl, hI7⟩
    case stop =>
      rintro D c pre W hD _ ⟨rfl, hI⟩ hK
      have kg := hI.g.cell 0
      have kt := hI.t.cell 0
      have kw := hI.wr.cell 0
      have kb := hI.good.cell 0
      simp at kg kt kw kb
      clear hseq hfl b1 b2 hσ1 cT cg cj cR cS cW cB hτ1 m0 hno
      refine wpIn_wide.2 ?_
      go_wp2_with fail
      refine wp_no_panic ?_
      have hwri : Calls Tryz.prog 55 #[.pointer (some ⟨tb, 0, none⟩)] { W with drawn := W.drawn + 1 } (fun e w' => e = .returned (.int .u64 0) ∧ w' = { W with drawn := W.drawn + 1 }) :=
        (trust_writer tb ⟨ep, 0, 0⟩ { W with drawn := W.drawn + 1 } (hI.τ.mod (Mod.refl W Nob).drew nob)).mono (fun e w' h => ⟨h.1, h.2.symm⟩)
      refine wp_region_still_lit (by kernel_rfl) (by kernel_rfl) ?_
      repeat still_step
      still_call hwri
      repeat still_step
      refine wpStill_nil ?_
      change Exit.then _ _ _ _ W.drew
      have mD := (Mod.refl W Nob).drew
      have hI2 := hI.mod mD
      have hK2 := mD.keep hK nob
      obtain ⟨W5, hW5⟩ : ∃ V, W.drew = V := ⟨_, rfl⟩
      rw [hW5] at hI2 hK2 ⊢
      have kg2 := hI2.g.cell 0
      have cr := hI2.r
      have cs := hI2.s
      have kr := cr.cell 0
      have fr := cr.free 0
      have ks := cs.cell 0
      have fs := cs.free 0
      simp at kg2 kr ks
      have mS := ((Mod.refl W5 (fun k => k = H + 4 ∨ k = H + 5)).setCell (p := ⟨H + 4, 0, none⟩) (.inl (.inl rfl)) (.pointer (some ⟨jb, 0, none⟩))).setCell (p := ⟨H + 5, 0, none⟩) (.inl (.inr rfl)) (.int .i64 0)
      have ks2 := (cs.mod ((Mod.refl W5 (· = H + 4)).setCell (p := ⟨H + 4, 0, none⟩) (.inl rfl) (.pointer (some ⟨jb, 0, none⟩))) (by omega))
      have c1 := (cr.set 0 (.pointer (some ⟨jb, 0, none⟩))).mod ((Mod.refl _ (· = H + 5)).setCell (p := ⟨H + 5, 0, none⟩) (.inl rfl) (.int .i64 0)) (by omega)
      have c2 := ks2.set 0 (.int .i64 0)
      have fs2 := ks2.free 0
      have ks3 := ks2.cell 0
      simp at ks3
      clear hW5 mD hI hK kg kt kw kb hwri
      go_wp2_with fail
      rw [Exit.noGoto_ret]
      go_wp2_with fail
      have hlj := hI2.j.lt
      have hI3 : BegAt w H tb gp jb G ep jc W5 := hI2
      obtain ⟨W6, hW6⟩ : ∃ V, (W5.setCell ⟨H + 4, 0, none⟩ (.pointer (some ⟨jb, 0, none⟩))).setCell ⟨H + 5, 0, none⟩ (.int .i64 0) = V := ⟨_, rfl⟩
      change (W5.setCell ⟨H + 1 + 1 + 1 + 1, 0, none⟩ (.pointer (some ⟨jb, 0, none⟩))).setCell ⟨H + 1 + 1 + 1 + 1 + 1, 0, none⟩ (.int .i64 0) = _ at hW6
      change Mod W5 ((W5.setCell ⟨H + 1 + 1 + 1 + 1, 0, none⟩ (.pointer (some ⟨jb, 0, none⟩))).setCell ⟨H + 1 + 1 + 1 + 1 + 1, 0, none⟩ (.int .i64 0)) _ at mS
      change CellsAt ((W5.setCell ⟨H + 1 + 1 + 1 + 1, 0, none⟩ (.pointer (some ⟨jb, 0, none⟩))).setCell ⟨H + 1 + 1 + 1 + 1 + 1, 0, none⟩ (.int .i64 0)) _ _ _ at c1 c2
      rw [hW6] at mS c1 c2
      simp only [hW6]
      have DS := mS.keep hK2 (fun h => by omega)
      have mD : Mod W6 (W6.putObj D (.deferred none)) (· = D) := (Mod.refl _ (· = D)).putObj (.inl rfl) _
      have r1 := (c1.mod mD (by omega)).cell 0
      have r2 := (c2.mod mD (by omega)).cell 0
      simp at r1 r2
      have hJf := (hI3.j.mod mS (by omega)).mod mD (by omega)
      have hmf := (hI3.md.drop mS (fun k hk => .inr (by have := HH.out; omega))).drop mD (fun k (hk : k = D) => .inr (by have := HH.out; omega))
      refine ⟨by simp, .inl ⟨_, _, rfl, run_takeDeferred DS, ?_⟩⟩
      refine ⟨.tuple #[.pointer (some ⟨jb, 0, none⟩), .int .i64 0], ?_, jb, rfl, by have := HH.out; omega, by rw [HJC.out]; exact hJf, hmf⟩
      simp [results, Tryz.f31, go_sem, r1, r2]

end Go.Proofs.YtaeociedjdgdfaaGreatDoor

namespace Go.Proofs.YtaeociedjdgdfaaGreatDoor
open Go.RowKit Go.Shelf
set_option linter.unusedSimpArgs false

set_option maxRecDepth 100000 in
set_option maxHeartbeats 4000000 in
theorem begin_nilS (p : Option Addr) (job : List UInt8) (ep : Nat) (w : World) :
    Calls Tryz.prog 31 #[.pointer none, .pointer p, .agg (arrB job), .int .u64 ep, eyes0] w fun r w' => r = .returned (.tuple #[.pointer none, .int .i64 2]) ∧ Mod w w' Nob := by
  unfold eyes0
  refine (callsIn_wide (n := 6)).1 ?_
  refine callsIn_of_wp_marks Tryz.func31 rfl trivial ?_ rfl
  simp only [Tryz.ntmps31, List.size_toArray, List.length_cons, List.length_nil, Nat.reduceAdd, Nat.reduceSub, Array.replicate_succ, Array.replicate_zero, List.push_toArray, List.append_toArray, List.nil_append, List.cons_append]
  refine wpIn_wide.2 ?_
  go_wp2_with fail
  go_step3
  go_wp2_with fail
  rw [Exit.noGoto_ret]
  have r1 := (new_at (w := ((((w.alloc (.cells #[.pointer p] 26)).alloc (.cells (arrB job) 22)).alloc (.cells #[.int .u64 ep] 29)).alloc (.cells #[.nilFunc, .nilFunc] 89))) (cs := #[Value.pointer none]) (t := 33) (g := w.heap.size + 4) (by simp)).alloc (.cells #[.int .i64 2] 30)
  have r2 := new_at (w := ((((w.alloc (.cells #[.pointer p] 26)).alloc (.cells (arrB job) 22)).alloc (.cells #[.int .u64 ep] 29)).alloc (.cells #[.nilFunc, .nilFunc] 89)).alloc (.cells #[Value.pointer none] 33)) (cs := #[.int .i64 2]) (t := 30) (g := w.heap.size + 5) (by simp)
  have q1 := r1.cell 0
  have q2 := r2.cell 0
  simp at q1 q2
  refine ⟨.tuple #[.pointer none, .int .i64 2], ?_, ?_⟩
  · simp [results, Tryz.f31, go_sem, q1, q2]
  · exact ⟨rfl, ((((((Mod.refl w Nob).alloc _).alloc _).alloc _).alloc _).alloc _).alloc _⟩

set_option maxRecDepth 100000 in
set_option maxHeartbeats 4000000 in
theorem begin_nilT (a : Addr) (job : List UInt8) (ep : Nat) (w : World) :
    Calls Tryz.prog 31 #[.pointer (some a), .pointer none, .agg (arrB job), .int .u64 ep, eyes0] w fun r w' => r = .returned (.tuple #[.pointer none, .int .i64 2]) ∧ Mod w w' Nob := by
  unfold eyes0
  refine (callsIn_wide (n := 6)).1 ?_
  refine callsIn_of_wp_marks Tryz.func31 rfl trivial ?_ rfl
  simp only [Tryz.ntmps31, List.size_toArray, List.length_cons, List.length_nil, Nat.reduceAdd, Nat.reduceSub, Array.replicate_succ, Array.replicate_zero, List.push_toArray, List.append_toArray, List.nil_append, List.cons_append]
  refine wpIn_wide.2 ?_
  go_wp2_with fail
  go_step3
  go_wp2_with fail
  rw [Exit.noGoto_ret]
  have r1 := (new_at (w := ((((w.alloc (.cells #[.pointer none] 26)).alloc (.cells (arrB job) 22)).alloc (.cells #[.int .u64 ep] 29)).alloc (.cells #[.nilFunc, .nilFunc] 89))) (cs := #[Value.pointer none]) (t := 33) (g := w.heap.size + 4) (by simp)).alloc (.cells #[.int .i64 2] 30)
  have r2 := new_at (w := ((((w.alloc (.cells #[.pointer none] 26)).alloc (.cells (arrB job) 22)).alloc (.cells #[.int .u64 ep] 29)).alloc (.cells #[.nilFunc, .nilFunc] 89)).alloc (.cells #[Value.pointer none] 33)) (cs := #[.int .i64 2]) (t := 30) (g := w.heap.size + 5) (by simp)
  have q1 := r1.cell 0
  have q2 := r2.cell 0
  simp at q1 q2
  refine ⟨.tuple #[.pointer none, .int .i64 2], ?_, ?_⟩
  · simp [results, Tryz.f31, go_sem, q1, q2]
  · exact ⟨rfl, ((((((Mod.refl w Nob).alloc _).alloc _).alloc _).alloc _).alloc _).alloc _⟩

set_option maxRecDepth 100000 in
set_option maxHeartbeats 4000000 in
theorem begin_state (a : Addr) (tb : Nat) (τ : Tru) (job : List UInt8) (ep : Nat) (w : World) (hτ : TruAt w tb τ) (he : ep ≠ τ.ep) :
    Calls Tryz.prog 31 #[.pointer (some a), .pointer (some ⟨tb, 0, none⟩), .agg (arrB job), .int .u64 ep, eyes0] w fun r w' => r = .returned (.tuple #[.pointer none, .int .i64 13]) ∧ Mod w w' Nob := by
  unfold eyes0
  refine (callsIn_wide (n := 6)).1 ?_
  refine callsIn_of_wp_marks Tryz.func31 rfl trivial ?_ rfl
  simp only [Tryz.ntmps31, List.size_toArray, List.length_cons, List.length_nil, Nat.reduceAdd, Nat.reduceSub, Array.replicate_succ, Array.replicate_zero, List.push_toArray, List.append_toArray, List.nil_append, List.cons_append]
  refine wpIn_wide.2 ?_
  go_wp2_with fail
  go_step3
  go_wp2_with fail
  have m0 := ((((((Mod.refl w Nob).alloc (.cells #[.pointer (some ⟨tb, 0, none⟩)] 26)).alloc (.cells (arrB job) 22)).alloc (.cells #[.int .u64 ep] 29)).alloc (.cells #[.nilFunc, .nilFunc] 89)).alloc (.cells #[.pointer none] 33)).alloc (.cells #[.int .i64 0] 30)
  have cT := (((((CellsAt.new w #[.pointer (some ⟨tb, 0, none⟩)] 26).alloc (.cells (arrB job) 22)).alloc (.cells #[.int .u64 ep] 29)).alloc (.cells #[.nilFunc, .nilFunc] 89)).alloc (.cells #[.pointer none] 33)).alloc (.cells #[.int .i64 0] 30)
  have cE := (((new_at (w := (w.alloc (.cells #[.pointer (some ⟨tb, 0, none⟩)] 26)).alloc (.cells (arrB job) 22)) (cs := #[.int .u64 ep]) (t := 29) (g := w.heap.size + 2) (by simp)).alloc (.cells #[.nilFunc, .nilFunc] 89)).alloc (.cells #[.pointer none] 33)).alloc (.cells #[.int .i64 0] 30)
  have cR := (new_at (w := (((w.alloc (.cells #[.pointer (some ⟨tb, 0, none⟩)] 26)).alloc (.cells (arrB job) 22)).alloc (.cells #[.int .u64 ep] 29)).alloc (.cells #[.nilFunc, .nilFunc] 89)) (cs := #[.pointer none]) (t := 33) (g := w.heap.size + 4) (by simp)).alloc (.cells #[.int .i64 0] 30)
  have cS := new_at (w := ((((w.alloc (.cells #[.pointer (some ⟨tb, 0, none⟩)] 26)).alloc (.cells (arrB job) 22)).alloc (.cells #[.int .u64 ep] 29)).alloc (.cells #[.nilFunc, .nilFunc] 89)).alloc (.cells #[.pointer none] 33)) (cs := #[.int .i64 0]) (t := 30) (g := w.heap.size + 5) (by simp)
  have hz : ((((((w.alloc (.cells #[.pointer (some ⟨tb, 0, none⟩)] 26)).alloc (.cells (arrB job) 22)).alloc (.cells #[.int .u64 ep] 29)).alloc (.cells #[.nilFunc, .nilFunc] 89)).alloc (.cells #[.pointer none] 33)).alloc (.cells #[.int .i64 0] 30)).heap.size = w.heap.size + 6 := by simp
  obtain ⟨W1, hW1⟩ : ∃ W1, ((((((w.alloc (.cells #[.pointer (some ⟨tb, 0, none⟩)] 26)).alloc (.cells (arrB job) 22)).alloc (.cells #[.int .u64 ep] 29)).alloc (.cells #[.nilFunc, .nilFunc] 89)).alloc (.cells #[.pointer none] 33)).alloc (.cells #[.int .i64 0] 30)) = W1 := ⟨_, rfl⟩
  rw [hW1] at m0 cT cE cR cS hz ⊢
  obtain ⟨H, hH⟩ : ∃ H, w.heap.size = H := ⟨_, rfl⟩
  rw [hH] at cT cE cR cS hz ⊢
  have HH := Lib.hid hH
  have hτ1 := hτ.mod m0 nob
  clear hW1 hH
  have t6 := cT.cell 0
  have t8 := cE.cell 0
  simp at t6 t8
  by_cases h0 : ep = 0
  · have hep0 : ((ep : Int) == 0) = true := beq_iff_eq.2 (by omega)
    refine wp_no_panic ?_
    refine wp_region_still_lit (by kernel_rfl) (by kernel_rfl) ?_
    repeat still_step
    refine wpStill_nil ?_
    change Exit.then _ _ _ _ W1.drew
    have mD := (Mod.refl W1 Nob).drew
    replace cR := cR.mod mD nob
    replace cS := cS.mod mD nob
    replace m0 := m0.trans mD
    obtain ⟨W2, hW2⟩ : ∃ W, W1.drew = W := ⟨_, rfl⟩
    rw [hW2] at cR cS m0 ⊢
    have kr := cR.cell 0
    have fr := cR.free 0
    have mS := (Mod.refl W2 (· = H + 4)).setCell (p := ⟨H + 4, 0, none⟩) (.inl rfl) (.pointer none)
    have cS2 := cS.mod mS (by omega)
    have ks := cS2.cell 0
    have fs := cS2.free 0
    simp at kr ks
    have mT := (Mod.refl (W2.setCell ⟨H + 4, 0, none⟩ (.pointer none)) (· = H + 5)).setCell (p := ⟨H + 5, 0, none⟩) (.inl rfl) (.int .i64 13)
    have q1 := ((cR.set 0 (.pointer none)).mod mT (by omega)).cell 0
    have q2 := (cS2.set 0 (.int .i64 13)).cell 0
    simp at q1 q2
    have mf := (m0.drop mS (fun k (hk : k = H + 4) => .inr (by have := HH.out; omega))).drop mT (fun k (hk : k = H + 5) => .inr (by have := HH.out; omega))
    clear hW2 t6 t8 cT cE hτ1 cR cS cS2 mS mT
    go_wp2_with fail
    rw [Exit.noGoto_ret]
    refine ⟨.tuple #[.pointer none, .int .i64 13], ?_, ?_⟩
    · simp [results, Tryz.f31, go_sem, q1, q2]
    · exact ⟨rfl, mf⟩
  · have hep0 : ((ep : Int) == 0) = false := beq_eq_false_iff_ne.2 (by omega)
    have hne : ((ep : Int) != (τ.ep : Int)) = true := bne_iff_ne.2 (by omega)
    refine wp_no_panic ?_
    have hepo : Calls Tryz.prog 51 #[.pointer (some ⟨tb, 0, none⟩)] { W1 with drawn := W1.drawn + 1 } (fun e w' => e = .returned (.int .u64 τ.ep) ∧ w' = { W1 with drawn := W1.drawn + 1 }) :=
      (trust_epoch tb τ { W1 with drawn := W1.drawn + 1 } (hτ1.mod (Mod.refl W1 Nob).drew nob)).mono (fun e w' h => ⟨h.1, h.2.symm⟩)
    refine wp_region_still_lit (by kernel_rfl) (by kernel_rfl) ?_
    repeat still_step
    still_call hepo
    repeat still_step
    refine wpStill_nil ?_
    change Exit.then _ _ _ _ W1.drew
    have mD := (Mod.refl W1 Nob).drew
    replace cR := cR.mod mD nob
    replace cS := cS.mod mD nob
    replace m0 := m0.trans mD
    obtain ⟨W2, hW2⟩ : ∃ W, W1.drew = W := ⟨_, rfl⟩
    rw [hW2] at cR cS m0 ⊢
    have kr := cR.cell 0
    have fr := cR.free 0
    have mS := (Mod.refl W2 (· = H + 4)).setCell (p := ⟨H + 4, 0, none⟩) (.inl rfl) (.pointer none)
    have cS2 := cS.mod mS (by omega)
    have ks := cS2.cell 0
    have fs := cS2.free 0
    simp at kr ks
    have mT := (Mod.refl (W2.setCell ⟨H + 4, 0, none⟩ (.pointer none)) (· = H + 5)).setCell (p := ⟨H + 5, 0, none⟩) (.inl rfl) (.int .i64 13)
    have q1 := ((cR.set 0 (.pointer none)).mod mT (by omega)).cell 0
    have q2 := (cS2.set 0 (.int .i64 13)).cell 0
    simp at q1 q2
    have mf := (m0.drop mS (fun k (hk : k = H + 4) => .inr (by have := HH.out; omega))).drop mT (fun k (hk : k = H + 5) => .inr (by have := HH.out; omega))
    clear hW2 t6 t8 cT cE hτ1 cR cS cS2 mS mT
    go_wp2_with fail
    rw [Exit.noGoto_ret]
    refine ⟨.tuple #[.pointer none, .int .i64 13], ?_, ?_⟩
    · simp [results, Tryz.f31, go_sem, q1, q2]
    · exact ⟨rfl, mf⟩

end Go.Proofs.YtaeociedjdgdfaaGreatDoor

namespace Go.Proofs.YtaeociedjdgdfaaGreatDoor
open Go.RowKit Go.Shelf
set_option linter.unusedSimpArgs false

set_option maxRecDepth 100000 in
set_option maxHeartbeats 1000000 in
theorem open_of (sv tv : Value) (job : List UInt8) (hj : job.length = 32) (ep : Nat) (w : World) (R : Value → Value → World → Prop)
    (hB : Calls Tryz.prog 31 #[sv, tv, .agg (arrB job), .int .u64 ep, eyes0] (w.alloc (.cells (arrB job) 22)) fun e w' => ∃ v1 v2, e = .returned (.tuple #[v1, v2]) ∧ R v1 v2 w') :
    Calls Tryz.prog 10 #[sv, tv, .agg (arrB job), .int .u64 ep] w fun e w' => ∃ v1 v2, e = .returned (.tuple #[v1, v2]) ∧ R v1 v2 w' := by
  unfold eyes0 at hB
  have hjs : (arrB job).size = 32 := by rw [arrB_size, hj]
  have c := CellsAt.new w (arrB job) 22
  go_enter Tryz.func10, Tryz.ntmps10
  go_wp2_with (refine wpList_load_arr rfl 22 _ rfl w.heap.size 32 5 rfl (arrB job) (by exact c) Tryz.underlying22 size_b32 hjs ?_)
  refine hB.mono ?_
  rintro e w' ⟨v1, v2, rfl, hr⟩
  go_wp2_with fail
  exact bodyPost_ret (v := .tuple #[v1, v2]) (by simp [results, Tryz.f10, go_sem]) rfl ⟨v1, v2, rfl, hr⟩

set_option maxRecDepth 100000 in
set_option maxHeartbeats 1000000 in
theorem put_nil (e : Ent) (w : World) : Calls Tryz.prog 32 #[.pointer none, .agg e.cells.toArray, eyes0] w fun r w' => r = .returned (.int .i64 2) ∧ Mod w w' Nob := by
  unfold eyes0
  go_enter Tryz.func32, Tryz.ntmps32
  go_wp2_with fail
  go_ret
  exact ⟨rfl, ((Mod.refl w Nob).alloc _).alloc _⟩

/-- Write is Put without eyes. -/
theorem write_of (jv : Value) (e : Ent) (w : World) (R : Value → World → Prop)
    (hP : Calls Tryz.prog 32 #[jv, .agg e.cells.toArray, eyes0] (w.alloc (.cells e.cells.toArray 38)) fun r w' => ∃ v, r = .returned v ∧ R v w') :
    Calls Tryz.prog 11 #[jv, .agg e.cells.toArray] w fun r w' => ∃ v, r = .returned v ∧ R v w' := by
  unfold eyes0 at hP
  have c := CellsAt.new w e.cells.toArray 38
  go_enter Tryz.func11, Tryz.ntmps11
  go_wp2_with (refine wpList_load_mid rfl 38 _ rfl w.heap.size 0 rfl e.cells _ (fun q u hq => by rw [Nat.zero_add, c.cell q]; simpa using hq) Tryz.underlying38 rfl (by kernel_rfl) ?_)
  refine hP.mono ?_
  rintro r w' ⟨v, rfl, hr⟩
  go_wp2_with fail
  go_ret
  exact ⟨v, rfl, hr⟩

set_option maxRecDepth 100000 in
set_option maxHeartbeats 1000000 in
theorem commit_nil (w : World) : Calls Tryz.prog 12 #[.pointer none] w fun r w' => r = .returned (.int .i64 2) ∧ w' = w := by
  go_enter Tryz.func12, Tryz.ntmps12
  go_wp2_with fail
  go_ret
  exact ⟨rfl, rfl⟩
set_option maxRecDepth 100000 in
set_option maxHeartbeats 1000000 in
theorem entries_nil (w : World) : Calls Tryz.prog 21 #[.pointer none] w fun r w' => r = .returned (.slice none 0 0) ∧ w' = w := by
  go_enter Tryz.func21, Tryz.ntmps21
  go_wp2_with fail
  go_ret
  exact ⟨rfl, rfl⟩
set_option maxRecDepth 100000 in
set_option maxHeartbeats 1000000 in
theorem waiting_nil (w : World) : Calls Tryz.prog 29 #[.pointer none] w fun r w' => r = .returned (.bool false) ∧ w' = w := by
  go_enter Tryz.func29, Tryz.ntmps29
  go_wp2_with fail
  go_ret
  exact ⟨rfl, rfl⟩
set_option maxRecDepth 100000 in
set_option maxHeartbeats 1000000 in
theorem waiting_any (J : Nat) (v : Bool) (w : World) (h : w.cell? ⟨J, 100, none⟩ = some (.bool v)) : Calls Tryz.prog 29 #[.pointer (some ⟨J, 0, none⟩)] w fun r w' => r = .returned (.bool v) ∧ w' = w := by
  go_enter Tryz.func29, Tryz.ntmps29
  go_wp2_with fail
  go_ret
  exact ⟨rfl, rfl⟩

end Go.Proofs.YtaeociedjdgdfaaGreatDoor

namespace Go.Proofs.YtaeociedjdgdfaaGreatDoor
open Go.RowKit Go.Shelf

theorem range_of {w : World} {b : Nat} {t : TypeId} {pre vs post : List Value} {o : Nat} (h : CellsAt w b (pre ++ (vs ++ post)).toArray t) (ho : pre.length = o) : w.rangeAt b o vs := fun j v hv => by
  have hj := (List.getElem?_eq_some_iff.1 hv).1
  rw [h.cell]
  simp only [List.getElem?_toArray]
  rw [List.getElem?_append_right (by omega), List.getElem?_append_left (by omega), ho, Nat.add_sub_cancel_left]
  exact hv
theorem there_of {w : World} {b : Nat} {t : TypeId} {pre vs post : List Value} {o : Nat} (h : CellsAt w b (pre ++ (vs ++ post)).toArray t) (ho : pre.length = o) : w.there b o vs.length := fun j hj => by
  refine ⟨?_, h.free _⟩
  rw [range_of h ho j _ (List.getElem?_eq_getElem hj)]
  rfl
theorem set_mid {b : Nat} {t : TypeId} (post : List Value) : ∀ (vs old pre : List Value) (o : Nat) {w : World}, CellsAt w b (pre ++ (old ++ post)).toArray t → pre.length = o → old.length = vs.length → CellsAt (w.setCells b o vs) b (pre ++ (vs ++ post)).toArray t
  | [], [], _, _, _, h, _, _ => h
  | [], _ :: _, _, _, _, _, _, h => by cases h
  | _ :: _, [], _, _, _, _, _, h => by cases h
  | v :: vs, u :: old, pre, o, w, h, ho, hl => by
    have h1 := h.set o v
    have e : (pre ++ (u :: old ++ post)).toArray.setIfInBounds o v = ((pre ++ [v]) ++ (old ++ post)).toArray := by
      subst ho
      simp
    rw [e] at h1
    have h2 := set_mid post vs old (pre ++ [v]) (o + 1) h1 (by simp [ho]) (by simpa using hl)
    have e2 : (pre ++ [v]) ++ (vs ++ post) = pre ++ (v :: vs ++ post) := by simp
    rw [e2] at h2
    exact h2
theorem Mod.setCells {a : World} {S : Nat → Prop} {b : Nat} : ∀ (vs : List Value) (o : Nat) {w : World}, Mod a w S → S b → Mod a (w.setCells b o vs) S
  | [], _, _, h, _ => h
  | v :: vs, o, _, h, hb => Mod.setCells vs (o + 1) (h.setCell (p := ⟨b, o, none⟩) (.inl hb) v) hb

/-- What is read of a journal. -/
structure JFacts (w : World) (J : Nat) (s t : Value) (key : List UInt8) (ep : Nat) (ev : Value) (last next : List UInt8) (wv : Bool) (e : Ent) : Prop where
  s : w.cell? ⟨J, 0, none⟩ = some s
  t : w.cell? ⟨J, 1, none⟩ = some t
  key : w.rangeAt J 2 (key.map B)
  ep : w.cell? ⟨J, 34, none⟩ = some (.int .u64 ep)
  ev : w.cell? ⟨J, 35, none⟩ = some ev
  last : w.rangeAt J 36 (last.map B)
  next : w.rangeAt J 68 (next.map B)
  wv : w.cell? ⟨J, 100, none⟩ = some (.bool wv)
  e : w.rangeAt J 101 e.cells
theorem JFacts.of {w : World} {J : Nat} {s t : Value} {key : List UInt8} {ep : Nat} {ev : Value} {last next : List UInt8} {wv : Bool} {e : Ent} {ty : TypeId} (h : CellsAt w J (jcells s t key ep ev last next wv e).toArray ty) (h1 : key.length = 32) (h2 : last.length = 32) (h3 : next.length = 32) : JFacts w J s t key ep ev last next wv e := by
  have g : ∀ (pre vs post : List Value) (o : Nat), jcells s t key ep ev last next wv e = pre ++ (vs ++ post) → pre.length = o → w.rangeAt J o vs := fun pre vs post o e1 e2 => by
    rw [e1] at h
    exact range_of h e2
  have one : ∀ (pre : List Value) (v : Value) (post : List Value) (o : Nat), jcells s t key ep ev last next wv e = pre ++ ([v] ++ post) → pre.length = o → w.cell? ⟨J, o, none⟩ = some v := fun pre v post o e1 e2 => by
    have := g pre [v] post o e1 e2 0 v rfl
    simpa using this
  exact ⟨one [] s ([t] ++ (key.map B ++ ([.int .u64 ep, ev] ++ (last.map B ++ (next.map B ++ (.bool wv :: e.cells)))))) 0 rfl rfl,
    one [s] t (key.map B ++ ([.int .u64 ep, ev] ++ (last.map B ++ (next.map B ++ (.bool wv :: e.cells))))) 1 rfl rfl,
    g [s, t] (key.map B) ([.int .u64 ep, ev] ++ (last.map B ++ (next.map B ++ (.bool wv :: e.cells)))) 2 rfl rfl,
    one ([s, t] ++ key.map B) (.int .u64 ep) ([ev] ++ (last.map B ++ (next.map B ++ (.bool wv :: e.cells)))) 34 (by simp [jcells]) (by simp [h1]),
    one ([s, t] ++ (key.map B ++ [.int .u64 ep])) ev (last.map B ++ (next.map B ++ (.bool wv :: e.cells))) 35 (by simp [jcells]) (by simp [h1]),
    g ([s, t] ++ (key.map B ++ [.int .u64 ep, ev])) (last.map B) (next.map B ++ (.bool wv :: e.cells)) 36 (by simp [jcells]) (by simp [h1]),
    g ([s, t] ++ (key.map B ++ ([.int .u64 ep, ev] ++ last.map B))) (next.map B) (.bool wv :: e.cells) 68 (by simp [jcells]) (by simp [h1, h2]),
    one ([s, t] ++ (key.map B ++ ([.int .u64 ep, ev] ++ (last.map B ++ next.map B)))) (.bool wv) e.cells 100 (by simp [jcells]) (by simp [h1, h2, h3]),
    g ([s, t] ++ (key.map B ++ ([.int .u64 ep, ev] ++ (last.map B ++ (next.map B ++ [.bool wv]))))) e.cells [] 101 (by simp [jcells]) (by simp [h1, h2, h3])⟩

end Go.Proofs.YtaeociedjdgdfaaGreatDoor

namespace Go.Proofs.YtaeociedjdgdfaaGreatDoor
open Go.RowKit Go.Shelf
set_option linter.unusedSimpArgs false

set_option maxRecDepth 100000 in
set_option maxHeartbeats 4000000 in
theorem put_ok (J b ep m : Nat) (tv : Value) (ea : Option Addr) (ec : Nat) (σ : Sto) (x : StoB) (key last next : List UInt8) (e0 e : Ent) (w : World)
    (hJ : CellsAt w J (jcells (.pointer (some ⟨b, 0, none⟩)) tv key ep (.slice ea m ec) last next false e0).toArray 92) (hm : m < 98) (hk : key.length = 32) (hl : last.length = 32) (hnx : next.length = 32) (hep : ep < 1073741824)
    (hσ : StoreAt w b σ x) (hJf : ¬ x.foot b J) (hc : σ.changes.length < 1073741824) (hp : σ.puts.length < 1073741824) (hv : (σ.vers (nameS (m + 1))).length < 1073741824) :
    Calls Tryz.prog 32 #[.pointer (some ⟨J, 0, none⟩), .agg e.cells.toArray, eyes0] w fun r w' => r = .returned (.int .i64 0) ∧
      CellsAt w' J (jcells (.pointer (some ⟨b, 0, none⟩)) tv key ep (.slice ea m ec) last (linkL (entryL key ep (m + 1) e last)) true e).toArray 92 ∧
      (∃ x', StoreAt w' b (σ.put (nameS (m + 1)) (entryL key ep (m + 1) e last)) x' ∧ ∀ k, x'.foot b k → x.foot b k ∨ w.heap.size ≤ k) ∧ Mod w w' (fun k => k = J ∨ x.own b k) := by
  have hnm := fun W => name_any (m + 1) W (by omega)
  have hel96 := entryL_length key ep (m + 1) e last hl
  obtain ⟨nm, hnmS⟩ : ∃ y, nameS (m + 1) = y := ⟨_, rfl⟩
  obtain ⟨en, hen⟩ : ∃ y, entryL key ep (m + 1) e last = y := ⟨_, rfl⟩
  have HEN := Box.mk hen
  rw [hnmS] at hnm hv ⊢
  rw [hen] at hel96 ⊢
  rw [show (((m + 1 : Nat) : Int)) = (m : Int) + 1 by omega] at hnm
  clear hnmS hen
  have hF := JFacts.of hJ hk hl hnx
  have f100 := hF.wv
  have f35 := hF.ev
  have hconv : IntKind.u64.wrap (m : Int) = (m : Int) := u64_wrap_id _ (by omega) (by omega)
  have hadd : IntKind.u64.wrap ((m : Int) + 1) = (m : Int) + 1 := u64_wrap_id _ (by omega) (by omega)
  have hlJ := hJ.lt
  unfold eyes0
  have m0 := ((Mod.refl w Nob).alloc (.cells e.cells.toArray 38)).alloc (.cells #[.nilFunc, .nilFunc] 89)
  have cE := (CellsAt.new w e.cells.toArray 38).alloc (.cells #[.nilFunc, .nilFunc] 89)
  have cY := new_at (w := w.alloc (.cells e.cells.toArray 38)) (cs := #[.nilFunc, .nilFunc]) (t := 89) (g := w.heap.size + 1) (by simp)
  have hz : ((w.alloc (.cells e.cells.toArray 38)).alloc (.cells #[.nilFunc, .nilFunc] 89)).heap.size = w.heap.size + 2 := by simp
  have hel : e.cells.length = 4 := rfl
  have y0 := cY.cell 0
  have y1 := cY.cell 1
  simp at y0 y1
  go_enter Tryz.func32, Tryz.ntmps32
  go_wp2_with (refine wpList_load_mid rfl 38 _ rfl w.heap.size 0 rfl e.cells _ (fun q u hq => by rw [Nat.zero_add]; exact (cE.cell q).trans (by simpa using hq)) Tryz.underlying38 rfl (by kernel_rfl) ?_)
  obtain ⟨W1, hW1⟩ : ∃ V, (w.alloc (.cells e.cells.toArray 38)).alloc (.cells #[.nilFunc, .nilFunc] 89) = V := ⟨_, rfl⟩
  change Calls _ _ #[_, _, _, eyes0] ((w.alloc (.cells e.cells.toArray 38)).alloc (.cells #[.nilFunc, .nilFunc] 89)) _
  rw [hW1] at m0 cE cY hz ⊢
  obtain ⟨H, hH⟩ : ∃ H, w.heap.size = H := ⟨_, rfl⟩
  rw [hH] at cE cY hz hlJ ⊢
  have HH := Lib.hid hH
  have hJ1 := hJ.mod m0 nob
  have hF1 := JFacts.of hJ1 hk hl hnx
  have hσ1 := hσ.mod m0 (fun _ h => h.elim)
  have hse := sealed_any J ep (m + 1) key last e W1 hk hl hep hF1.key hF1.ep hF1.last (by omega)
  rw [HEN.out, show (((m + 1 : Nat) : Int)) = (m : Int) + 1 by omega] at hse
  clear hW1 hH hF f100 f35 y0 y1 hconv hadd
  refine hse.mono ?_
  rintro r W2 ⟨ba, bc, rfl, hown, m1⟩
  replace m0 := m0.trans m1
  replace cE := cE.mod m1 nob
  replace cY := cY.mod m1 nob
  replace hJ1 := hJ1.mod m1 nob
  replace hσ1 := hσ1.mod m1 (fun _ h => h.elim)
  have hz2 := m1.size
  clear hse hF1 m1
  go_wp2_with fail
  refine wp_no_panic ?_
  have mD := (Mod.refl W2 Nob).drew
  replace m0 := m0.trans mD
  replace cE := cE.mod mD nob
  replace cY := cY.mod mD nob
  replace hJ1 := hJ1.mod mD nob
  replace hσ1 := hσ1.mod mD (fun _ h => h.elim)
  replace hown := owns_mod hown mD (fun _ _ => nob)
  have hz3 : W2.drew.heap.size = W2.heap.size := rfl
  have hS0 : W2.drew.cell? ⟨J, 0, none⟩ = some (.pointer (some ⟨b, 0, none⟩)) := (JFacts.of hJ1 hk hl hnx).s
  refine wp_region_U (S := fun W => W.cell? ⟨J, 0, none⟩ = some (.pointer (some ⟨b, 0, none⟩))) 7 (by kernel_rfl) ?_
  change wpAnyU _ _ _ _ _ _ _ _ _ W2.drew
  obtain ⟨V0, hV0⟩ : ∃ V, W2.drew = V := ⟨_, rfl⟩
  rw [hV0] at m0 cE cY hJ1 hσ1 hown hz3 hS0 ⊢
  have HZ3 := Box.mk hz3
  clear hV0 mD hz3
  refine wpAnyU_takeP (i := 0) (v := .pointer (some ⟨J, 0, none⟩)) rfl (by kernel_rfl) (by kernel_rfl) (by kernel_rfl) (by decide) (fun _ _ _ h => h) (Or.inl ⟨by rfl, fun W => by go_simp⟩) (fun _ => hS0) ?_
  try simp only [Act.put, List.getElem_toArray, List.getElem_cons_zero, List.getElem_cons_succ, List.setIfInBounds_toArray, List.set_cons_zero, List.set_cons_succ]
  refine wpAnyU_takeP (i := 1) (v := .pointer (some ⟨J, 0, none⟩)) rfl (by kernel_rfl) (by kernel_rfl) (by kernel_rfl) (by decide) (fun _ _ _ h => h) (Or.inl ⟨by rfl, fun W => by go_simp⟩) (fun _ => hS0) ?_
  try simp only [Act.put, List.getElem_toArray, List.getElem_cons_zero, List.getElem_cons_succ, List.setIfInBounds_toArray, List.set_cons_zero, List.set_cons_succ]
  refine wpAnyU_takeP (i := 2) (v := .pointer (some ⟨J, 0, none⟩)) rfl (by kernel_rfl) (by kernel_rfl) (by kernel_rfl) (by decide) (fun _ _ _ h => h) (Or.inl ⟨by rfl, fun W => by go_simp⟩) (fun _ => hS0) ?_
  try simp only [Act.put, List.getElem_toArray, List.getElem_cons_zero, List.getElem_cons_succ, List.setIfInBounds_toArray, List.set_cons_zero, List.set_cons_succ]
  refine wpAnyU_take (i := 3) (v := .pointer (some ⟨b, 0, none⟩)) rfl (by kernel_rfl) (by kernel_rfl) (by kernel_rfl) (by kernel_rfl) (by kernel_rfl) (fun _ _ _ h => h) (Or.inl ⟨by rfl, fun W hS => by have y := hS; go_simp⟩) hS0 ?_
  try simp only [Act.put, List.getElem_toArray, List.getElem_cons_zero, List.getElem_cons_succ, List.setIfInBounds_toArray, List.set_cons_zero, List.set_cons_succ]
  refine wpAnyU_takeP (i := 4) (v := .int .u64 ((m : Int) + 1)) rfl (by kernel_rfl) (by kernel_rfl) (by kernel_rfl) (by decide) (fun _ _ _ h => h) (Or.inl ⟨by rfl, fun W => by go_simp⟩) (fun _ => hS0) ?_
  try simp only [Act.put, List.getElem_toArray, List.getElem_cons_zero, List.getElem_cons_succ, List.setIfInBounds_toArray, List.set_cons_zero, List.set_cons_succ]
  refine wpAnyU_takeP (i := 6) (v := .slice ba 96 bc) rfl (by kernel_rfl) (by kernel_rfl) (by kernel_rfl) (by decide) (fun _ _ _ h => h) (Or.inl ⟨by rfl, fun W => by go_simp⟩) (fun _ => hS0) ?_
  try simp only [Act.put, List.getElem_toArray, List.getElem_cons_zero, List.getElem_cons_succ, List.setIfInBounds_toArray, List.set_cons_zero, List.set_cons_succ]
  refine wpAnyU_one 5 _ (by kernel_rfl) rfl (fun K hK => ?_)
  go_simp
  refine (hnm _).mono ?_
  rintro r V ⟨rfl, rfl⟩
  go_wp2_with fail
  refine hK.out _ _ (fun _ => hS0) ?_
  clear hK K
  try simp only [Act.put, List.getElem_toArray, List.getElem_cons_zero, List.getElem_cons_succ, List.setIfInBounds_toArray, List.set_cons_zero, List.set_cons_succ]
  refine wpAnyU_last (by kernel_rfl) (by simp) ?_
  refine wpAny_tail _ 7 _ _ _ (by kernel_rfl) ?_
  simp only [List.drop_succ_cons, List.drop_zero]
  have hput := put_any b σ x nm _ en V hσ1 (BytesAt.of_owns hown) (by omega) hc hp hv
  clear hS0
  go_wp2_with fail
  refine hput.mono ?_
  rintro r W3 ⟨x', rfl, hσ3, hstep⟩
  have m3 := hstep.mod
  have hfoot := hstep.foot
  have hz4 := m3.size
  have hlo : ∀ k, H ≤ k → ¬ x.own b k := fun k hk2 ho => by have := hσ.foot_lt k (.inl ho); have := HH.out; omega
  replace cE := cE.mod m3 (hlo _ (by omega))
  replace cY := cY.mod m3 (hlo _ (by omega))
  replace hJ1 := hJ1.mod m3 (fun h => hJf (.inl h))
  have hown3 := owns_mod hown m3 (fun k hk2 => hlo k (by have := (hown.lt k hk2).1; omega))
  have mm := (m0.wide (T := fun k => k = J ∨ x.own b k) (fun _ h => h.elim)).trans (m3.wide (T := fun k => k = J ∨ x.own b k) (fun _ h => .inl (.inr h)))
  have hfoot2 : ∀ k, x'.foot b k → x.foot b k ∨ H ≤ k := fun k hk2 => (hfoot k hk2).imp id (fun h => by have := m0.size; have := HH.out; omega)
  clear hput hown hstep m3 m0 hσ1 hfoot
  go_wp2_with fail
  refine wp_no_panic ?_
  have mD := (Mod.refl W3 Nob).drew
  replace mm := mm.drew
  replace cE := cE.mod mD nob
  replace cY := cY.mod mD nob
  replace hJ1 := hJ1.mod mD nob
  replace hσ3 := hσ3.mod mD (fun _ h => h.elim)
  have hown4 := owns_mod hown3 mD (fun _ _ => nob)
  have hS0 := cY
  refine wp_region_U (S := fun W => CellsAt W (H + 1) #[.nilFunc, .nilFunc] 89) 5 (by kernel_rfl) ?_
  change wpAnyU _ _ _ _ _ _ _ _ _ W3.drew
  obtain ⟨V1, hV1⟩ : ∃ V, W3.drew = V := ⟨_, rfl⟩
  rw [hV1] at mm cE cY hJ1 hσ3 hown4 hS0 ⊢
  clear hV1 mD hown3
  refine wpAnyU_take (i := 0) (v := .agg #[.nilFunc, .nilFunc]) rfl (by kernel_rfl) (by kernel_rfl) (by kernel_rfl) (by kernel_rfl) (by kernel_rfl) (fun _ _ _ h => h) (Or.inl ⟨by rfl, fun W hS => by have y := hS.cell 0; have y2 := hS.cell 1; simp at y y2; go_simp⟩) hS0 ?_
  try simp only [Act.put, List.getElem_toArray, List.getElem_cons_zero, List.getElem_cons_succ, List.setIfInBounds_toArray, List.set_cons_zero, List.set_cons_succ]
  refine wpAnyU_takeP (i := 1) (v := .int .u64 ((m : Int) + 1)) rfl (by kernel_rfl) (by kernel_rfl) (by kernel_rfl) (by decide) (fun _ _ _ h => h) (Or.inl ⟨by rfl, fun W => by go_simp⟩) (fun _ => hS0) ?_
  try simp only [Act.put, List.getElem_toArray, List.getElem_cons_zero, List.getElem_cons_succ, List.setIfInBounds_toArray, List.set_cons_zero, List.set_cons_succ]
  refine wpAnyU_takeP (i := 3) (v := .slice ba 96 bc) rfl (by kernel_rfl) (by kernel_rfl) (by kernel_rfl) (by decide) (fun _ _ _ h => h) (Or.inl ⟨by rfl, fun W => by go_simp⟩) (fun _ => hS0) ?_
  try simp only [Act.put, List.getElem_toArray, List.getElem_cons_zero, List.getElem_cons_succ, List.setIfInBounds_toArray, List.set_cons_zero, List.set_cons_succ]
  refine wpAnyU_takeP (i := 4) (v := .int .i64 96) rfl (by kernel_rfl) (by kernel_rfl) (by kernel_rfl) (by decide) (fun _ _ _ h => h) (Or.inl ⟨by rfl, fun W => by go_simp⟩) (fun _ => hS0) ?_
  try simp only [Act.put, List.getElem_toArray, List.getElem_cons_zero, List.getElem_cons_succ, List.setIfInBounds_toArray, List.set_cons_zero, List.set_cons_succ]
  refine wpAnyU_one 2 _ (by kernel_rfl) rfl (fun K hK => ?_)
  go_simp
  refine (hnm _).mono ?_
  rintro r V' ⟨rfl, rfl⟩
  go_wp2_with fail
  refine hK.out _ _ (fun _ => hS0) ?_
  clear hK K
  try simp only [Act.put, List.getElem_toArray, List.getElem_cons_zero, List.getElem_cons_succ, List.setIfInBounds_toArray, List.set_cons_zero, List.set_cons_succ]
  refine wpAnyU_last (by kernel_rfl) (by simp) ?_
  refine wpAny_tail _ 5 _ _ _ (by kernel_rfl) ?_
  simp only [List.drop_succ_cons, List.drop_zero]
  go_wp2_with fail
  change Calls _ _ #[eyes0, _, _, _] _ _
  refine (note_any _ nm _ _).mono ?_
  rintro r W4 ⟨⟨nv, rfl⟩, m5⟩
  replace mm := mm.trans (m5.wide (T := fun k => k = J ∨ x.own b k) (fun _ h => h.elim))
  replace cE := cE.mod m5 nob
  replace hJ1 := hJ1.mod m5 nob
  replace hσ3 := hσ3.mod m5 (fun _ h => h.elim)
  have hown5 := owns_mod hown4 m5 (fun _ _ => nob)
  clear hS0 m5 cY hown4
  go_wp2_with fail
  refine wp_no_panic ?_
  have mD := (Mod.refl W4 Nob).drew
  replace mm := mm.drew
  replace cE := cE.mod mD nob
  replace hJ1 := hJ1.mod mD nob
  replace hσ3 := hσ3.mod mD (fun _ h => h.elim)
  have hown6 := owns_mod hown5 mD (fun _ _ => nob)
  have hrg : ∀ W, CellsAt W H e.cells.toArray 38 → W.rangeAt H 0 e.cells := fun W h q u hq => by rw [Nat.zero_add]; exact (h.cell q).trans (by simpa using hq)
  have hS0 := cE
  refine wp_region_U (S := fun W => CellsAt W H e.cells.toArray 38) 8 (by kernel_rfl) ?_
  change wpAnyU _ _ _ _ _ _ _ _ _ W4.drew
  obtain ⟨V2, hV2⟩ : ∃ V, W4.drew = V := ⟨_, rfl⟩
  rw [hV2] at mm cE hJ1 hσ3 hown6 hS0 ⊢
  clear hV2 mD hown5
  refine wpAnyU_takeP (i := 0) (v := .pointer (some ⟨J, 0, none⟩)) rfl (by kernel_rfl) (by kernel_rfl) (by kernel_rfl) (by decide) (fun _ _ _ h => h) (Or.inl ⟨by rfl, fun W => by go_simp⟩) (fun _ => hS0) ?_
  try simp only [Act.put, List.getElem_toArray, List.getElem_cons_zero, List.getElem_cons_succ, List.setIfInBounds_toArray, List.set_cons_zero, List.set_cons_succ]
  refine wpAnyU_takeP (i := 1) (v := .pointer (some ⟨J, 0, none⟩)) rfl (by kernel_rfl) (by kernel_rfl) (by kernel_rfl) (by decide) (fun _ _ _ h => h) (Or.inl ⟨by rfl, fun W => by go_simp⟩) (fun _ => hS0) ?_
  try simp only [Act.put, List.getElem_toArray, List.getElem_cons_zero, List.getElem_cons_succ, List.setIfInBounds_toArray, List.set_cons_zero, List.set_cons_succ]
  refine wpAnyU_takeP (i := 2) (v := .pointer (some ⟨J, 0, none⟩)) rfl (by kernel_rfl) (by kernel_rfl) (by kernel_rfl) (by decide) (fun _ _ _ h => h) (Or.inl ⟨by rfl, fun W => by go_simp⟩) (fun _ => hS0) ?_
  try simp only [Act.put, List.getElem_toArray, List.getElem_cons_zero, List.getElem_cons_succ, List.setIfInBounds_toArray, List.set_cons_zero, List.set_cons_succ]
  refine wpAnyU_take (i := 3) (v := .agg e.cells.toArray) rfl (by kernel_rfl) (by kernel_rfl) (by kernel_rfl) (by kernel_rfl) (by kernel_rfl) (fun _ _ _ h => h) (yieldsIf_load_mid (by rfl) 38 _ rfl H 0 rfl e.cells _ hrg Tryz.underlying38 rfl (by kernel_rfl)) hS0 ?_
  try simp only [Act.put, List.getElem_toArray, List.getElem_cons_zero, List.getElem_cons_succ, List.setIfInBounds_toArray, List.set_cons_zero, List.set_cons_succ]
  refine wpAnyU_takeP (i := 4) (v := .slice ba 96 bc) rfl (by kernel_rfl) (by kernel_rfl) (by kernel_rfl) (by decide) (fun _ _ _ h => h) (Or.inl ⟨by rfl, fun W => by go_simp⟩) (fun _ => hS0) ?_
  try simp only [Act.put, List.getElem_toArray, List.getElem_cons_zero, List.getElem_cons_succ, List.setIfInBounds_toArray, List.set_cons_zero, List.set_cons_succ]
  refine wpAnyU_one 5 _ (by kernel_rfl) rfl (fun K hK => ?_)
  go_simp
  refine (linked_any ba 96 bc en V2 (BytesAt.of_owns hown6) hel96 (by omega) (by omega)).mono ?_
  rintro r W5 ⟨rfl, m6⟩
  go_wp2_with fail
  have hS1 := hS0.mod m6 nob
  refine hK.out _ _ (fun _ => hS1) ?_
  clear hK K
  try simp only [Act.put, List.getElem_toArray, List.getElem_cons_zero, List.getElem_cons_succ, List.setIfInBounds_toArray, List.set_cons_zero, List.set_cons_succ]
  refine wpAnyU_takeP (i := 6) (v := .pointer (some ⟨J, 0, none⟩)) rfl (by kernel_rfl) (by kernel_rfl) (by kernel_rfl) (by decide) (fun _ _ _ h => h) (Or.inl ⟨by rfl, fun W => by go_simp⟩) (fun _ => hS1) ?_
  try simp only [Act.put, List.getElem_toArray, List.getElem_cons_zero, List.getElem_cons_succ, List.setIfInBounds_toArray, List.set_cons_zero, List.set_cons_succ]
  refine wpAnyU_takeP (i := 7) (v := .pointer (some ⟨J, 101, none⟩)) rfl (by kernel_rfl) (by kernel_rfl) (by kernel_rfl) (by decide) (fun _ _ _ h => h) (Or.inl ⟨by rfl, fun W => by go_simp⟩) (fun _ => hS1) ?_
  try simp only [Act.put, List.getElem_toArray, List.getElem_cons_zero, List.getElem_cons_succ, List.setIfInBounds_toArray, List.set_cons_zero, List.set_cons_succ]
  replace mm := mm.trans (m6.wide (T := fun k => k = J ∨ x.own b k) (fun _ h => h.elim))
  replace hJ1 := hJ1.mod m6 nob
  replace hσ3 := hσ3.mod m6 (fun _ h => h.elim)
  have hlk := linkL_length en (by omega)
  obtain ⟨lk, hlk0⟩ : ∃ y, linkL en = y := ⟨_, rfl⟩
  have HLK := Box.mk hlk0
  rw [hlk0] at hlk ⊢
  clear hS0 hS1 m6 hown6 hrg hlk0 cE
  refine wpAnyU_last (by kernel_rfl) (by simp) ?_
  refine wpAny_tail _ 8 _ _ _ (by kernel_rfl) ?_
  simp only [List.drop_succ_cons, List.drop_zero]
  have p1 : jcells (.pointer (some ⟨b, 0, none⟩)) tv key ep (.slice ea m ec) last next false e0 = ([.pointer (some ⟨b, 0, none⟩), tv] ++ (key.map B ++ ([.int .u64 ep, .slice ea m ec] ++ (last.map B ++ (next.map B ++ [.bool false]))))) ++ (e0.cells ++ []) := by simp [jcells]
  have p2 : ([.pointer (some ⟨b, 0, none⟩), tv] ++ (key.map B ++ ([.int .u64 ep, .slice ea m ec] ++ (last.map B ++ (next.map B ++ [.bool false]))))) ++ (e.cells ++ []) = ([.pointer (some ⟨b, 0, none⟩), tv] ++ (key.map B ++ ([.int .u64 ep, .slice ea m ec] ++ last.map B))) ++ (next.map B ++ (.bool false :: e.cells)) := by simp
  have p3 : ([.pointer (some ⟨b, 0, none⟩), tv] ++ (key.map B ++ ([.int .u64 ep, .slice ea m ec] ++ last.map B))) ++ (lk.map B ++ (.bool false :: e.cells)) = ([.pointer (some ⟨b, 0, none⟩), tv] ++ (key.map B ++ ([.int .u64 ep, .slice ea m ec] ++ (last.map B ++ lk.map B)))) ++ ([.bool false] ++ e.cells) := by simp
  have p4 : ([.pointer (some ⟨b, 0, none⟩), tv] ++ (key.map B ++ ([.int .u64 ep, .slice ea m ec] ++ (last.map B ++ lk.map B)))) ++ ([.bool true] ++ e.cells) = jcells (.pointer (some ⟨b, 0, none⟩)) tv key ep (.slice ea m ec) last lk true e := by simp [jcells]
  rw [p1] at hJ1
  have t1 := there_of (o := 101) hJ1 (by simp [hk, hl, hnx])
  have s1 := set_mid [] e.cells e0.cells _ 101 hJ1 (by simp [hk, hl, hnx]) rfl
  have mE1 := Mod.setCells (b := J) e.cells 101 (Mod.refl W5 (· = J)) rfl
  obtain ⟨X1, hX1⟩ : ∃ X, W5.setCells J 101 e.cells = X := ⟨_, rfl⟩
  rw [hX1] at s1 mE1
  rw [p2] at s1
  have t2 := there_of (o := 68) s1 (by simp [hk, hl])
  have s2 := set_mid (.bool false :: e.cells) (lk.map B) (next.map B) _ 68 s1 (by simp [hk, hl]) (by simp [hnx, hlk])
  have mE2 := Mod.setCells (b := J) (lk.map B) 68 mE1 rfl
  obtain ⟨X2, hX2⟩ : ∃ X, X1.setCells J 68 (lk.map B) = X := ⟨_, rfl⟩
  rw [hX2] at s2 mE2
  rw [p3] at s2
  have t3 := range_of (o := 100) s2 (by simp [hk, hl, hlk]) 0 _ rfl
  have f3 := s2.free 100
  have s3 := set_mid e.cells [.bool true] [.bool false] _ 100 s2 (by simp [hk, hl, hlk]) rfl
  rw [p4] at s3
  change CellsAt (X2.setCell ⟨J, 100, none⟩ (.bool true)) _ _ _ at s3
  have mE := mE2.setCell (p := ⟨J, 100, none⟩) (.inl rfl) (.bool true)
  rw [Nat.add_zero] at t3
  rw [List.length_map, hnx] at t2
  have HX1 := Box.mk hX1
  have HX2 := Box.mk hX2
  have has := arrB_size lk
  rw [hlk] at has
  clear hJ1 s1 s2 p1 p2 p3 p4 mE1 mE2 hX1 hX2
  go_wp2_with (first
    | (refine wpList_store_mid rfl 38 _ _ rfl J 101 e.cells.toArray rfl rfl t1 (by kernel_rfl) (all_oneCell_toArray (by simp [Ent.cells, Value.oneCell'])) ?_; rw [show W5.setCells J 101 e.cells.toArray.toList = X1 from HX1.out])
    | (refine wpList_store_mid rfl 22 _ _ rfl J 68 (arrB lk) rfl rfl (by rw [has]; exact t2) (by rw [has]; exact size_b32) (arrB_one _) ?_; rw [show X1.setCells J 68 (arrB lk).toList = X2 from HX2.out]))
  go_ret
  refine ⟨rfl, by rw [HLK.out]; exact s3, ⟨x', hσ3.mod mE (fun k hk2 hf => ?_), fun k hk2 => ?_⟩, mm.trans (mE.wide (fun _ h => .inl (.inl h)))⟩
  · subst hk2
    rcases hfoot2 _ hf with h | h
    · exact hJf h
    · omega
  · rw [HH.out]
    exact hfoot2 k hk2

end Go.Proofs.YtaeociedjdgdfaaGreatDoor

namespace Go.Proofs.YtaeociedjdgdfaaGreatDoor
open Go.RowKit Go.Shelf
set_option linter.unusedSimpArgs false

theorem info_ent : (Tryz.prog.info? 38).map (fun i => (i.zero, i.size, i.bytes)) = some (some (.agg #[.int .i64 0, .int .i64 0, .int .u64 0, .int .i64 0]), 4, 32) := by kernel_rfl

set_option maxRecDepth 100000 in
set_option maxHeartbeats 4000000 in
theorem commit_ok (J tb base m : Nat) (sv : Value) (ea : Option Addr) (ec : Nat) (es : List Ent) (key last next : List UInt8) (e : Ent) (τ : Tru) (w : World)
    (hJ : CellsAt w J (jcells sv (.pointer (some ⟨tb, 0, none⟩)) key τ.ep (.slice ea m ec) last next true e).toArray 92) (hm : m < 98) (hk : key.length = 32) (hl : last.length = 32) (hnx : next.length = 32)
    (hown : w.ownsRow base 38 4 (.slice ea m ec) m (es.flatMap Ent.cells)) (hbase : base ≤ w.heap.size)
    (hτ : TruAt w tb τ) (h0 : 0 < τ.ep) (hc : τ.cnt < 1099511627776) (hJt : J ≠ tb) (hJo : ¬ inBlock (.slice ea m ec) J) (hto : ¬ inBlock (.slice ea m ec) tb) :
    Calls Tryz.prog 12 #[.pointer (some ⟨J, 0, none⟩)] w fun r w' => r = .returned (.int .i64 0) ∧ ∃ g c,
      CellsAt w' J (jcells sv (.pointer (some ⟨tb, 0, none⟩)) key τ.ep (.slice (some ⟨g, 0, none⟩) (m + 1) c) next next false e).toArray 92 ∧
      w'.ownsRow base 38 4 (.slice (some ⟨g, 0, none⟩) (m + 1) c) (m + 1) ((es ++ [e]).flatMap Ent.cells) ∧ TruAt w' tb ⟨τ.ep, τ.cnt + 1, τ.ep⟩ ∧
      Mod w w' (fun k => k = J ∨ k = tb ∨ inBlock (.slice ea m ec) k) ∧ (ea = some ⟨g, 0, none⟩ ∨ w.heap.size ≤ g) := by
  have hF := JFacts.of hJ hk hl hnx
  have f100 := hF.wv
  have hlJ := hJ.lt
  have mD := (Mod.refl w Nob).drew
  have hJ0 := hJ.mod mD nob
  have hτ0 := hτ.mod mD nob
  have hown0 := owns_mod hown mD (fun _ _ => nob)
  have hmv := trust_move tb τ w.drew hτ0 h0 hc
  go_enter Tryz.func12, Tryz.ntmps12
  go_wp2_with fail
  refine wp_no_panic ?_
  have hS0 := hJ0
  refine wp_region_U (S := fun W => CellsAt W J (jcells sv (.pointer (some ⟨tb, 0, none⟩)) key τ.ep (.slice ea m ec) last next true e).toArray 92) 9 (by kernel_rfl) ?_
  change wpAnyU _ _ _ _ _ _ _ _ _ w.drew
  refine wpAnyU_takeP (i := 0) (v := .pointer (some ⟨J, 0, none⟩)) rfl (by kernel_rfl) (by kernel_rfl) (by kernel_rfl) (by decide) (fun _ _ _ h => h) (Or.inl ⟨by rfl, fun W => by go_simp⟩) (fun _ => hS0) ?_
  try simp only [Act.put, List.getElem_toArray, List.getElem_cons_zero, List.getElem_cons_succ, List.setIfInBounds_toArray, List.set_cons_zero, List.set_cons_succ]
  refine wpAnyU_takeP (i := 1) (v := .pointer (some ⟨J, 0, none⟩)) rfl (by kernel_rfl) (by kernel_rfl) (by kernel_rfl) (by decide) (fun _ _ _ h => h) (Or.inl ⟨by rfl, fun W => by go_simp⟩) (fun _ => hS0) ?_
  try simp only [Act.put, List.getElem_toArray, List.getElem_cons_zero, List.getElem_cons_succ, List.setIfInBounds_toArray, List.set_cons_zero, List.set_cons_succ]
  refine wpAnyU_takeP (i := 2) (v := .pointer (some ⟨J, 1, none⟩)) rfl (by kernel_rfl) (by kernel_rfl) (by kernel_rfl) (by decide) (fun _ _ _ h => h) (Or.inl ⟨by rfl, fun W => by go_simp⟩) (fun _ => hS0) ?_
  try simp only [Act.put, List.getElem_toArray, List.getElem_cons_zero, List.getElem_cons_succ, List.setIfInBounds_toArray, List.set_cons_zero, List.set_cons_succ]
  refine wpAnyU_take (i := 3) (v := .pointer (some ⟨tb, 0, none⟩)) rfl (by kernel_rfl) (by kernel_rfl) (by kernel_rfl) (by kernel_rfl) (by kernel_rfl) (fun _ _ _ h => h) (Or.inl ⟨by rfl, fun W hS => by have y := (JFacts.of hS hk hl hnx).t; go_simp⟩) hS0 ?_
  try simp only [Act.put, List.getElem_toArray, List.getElem_cons_zero, List.getElem_cons_succ, List.setIfInBounds_toArray, List.set_cons_zero, List.set_cons_succ]
  refine wpAnyU_takeP (i := 4) (v := .pointer (some ⟨J, 0, none⟩)) rfl (by kernel_rfl) (by kernel_rfl) (by kernel_rfl) (by decide) (fun _ _ _ h => h) (Or.inl ⟨by rfl, fun W => by go_simp⟩) (fun _ => hS0) ?_
  try simp only [Act.put, List.getElem_toArray, List.getElem_cons_zero, List.getElem_cons_succ, List.setIfInBounds_toArray, List.set_cons_zero, List.set_cons_succ]
  refine wpAnyU_takeP (i := 5) (v := .pointer (some ⟨J, 0, none⟩)) rfl (by kernel_rfl) (by kernel_rfl) (by kernel_rfl) (by decide) (fun _ _ _ h => h) (Or.inl ⟨by rfl, fun W => by go_simp⟩) (fun _ => hS0) ?_
  try simp only [Act.put, List.getElem_toArray, List.getElem_cons_zero, List.getElem_cons_succ, List.setIfInBounds_toArray, List.set_cons_zero, List.set_cons_succ]
  refine wpAnyU_takeP (i := 6) (v := .pointer (some ⟨J, 34, none⟩)) rfl (by kernel_rfl) (by kernel_rfl) (by kernel_rfl) (by decide) (fun _ _ _ h => h) (Or.inl ⟨by rfl, fun W => by go_simp⟩) (fun _ => hS0) ?_
  try simp only [Act.put, List.getElem_toArray, List.getElem_cons_zero, List.getElem_cons_succ, List.setIfInBounds_toArray, List.set_cons_zero, List.set_cons_succ]
  refine wpAnyU_take (i := 7) (v := .int .u64 τ.ep) rfl (by kernel_rfl) (by kernel_rfl) (by kernel_rfl) (by kernel_rfl) (by kernel_rfl) (fun _ _ _ h => h) (Or.inl ⟨by rfl, fun W hS => by have y := (JFacts.of hS hk hl hnx).ep; go_simp⟩) hS0 ?_
  try simp only [Act.put, List.getElem_toArray, List.getElem_cons_zero, List.getElem_cons_succ, List.setIfInBounds_toArray, List.set_cons_zero, List.set_cons_succ]
  refine wpAnyU_one 8 _ (by kernel_rfl) rfl (fun K hK => ?_)
  go_simp
  refine hmv.mono ?_
  rintro r W1 ⟨rfl, hτ1, m1⟩
  have hJ1 := hJ0.mod m1 hJt
  go_wp2_with fail
  refine hK.out _ _ (fun _ => hJ1) ?_
  clear hK K hmv hS0
  try simp only [Act.put, List.getElem_toArray, List.getElem_cons_zero, List.getElem_cons_succ, List.setIfInBounds_toArray, List.set_cons_zero, List.set_cons_succ]
  have hown1 := owns_mod hown0 m1 (fun k hk2 h => hto (h ▸ hk2))
  have mm := ((mD.wide (T := fun k => k = J ∨ k = tb ∨ inBlock (.slice ea m ec) k) (fun _ h => h.elim)).trans (m1.wide (T := fun k => k = J ∨ k = tb ∨ inBlock (.slice ea m ec) k) (fun _ h => .inl (.inr (.inl h)))))
  clear hJ0 hτ0 hown0 m1 mD hF f100
  refine wpAnyU_last (by kernel_rfl) (by simp) ?_
  refine wpAny_tail _ 9 _ _ _ (by kernel_rfl) ?_
  simp only [List.drop_succ_cons, List.drop_zero]
  go_wp2_with fail
  refine wp_no_panic ?_
  have mD := (Mod.refl W1 Nob).drew
  replace hJ1 := hJ1.mod mD nob
  replace hτ1 := hτ1.mod mD nob
  replace hown1 := owns_mod hown1 mD (fun _ _ => nob)
  replace mm := mm.drew
  have hz1 := mm.size
  have hS0 := hJ1
  refine wp_region_U (S := fun W => CellsAt W J (jcells sv (.pointer (some ⟨tb, 0, none⟩)) key τ.ep (.slice ea m ec) last next true e).toArray 92) 13 (by kernel_rfl) ?_
  change wpAnyU _ _ _ _ _ _ _ _ _ W1.drew
  obtain ⟨V0, hV0⟩ : ∃ V, W1.drew = V := ⟨_, rfl⟩
  rw [hV0] at hJ1 hτ1 hown1 mm hz1 hS0 ⊢
  clear hV0 mD
  refine wpAnyU_takeP (i := 0) (v := .pointer (some ⟨J, 0, none⟩)) rfl (by kernel_rfl) (by kernel_rfl) (by kernel_rfl) (by decide) (fun _ _ _ h => h) (Or.inl ⟨by rfl, fun W => by go_simp⟩) (fun _ => hS0) ?_
  try simp only [Act.put, List.getElem_toArray, List.getElem_cons_zero, List.getElem_cons_succ, List.setIfInBounds_toArray, List.set_cons_zero, List.set_cons_succ]
  refine wpAnyU_takeP (i := 1) (v := .pointer (some ⟨J, 0, none⟩)) rfl (by kernel_rfl) (by kernel_rfl) (by kernel_rfl) (by decide) (fun _ _ _ h => h) (Or.inl ⟨by rfl, fun W => by go_simp⟩) (fun _ => hS0) ?_
  try simp only [Act.put, List.getElem_toArray, List.getElem_cons_zero, List.getElem_cons_succ, List.setIfInBounds_toArray, List.set_cons_zero, List.set_cons_succ]
  refine wpAnyU_takeP (i := 2) (v := .pointer (some ⟨J, 0, none⟩)) rfl (by kernel_rfl) (by kernel_rfl) (by kernel_rfl) (by decide) (fun _ _ _ h => h) (Or.inl ⟨by rfl, fun W => by go_simp⟩) (fun _ => hS0) ?_
  try simp only [Act.put, List.getElem_toArray, List.getElem_cons_zero, List.getElem_cons_succ, List.setIfInBounds_toArray, List.set_cons_zero, List.set_cons_succ]
  refine wpAnyU_takeP (i := 3) (v := .pointer (some ⟨J, 35, none⟩)) rfl (by kernel_rfl) (by kernel_rfl) (by kernel_rfl) (by decide) (fun _ _ _ h => h) (Or.inl ⟨by rfl, fun W => by go_simp⟩) (fun _ => hS0) ?_
  try simp only [Act.put, List.getElem_toArray, List.getElem_cons_zero, List.getElem_cons_succ, List.setIfInBounds_toArray, List.set_cons_zero, List.set_cons_succ]
  refine wpAnyU_take (i := 4) (v := .slice ea m ec) rfl (by kernel_rfl) (by kernel_rfl) (by kernel_rfl) (by kernel_rfl) (by kernel_rfl) (fun _ _ _ h => h) (Or.inl ⟨by rfl, fun W hS => by have y := (JFacts.of hS hk hl hnx).ev; go_simp⟩) hS0 ?_
  try simp only [Act.put, List.getElem_toArray, List.getElem_cons_zero, List.getElem_cons_succ, List.setIfInBounds_toArray, List.set_cons_zero, List.set_cons_succ]
  refine wpAnyU_takeP (i := 5) (v := .pointer (some ⟨J, 0, none⟩)) rfl (by kernel_rfl) (by kernel_rfl) (by kernel_rfl) (by decide) (fun _ _ _ h => h) (Or.inl ⟨by rfl, fun W => by go_simp⟩) (fun _ => hS0) ?_
  try simp only [Act.put, List.getElem_toArray, List.getElem_cons_zero, List.getElem_cons_succ, List.setIfInBounds_toArray, List.set_cons_zero, List.set_cons_succ]
  refine wpAnyU_takeP (i := 6) (v := .pointer (some ⟨J, 0, none⟩)) rfl (by kernel_rfl) (by kernel_rfl) (by kernel_rfl) (by decide) (fun _ _ _ h => h) (Or.inl ⟨by rfl, fun W => by go_simp⟩) (fun _ => hS0) ?_
  try simp only [Act.put, List.getElem_toArray, List.getElem_cons_zero, List.getElem_cons_succ, List.setIfInBounds_toArray, List.set_cons_zero, List.set_cons_succ]
  refine wpAnyU_takeP (i := 7) (v := .pointer (some ⟨J, 101, none⟩)) rfl (by kernel_rfl) (by kernel_rfl) (by kernel_rfl) (by decide) (fun _ _ _ h => h) (Or.inl ⟨by rfl, fun W => by go_simp⟩) (fun _ => hS0) ?_
  try simp only [Act.put, List.getElem_toArray, List.getElem_cons_zero, List.getElem_cons_succ, List.setIfInBounds_toArray, List.set_cons_zero, List.set_cons_succ]
  refine wpAnyU_take (i := 8) (v := .agg #[.int .i64 e.kind, .int .i64 e.task, .int .u64 e.att, .int .i64 e.state]) rfl (by kernel_rfl) (by kernel_rfl) (by kernel_rfl) (by kernel_rfl) (by kernel_rfl) (fun _ _ _ h => h) (yieldsIf_load_mid (by rfl) 38 _ rfl J 101 rfl e.cells _ (fun W hS => (JFacts.of hS hk hl hnx).e) Tryz.underlying38 rfl (by kernel_rfl)) hS0 ?_
  try simp only [Act.put, List.getElem_toArray, List.getElem_cons_zero, List.getElem_cons_succ, List.setIfInBounds_toArray, List.set_cons_zero, List.set_cons_succ]
  have mX := (Mod.refl V0 Nob).alloc (.cells #[.int .i64 e.kind, .int .i64 e.task, .int .u64 e.att, .int .i64 e.state] 38)
  have cX := CellsAt.new V0 #[.int .i64 e.kind, .int .i64 e.task, .int .u64 e.att, .int .i64 e.state] 38
  have hJ2 := hJ1.mod mX nob
  have hown2 := owns_mod hown1 mX (fun _ _ => nob)
  have hzX : (V0.alloc (.cells #[.int .i64 e.kind, .int .i64 e.task, .int .u64 e.att, .int .i64 e.state] 38)).heap.size = V0.heap.size + 1 := by simp
  obtain ⟨i0, hi, hi0, hi1, hi2⟩ := info_parts info_ent
  obtain ⟨g, cap, V2, hrun, r1, r2, r3, r4⟩ := run_append_lies (P := Tryz.prog) (V0.alloc (.cells #[.int .i64 e.kind, .int .i64 e.task, .int .u64 e.att, .int .i64 e.state] 38)) 23 23 base 38 i0 _ 4 32 Tryz.underlying23 hi hi0 hi1 hi2 rfl (by omega) (.slice ea m ec) m _ hown2 ⟨V0.heap.size, 0, none⟩ 1 1 e.cells rfl (fun q u hq => by
    have hadd : (⟨V0.heap.size, 0, none⟩ : Addr).add q = ⟨V0.heap.size, q, none⟩ := by unfold Addr.add; split <;> simp_all
    rw [hadd, cX.cell q]
    simpa [Ent.cells] using hq) (by simp [Ent.cells, Value.oneCell']) (by omega) (by unfold maxLen; omega) (by omega) (by omega) (V0.heap.size + 1) hzX
  refine wpAnyU_one 9 _ (by kernel_rfl) rfl (fun K hK => ?_)
  go_simp
  refine hK.out _ _ (fun _ => hJ2) ?_
  clear hK K
  try simp only [Act.put, List.getElem_toArray, List.getElem_cons_zero, List.getElem_cons_succ, List.setIfInBounds_toArray, List.set_cons_zero, List.set_cons_succ]
  have m3 : Mod (V0.alloc (.cells #[.int .i64 e.kind, .int .i64 e.task, .int .u64 e.att, .int .i64 e.state] 38)) V2 (inBlock (.slice ea m ec)) := (Mod.refl _ _).grown r2 (fun k hk2 => .inl hk2)
  have hJ3 := hJ2.mod m3 hJo
  refine wpAnyU_one 10 _ (by kernel_rfl) rfl (fun K hK => ?_)
  rw [if_pos (by rfl)]
  refine wp_append_run (.tmp 29) (.tmp 34) 23 23 rfl _ _ rfl rfl _ _ hrun ?_
  refine hK.out _ _ (fun _ => hJ3) ?_
  clear hK K hrun
  try simp only [Act.put, List.getElem_toArray, List.getElem_cons_zero, List.getElem_cons_succ, List.setIfInBounds_toArray, List.set_cons_zero, List.set_cons_succ]
  refine wpAnyU_takeP (i := 11) (v := .pointer (some ⟨J, 0, none⟩)) rfl (by kernel_rfl) (by kernel_rfl) (by kernel_rfl) (by decide) (fun _ _ _ h => h) (Or.inl ⟨by rfl, fun W => by go_simp⟩) (fun _ => hJ3) ?_
  try simp only [Act.put, List.getElem_toArray, List.getElem_cons_zero, List.getElem_cons_succ, List.setIfInBounds_toArray, List.set_cons_zero, List.set_cons_succ]
  refine wpAnyU_takeP (i := 12) (v := .pointer (some ⟨J, 35, none⟩)) rfl (by kernel_rfl) (by kernel_rfl) (by kernel_rfl) (by decide) (fun _ _ _ h => h) (Or.inl ⟨by rfl, fun W => by go_simp⟩) (fun _ => hJ3) ?_
  try simp only [Act.put, List.getElem_toArray, List.getElem_cons_zero, List.getElem_cons_succ, List.setIfInBounds_toArray, List.set_cons_zero, List.set_cons_succ]
  have hτ3 := (hτ1.mod mX nob).mod m3 hto
  have mm3 := (mm.trans (mX.wide (T := fun k => k = J ∨ k = tb ∨ inBlock (.slice ea m ec) k) (fun _ h => h.elim))).trans (m3.wide (T := fun k => k = J ∨ k = tb ∨ inBlock (.slice ea m ec) k) (fun _ h => .inl (.inr (.inr h))))
  have hge : (ea = some ⟨g, 0, none⟩ ∨ w.heap.size ≤ g) := by
    rcases r3 with h | h
    · left
      rcases hown.2 with ⟨h5, _⟩ | ⟨g', cap', cur, h5, _⟩
      · cases h5; cases h
      · cases h5; cases h; rfl
    · right; omega
  have hgJ : g ≠ J := by
    rcases r3 with h | h
    · intro h2; exact hJo (h2 ▸ h)
    · omega
  have hgt : g ≠ tb := by
    rcases r3 with h | h
    · intro h2; exact hto (h2 ▸ h)
    · have := CellsAt.lt (show CellsAt w tb _ _ from hτ); omega
  clear hS0 hJ1 hτ1 hown1 mm hJ2 hown2 m3 mX cX hi hi0 hi1 hi2 r2 r3 hzX
  refine wpAnyU_last (by kernel_rfl) (by simp) ?_
  refine wpAny_tail _ 13 _ _ _ (by kernel_rfl) ?_
  simp only [List.drop_succ_cons, List.drop_zero]
  have p1 : jcells sv (.pointer (some ⟨tb, 0, none⟩)) key τ.ep (.slice ea m ec) last next true e = ([sv, .pointer (some ⟨tb, 0, none⟩)] ++ (key.map B ++ [.int .u64 τ.ep])) ++ ([.slice ea m ec] ++ (last.map B ++ (next.map B ++ (.bool true :: e.cells)))) := by simp [jcells]
  have p2 : ([sv, .pointer (some ⟨tb, 0, none⟩)] ++ (key.map B ++ [.int .u64 τ.ep])) ++ ([.slice (some ⟨g, 0, none⟩) (m + 1) cap] ++ (last.map B ++ (next.map B ++ (.bool true :: e.cells)))) = ([sv, .pointer (some ⟨tb, 0, none⟩)] ++ (key.map B ++ [.int .u64 τ.ep, .slice (some ⟨g, 0, none⟩) (m + 1) cap])) ++ (last.map B ++ (next.map B ++ (.bool true :: e.cells))) := by simp
  have p3 : ([sv, .pointer (some ⟨tb, 0, none⟩)] ++ (key.map B ++ [.int .u64 τ.ep, .slice (some ⟨g, 0, none⟩) (m + 1) cap])) ++ (next.map B ++ (next.map B ++ (.bool true :: e.cells))) = ([sv, .pointer (some ⟨tb, 0, none⟩)] ++ (key.map B ++ ([.int .u64 τ.ep, .slice (some ⟨g, 0, none⟩) (m + 1) cap] ++ (next.map B ++ next.map B)))) ++ ([.bool true] ++ e.cells) := by simp
  have p4 : ([sv, .pointer (some ⟨tb, 0, none⟩)] ++ (key.map B ++ ([.int .u64 τ.ep, .slice (some ⟨g, 0, none⟩) (m + 1) cap] ++ (next.map B ++ next.map B)))) ++ ([.bool false] ++ e.cells) = jcells sv (.pointer (some ⟨tb, 0, none⟩)) key τ.ep (.slice (some ⟨g, 0, none⟩) (m + 1) cap) next next false e := by simp [jcells]
  rw [p1] at hJ3
  have t1 := range_of (o := 35) hJ3 (by simp [hk]) 0 _ rfl
  have f1 := hJ3.free 35
  have s1 := set_mid (last.map B ++ (next.map B ++ (.bool true :: e.cells))) [.slice (some ⟨g, 0, none⟩) (m + 1) cap] [.slice ea m ec] _ 35 hJ3 (by simp [hk]) rfl
  change CellsAt (V2.setCell ⟨J, 35, none⟩ (.slice (some ⟨g, 0, none⟩) (m + 1) cap)) _ _ _ at s1
  have mE1 := (Mod.refl V2 (· = J)).setCell (p := ⟨J, 35, none⟩) (.inl rfl) (.slice (some ⟨g, 0, none⟩) (m + 1) cap)
  obtain ⟨X1, hX1⟩ : ∃ X, V2.setCell ⟨J, 35, none⟩ (.slice (some ⟨g, 0, none⟩) (m + 1) cap) = X := ⟨_, rfl⟩
  rw [hX1] at s1 mE1
  have f68 : X1.rangeAt J 68 (next.map B) := range_of (pre := [sv, .pointer (some ⟨tb, 0, none⟩)] ++ (key.map B ++ ([.int .u64 τ.ep, .slice (some ⟨g, 0, none⟩) (m + 1) cap] ++ last.map B))) (post := .bool true :: e.cells) (by have := s1; simpa using this) (by simp [hk, hl])
  rw [p2] at s1
  have t2 := there_of (o := 36) s1 (by simp [hk])
  have s2 := set_mid (next.map B ++ (.bool true :: e.cells)) (next.map B) (last.map B) _ 36 s1 (by simp [hk]) (by simp [hl, hnx])
  have mE2 := Mod.setCells (b := J) (next.map B) 36 mE1 rfl
  obtain ⟨X2, hX2⟩ : ∃ X, X1.setCells J 36 (next.map B) = X := ⟨_, rfl⟩
  rw [hX2] at s2 mE2
  rw [p3] at s2
  have t3 := range_of (o := 100) s2 (by simp [hk, hnx]) 0 _ rfl
  have f3 := s2.free 100
  have s3 := set_mid e.cells [.bool false] [.bool true] _ 100 s2 (by simp [hk, hnx]) rfl
  rw [p4] at s3
  change CellsAt (X2.setCell ⟨J, 100, none⟩ (.bool false)) _ _ _ at s3
  have mE := mE2.setCell (p := ⟨J, 100, none⟩) (.inl rfl) (.bool false)
  rw [Nat.add_zero] at t1 t3
  rw [List.length_map, hl] at t2
  have HX1 := Box.mk hX1
  have HX2 := Box.mk hX2
  have hns : (arrB next).size = 32 := by rw [arrB_size, hnx]
  clear hJ3 s1 s2 p1 p2 p3 p4 mE1 mE2 hX2
  go_wp2_with (first
    | (refine wpList_load_mid rfl 22 _ rfl J 68 rfl (next.map B) _ f68 Tryz.underlying22 rfl (by rw [List.length_map, hnx]; exact size_b32) ?_)
    | (refine wpList_store_mid rfl 22 _ _ rfl J 36 (arrB next) rfl rfl (by rw [hns]; exact t2) (by rw [hns]; exact size_b32) (arrB_one _) ?_; rw [show X1.setCells J 36 (arrB next).toList = X2 from HX2.out]))
  go_ret
  refine ⟨rfl, g, cap, s3, ?_, (hτ3.mod mE hJt.symm), mm3.trans (mE.wide (fun _ h => .inl (.inl h))), hge⟩
  rw [List.flatMap_append]
  have := owns_keep r1 mE hgJ
  simpa using this

end Go.Proofs.YtaeociedjdgdfaaGreatDoor

namespace Go.Proofs.YtaeociedjdgdfaaGreatDoor
open Go.RowKit Go.Shelf
set_option linter.unusedSimpArgs false

set_option maxRecDepth 100000 in
set_option maxHeartbeats 1000000 in
theorem clone_ents (v : Value) (n : Nat) (xs : List Value) (w : World) (h : w.ownsRow 0 38 4 v n xs) (h1 : ∀ u ∈ xs, u.oneCell' = true) (hn : n < 1073741824) :
    Calls Tryz.prog 46 #[v] w fun e w' => ∃ a c, e = .returned (.slice a n c) ∧ w'.ownsRow w.heap.size 38 4 (.slice a n c) n xs ∧ Mod w w' Nob := by
  obtain ⟨i0, hi, hz0, hz1, hz2⟩ := info_parts info_ent
  obtain ⟨a, c, rfl, _, _⟩ := owns_form h
  have hne := @Lib.run_eql_slice_nil Tryz.prog
  rcases h.2 with ⟨e0, e1⟩ | ⟨g, cap', cur, e0, _⟩
  · cases e0
    have hx : xs = [] := List.eq_nil_of_length_eq_zero (by simpa using h.1)
    subst hx
    go_enter Tryz.func46, Tryz.ntmps46
    go_wp2
    go_ret
    exact ⟨_, _, rfl, World.ownsRow_nil _ _ _ _, Mod.refl _ _⟩
  · cases e0
    have hA := (Mod.refl w Nob).alloc (.cells #[] 38)
    have ho := owns_mod h hA (fun _ _ => nob)
    have hown := World.ownsRow_made (base := w.heap.size) (e := 38) (size := 4) w #[] 0 (Nat.le_refl _) (by unfold maxLen; omega) (by simp)
    have hl := ho.1
    have hc : ∀ j u, xs[j]? = some u → (w.alloc (.cells #[] 38)).cell? ((⟨g, 0, none⟩ : Addr).add j) = some u := ho.cells (g := g) rfl
    go_enter Tryz.func46, Tryz.ntmps46
    obtain ⟨v', w', hrun, r1, r2, r3, r4⟩ := run_append_at (P := Tryz.prog) (w.alloc (.cells #[] 38)) 23 23 38 i0 _ 4 32 Tryz.underlying23 hi hz0 hz1 hz2 rfl (by omega) w.heap.size (.slice (some ⟨w.heap.size, 0, none⟩) 0 0) 0 [] (by simpa using hown) ⟨g, 0, none⟩ n c xs (by omega) hc h1 (by unfold maxLen; omega) (by omega) (by simp)
    go_wp2_with (at_builtin; refine wpList_append_run (P := Tryz.prog) _ rfl (.tmp 5) (.tmp 6) 23 23 rfl _ _ rfl rfl v' w' hrun ?_)
    go_ret
    rw [Nat.zero_add, List.nil_append] at r1
    obtain ⟨a', c', rfl, _, _⟩ := owns_form r1
    exact ⟨a', c', rfl, r1, ((Mod.refl w Nob).alloc _).grown r2 (fun k hk => by simp [Value.ownBlock] at hk; omega)⟩

theorem ents_one (es : List Ent) : ∀ u ∈ es.flatMap Ent.cells, u.oneCell' = true := fun u hu => by
  obtain ⟨e, _, h⟩ := List.mem_flatMap.1 hu
  simp [Ent.cells] at h
  rcases h with rfl | rfl | rfl | rfl <;> rfl

set_option maxRecDepth 100000 in
set_option maxHeartbeats 1000000 in
theorem entries_any (J m : Nat) (ea : Option Addr) (ec base : Nat) (es : List Ent) (w : World) (h35 : w.cell? ⟨J, 35, none⟩ = some (.slice ea m ec)) (hown : w.ownsRow base 38 4 (.slice ea m ec) m (es.flatMap Ent.cells)) (hm : m < 1073741824) :
    Calls Tryz.prog 21 #[.pointer (some ⟨J, 0, none⟩)] w fun e w' => ∃ a c, e = .returned (.slice a m c) ∧ w'.ownsRow w.heap.size 38 4 (.slice a m c) m (es.flatMap Ent.cells) ∧ Mod w w' Nob := by
  have hcl := clone_ents _ m _ w (owns_base hown) (ents_one es) hm
  go_enter Tryz.func21, Tryz.ntmps21
  go_wp2_with fail
  refine hcl.mono ?_
  rintro r w' ⟨a, c, rfl, h1, h2⟩
  go_wp2_with fail
  go_ret
  exact ⟨a, c, rfl, h1, h2⟩

end Go.Proofs.YtaeociedjdgdfaaGreatDoor

namespace Go.Proofs.YtaeociedjdgdfaaGreatDoor
open Go.RowKit Go.Shelf
set_option linter.unusedSimpArgs false

theorem short_new : sto0.short := fun nm l h => by cases h
/-- A new journal is opened. -/
theorem open_new (b tb : Nat) (x : StoB) (ep : Nat) (job : List UInt8) (w : World) (hσ : StoreAt w b sto0 x) (hτ : TruAt w tb ⟨ep, 0, 0⟩) (he : 0 < ep) (h60 : ep < 1073741824) (hj : job.length = 32) :
    Calls Tryz.prog 10 #[.pointer (some ⟨b, 0, none⟩), .pointer (some ⟨tb, 0, none⟩), .agg (arrB job), .int .u64 ep] w fun e w' => ∃ J, e = .returned (.tuple #[.pointer (some ⟨J, 0, none⟩), .int .i64 0]) ∧ w.heap.size ≤ J ∧
      CellsAt w' J (jcells (.pointer (some ⟨b, 0, none⟩)) (.pointer (some ⟨tb, 0, none⟩)) (journalK job) ep (.slice none 0 0) zl32 zl32 false ent0).toArray 92 ∧ Mod w w' Nob := by
  have hA := (Mod.refl w Nob).alloc (.cells (arrB job) 22)
  have hb := begin_empty b tb sto0 x ⟨ep, 0, 0⟩ job _ (hσ.mod hA (fun _ h => h.elim)) short_new rfl (hτ.mod hA nob) rfl rfl he h60 hj
  have ho := open_of (.pointer (some ⟨b, 0, none⟩)) (.pointer (some ⟨tb, 0, none⟩)) job hj ep w (fun v1 v2 w' => ∃ J, v1 = .pointer (some ⟨J, 0, none⟩) ∧ v2 = .int .i64 0 ∧ w.heap.size ≤ J ∧
      CellsAt w' J (jcells (.pointer (some ⟨b, 0, none⟩)) (.pointer (some ⟨tb, 0, none⟩)) (journalK job) ep (.slice none 0 0) zl32 zl32 false ent0).toArray 92 ∧ Mod w w' Nob)
    (hb.mono (fun e w' ⟨J, h1, h2, h3, h4⟩ => ⟨_, _, h1, J, rfl, rfl, by have := hA.size; omega, h3, hA.trans h4⟩))
  refine ho.mono ?_
  rintro e w' ⟨v1, v2, rfl, J, rfl, rfl, h1, h2, h3⟩
  exact ⟨J, rfl, h1, h2, h3⟩
/-- An entry is written. -/
theorem write_ok (J b ep m : Nat) (tv : Value) (ea : Option Addr) (ec : Nat) (σ : Sto) (x : StoB) (key last next : List UInt8) (e0 e : Ent) (w : World)
    (hJ : CellsAt w J (jcells (.pointer (some ⟨b, 0, none⟩)) tv key ep (.slice ea m ec) last next false e0).toArray 92) (hm : m < 98) (hk : key.length = 32) (hl : last.length = 32) (hnx : next.length = 32) (hep : ep < 1073741824)
    (hσ : StoreAt w b σ x) (hJf : ¬ x.foot b J) (hc : σ.changes.length < 1073741824) (hp : σ.puts.length < 1073741824) (hv : (σ.vers (nameS (m + 1))).length < 1073741824) :
    Calls Tryz.prog 11 #[.pointer (some ⟨J, 0, none⟩), .agg e.cells.toArray] w fun r w' => r = .returned (.int .i64 0) ∧
      CellsAt w' J (jcells (.pointer (some ⟨b, 0, none⟩)) tv key ep (.slice ea m ec) last (linkL (entryL key ep (m + 1) e last)) true e).toArray 92 ∧
      (∃ x', StoreAt w' b (σ.put (nameS (m + 1)) (entryL key ep (m + 1) e last)) x' ∧ ∀ k, x'.foot b k → x.foot b k ∨ w.heap.size ≤ k) ∧ Mod w w' (fun k => k = J ∨ x.own b k) := by
  have hA := (Mod.refl w Nob).alloc (.cells e.cells.toArray 38)
  have hP := put_ok J b ep m tv ea ec σ x key last next e0 e _ (hJ.mod hA nob) hm hk hl hnx hep (hσ.mod hA (fun _ h => h.elim)) hJf hc hp hv
  have hW := write_of (.pointer (some ⟨J, 0, none⟩)) e w (fun v w' => v = .int .i64 0 ∧
      CellsAt w' J (jcells (.pointer (some ⟨b, 0, none⟩)) tv key ep (.slice ea m ec) last (linkL (entryL key ep (m + 1) e last)) true e).toArray 92 ∧
      (∃ x', StoreAt w' b (σ.put (nameS (m + 1)) (entryL key ep (m + 1) e last)) x' ∧ ∀ k, x'.foot b k → x.foot b k ∨ w.heap.size ≤ k) ∧ Mod w w' (fun k => k = J ∨ x.own b k))
    (hP.mono (fun r w' ⟨h1, h2, ⟨x', h3, h4⟩, h5⟩ => ⟨_, h1, rfl, h2, ⟨x', h3, fun k hk2 => (h4 k hk2).imp id (fun h => by have := hA.size; omega)⟩, (hA.wide (T := fun k => k = J ∨ x.own b k) (fun _ h => h.elim)).trans h5⟩))
  refine hW.mono ?_
  rintro r w' ⟨v, rfl, rfl, h1, h2, h3⟩
  exact ⟨rfl, h1, h2, h3⟩

def job1 : List UInt8 := 1 :: List.replicate 31 0

set_option maxRecDepth 100000 in
set_option maxHeartbeats 4000000 in
theorem awake_journal (w : World) : Calls Tryz.prog 8 #[] w fun e w' => e = .returned (.bool true) ∧ Mod w w' Nob := by
  go_enter Tryz.func8, Tryz.ntmps8
  go_wp2_with fail
  refine (trust_new w).mono ?_
  rintro e W1 ⟨rfl, hτ1, m1⟩
  obtain ⟨tb, htb⟩ : ∃ y, w.heap.size = y := ⟨_, rfl⟩
  rw [htb] at hτ1 ⊢
  go_wp2_with fail
  refine (trust_begin tb ⟨0, 0, 0⟩ W1 hτ1 (by simp)).mono ?_
  rintro e W2 ⟨rfl, hτ2, m2⟩
  change TruAt W2 tb ⟨1, 0, 0⟩ at hτ2
  have mm := m1.drop m2 (fun k (hk : k = tb) => .inr (by omega))
  clear hτ1 m1 m2
  go_wp2_with fail
  refine (new_any W2).mono ?_
  rintro e W3 ⟨b, x, rfl, hσ3, m3, hft⟩
  have hτ3 := hτ2.mod m3 nob
  have htl2 : tb < W2.heap.size := CellsAt.lt (show CellsAt W2 tb _ _ from hτ2)
  replace mm := mm.trans m3
  clear hτ2
  go_wp2_with fail
  change Calls _ _ #[_, _, .agg (arrB job1), .int .u64 ((1 : Nat) : Int)] _ _
  refine (open_new b tb x 1 job1 W3 hσ3 hτ3 (by omega) (by omega) rfl).mono ?_
  rintro e W4 ⟨J, rfl, hJW, hJ4, m4⟩
  have hσ4 := hσ3.mod m4 (fun _ h => h.elim)
  have hτ4 := hτ3.mod m4 nob
  have hfJ : ¬ x.foot b J := fun h => by have := hσ3.foot_lt J h; omega
  have hz3 := mm.size
  have htl : tb < W3.heap.size := CellsAt.lt (show CellsAt W3 tb _ _ from hτ3)
  have hz4 := m4.size
  replace mm := mm.trans m4
  have hlo : ∀ k, x.foot b k → tb ≤ k := fun k h => by have := hft k h; have := m3.size; have := hz3; omega
  have hkl := journalK_length job1
  obtain ⟨jk, hjk⟩ : ∃ y, journalK job1 = y := ⟨_, rfl⟩
  rw [hjk] at hJ4 hkl
  clear hσ3 hτ3 m3 m4 hjk
  have hzl : zl32.length = 32 := rfl
  have hwr := write_ok J b 1 0 (.pointer (some ⟨tb, 0, none⟩)) none 0 sto0 x jk zl32 zl32 ent0 ⟨1, 0, 0, 0⟩ W4 hJ4 (by omega) hkl hzl hzl (by omega) hσ4 hfJ (by simp [sto0]) (by simp [sto0]) (by simp [sto0])
  change Calls _ _ #[_, .agg #[.int .i64 1, .int .i64 0, .int .u64 0, .int .i64 0]] _ _ at hwr
  have hll := linkL_length (entryL jk 1 1 ⟨1, 0, 0, 0⟩ zl32) (by rw [entryL_length _ _ _ _ _ hzl]; omega)
  change Calls _ _ _ _ (fun r w' => r = .returned (.int .i64 0) ∧ CellsAt w' J (jcells _ _ _ _ _ _ (linkL (entryL jk 1 1 ⟨1, 0, 0, 0⟩ zl32)) _ _).toArray _ ∧ _ ∧ _) at hwr
  obtain ⟨lk, hlk⟩ : ∃ y, linkL (entryL jk 1 1 ⟨1, 0, 0, 0⟩ zl32) = y := ⟨_, rfl⟩
  rw [hlk] at hwr hll
  clear hlk
  go_wp2_with fail
  refine hwr.mono ?_
  rintro r W5 ⟨rfl, hJ5, ⟨x', hσ5, hft5⟩, m5⟩
  have hJt : J ≠ tb := by omega
  have hτ5 := hτ4.mod m5 (fun h => by
    rcases h with h | h
    · exact hJt h.symm
    · have := hft tb (.inl h); omega)
  have hF5 := (JFacts.of hJ5 hkl hzl hll).wv
  have mm5 := mm.drop m5 (fun k hk => by
    rcases hk with h | h
    · right; omega
    · right; have := hlo k (.inl h); omega)
  have hz5 := m5.size
  clear hwr hσ4 hτ4 hJ4 hσ5 hft5 m5 mm
  go_wp2_with fail
  refine (waiting_any J true W5 hF5).mono ?_
  rintro r V ⟨rfl, rfl⟩
  go_wp2_with fail
  have hcm := commit_ok J tb 0 0 (.pointer (some ⟨b, 0, none⟩)) none 0 [] jk zl32 lk ⟨1, 0, 0, 0⟩ ⟨1, 0, 0⟩ V hJ5 (by omega) hkl hzl hll (World.ownsRow_nil _ _ _ _) (Nat.zero_le _) hτ5 (by simp) (by simp) hJt (fun h => by cases h) (fun h => by cases h)
  refine hcm.mono ?_
  rintro r W6 ⟨rfl, g, c, hJ6, hown6, hτ6, m6, hg6⟩
  have mm6 := mm5.drop m6 (fun k hk => by
    rcases hk with h | h | h
    · right; omega
    · right; omega
    · cases h)
  have hF6 := (JFacts.of hJ6 hkl hll hll).ev
  clear hcm hJ5 hτ5 mm5 m6
  go_wp2_with fail
  refine (entries_any J 1 (some ⟨g, 0, none⟩) c 0 [⟨1, 0, 0, 0⟩] W6 hF6 hown6 (by omega)).mono ?_
  rintro r W7 ⟨a7, c7, rfl, hown7, m7⟩
  have mm7 := mm6.trans m7
  clear hown7 m7 mm6 hJ6 hown6 hτ6
  have hn5 : ∀ W, Calls Tryz.prog 14 #[.int .u64 5] W fun e w' => e = .returned (.string ⟨#[106, 53]⟩) ∧ w' = W := fun W => by
    have h := name_any 5 W (by omega)
    have e : nameS 5 = ⟨#[106, 53]⟩ := by
      unfold nameS
      rw [Lib.decDigits_one (by omega)]
      rfl
    rw [e] at h
    exact h
  go_wp2_with fail
  refine (hn5 W7).mono ?_
  rintro r V ⟨rfl, rfl⟩
  go_wp2_with fail
  go_ret
  exact ⟨rfl, mm7⟩

end Go.Proofs.YtaeociedjdgdfaaGreatDoor

namespace Go.Proofs.YtaeociedjdgdfaaGreatDoor
open Go.RowKit Go.Shelf
set_option linter.unusedSimpArgs false
attribute [local go_sem] Oper.semAt_some

/-- Is the tag right? -/
def openOk (key nonce aad x t : List UInt8) : Bool := tagL key nonce aad x == t

set_option maxRecDepth 100000 in
set_option maxHeartbeats 4000000 in
theorem open_any (key nonce aad x t : List UInt8) (sa : Sc) (pa : Option Addr) (m pc : Nat) (w : World) (hk : key.length = 32) (hn : nonce.length = 12) (ha : BytesAt w (scv sa) aad) (hp : BytesAt w (.slice pa (m + 16) pc) (x ++ t)) (hx : x.length = m) (ht : t.length = 16) (hal : aad.length ≤ 65536) (hm : m ≤ 65536)
    (hfa : ∀ k, inBlock (scv sa) k → k < w.heap.size) (hfp : ∀ k, inBlock (.slice pa (m + 16) pc) k → k < w.heap.size) :
    Calls Tryz.prog 77 #[.agg (arrB key), .agg (arrB nonce), scv sa, .slice pa (m + 16) pc] w fun e w' => ∃ a n c er, e = .returned (.tuple #[.slice a n c, .int .i64 er]) ∧ Mod w w' Nob ∧
      ((openOk key nonce aad x t = true ∧ er = 0 ∧ n = m ∧ w'.ownsRow w.heap.size 5 1 (.slice a n c) m ((xorL key nonce 1 x).map B)) ∨ (openOk key nonce aad x t = false ∧ er = 6 ∧ n = 0 ∧ a = none ∧ c = 0)) := by
  obtain ⟨aa, an, ac⟩ := sa
  dsimp only [scv] at *
  have han : aad.length = an := by
    obtain ⟨a', c', hf, _⟩ := ha.form
    rw [List.length_map] at hf
    cases hf
    rfl
  have hpl : (x ++ t).length = m + 16 := by rw [List.length_append, hx, ht]
  have m0 := ((Mod.refl w Nob).alloc (.cells (arrB key) 22)).alloc (.cells (arrB nonce) 47)
  have cK := (CellsAt.new w (arrB key) 22).alloc (.cells (arrB nonce) 47)
  have cN := CellsAt.new (w.alloc (.cells (arrB key) 22)) (arrB nonce) 47
  rw [World.size_alloc] at cN
  have hks : (arrB key).size = 32 := by rw [arrB_size, hk]
  have hns : (arrB nonce).size = 12 := by rw [arrB_size, hn]
  have hsub : IntKind.i64.wrap (((m + 16 : Nat) : Int) - 16) = (m : Int) := by rw [show (((m + 16 : Nat) : Int) - 16) = (m : Int) by omega]; exact IntWalk.i64_in _ (by omega)
  have hd1 : decide ((an : Int) > 65536) = false := by simp; omega
  have hd2 : decide ((m : Int) > 65536) = false := by simp; omega
  have hd3 : decide (65536 < (an : Int)) = false := by simp; omega
  have hd4 : decide (65536 < (m : Int)) = false := by simp; omega
  have hd5 : decide ((m : Int) < 0) = false := by simp
  have hz0 : ((w.alloc (.cells (arrB key) 22)).alloc (.cells (arrB nonce) 47)).heap.size = w.heap.size + 2 := by simp
  obtain ⟨hsu, hbu⟩ := slice_upto hp hpl m (by omega)
  obtain ⟨fa, fc, hsf, hbf⟩ := slice_from hp hpl m (by omega)
  rw [Nat.add_sub_cancel_left] at hsf hbf
  rw [List.take_left' hx] at hbu
  rw [List.drop_left' hx] at hbf
  have hfu : ∀ k, inBlock (.slice pa m pc) k → k < w.heap.size := fun k hk2 => hfp k (by
    cases pa with
    | none => cases hk2
    | some p => obtain ⟨b, o, f⟩ := p; cases f <;> exact hk2)
  have htg := tagL_length key nonce aad x
  obtain ⟨tg, htgx⟩ : ∃ y, tagL key nonce aad x = y := ⟨_, rfl⟩
  rw [htgx] at htg
  have HT := Box.mk htgx
  have hOK : openOk key nonce aad x t = (tg == t) := by unfold openOk; rw [htgx]
  rw [hOK]
  go_enter Tryz.func77, Tryz.ntmps77
  go_wp2_with fail
  change Code.wp _ _ _ _ ((w.alloc (.cells (arrB key) 22)).alloc (.cells (arrB nonce) 47))
  obtain ⟨W1, hW1⟩ : ∃ W1, ((w.alloc (.cells (arrB key) 22)).alloc (.cells (arrB nonce) 47)) = W1 := ⟨_, rfl⟩
  rw [hW1] at m0 cK cN hz0 ⊢
  obtain ⟨H, hH⟩ : ∃ H, w.heap.size = H := ⟨_, rfl⟩
  rw [hH] at cK cN hz0 hfa hfu ⊢
  have HH := Lib.hid hH
  clear hW1 hH hd1 hd2 hd3 hd4 hd5 hsub hfp hp hOK
  go_cut [11] from 12 (fun t11 wx => ∃ g, t11 = .pointer (some ⟨g, 0, none⟩) ∧ H + 2 ≤ g ∧ CellsAt wx g (arrB tg) 96 ∧ Mod W1 wx Nob)
  case first =>
    have mD := (Mod.refl W1 Nob).drew
    have hS0 : CellsAt W1.drew H (arrB key) 22 ∧ CellsAt W1.drew (H + 1) (arrB nonce) 47 := ⟨cK.mod mD nob, cN.mod mD nob⟩
    have hSm : ∀ W, Mod W1.drew W Nob → CellsAt W H (arrB key) 22 ∧ CellsAt W (H + 1) (arrB nonce) 47 := fun W hm => ⟨hS0.1.mod hm nob, hS0.2.mod hm nob⟩
    have z0 : W1.drew.heap.size = H + 2 := hz0
    have ha0 := ha.mod (m0.trans mD) (fun _ _ => nob)
    have hb0 := hbu.mod (m0.trans mD) (fun _ _ => nob)
    refine wp_no_panic ?_
    refine wp_region_U (S := fun W => CellsAt W H (arrB key) 22 ∧ CellsAt W (H + 1) (arrB nonce) 47) 8 (by kernel_rfl) ?_
    change wpAnyU _ _ _ _ _ _ _ _ _ W1.drew
    obtain ⟨V0, hV0⟩ : ∃ V, W1.drew = V := ⟨_, rfl⟩
    rw [hV0] at hS0 hSm z0 mD ha0 hb0 ⊢
    clear hV0 ha hbu hbf hsf cK cN
    refine wpAnyU_take (i := 0) (v := .agg (arrB key)) rfl (by kernel_rfl) (by kernel_rfl) (by kernel_rfl) (by kernel_rfl) (by kernel_rfl) (fun _ _ _ h => h) (yieldsIf_load_mid (by rfl) 22 _ rfl H 0 rfl (key.map B) _ (fun W hS q u hq => by rw [Nat.zero_add, hS.1.cell q]; simpa [arrB] using hq) Tryz.underlying22 rfl (by rw [List.length_map, hk]; exact size_b32)) hS0 ?_
    try simp only [Act.put, List.getElem_toArray, List.getElem_cons_zero, List.getElem_cons_succ, List.setIfInBounds_toArray, List.set_cons_zero, List.set_cons_succ]
    refine wpAnyU_take (i := 1) (v := .agg (arrB nonce)) rfl (by kernel_rfl) (by kernel_rfl) (by kernel_rfl) (by kernel_rfl) (by kernel_rfl) (fun _ _ _ h => h) (yieldsIf_load_mid (by rfl) 47 _ rfl (H + 1) 0 rfl (nonce.map B) _ (fun W hS q u hq => by rw [Nat.zero_add, hS.2.cell q]; simpa [arrB] using hq) Tryz.underlying47 rfl (by rw [List.length_map, hn]; exact size_b12)) hS0 ?_
    try simp only [Act.put, List.getElem_toArray, List.getElem_cons_zero, List.getElem_cons_succ, List.setIfInBounds_toArray, List.set_cons_zero, List.set_cons_succ]
    refine wpAnyU_takeP (i := 2) (v := .slice aa an ac) rfl (by kernel_rfl) (by kernel_rfl) (by kernel_rfl) (by decide) (fun _ _ _ h => h) (Or.inl ⟨by rfl, fun W => by go_simp⟩) (fun _ => hS0) ?_
    try simp only [Act.put, List.getElem_toArray, List.getElem_cons_zero, List.getElem_cons_succ, List.setIfInBounds_toArray, List.set_cons_zero, List.set_cons_succ]
    refine wpAnyU_takeP (i := 3) (v := .slice pa (m + 16) pc) rfl (by kernel_rfl) (by kernel_rfl) (by kernel_rfl) (by decide) (fun _ _ _ h => h) (Or.inl ⟨by rfl, fun W => by go_simp⟩) (fun _ => hS0) ?_
    try simp only [Act.put, List.getElem_toArray, List.getElem_cons_zero, List.getElem_cons_succ, List.setIfInBounds_toArray, List.set_cons_zero, List.set_cons_succ]
    refine wpAnyU_takeP (i := 4) (v := .int .i64 (m : Int)) rfl (by kernel_rfl) (by kernel_rfl) (by kernel_rfl) (by decide) (fun _ _ _ h => h) (Or.inl ⟨by rfl, fun W => by go_simp⟩) (fun _ => hS0) ?_
    try simp only [Act.put, List.getElem_toArray, List.getElem_cons_zero, List.getElem_cons_succ, List.setIfInBounds_toArray, List.set_cons_zero, List.set_cons_succ]
    refine wpAnyU_takeP (i := 5) (v := .slice pa m pc) rfl (by kernel_rfl) (by kernel_rfl) (by kernel_rfl) (by decide) (fun _ _ _ h => h) (Or.inl ⟨by rfl, fun W => by go_simp⟩) (fun _ => hS0) ?_
    try simp only [Act.put, List.getElem_toArray, List.getElem_cons_zero, List.getElem_cons_succ, List.setIfInBounds_toArray, List.set_cons_zero, List.set_cons_succ]
    have HZ := Box.mk z0
    have HZ1 := Box.mk hz0
    clear z0 hz0 hS0 hsu
    refine wpAnyU_two 6 7 _ _ (by kernel_rfl) rfl rfl (fun K hK => ?_) (fun K hK => ?_)
    · have htag := tag_any key nonce aad x (aa, an, ac) (pa, m, pc) V0 hk hn ha0 hb0 (by omega) (by omega) (fun k hk2 => by have := hfa k hk2; have := HZ.out; omega) (fun k hk2 => by have := hfu k hk2; have := HZ.out; omega)
      dsimp only [scv] at htag
      rw [HT.out] at htag
      go_simp
      refine htag.mono ?_
      rintro e V1 ⟨rfl, m1⟩
      go_wp2_with fail
      refine hK.out _ _ (fun _ => hSm V1 m1) ?_
      clear hK K htag
      try simp only [Act.put, List.getElem_toArray, List.getElem_cons_zero, List.getElem_cons_succ, List.setIfInBounds_toArray, List.set_cons_zero, List.set_cons_succ]
      refine wpAnyU_one 7 _ (by kernel_rfl) rfl (fun K hK => ?_)
      go_simp
      have m2 := (Mod.refl V1 Nob).alloc (.cells (arrB (List.replicate 16 0)) 96)
      have cz := CellsAt.new V1 (arrB (List.replicate 16 0)) 96
      refine hK.out _ _ (fun _ => hSm _ (m1.trans m2)) ?_
      clear hK K
      try simp only [Act.put, List.getElem_toArray, List.getElem_cons_zero, List.getElem_cons_succ, List.setIfInBounds_toArray, List.set_cons_zero, List.set_cons_succ]
      change wpAnyU _ _ _ _ _ _ _ _ _ (V1.alloc (.cells (arrB (List.replicate 16 0)) 96))
      have hg : H + 2 ≤ V1.heap.size := by have := m1.size; have := HZ.out; omega
      have mA := mD.trans (m1.trans m2)
      obtain ⟨V2, hV2⟩ : ∃ V, V1.alloc (.cells (arrB (List.replicate 16 0)) 96) = V := ⟨_, rfl⟩
      rw [hV2] at cz mA ⊢
      obtain ⟨g, hgx⟩ : ∃ g, V1.heap.size = g := ⟨_, rfl⟩
      rw [hgx] at cz hg ⊢
      clear hV2 m1 m2 hSm hgx
      refine wpAnyU_last (by kernel_rfl) (by simp) ?_
      refine wpAny_tail _ 8 _ _ _ (by kernel_rfl) ?_
      simp only [List.drop_succ_cons, List.drop_zero]
      go_wp2_with (refine wpList_store_arr rfl 96 _ _ rfl g 16 (arrB tg) (arrB (List.replicate 16 0)) rfl rfl cz size_b16 (by rw [arrB_size, htg]) (by rw [arrB_size]; rfl) (arrB_one _) ?_)
      go_meet
      exact ⟨g, rfl, hg, cz.setRow _, mA.setRow (.inr (by have := HZ1.out; omega)) _⟩
    · go_simp
      have m2 := (Mod.refl V0 Nob).alloc (.cells (arrB (List.replicate 16 0)) 96)
      have cz := CellsAt.new V0 (arrB (List.replicate 16 0)) 96
      refine hK.out _ _ (fun _ => hSm _ m2) ?_
      clear hK K
      try simp only [Act.put, List.getElem_toArray, List.getElem_cons_zero, List.getElem_cons_succ, List.setIfInBounds_toArray, List.set_cons_zero, List.set_cons_succ]
      change wpAnyU _ _ _ _ _ _ _ _ _ (V0.alloc (.cells (arrB (List.replicate 16 0)) 96))
      have hg : H + 2 ≤ V0.heap.size := by have := HZ.out; omega
      have hzg : V0.heap.size < (V0.alloc (.cells (arrB (List.replicate 16 0)) 96)).heap.size := by simp
      have ha1 := ha0.mod m2 (fun _ _ => nob)
      have hb1 := hb0.mod m2 (fun _ _ => nob)
      have mA := mD.trans m2
      obtain ⟨V2, hV2⟩ : ∃ V, V0.alloc (.cells (arrB (List.replicate 16 0)) 96) = V := ⟨_, rfl⟩
      rw [hV2] at cz mA ha1 hb1 m2 hzg ⊢
      have htag := tag_any key nonce aad x (aa, an, ac) (pa, m, pc) V2 hk hn ha1 hb1 (by omega) (by omega) (fun k hk2 => by have := hfa k hk2; have := HZ.out; omega) (fun k hk2 => by have := hfu k hk2; have := HZ.out; omega)
      dsimp only [scv] at htag
      rw [HT.out] at htag
      obtain ⟨g, hgx⟩ : ∃ g, V0.heap.size = g := ⟨_, rfl⟩
      rw [hgx] at cz hg ⊢
      clear hV2 hgx hzg
      refine wpAnyU_one 6 _ (by kernel_rfl) rfl (fun K hK => ?_)
      go_simp
      refine htag.mono ?_
      rintro e V3 ⟨rfl, m3⟩
      go_wp2_with fail
      refine hK.out _ _ (fun _ => hSm _ (m2.trans m3)) ?_
      clear hK K htag
      try simp only [Act.put, List.getElem_toArray, List.getElem_cons_zero, List.getElem_cons_succ, List.setIfInBounds_toArray, List.set_cons_zero, List.set_cons_succ]
      replace cz := cz.mod m3 nob
      replace mA := mA.trans m3
      clear m2 m3 hSm ha1 hb1
      refine wpAnyU_last (by kernel_rfl) (by simp) ?_
      refine wpAny_tail _ 8 _ _ _ (by kernel_rfl) ?_
      simp only [List.drop_succ_cons, List.drop_zero]
      go_wp2_with (refine wpList_store_arr rfl 96 _ _ rfl g 16 (arrB tg) (arrB (List.replicate 16 0)) rfl rfl cz size_b16 (by rw [arrB_size, htg]) (by rw [arrB_size]; rfl) (arrB_one _) ?_)
      go_meet
      exact ⟨g, rfl, hg, cz.setRow _, mA.setRow (.inr (by have := HZ1.out; omega)) _⟩
  case rest =>
    obtain ⟨g, rfl, hg, cG, mA⟩ := hcut
    replace cK := cK.mod mA nob
    replace cN := cN.mod mA nob
    replace m0 := m0.trans mA
    have hz1 := m0.size
    have mD := (Mod.refl wc Nob).drew
    have hbt : BytesAt wc.drew (.slice (some ⟨g, 0, none⟩) 16 16) tg := bytes_block (cG.mod mD nob) htg (by omega)
    have hbf1 := (hbf.mod m0 (fun _ _ => nob)).mod mD (fun _ _ => nob)
    have heq := equal_any (some ⟨g, 0, none⟩) fa 16 16 16 fc tg t wc.drew hbt hbf1 htg ht
    have hS0 : True := trivial
    go_wp2_with fail
    refine wp_no_panic ?_
    refine wp_region_U (S := fun _ => True) 4 (by kernel_rfl) ?_
    refine wpAnyU_takeP (i := 0) (v := .slice (some ⟨g, 0, none⟩) 16 16) rfl (by kernel_rfl) (by kernel_rfl) (by kernel_rfl) (by decide) (fun _ _ _ h => h) (Or.inl ⟨by rfl, fun W => by go_simp⟩) (fun _ => hS0) ?_
    try simp only [Act.put, List.getElem_toArray, List.getElem_cons_zero, List.getElem_cons_succ, List.setIfInBounds_toArray, List.set_cons_zero, List.set_cons_succ]
    refine wpAnyU_takeP (i := 1) (v := .slice pa (m + 16) pc) rfl (by kernel_rfl) (by kernel_rfl) (by kernel_rfl) (by decide) (fun _ _ _ h => h) (Or.inl ⟨by rfl, fun W => by go_simp⟩) (fun _ => hS0) ?_
    try simp only [Act.put, List.getElem_toArray, List.getElem_cons_zero, List.getElem_cons_succ, List.setIfInBounds_toArray, List.set_cons_zero, List.set_cons_succ]
    refine wpAnyU_takeP (i := 2) (v := .int .i64 (m : Int)) rfl (by kernel_rfl) (by kernel_rfl) (by kernel_rfl) (by decide) (fun _ _ _ h => h) (Or.inl ⟨by rfl, fun W => by go_simp⟩) (fun _ => hS0) ?_
    try simp only [Act.put, List.getElem_toArray, List.getElem_cons_zero, List.getElem_cons_succ, List.setIfInBounds_toArray, List.set_cons_zero, List.set_cons_succ]
    refine wpAnyU_takeP (i := 3) (v := .slice fa 16 fc) rfl (by kernel_rfl) (by kernel_rfl) (by kernel_rfl) (by decide) (fun _ _ _ h => h) (Or.inl ⟨by rfl, fun W => by go_simp⟩) (fun _ => hS0) ?_
    try simp only [Act.put, List.getElem_toArray, List.getElem_cons_zero, List.getElem_cons_succ, List.setIfInBounds_toArray, List.set_cons_zero, List.set_cons_succ]
    refine wpAnyU_last (by kernel_rfl) (by simp) ?_
    refine wpAny_tail _ 4 _ _ _ (by kernel_rfl) ?_
    simp only [List.drop_succ_cons, List.drop_zero]
    replace cK := cK.mod mD nob
    replace cN := cN.mod mD nob
    replace m0 := m0.trans mD
    have hbu1 := hbu.mod m0 (fun _ _ => nob)
    clear hbf hbt hbf1 hsf mA cG mD hbu ha
    go_wp2_with fail
    refine heq.mono ?_
    rintro e W4 ⟨rfl, n4, rfl⟩
    have mN := (Mod.refl wc.drew Nob).drewN n4
    replace cK := cK.mod mN nob
    replace cN := cN.mod mN nob
    replace m0 := m0.trans mN
    replace hbu1 := hbu1.mod mN (fun _ _ => nob)
    obtain ⟨W5, hW5⟩ : ∃ V, wc.drew.drewN n4 = V := ⟨_, rfl⟩
    rw [hW5] at cK cN m0 hbu1 ⊢
    clear hW5 mN heq
    by_cases heqt : tg = t
    · have hd : decide (tg = t) = true := by simp [heqt]
      have hb2 : (tg == t) = true := by simp [heqt]
      rw [hd, show oneIf true = 1 from rfl]
      have HB := Box.mk hb2
      clear hb2 hd
      go_wp2_with fail
      have mD := (Mod.refl W5 Nob).drew
      have hS0 : CellsAt W5.drew H (arrB key) 22 ∧ CellsAt W5.drew (H + 1) (arrB nonce) 47 := ⟨cK.mod mD nob, cN.mod mD nob⟩
      have hb2 := hbu1.mod mD (fun _ _ => nob)
      have hxo := xor_any key nonce x 1 pa pc W5.drew hk hn (by omega) (by rw [hx]; exact hb2) (by rw [hx]; exact fun k hk2 => by have := hfu k hk2; have := m0.size; have := HH.out; have h9 : W5.drew.heap.size = W5.heap.size := rfl; omega)
      rw [hx] at hxo
      change Calls _ _ #[_, _, .int .u32 1, _] _ _ at hxo
      replace m0 := m0.trans mD
      refine wp_no_panic ?_
      refine wp_region_U (S := fun W => CellsAt W H (arrB key) 22 ∧ CellsAt W (H + 1) (arrB nonce) 47) 5 (by kernel_rfl) ?_
      change wpAnyU _ _ _ _ _ _ _ _ _ W5.drew
      obtain ⟨V0, hV0⟩ : ∃ V, W5.drew = V := ⟨_, rfl⟩
      rw [hV0] at hS0 hxo m0 ⊢
      clear hV0 mD cK cN hbu1 hb2
      refine wpAnyU_take (i := 0) (v := .agg (arrB key)) rfl (by kernel_rfl) (by kernel_rfl) (by kernel_rfl) (by kernel_rfl) (by kernel_rfl) (fun _ _ _ h => h) (yieldsIf_load_mid (by rfl) 22 _ rfl H 0 rfl (key.map B) _ (fun W hS q u hq => by rw [Nat.zero_add, hS.1.cell q]; simpa [arrB] using hq) Tryz.underlying22 rfl (by rw [List.length_map, hk]; exact size_b32)) hS0 ?_
      try simp only [Act.put, List.getElem_toArray, List.getElem_cons_zero, List.getElem_cons_succ, List.setIfInBounds_toArray, List.set_cons_zero, List.set_cons_succ]
      refine wpAnyU_take (i := 1) (v := .agg (arrB nonce)) rfl (by kernel_rfl) (by kernel_rfl) (by kernel_rfl) (by kernel_rfl) (by kernel_rfl) (fun _ _ _ h => h) (yieldsIf_load_mid (by rfl) 47 _ rfl (H + 1) 0 rfl (nonce.map B) _ (fun W hS q u hq => by rw [Nat.zero_add, hS.2.cell q]; simpa [arrB] using hq) Tryz.underlying47 rfl (by rw [List.length_map, hn]; exact size_b12)) hS0 ?_
      try simp only [Act.put, List.getElem_toArray, List.getElem_cons_zero, List.getElem_cons_succ, List.setIfInBounds_toArray, List.set_cons_zero, List.set_cons_succ]
      refine wpAnyU_takeP (i := 2) (v := .slice pa (m + 16) pc) rfl (by kernel_rfl) (by kernel_rfl) (by kernel_rfl) (by decide) (fun _ _ _ h => h) (Or.inl ⟨by rfl, fun W => by go_simp⟩) (fun _ => hS0) ?_
      try simp only [Act.put, List.getElem_toArray, List.getElem_cons_zero, List.getElem_cons_succ, List.setIfInBounds_toArray, List.set_cons_zero, List.set_cons_succ]
      refine wpAnyU_takeP (i := 3) (v := .int .i64 (m : Int)) rfl (by kernel_rfl) (by kernel_rfl) (by kernel_rfl) (by decide) (fun _ _ _ h => h) (Or.inl ⟨by rfl, fun W => by go_simp⟩) (fun _ => hS0) ?_
      try simp only [Act.put, List.getElem_toArray, List.getElem_cons_zero, List.getElem_cons_succ, List.setIfInBounds_toArray, List.set_cons_zero, List.set_cons_succ]
      refine wpAnyU_takeP (i := 4) (v := .slice pa m pc) rfl (by kernel_rfl) (by kernel_rfl) (by kernel_rfl) (by decide) (fun _ _ _ h => h) (Or.inl ⟨by rfl, fun W => by go_simp⟩) (fun _ => hS0) ?_
      try simp only [Act.put, List.getElem_toArray, List.getElem_cons_zero, List.getElem_cons_succ, List.setIfInBounds_toArray, List.set_cons_zero, List.set_cons_succ]
      clear hS0 hsu
      refine wpAnyU_last (by kernel_rfl) (by simp) ?_
      refine wpAny_tail _ 5 _ _ _ (by kernel_rfl) ?_
      simp only [List.drop_succ_cons, List.drop_zero]
      have hzv := m0.size
      go_wp2_with fail
      refine hxo.mono ?_
      rintro e W6 ⟨v6, rfl, hown, m6⟩
      rw [xorL_length, hx] at hown
      obtain ⟨oa, oc, rfl, _, _⟩ := owns_form hown
      replace hown := owns_down (b' := H) hown (by have := HH.out; omega)
      replace m0 := m0.trans m6
      clear hxo m6
      go_wp2_with fail
      exact bodyPost_ret (v := .tuple #[.slice oa m oc, .int .i64 0]) (by simp [results, Tryz.f77, go_sem]) rfl ⟨oa, m, oc, 0, rfl, m0, .inl ⟨HB.out, rfl, rfl, by rw [HH.out]; exact hown⟩⟩
    · have hd : decide (tg = t) = false := by simp [heqt]
      have hb2 : (tg == t) = false := by simp [heqt]
      rw [hd, show oneIf false = 0 from rfl]
      have HB := Box.mk hb2
      clear hb2 hd
      go_wp2_with fail
      exact bodyPost_ret (v := .tuple #[.slice none 0 0, .int .i64 6]) (by simp [results, Tryz.f77, go_sem]) rfl ⟨none, 0, 0, 6, rfl, m0, .inr ⟨HB.out, rfl, rfl, rfl, rfl⟩⟩

end Go.Proofs.YtaeociedjdgdfaaGreatDoor

namespace Go.Proofs.YtaeociedjdgdfaaGreatDoor
open Go.RowKit Go.Shelf
set_option linter.unusedSimpArgs false

/-- What bytes hold, unsealed; the entry that it is. -/
def unsealL (key : List UInt8) (n : Nat) (b : List UInt8) : List UInt8 := xorL key (nonceL n (leN (b.take 8))) 1 ((b.drop 16).take 64)
def wordP (p : List UInt8) (i : Nat) : Nat := leN (((p.take 32).drop (8 * i)).take 8)
def entP (p : List UInt8) : Ent := ⟨IntKind.i64.wrap (wordP p 0 : Nat), IntKind.i64.wrap (wordP p 1 : Nat), wordP p 2, IntKind.i64.wrap (wordP p 3 : Nat)⟩
/-- Is the tag right? -/
def tagOk (key : List UInt8) (n : Nat) (b : List UInt8) : Bool := tagL key (nonceL n (leN (b.take 8))) (b.take 16) ((b.drop 16).take 64) == b.drop 80
/-- What an entry is opened to, and who wrote it. -/
def openedP (key last : List UInt8) (n : Nat) (b : List UInt8) : Option (Ent × Nat) :=
  bif b.length == 96 && (leN ((b.drop 8).take 8) == n && (tagOk key n b && (unsealL key n b).drop 32 == last)) then some (entP (unsealL key n b), leN (b.take 8)) else none

/-- An entry's numbers are what they may be. -/
structure Ent.ok (e : Ent) : Prop where
  k0 : -9223372036854775808 ≤ e.kind
  k1 : e.kind ≤ 9223372036854775807
  t0 : -9223372036854775808 ≤ e.task
  t1 : e.task ≤ 9223372036854775807
  a : e.att < 18446744073709551616
  s0 : -9223372036854775808 ≤ e.state
  s1 : e.state ≤ 9223372036854775807

theorem toU_lt (x : Int) : toU x < 18446744073709551616 := by unfold toU; omega
theorem toU_back (x : Int) (h0 : -9223372036854775808 ≤ x) (h1 : x ≤ 9223372036854775807) : IntKind.i64.wrap ((toU x : Nat) : Int) = x := by
  rw [← toU_wrap]
  simp only [IntKind.wrap_u64, IntKind.wrap, IntKind.signed, IntKind.bits]
  simp
  omega
theorem leN8 (v : Nat) (h : v < 18446744073709551616) : leN (leB 8 v) = v := by
  rw [leN_leB]
  exact Nat.mod_eq_of_lt (by simpa using h)

theorem eights4 (a b c d : Nat) : eightsL [a, b, c, d] = leB 8 a ++ (leB 8 b ++ (leB 8 c ++ leB 8 d)) := by simp [eightsL]
theorem word_plain (e : Ent) (last : List UInt8) (he : e.ok) : wordP (plainL e last) 0 = toU e.kind ∧ wordP (plainL e last) 1 = toU e.task ∧ wordP (plainL e last) 2 = e.att ∧ wordP (plainL e last) 3 = toU e.state := by
  have h0 := leB_length 8 (toU e.kind)
  have h1 := leB_length 8 (toU e.task)
  have h2 := leB_length 8 e.att
  have h3 := leB_length 8 (toU e.state)
  have hp : (plainL e last).take 32 = leB 8 (toU e.kind) ++ (leB 8 (toU e.task) ++ (leB 8 e.att ++ leB 8 (toU e.state))) := by
    unfold plainL
    rw [eights4]
    rw [List.take_left' (by simp [h0, h1, h2, h3])]
  unfold wordP
  rw [hp]
  obtain ⟨a, ha⟩ : ∃ y, leB 8 (toU e.kind) = y := ⟨_, rfl⟩
  obtain ⟨b, hb⟩ : ∃ y, leB 8 (toU e.task) = y := ⟨_, rfl⟩
  obtain ⟨c, hc⟩ : ∃ y, leB 8 e.att = y := ⟨_, rfl⟩
  obtain ⟨d, hd⟩ : ∃ y, leB 8 (toU e.state) = y := ⟨_, rfl⟩
  have ea : leN a = toU e.kind := by rw [← ha]; exact leN8 _ (toU_lt _)
  have eb : leN b = toU e.task := by rw [← hb]; exact leN8 _ (toU_lt _)
  have ec : leN c = e.att := by rw [← hc]; exact leN8 _ he.a
  have ed : leN d = toU e.state := by rw [← hd]; exact leN8 _ (toU_lt _)
  rw [ha, hb, hc, hd]
  rw [ha] at h0
  rw [hb] at h1
  rw [hc] at h2
  rw [hd] at h3
  refine ⟨?_, ?_, ?_, ?_⟩
  · rw [Nat.mul_zero, List.drop_zero, List.take_left' h0]; exact ea
  · rw [List.drop_left' (by simp [h0]), List.take_left' h1]; exact eb
  · rw [← List.append_assoc, List.drop_left' (by simp [h0, h1]), List.take_left' h2]; exact ec
  · rw [← List.append_assoc, ← List.append_assoc, List.drop_left' (by simp [h0, h1, h2]), List.take_of_length_le (by omega)]; exact ed
theorem ent_plain (e : Ent) (last : List UInt8) (he : e.ok) : entP (plainL e last) = e := by
  obtain ⟨h0, h1, h2, h3⟩ := word_plain e last he
  unfold entP
  rw [h0, h1, h2, h3, toU_back _ he.k0 he.k1, toU_back _ he.t0 he.t1, toU_back _ he.s0 he.s1]

theorem entry_parts (key : List UInt8) (ep n : Nat) (e : Ent) (last : List UInt8) (hl : last.length = 32) :
    (entryL key ep n e last).take 16 = headL ep n ∧ ((entryL key ep n e last).drop 16).take 64 = xorL key (nonceL n ep) 1 (plainL e last) ∧
    (entryL key ep n e last).drop 80 = tagL key (nonceL n ep) (headL ep n) (xorL key (nonceL n ep) 1 (plainL e last)) ∧
    (entryL key ep n e last).take 8 = leB 8 ep ∧ ((entryL key ep n e last).drop 8).take 8 = leB 8 n := by
  have hh := headL_length ep n
  have hx : (xorL key (nonceL n ep) 1 (plainL e last)).length = 64 := by rw [xorL_length, plainL_length e last hl]
  have hhd : headL ep n = leB 8 ep ++ leB 8 n := by simp [headL, eightsL]
  have b0 := leB_length 8 ep
  have b1 := leB_length 8 n
  unfold entryL sealL
  refine ⟨List.take_left' hh, ?_, ?_, ?_, ?_⟩
  · rw [List.drop_left' hh, List.take_left' hx]
  · rw [← List.append_assoc, List.drop_left' (by rw [List.length_append, hh, hx])]
  · rw [hhd, List.append_assoc, List.take_left' b0]
  · rw [hhd, List.append_assoc, List.drop_left' b0, List.take_left' b1]

/-- What was sealed is opened to what it was. -/
theorem opened_entry (key last : List UInt8) (ep n : Nat) (e : Ent) (hl : last.length = 32) (hep : ep < 18446744073709551616) (hn : n < 18446744073709551616) (he : e.ok) : openedP key last n (entryL key ep n e last) = some (e, ep) := by
  obtain ⟨h1, h2, h3, h4, h5⟩ := entry_parts key ep n e last hl
  have hlen := entryL_length key ep n e last hl
  have e1 : leN ((entryL key ep n e last).take 8) = ep := by rw [h4]; exact leN8 ep hep
  have e2 : leN (((entryL key ep n e last).drop 8).take 8) = n := by rw [h5]; exact leN8 n hn
  have e3 : unsealL key n (entryL key ep n e last) = plainL e last := by
    unfold unsealL
    rw [e1, h2, xorL_twice]
  have e4 : tagOk key n (entryL key ep n e last) = true := by
    unfold tagOk
    rw [e1, h1, h2, h3]
    exact beq_self_eq_true _
  have e5 : (plainL e last).drop 32 = last := by
    unfold plainL
    exact List.drop_left' (by rw [eightsL_length]; rfl)
  unfold openedP
  rw [hlen, e2, e4, e3, e5, ent_plain e last he, e1]
  rw [show (n == n) = true from beq_self_eq_true n, show (last == last) = true from beq_self_eq_true last]
  rfl
theorem opened_none (key last : List UInt8) (n : Nat) (b : List UInt8) (h : b.length ≠ 96) : openedP key last n b = none := by
  unfold openedP
  rw [show (b.length == 96) = false from beq_eq_false_iff_ne.2 h]
  rfl

/-- So many entries, one behind the other: which they are, what the next one bears, who wrote the last one. -/
def stepsP (key : List UInt8) (get : Nat → List UInt8) : Nat → Option (List Ent × List UInt8 × Nat)
  | 0 => some ([], zl32, 0)
  | k + 1 => (stepsP key get k).bind fun x => (openedP key x.2.1 (k + 1) (get (k + 1))).map fun y => (x.1 ++ [y.1], linkL (get (k + 1)), y.2)
theorem stepsP_ext (key : List UInt8) (g1 g2 : Nat → List UInt8) : ∀ k, (∀ i, 1 ≤ i → i ≤ k → g1 i = g2 i) → stepsP key g1 k = stepsP key g2 k
  | 0, _ => rfl
  | k + 1, h => by
    unfold stepsP
    rw [stepsP_ext key g1 g2 k (fun i h1 h2 => h i h1 (by omega)), h (k + 1) (by omega) (by omega)]
theorem opened_length {key last : List UInt8} {n : Nat} {b : List UInt8} {y : Ent × Nat} (h : openedP key last n b = some y) : b.length = 96 := by
  by_cases hb : b.length = 96
  · exact hb
  · rw [opened_none key last n b hb] at h
    cases h
theorem stepsP_facts (key : List UInt8) (get : Nat → List UInt8) : ∀ k es last wr, stepsP key get k = some (es, last, wr) → es.length = k ∧ last.length = 32
  | 0, es, last, wr, h => by
    unfold stepsP at h
    cases h
    exact ⟨rfl, rfl⟩
  | k + 1, es, last, wr, h => by
    unfold stepsP at h
    cases hs : stepsP key get k with
    | none => rw [hs] at h; cases h
    | some x =>
      obtain ⟨es0, last0, wr0⟩ := x
      rw [hs] at h
      simp only [Option.bind_some] at h
      cases ho : openedP key last0 (k + 1) (get (k + 1)) with
      | none => rw [ho] at h; cases h
      | some y =>
        rw [ho] at h
        simp only [Option.map_some, Option.some.injEq, Prod.mk.injEq] at h
        obtain ⟨rfl, rfl, rfl⟩ := h
        have := (stepsP_facts key get k es0 last0 wr0 hs).1
        exact ⟨by simp [this], linkL_length _ (by rw [opened_length ho]; omega)⟩
theorem stepsP_succ (key : List UInt8) (get : Nat → List UInt8) (k : Nat) (es : List Ent) (last : List UInt8) (wr : Nat) (h : stepsP key get k = some (es, last, wr)) :
    stepsP key get (k + 1) = (openedP key last (k + 1) (get (k + 1))).map fun y => (es ++ [y.1], linkL (get (k + 1)), y.2) := by
  conv => lhs; unfold stepsP
  rw [h]
  rfl
theorem stepsP_down (key : List UInt8) (get : Nat → List UInt8) (k : Nat) (h : stepsP key get k = none) : ∀ j, stepsP key get (k + j) = none
  | 0 => h
  | j + 1 => by
    rw [← Nat.add_assoc]
    unfold stepsP
    rw [stepsP_down key get k h j]
    rfl

end Go.Proofs.YtaeociedjdgdfaaGreatDoor
