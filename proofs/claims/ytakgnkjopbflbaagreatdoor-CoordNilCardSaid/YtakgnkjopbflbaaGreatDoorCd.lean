/- Pieces of bytes; octet.Words, High. No condition but sizes. -/
import Derived.Test.YtakgnkjopbflbaaGreatDoorCc
namespace Go.Proofs.YtakgnkjopbflbaaGreatDoor
open Go.RowKit

theorem size_u8 (w : World) : (sizeOf 5).run Tryz.prog w = .ok 1 w := Tryz.sizeOf5 w

theorem elem_u8 : Tryz.prog.elem 43 = 5 := by simp [Program.elem, Tryz.underlying43]

/-- b[k:] of bytes. -/
theorem slice_from {w : World} {a : Option Addr} {n c : Nat} {l : List UInt8} (h : BytesAt w (.slice a n c) l) (hn : l.length = n) (k : Nat) (hk : k ≤ n) :
    ∃ a' c', (∀ W, (Instr.slice 43 (.slice a n c) (some (.int .i64 (k : Int))) none none).run Tryz.prog W = .ok (.slice a' (n - k) c') W) ∧ BytesAt w (.slice a' (n - k) c') (l.drop k) := by
  obtain ⟨a0, c0, hf, hlc, hcm⟩ := h.form
  cases hf
  clear hn
  rw [List.length_map] at hlc hk h ⊢
  have he := elem_u8
  have hrun : ∀ W, (Instr.slice 43 (.slice a l.length c) (some (.int .i64 (k : Int))) none none).run Tryz.prog W = _ := fun W => run_slice_l W 43 a l.length c (by rw [he]; exact Tryz.underlying43) .i64 (k : Int) (by omega) (by omega)
  have hlen : (l.drop k).length = l.length - k := List.length_drop
  rcases h with (⟨h1, h2⟩ | ⟨b, o, cap, h1, hb, h2, h3, h4⟩) | ⟨h1, a1, cap, h2, h3⟩
  · have h0 : l = [] := by simpa using h2
    subst h0
    obtain rfl : k = 0 := by simpa using hk
    cases h1
    refine ⟨none, 0, fun W => ?_, BytesAt.nil w⟩
    rw [hrun W, he, size_u8]
    simp [Result.andThen, sliced]
  · rw [List.length_map] at h1
    cases h1
    by_cases hck : c = k
    · have hkl : k = l.length := by omega
      subst hkl
      refine ⟨some ⟨b, o, none⟩, 0, fun W => ?_, ?_⟩
      · rw [hrun W, he, size_u8]
        simp [Result.andThen, sliced, hck]
      · refine .inr ⟨by simp, ⟨b, o, none⟩, 0, by simp, by unfold maxLen; omega⟩
    · refine ⟨some ⟨b, o + k, none⟩, c - k, fun W => ?_, ?_⟩
      · rw [hrun W, he, size_u8]
        simp [Result.andThen, sliced, Addr.add, hck]
      · refine .inl (.inr ⟨b, o + k, c - k, by rw [List.length_map, hlen], hb, by rw [List.length_map, hlen]; omega, by omega, fun i x hi => ?_⟩)
        rw [List.getElem?_map, List.getElem?_drop] at hi
        rw [Nat.add_assoc]
        exact h4 (k + i) x (by rw [List.getElem?_map]; exact hi)
  · have h0 : l = [] := by simpa using h1
    subst h0
    obtain rfl : k = 0 := by simpa using hk
    cases h2
    refine ⟨some a1, c, fun W => ?_, .inr ⟨rfl, a1, c, rfl, hcm⟩⟩
    rw [hrun W, he, size_u8]
    by_cases hc : c = 0 <;> simp [Result.andThen, sliced, Addr.add, hc]

/-- b[:k] of bytes. -/
theorem slice_upto {w : World} {a : Option Addr} {n c : Nat} {l : List UInt8} (h : BytesAt w (.slice a n c) l) (hn : l.length = n) (k : Nat) (hk : k ≤ n) :
    (∀ W, (Instr.slice 43 (.slice a n c) none (some (.int .i64 (k : Int))) none).run Tryz.prog W = .ok (.slice a k c) W) ∧ BytesAt w (.slice a k c) (l.take k) := by
  obtain ⟨a0, c0, hf, hlc, hcm⟩ := h.form
  cases hf
  clear hn
  rw [List.length_map] at hlc hk h ⊢
  have he := elem_u8
  have hrun : ∀ W, (Instr.slice 43 (.slice a l.length c) none (some (.int .i64 (k : Int))) none).run Tryz.prog W = _ := fun W => run_slice_h W 43 a l.length c (by rw [he]; exact Tryz.underlying43) .i64 (k : Int) (by omega) (by omega)
  have hlen : (l.take k).length = k := by rw [List.length_take]; omega
  rcases h with (⟨h1, h2⟩ | ⟨b, o, cap, h1, hb, h2, h3, h4⟩) | ⟨h1, a1, cap, h2, h3⟩
  · have h0 : l = [] := by simpa using h2
    subst h0
    obtain rfl : k = 0 := by simpa using hk
    cases h1
    refine ⟨fun W => ?_, BytesAt.nil w⟩
    rw [hrun W, he, size_u8]
    simp [Result.andThen, sliced]
  · rw [List.length_map] at h1
    cases h1
    refine ⟨fun W => ?_, .inl (.inr ⟨b, o, c, by rw [List.length_map, hlen], hb, by rw [List.length_map, hlen]; omega, hcm, fun i x hi => ?_⟩)⟩
    · rw [hrun W, he, size_u8]
      simp [Result.andThen, sliced, Addr.add]
    · rw [List.getElem?_map] at hi
      have hlt : i < k := by
        have := (List.getElem?_eq_some_iff.1 (show ((l.take k).map B)[i]? = some x by rw [List.getElem?_map]; exact hi)).1
        rw [List.length_map, hlen] at this
        exact this
      rw [List.getElem?_take_of_lt hlt] at hi
      exact h4 i x (by rw [List.getElem?_map]; exact hi)
  · have h0 : l = [] := by simpa using h1
    subst h0
    obtain rfl : k = 0 := by simpa using hk
    cases h2
    refine ⟨fun W => ?_, .inr ⟨rfl, a1, c, rfl, hcm⟩⟩
    rw [hrun W, he, size_u8]
    simp [Result.andThen, sliced, Addr.add]

theorem info_u64 : (Tryz.prog.info? 41).map (fun i => (i.zero, i.size, i.bytes)) = some (some (.int .u64 0), 1, 8) := by kernel_rfl

/-- The numbers that bytes are, eight each. -/
def wordsL (l : List UInt8) (m : Nat) : List Nat := (List.range m).map fun i => leN ((l.drop (8 * i)).take 8)
theorem wordsL_length (l : List UInt8) (m : Nat) : (wordsL l m).length = m := by simp [wordsL]
theorem wordsL_snoc (l : List UInt8) (m : Nat) : wordsL l (m + 1) = wordsL l m ++ [leN ((l.drop (8 * m)).take 8)] := by simp [wordsL, List.range_succ]

set_option maxRecDepth 100000 in
set_option maxHeartbeats 1000000 in
theorem words_any (a : Option Addr) (n c m : Nat) (l : List UInt8) (w : World) (hv : BytesAt w (.slice a n c) l) (hn : l.length = n) (hm : n = 8 * m) (hm2 : m ≤ 1000) :
    Calls Tryz.prog 83 #[.slice a n c] w fun e w' => ∃ a c, e = .returned (.slice a m c) ∧ w'.ownsRow w.heap.size 41 1 (.slice a m c) m ((wordsL l m).map U64) ∧ Mod w w' Nob := by
  obtain ⟨j0, hj, hz0, hz1, hz2⟩ := info_parts info_u64
  have hsl := fun (k : Nat) (hk : k ≤ n) => slice_from hv hn k hk
  have HN := Lib.hid hn
  have HM := Lib.hid hm
  have hn2 : n ≤ 8000 := by omega
  clear hn hm hv
  go_enter Tryz.func83, Tryz.ntmps83
  go_wp2_with fail
  go_loopw [3, 4] (fun b i wr => ∃ j : Nat, j ≤ m ∧ i = .int .i64 ((8 * j : Nat) : Int) ∧ ∃ a c, b = .slice a j c ∧ wr.ownsRow w.heap.size 41 1 (.slice a j c) j ((wordsL l j).map U64) ∧ Mod w wr Nob) (fun _ i _ => n - (intOf i).toNat)
  case atStart => exact ⟨0, Nat.zero_le _, rfl, none, 0, rfl, World.ownsRow_nil _ _ _ _, Mod.refl _ _⟩
  case round =>
    obtain ⟨j, hjk, rfl, a1, c1, rfl, hown, hm⟩ := hrel
    have h0 := hm.size
    by_cases hlt : j < m
    · have hP2 : 8 * j + 8 ≤ n := by have := HM.out; omega
      obtain ⟨P, hP⟩ : ∃ P, 8 * j = P := ⟨_, rfl⟩
      rw [hP] at hP2 ⊢
      obtain ⟨a', c', hrun, hb⟩ := hsl P (by omega)
      have hb' := hb.mod hm (fun _ _ => nob)
      have hln : (l.drop P).length = n - P := by rw [List.length_drop, HN.out]
      have hlow := low_any _ _ 8 wr hb' (by rw [hln]; omega) (by omega)
      have hsn := wordsL_snoc l j
      rw [hP] at hsn
      have HS := Lib.hid hsn
      have HP := Lib.hid hP
      obtain ⟨q, hq⟩ : ∃ q, leN ((l.drop P).take 8) = q := ⟨_, rfl⟩
      rw [hq] at hlow
      have HQ := Lib.hid hq
      have hdl : decide ((P : Int) + 8 ≤ (n : Int)) = true := by simp; omega
      obtain ⟨ws, hws⟩ : ∃ ws, wordsL l j = ws := ⟨_, rfl⟩
      rw [hws] at hown
      have HW := Lib.hid hws
      have hown1 := owns_mod hown ((Mod.refl wr Nob).alloc (.cells #[.int .u64 (q : Int)] 41)) (fun _ _ => nob)
      clear hsn hP hq hws hb hb' hln hsl hown
      go_wp2_with fail
      refine hlow.mono ?_
      rintro e w3 ⟨rfl, rfl⟩
      clear hlow
      go_wp2_with (at_builtin; refine wpList_append_one _ rfl _ _ 39 rfl w.heap.size 41 j0 _ 1 8 Tryz.underlying39 hj hz0 hz1 hz2 rfl (by decide) (.slice a1 j c1) j _ rfl hown1 w3.heap.size 1 [.int .u64 (q : Int)] 41 rfl rfl (CellsAt.new w3 _ _) (by simp [Value.oneCell']) (by unfold maxLen; omega) (by omega) (by simp; omega) ?_)
      intro v' w4 hown4 hg4 hin4
      obtain ⟨a4, c4, rfl, _⟩ := owns_form hown4
      have hm4 := ((Mod.refl w3 (inBlock (.slice a1 j c1))).alloc (.cells #[.int .u64 (q : Int)] 41)).grown hg4 (fun k hk => .inl hk)
      have hm5 := hm.drop hm4 (fun k hk => .inr (hown1.lt k hk).1)
      clear hg4 hin4 hm4 hown1 hrun
      go_wp2_with fail
      refine ⟨⟨j + 1, by omega, ?_, a4, c4, rfl, ?_, hm5⟩, by simp [intOf]; omega⟩
      · have : 8 * (j + 1) = P + 8 := by have := HP.out; omega
        rw [this]; go_num
      · rw [HS.out, HW.out, HQ.out]
        simpa [U64] using hown4
    · obtain rfl : j = m := by omega
      have hdl : decide ((8 * (j : Int)) + 8 ≤ (n : Int)) = false := by have := HM.out; simp; omega
      have hnd : ¬ (8 * (j : Int)) + 8 ≤ (n : Int) := by have := HM.out; omega
      clear hsl
      go_wp2_with fail
      go_ret
      exact ⟨a1, c1, rfl, hown, hm⟩

end Go.Proofs.YtakgnkjopbflbaaGreatDoor
