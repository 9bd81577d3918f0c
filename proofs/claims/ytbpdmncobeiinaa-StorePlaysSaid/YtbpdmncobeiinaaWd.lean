/- The law StoreRolls walked. No condition. -/
import Derived.Test.YtbpdmncobeiinaaWc
import Derived.Test.YtbpdmncobeiinaaKb
import Derived.Test.YtbpdmncobeiinaaBp
import Derived.OpenShut
import Derived.Deep.QuietTactic
import Derived.BigQuiet
namespace Go.Proofs.Ytbpdmncobeiinaa
open Go.RowKit

/-- Whole numbers that came in. -/
theorem ints_in {w : World} {a : Option Addr} {len cap : Nat} (h : Rowed w [.int .i64] a len cap) : ∃ zs : List Int, zs.length = len ∧ (len = 0 ∨ ∃ b o, a = some ⟨b, o, none⟩ ∧ b < w.heap.size ∧ ∀ i z, zs[i]? = some z → w.cell? ⟨b, o + i, none⟩ = some (.int .i64 z)) ∧ cap ≤ maxLen ∧ len ≤ cap := by
  obtain ⟨h1, h2, h3, h4⟩ := h
  have hc : cap ≤ maxLen := by unfold maxLen; omega
  by_cases h0 : len = 0
  · exact ⟨[], by simpa using h0.symm, .inl h0, hc, by simpa using h1⟩
  · obtain ⟨b, o, rfl, hb, hx⟩ := h4.resolve_left h0
    have h7 : ∀ i, i < len → ∃ z : Int, w.cell? ⟨b, o + i, none⟩ = some (.int .i64 z) := by
      intro i hi
      obtain ⟨cs, hok, hc⟩ := hx i hi
      cases hok with
      | cons hv ht =>
        obtain ⟨z, rfl, hz⟩ := hv
        have h8 := hc 0 _ rfl
        exact ⟨z, by simpa using h8⟩
    obtain ⟨z, hz⟩ := Go.Deep.choose_lt h7
    refine ⟨(List.range len).map z, by simp, .inr ⟨b, o, rfl, hb, fun i x hi => ?_⟩, hc, by simpa using h1⟩
    have hi2 : i < len := by
      have := (List.getElem?_eq_some_iff.1 hi).1
      simpa using this
    rw [hz i hi2]
    simp [hi2] at hi
    rw [hi]

/-- The letter of a number, as StoreRolls takes it. -/
def letter (z : Int) : UInt8 := UInt8.ofNat (97 + ((IntKind.u64.wrap z).tmod 4).toNat)
def named (z : Int) : ByteArray := ⟨#[letter z]⟩

theorem letter_eq (z : Int) : IntKind.u64.wrap (97 + (IntKind.u64.wrap z).tmod 4) % 256 = ((letter z).toNat : Int) := by
  have h2 : 0 ≤ IntKind.u64.wrap z := by unfold IntKind.wrap; simp [IntKind.signed, IntKind.bits]; omega
  have h3 : 0 ≤ (IntKind.u64.wrap z).tmod 4 := Int.tmod_nonneg _ h2
  have h4 : (IntKind.u64.wrap z).tmod 4 < 4 := Int.tmod_lt_of_pos _ (by omega)
  unfold letter
  obtain ⟨m, hm⟩ : ∃ m, (IntKind.u64.wrap z).tmod 4 = m := ⟨_, rfl⟩
  rw [hm] at h3 h4 ⊢
  simp [IntKind.wrap, IntKind.signed, IntKind.bits, UInt8.toNat_ofNat']
  omega

/-- One byte, in a new block. -/
theorem byte_new (w : World) (y : UInt8) : BytesAt (w.alloc (.cells #[.int .u8 (y.toNat : Int)] 5)) (.slice (some ⟨w.heap.size, 0, none⟩) 1 1) [y] := by
  have hc := CellsAt.new w #[.int .u8 (y.toNat : Int)] 5
  exact .inl (.inr ⟨w.heap.size, 0, 1, rfl, hc.lt, by simp, by unfold maxLen; omega, fun i u hi => by rw [Nat.zero_add, hc.cell i]; simpa [B] using hi⟩)
theorem run_name (w : World) (y : UInt8) (v : Int) (h : v = (y.toNat : Int)) : (convert 22 9 (.slice (some ⟨w.heap.size, 0, none⟩) 1 1)).run Try.prog (w.alloc (.cells #[.int .u8 v] 5)) = .ok (.string ⟨#[y]⟩) (w.alloc (.cells #[.int .u8 v] 5)) := by
  subst h
  exact run_text (byte_new w y) 22 9 _ Try.underlying22 Try.underlying5 Try.underlying9

/-- How far it rolls back. -/
theorem back_of (n : Int) (len : Nat) (h : (len : Int) ≤ 40) : ∃ k : Nat, wrap64 ((IntKind.u64.wrap n).tmod ((len : Int) + 1)) = (k : Int) ∧ k ≤ len := by
  have h2 : 0 ≤ IntKind.u64.wrap n := by unfold IntKind.wrap; simp [IntKind.signed, IntKind.bits]; omega
  have h3 : 0 ≤ (IntKind.u64.wrap n).tmod ((len : Int) + 1) := Int.tmod_nonneg _ h2
  have h4 : (IntKind.u64.wrap n).tmod ((len : Int) + 1) < (len : Int) + 1 := Int.tmod_lt_of_pos _ (by omega)
  obtain ⟨m, hm⟩ : ∃ m, (IntKind.u64.wrap n).tmod ((len : Int) + 1) = m := ⟨_, rfl⟩
  rw [hm] at h3 h4 ⊢
  refine ⟨m.toNat, ?_, by omega⟩
  unfold wrap64
  omega

/-- What the two maps hold. -/
def wants (l : List ByteArray) (nm : ByteArray) : Option Value := (lastOf l nm).map fun i => B (UInt8.ofNat i)
def counts (l : List ByteArray) (nm : ByteArray) : Option Value := if timesOf l nm = 0 then none else some (.int .i64 (timesOf l nm : Nat))

theorem wants_snoc (l : List ByteArray) (nm : ByteArray) : wants (l ++ [nm]) = upd (wants l) nm (some (B (UInt8.ofNat l.length))) := by
  funext k
  unfold wants
  rw [lastOf_snoc]
  unfold upd
  split <;> rfl
theorem counts_snoc (l : List ByteArray) (nm : ByteArray) : counts (l ++ [nm]) = upd (counts l) nm (some (.int .i64 ((timesOf l nm : Nat) + 1 : Int))) := by
  funext k
  unfold counts
  rw [timesOf_snoc]
  unfold upd
  by_cases h : k = nm
  · subst h; simp
  · have h' : ¬ nm = k := fun e => h e.symm
    simp [h, h']
theorem counts_get (l : List ByteArray) (nm : ByteArray) : (counts l nm).getD (.int .i64 0) = .int .i64 (timesOf l nm : Nat) := by
  unfold counts
  split
  · rename_i h; rw [h]; rfl
  · rfl

theorem zero_int (w : World) : (zeroValue 3).run Try.prog w = .ok (.int .i64 0) w := by kernel_rfl
theorem zero_u8 (w : World) : (zeroValue 5).run Try.prog w = .ok (.int .u8 0) w := by kernel_rfl

/-- What is so between two steps of its first loop: of the names put, wanted, counted. -/
structure RollI (w wr : World) (b Mw : Nat) (P Q R : List ByteArray) (σ : Sto) (x : StoB) : Prop where
  own : Own w wr b σ x
  hist : Hist P σ
  want : MapAt Value.string wr Mw (wants Q)
  count : MapAt Value.string wr (Mw + 1) (counts R)
  newer : w.heap.size ≤ Mw
  apart : ¬ x.foot b Mw ∧ ¬ x.foot b (Mw + 1)

theorem RollI.put {w wr W : World} {b Mw : Nat} {P Q R : List ByteArray} {σ : Sto} {x : StoB} (h : RollI w wr b Mw P Q R σ x) (hm : Mod wr W Nob) (nm : ByteArray) (hs : nm.size ≤ maxLen) (hP : P.length < 1000) (v : Value) (hv : BytesAt W v [UInt8.ofNat P.length]) :
    Calls Try.prog 9 #[.pointer (some ⟨b, 0, none⟩), .string nm, v] W fun e w' => e = .returned (.tuple #[]) ∧ ∃ σ' x', RollI w w' b Mw (P ++ [nm]) Q R σ' x' := by
  have ho := h.own.still hm
  have hvn : (σ.vers nm).length < 1073741824 := by
    rw [h.hist.vers nm]
    have : timesOf P nm ≤ P.length := List.countP_le_length
    omega
  refine (put_any b σ x nm v _ W ho.at_ hv (by simp) (by rw [h.hist.len]; omega) (by rw [h.hist.puts, List.length_range]; omega) hvn).mono fun e w' hd => ?_
  obtain ⟨x', he, hst, hk⟩ := hd
  obtain ⟨x2, he2, ho2⟩ := ho.step ⟨x', he, hst, hk⟩
  have ho3 : Own w w' b (σ.put nm [UInt8.ofNat P.length]) x' := ⟨hst, ho2.mod, fun k hk' => (hk.foot k hk').elim (h.own.fresh k) (fun h1 => Nat.le_trans h.own.mod.size (Nat.le_trans hm.size h1))⟩
  have hs1 := h.want.lt
  have hs2 := h.count.lt
  have hs3 := hm.size
  exact ⟨he, _, x', ho3, h.hist.put nm hs, (h.want.mod hm nob).mod hk.mod (fun hf => h.apart.1 (.inl hf)), (h.count.mod hm nob).mod hk.mod (fun hf => h.apart.2 (.inl hf)), h.newer,
    fun hf => (hk.foot _ hf).elim h.apart.1 (fun h1 => by omega), fun hf => (hk.foot _ hf).elim h.apart.2 (fun h1 => by omega)⟩

theorem RollI.counted {w wr W : World} {b Mw : Nat} {P Q R : List ByteArray} {σ : Sto} {x : StoB} (h : RollI w wr b Mw P Q R σ x) (nm : ByteArray) (hg : wr.grownBy W (some (Mw + 1)))
    (hM : MapAt Value.string W (Mw + 1) (upd (counts R) nm (some (.int .i64 ((timesOf R nm : Nat) + 1 : Int))))) : RollI w W b Mw P Q (R ++ [nm]) σ x := by
  have hm : Mod wr W (· = Mw + 1) := (Mod.refl wr (· = Mw + 1)).grown hg (fun k hk => .inl (by cases hk; rfl))
  have hs := hm.size
  rw [← counts_snoc] at hM
  exact ⟨⟨h.own.at_.mod hm (fun k (hk : k = Mw + 1) => by rw [hk]; exact h.apart.2), h.own.mod.drop hm (fun k (hk : k = Mw + 1) => .inr (by have := h.newer; omega)), h.own.fresh⟩, h.hist, h.want.mod hm (fun (hk : Mw = Mw + 1) => by omega), hM, h.newer, h.apart⟩

theorem RollI.wanted {w wr W : World} {b Mw : Nat} {P Q R : List ByteArray} {σ : Sto} {x : StoB} (h : RollI w wr b Mw P Q R σ x) (nm : ByteArray) (hg : wr.grownBy W (some Mw))
    (hM : MapAt Value.string W Mw (upd (wants Q) nm (some (B (UInt8.ofNat Q.length))))) : RollI w W b Mw P (Q ++ [nm]) R σ x := by
  have hm : Mod wr W (· = Mw) := (Mod.refl wr (· = Mw)).grown hg (fun k hk => .inl (by cases hk; rfl))
  rw [← wants_snoc] at hM
  exact ⟨⟨h.own.at_.mod hm (fun k (hk : k = Mw) => by rw [hk]; exact h.apart.1), h.own.mod.drop hm (fun k (hk : k = Mw) => .inr (by have := h.newer; omega)), h.own.fresh⟩, h.hist, hM, h.count.mod hm (fun (hk : Mw + 1 = Mw) => by omega), h.newer, h.apart⟩

theorem take_more (l : List ByteArray) (q : Nat) (nm : ByteArray) (h : l[q]? = some nm) : l.take (q + 1) = l.take q ++ [nm] := by
  obtain ⟨h1, h2⟩ := List.getElem?_eq_some_iff.1 h
  rw [List.take_succ_eq_append_getElem h1, h2]

theorem byte_nat (q : Nat) (h : q < 256) : B (UInt8.ofNat q) = .int .u8 (q : Int) := by
  unfold B
  rw [UInt8.toNat_ofNat', Nat.mod_eq_of_lt h]

/-- What is so behind the roll. -/
structure DoneI (w wr : World) (b Mw : Nat) (names : List ByteArray) (n : Nat) (σ : Sto) (x : StoB) : Prop where
  own : Own w wr b σ x
  rolled : Rolled names n σ
  want : MapAt Value.string wr Mw (wants (names.take (names.length - n)))
  count : MapAt Value.string wr (Mw + 1) (counts names)

theorem DoneI.still {w wr W : World} {b Mw : Nat} {names : List ByteArray} {n : Nat} {σ : Sto} {x : StoB} (h : DoneI w wr b Mw names n σ x) (hm : Mod wr W Nob) : DoneI w W b Mw names n σ x :=
  ⟨h.own.still hm, h.rolled, h.want.mod hm nob, h.count.mod hm nob⟩

theorem RollI.roll {w wr : World} {b Mw : Nat} {names : List ByteArray} {n : Nat} {σ : Sto} {x : StoB} (h : RollI w wr b Mw names (names.take (names.length - n)) names σ x) (hl : names.length ≤ 1000) (hn : n ≤ names.length) :
    Calls Try.prog 17 #[.pointer (some ⟨b, 0, none⟩), .int .i64 n] wr fun e w' => e = .returned (.bool true) ∧ ∃ σ' x', DoneI w w' b Mw names n σ' x' := by
  refine (roll_hist b σ x names n wr h.own.at_ h.hist hl hn).mono fun e w' hd => ?_
  obtain ⟨σ', hr, x', he, hst, hk⟩ := hd
  have hs1 := h.want.lt
  have hs2 := h.count.lt
  obtain ⟨x2, he2, ho2⟩ := h.own.step ⟨x', he, hst, hk⟩
  have ho3 : Own w w' b σ' x' := ⟨hst, ho2.mod, fun k hk' => (hk.foot k hk').elim (h.own.fresh k) (fun h1 => Nat.le_trans h.own.mod.size h1)⟩
  exact ⟨he, σ', x', ho3, hr, h.want.mod hk.mod (fun hf => h.apart.1 (.inl hf)), h.count.mod hk.mod (fun hf => h.apart.2 (.inl hf))⟩

set_option maxRecDepth 100000 in
set_option maxHeartbeats 4000000 in
theorem rolls_law (a0 : Option Addr) (len cap : Nat) (n0 : Int) (w : World) (h0 : Rowed w [.int .i64] a0 len cap) (_ : (Lit.int .i64 n0).wf = true) :
    Calls Try.prog 4 #[.slice a0 len cap, .int .i64 n0] w (YesN w) := by
  obtain ⟨zs, hzl, hrow, hcap, hlc⟩ := ints_in h0
  clear h0
  have HZ := Lib.hid hzl
  clear hzl
  have hmm := @run_makeMap Try.prog
  go_enter Try.func4, Try.ntmps4
  go_wp2_with fail
  refine (new_any w).mono ?_
  rintro e w1 h0
  obtain ⟨b, x, rfl, h1⟩ := Own.new h0
  clear h0
  go_wp2_with fail
  refine (awake_store w1).mono ?_
  rintro e w2 ⟨rfl, hm2⟩
  replace h1 := h1.still hm2
  clear hm2
  go_wp2_with fail
  -- MARK1
  all_goals try (
    go_at_call 8
    refine (awake_store w2).mono ?_
    rintro e w3 ⟨rfl, hm3⟩
    go_wp2_with fail
    go_ret
    exact ⟨rfl, h1.mod.trans hm3⟩)
  have hlen40 := ‹(len : Int) ≤ 40›
  obtain ⟨n, hn, hnl⟩ := back_of n0 len hlen40
  simp only [hn]
  clear hn
  obtain ⟨names, hnames⟩ : ∃ names, zs.map named = names := ⟨_, rfl⟩
  have hnl2 : Hid (names.length = len) := Lib.hid (by rw [← hnames, List.length_map]; exact HZ.out)
  have hat : ∀ q z, zs[q]? = some z → names[q]? = some (named z) := fun q z hq => by rw [← hnames, List.getElem?_map, hq]; rfl
  have HN := Lib.hid hat
  have hM1 := (MapAt.new Value.string w2).mod ((Mod.refl _ Nob).alloc (.map #[] 0)) nob
  have hM2 := MapAt.new Value.string (w2.alloc (.map #[] 0))
  rw [World.size_alloc] at hM2
  have hI0 : RollI w ((w2.alloc (.map #[] 0)).alloc (.map #[] 0)) b w2.heap.size [] [] [] sto0 x :=
    ⟨h1.still (((Mod.refl w2 Nob).alloc _).alloc _), hist0, hM1, hM2, h1.mod.size, fun hf => by have := h1.at_.foot_lt _ hf; omega, fun hf => by have := h1.at_.foot_lt _ hf; omega⟩
  obtain ⟨Mw, hMw⟩ : ∃ Mw, w2.heap.size = Mw := ⟨_, rfl⟩
  obtain ⟨W, hW⟩ : ∃ W, (w2.alloc (.map #[] 0)).alloc (.map #[] 0) = W := ⟨_, rfl⟩
  rw [hW] at hI0 ⊢
  rw [hMw] at hI0 ⊢
  clear hM1 hM2 hat hnames hMw hW h1 hmm
  go_loopw [9] (fun i wr => ∃ q : Nat, q ≤ len ∧ i = .int .i64 q ∧ ∃ σ x, RollI w wr b Mw (names.take q) (names.take (min q (len - n))) (names.take q) σ x) (fun i _ => len - (intOf i).toNat)
  case atStart => exact ⟨0, Nat.zero_le _, rfl, _, _, by simpa using hI0⟩
  case round =>
    obtain ⟨q, hq, rfl, σ, x, hI⟩ := hrel
    by_cases hlt : q < len
    · obtain ⟨z, hz⟩ : ∃ z, zs[q]? = some z := ⟨_, List.getElem?_eq_getElem (by rw [HZ.out]; exact hlt)⟩
      obtain ⟨b0, o0, rfl, hb0, hx0⟩ := hrow.resolve_left (by omega)
      have hc0 : wr.cell? ⟨b0, o0 + q, none⟩ = some (.int .i64 z) := by rw [hI.own.mod.cell hb0 nob]; exact hx0 q z hz
      have hnm := HN.out q z hz
      have HM := Lib.hid hnm
      clear hnm hz hx0
      have hcv := run_name wr (letter z) _ (letter_eq z)
      go_wp2_with fail
      have hqn : (names.take q).length = q := by rw [List.length_take, hnl2.out]; omega
      have hbq := byte_nat q (by omega)
      have hby : BytesAt ((wr.alloc (.cells #[.int .u8 (IntKind.u64.wrap (97 + (IntKind.u64.wrap z).tmod 4) % 256)] 5)).alloc (.cells #[.int .u8 (q : Int)] 5)) (.slice (some ⟨wr.heap.size + 1, 0, none⟩) 1 1) [UInt8.ofNat q] := by
        have h2 := byte_new (wr.alloc (.cells #[.int .u8 (IntKind.u64.wrap (97 + (IntKind.u64.wrap z).tmod 4) % 256)] 5)) (UInt8.ofNat q)
        unfold B at hbq
        rw [hbq, World.size_alloc] at h2
        exact h2
      refine (hI.put (((Mod.refl wr Nob).alloc _).alloc _) (named z) (by unfold maxLen; simp [named, ByteArray.size]) (by omega) _ (by rw [hqn]; exact hby)).mono ?_
      rintro e w3 ⟨rfl, σ3, x3, hI3⟩
      rw [← take_more names q _ HM.out] at hI3
      have HI := Lib.hid hI3
      have hmc := hI3.count
      have hT := counts_get (names.take q) (named z)
      obtain ⟨T, hTT⟩ : ∃ T, timesOf (names.take q) (named z) = T := ⟨_, rfl⟩
      have hT2 : T ≤ 40 := by
        rw [← hTT]
        have : timesOf (names.take q) (named z) ≤ (names.take q).length := List.countP_le_length
        omega
      rw [hTT] at hT
      have HT := Lib.hid hT
      have HTT := Lib.hid hTT
      have hlk : (Instr.lookup 38 (.map (some (Mw + 1))) (.string ⟨#[letter z]⟩) false).run Try.prog w3 = .ok (.int .i64 T) w3 := by
        have h := run_lookup_at Try.underlying38 keyS zero_int hmc (named z) false
        rw [hT] at h
        exact h
      clear hI3 hby hcv hT hTT hI
      go_wp2_with (refine wpList_mapUpdate_at rfl (.tmp 62) (.tmp 63) (.tmp 65) 38 rfl 9 3 Try.underlying38 keyS rfl hmc (named z) rfl (.int .i64 ((T : Nat) + 1 : Int)) rfl ?_)
      intro w4 hm4 hg4
      have hI4 := HI.out.counted (named z) hg4 (by rw [HTT.out]; exact hm4)
      rw [← take_more names q _ HM.out] at hI4
      have HI4 := Lib.hid hI4
      clear HI hm4 hg4 hlk hmc hI4
      have hmw := HI4.out.want
      go_wp2_with (refine wpList_mapUpdate_at rfl (.tmp 72) (.tmp 73) (.tmp 75) 37 rfl 9 5 Try.underlying37 keyS rfl hmw (named z) rfl (.int .u8 q) rfl ?_)
      · intro w5 hm5 hg5
        have hqd := ‹(q : Int) < (len : Int) - n›
        have hmin : min q (len - n) = q := Nat.min_eq_left (by omega)
        have hmin2 : min (q + 1) (len - n) = q + 1 := Nat.min_eq_left (by omega)
        have hI4 := HI4.out
        rw [hmin] at hI4 hm5
        have hI5 := hI4.wanted (named z) hg5 (by rw [hqn, hbq]; exact hm5)
        rw [← take_more names q _ HM.out] at hI5
        have HI5 := Lib.hid hI5
        have Hmin := Lib.hid hmin2
        clear hI4 hI5 hm5 hg5 hmw hmin hmin2 HI4
        go_wp2_with fail
        exact ⟨⟨q + 1, by omega, by go_num, σ3, x3, by rw [Hmin.out]; exact HI5.out⟩, by simp [intOf]; omega⟩
      · have hqd := ‹(len : Int) - n ≤ q›
        have hmin : min (q + 1) (len - n) = min q (len - n) := by omega
        exact ⟨⟨q + 1, by omega, by go_num, σ3, x3, by rw [hmin]; exact HI4.out⟩, by simp [intOf]; omega⟩
    · obtain rfl : q = len := by omega
      have hall : names.take q = names := List.take_of_length_le (by rw [hnl2.out]; exact Nat.le_refl _)
      have hmin : min q (q - n) = q - n := by omega
      rw [hall, hmin] at hI
      have HI := Lib.hid hI
      clear hI hall hmin
      go_wp2_with fail
      have hI := HI.out
      rw [← hnl2.out] at hI
      refine (hI.roll (by rw [hnl2.out]; omega) (by rw [hnl2.out]; exact hnl)).mono ?_
      rintro e w3 ⟨rfl, σ3, x3, hD⟩
      clear hI HI σ x
      go_wp2_with fail
      refine (roll_no b σ3 x3 _ w3 hD.own.at_ (.inr (by rw [hD.rolled.2.1, hnl2.out]; omega))).mono ?_
      rintro e w4 ⟨rfl, rfl⟩
      go_wp2_with fail
      refine (roll_no b σ3 x3 _ w3 hD.own.at_ (.inl (by omega))).mono ?_
      rintro e w4 ⟨rfl, rfl⟩
      go_wp2_with fail
      have hwa := writes_any b σ3 x3 w3 hD.own.at_
      rw [hD.rolled.2.1, hnl2.out] at hwa
      refine hwa.mono ?_
      rintro e w4 ⟨rfl, rfl⟩
      clear hwa
      go_wp2_with fail
      go_loopw [11] (fun i wr2 => ∃ k : Nat, k ≤ 4 ∧ i = .int .i64 k ∧ DoneI w wr2 b Mw names n σ3 x3) (fun i _ => 4 - (intOf i).toNat)
      case atStart => exact ⟨0, Nat.zero_le _, rfl, hD⟩
      case round =>
        clear hD
        obtain ⟨k, hk, rfl, hD⟩ := hrel
        obtain ⟨wo, hwo⟩ : ∃ wo : World, wo = wr := ⟨_, rfl⟩
        rw [← hwo] at hD ⊢
        clear hwo
        by_cases hk4 : k < 4
        · obtain ⟨y, hy⟩ : ∃ y : UInt8, (y.toNat : Int) = 97 + (k : Int) := ⟨UInt8.ofNat (97 + k), by rw [UInt8.toNat_ofNat', Nat.mod_eq_of_lt (by omega)]; omega⟩
          have hcv := run_name wo y _ hy.symm
          have hD1 := hD.still ((Mod.refl wo Nob).alloc (.cells #[.int .u8 (97 + (k : Int))] 5))
          go_wp2_with fail
          refine (get_any b σ3 x3 ⟨#[y]⟩ _ hD1.own.at_ hD1.rolled.short).mono ?_
          rintro e w5 ⟨v5, rfl, hown, hm5⟩
          have hD5 := hD1.still hm5
          have hsh := hD5.rolled.1 ⟨#[y]⟩
          have hlk := run_lookup_at Try.underlying37 keyS zero_u8 hD5.want ⟨#[y]⟩ true
          have hve : ∀ m, Calls Try.prog 15 #[.pointer (some ⟨b, 0, none⟩), .string ⟨#[y]⟩] (w5.drewN m) (fun e w' => e = .returned (.int .i64 ((timesOf names ⟨#[y]⟩ : Nat) : Int)) ∧ w' = w5.drewN m) := fun m => by
            have h := versions_any b σ3 x3 ⟨#[y]⟩ (w5.drewN m) (hD5.own.at_.still ((Mod.refl w5 Nob).drewN m))
            rw [hD5.rolled.2.2] at h
            exact h.mono fun e w' ⟨he, hw⟩ => ⟨he, hw.symm⟩
          have hcu : ∀ m, (Instr.lookup 38 (.map (some (Mw + 1))) (.string ⟨#[y]⟩) false).run Try.prog (w5.drewN m) = .ok (.int .i64 (timesOf names ⟨#[y]⟩ : Nat)) (w5.drewN m) := fun m => by
            have h := run_lookup_at Try.underlying38 keyS zero_int (hD5.count.mod ((Mod.refl w5 Nob).drewN m) nob) ⟨#[y]⟩ false
            rw [counts_get] at h
            exact h
          obtain ⟨T, hT⟩ : ∃ T, timesOf names ⟨#[y]⟩ = T := ⟨_, rfl⟩
          rw [hT] at hcu
          simp only [hT] at hve
          unfold wants at hlk
          clear hcv hD hD1
          cases hlast : lastOf (names.take (names.length - n)) ⟨#[y]⟩ with
          | none =>
            rw [hlast] at hsh hlk
            simp only [Option.map_none, Option.getD_none, Option.isSome_none, if_true] at hsh hlk
            rw [hsh] at hown ⊢
            obtain ⟨a5, c5, rfl, _⟩ := owns_form hown
            clear hown hsh hlast
            go_wp2_with fail
            go_quiet ((go_at_call 15; exact Calls.quiet_of_same (hve _)))
            go_wp2_with fail
            exact ⟨⟨k + 1, by omega, by go_num, hD5.still ((Mod.refl w5 Nob).drewN _)⟩, by simp [intOf]; omega⟩
          | some i =>
            rw [hlast] at hsh hlk
            simp only [Option.map_some, Option.getD_some, Option.isSome_some, if_true] at hsh hlk
            rw [hsh] at hown ⊢
            obtain ⟨g5, c5, rfl, _, _, hcell, _⟩ := owns_open hown (by simp)
            have hc0 := hcell 0 (B (UInt8.ofNat i)) rfl
            have hci := byte_nat i (by
              have := lastOf_lt _ (names.take (names.length - n)) ⟨#[y]⟩ i rfl hlast
              rw [List.length_take, hnl2.out] at this
              omega)
            rw [hci] at hc0 hlk
            clear hcell hown hsh hlast hci
            go_wp2_with fail
            -- MARK3
            go_quiet ((go_at_call 15; exact Calls.quiet_of_same (hve _)))
            go_wp2_with fail
            exact ⟨⟨k + 1, by omega, by go_num, hD5.still ((Mod.refl w5 Nob).drewN _)⟩, by simp [intOf]; omega⟩
        · obtain rfl : k = 4 := by omega
          go_wp2_with fail
          go_ret
          exact ⟨rfl, hD.own.mod⟩

end Go.Proofs.Ytbpdmncobeiinaa
