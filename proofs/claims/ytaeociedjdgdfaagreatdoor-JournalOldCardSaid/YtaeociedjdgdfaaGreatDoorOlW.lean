/- Rolling back, plainly: what a store shows behind it is what it showed then; a history of Puts. No condition. -/
import Derived.Test.YtaeociedjdgdfaaGreatDoorBm
import Derived.Shelf.SlIter.Nil
import Derived.Shelf.SortM.Plain
import Derived.Shelf.SortM.SortNone
import Derived.Ground.GgzProg
import Derived.Ground.SlgmProg
import Derived.Test.YtaeociedjdgdfaaGreatDoorProg
import Derived.Test.YtaeociedjdgdfaaGreatDoorBa
import Derived.RangeFuncNested
import Derived.RangeFuncBound
import Derived.RangeFuncCalls
import Derived.RangeFuncLeaves
import Derived.Shelf.Abstract
import Derived.Shelf.RegionOpen
import Derived.OwnWalkIn
import Derived.TacticsInMore
import Derived.LoopNIn
import Derived.LoopIn
import Derived.Test.YtaeociedjdgdfaaGreatDoorOlA
namespace Go.Proofs.YtaeociedjdgdfaaGreatDoor
open Go Go.RowKit

section
variable {P : Program} {K : Type} [DecidableEq K]
variable {w : World} {ops : Array Oper} {rest : List Oper} {o : Oper} {a : Act} {Q : Exit → Act → World → Prop}

theorem wpList_lookup_some (hg : o.guard = none) (m x : Operand) (T : TypeId) (hop : o.op = Op.lookup T m x true) (key elem : TypeId) {enc : K → Value} {b : Nat} {f : K → Option Value} (z : Value)
    (ht : P.underlying T = some (.map key elem)) (hk : KeyOk P key enc) (hz : ∀ w, (zeroValue elem).run P w = .ok z w) (hm : a.eval m = .map (some b)) (hmap : MapAt enc w b f) (k : K) (hx : a.eval x = enc k) (v : Value) (hf : f k = some v)
    (hK : wpList P ops Q rest (a.put o.dst (.tuple #[v, .bool true])) w) : wpList P ops Q (o :: rest) a w :=
  wpList_lookup_at hg m x T true hop key elem z ht hk hz hm hmap k hx (by rw [hf]; exact hK)
theorem wpList_lookup_none (hg : o.guard = none) (m x : Operand) (T : TypeId) (hop : o.op = Op.lookup T m x true) (key elem : TypeId) {enc : K → Value} {b : Nat} {f : K → Option Value} (z : Value)
    (ht : P.underlying T = some (.map key elem)) (hk : KeyOk P key enc) (hz : ∀ w, (zeroValue elem).run P w = .ok z w) (hm : a.eval m = .map (some b)) (hmap : MapAt enc w b f) (k : K) (hx : a.eval x = enc k) (hf : f k = none)
    (hK : wpList P ops Q rest (a.put o.dst (.tuple #[z, .bool false])) w) : wpList P ops Q (o :: rest) a w :=
  wpList_lookup_at hg m x T true hop key elem z ht hk hz hm hmap k hx (by rw [hf]; exact hK)
theorem wpList_lookup_val (hg : o.guard = none) (m x : Operand) (T : TypeId) (hop : o.op = Op.lookup T m x false) (key elem : TypeId) {enc : K → Value} {b : Nat} {f : K → Option Value} (z : Value)
    (ht : P.underlying T = some (.map key elem)) (hk : KeyOk P key enc) (hz : ∀ w, (zeroValue elem).run P w = .ok z w) (hm : a.eval m = .map (some b)) (hmap : MapAt enc w b f) (k : K) (hx : a.eval x = enc k) (v : Value) (hf : (f k).getD z = v)
    (hK : wpList P ops Q rest (a.put o.dst v) w) : wpList P ops Q (o :: rest) a w :=
  wpList_lookup_at hg m x T false hop key elem z ht hk hz hm hmap k hx (by rw [← hf] at hK; exact hK)
end
end Go.Proofs.YtaeociedjdgdfaaGreatDoor

namespace Go.Proofs.YtaeociedjdgdfaaGreatDoor
open Go.Shelf
def layskeysc_ren : Go.Shelf.Ren := ⟨fun | 7 => 43 | 10 => 71 | n => n, fun | 23 => 102 | 26 => 9 | 3 => 107 | 28 => 70 | 0 => 0 | 27 => 69 | 33 => 49 | 4 => 4 | n => n, fun | n => n⟩
theorem layskeysc : Go.Proofs.SlLaysZ.n7 Tryz.prog layskeysc_ren := {
  mixed := by kernel_rfl
  f7 := ⟨Tryz.f43.name, by decide, Tryz.func43.trans (congrArg some (by kernel_rfl))⟩
  f10 := ⟨Tryz.f71.name, by decide, Tryz.func71.trans (congrArg some (by kernel_rfl))⟩
  t0 := Tryz.underlying0
  a0 := Tryz.isAgg0
  z0 := Tryz.sizeOf0
  v0 := Tryz.zeroValue0
  t4 := Tryz.underlying4
  a4 := Tryz.isAgg4
  z4 := Tryz.sizeOf4
  v4 := Tryz.zeroValue4
  t23 := Tryz.underlying102
  a23 := Tryz.isAgg102
  z23 := Tryz.sizeOf102
  v23 := Tryz.zeroValue102
  t26 := Tryz.underlying9
  a26 := Tryz.isAgg9
  z26 := Tryz.sizeOf9
  v26 := Tryz.zeroValue9
  t27 := Tryz.underlying69
  a27 := Tryz.isAgg69
  z27 := Tryz.sizeOf69
  v27 := Tryz.zeroValue69
  t28 := Tryz.underlying70
  a28 := Tryz.isAgg70
  z28 := Tryz.sizeOf70
  v28 := Tryz.zeroValue70
  t33 := Tryz.underlying49
  a33 := Tryz.isAgg49
  z33 := Tryz.sizeOf49
  v33 := Tryz.zeroValue49 }
def layskeysb_ren : Go.Shelf.Ren := ⟨fun | 7 => 49 | 10 => 72 | n => n, fun | 23 => 77 | 26 => 9 | 3 => 40 | 28 => 70 | 0 => 0 | 27 => 69 | 33 => 49 | 4 => 4 | n => n, fun | n => n⟩
theorem layskeysb : Go.Proofs.SlLaysZ.n7 Tryz.prog layskeysb_ren := {
  mixed := by kernel_rfl
  f7 := ⟨Tryz.f49.name, by decide, Tryz.func49.trans (congrArg some (by kernel_rfl))⟩
  f10 := ⟨Tryz.f72.name, by decide, Tryz.func72.trans (congrArg some (by kernel_rfl))⟩
  t0 := Tryz.underlying0
  a0 := Tryz.isAgg0
  z0 := Tryz.sizeOf0
  v0 := Tryz.zeroValue0
  t4 := Tryz.underlying4
  a4 := Tryz.isAgg4
  z4 := Tryz.sizeOf4
  v4 := Tryz.zeroValue4
  t23 := Tryz.underlying77
  a23 := Tryz.isAgg77
  z23 := Tryz.sizeOf77
  v23 := Tryz.zeroValue77
  t26 := Tryz.underlying9
  a26 := Tryz.isAgg9
  z26 := Tryz.sizeOf9
  v26 := Tryz.zeroValue9
  t27 := Tryz.underlying69
  a27 := Tryz.isAgg69
  z27 := Tryz.sizeOf69
  v27 := Tryz.zeroValue69
  t28 := Tryz.underlying70
  a28 := Tryz.isAgg70
  z28 := Tryz.sizeOf70
  v28 := Tryz.zeroValue70
  t33 := Tryz.underlying49
  a33 := Tryz.isAgg49
  z33 := Tryz.sizeOf49
  v33 := Tryz.zeroValue49 }
def layssorted_ren : Go.Shelf.Ren := ⟨fun | 6 => 42 | 8 => 69 | 9 => 70 | 11 => 96 | 13 => 98 | 12 => 97 | 23 => 123 | 24 => 108 | 14 => 114 | 15 => 115 | 16 => 116 | 17 => 117 | 18 => 118 | 19 => 119 | 20 => 120 | 21 => 121 | 22 => 122 | 25 => 138 | 26 => 139 | 27 => 140 | 28 => 141 | 29 => 142 | 30 => 143 | 31 => 157 | n => n, fun | 26 => 9 | 28 => 70 | 24 => 66 | 0 => 0 | 3 => 3 | 37 => 50 | 48 => 99 | 50 => 29 | 4 => 4 | 40 => 177 | 39 => 176 | 45 => 181 | 5 => 5 | 9 => 9 | 51 => 197 | 55 => 200 | 57 => 215 | 58 => 216 | 33 => 49 | n => n, fun | n => n⟩
theorem layssorted : Go.Proofs.SlLaysZ.n6 Tryz.prog layssorted_ren := {
  mixed := by kernel_rfl
  f6 := ⟨Tryz.f42.name, by decide, Tryz.func42.trans (congrArg some (by kernel_rfl))⟩
  f8 := ⟨Tryz.f69.name, by decide, Tryz.func69.trans (congrArg some (by kernel_rfl))⟩
  f11 := ⟨Tryz.f96.name, by decide, Tryz.func96.trans (congrArg some (by kernel_rfl))⟩
  t0 := Tryz.underlying0
  a0 := Tryz.isAgg0
  z0 := Tryz.sizeOf0
  v0 := Tryz.zeroValue0
  t24 := Tryz.underlying66
  a24 := Tryz.isAgg66
  z24 := Tryz.sizeOf66
  v24 := Tryz.zeroValue66
  t26 := Tryz.underlying9
  a26 := Tryz.isAgg9
  z26 := Tryz.sizeOf9
  v26 := Tryz.zeroValue9
  t28 := Tryz.underlying70
  a28 := Tryz.isAgg70
  z28 := Tryz.sizeOf70
  v28 := Tryz.zeroValue70
  i26 := by kernel_rfl }
def layssort_ren : Go.Shelf.Ren := ⟨fun | 6 => 70 | 8 => 98 | 9 => 97 | 19 => 123 | 20 => 108 | 21 => 114 | 22 => 115 | 23 => 116 | 24 => 117 | 25 => 118 | 26 => 119 | 27 => 120 | 28 => 121 | 29 => 122 | 36 => 138 | 31 => 139 | 32 => 140 | 37 => 141 | 38 => 142 | 39 => 143 | 41 => 157 | n => n, fun | 27 => 66 | 29 => 9 | 3 => 3 | 32 => 50 | 26 => 66 | 0 => 0 | 44 => 99 | 46 => 29 | 4 => 4 | 36 => 177 | 35 => 176 | 41 => 181 | 5 => 5 | 9 => 9 | 53 => 197 | 57 => 200 | 63 => 215 | 64 => 216 | n => n, fun | n => n⟩
theorem layssort : Go.Proofs.SlLaysM.n6 Tryz.prog layssort_ren := {
  mixed := by kernel_rfl
  f6 := ⟨Tryz.f70.name, by decide, Tryz.func70.trans (congrArg some (by kernel_rfl))⟩
  f8 := Tryz.func98.trans (congrArg some (by kernel_rfl))
  f9 := ⟨Tryz.f97.name, by decide, Tryz.func97.trans (congrArg some (by kernel_rfl))⟩
  f19 := Tryz.func123.trans (congrArg some (by kernel_rfl))
  f20 := Tryz.func108.trans (congrArg some (by kernel_rfl))
  f21 := ⟨Tryz.f114.name, by decide, Tryz.func114.trans (congrArg some (by kernel_rfl))⟩
  f22 := ⟨Tryz.f115.name, by decide, Tryz.func115.trans (congrArg some (by kernel_rfl))⟩
  f23 := ⟨Tryz.f116.name, by decide, Tryz.func116.trans (congrArg some (by kernel_rfl))⟩
  f24 := ⟨Tryz.f117.name, by decide, Tryz.func117.trans (congrArg some (by kernel_rfl))⟩
  f25 := ⟨Tryz.f118.name, by decide, Tryz.func118.trans (congrArg some (by kernel_rfl))⟩
  f26 := ⟨Tryz.f119.name, by decide, Tryz.func119.trans (congrArg some (by kernel_rfl))⟩
  f27 := ⟨Tryz.f120.name, by decide, Tryz.func120.trans (congrArg some (by kernel_rfl))⟩
  f28 := ⟨Tryz.f121.name, by decide, Tryz.func121.trans (congrArg some (by kernel_rfl))⟩
  f29 := ⟨Tryz.f122.name, by decide, Tryz.func122.trans (congrArg some (by kernel_rfl))⟩
  f31 := Tryz.func139.trans (congrArg some (by kernel_rfl))
  f32 := Tryz.func140.trans (congrArg some (by kernel_rfl))
  f36 := ⟨Tryz.f138.name, by decide, Tryz.func138.trans (congrArg some (by kernel_rfl))⟩
  f37 := ⟨Tryz.f141.name, by decide, Tryz.func141.trans (congrArg some (by kernel_rfl))⟩
  f38 := ⟨Tryz.f142.name, by decide, Tryz.func142.trans (congrArg some (by kernel_rfl))⟩
  f39 := ⟨Tryz.f143.name, by decide, Tryz.func143.trans (congrArg some (by kernel_rfl))⟩
  f41 := ⟨Tryz.f157.name, by decide, Tryz.func157.trans (congrArg some (by kernel_rfl))⟩
  t0 := Tryz.underlying0
  a0 := Tryz.isAgg0
  z0 := Tryz.sizeOf0
  v0 := Tryz.zeroValue0
  t3 := Tryz.underlying3
  a3 := Tryz.isAgg3
  z3 := Tryz.sizeOf3
  v3 := Tryz.zeroValue3
  t4 := Tryz.underlying4
  a4 := Tryz.isAgg4
  z4 := Tryz.sizeOf4
  v4 := Tryz.zeroValue4
  t5 := Tryz.underlying5
  a5 := Tryz.isAgg5
  z5 := Tryz.sizeOf5
  v5 := Tryz.zeroValue5
  t9 := Tryz.underlying9
  a9 := Tryz.isAgg9
  z9 := Tryz.sizeOf9
  v9 := Tryz.zeroValue9
  t26 := Tryz.underlying66
  a26 := Tryz.isAgg66
  z26 := Tryz.sizeOf66
  v26 := Tryz.zeroValue66
  t27 := Tryz.underlying66
  a27 := Tryz.isAgg66
  z27 := Tryz.sizeOf66
  v27 := Tryz.zeroValue66
  t29 := Tryz.underlying9
  a29 := Tryz.isAgg9
  z29 := Tryz.sizeOf9
  v29 := Tryz.zeroValue9
  t32 := Tryz.underlying50
  a32 := Tryz.isAgg50
  z32 := Tryz.sizeOf50
  v32 := Tryz.zeroValue50
  t35 := Tryz.underlying176
  a35 := Tryz.isAgg176
  z35 := Tryz.sizeOf176
  v35 := Tryz.zeroValue176
  t36 := Tryz.underlying177
  a36 := Tryz.isAgg177
  z36 := Tryz.sizeOf177
  v36 := Tryz.zeroValue177
  t41 := Tryz.underlying181
  a41 := Tryz.isAgg181
  z41 := Tryz.sizeOf181
  v41 := Tryz.zeroValue181
  t44 := Tryz.underlying99
  a44 := Tryz.isAgg99
  z44 := Tryz.sizeOf99
  v44 := Tryz.zeroValue99
  t46 := Tryz.underlying29
  a46 := Tryz.isAgg29
  z46 := Tryz.sizeOf29
  v46 := Tryz.zeroValue29
  t53 := Tryz.underlying197
  a53 := Tryz.isAgg197
  z53 := Tryz.sizeOf197
  v53 := Tryz.zeroValue197
  t57 := Tryz.underlying200
  a57 := Tryz.isAgg200
  z57 := Tryz.sizeOf200
  v57 := Tryz.zeroValue200
  t63 := Tryz.underlying215
  a63 := Tryz.isAgg215
  z63 := Tryz.sizeOf215
  v63 := Tryz.zeroValue215
  t64 := Tryz.underlying216
  a64 := Tryz.isAgg216
  z64 := Tryz.sizeOf216
  v64 := Tryz.zeroValue216 }
end Go.Proofs.YtaeociedjdgdfaaGreatDoor

namespace Go.Proofs.YtaeociedjdgdfaaGreatDoor
open Go.RowKit Go.Maps Go.Sort Go.Shelf Go.WideShapes Go.WideElems

theorem insert_perm {H : Type} (x : Lit × DataW H) : ∀ l : List (Lit × DataW H), (DataW.insert x l).Perm (x :: l)
  | [] => List.Perm.refl _
  | y :: l => by
    unfold DataW.insert
    split
    · exact List.Perm.refl _
    · exact ((insert_perm x l).cons y).trans (List.Perm.swap x y l)
theorem sorted_perm {H : Type} : ∀ l : List (Lit × DataW H), (l.foldr DataW.insert []).Perm l
  | [] => List.Perm.refl _
  | x :: l => (insert_perm x _).trans ((sorted_perm l).cons x)

theorem nodup_map {α β : Type} {g : α → β} (hg : ∀ a b, g a = g b → a = b) {l : List α} (h : l.Nodup) : (l.map g).Nodup :=
  List.pairwise_map.2 (List.Pairwise.imp (fun hne e => hne (hg _ _ e)) h)

theorem nodup_le {α : Type} [DecidableEq α] : ∀ (l m : List α), l.Nodup → (∀ x ∈ l, x ∈ m) → l.length ≤ m.length
  | [], _, _, _ => Nat.zero_le _
  | x :: l, m, h, hs => by
    rw [List.nodup_cons] at h
    have hx := hs x (List.mem_cons_self ..)
    have ih := nodup_le l (m.erase x) h.2 (fun y hy => (List.mem_erase_of_ne (fun e => h.1 (by rw [← e]; exact hy))).2 (hs y (List.mem_cons_of_mem _ hy)))
    rw [List.length_erase_of_mem hx] at ih
    have := List.length_pos_of_mem hx
    simp
    omega

theorem look_mem {K : Type} [DecidableEq K] (es : List (K × Value × Nat)) (k : K) : k ∈ es.map (·.1) ↔ (look es k).isSome = true := by
  unfold look
  rw [Option.isSome_map, List.find?_isSome]
  simp

/-- Nothing is read of an element. -/
def noRead (_ : Value) : Option (DataW Unit × List MemPlace) := some (.nil, [])

theorem owns_at {P : Program} {key : TypeId} (hk : P.underlying key = some .string) {w : World} {b : Nat} {f : ByteArray → Option Value} (hm : MapAt Value.string w b f) (hsz : ∀ k, (f k).isSome = true → k.size ≤ maxLen) (all : List ByteArray) (hall : ∀ k, (f k).isSome = true → k ∈ all) (ha : all.length ≤ 1000000000) :
    ∃ (D : DataW Unit) (ks : List ByteArray), w.ownsMap P key noRead b ks.length D ∧ ks.Nodup ∧ (∀ k, k ∈ ks ↔ (f k).isSome = true) ∧ ks.length ≤ 1000000000 ∧ (strKeys D).Perm (ks.map fun k => k.data.toList) ∧ Maps.size D = ks.length := by
  obtain ⟨es, clock, hb, h1, h2, h3, hf⟩ := hm
  have hmem : ∀ k, k ∈ es.map (·.1) ↔ (f k).isSome = true := fun k => by rw [look_mem, hf]
  have hle : (es.map (·.1)).length ≤ 1000000000 := Nat.le_trans (nodup_le _ all h1 (fun x hx => hall x ((hmem x).1 hx))) ha
  have hkey : ∀ x ∈ es, keyOf P key (.string x.1) = some (.string x.1.data.toList) := fun x hx => WideMaps.keyOf_string_mk hk (hsz x.1 ((hmem x.1).1 (List.mem_map_of_mem hx)))
  have hrg : ∀ x ∈ es, rg P key noRead ⟨Value.string x.1, x.2.1, x.2.2⟩ = (Lit.string x.1.data.toList, .nil) := fun x hx => by
    unfold rg Go.WideElems.rd
    rw [hkey x hx]
    rfl
  have hlist : (ents Value.string es).toList.map (rg P key noRead) = es.map fun x => (Lit.string x.1.data.toList, DataW.nil) := by
    unfold ents
    simp only [List.map_map]
    exact List.map_congr_left (fun x hx => hrg x hx)
  refine ⟨_, es.map (·.1), ⟨ents Value.string es, clock, hb, ⟨?_, ⟨?_, ?_, ?_⟩, ?_⟩, ?_, rfl⟩, h1, hmem, hle, ?_, ?_⟩
  · simp [ents] at hle ⊢; unfold maxLen; omega
  · intro x hx
    simp [ents] at hx
    obtain ⟨k, v, n, hx, rfl⟩ := hx
    exact h3 _ hx
  · simpa [ents, List.map_map, Function.comp_def] using h2
  · have : (ents Value.string es).toList.map (·.key) = (es.map (·.1)).map Value.string := by simp [ents, List.map_map, Function.comp_def]
    rw [this]
    exact nodup_map (fun a b h => by injection h) h1
  · intro x hx
    simp only [ents, List.toList_toArray, List.mem_map] at hx
    obtain ⟨y, hy, rfl⟩ := hx
    exact ⟨_, by unfold Go.WideElems.rd; rw [hkey y hy]; rfl⟩
  · simp [ents]
  · rw [hlist]
    show (List.map (fun p : Lit × DataW Unit => strOf p.1) _).Perm _
    refine ((sorted_perm _).map _).trans ?_
    simp [List.map_map, Function.comp_def, strOf]
  · rw [hlist]
    show List.length _ = _
    rw [(sorted_perm _).length_eq]
    simp

/-- Names by rising bytes. -/
def Rising (ns : List ByteArray) : Prop := ns.Pairwise fun a b => a.data.toList ≤ b.data.toList

theorem back_string (l : List UInt8) : Value.string ⟨l.toArray⟩ = encStr l := rfl

/-- What a row of sorted keys is. -/
theorem sorted_names {w : World} {base : Nat} {v : Value} {D : DataW Unit} {ks : List ByteArray} {f : ByteArray → Option Value} (ss : List (List UInt8)) (hp : ss.Perm (strKeys D)) (hD : (strKeys D).Perm (ks.map fun k => k.data.toList)) (hn : ks.Nodup) (hk : ∀ k, k ∈ ks ↔ (f k).isSome = true)
    (hrow : w.ownsRow base 9 1 v ss.length ((ss.mergeSort (fun x y => decide (x ≤ y))).map encStr)) :
    ∃ ns : List ByteArray, ns.Nodup ∧ (∀ k, k ∈ ns ↔ (f k).isSome = true) ∧ Rising ns ∧ ns.length = ks.length ∧ w.ownsRow base 9 1 v ns.length (ns.map Value.string) := by
  have hs := List.mergeSort_perm ss (fun x y => decide (x ≤ y))
  have hall := (hs.trans hp).trans hD
  have tr : ∀ a b c : List UInt8, decide (a ≤ b) = true → decide (b ≤ c) = true → decide (a ≤ c) = true := fun a b c h1 h2 => by simp only [decide_eq_true_eq] at *; exact List.le_trans h1 h2
  have tot : ∀ a b : List UInt8, (decide (a ≤ b) || decide (b ≤ a)) = true := fun a b => by simp only [Bool.or_eq_true, decide_eq_true_eq]; exact List.le_total a b
  have hr := List.pairwise_mergeSort tr tot ss
  obtain ⟨zs, hz⟩ : ∃ zs, ss.mergeSort (fun x y => decide (x ≤ y)) = zs := ⟨_, rfl⟩
  rw [hz] at hs hall hr hrow
  have hinj : ∀ a b : ByteArray, a.data.toList = b.data.toList → a = b := fun a b h => by
    cases a; cases b
    simp only [ByteArray.mk.injEq]
    exact Array.toList_inj.1 h
  have hnz : zs.Nodup := hall.nodup_iff.2 (nodup_map (fun a b h => hinj a b h) hn)
  have hback : (zs.map fun l => (⟨l.toArray⟩ : ByteArray)).map (fun k => k.data.toList) = zs := by simp [List.map_map, Function.comp_def]
  refine ⟨zs.map fun l => ⟨l.toArray⟩, ?_, fun k => ?_, ?_, ?_, ?_⟩
  · refine nodup_map (fun a b h => ?_) hnz
    have := congrArg (fun k : ByteArray => k.data.toList) h
    simpa using this
  · rw [← hk k]
    have h1 : k ∈ (zs.map fun l => (⟨l.toArray⟩ : ByteArray)) ↔ k.data.toList ∈ zs := by
      constructor
      · intro h
        obtain ⟨l, hl, e⟩ := List.mem_map.1 h
        rw [← e]; exact hl
      · exact fun h => List.mem_map.2 ⟨_, h, hinj _ _ (by simp)⟩
    rw [h1, hall.mem_iff]
    constructor
    · intro h
      obtain ⟨k', hk', e⟩ := List.mem_map.1 h
      rw [← hinj _ _ e]; exact hk'
    · exact fun h => List.mem_map_of_mem h
  · unfold Rising
    rw [List.pairwise_map]
    exact hr.imp (fun h => by simpa using h)
  · rw [List.length_map, hall.length_eq, List.length_map]
  · have e1 : ss.length = zs.length := hs.length_eq.symm
    rw [List.length_map, List.map_map, ← e1]
    exact hrow

theorem sorts_names (m : Nat) : AnyZ.SortsIn Tryz.prog layssorted_ren Fence.wide m :=
  ⟨fun blk off cap ss W hH hblk hsz => callsIn_wide.2 (AnyM.slices_Sort_string layssort blk off cap ss W hH hblk hsz), fun p cap W => callsIn_wide.2 (AnyM.slices_Sort_string_none layssort p cap W)⟩

/-- What is asked of the answer. -/
def NamesOf (f : ByteArray → Option Value) (w : World) (e : Ending) (w' : World) : Prop :=
  ∃ (v : Value) (ns : List ByteArray), e = .returned v ∧ ns.Nodup ∧ (∀ k, k ∈ ns ↔ (f k).isSome = true) ∧ Rising ns ∧ ns.length ≤ 1000000000 ∧ w'.ownsRow w.heap.size 9 1 v ns.length (ns.map Value.string) ∧ Below w.heap.size w w'

section
variable {w : World} {b : Nat} {f : ByteArray → Option Value}

set_option maxHeartbeats 1000000 in
theorem sorted_changes (hm : MapAt Value.string w b f) (hsz : ∀ k, (f k).isSome = true → k.size ≤ maxLen) (all : List ByteArray) (hall : ∀ k, (f k).isSome = true → k ∈ all) (ha : all.length ≤ 1000000000) :
    CallsIn Fence.wide 5 Tryz.prog 42 #[.func (.func 71) #[] #[.pointer (some ⟨w.heap.size, 0, none⟩)]] (w.alloc (.cells #[.map (some b)] 102)) (NamesOf f (w.alloc (.cells #[.map (some b)] 102))) := by
  obtain ⟨D, ks, hown, hn, hk, hle, hD, hsd⟩ := owns_at (P := Tryz.prog) Tryz.underlying9 hm hsz all hall ha
  have hbl := hown.lt
  have hseq : SeqGives Fence.wide 2 Tryz.prog 71 #[.pointer (some ⟨w.heap.size, 0, none⟩)] encStr (fun ss => ss.Perm (strKeys D)) (Maps.size D) (w.alloc (.cells #[.map (some b)] 102)) :=
    AnyZ.keys_gives (ρ := layskeysc_ren) { layskeysc with } Fence.wide _ trivial rfl (by omega) w.heap.size b ks.length D _ (by simp) (by simp) (by
      obtain ⟨es, clock, hb, Ft, hs, hD⟩ := hown
      exact ⟨es, clock, (Below.heap_alloc _ _ b hbl).trans hb, Ft, hs, hD⟩)
  refine (AnyZ.sorted_in layssorted Fence.wide 5 trivial trivial trivial trivial rfl (by omega) (sorts_names _) (enters_of Tryz.func70 (by kernel_rfl) rfl) 71 #[.pointer (some ⟨w.heap.size, 0, none⟩)] trivial (enters_of Tryz.func71 (by kernel_rfl) rfl) _ _ (by rw [hsd]; unfold maxLen; omega) (by rw [hsd]; omega) _ hseq).mono ?_
  rintro e w' ⟨v, ss, rfl, hS, hrow, _, hb⟩
  obtain ⟨ns, n1, n2, n3, n4, n5⟩ := sorted_names ss hS hD hn hk hrow
  exact ⟨v, ns, rfl, n1, n2, n3, by omega, n5, hb⟩

set_option maxHeartbeats 1000000 in
theorem sorted_bytes (hm : MapAt Value.string w b f) (hsz : ∀ k, (f k).isSome = true → k.size ≤ maxLen) (all : List ByteArray) (hall : ∀ k, (f k).isSome = true → k ∈ all) (ha : all.length ≤ 1000000000) :
    CallsIn Fence.wide 5 Tryz.prog 42 #[.func (.func 72) #[] #[.pointer (some ⟨w.heap.size, 0, none⟩)]] (w.alloc (.cells #[.map (some b)] 77)) (NamesOf f (w.alloc (.cells #[.map (some b)] 77))) := by
  obtain ⟨D, ks, hown, hn, hk, hle, hD, hsd⟩ := owns_at (P := Tryz.prog) Tryz.underlying9 hm hsz all hall ha
  have hbl := hown.lt
  have hseq : SeqGives Fence.wide 2 Tryz.prog 72 #[.pointer (some ⟨w.heap.size, 0, none⟩)] encStr (fun ss => ss.Perm (strKeys D)) (Maps.size D) (w.alloc (.cells #[.map (some b)] 77)) :=
    AnyZ.keys_gives (ρ := layskeysb_ren) { layskeysb with } Fence.wide _ trivial rfl (by omega) w.heap.size b ks.length D _ (by simp) (by simp) (by
      obtain ⟨es, clock, hb, Ft, hs, hD⟩ := hown
      exact ⟨es, clock, (Below.heap_alloc _ _ b hbl).trans hb, Ft, hs, hD⟩)
  refine (AnyZ.sorted_in layssorted Fence.wide 5 trivial trivial trivial trivial rfl (by omega) (sorts_names _) (enters_of Tryz.func70 (by kernel_rfl) rfl) 72 #[.pointer (some ⟨w.heap.size, 0, none⟩)] trivial (enters_of Tryz.func72 (by kernel_rfl) rfl) _ _ (by rw [hsd]; unfold maxLen; omega) (by rw [hsd]; omega) _ hseq).mono ?_
  rintro e w' ⟨v, ss, rfl, hS, hrow, _, hb⟩
  obtain ⟨ns, n1, n2, n3, n4, n5⟩ := sorted_names ss hS hD hn hk hrow
  exact ⟨v, ns, rfl, n1, n2, n3, by omega, n5, hb⟩
end

theorem keys_changes (mb : Option Nat) (W : World) : CallsIn Fence.wide 5 Tryz.prog 43 #[.map mb] W fun e w' => e = .returned (.func (.func 71) #[] #[.pointer (some ⟨W.heap.size, 0, none⟩)]) ∧ w' = W.alloc (.cells #[.map mb] 102) :=
  AnyZ.keys_in layskeysc Fence.wide 5 trivial rfl mb W
theorem keys_bytes (mb : Option Nat) (W : World) : CallsIn Fence.wide 5 Tryz.prog 49 #[.map mb] W fun e w' => e = .returned (.func (.func 72) #[] #[.pointer (some ⟨W.heap.size, 0, none⟩)]) ∧ w' = W.alloc (.cells #[.map mb] 77) :=
  AnyZ.keys_in layskeysb Fence.wide 5 trivial rfl mb W

end Go.Proofs.YtaeociedjdgdfaaGreatDoor

namespace Go.Proofs.YtaeociedjdgdfaaGreatDoor
open Go.RowKit Go.Shelf
attribute [local go_sem] Oper.semAt_some

abbrev W64 := BitVec 64
abbrev I (x : W64) : Value := .int .i64 x.toInt
/-- A slice, by its parts. -/
abbrev Sl := Option Addr × Nat × Nat
abbrev slv (t : Sl) : Value := .slice t.1 t.2.1 t.2.2
abbrev Ch := ByteArray × Sl × Bool

/-- A slice of changes below n₀. -/
def ChsAt (n₀ : Nat) (W : World) (sv : Value) (cs : List Ch) : Prop :=
  (∃ a cap, sv = .slice a 0 cap ∧ cs = []) ∨ ∃ b off cap, sv = .slice (some ⟨b, off, none⟩) cs.length cap ∧ b < n₀ ∧ ∀ (j : Nat) (c : Ch), cs[j]? = some c → W.cell? ⟨b, off + j * 3, none⟩ = some (.string c.1) ∧ W.cell? ⟨b, off + j * 3 + 1, none⟩ = some (slv c.2.1) ∧ W.cell? ⟨b, off + j * 3 + 2, none⟩ = some (.bool c.2.2)

theorem ChsAt.below {n₀ : Nat} {A B : World} (h : Below n₀ A B) {sv : Value} {cs : List Ch} : ChsAt n₀ A sv cs → ChsAt n₀ B sv cs
  | .inl e => .inl e
  | .inr ⟨b, off, cap, e, hb, hc⟩ => .inr ⟨b, off, cap, e, hb, fun j p hj => ⟨(h.cell (p := ⟨b, off + j * 3, none⟩) hb).trans (hc j p hj).1, (h.cell (p := ⟨b, off + j * 3 + 1, none⟩) hb).trans (hc j p hj).2.1, (h.cell (p := ⟨b, off + j * 3 + 2, none⟩) hb).trans (hc j p hj).2.2⟩⟩

/-- The changes, numbered, the last one first. -/
def rnumbered (cs : List Ch) : List (W64 × Ch) := (cs.zipIdx.map fun x => (BitVec.ofNat 64 x.2, x.1)).reverse
theorem rnumbered_length (cs : List Ch) : (rnumbered cs).length = cs.length := by simp [rnumbered]
theorem rnumbered_take (cs : List Ch) (m p : Nat) (h : p + 1 + m = cs.length) : (rnumbered cs).take (m + 1) = (rnumbered cs).take m ++ [(BitVec.ofNat 64 p, cs[p]'(by omega))] := by
  rw [List.take_succ_eq_append_getElem (by rw [rnumbered_length]; omega)]
  congr 2
  unfold rnumbered
  rw [List.getElem_reverse]
  simp only [List.length_map, List.length_zipIdx, List.getElem_map, List.getElem_zipIdx]
  have e : cs.length - 1 - m = p := by omega
  simp only [e, Nat.zero_add]

theorem toInt_small (k : Nat) (h : k < 4611686018427387904) : (BitVec.ofNat 64 k).toInt = (k : Int) := by
  rw [BitVec.toInt_eq_toNat_cond, BitVec.toNat_ofNat, Nat.mod_eq_of_lt (by omega), if_pos (by omega)]

/-- What lies below n₀, and the iterator's own cell, stay. -/
def KW (n₀ Bs : Nat) (A B : World) : Prop := Below n₀ A B ∧ B.cell? ⟨Bs, 0, none⟩ = A.cell? ⟨Bs, 0, none⟩
theorem KW.refl (n₀ Bs : Nat) (A : World) : KW n₀ Bs A A := ⟨Below.refl _ _, rfl⟩
theorem KW.trans {n₀ Bs : Nat} {A B C : World} (h : KW n₀ Bs A B) (k : KW n₀ Bs B C) : KW n₀ Bs A C := ⟨h.1.trans k.1, k.2.trans h.2⟩
theorem KW.of_mod {n₀ Bs : Nat} {A B : World} {S : Nat → Prop} (h : Mod A B S) (hn : n₀ ≤ A.heap.size) (hB : Bs < A.heap.size) (hS : ∀ k, S k → n₀ ≤ k ∧ k ≠ Bs) : KW n₀ Bs A B :=
  ⟨h.below hn (fun k hk => (hS k hk).1), h.cell hB (fun hs => (hS _ hs).2 rfl)⟩
theorem KW.put {n₀ Bs : Nat} {w : World} (hn : n₀ ≤ w.heap.size) (hB : Bs < w.heap.size) (W : World) (l : Nat) (o o' : Obj) (hl : w.heap.size ≤ l) (ho : W.heap[l]? = some o) (_ : o.isCells = false) (_ : o.isWalk = false) : KW n₀ Bs W (W.putObj l o') :=
  KW.of_mod ((Mod.refl W (· = l)).putObj (.inl rfl) o') (by have := heap_lt ho; omega) (by have := heap_lt ho; omega) (fun k (hk : k = l) => ⟨by omega, by omega⟩)

set_option maxRecDepth 100000 in
set_option maxHeartbeats 2000000 in
theorem back1_in (F : Fence) (n : Nat) (hF : F.fn 68) (hro : F.round = none) (hn : 1 ≤ n) (l Bs n₀ b off cap : Nat) (cs : List Ch) (hreach : cs.length ≤ 1073741824) (hb : b < n₀) (J Jx : List (W64 × Ch) → World → Prop)
    (hY : ∀ pre x W, J pre W → pre.length < cs.length → YieldAt F (n - 1) Tryz.prog l #[I x.1, .agg #[.string x.2.1, slv x.2.2.1, .bool x.2.2.2]] W fun e W' => (e = .returned (.bool true) ∧ J (pre ++ [x]) W' ∧ KW n₀ Bs W W') ∨ (e = .returned (.bool false) ∧ Jx (pre ++ [x]) W'))
    (W : World) (hBs : W.cell? ⟨Bs, 0, none⟩ = some (.slice (some ⟨b, off, none⟩) cs.length cap)) (hc : ∀ (j : Nat) (c : Ch), cs[j]? = some c → W.cell? ⟨b, off + j * 3, none⟩ = some (.string c.1) ∧ W.cell? ⟨b, off + j * 3 + 1, none⟩ = some (slv c.2.1) ∧ W.cell? ⟨b, off + j * 3 + 2, none⟩ = some (.bool c.2.2)) (h0 : J [] W) :
    CallsIn F n Tryz.prog 68 #[.func (.yield l) #[] #[], .pointer (some ⟨Bs, 0, none⟩)] W fun e W' => (∃ v, e = .returned v) ∧ ((∃ ys, ys = rnumbered cs ∧ J ys W') ∨ (∃ pre, True ∧ Jx pre W')) := by
  refine callsIn_of_wp Tryz.func68 rfl hF ?_ hro
  simp only [Tryz.ntmps68, List.size_toArray, List.length_cons, List.length_nil, Nat.reduceAdd, Nat.reduceSub, Array.replicate_succ, Array.replicate_zero, List.push_toArray, List.append_toArray, List.nil_append, List.cons_append]
  obtain ⟨len, hlen⟩ : ∃ len, cs.length = len := ⟨_, rfl⟩
  rw [hlen] at hBs hreach
  have HL := Lib.hid hlen
  clear hlen
  gi_wp2
  gi_loopw [3] (fun i wr => ∃ p m : Nat, p + m = len ∧ i = .int .i64 ((p : Int) - 1) ∧ J ((rnumbered cs).take m) wr ∧ KW n₀ Bs W wr)
    (fun i _ => (intOf i + 1).toNat)
  case atStart => exact ⟨len, 0, by omega, rfl, h0, KW.refl _ _ _⟩
  case round =>
    obtain ⟨p, m, hk, rfl, hJs, hnx⟩ := hrel
    cases p with
    | succ p =>
      have e0 : (((p + 1 : Nat) : Int) - 1) = (p : Int) := by omega
      rw [e0]
      have hko : p < cs.length := by rw [HL.out]; omega
      have hplen : p < len := by omega
      obtain ⟨hc0, hc1, hc2⟩ := hc p _ (List.getElem?_eq_getElem hko)
      have hT := Lib.hid (rnumbered_take cs m p (by rw [HL.out]; exact hk))
      obtain ⟨⟨nm, ⟨va, vn, vc⟩, is⟩, ho⟩ : ∃ o, cs[p] = o := ⟨_, rfl⟩
      have kb : wr.cell? ⟨Bs, 0, none⟩ = some (.slice (some ⟨b, off, none⟩) len cap) := hnx.2.trans hBs
      have k0 : wr.cell? ⟨b, off + p * 3, none⟩ = some (.string nm) := (hnx.1.cell (p := ⟨b, off + p * 3, none⟩) hb).trans (by rw [hc0, ho])
      have k1 : wr.cell? ⟨b, off + p * 3 + 1, none⟩ = some (.slice va vn vc) := (hnx.1.cell (p := ⟨b, off + p * 3 + 1, none⟩) hb).trans (by rw [hc1, ho])
      have k2 : wr.cell? ⟨b, off + p * 3 + 2, none⟩ = some (.bool is) := (hnx.1.cell (p := ⟨b, off + p * 3 + 2, none⟩) hb).trans (by rw [hc2, ho])
      obtain ⟨fn, tmps, assign, body, hy, hR⟩ := hY ((rnumbered cs).take m) (BitVec.ofNat 64 p, nm, (va, vn, vc), is) _ hJs (by rw [List.length_take, rnumbered_length, HL.out]; omega)
      rw [ho] at hT
      dsimp only [I, slv] at hy hR
      rw [toInt_small p (by omega)] at hy
      obtain ⟨pre, hpre⟩ : ∃ pre, (rnumbered cs).take m = pre := ⟨_, rfl⟩
      rw [hpre] at hJs hR hT
      clear hc hc0 hc1 hc2 ho hpre hY hBs e0
      gi_wp2
      refine hR.mono ?_
      rintro e W3 (⟨rfl, hJ3, hk3⟩ | ⟨rfl, hJx3⟩)
      · gi_wp2
        go_roundw
        case rel => exact ⟨p, m + 1, by omega, by first | rfl | go_num, by rw [hT.out]; exact hJ3, hnx.trans hk3⟩
        case measure => simp [intOf]
      · gi_wp2
        refine bodyPost_ret (results_none rfl _ _ _) rfl ?_
        exact ⟨⟨_, rfl⟩, .inr ⟨_, trivial, hJx3⟩⟩
    | zero =>
      obtain rfl : m = len := by omega
      have e0 : (((0 : Nat) : Int) - 1) = -1 := by omega
      rw [e0]
      clear e0
      gi_wp2
      go_end0
      exact ⟨⟨_, rfl⟩, .inl ⟨_, by rw [← HL.out, ← rnumbered_length]; exact List.take_length .. , hJs⟩⟩

set_option maxRecDepth 100000 in
set_option maxHeartbeats 1000000 in
theorem back1_nil_in (F : Fence) (n : Nat) (hF : F.fn 68) (hro : F.round = none) (l Bs : Nat) (a : Option Addr) (cap : Nat) (J : List (W64 × Ch) → World → Prop) (W : World) (hBs : W.cell? ⟨Bs, 0, none⟩ = some (.slice a 0 cap)) (h0 : J [] W) :
    CallsIn F n Tryz.prog 68 #[.func (.yield l) #[] #[], .pointer (some ⟨Bs, 0, none⟩)] W fun e W' => (∃ v, e = .returned v) ∧ J [] W' := by
  refine callsIn_of_wp Tryz.func68 rfl hF ?_ hro
  simp only [Tryz.ntmps68, List.size_toArray, List.length_cons, List.length_nil, Nat.reduceAdd, Nat.reduceSub, Array.replicate_succ, Array.replicate_zero, List.push_toArray, List.append_toArray, List.nil_append, List.cons_append]
  gi_wp2
  gi_loopw [3] (fun i wr => i = .int .i64 (-1) ∧ J [] wr) (fun _ _ => 0)
  case atStart => exact ⟨rfl, h0⟩
  case round =>
    obtain ⟨rfl, hJs⟩ := hrel
    gi_wp2
    go_end0
    exact ⟨⟨_, rfl⟩, hJs⟩

theorem back_any (a : Option Addr) (len cap : Nat) (w : World) :
    Calls Tryz.prog 41 #[.slice a len cap] w fun e w' => e = .returned (.func (.func 68) #[] #[.pointer (some ⟨w.heap.size, 0, none⟩)]) ∧ w' = w.alloc (.cells #[.slice a len cap] 79) := by
  go_enter Tryz.func41, Tryz.ntmps41
  go_wp2_with fail
  go_ret
  exact ⟨rfl, rfl⟩

/-- slices.Backward of changes. -/
theorem back_stops (F : Fence) (n : Nat) (hF : F.fn 68) (hro : F.round = none) (hn : 1 ≤ n) (Bs n₀ : Nat) (sv : Value) (cs : List Ch) (hreach : cs.length ≤ 1073741824) (w : World) (hBs : Bs < w.heap.size) (hn₀ : n₀ ≤ w.heap.size)
    (hc : w.cell? ⟨Bs, 0, none⟩ = some sv) (hI : ChsAt n₀ w sv cs) :
    SeqStopsK F n Tryz.prog 68 #[.pointer (some ⟨Bs, 0, none⟩)] (fun x : W64 × Ch => #[I x.1, .agg #[.string x.2.1, slv x.2.2.1, .bool x.2.2.2]]) (KW n₀ Bs) (fun ys => ys = rnumbered cs) (fun _ => True) cs.length w := fun l J Jx W hW _ _ hY h0 => by
  have hc' := (hW.cell (p := ⟨Bs, 0, none⟩) hBs).trans hc
  rcases hI.below (hW.mono hn₀) with ⟨a, cap, rfl, rfl⟩ | ⟨b, off, cap, rfl, hb, hcs⟩
  · exact (back1_nil_in F n hF hro l Bs a cap J W hc' h0).mono fun e W' ⟨he, hj⟩ => ⟨he, .inl ⟨_, rfl, hj⟩⟩
  · refine (back1_in F n hF hro hn l Bs n₀ b off cap cs hreach hb J Jx hY W hc' hcs h0).mono ?_
    rintro e W' ⟨he, ⟨ys, rfl, hj⟩ | ⟨pre, _, hj⟩⟩
    · exact ⟨he, .inl ⟨_, rfl, hj⟩⟩
    · exact ⟨he, .inr ⟨_, trivial, hj⟩⟩

end Go.Proofs.YtaeociedjdgdfaaGreatDoor

namespace Go.Proofs.YtaeociedjdgdfaaGreatDoor
open Go.RowKit Go.Shelf
attribute [local go_sem] Oper.semAt_some

/-- What a name showed ahead of the first of some changes. -/
def wasOf (cs : List (ByteArray × Option (List UInt8))) (nm : ByteArray) : Option (Option (List UInt8)) := (cs.find? fun c => decide (c.1 = nm)).map (·.2)

/-- A store whose changes are in order. -/
structure Sto.Fair (σ : Sto) : Prop where
  puts : ∀ p ∈ σ.puts, p < σ.changes.length
  size : ∀ c ∈ σ.changes, c.1.size ≤ maxLen
  shown : ∀ nm, (σ.shows nm).isSome = true → nm ∈ σ.changes.map (·.1)

/-- Names are set to what they were. -/
def Sto.rolled (σ : Sto) (was : ByteArray → Option (Option (List UInt8))) (ns : List ByteArray) : Sto := ns.foldl (fun s nm => s.set nm ((was nm).getD none)) σ

/-- Changes as they lie in memory. -/
def tailOf (cs : List (ByteArray × Option (List UInt8))) (vs : List Sl) : List Ch := (cs.zip vs).map fun x => (x.1.1, x.2, x.1.2.isSome)
theorem tailOf_length (cs : List (ByteArray × Option (List UInt8))) (vs : List Sl) (h : vs.length = cs.length) : (tailOf cs vs).length = cs.length := by simp [tailOf, h]
theorem tailOf_get (cs : List (ByteArray × Option (List UInt8))) (vs : List Sl) (j : Nat) (c : Ch) (h : (tailOf cs vs)[j]? = some c) : ∃ cj vj, cs[j]? = some cj ∧ vs[j]? = some vj ∧ c = (cj.1, vj, cj.2.isSome) := by
  unfold tailOf at h
  rw [List.getElem?_map, Option.map_eq_some_iff] at h
  obtain ⟨x, hx, rfl⟩ := h
  obtain ⟨h1, h2⟩ := List.getElem?_zip_eq_some.1 hx
  exact ⟨_, _, h1, h2, rfl⟩
theorem chCells_get : ∀ (cs : List (ByteArray × Option (List UInt8))) (vs : List Value), vs.length = cs.length → ∀ (i : Nat) c v, cs[i]? = some c → vs[i]? = some v → (chCells cs vs)[i * 3]? = some (.string c.1) ∧ (chCells cs vs)[i * 3 + 1]? = some v ∧ (chCells cs vs)[i * 3 + 2]? = some (.bool c.2.isSome)
  | [], _, _, _, _, _, h, _ => by simp at h
  | c0 :: cs, [], h, _, _, _, _, _ => by simp at h
  | c0 :: cs, v0 :: vs, _, 0, c, v, h1, h2 => by simp at h1 h2; subst h1; subst h2; simp [chCells]
  | c0 :: cs, v0 :: vs, h, i + 1, c, v, h1, h2 => by
    have := chCells_get cs vs (by simpa using h) i c v (by simpa using h1) (by simpa using h2)
    rw [show (i + 1) * 3 = i * 3 + 3 by omega]
    simpa [chCells] using this
theorem rolled_length (σ : Sto) (was : ByteArray → Option (Option (List UInt8))) (ns : List ByteArray) : (σ.rolled was ns).changes.length = σ.changes.length + ns.length := by
  unfold Sto.rolled
  induction ns generalizing σ with
  | nil => rfl
  | cons nm ns ih =>
    rw [List.foldl_cons, ih]
    simp [Sto.set]
    omega

theorem held_form {w : World} {H : Nat → Prop} {o : Option (List UInt8)} {v : Value} (h : ChHeld w H o v) : ∃ t : Sl, v = slv t := by
  cases o with
  | none => exact ⟨(none, 0, 0), h⟩
  | some l =>
    obtain ⟨a, c, rfl, _⟩ := h.1.form
    exact ⟨(a, _, c), rfl⟩
theorem slices_of : ∀ (vs : List Value), (∀ (i : Nat) v, vs[i]? = some v → ∃ t : Sl, v = slv t) → ∃ ts : List Sl, vs = ts.map slv
  | [], _ => ⟨[], rfl⟩
  | v :: vs, h => by
    obtain ⟨t, rfl⟩ := h 0 v rfl
    obtain ⟨ts, rfl⟩ := slices_of vs (fun i u hi => h (i + 1) u (by simpa using hi))
    exact ⟨t :: ts, rfl⟩

/-- What a map shows behind changes that were gone through from the last one on. -/
def shownBy (pre : List (W64 × Ch)) (nm : ByteArray) : Option Value := (pre.reverse.find? fun y => decide (y.2.1 = nm)).map fun y => .agg #[.string y.2.1, slv y.2.2.1, .bool y.2.2.2]
theorem shownBy_snoc (pre : List (W64 × Ch)) (y : W64 × Ch) : shownBy (pre ++ [y]) = upd (shownBy pre) y.2.1 (some (.agg #[.string y.2.1, slv y.2.2.1, .bool y.2.2.2])) := by
  funext nm
  unfold shownBy upd
  rw [List.reverse_append]
  simp only [List.reverse_cons, List.reverse_nil, List.nil_append, List.cons_append, List.find?_cons]
  by_cases h : nm = y.2.1
  · subst h; simp
  · have h' : ¬ y.2.1 = nm := fun e => h e.symm
    simp [h, h']

theorem shownBy_all (L : List Ch) (nm : ByteArray) : shownBy (rnumbered L) nm = (L.find? fun c => decide (c.1 = nm)).map fun c => .agg #[.string c.1, slv c.2.1, .bool c.2.2] := by
  unfold shownBy rnumbered
  rw [List.reverse_reverse, List.find?_map, Option.map_map]
  have key : ∀ (L : List Ch) (k : Nat), ((L.zipIdx k).find? ((fun y : W64 × Ch => decide (y.2.1 = nm)) ∘ fun x => (BitVec.ofNat 64 x.2, x.1))).map (fun x => x.1) = L.find? fun c => decide (c.1 = nm) := by
    intro L
    induction L with
    | nil => intro k; rfl
    | cons c L ih =>
      intro k
      simp only [List.zipIdx_cons, List.find?_cons, Function.comp]
      by_cases h : c.1 = nm
      · simp [h]
      · simp only [h, decide_false]
        exact ih (k + 1)
  rw [← key L 0, Option.map_map]
  rfl

theorem shownBy_tail (cs : List (ByteArray × Option (List UInt8))) (vs : List Sl) (h : vs.length = cs.length) (nm : ByteArray) :
    (shownBy (rnumbered (tailOf cs vs)) nm = none ∧ wasOf cs nm = none) ∨ ∃ (i : Nat) (cj : ByteArray × Option (List UInt8)) (vj : Sl), cs[i]? = some cj ∧ vs[i]? = some vj ∧ cj.1 = nm ∧ shownBy (rnumbered (tailOf cs vs)) nm = some (.agg #[.string nm, slv vj, .bool cj.2.isSome]) ∧ wasOf cs nm = some cj.2 := by
  rw [shownBy_all]
  induction cs generalizing vs with
  | nil => exact .inl ⟨rfl, rfl⟩
  | cons c cs ih =>
    cases vs with
    | nil => simp at h
    | cons v vs =>
      by_cases hc : c.1 = nm
      · refine .inr ⟨0, c, v, rfl, rfl, hc, ?_, ?_⟩
        · simp [tailOf, hc]
        · simp [wasOf, hc]
      · have e1 : tailOf (c :: cs) (v :: vs) = (c.1, v, c.2.isSome) :: tailOf cs vs := rfl
        rw [e1]
        simp only [List.find?_cons, hc, decide_false]
        have e2 : wasOf (c :: cs) nm = wasOf cs nm := by simp [wasOf, hc]
        rw [e2]
        rcases ih vs (by simpa using h) with h1 | ⟨i, cj, vj, g1, g2, g3, g4, g5⟩
        · exact .inl h1
        · exact .inr ⟨i + 1, cj, vj, by simpa using g1, by simpa using g2, g3, g4, g5⟩

set_option maxRecDepth 100000 in
set_option maxHeartbeats 4000000 in
theorem roll_yes (b : Nat) (σ : Sto) (x : StoB) (n p : Nat) (w : World) (h : StoreAt w b σ x) (hf : σ.Fair) (hc : σ.changes.length < 268435456) (hn1 : 1 ≤ n) (hn2 : n ≤ σ.puts.length) (hp : σ.puts[σ.puts.length - n]? = some p) :
    Calls Tryz.prog 19 #[.pointer (some ⟨b, 0, none⟩), .int .i64 n] w fun e w' =>
      ∃ ns : List ByteArray, ns.Nodup ∧ (∀ nm, nm ∈ ns ↔ (wasOf (σ.changes.drop p) nm).isSome = true) ∧ DidS w b x (.bool true) (σ.rolled (wasOf (σ.changes.drop p)) ns) e w' := by
  obtain ⟨vs0, hv10, hv20, hch⟩ := h.chs
  obtain ⟨vs, rfl⟩ := slices_of vs0 (fun i v hi => by
    have hlt : i < σ.changes.length := by rw [← hv10]; exact (List.getElem?_eq_some_iff.1 hi).1
    exact held_form (hv20 i _ v (List.getElem?_eq_getElem hlt) hi))
  have hv1 : vs.length = σ.changes.length := by rw [← hv10, List.length_map]
  have hv2 : ∀ (i : Nat) c (v : Sl), σ.changes[i]? = some c → vs[i]? = some v → ChHeld w x.held c.2 (slv v) := fun i c v h1 h2 => hv20 i c (slv v) h1 (by rw [List.getElem?_map, h2]; rfl)
  have hpu := h.puts
  have c2 := h.cells.cell 2
  have c3 := h.cells.cell 3
  simp at c2 c3
  obtain ⟨ca, cc, hcv, _, hcc⟩ := owns_form hch
  obtain ⟨pa, pc, hpv, _, hpc⟩ := owns_form hpu
  have hpl : p < σ.changes.length := hf.puts p (List.mem_of_getElem? hp)
  obtain ⟨pg, rfl⟩ : ∃ g, pa = some ⟨g, 0, none⟩ := by
    rw [hpv] at hpu
    rcases hpu.2 with ⟨_, h0⟩ | ⟨g, cap', cur, h0, _⟩
    · omega
    · cases h0; exact ⟨g, rfl⟩
  obtain ⟨cg, rfl⟩ : ∃ g, ca = some ⟨g, 0, none⟩ := by
    rw [hcv] at hch
    rcases hch.2 with ⟨_, h0⟩ | ⟨g, cap', cur, h0, _⟩
    · omega
    · cases h0; exact ⟨g, rfl⟩
  have hpcell : w.cell? ⟨pg, σ.puts.length - n, none⟩ = some (.int .i64 p) := by
    rw [hpv] at hpu
    obtain ⟨g', cap', e1, _, _, hcl, _⟩ := owns_open hpu (by omega)
    cases e1
    exact hcl _ _ (by rw [List.getElem?_map, hp]; rfl)
  have hlc : σ.changes.length ≤ cc := by
    rw [hcv] at hch
    rcases hch.2 with ⟨_, h0⟩ | ⟨g, cap', cur, h0, _, _, h1, _⟩
    · omega
    · cases h0; exact h1
  rw [hcv] at c2
  rw [hpv] at c3
  obtain ⟨P, hP⟩ : ∃ P, σ.puts.length = P := ⟨_, rfl⟩
  obtain ⟨N, hN⟩ : ∃ N, σ.changes.length = N := ⟨_, rfl⟩
  rw [hP] at hpcell hn2 c3
  rw [hN] at c2 hpl hc hlc
  have e0 : ((n : Int) == 0) = false := by simp; omega
  have s1 : IntKind.i64.wrap ((P : Int) - (n : Int)) = ((P - n : Nat) : Int) := by
    have : IntKind.i64.wrap ((P : Int) - (n : Int)) = (P : Int) - (n : Int) := IntWalk.i64_in _ (by unfold maxLen at hpc; omega)
    rw [this]; omega
  have s2 : P - n < P := by omega
  have hP63 : P ≤ 9223372036854775807 := by unfold maxLen at hpc; omega
  have HP := Lib.hid hP
  have HN := Lib.hid hN
  have HPV := Lib.hid hpv
  have HCV := Lib.hid hcv
  clear hpu hP hN hpv hcv hp
  have dn : decide ((n : Int) < 0) = false := by simp
  have dP : decide (P < n) = false := by simpa using hn2
  have hmm := @run_makeMap Tryz.prog
  refine (callsIn_wide (n := 6)).1 ?_
  refine callsIn_of_wp_marks Tryz.func19 rfl trivial ?_ rfl
  simp only [Tryz.ntmps19, List.size_toArray, List.length_cons, List.length_nil, Nat.reduceAdd, Nat.reduceSub, Array.replicate_succ, Array.replicate_zero, List.push_toArray, List.append_toArray, List.nil_append, List.cons_append]
  refine wpIn_wide.2 ?_
  go_wp2_with fail
  have hA := ((Mod.refl w Nob).alloc (.map #[] 0)).alloc (.cells #[.map (some w.heap.size)] 102)
  have cM := (MapAt.new Value.string w).mod ((Mod.refl _ Nob).alloc (.cells #[.map (some w.heap.size)] 102)) nob
  have cB := CellsAt.new (w.alloc (.map #[] 0)) #[.map (some w.heap.size)] 102
  rw [World.size_alloc] at cB
  have hsz : ((w.alloc (.map #[] 0)).alloc (.cells #[.map (some w.heap.size)] 102)).heap.size = w.heap.size + 2 := by simp
  obtain ⟨W1, hW1⟩ : ∃ W1, (w.alloc (.map #[] 0)).alloc (.cells #[.map (some w.heap.size)] 102) = W1 := ⟨_, rfl⟩
  rw [hW1] at hA cM cB hsz ⊢
  have lcb := cell_lt c2
  have lpg := cell_lt hpcell
  have lcg : cg < w.heap.size := by
    have := h.foot_lt cg (.inl (.inr (.inr (.inr (.inl (by rw [HCV.out]; rfl))))))
    exact this
  replace c2 := (hA.cell lcb nob).trans c2
  replace c3 := (hA.cell lcb nob).trans c3
  replace hpcell := (hA.cell lpg nob).trans hpcell
  clear hW1 hmm
  have hsl : (Instr.slice 79 (.slice (some ⟨cg, 0, none⟩) N cc) (some (.int .i64 p)) none none).run Tryz.prog W1.drew = .ok (.slice (some ⟨cg, p * 3, none⟩) (N - p) (cc - p)) W1.drew := by
    have := run_slice_from (P := Tryz.prog) W1.drew 79 107 Tryz.underlying79 3 (fun _ => by kernel_rfl) cg 0 N cc p (by omega) (by omega)
    rwa [Nat.zero_add] at this
  refine wp_region_still_tail 18 (by kernel_rfl) (by kernel_rfl) ?_
  simp only [List.take_succ_cons, List.take_zero, List.drop_succ_cons, List.drop_zero]
  repeat still_step
  refine wpStill_nil ?_
  change wpList _ _ _ _ _ W1.drew
  go_wp2_with (go_at_call 41; refine (back_any _ _ _ _).mono ?_; rintro e w' ⟨rfl, rfl⟩)
  have hA2 := (hA.alloc (.cells #[.slice (some ⟨cg, p * 3, none⟩) (N - p) (cc - p)] 79)).drew
  have hm12 := (((Mod.refl W1 Nob).alloc (.cells #[.slice (some ⟨cg, p * 3, none⟩) (N - p) (cc - p)] 79))).drew
  have cM2 := cM.mod hm12 nob
  have cB2 := cB.mod hm12 nob
  have cS2 := (CellsAt.new W1 #[.slice (some ⟨cg, p * 3, none⟩) (N - p) (cc - p)] 79).mod ((Mod.refl _ Nob).drew) nob
  rw [hsz] at cS2
  have hsz2 : (W1.alloc (.cells #[.slice (some ⟨cg, p * 3, none⟩) (N - p) (cc - p)] 79)).drew.heap.size = w.heap.size + 3 := by simp [hsz]
  obtain ⟨W2, hW2⟩ : ∃ W2, (W1.alloc (.cells #[.slice (some ⟨cg, p * 3, none⟩) (N - p) (cc - p)] 79)).drew = W2 := ⟨_, rfl⟩
  rw [hW2] at hA2 hm12 cM2 cB2 cS2 hsz2 ⊢
  have hS2 := h.still hA2
  obtain ⟨M, hM⟩ : ∃ M, w.heap.size = M := ⟨_, rfl⟩
  have hCh : ChsAt w.heap.size W2 (.slice (some ⟨cg, p * 3, none⟩) (N - p) (cc - p)) (tailOf (σ.changes.drop p) (vs.drop p)) := by
    refine .inr ⟨cg, p * 3, cc - p, ?_, lcg, fun j c hj => ?_⟩
    · rw [tailOf_length _ _ (by rw [List.length_drop, List.length_drop, hv1]), List.length_drop, HN.out]
    · obtain ⟨cj, vj, h1, h2, rfl⟩ := tailOf_get _ _ _ _ hj
      rw [List.getElem?_drop] at h1 h2
      obtain ⟨d0, d1, d2⟩ := chCells_get σ.changes (vs.map slv) (by rw [List.length_map]; exact hv1) (p + j) cj (slv vj) h1 (by rw [List.getElem?_map, h2]; rfl)
      have hch2 := owns_mod hch hA2 (fun _ _ => nob)
      rw [HCV.out] at hch2
      rw [← Nat.add_mul]
      exact ⟨own_cell hch2 _ _ d0, own_cell hch2 _ _ d1, own_cell hch2 _ _ d2⟩
  obtain ⟨L, hL⟩ : ∃ L, tailOf (σ.changes.drop p) (vs.drop p) = L := ⟨_, rfl⟩
  have hLl : L.length ≤ 268435456 := by
    rw [← hL, tailOf_length _ _ (by rw [List.length_drop, List.length_drop, hv1]), List.length_drop, HN.out]
    omega
  rw [hL] at hCh
  have HL := Lib.hid hL
  rw [hM] at hsz2 cS2 cM2 cB2 lcb lpg lcg hCh ⊢
  have HM := Lib.hid hM
  clear hW2 hM cM cB hsl c2 c3 hpcell hsz hL
  refine (wpIn_wide (n := 6)).1 ?_
  have hfoot := h.foot_lt
  refine wpIn_rangeFunc_ownH (F := Fence.wide) (n := 6) rfl (by omega) (gf := 68) (lb := #[.pointer (some ⟨M + 2, 0, none⟩)]) rfl trivial (enters_of Tryz.func68 (by kernel_rfl) rfl)
    (back_stops Fence.wide 5 trivial rfl (by omega) (M + 2) M _ L (by omega) W2 (by omega) (by omega) ((cS2.cell 0).trans rfl) hCh) (fun h k => h.trans k) (KW.put (by omega) (by omega)) (Below.refl _ _) (fun _ => rfl)
    (fun pre W => MapAt Value.string W M (shownBy pre) ∧ CellsAt W (M + 1) #[.map (some M)] 102 ∧ StoreAt W b σ x ∧ Mod w W Nob ∧ M + 2 < W.heap.size)
    (fun _ _ _ => False)
    ?own
    (fun _ _ _ _ _ hs _ _ => hs)
    ⟨cM2, cB2, hS2, hA2, by omega⟩
    (fun y a' W => ∃ Bx, M + 2 < Bx ∧ CellsAt W Bx #[.string y.2.1, slv y.2.2.1, .bool y.2.2.2] 107 ∧ a' = { tmps := #[.pointer (some ⟨b, 0, none⟩), .int .i64 n, undef, undef, .bool false, .pointer (some ⟨M + 1, 0, none⟩), undef, .pointer (some ⟨Bx, 0, none⟩), undef, undef, .pointer (some ⟨b, 0, none⟩), .bool false, .bool false, .int .i64 n, .bool false, .bool false, .bool false, .int .i64 n, .pointer (some ⟨b, 0, none⟩), .pointer (some ⟨b, 0, none⟩), .pointer (some ⟨b, 3, none⟩), .slice (some ⟨pg, 0, none⟩) P pc, .int .i64 P, .bool false, .bool false, .int .i64 n, .bool false, .map (some M), .pointer (some ⟨b, 0, none⟩), .pointer (some ⟨b, 0, none⟩), .pointer (some ⟨b, 2, none⟩), .slice (some ⟨cg, 0, none⟩) N cc, .pointer (some ⟨b, 0, none⟩), .pointer (some ⟨b, 0, none⟩), .pointer (some ⟨b, 3, none⟩), .slice (some ⟨pg, 0, none⟩) P pc, .pointer (some ⟨b, 0, none⟩), .pointer (some ⟨b, 0, none⟩), .pointer (some ⟨b, 3, none⟩), .slice (some ⟨pg, 0, none⟩) P pc, .int .i64 P, .int .i64 n, .int .i64 ((P - n : Nat) : Int), .pointer (some ⟨pg, P - n, none⟩), .int .i64 p, .slice (some ⟨cg, p * 3, none⟩) (N - p) (cc - p), .func (.func 68) #[] #[.pointer (some ⟨M + 2, 0, none⟩)], I y.1, .agg #[.string y.2.1, slv y.2.2.1, .bool y.2.2.2], undef, undef, undef, undef, undef, undef, undef, undef, undef, undef, undef, undef, undef, undef, undef, undef, undef, undef, undef, undef, undef, undef, undef, undef], defers := [] })
    (fun y a' _ X Y row hs hg hr => by
      obtain ⟨Bx, h1, h2, h3⟩ := hs
      exact ⟨Bx, h1, (grownBy_keeps_cells hg (fun r e => (hr r e).2) h2 rfl).trans h2, h3⟩)
    ?assign ?body ?done ?stop
  case own =>
    intro pre W W' row hs hg hr
    obtain ⟨h1, h2, h3, h4, h5⟩ := hs
    have hm : Mod W W' (M + 3 ≤ ·) := (Mod.refl W _).grown hg (fun k e => .inl (by have := (hr k e).1; omega))
    exact ⟨h1.mod hm (by omega), h2.mod hm (by omega), h3.mod hm (fun k hk hf' => by have := hfoot k hf'; have := HM.out; omega), h4.drop hm (fun k hk => .inr (by have := HM.out; omega)), Nat.lt_of_lt_of_le h5 hm.size⟩
  case stop =>
    intro D c pre W _ _ h
    exact h.elim
  case assign =>
    rintro l pre ⟨num, nm, ⟨va, vn, vc⟩, is⟩ W K ⟨hmp, hbx, hst, hmd, hsz3⟩ hK
    dsimp only at hK ⊢
    gi_wp2
    have hA3 := (Mod.refl W Nob).alloc (.cells #[.string nm, .slice va vn vc, .bool is] 107)
    have hA3s := hA3.size
    exact hK _ _ ((KeepsOthers.alloc _ _).from _) (KW.of_mod hA3 (by omega) (by omega) (fun k h => h.elim)) ⟨hmp.mod hA3 nob, hbx.mod hA3 nob, hst.still hA3, hmd.trans hA3, by omega⟩ ⟨W.heap.size, by omega, CellsAt.new W _ _, rfl⟩
  case body =>
    rintro l pre ⟨num, nm, ⟨va, vn, vc⟩, is⟩ a' W hlb ⟨r, hr⟩ ⟨hmp, hbx, hst, hmd, hsz3⟩ ⟨Bx, hBx, cX, rfl⟩ hlt
    dsimp only at cX ⊢
    have b0 := hbx.cell 0
    have x0 := cX.cell 0
    have x1 := cX.cell 1
    have x2 := cX.cell 2
    simp at b0 x0 x1 x2
    gi_wp2_with (refine wpListIn_mapUpdate_at rfl (.tmp 49) (.tmp 51) (.tmp 52) 102 rfl 9 107 Tryz.underlying102 keyS rfl hmp nm rfl (.agg #[.string nm, .slice va vn vc, .bool is]) rfl ?_)
    intro w3 mp3 hg3
    have hm3 := (Mod.refl W (· = M)).grown hg3 (fun k e => by cases e; exact .inl rfl)
    have hfM : ¬ x.foot b M := fun hf' => by have := hfoot M hf'; have := HM.out; omega
    have hm3s := hm3.size
    gi_wp2_with fail
    refine ⟨keepsFrom_mod hm3 (fun k (hk : k = M) => by omega), KW.of_mod hm3 (by omega) (by omega) (fun k (hk : k = M) => ⟨by omega, by omega⟩), ?_, hbx.mod hm3 (by omega), hst.mod hm3 (fun k (hk : k = M) => by rw [hk]; exact hfM), hmd.drop hm3 (fun k (hk : k = M) => .inr (by have := HM.out; omega)), by omega⟩
    rw [shownBy_snoc]
    exact mp3
  case done =>
    rintro D ys W hD rfl ⟨hmp, hbx, hst, hmd, hsz3⟩ hK
    have hfind (nm : ByteArray) := shownBy_tail (σ.changes.drop p) (vs.drop p) (by rw [List.length_drop, List.length_drop, hv1]) nm
    rw [HL.out] at hfind
    have hmem : ∀ nm, (shownBy (rnumbered L) nm).isSome = true → nm ∈ σ.changes.map (·.1) := fun nm hs => by
      rcases hfind nm with ⟨h1, _⟩ | ⟨i, cj, vj, h1, h2, h3, _, _⟩
      · rw [h1] at hs; cases hs
      · rw [List.getElem?_drop] at h1
        exact List.mem_map.2 ⟨cj, List.mem_of_getElem? h1, h3⟩
    have hsome : ∀ nm, (shownBy (rnumbered L) nm).isSome = (wasOf (σ.changes.drop p) nm).isSome := fun nm => by
      rcases hfind nm with ⟨h1, h2⟩ | ⟨i, cj, vj, _, _, _, h4, h5⟩
      · rw [h1, h2]; rfl
      · rw [h4, h5]; rfl
    have hso := sorted_changes (w := W) hmp (fun k hk => by
      obtain ⟨c, hc', rfl⟩ := List.mem_map.1 (hmem k hk)
      exact hf.size c hc') (σ.changes.map (·.1)) hmem (by rw [List.length_map, HN.out]; omega)
    have b0 := hbx.cell 0
    simp at b0
    have hWs := hmd.size
    go_wp2_with fail
    refine ((callsIn_wide (n := 5)).1 (keys_changes (some M) W)).mono ?_
    rintro e w' ⟨rfl, rfl⟩
    go_wp2_with fail
    refine ((callsIn_wide (n := 5)).1 hso).mono ?_
    rintro e w4 ⟨nv, ns, rfl, n1, n2, n3, n4, orow, hbl⟩
    have hm4 : Mod W w4 Nob := ((Mod.refl W Nob).alloc (.cells #[.map (some M)] 102)).trans ⟨hbl.os, hbl.tape, hbl.output, hbl.size, fun k hk _ => hbl.block k hk⟩
    have mp4 := hmp.mod hm4 nob
    have bx4 := hbx.mod hm4 nob
    have st4 := hst.still hm4
    have md4 := hmd.trans hm4
    have D4 := hm4.keep hK nob
    have hrl : ∀ k, inBlock nv k → M < k := fun k hk => by
      have := (orow.lt k hk).1
      simp at this
      omega
    obtain ⟨na, nc, rfl, _, _⟩ := owns_form orow
    obtain ⟨LN, hLN⟩ : ∃ LN, ns.length = LN := ⟨_, rfl⟩
    rw [hLN] at orow n4
    simp only [hLN] at hrl
    rw [hLN]
    have HLN := Lib.hid hLN
    have hlnN : LN ≤ N := by
      have := nodup_le ns (σ.changes.map (·.1)) n1 (fun k hk => hmem k ((n2 k).1 hk))
      rw [HLN.out, List.length_map, HN.out] at this
      exact this
    clear hso hmp hbx hst hmd hK b0 hm4 hbl hLN
    go_wp2_with fail
    go_loopw [57] (fun i wr => ∃ q : Nat, q ≤ LN ∧ i = .int .i64 q ∧ ∃ x', StoreAt wr b (σ.rolled (wasOf (σ.changes.drop p)) (ns.take q)) x' ∧ StepS b w4 x wr x') (fun i _ => LN - (intOf i).toNat)
    case atStart => exact ⟨0, Nat.zero_le _, rfl, x, st4, StepS.refl _ _ _⟩
    case round =>
      obtain ⟨q, hq, rfl, x', hst, hstep⟩ := hrel
      have hno : ∀ k, M ≤ k → ¬ x.own b k := fun k hk ho => by have := hfoot k (.inl ho); have := HM.out; omega
      by_cases hqn : q < LN
      · have hqs : q < ns.length := by rw [HLN.out]; exact hqn
        obtain ⟨nm, hnm⟩ : ∃ nm, ns[q]? = some nm := ⟨_, List.getElem?_eq_getElem hqs⟩
        have htk : ns.take (q + 1) = ns.take q ++ [nm] := by
          obtain ⟨h1, h2⟩ := List.getElem?_eq_some_iff.1 hnm
          rw [List.take_succ_eq_append_getElem h1, h2]
        have hin : (shownBy (rnumbered L) nm).isSome = true := (n2 nm).1 (List.mem_of_getElem? hnm)
        rcases hfind nm with ⟨h1, _⟩ | ⟨i, cj, vj, g1, g2, _, g4, g5⟩
        · rw [h1] at hin; cases hin
        have hsn : σ.rolled (wasOf (σ.changes.drop p)) (ns.take (q + 1)) = (σ.rolled (wasOf (σ.changes.drop p)) (ns.take q)).set nm cj.2 := by
          rw [htk]
          unfold Sto.rolled
          rw [List.foldl_append]
          simp [g5]
        have hlenr := rolled_length σ (wasOf (σ.changes.drop p)) (ns.take q)
        rw [List.length_take, HN.out] at hlenr
        obtain ⟨ρ, hρ⟩ : ∃ ρ, σ.rolled (wasOf (σ.changes.drop p)) (ns.take q) = ρ := ⟨_, rfl⟩
        rw [hρ] at hst hsn hlenr
        have HSN := Lib.hid hsn
        have mpr := mp4.mod hstep.mod (hno _ (by omega))
        have bxr := bx4.mod hstep.mod (hno _ (by omega))
        have orr := owns_mod orow hstep.mod (fun k hk => hno k (by have := hrl k hk; omega))
        have c0 := bxr.cell 0
        simp at c0
        obtain ⟨ng, rfl⟩ : ∃ g, na = some ⟨g, 0, none⟩ := by
          rcases orr.2 with ⟨_, h0⟩ | ⟨g, cap', cur, h0, _⟩
          · omega
          · cases h0; exact ⟨g, rfl⟩
        have hcell := own_cell orr q (.string nm) (by rw [List.getElem?_map, hnm]; rfl)
        have HG := Lib.hid g4
        have zeroC : ∀ W, (zeroValue 107).run Tryz.prog W = .ok (.agg #[.string ⟨#[]⟩, .slice none 0 0, .bool false]) W := fun W => by kernel_rfl
        rw [List.getElem?_drop] at g1 g2
        have hheld := hv2 (p + i) cj vj g1 g2
        clear hsn hρ htk hnm hin g4 g5 g1 g2
        obtain ⟨cnm, co⟩ := cj
        dsimp only at hheld HSN HG
        cases co with
        | some l =>
          have hh4 : Held w4 x.held (slv vj) l := Held.mono hheld md4 (fun _ h => h.elim) (fun _ h => h)
          have hhr := Held.step st4 hh4 hstep
          have hf1 : ∀ W, (Instr.field 107 (.agg #[.string nm, slv vj, .bool true]) 1).run Tryz.prog W = .ok (slv vj) W := fun W => by kernel_rfl
          have hf2 : ∀ W, (Instr.field 107 (.agg #[.string nm, slv vj, .bool true]) 2).run Tryz.prog W = .ok (.bool true) W := fun W => by kernel_rfl
          go_wp2_with (first
            | (refine wpList_lookup_val rfl (.tmp 63) (.tmp 64) 102 rfl 9 107 _ Tryz.underlying102 keyS zeroC rfl mpr nm rfl (.agg #[.string nm, slv vj, .bool true]) (by rw [HG.out]; rfl) ?_)
            | (refine wpList_lookup_val rfl (.tmp 67) (.tmp 68) 102 rfl 9 107 _ Tryz.underlying102 keyS zeroC rfl mpr nm rfl (.agg #[.string nm, slv vj, .bool true]) (by rw [HG.out]; rfl) ?_))
          refine (set_some b ρ x' nm (slv vj) l wr hst hhr (by omega)).mono ?_
          rintro e w6 ⟨x6, rfl, hs6, hk6⟩
          go_wp2_with fail
          exact ⟨⟨q + 1, by omega, by go_num, x6, by rw [HSN.out]; exact hs6, hstep.trans hk6⟩, by simp [intOf]; omega⟩
        | none =>
          obtain ⟨va, vn, vc⟩ := vj
          have hvj : slv (va, vn, vc) = .slice none 0 0 := hheld
          cases hvj
          have hf1 : ∀ W, (Instr.field 107 (.agg #[.string nm, .slice none 0 0, .bool false]) 1).run Tryz.prog W = .ok (.slice none 0 0) W := fun W => by kernel_rfl
          have hf2 : ∀ W, (Instr.field 107 (.agg #[.string nm, .slice none 0 0, .bool false]) 2).run Tryz.prog W = .ok (.bool false) W := fun W => by kernel_rfl
          go_wp2_with (first
            | (refine wpList_lookup_val rfl (.tmp 63) (.tmp 64) 102 rfl 9 107 _ Tryz.underlying102 keyS zeroC rfl mpr nm rfl (.agg #[.string nm, .slice none 0 0, .bool false]) (by rw [HG.out]; rfl) ?_)
            | (refine wpList_lookup_val rfl (.tmp 67) (.tmp 68) 102 rfl 9 107 _ Tryz.underlying102 keyS zeroC rfl mpr nm rfl (.agg #[.string nm, .slice none 0 0, .bool false]) (by rw [HG.out]; rfl) ?_))
          refine (set_none b ρ x' nm wr hst (by omega)).mono ?_
          rintro e w6 ⟨x6, rfl, hs6, hk6⟩
          go_wp2_with fail
          exact ⟨⟨q + 1, by omega, by go_num, x6, by rw [HSN.out]; exact hs6, hstep.trans hk6⟩, by simp [intOf]; omega⟩
      · obtain rfl : q = LN := by omega
        have hall : ns.take q = ns := List.take_of_length_le (by rw [HLN.out]; exact Nat.le_refl _)
        rw [hall] at hst
        have Dr : wr.heap[D]? = some (.deferred (some [])) := hstep.mod.keep D4 (hno D (by omega))
        have hmD : Mod wr (wr.putObj D (.deferred none)) (· = D) := (Mod.refl wr (· = D)).putObj (.inl rfl) _
        have hDf : ¬ x'.foot b D := fun hf' => by
          rcases hstep.foot D hf' with h1 | h1
          · have := hfoot D h1; have := HM.out; omega
          · have := heap_lt D4; omega
        clear hall
        go_wp2_with fail
        refine ⟨by simp, .inl ⟨_, _, rfl, run_takeDeferred Dr, ?_⟩⟩
        refine ⟨.bool true, ?_, ns, n1, fun nm => by rw [n2 nm, hsome nm], x', rfl, hst.mod hmD (fun k (hk : k = D) => by rw [hk]; exact hDf), ?_⟩
        · simp [results, Tryz.f19, go_sem]
        · have hs := StepS.after md4 hstep
          exact ⟨hs.mod.drop hmD (fun k (hk : k = D) => .inr (by have := HM.out; omega)), hs.own, hs.held, hs.fresh⟩

end Go.Proofs.YtaeociedjdgdfaaGreatDoor

namespace Go.Proofs.YtaeociedjdgdfaaGreatDoor
open Go.RowKit

set_option maxRecDepth 100000 in
set_option maxHeartbeats 1000000 in
theorem roll_no (b : Nat) (σ : Sto) (x : StoB) (n : Int) (w : World) (h : StoreAt w b σ x) (hn : n < 0 ∨ (σ.puts.length : Int) < n) :
    Calls Tryz.prog 19 #[.pointer (some ⟨b, 0, none⟩), .int .i64 n] w (Reads w (.bool false)) := by
  obtain ⟨pa, pc, hpv, _, hpc⟩ := owns_form h.puts
  have c3 := h.cells.cell 3
  rw [hpv] at c3
  simp at c3
  obtain ⟨P, hP⟩ : ∃ P, σ.puts.length = P := ⟨_, rfl⟩
  rw [hP] at c3 hn
  clear hP hpv
  rcases hn with hn | hn
  · have d0 : decide (n < 0) = true := by simpa using hn
    go_enter Tryz.func19, Tryz.ntmps19
    go_wp2_with fail
    go_ret
    exact ⟨rfl, rfl⟩
  · have hn0 : ¬ n < 0 := by omega
    have d0 : decide (n < 0) = false := by simpa using hn0
    have d1 : decide ((P : Int) < n) = true := by simpa using hn
    go_enter Tryz.func19, Tryz.ntmps19
    go_wp2_with fail
    go_ret
    exact ⟨rfl, rfl⟩

set_option maxRecDepth 100000 in
set_option maxHeartbeats 1000000 in
theorem roll_zero (b : Nat) (σ : Sto) (x : StoB) (w : World) (h : StoreAt w b σ x) :
    Calls Tryz.prog 19 #[.pointer (some ⟨b, 0, none⟩), .int .i64 0] w (Reads w (.bool true)) := by
  obtain ⟨pa, pc, hpv, _, hpc⟩ := owns_form h.puts
  have c3 := h.cells.cell 3
  rw [hpv] at c3
  simp at c3
  go_enter Tryz.func19, Tryz.ntmps19
  go_wp2_with fail
  go_ret
  exact ⟨rfl, rfl⟩

/-- What was shown when there were so many changes. -/
def Sto.at_ (σ : Sto) (p : Nat) (nm : ByteArray) : Option (List UInt8) := (wasOf (σ.changes.drop p) nm).getD (σ.shows nm)

theorem wasOf_snoc (cs : List (ByteArray × Option (List UInt8))) (c : ByteArray × Option (List UInt8)) (nm : ByteArray) : wasOf (cs ++ [c]) nm = if (wasOf cs nm).isSome then wasOf cs nm else if c.1 = nm then some c.2 else none := by
  unfold wasOf
  rw [List.find?_append]
  cases cs.find? (fun c => decide (c.1 = nm)) with
  | some c' => simp
  | none =>
    by_cases h : c.1 = nm <;> simp [h]

theorem at_set (σ : Sto) (nm : ByteArray) (o : Option (List UInt8)) (p : Nat) (hp : p ≤ σ.changes.length) : (σ.set nm o).at_ p = σ.at_ p := by
  funext n
  unfold Sto.at_ Sto.set
  dsimp only
  rw [List.drop_append_of_le_length hp, wasOf_snoc]
  by_cases hs : (wasOf (σ.changes.drop p) n).isSome = true
  · rw [if_pos hs]
    obtain ⟨o', ho⟩ := Option.isSome_iff_exists.1 hs
    rw [ho]; rfl
  · rw [if_neg hs]
    have hn : wasOf (σ.changes.drop p) n = none := by simpa using hs
    rw [hn]
    by_cases hnm : nm = n
    · subst hnm; simp
    · rw [if_neg hnm]
      show upd σ.shows nm o n = σ.shows n
      exact upd_other _ _ (fun e => hnm e.symm)

theorem at_end (σ : Sto) : σ.at_ σ.changes.length = σ.shows := by
  funext n
  unfold Sto.at_
  rw [List.drop_length]
  rfl

theorem at_put (σ : Sto) (nm : ByteArray) (l : List UInt8) (p : Nat) (hp : p ≤ σ.changes.length) : (σ.put nm l).at_ p = σ.at_ p := at_set σ nm (some l) p hp

theorem rolled_other (was : ByteArray → Option (Option (List UInt8))) : ∀ (ns : List ByteArray) (σ : Sto) (n : ByteArray), n ∉ ns → (σ.rolled was ns).shows n = σ.shows n
  | [], _, _, _ => rfl
  | nm :: ns, σ, n, hn => by
    have h1 : n ∉ ns := fun hc => hn (List.mem_cons_of_mem _ hc)
    have h2 : n ≠ nm := fun hc => hn (hc ▸ List.mem_cons_self)
    show ((σ.set nm ((was nm).getD none)).rolled was ns).shows n = _
    rw [rolled_other was ns _ n h1]
    show upd σ.shows nm _ n = _
    exact upd_other _ _ h2

theorem rolled_same (was : ByteArray → Option (Option (List UInt8))) : ∀ (ns : List ByteArray) (σ : Sto) (n : ByteArray), n ∈ ns → (σ.rolled was ns).shows n = (was n).getD none
  | [], _, _, h => by cases h
  | nm :: ns, σ, n, hn => by
    show ((σ.set nm ((was nm).getD none)).rolled was ns).shows n = _
    by_cases h1 : n ∈ ns
    · exact rolled_same was ns _ n h1
    · rw [rolled_other was ns _ n h1]
      have h2 : n = nm := (List.mem_cons.1 hn).resolve_right h1
      subst h2
      show upd σ.shows n _ n = _
      simp [upd]

theorem rolled_at (σ : Sto) (p : Nat) (ns : List ByteArray) (h : ∀ nm, nm ∈ ns ↔ (wasOf (σ.changes.drop p) nm).isSome = true) : (σ.rolled (wasOf (σ.changes.drop p)) ns).shows = σ.at_ p := by
  funext n
  unfold Sto.at_
  by_cases hn : n ∈ ns
  · rw [rolled_same _ _ _ _ hn]
    obtain ⟨o, ho⟩ := Option.isSome_iff_exists.1 ((h n).1 hn)
    rw [ho]; rfl
  · rw [rolled_other _ _ _ _ hn]
    have : wasOf (σ.changes.drop p) n = none := by
      have h2 := mt (h n).2 hn
      simpa using h2
    rw [this]; rfl

theorem rolled_keeps (was : ByteArray → Option (Option (List UInt8))) : ∀ (ns : List ByteArray) (σ : Sto), (σ.rolled was ns).vers = σ.vers ∧ (σ.rolled was ns).puts = σ.puts
  | [], _ => ⟨rfl, rfl⟩
  | nm :: ns, σ => by
    have ih := rolled_keeps was ns (σ.set nm ((was nm).getD none))
    exact ih

/-- Of each name: which one of a list of names it was last. -/
def lastOf (l : List ByteArray) : ByteArray → Option Nat := l.zipIdx.foldl (fun f x => upd f x.1 (some x.2)) (fun _ => none)
theorem lastOf_snoc (l : List ByteArray) (nm : ByteArray) : lastOf (l ++ [nm]) = upd (lastOf l) nm (some l.length) := by
  unfold lastOf
  rw [List.zipIdx_append, List.foldl_append]
  simp

theorem lastOf_lt : ∀ (k : Nat) (l : List ByteArray) (nm : ByteArray) (i : Nat), l.length = k → lastOf l nm = some i → i < l.length
  | 0, l, nm, i, hk, h => by
    rw [List.length_eq_zero_iff.1 hk] at h
    simp [lastOf] at h
  | k + 1, l, nm, i, hk, h => by
    have hne : l ≠ [] := fun e => by simp [e] at hk
    have hl := List.dropLast_concat_getLast hne
    have hd : l.dropLast.length = k := by simp [hk]
    rw [← hl, lastOf_snoc] at h
    unfold upd at h
    split at h
    · simp at h
      omega
    · have := lastOf_lt k _ nm i hd h
      omega

/-- How often a name stands in a list. -/
def timesOf (l : List ByteArray) (nm : ByteArray) : Nat := l.countP fun k => decide (k = nm)
theorem timesOf_snoc (l : List ByteArray) (k nm : ByteArray) : timesOf (l ++ [k]) nm = timesOf l nm + if k = nm then 1 else 0 := by
  unfold timesOf
  rw [List.countP_append]
  by_cases h : k = nm <;> simp [h]

/-- A history of Puts: of each name its place among all. -/
structure Hist (names : List ByteArray) (σ : Sto) : Prop where
  shows : ∀ nm, σ.shows nm = (lastOf names nm).map fun i => [UInt8.ofNat i]
  len : σ.changes.length = names.length
  puts : σ.puts = List.range names.length
  vers : ∀ nm, (σ.vers nm).length = timesOf names nm
  past : ∀ p, p ≤ names.length → ∀ nm, σ.at_ p nm = (lastOf (names.take p) nm).map fun i => [UInt8.ofNat i]
  fair : σ.Fair

theorem hist0 : Hist [] sto0 := ⟨fun _ => rfl, rfl, rfl, fun _ => rfl, fun p _ nm => by simp [Sto.at_, sto0, wasOf, lastOf], ⟨fun p h => (by cases h), fun c h => (by cases h), fun nm h => (by cases h)⟩⟩

theorem Hist.put {names : List ByteArray} {σ : Sto} (h : Hist names σ) (nm : ByteArray) (hs : nm.size ≤ maxLen) : Hist (names ++ [nm]) (σ.put nm [UInt8.ofNat names.length]) := by
  have hsh : ∀ n, (σ.put nm [UInt8.ofNat names.length]).shows n = (lastOf (names ++ [nm]) n).map fun i => [UInt8.ofNat i] := fun n => by
    rw [lastOf_snoc]
    show upd σ.shows nm (some [UInt8.ofNat names.length]) n = _
    unfold upd
    split
    · rfl
    · exact h.shows n
  have hlen : (σ.put nm [UInt8.ofNat names.length]).changes.length = names.length + 1 := by
    show (σ.changes ++ [_]).length = _
    rw [List.length_append, h.len]; rfl
  refine ⟨hsh, by rw [hlen]; simp, ?_, fun n => ?_, fun p hp n => ?_, ?_, ?_, ?_⟩
  · show σ.puts ++ [σ.changes.length] = _
    rw [h.puts, h.len, List.length_append, List.length_singleton, List.range_succ]
  · show (upd σ.vers nm (σ.vers nm ++ [_]) n).length = _
    unfold upd
    rw [timesOf_snoc]
    split
    · rename_i e; subst e; simp [h.vers]
    · rename_i e
      rw [if_neg fun h => e h.symm, h.vers n]; rfl
  · by_cases hp2 : p ≤ names.length
    · rw [at_put σ nm _ p (by rw [h.len]; exact hp2), h.past p hp2, List.take_append_of_le_length hp2]
    · have e : p = (σ.put nm [UInt8.ofNat names.length]).changes.length := by
        rw [hlen]
        simp at hp
        omega
      rw [e, at_end, hsh, hlen, List.take_of_length_le (by simp)]
  · intro p hp
    have hp' : p ∈ σ.puts ++ [σ.changes.length] := hp
    rw [hlen]
    rcases List.mem_append.1 hp' with h1 | h1
    · have := h.fair.puts p h1
      rw [h.len] at this
      omega
    · simp at h1
      rw [h1, h.len]
      omega
  · intro c hc
    have hc' : c ∈ σ.changes ++ [(nm, σ.shows nm)] := hc
    rcases List.mem_append.1 hc' with h1 | h1
    · exact h.fair.size c h1
    · simp at h1
      subst h1
      exact hs
  · intro n hn
    show n ∈ (σ.changes ++ [(nm, σ.shows nm)]).map (·.1)
    rw [List.map_append, List.mem_append]
    have hn' : (upd σ.shows nm (some [UInt8.ofNat names.length]) n).isSome = true := hn
    unfold upd at hn'
    split at hn'
    · rename_i e; subst e; exact .inr (by simp)
    · exact .inl (h.fair.shown n hn')

theorem Hist.short {names : List ByteArray} {σ : Sto} (h : Hist names σ) : σ.short := fun nm l hl => by
  rw [h.shows] at hl
  obtain ⟨i, _, rfl⟩ := Option.map_eq_some_iff.1 hl
  simp

/-- Rolled back so many Puts. -/
def Rolled (names : List ByteArray) (n : Nat) (σ : Sto) : Prop :=
  (∀ nm, σ.shows nm = (lastOf (names.take (names.length - n)) nm).map fun i => [UInt8.ofNat i]) ∧ σ.puts.length = names.length ∧ ∀ nm, (σ.vers nm).length = timesOf names nm

theorem Rolled.short {names : List ByteArray} {n : Nat} {σ : Sto} (h : Rolled names n σ) : σ.short := fun nm l hl => by
  rw [h.1] at hl
  obtain ⟨i, _, rfl⟩ := Option.map_eq_some_iff.1 hl
  simp

theorem roll_hist (b : Nat) (σ : Sto) (x : StoB) (names : List ByteArray) (n : Nat) (w : World) (h : StoreAt w b σ x) (hh : Hist names σ) (hl : names.length ≤ 1000) (hn : n ≤ names.length) :
    Calls Tryz.prog 19 #[.pointer (some ⟨b, 0, none⟩), .int .i64 n] w fun e w' => ∃ σ', Rolled names n σ' ∧ DidS w b x (.bool true) σ' e w' := by
  by_cases h0 : n = 0
  · subst h0
    refine (roll_zero b σ x w h).mono ?_
    rintro e w' ⟨rfl, rfl⟩
    refine ⟨σ, ⟨fun nm => ?_, by rw [hh.puts]; simp, hh.vers⟩, x, rfl, h, StepS.refl _ _ _⟩
    rw [Nat.sub_zero, List.take_length]
    exact hh.shows nm
  · have hp : σ.puts[σ.puts.length - n]? = some (names.length - n) := by
      rw [hh.puts, List.length_range, List.getElem?_range (by omega)]
    refine (roll_yes b σ x n (names.length - n) w h hh.fair (by rw [hh.len]; omega) (by omega) (by rw [hh.puts, List.length_range]; exact hn) hp).mono ?_
    rintro e w' ⟨ns, _, hmem, hd⟩
    refine ⟨_, ⟨fun nm => ?_, ?_, fun nm => ?_⟩, hd⟩
    · rw [rolled_at σ _ ns hmem, hh.past _ (by omega)]
    · rw [(rolled_keeps _ ns σ).2, hh.puts, List.length_range]
    · rw [(rolled_keeps _ ns σ).1]; exact hh.vers nm

end Go.Proofs.YtaeociedjdgdfaaGreatDoor
