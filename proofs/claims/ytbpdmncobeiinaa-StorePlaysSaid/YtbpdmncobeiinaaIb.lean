/- slices.Sorted(maps.Keys(m)) over a map that is known by what it shows: its names, by rising bytes. The condition: fewer than 10^9 names, each as long as a string may be. -/
import Derived.Test.YtbpdmncobeiinaaIa
import Derived.Test.YtbpdmncobeiinaaBa
namespace Go.Proofs.Ytbpdmncobeiinaa
open Go.RowKit Go.Maps Go.Sort Go.Shelf Go.WideShapes Go.WideElems

theorem insert_perm {H : Type} (x : Lit × DataW H) : ∀ l : List (Lit × DataW H), (DataW.insert x l).Perm (x :: l)
  | [] => List.Perm.refl _
  | y :: l => by
    unfold DataW.insert
    split
    · exact List.Perm.refl _
    · exact ((insert_perm x l).cons y).trans (List.Perm.swap x y l)
theorem sorted_perm {H : Type} : ∀ l : List (Lit × DataW H), (l.foldr DataW.insert []).Perm l
  | [] => List.Perm.refl _
  | x :: l => (insert_perm x _).trans ((sorted_perm l).cons x)

theorem nodup_map {α β : Type} {g : α → β} (hg : ∀ a b, g a = g b → a = b) {l : List α} (h : l.Nodup) : (l.map g).Nodup :=
  List.pairwise_map.2 (List.Pairwise.imp (fun hne e => hne (hg _ _ e)) h)

theorem nodup_le {α : Type} [DecidableEq α] : ∀ (l m : List α), l.Nodup → (∀ x ∈ l, x ∈ m) → l.length ≤ m.length
  | [], _, _, _ => Nat.zero_le _
  | x :: l, m, h, hs => by
    rw [List.nodup_cons] at h
    have hx := hs x (List.mem_cons_self ..)
    have ih := nodup_le l (m.erase x) h.2 (fun y hy => (List.mem_erase_of_ne (fun e => h.1 (by rw [← e]; exact hy))).2 (hs y (List.mem_cons_of_mem _ hy)))
    rw [List.length_erase_of_mem hx] at ih
    have := List.length_pos_of_mem hx
    simp
    omega

theorem look_mem {K : Type} [DecidableEq K] (es : List (K × Value × Nat)) (k : K) : k ∈ es.map (·.1) ↔ (look es k).isSome = true := by
  unfold look
  rw [Option.isSome_map, List.find?_isSome]
  simp

/-- Nothing is read of an element. -/
def noRead (_ : Value) : Option (DataW Unit × List MemPlace) := some (.nil, [])

theorem owns_at {P : Program} {key : TypeId} (hk : P.underlying key = some .string) {w : World} {b : Nat} {f : ByteArray → Option Value} (hm : MapAt Value.string w b f) (hsz : ∀ k, (f k).isSome = true → k.size ≤ maxLen) (all : List ByteArray) (hall : ∀ k, (f k).isSome = true → k ∈ all) (ha : all.length ≤ 1000000000) :
    ∃ (D : DataW Unit) (ks : List ByteArray), w.ownsMap P key noRead b ks.length D ∧ ks.Nodup ∧ (∀ k, k ∈ ks ↔ (f k).isSome = true) ∧ ks.length ≤ 1000000000 ∧ (strKeys D).Perm (ks.map fun k => k.data.toList) ∧ Maps.size D = ks.length := by
  obtain ⟨es, clock, hb, h1, h2, h3, hf⟩ := hm
  have hmem : ∀ k, k ∈ es.map (·.1) ↔ (f k).isSome = true := fun k => by rw [look_mem, hf]
  have hle : (es.map (·.1)).length ≤ 1000000000 := Nat.le_trans (nodup_le _ all h1 (fun x hx => hall x ((hmem x).1 hx))) ha
  have hkey : ∀ x ∈ es, keyOf P key (.string x.1) = some (.string x.1.data.toList) := fun x hx => WideMaps.keyOf_string_mk hk (hsz x.1 ((hmem x.1).1 (List.mem_map_of_mem hx)))
  have hrg : ∀ x ∈ es, rg P key noRead ⟨Value.string x.1, x.2.1, x.2.2⟩ = (Lit.string x.1.data.toList, .nil) := fun x hx => by
    unfold rg Go.WideElems.rd
    rw [hkey x hx]
    rfl
  have hlist : (ents Value.string es).toList.map (rg P key noRead) = es.map fun x => (Lit.string x.1.data.toList, DataW.nil) := by
    unfold ents
    simp only [List.map_map]
    exact List.map_congr_left (fun x hx => hrg x hx)
  refine ⟨_, es.map (·.1), ⟨ents Value.string es, clock, hb, ⟨?_, ⟨?_, ?_, ?_⟩, ?_⟩, ?_, rfl⟩, h1, hmem, hle, ?_, ?_⟩
  · simp [ents] at hle ⊢; unfold maxLen; omega
  · intro x hx
    simp [ents] at hx
    obtain ⟨k, v, n, hx, rfl⟩ := hx
    exact h3 _ hx
  · simpa [ents, List.map_map, Function.comp_def] using h2
  · have : (ents Value.string es).toList.map (·.key) = (es.map (·.1)).map Value.string := by simp [ents, List.map_map, Function.comp_def]
    rw [this]
    exact nodup_map (fun a b h => by injection h) h1
  · intro x hx
    simp only [ents, List.toList_toArray, List.mem_map] at hx
    obtain ⟨y, hy, rfl⟩ := hx
    exact ⟨_, by unfold Go.WideElems.rd; rw [hkey y hy]; rfl⟩
  · simp [ents]
  · rw [hlist]
    show (List.map (fun p : Lit × DataW Unit => strOf p.1) _).Perm _
    refine ((sorted_perm _).map _).trans ?_
    simp [List.map_map, Function.comp_def, strOf]
  · rw [hlist]
    show List.length _ = _
    rw [(sorted_perm _).length_eq]
    simp

/-- Names by rising bytes. -/
def Rising (ns : List ByteArray) : Prop := ns.Pairwise fun a b => a.data.toList ≤ b.data.toList

theorem back_string (l : List UInt8) : Value.string ⟨l.toArray⟩ = encStr l := rfl

/-- What a row of sorted keys is. -/
theorem sorted_names {w : World} {base : Nat} {v : Value} {D : DataW Unit} {ks : List ByteArray} {f : ByteArray → Option Value} (ss : List (List UInt8)) (hp : ss.Perm (strKeys D)) (hD : (strKeys D).Perm (ks.map fun k => k.data.toList)) (hn : ks.Nodup) (hk : ∀ k, k ∈ ks ↔ (f k).isSome = true)
    (hrow : w.ownsRow base 9 1 v ss.length ((ss.mergeSort (fun x y => decide (x ≤ y))).map encStr)) :
    ∃ ns : List ByteArray, ns.Nodup ∧ (∀ k, k ∈ ns ↔ (f k).isSome = true) ∧ Rising ns ∧ ns.length = ks.length ∧ w.ownsRow base 9 1 v ns.length (ns.map Value.string) := by
  have hs := List.mergeSort_perm ss (fun x y => decide (x ≤ y))
  have hall := (hs.trans hp).trans hD
  have tr : ∀ a b c : List UInt8, decide (a ≤ b) = true → decide (b ≤ c) = true → decide (a ≤ c) = true := fun a b c h1 h2 => by simp only [decide_eq_true_eq] at *; exact List.le_trans h1 h2
  have to : ∀ a b : List UInt8, (decide (a ≤ b) || decide (b ≤ a)) = true := fun a b => by simp only [Bool.or_eq_true, decide_eq_true_eq]; exact List.le_total a b
  have hr := List.pairwise_mergeSort tr to ss
  obtain ⟨zs, hz⟩ : ∃ zs, ss.mergeSort (fun x y => decide (x ≤ y)) = zs := ⟨_, rfl⟩
  rw [hz] at hs hall hr hrow
  have hinj : ∀ a b : ByteArray, a.data.toList = b.data.toList → a = b := fun a b h => by
    cases a; cases b
    simp only [ByteArray.mk.injEq]
    exact Array.toList_inj.1 h
  have hnz : zs.Nodup := hall.nodup_iff.2 (nodup_map (fun a b h => hinj a b h) hn)
  have hback : (zs.map fun l => (⟨l.toArray⟩ : ByteArray)).map (fun k => k.data.toList) = zs := by simp [List.map_map, Function.comp_def]
  refine ⟨zs.map fun l => ⟨l.toArray⟩, ?_, fun k => ?_, ?_, ?_, ?_⟩
  · refine nodup_map (fun a b h => ?_) hnz
    have := congrArg (fun k : ByteArray => k.data.toList) h
    simpa using this
  · rw [← hk k]
    have h1 : k ∈ (zs.map fun l => (⟨l.toArray⟩ : ByteArray)) ↔ k.data.toList ∈ zs := by
      constructor
      · intro h
        obtain ⟨l, hl, e⟩ := List.mem_map.1 h
        rw [← e]; exact hl
      · exact fun h => List.mem_map.2 ⟨_, h, hinj _ _ (by simp)⟩
    rw [h1, hall.mem_iff]
    constructor
    · intro h
      obtain ⟨k', hk', e⟩ := List.mem_map.1 h
      rw [← hinj _ _ e]; exact hk'
    · exact fun h => List.mem_map_of_mem h
  · unfold Rising
    rw [List.pairwise_map]
    exact hr.imp (fun h => by simpa using h)
  · rw [List.length_map, hall.length_eq, List.length_map]
  · have e1 : ss.length = zs.length := hs.length_eq.symm
    rw [List.length_map, List.map_map, ← e1]
    exact hrow

theorem sorts_names (m : Nat) : AnyZ.SortsIn Try.prog layssorted_ren Fence.wide m :=
  ⟨fun blk off cap ss W hH hblk hsz => callsIn_wide.2 (AnyM.slices_Sort_string layssort blk off cap ss W hH hblk hsz), fun p cap W => callsIn_wide.2 (AnyM.slices_Sort_string_none layssort p cap W)⟩

/-- What is asked of the answer. -/
def NamesOf (f : ByteArray → Option Value) (w : World) (e : Ending) (w' : World) : Prop :=
  ∃ (v : Value) (ns : List ByteArray), e = .returned v ∧ ns.Nodup ∧ (∀ k, k ∈ ns ↔ (f k).isSome = true) ∧ Rising ns ∧ ns.length ≤ 1000000000 ∧ w'.ownsRow w.heap.size 9 1 v ns.length (ns.map Value.string) ∧ Below w.heap.size w w'

section
variable {w : World} {b : Nat} {f : ByteArray → Option Value}

set_option maxHeartbeats 1000000 in
theorem sorted_changes (hm : MapAt Value.string w b f) (hsz : ∀ k, (f k).isSome = true → k.size ≤ maxLen) (all : List ByteArray) (hall : ∀ k, (f k).isSome = true → k ∈ all) (ha : all.length ≤ 1000000000) :
    CallsIn Fence.wide 5 Try.prog 38 #[.func (.func 60) #[] #[.pointer (some ⟨w.heap.size, 0, none⟩)]] (w.alloc (.cells #[.map (some b)] 72)) (NamesOf f (w.alloc (.cells #[.map (some b)] 72))) := by
  obtain ⟨D, ks, hown, hn, hk, hle, hD, hsd⟩ := owns_at (P := Try.prog) Try.underlying9 hm hsz all hall ha
  have hbl := hown.lt
  have hseq : SeqGives Fence.wide 2 Try.prog 60 #[.pointer (some ⟨w.heap.size, 0, none⟩)] encStr (fun ss => ss.Perm (strKeys D)) (Maps.size D) (w.alloc (.cells #[.map (some b)] 72)) :=
    AnyZ.keys_gives (ρ := layskeysc_ren) { layskeysc with } Fence.wide _ trivial rfl (by omega) w.heap.size b ks.length D _ (by simp) (by simp) (by
      obtain ⟨es, clock, hb, Ft, hs, hD⟩ := hown
      exact ⟨es, clock, (Below.heap_alloc _ _ b hbl).trans hb, Ft, hs, hD⟩)
  refine (AnyZ.sorted_in layssorted Fence.wide 5 trivial trivial trivial trivial rfl (by omega) (sorts_names _) (enters_of Try.func59 (by kernel_rfl) rfl) 60 #[.pointer (some ⟨w.heap.size, 0, none⟩)] trivial (enters_of Try.func60 (by kernel_rfl) rfl) _ _ (by rw [hsd]; unfold maxLen; omega) (by rw [hsd]; omega) _ hseq).mono ?_
  rintro e w' ⟨v, ss, rfl, hS, hrow, _, hb⟩
  obtain ⟨ns, n1, n2, n3, n4, n5⟩ := sorted_names ss hS hD hn hk hrow
  exact ⟨v, ns, rfl, n1, n2, n3, by omega, n5, hb⟩

set_option maxHeartbeats 1000000 in
theorem sorted_bytes (hm : MapAt Value.string w b f) (hsz : ∀ k, (f k).isSome = true → k.size ≤ maxLen) (all : List ByteArray) (hall : ∀ k, (f k).isSome = true → k ∈ all) (ha : all.length ≤ 1000000000) :
    CallsIn Fence.wide 5 Try.prog 38 #[.func (.func 66) #[] #[.pointer (some ⟨w.heap.size, 0, none⟩)]] (w.alloc (.cells #[.map (some b)] 62)) (NamesOf f (w.alloc (.cells #[.map (some b)] 62))) := by
  obtain ⟨D, ks, hown, hn, hk, hle, hD, hsd⟩ := owns_at (P := Try.prog) Try.underlying9 hm hsz all hall ha
  have hbl := hown.lt
  have hseq : SeqGives Fence.wide 2 Try.prog 66 #[.pointer (some ⟨w.heap.size, 0, none⟩)] encStr (fun ss => ss.Perm (strKeys D)) (Maps.size D) (w.alloc (.cells #[.map (some b)] 62)) :=
    AnyZ.keys_gives (ρ := layskeysb_ren) { layskeysb with } Fence.wide _ trivial rfl (by omega) w.heap.size b ks.length D _ (by simp) (by simp) (by
      obtain ⟨es, clock, hb, Ft, hs, hD⟩ := hown
      exact ⟨es, clock, (Below.heap_alloc _ _ b hbl).trans hb, Ft, hs, hD⟩)
  refine (AnyZ.sorted_in layssorted Fence.wide 5 trivial trivial trivial trivial rfl (by omega) (sorts_names _) (enters_of Try.func59 (by kernel_rfl) rfl) 66 #[.pointer (some ⟨w.heap.size, 0, none⟩)] trivial (enters_of Try.func66 (by kernel_rfl) rfl) _ _ (by rw [hsd]; unfold maxLen; omega) (by rw [hsd]; omega) _ hseq).mono ?_
  rintro e w' ⟨v, ss, rfl, hS, hrow, _, hb⟩
  obtain ⟨ns, n1, n2, n3, n4, n5⟩ := sorted_names ss hS hD hn hk hrow
  exact ⟨v, ns, rfl, n1, n2, n3, by omega, n5, hb⟩
end

theorem keys_changes (mb : Option Nat) (W : World) : CallsIn Fence.wide 5 Try.prog 39 #[.map mb] W fun e w' => e = .returned (.func (.func 60) #[] #[.pointer (some ⟨W.heap.size, 0, none⟩)]) ∧ w' = W.alloc (.cells #[.map mb] 72) :=
  AnyZ.keys_in layskeysc Fence.wide 5 trivial rfl mb W
theorem keys_bytes (mb : Option Nat) (W : World) : CallsIn Fence.wide 5 Try.prog 55 #[.map mb] W fun e w' => e = .returned (.func (.func 66) #[] #[.pointer (some ⟨W.heap.size, 0, none⟩)]) ∧ w' = W.alloc (.cells #[.map mb] 62) :=
  AnyZ.keys_in layskeysb Fence.wide 5 trivial rfl mb W

end Go.Proofs.Ytbpdmncobeiinaa
