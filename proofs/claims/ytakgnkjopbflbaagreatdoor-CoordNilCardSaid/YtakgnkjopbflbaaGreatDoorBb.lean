/- What some functions of the library's packages slices and bytes, and of dominohelp, answer on bytes. The condition: no more than 2^40 bytes. -/
import Derived.Test.YtakgnkjopbflbaaGreatDoorBa
import Derived.Test.YtakgnkjopbflbaaGreatDoorRows
import Derived.Lib.AppendZerosOnto
import Derived.KernelRfl
namespace Go.Proofs.YtakgnkjopbflbaaGreatDoor
open Go.RowKit

theorem info_u8 : (Tryz.prog.info? 5).map (fun i => (i.zero, i.size, i.bytes)) = some (some (.int .u8 0), 1, 1) := by kernel_rfl

theorem bytes_one (l : List UInt8) : ∀ y ∈ l.map B, y.oneCell' = true := by
  intro y hy
  obtain ⟨x, _, rfl⟩ := List.mem_map.1 hy
  rfl

theorem RowIn.alloc {w : World} {v : Value} {xs : List Value} (h : RowIn w v xs) (o : Obj) : RowIn (w.alloc o) v xs := h.mod ((Mod.refl w Nob).alloc o) (fun _ _ => nob)
theorem RowAt.alloc {w : World} {v : Value} {xs : List Value} (h : RowAt w v xs) (o : Obj) : RowAt (w.alloc o) v xs := h.mod ((Mod.refl w Nob).alloc o) (fun _ _ => nob)

/-- New memory that holds bytes: a row of the call's own. -/
def Made (w : World) (l : List UInt8) (e : Ending) (w' : World) : Prop :=
  ∃ v', e = .returned v' ∧ w'.ownsRow w.heap.size 5 1 v' l.length (l.map B) ∧ Mod w w' Nob

/-- .. nil just where the other one is. -/
def Cloned (w : World) (v : Value) (l : List UInt8) (e : Ending) (w' : World) : Prop :=
  ∃ v', e = .returned v' ∧ w'.ownsRow w.heap.size 5 1 v' l.length (l.map B) ∧ Mod w w' Nob ∧ (v' = .slice none 0 0 ↔ v = .slice none 0 0)

theorem owns_nil_bytes (w : World) (n : Nat) {l : List UInt8} (h : l.map B = []) : w.ownsRow n 5 1 (.slice none 0 0) l.length (l.map B) := by
  have : l = [] := by simpa using h
  subst this
  exact World.ownsRow_nil _ _ _ _

set_option maxRecDepth 100000 in
set_option maxHeartbeats 400000 in
theorem clone_bytes (v : Value) (l : List UInt8) (w : World) (hv : BytesAt w v l) (hl : l.length ≤ 1099511627776) :
    Calls Tryz.prog 99 #[v] w (Cloned w v l) := by
  obtain ⟨i0, hi, hz0, hz1, hz2⟩ := info_parts info_u8
  by_cases hnn : v = .slice none 0 0
  · subst hnn
    have hnil : l.map B = [] := by
      obtain ⟨a, c, h, _⟩ := hv.form
      injection h with h1 h2 h3
      exact List.eq_nil_of_length_eq_zero h2.symm
    have hne := @Lib.run_eql_slice_nil Tryz.prog
    go_enter Tryz.func99, Tryz.ntmps99
    go_wp2
    go_ret
    exact ⟨_, rfl, owns_nil_bytes _ _ hnil, Mod.refl _ _, by simp⟩
  · obtain ⟨ad, cap, hf⟩ : ∃ ad cap, v = .slice (some ad) (l.map B).length cap := by
      rcases hv with (⟨rfl, _⟩ | ⟨b, o, cap, rfl, _⟩) | ⟨h0, ad, cap, rfl, _⟩
      · exact absurd rfl hnn
      · exact ⟨_, _, rfl⟩
      · exact ⟨ad, cap, by rw [h0]; rfl⟩
    have hown := World.ownsRow_made (base := w.heap.size) (e := 5) (size := 1) w #[] 0 (Nat.le_refl _) (by unfold maxLen; omega) (by simp)
    have hsrc := hv.alloc (.cells #[] 5)
    rw [hf] at hsrc
    subst hf
    clear hv
    have hne := @Lib.run_eql_slice_nil Tryz.prog
    go_enter Tryz.func99, Tryz.ntmps99
    go_wp2_with (at_builtin; refine wpList_append_row _ rfl _ _ 43 rfl w.heap.size 5 i0 _ 1 Tryz.underlying43 hi hz0 hz1 hz2 rfl _ _ _ rfl hown _ (l.map B) rfl hsrc (bytes_one l) (by simp; unfold maxLen; omega) (by simp; omega) (by simp) ?_)
    intro v' w' hown' hg hn _
    go_wp2
    go_ret
    refine ⟨v', rfl, by simpa using hown', ?_, by simpa using hn⟩
    exact ((Mod.refl w Nob).alloc _).grown hg (fun k hk => by simp [Value.ownBlock] at hk; omega)

/-- 'slices.Grow' of the nil slice: room for n. -/
def Room (w : World) (e : Ending) (w' : World) : Prop :=
  ∃ v', e = .returned v' ∧ w'.ownsRow w.heap.size 5 1 v' 0 [] ∧ Mod w w' Nob

set_option maxRecDepth 100000 in
set_option maxHeartbeats 400000 in
theorem grow_bytes (n : Nat) (w : World) (hn : n ≤ 1099511627776) :
    Calls Tryz.prog 117 #[.slice none 0 0, .int .i64 n] w (Room w) := by
  obtain ⟨i0, hi, hz0, hz1, hz2⟩ := info_parts info_u8
  by_cases h0 : n = 0
  · subst h0
    go_enter Tryz.func117, Tryz.ntmps117
    go_wp2
    go_ret
    exact ⟨_, rfl, World.ownsRow_nil _ _ _ _, Mod.refl _ _⟩
  · have hrun := Lib.run_append_grow_zeros (P := Tryz.prog) w 43 3 43 5 i0 (.int .u8 0) .i64 .i64 Tryz.underlying43 Tryz.underlying3 hi hz0 none 0 0 [] (by simp [Builtin.firstCells]) n (by omega) (by omega) (by omega) (by omega) (by rw [hz2]; omega) (by unfold Builtin.nextslicecap; rw [if_pos (by omega), hz2]; omega)
    have hge := grownCap_ge w (0 + n) 0 5
    have hle := grownCap_le_maxLen w (0 + n) 0 5 (by unfold maxLen; omega)
    obtain ⟨c, hc⟩ : ∃ c, grownCap w (0 + n) 0 5 = c := ⟨_, rfl⟩
    rw [hc] at hrun hge hle
    clear hc
    simp only [Nat.zero_add, Array.empty_append] at hrun hge
    obtain ⟨z, hz⟩ : ∃ z : Array Value, (#[] : Array Value) ++ Builtin.zeroCells (Value.int IntKind.u8 0).cells n ++ Builtin.zeroCells (Value.int IntKind.u8 0).cells (c - n) = z := ⟨_, rfl⟩
    have hzs : z.size = c := by rw [← hz]; simp [Builtin.zeroCells, Value.cells]; omega
    have hrun2 : (Builtin.append_ #[43, 3] 43 #[.slice none 0 0, .int .i64 n]).run Tryz.prog w = .ok (.slice (some ⟨w.heap.size, 0, none⟩) n c) (w.drew.alloc (.cells z 5)) := by
      rw [← hz]; simpa using hrun
    clear hrun hz hi hz0 hz1 hz2
    have hpos : (0 : Int) < (n : Int) := by omega
    unfold maxLen at hle
    go_enter Tryz.func117, Tryz.ntmps117
    go_wp2_with (at_builtin; refine wpList_append_run _ rfl _ _ _ _ rfl _ _ rfl rfl _ _ hrun2 ?_)
    go_ret
    refine ⟨_, rfl, World.ownsRow_made w.drew z c (Nat.le_refl _) (by unfold maxLen; omega) (by omega), ((Mod.refl w Nob).drew.alloc _)⟩

/-- A slice of slices of bytes. -/
def RowsAt (w : World) (v : Value) (ls : List (List UInt8)) : Prop := ∃ us : List Value, RowAt w v us ∧ us.length = ls.length ∧ ∀ (i : Nat) (u : Value) (l : List UInt8), us[i]? = some u → ls[i]? = some l → BytesAt w u l

def total (ls : List (List UInt8)) : Nat := (ls.map List.length).sum

theorem total_take (ls : List (List UInt8)) (k : Nat) (h : k < ls.length) : total (ls.take (k + 1)) = total (ls.take k) + (ls[k]).length := by
  unfold total
  rw [List.take_succ_eq_append_getElem h]
  simp only [List.map_append, List.map_cons, List.map_nil, List.sum_append, List.sum_cons, List.sum_nil, Nat.add_zero]
theorem total_le (ls : List (List UInt8)) (k : Nat) : total (ls.take k) ≤ total ls := by
  unfold total
  have h : ls.take k ++ ls.drop k = ls := List.take_append_drop k ls
  have h2 := congrArg (fun l : List (List UInt8) => (l.map List.length).sum) h
  simp only [List.map_append, List.sum_append] at h2
  omega
theorem total_flatten (ls : List (List UInt8)) : ls.flatten.length = total ls := by
  unfold total; exact List.length_flatten

set_option maxRecDepth 100000 in
set_option maxHeartbeats 1000000 in
theorem concat_bytes (v : Value) (ls : List (List UInt8)) (w : World) (hv : RowsAt w v ls) (hl : total ls ≤ 1099511627776) :
    Calls Tryz.prog 87 #[v] w (Made w ls.flatten) := by
  obtain ⟨i0, hi, hz0, hz1, hz2⟩ := info_parts info_u8
  obtain ⟨us, hus, hul, hbytes⟩ := hv
  rcases hus with ⟨rfl, rfl⟩ | ⟨b, o, cap, rfl, hb, hl2, hc, hx⟩
  · have : ls = [] := List.eq_nil_of_length_eq_zero (by simpa using hul.symm)
    subst this
    go_enter Tryz.func87, Tryz.ntmps87
    go_wp2_with fail
    refine wp_loop_once ?_
    go_wp2_with fail
    refine (grow_bytes 0 w (by omega)).mono ?_
    rintro e w1 ⟨v1, rfl, hown, hm⟩
    go_wp2_with fail
    refine wp_loop_once ?_
    go_wp2_with fail
    go_ret
    exact ⟨v1, rfl, by simpa using hown, hm⟩
  · unfold maxLen at hc
    rw [hul] at hl2 ⊢
    go_enter Tryz.func87, Tryz.ntmps87
    go_wp2_with fail
    go_loop [3, 11] (fun size i => ∃ k : Nat, k ≤ ls.length ∧ i = .int .i64 k ∧ size = .int .i64 (total (ls.take k))) (fun _ i => ls.length - (intOf i).toNat)
    case atStart => exact ⟨0, by omega, rfl, rfl⟩
    case round =>
      obtain ⟨k, hk, rfl, rfl⟩ := hrel
      by_cases hlt : k < ls.length
      · have hub : us[k]? = some us[k] := List.getElem?_eq_getElem (by omega)
        have hcell := hx k _ hub
        obtain ⟨a, c, hform, _, _⟩ := (hbytes k _ _ hub (List.getElem?_eq_getElem hlt)).form
        rw [hform] at hcell
        simp only [List.length_map] at hcell
        have ht1 := Lib.hid (total_take ls k hlt)
        have ht2 := total_le ls (k + 1)
        rw [ht1.out] at ht2
        obtain ⟨n, hn⟩ : ∃ n, (ls[k]).length = n := ⟨_, rfl⟩
        obtain ⟨m, hm⟩ : ∃ m, total (ls.take k) = m := ⟨_, rfl⟩
        have ht3 : Hid (total (ls.take (k + 1)) = m + n) := by rw [← hn, ← hm]; exact ht1
        clear ht1
        rw [hn] at hcell ht2
        rw [hm] at ht2 ⊢
        clear hbytes hx hform hub hn hm
        go_wp2_with fail
        go_round
        case rel => exact ⟨k + 1, by omega, by go_num, by rw [ht3.out]; go_num⟩
        case measure => simp [intOf]; omega
      · obtain rfl : k = ls.length := by omega
        rw [List.take_length]
        clear hlt hk
        go_wp2_with fail
        refine (grow_bytes _ w hl).mono ?_
        rintro e w1 ⟨v1, rfl, hown, hm⟩
        go_wp2_with fail
        have hx1 : ∀ (i : Nat) x, us[i]? = some x → w1.cell? ⟨b, o + i, none⟩ = some x := fun i x h => by rw [hm.cell hb nob]; exact hx i x h
        have hby1 : ∀ (i : Nat) (u : Value) (l : List UInt8), us[i]? = some u → ls[i]? = some l → BytesAt w1 u l := fun i u l h1 h2 => (hbytes i u l h1 h2).mod hm (fun _ _ => nob)
        go_loopw [6, 27] (fun out i wr => ∃ k : Nat, k ≤ ls.length ∧ i = .int .i64 k ∧ wr.ownsRow w.heap.size 5 1 out (total (ls.take k)) ((ls.take k).flatten.map B) ∧ Mod w wr Nob) (fun _ i _ => ls.length - (intOf i).toNat)
        case atStart => exact ⟨0, by omega, rfl, hown, hm⟩
        case round =>
          clear hx1 hby1 hm hown
          obtain ⟨k, hk, rfl, hown, hm⟩ := hrel
          by_cases hlt : k < ls.length
          · have hub : us[k]? = some us[k] := List.getElem?_eq_getElem (by omega)
            have hcell : wr.cell? ⟨b, o + k, none⟩ = some us[k] := by rw [hm.cell hb nob]; exact hx k _ hub
            have hsrc := (hbytes k _ _ hub (List.getElem?_eq_getElem hlt)).mod hm (fun _ _ => nob)
            obtain ⟨a, c, hform, _, _⟩ := hsrc.form
            rw [hform] at hcell hsrc
            rw [List.length_map] at hcell hsrc
            have hbase : w.heap.size ≤ wr.heap.size := hm.size
            have ht1 := total_take ls k hlt
            have ht2 := total_le ls (k + 1)
            have hf1 : (ls.take (k + 1)).flatten.map B = (ls.take k).flatten.map B ++ (ls[k]).map B := by
              rw [List.take_succ_eq_append_getElem hlt, List.flatten_append, List.map_append]
              simp
            have hlen : ((ls[k]).map B).length = (ls[k]).length := by simp
            have hone := bytes_one ls[k]
            rw [← hlen] at ht1 hcell hsrc
            rw [ht1] at ht2
            obtain ⟨ys, hys⟩ : ∃ ys, (ls[k]).map B = ys := ⟨_, rfl⟩
            obtain ⟨xs, hxs⟩ : ∃ xs, (ls.take k).flatten.map B = xs := ⟨_, rfl⟩
            obtain ⟨m, hm1⟩ : ∃ m, total (ls.take k) = m := ⟨_, rfl⟩
            obtain ⟨n, hn1⟩ : ∃ n, ys.length = n := ⟨_, rfl⟩
            rw [hm1] at ht1 ht2 hown
            rw [hxs] at hf1 hown
            rw [hys] at hf1 hsrc hone ht1 ht2 hcell
            rw [hn1] at hsrc ht1 ht2 hcell
            have hT := Lib.hid ht1
            have hF := Lib.hid hf1
            have hN := Lib.hid hn1
            clear ht1 hf1 hlen hys hxs hm1 hbytes hx hform hub hn1
            go_wp2_with (at_builtin; refine wpList_append_row _ rfl _ _ 43 rfl w.heap.size 5 i0 _ 1 Tryz.underlying43 hi hz0 hz1 hz2 rfl _ _ _ rfl hown _ ys rfl hsrc hone (by rw [hN.out]; unfold maxLen; omega) (by rw [hN.out]; omega) hbase ?_)
            intro v' w' hown' hg hn _
            rw [hN.out] at hown'
            go_wp2_with fail
            go_roundw
            case rel => exact ⟨k + 1, by omega, by go_num, by rw [hT.out, hF.out]; exact hown', hm.grown hg (fun k hk => .inr (hown.lt k hk).1)⟩
            case measure => simp [intOf]; omega
          · obtain rfl : k = ls.length := by omega
            rw [List.take_length] at hown
            clear hlt hk
            go_wp2_with fail
            go_ret
            exact ⟨u6, rfl, by rw [total_flatten]; exact hown, hm⟩

end Go.Proofs.YtakgnkjopbflbaaGreatDoor
