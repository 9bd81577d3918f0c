/- The document's store: rows of cells, appended. No condition but sizes. -/
import Derived.Deep.RegionHeld3
import Derived.BigRegion
import Derived.Test.YtbpdmncobeiinaaPf
namespace Go.Proofs.Ytbpdmncobeiinaa
open Go.RowKit

/-- What an append takes in: a row's piece. -/
def SrcAt (w : World) (size : Nat) (v : Value) (m : Nat) (news : List Value) : Prop :=
  (v = .slice none 0 0 ∧ m = 0 ∧ news = []) ∨ ∃ g o c : Nat, v = .slice (some ⟨g, o, none⟩) m c ∧ news.length = m * size ∧ ∀ j u, news[j]? = some u → w.cell? ⟨g, o + j, none⟩ = some u

theorem SrcAt.mod {w w' : World} {size m : Nat} {v : Value} {news : List Value} (h : SrcAt w size v m news) (hm : Mod w w' Nob) : SrcAt w' size v m news := by
  rcases h with h | ⟨g, o, c, h1, h2, h3⟩
  · exact .inl h
  · refine .inr ⟨g, o, c, h1, h2, fun j u hj => ?_⟩
    have hc := h3 j u hj
    rw [hm.cell (cell_lt hc) nob]
    exact hc

theorem SrcAt.of_owns {w : World} {base size n : Nat} {t : TypeId} {v : Value} {xs : List Value} (h : w.ownsRow base t size v n xs) : SrcAt w size v n xs := by
  rcases h.2 with ⟨e0, e1⟩ | ⟨g, cap', cur, e0, _⟩
  · subst e1
    exact .inl ⟨e0, rfl, List.eq_nil_of_length_eq_zero (by simpa using h.1)⟩
  · subst e0
    exact .inr ⟨g, 0, cap', rfl, h.1, fun j u hj => by rw [Nat.zero_add]; exact own_cell h j u hj⟩

theorem run_append_src {P : Program} (w : World) (t ty e : TypeId) (i : TypeInfo) (z : Value) (size bytes : Nat) (ht : P.underlying t = some (.slice e)) (hi : P.info? e = some i) (hz : i.zero = some z)
    (hsize : i.size = size) (hby : i.bytes = bytes) (hzs : z.cells.size = size) (hsz : 0 < size) (base : Nat)
    (v : Value) (n : Nat) (xs : List Value) (hown : w.ownsRow base e size v n xs) (sv : Value) (m : Nat) (news : List Value) (hsrc : SrcAt w size sv m news)
    (h1 : ∀ u ∈ news, u.oneCell' = true) (h63 : n + m ≤ maxLen) (hbytes : (n + m) * bytes ≤ 140737488355328) (hbase : base ≤ w.heap.size) :
    ∃ v' w', (Builtin.append_ #[t, t] ty #[v, sv]).run P w = .ok v' w' ∧ w'.ownsRow base e size v' (n + m) (xs ++ news) ∧ w.grownBy w' v.ownBlock ∧ ∀ k, inBlock v' k → inBlock v k ∨ w.heap.size ≤ k := by
  rcases hsrc with ⟨rfl, rfl, rfl⟩ | ⟨g, o, c, rfl, hl, hc⟩
  · exact ⟨v, w, run_append_owned_none (P := P) w base t ty e i size ht hi v n xs hown, by simpa using hown, World.grownBy.refl _ _, fun k hk => .inl hk⟩
  · obtain ⟨v', w', h1, h2, h3, _, h5⟩ := run_append_at w t ty e i z size bytes ht hi hz hsize hby hzs hsz base v n xs hown ⟨g, o, none⟩ m c news hl (fun j u hj => by rw [Addr.add_lit]; exact hc j u hj) h1 h63 hbytes hbase
    exact ⟨v', w', h1, h2, h3, h5⟩

theorem owns_split {w : World} {base n size : Nat} {et : TypeId} {v : Value} {xs : List Value} (h : w.ownsRow base et size v n xs) : (v = .slice none 0 0 ∧ n = 0 ∧ xs = []) ∨ ∃ g c, v = .slice (some ⟨g, 0, none⟩) n c ∧ n ≤ c ∧ c ≤ maxLen ∧ xs.length = n * size ∧ ∀ j u, xs[j]? = some u → w.cell? ⟨g, j, none⟩ = some u := by
  obtain ⟨a, c, hf, h1, h2⟩ := owns_form h
  rcases h.2 with ⟨e0, e1⟩ | ⟨g, cap', cur, e0, _⟩
  · subst e1
    exact .inl ⟨e0, rfl, List.eq_nil_of_length_eq_zero (by simpa using h.1)⟩
  · subst e0
    cases hf
    exact .inr ⟨g, c, rfl, h1, h2, h.1, fun j u hj => own_cell h j u hj⟩

/-- s[:k] of a row. -/
theorem run_slice_to {P : Program} (w : World) (t : TypeId) (size : Nat) {base n : Nat} {e et : TypeId} {v : Value} {xs : List Value} (ht : P.underlying t = some (.slice e)) (h : w.ownsRow base et size v n xs) (k : Nat) (hk : k ≤ n) (hs : ∀ w, (sizeOf e).run P w = .ok size w) :
    ∃ v', (∀ W, (Instr.slice t v none (some (.int .i64 k)) none).run P W = .ok v' W) ∧ SrcAt w size v' k (xs.take (k * size)) := by
  have he : P.elem t = e := by simp [Program.elem, ht]
  rcases owns_split h with ⟨rfl, rfl, rfl⟩ | ⟨g, c, rfl, h1, h2, h3, h4⟩
  · obtain rfl : k = 0 := by omega
    refine ⟨.slice none 0 0, fun W => ?_, .inl ⟨rfl, rfl, by simp⟩⟩
    rw [run_slice_h W t none 0 0 (by rw [he]; exact ht) .i64 (0 : Nat) (by omega) (by omega), he, hs]
    simp [Result.andThen, sliced]
  · refine ⟨.slice (some ⟨g, 0, none⟩) k c, fun W => ?_, .inr ⟨g, 0, c, rfl, ?_, fun j u hj => ?_⟩⟩
    · rw [run_slice_h W t (some ⟨g, 0, none⟩) n c (by rw [he]; exact ht) .i64 (k : Nat) (by omega) (by omega), he, hs]
      simp [Result.andThen, sliced, Addr.add]
    · rw [List.length_take, h3]
      exact Nat.min_eq_left (Nat.mul_le_mul_right _ hk)
    · rw [Nat.zero_add]
      refine h4 j u ?_
      have hlt := (List.getElem?_eq_some_iff.1 hj).1
      rw [List.getElem?_take_of_lt (by rw [List.length_take] at hlt; omega)] at hj
      exact hj

/-- s[k:] of a row. -/
theorem run_slice_rest {P : Program} (w : World) (t : TypeId) (size : Nat) {base n : Nat} {e et : TypeId} {v : Value} {xs : List Value} (ht : P.underlying t = some (.slice e)) (h : w.ownsRow base et size v n xs) (k : Nat) (hk : k ≤ n) (hs : ∀ w, (sizeOf e).run P w = .ok size w) :
    ∃ v', (∀ W, (Instr.slice t v (some (.int .i64 k)) none none).run P W = .ok v' W) ∧ SrcAt w size v' (n - k) (xs.drop (k * size)) := by
  have he : P.elem t = e := by simp [Program.elem, ht]
  rcases owns_split h with ⟨rfl, rfl, rfl⟩ | ⟨g, c, rfl, h1, h2, h3, h4⟩
  · obtain rfl : k = 0 := by omega
    refine ⟨.slice none 0 0, fun W => ?_, .inl ⟨rfl, rfl, by simp⟩⟩
    rw [run_slice_l W t none 0 0 (by rw [he]; exact ht) .i64 (0 : Nat) (by omega) (by omega), he, hs]
    simp [Result.andThen, sliced]
  · by_cases hck : c = k
    · obtain rfl : n = k := by omega
      refine ⟨.slice (some ⟨g, 0, none⟩) 0 0, fun W => ?_, .inr ⟨g, 0, 0, by rw [Nat.sub_self], by rw [List.length_drop, h3]; simp, fun j u hj => ?_⟩⟩
      · rw [run_slice_l W t (some ⟨g, 0, none⟩) n c (by rw [he]; exact ht) .i64 (n : Nat) (by omega) (by omega), he, hs]
        simp [Result.andThen, sliced, hck]
      · rw [List.drop_eq_nil_of_le (by omega)] at hj
        simp at hj
    · refine ⟨.slice (some ⟨g, k * size, none⟩) (n - k) (c - k), fun W => ?_, .inr ⟨g, k * size, c - k, rfl, ?_, fun j u hj => ?_⟩⟩
      · rw [run_slice_l W t (some ⟨g, 0, none⟩) n c (by rw [he]; exact ht) .i64 (k : Nat) (by omega) (by omega), he, hs]
        simp [Result.andThen, sliced, Addr.add, hck]
        exact fun h => h.symm
      · rw [List.length_drop, h3, Nat.sub_mul]
      · rw [List.getElem?_drop] at hj
        exact h4 _ u hj

/-- An append whose run is known, as one step of a region that draws. -/
theorem step_append_run {P : Program} {ops : Array Oper} {o : Oper} {a : Act} {w : World} {K : Act → World → Prop} {Q : Exit → Act → World → Prop} {E : Prop} (hgd : o.guard = none) (s x : Operand) (t1 t2 : TypeId)
    (hop : o.op = Op.call { callee := Callee.builtin Builtin.append, args := #[s, x], argTypes := #[t1, t2] }) (u v : Value) (hs : a.eval s = u) (hx : a.eval x = v) (y : Value) (w' : World)
    (hrun : (Builtin.append_ #[t1, t2] o.type #[u, v]).run P w = .ok y w') (h : K (a.put o.dst y) w') :
    if Region.wanted o (yielded ops a.tmps) = true then Oper.wp P o a w K Q else E := by
  have hw : Region.wanted o (yielded ops a.tmps) = true := by simp [Region.wanted, hgd]
  rw [if_pos hw]
  unfold Oper.wp
  simp [execOp, hop, resolve, invoke, builtin, hs, hx, hrun, Result.andThen]
  exact h

end Go.Proofs.Ytbpdmncobeiinaa
