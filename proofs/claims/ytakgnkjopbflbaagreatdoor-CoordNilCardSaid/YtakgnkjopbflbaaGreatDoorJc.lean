/- Values that are built of arrays: a key and a nonce; a journal. No condition. -/
import Derived.Great.FillDense
import Derived.Deep.MidRow
import Derived.Test.YtakgnkjopbflbaaGreatDoorJb
import Derived.Test.YtakgnkjopbflbaaGreatDoorBj
namespace Go.Proofs.YtakgnkjopbflbaaGreatDoor
open Go.RowKit Go.Shelf

theorem put_range (off : Nat) (pre old post vs : List Value) (h1 : pre.length = off) (h2 : old.length = vs.length) :
    ((vs.toArray.zipIdx.foldl (fun cs (x : Value × Nat) => cs.setIfInBounds (off + x.2) x.1) (pre ++ (old ++ post)).toArray)) = (pre ++ (vs ++ post)).toArray := by
  have h := Great.foldl_set off vs 0 (pre ++ (old ++ post)).toArray
  have e : vs.toArray.zipIdx.foldl (fun cs (x : Value × Nat) => cs.setIfInBounds (off + x.2) x.1) (pre ++ (old ++ post)).toArray = (vs.zipIdx 0).foldl (fun cs (x : Value × Nat) => cs.setIfInBounds (off + x.2) x.1) (pre ++ (old ++ post)).toArray := by
    rw [← Array.foldl_toList, Array.toList_zipIdx]
  rw [e]
  refine Array.ext_getElem? (fun k => ?_)
  rw [h.2 k]
  simp only [Nat.add_zero, List.getElem?_toArray, List.size_toArray, List.length_append]
  subst h1
  by_cases hk : pre.length ≤ k ∧ k < pre.length + vs.length ∧ k < pre.length + (old.length + post.length)
  · rw [if_pos hk, List.getElem?_append_right hk.1, List.getElem?_append_left (by omega)]
  · rw [if_neg hk]
    by_cases h3 : k < pre.length
    · rw [List.getElem?_append_left h3, List.getElem?_append_left h3]
    · rw [List.getElem?_append_right (by omega), List.getElem?_append_right (by omega), List.getElem?_append_right (by omega), List.getElem?_append_right (by omega), h2]

theorem fill_one (place : Nat → Option (Nat × Nat)) (i off : Nat) (pre old post vs : List Value) (v : Value) (rest : List (Nat × Value)) (hp : place i = some (off, vs.length)) (hv : v.cells = vs.toArray) (h1 : pre.length = off) (h2 : old.length = vs.length) :
    Instr.fill place (pre ++ (old ++ post)).toArray ((i, v) :: rest) = Instr.fill place (pre ++ (vs ++ post)).toArray rest := by
  rw [← put_range off pre old post vs h1 h2]
  conv => lhs; unfold Instr.fill
  simp only [hp, hv]
  rw [if_neg (by simp; omega)]

/-- A key and a nonce. -/
theorem built_use (key nonce : List UInt8) (hk : key.length = 32) (hn : nonce.length = 12) : Tryz.prog.built 163 [(0, .agg (arrB key)), (1, .agg (arrB nonce))] = some (key.map B ++ nonce.map B).toArray := by
  have e : ∀ parts, Tryz.prog.built 163 parts = Instr.fill (fun i => #[(0, 32), (32, 12)][i]?) (List.replicate 44 (.int .u8 0)).toArray parts := fun parts => by kernel_rfl
  rw [e]
  have s1 := fill_one (fun i => #[(0, 32), (32, 12)][i]?) 0 0 [] (List.replicate 32 (.int .u8 0)) (List.replicate 12 (.int .u8 0)) (key.map B) (.agg (arrB key)) [(1, .agg (arrB nonce))] (by rw [List.length_map, hk]; rfl) rfl rfl (by simp [hk])
  have s2 := fill_one (fun i => #[(0, 32), (32, 12)][i]?) 1 32 (key.map B) (List.replicate 12 (.int .u8 0)) [] (nonce.map B) (.agg (arrB nonce)) [] (by rw [List.length_map, hn]; rfl) rfl (by simp [hk]) (by simp [hn])
  rw [List.nil_append, List.nil_append] at s1
  rw [List.append_nil, List.append_nil] at s2
  have z : (List.replicate 44 (Value.int .u8 0)) = List.replicate 32 (.int .u8 0) ++ List.replicate 12 (.int .u8 0) := by rw [List.replicate_append_replicate]
  rw [z, s1, s2]
  rfl

/-- An entry. -/
structure Ent where
  kind : Int
  task : Int
  att : Nat
  state : Int
def Ent.cells (e : Ent) : List Value := [.int .i64 e.kind, .int .i64 e.task, .int .u64 e.att, .int .i64 e.state]
/-- A journal's cells. -/
def jcells (s t : Value) (key : List UInt8) (ep : Nat) (ev : Value) (last next : List UInt8) (wv : Bool) (e : Ent) : List Value :=
  [s, t] ++ (key.map B ++ ([.int .u64 ep, ev] ++ (last.map B ++ (next.map B ++ (.bool wv :: e.cells)))))
theorem jcells_length (s t : Value) (key : List UInt8) (ep : Nat) (ev : Value) (last next : List UInt8) (wv : Bool) (e : Ent) (h1 : key.length = 32) (h2 : last.length = 32) (h3 : next.length = 32) : (jcells s t key ep ev last next wv e).length = 105 := by
  simp [jcells, Ent.cells, h1, h2, h3]
def zl32 : List UInt8 := List.replicate 32 0
theorem built_jou (s t : Value) (key : List UInt8) (ep : Nat) (hs : s.cells = #[s]) (ht : t.cells = #[t]) (hk : key.length = 32) : Tryz.prog.built 121 [(0, s), (1, t), (2, .agg (arrB key)), (3, .int .u64 ep)] = some (jcells s t key ep (.slice none 0 0) zl32 zl32 false ⟨0, 0, 0, 0⟩).toArray := by
  have e : ∀ parts, Tryz.prog.built 121 parts = Instr.fill (fun i => #[(0, 1), (1, 1), (2, 32), (34, 1), (35, 1), (36, 32), (68, 32), (100, 1), (101, 4)][i]?) (jcells (.pointer none) (.pointer none) zl32 0 (.slice none 0 0) zl32 zl32 false ⟨0, 0, 0, 0⟩).toArray parts := fun parts => by kernel_rfl
  rw [e]
  have s1 := fill_one (fun i => #[(0, 1), (1, 1), (2, 32), (34, 1), (35, 1), (36, 32), (68, 32), (100, 1), (101, 4)][i]?) 0 0 [] [.pointer none] (([Value.pointer none] : List Value) ++ (zl32.map B ++ ([.int .u64 0, .slice none 0 0] ++ (zl32.map B ++ (zl32.map B ++ (.bool false :: (Ent.mk 0 0 0 0).cells)))))) [s] s
    [(1, t), (2, .agg (arrB key)), (3, .int .u64 ep)] rfl hs rfl rfl
  have s2 := fill_one (fun i => #[(0, 1), (1, 1), (2, 32), (34, 1), (35, 1), (36, 32), (68, 32), (100, 1), (101, 4)][i]?) 1 1 [s] [.pointer none] (zl32.map B ++ ([.int .u64 0, .slice none 0 0] ++ (zl32.map B ++ (zl32.map B ++ (.bool false :: (Ent.mk 0 0 0 0).cells))))) [t] t
    [(2, .agg (arrB key)), (3, .int .u64 ep)] rfl ht rfl rfl
  have s3 := fill_one (fun i => #[(0, 1), (1, 1), (2, 32), (34, 1), (35, 1), (36, 32), (68, 32), (100, 1), (101, 4)][i]?) 2 2 [s, t] (zl32.map B) ([.int .u64 0, .slice none 0 0] ++ (zl32.map B ++ (zl32.map B ++ (.bool false :: (Ent.mk 0 0 0 0).cells)))) (key.map B) (.agg (arrB key))
    [(3, .int .u64 ep)] (by rw [List.length_map, hk]; rfl) rfl rfl (by simp [zl32, hk])
  have s4 := fill_one (fun i => #[(0, 1), (1, 1), (2, 32), (34, 1), (35, 1), (36, 32), (68, 32), (100, 1), (101, 4)][i]?) 3 34 ([s, t] ++ key.map B) [.int .u64 0] ([.slice none 0 0] ++ (zl32.map B ++ (zl32.map B ++ (.bool false :: (Ent.mk 0 0 0 0).cells)))) [.int .u64 ep] (.int .u64 ep)
    [] rfl rfl (by simp [hk]) rfl
  have z1 : (jcells (.pointer none) (.pointer none) zl32 0 (.slice none 0 0) zl32 zl32 false ⟨0, 0, 0, 0⟩) = [] ++ ([Value.pointer none] ++ ([Value.pointer none] ++ (zl32.map B ++ ([.int .u64 0, .slice none 0 0] ++ (zl32.map B ++ (zl32.map B ++ (.bool false :: (Ent.mk 0 0 0 0).cells))))))) := rfl
  have z2 : ([] ++ ([s] ++ ([Value.pointer none] ++ (zl32.map B ++ ([.int .u64 0, .slice none 0 0] ++ (zl32.map B ++ (zl32.map B ++ (.bool false :: (Ent.mk 0 0 0 0).cells)))))))) = [s] ++ ([Value.pointer none] ++ (zl32.map B ++ ([.int .u64 0, .slice none 0 0] ++ (zl32.map B ++ (zl32.map B ++ (.bool false :: (Ent.mk 0 0 0 0).cells)))))) := rfl
  have z3 : ([s] ++ ([t] ++ (zl32.map B ++ ([.int .u64 0, .slice none 0 0] ++ (zl32.map B ++ (zl32.map B ++ (.bool false :: (Ent.mk 0 0 0 0).cells))))))) = [s, t] ++ (zl32.map B ++ ([.int .u64 0, .slice none 0 0] ++ (zl32.map B ++ (zl32.map B ++ (.bool false :: (Ent.mk 0 0 0 0).cells))))) := rfl
  have z4 : [s, t] ++ (key.map B ++ ([.int .u64 0, .slice none 0 0] ++ (zl32.map B ++ (zl32.map B ++ (.bool false :: (Ent.mk 0 0 0 0).cells))))) = ([s, t] ++ key.map B) ++ ([.int .u64 0] ++ ([.slice none 0 0] ++ (zl32.map B ++ (zl32.map B ++ (.bool false :: (Ent.mk 0 0 0 0).cells))))) := by simp
  rw [z1, s1, z2, s2, z3, s3, z4, s4]
  unfold jcells
  simp [Instr.fill]

/-- One of two may come up. -/
theorem wpAnyU_two {P : Program} {md : Region.Mode} {ops : Array Oper} {Q : Exit → Act → World → Prop} {S : World → Prop} {k fuel : Nat} {listed : Array Bool} {a : Act} {w : World} (i j : Nat) (oi oj : Oper) (hr : Region.ready md ops listed = [i, j]) (hi : ops[i]? = some oi) (hj : ops[j]? = some oj)
    (h1 : ∀ K' : Act → World → Prop, Shut (∀ a w, ((listed.setIfInBounds i true).getD k true = false → S w) → wpAnyU P md ops Q S k fuel (listed.setIfInBounds i true) a w → K' a w) → if Region.wanted oi (yielded ops a.tmps) = true then Oper.wp P oi a w K' Q else K' (a.put oi.dst undef) w)
    (h2 : ∀ K' : Act → World → Prop, Shut (∀ a w, ((listed.setIfInBounds j true).getD k true = false → S w) → wpAnyU P md ops Q S k fuel (listed.setIfInBounds j true) a w → K' a w) → if Region.wanted oj (yielded ops a.tmps) = true then Oper.wp P oj a w K' Q else K' (a.put oj.dst undef) w) :
    wpAnyU P md ops Q S k (fuel + 1) listed a w := by
  refine ⟨(fun h0 => by rw [hr] at h0; cases h0), fun x hx => ?_⟩
  rw [hr] at hx
  rcases List.mem_cons.1 hx with rfl | hx
  · exact wpOp_step hi (fun K' hK => h1 K' (fun a w h1 h2 => hK a w ⟨h1, h2⟩))
  · rw [List.mem_singleton] at hx
    subst hx
    exact wpOp_step hj (fun K' hK => h2 K' (fun a w h1 h2 => hK a w ⟨h1, h2⟩))

theorem exec_build {P : Program} {o : Oper} {a : Act} (t : TypeId) (parts : Array (Nat × Operand)) (ho : o.op = .build t parts) (cells : Array Value) (hb : P.built t (parts.map fun (i, x) => (i, a.eval x)).toList = some cells) (w : World) :
    (execOp a.eval o).run P w = .ok (.value (.agg cells)) w := by
  have h := run_build (P := P) w t (parts.map fun (i, x) => (i, a.eval x)) cells hb
  unfold execOp
  simp only [ho, Sem.run_bind, h, Result.andThen_ok, Sem.run_pure]

theorem exec_build2 {P : Program} {o : Oper} {a : Act} (t : TypeId) (i j : Nat) (x y : Operand) (u v : Value) (ho : o.op = .build t #[(i, x), (j, y)]) (hx : a.eval x = u) (hy : a.eval y = v) (cells : Array Value) (hb : P.built t [(i, u), (j, v)] = some cells) (w : World) :
    (execOp a.eval o).run P w = .ok (.value (.agg cells)) w := exec_build t _ ho cells (by simpa [hx, hy] using hb) w

end Go.Proofs.YtakgnkjopbflbaaGreatDoor
