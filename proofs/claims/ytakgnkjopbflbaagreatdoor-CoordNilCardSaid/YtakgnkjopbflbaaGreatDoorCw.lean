/- The key of a journal: keys.Journal. The condition: the job's key has 32 bytes. -/
import Derived.Test.YtakgnkjopbflbaaGreatDoorCv
namespace Go.Proofs.YtakgnkjopbflbaaGreatDoor
open Go.RowKit Go.Shelf

def journalW : ByteArray := ⟨#[106, 111, 117, 114, 110, 97, 108]⟩
/-- The key of a journal. -/
def journalK (key : List UInt8) : List UInt8 := keyL [] key (strL journalW)
theorem journalK_length (key : List UInt8) : (journalK key).length = 32 := keyL_length _ _ _

set_option maxRecDepth 100000 in
set_option maxHeartbeats 2000000 in
theorem journalK_any (key : List UInt8) (w : World) (hk : key.length = 32) :
    Calls Tryz.prog 43 #[.agg (arrB key)] w fun e w' => e = .returned (.agg (arrB (journalK key))) ∧ Mod w w' Nob := by
  have m0 := ((Mod.refl w Nob).alloc (.cells (arrB key) 22)).alloc (.cells (arrB (List.replicate 32 0)) 22)
  have c1 := (CellsAt.new w (arrB key) 22).alloc (.cells (arrB (List.replicate 32 0)) 22)
  have c2 := CellsAt.new (w.alloc (.cells (arrB key) 22)) (arrB (List.replicate 32 0)) 22
  rw [World.size_alloc] at c2
  obtain ⟨cs, hcs⟩ : ∃ cs, arrB key = cs := ⟨_, rfl⟩
  rw [hcs] at m0 c1 c2 ⊢
  have HCS := Lib.hid hcs
  obtain ⟨out, ho⟩ : ∃ out, journalK key = out := ⟨_, rfl⟩
  have hol : out.length = 32 := by rw [← ho]; exact journalK_length _
  rw [ho]
  have HO := Lib.hid ho
  clear hcs ho
  go_enter Tryz.func43, Tryz.ntmps43
  go_upto_region 1 with fail
  change Code.wp _ _ _ _ ((w.alloc (.cells cs 22)).alloc (.cells (arrB (List.replicate 32 0)) 22))
  obtain ⟨W1, hW1⟩ : ∃ W1, (w.alloc (.cells cs 22)).alloc (.cells (arrB (List.replicate 32 0)) 22) = W1 := ⟨_, rfl⟩
  rw [hW1] at m0 c1 c2 ⊢
  obtain ⟨H, hH⟩ : ∃ H, w.heap.size = H := ⟨_, rfl⟩
  rw [hH] at c1 c2 ⊢
  have HH := Lib.hid hH
  have mD := (Mod.refl W1 Nob).drew
  replace m0 := m0.trans mD
  replace c1 := c1.mod mD nob
  replace c2 := c2.mod mD nob
  refine wp_no_panic ?_
  refine wp_region_any (by kernel_rfl) ?_
  change wpAny _ _ _ _ _ _ _ W1.drew
  obtain ⟨W2, hW2⟩ : ∃ W2, W1.drew = W2 := ⟨_, rfl⟩
  rw [hW2] at m0 c1 c2 ⊢
  clear mD hW1 hW2 hH
  refine wpAny_take (i := 0) (v := .slice (some ⟨H, 0, none⟩) 32 32) rfl (by kernel_rfl) (by kernel_rfl) (by kernel_rfl) (fun _ _ _ h => h) (Or.inl ⟨by rfl, fun W => by go_simp⟩) ?_
  try simp only [Act.put, List.getElem_toArray, List.getElem_cons_zero, List.setIfInBounds_toArray, List.set_cons_zero, List.set_cons_succ]
  refine wpAny_one 1 _ (by kernel_rfl) rfl (fun K' hK' => ?_)
  go_simp
  refine (info0_any journalW 0 W2 (by decide)).mono ?_
  rintro e W3 ⟨g, G, rfl, hg, hgl, hb, m1⟩
  replace m0 := m0.trans m1
  replace c1 := c1.mod m1 nob
  replace c2 := c2.mod m1 nob
  refine hK'.out _ _ ?_
  clear hK' K' m1
  have hkb : BytesAt W3 (.slice (some ⟨H, 0, none⟩) 32 32) key := bytes_block (by rw [HCS.out]; exact c1) hk (by omega)
  have hx := key_any (.slice none 0 0) (.slice (some ⟨H, 0, none⟩) 32 32) [] key (strL journalW) (some ⟨g, 0, none⟩) G W3 (BytesAt.nil _) hkb (by simp) (by omega) (by decide) hb (fun k hk2 => by
    have e2 : g = k := by simpa [inBlock, Value.ownBlock] using hk2
    omega)
  have ho2 : keyL [] key (strL journalW) = out := HO.out
  rw [ho2] at hx
  clear hkb hb ho2
  refine wpAny_one 2 _ (by kernel_rfl) rfl (fun K' hK' => ?_)
  go_simp
  refine hx.mono ?_
  rintro e W4 ⟨rfl, m2⟩
  replace m0 := m0.trans m2
  replace c2 := c2.mod m2 nob
  refine hK'.out _ _ ?_
  clear hK' K' m2 hx c1
  refine wpAny_one 3 _ (by kernel_rfl) rfl (fun K' hK' => ?_)
  refine Eq.mpr (if_pos (by rfl)) ?_
  refine wp_store_row 22 _ _ rfl (H + 1) (arrB out) rfl rfl 22 _ c2 (by rw [size_b32, arrB_size, hol]) (by rw [arrB_size, arrB_size, hol]; rfl) (arrB_one _) ?_
  refine hK'.out _ _ ?_
  clear hK' K'
  refine wpAny_done (by kernel_rfl) ?_ _
  simp only [Act.put, List.getElem_toArray, List.getElem_cons_zero, List.getElem_cons_succ]
  go_wp2_with fail
  exact bodyPost_ret (v := .agg (arrB out)) (ret_arr rfl _ _ (H + 1) 32 5 _ rfl (c2.setRow _) Tryz.underlying22 size_b32 (by rw [arrB_size, hol])) rfl ⟨rfl, m0.setRow (.inr (by have := HH.out; omega)) _⟩

end Go.Proofs.YtakgnkjopbflbaaGreatDoor
