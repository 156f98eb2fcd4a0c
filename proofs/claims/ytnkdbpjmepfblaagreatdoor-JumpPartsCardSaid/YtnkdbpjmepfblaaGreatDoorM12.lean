/- Texts of the walk and its plain law, merged: CeF, BeA, BeB, BeC, BeD. -/
import Derived.Test.YtnkdbpjmepfblaaGreatDoorM11
import Derived.Shelf.SlSortCmp.NoneTotal
/- set.Of. -/
namespace Go.Proofs.YtnkdbpjmepfblaaGreatDoor
open Go Go.RowKit

/-- The set of cells: sorted, each once. -/
def setL (L : List Ce) : List Ce := compL (sortL L)
theorem sortL_len (L : List Ce) : (sortL L).length = L.length := by unfold sortL; exact List.length_mergeSort _
theorem compact_nil (w : World) : Calls Tryz.prog 114 #[.slice none 0 0] w fun e w' => e = .returned (.slice none 0 0) ∧ w = w' := by
  go_enter Tryz.func114, Tryz.ntmps114
  go_wp2_with fail
  go_ret
  exact ⟨rfl, rfl⟩
theorem sort_nil (w : World) : Calls Tryz.prog 112 #[.slice none 0 0, .func (.func 113) #[] #[]] w fun e w' => e = .returned (.tuple #[]) ∧ w' = w :=
  AnyF.slices_SortFunc_none (P := Tryz.prog) Tryz.sortCell none 0 (.func (.func 113) #[] #[]) w
theorem Fr.drop {w w1 w2 : World} {g : Nat} (h : Fr w [] w1 []) (k : Fr w1 [g] w2 [g]) (hg : w.heap.size ≤ g) : Fr w [] w2 [] :=
  ⟨k.os.trans h.os, k.tape.trans h.tape, k.output.trans h.output, Nat.le_trans h.size k.size, fun b hb _ => by
    rw [k.keep b (Nat.lt_of_lt_of_le hb h.size) (by simp; omega)]
    exact h.keep b hb (by simp), by simp, by simp⟩
set_option maxRecDepth 100000 in
set_option maxHeartbeats 800000 in
theorem of_c {w : World} {v : Value} {L : List Ce} (h : SR w v L) (hL : L.length ≤ 5864062014805) :
    Calls Tryz.prog 51 #[v] w fun e w' => ∃ v', e = .returned v' ∧ SR w' v' (setL L) ∧ Fr w [] w' [] := by
  have hc := clone_c h hL
  have HC := Lib.hid hc
  have HL := Lib.hid hL
  clear hc hL h
  go_enter Tryz.func51, Tryz.ntmps51
  go_wp2_with fail
  refine HC.out.mono ?_
  rintro e w1 ⟨v', rfl, hrow, hF, hv⟩
  have HROW := Lib.hid hrow
  have HF := Lib.hid hF
  clear hrow hF
  rcases hv with rfl | ⟨g, cap, rfl⟩
  · have hL0 : L = [] := by
      rcases HROW.out.2 with ⟨_, h0⟩ | ⟨g, cap, cur, hv, _⟩
      · exact List.length_eq_zero_iff.1 h0
      · cases hv
    subst hL0
    go_wp2_with fail
    refine (sort_nil w1).mono ?_
    rintro e w2 ⟨rfl, rfl⟩
    go_wp2_with fail
    refine (compact_nil _).mono ?_
    rintro e w2 ⟨rfl, rfl⟩
    go_wp2_with fail
    go_ret
    exact ⟨_, rfl, .inl ⟨rfl, by simp [setL, sortL, compL]⟩, HF.out⟩
  · have hg := HROW.out.lt rfl
    go_wp2_with fail
    refine (sort_c HROW.out (by have := HL.out; omega)).mono ?_
    rintro e w2 ⟨rfl, hrow2, hF2⟩
    have HROW2 := Lib.hid hrow2
    have HF2 := Lib.hid hF2
    have hcp := compact_c hrow2
    rw [sortL_len] at hcp
    have HCP := Lib.hid hcp
    clear hrow2 hF2 hcp
    go_wp2_with fail
    refine HCP.out.mono ?_
    rintro e w3 ⟨rfl, hsr, hF3⟩
    have HSR := Lib.hid hsr
    have HF3 := Lib.hid hF3
    clear hsr hF3
    go_wp2_with fail
    go_ret
    exact ⟨_, rfl, HSR.out, HF.out.drop (HF2.out.trans HF3.out) hg.2⟩
end Go.Proofs.YtnkdbpjmepfblaaGreatDoor

/- Cells beside: corners, around. -/
namespace Go.Proofs.YtnkdbpjmepfblaaGreatDoor
open Go Go.RowKit

set_option maxRecDepth 100000 in
set_option maxHeartbeats 800000 in
theorem corners0_c (w : World) : Calls Tryz.prog 219 #[.agg #[.int .i64 0, .int .i64 0, .int .i64 0]] w fun e w' => e = .returned (.agg #[.int .i64 0, .int .i64 0, .int .i64 1, .int .i64 0, .int .i64 0, .int .i64 1]) ∧ Fr w [] w' [] := by
  have hF0 : Fr w [] ((w.alloc (.cells #[.int .i64 0, .int .i64 0, .int .i64 0] 89)).alloc (.cells #[.int .i64 0, .int .i64 0, .int .i64 0, .int .i64 0, .int .i64 0, .int .i64 0] 305)) [] := ((Fr.nil w).alloc _).alloc _
  have HF0 := Lib.hid hF0
  have hb0 : ((w.alloc (.cells #[.int .i64 0, .int .i64 0, .int .i64 0] 89)).alloc (.cells #[.int .i64 0, .int .i64 0, .int .i64 0, .int .i64 0, .int .i64 0, .int .i64 0] 305)).heap[w.heap.size]? = some (.cells #[.int .i64 0, .int .i64 0, .int .i64 0] 89) := by
    rw [Below.heap_alloc _ _ _ (by simp)]; exact heap_new _ _
  have hb1 : ((w.alloc (.cells #[.int .i64 0, .int .i64 0, .int .i64 0] 89)).alloc (.cells #[.int .i64 0, .int .i64 0, .int .i64 0, .int .i64 0, .int .i64 0, .int .i64 0] 305)).heap[w.heap.size + 1]? = some (.cells #[.int .i64 0, .int .i64 0, .int .i64 0, .int .i64 0, .int .i64 0, .int .i64 0] 305) := by
    have := heap_new (w.alloc (.cells #[.int .i64 0, .int .i64 0, .int .i64 0] 89)) (.cells #[.int .i64 0, .int .i64 0, .int .i64 0, .int .i64 0, .int .i64 0, .int .i64 0] 305)
    rw [World.size_alloc] at this
    exact this
  have HB0 := Lib.hid hb0
  have HB1 := Lib.hid hb1
  have hcw : ∀ z : CW ((w.alloc (.cells #[.int .i64 0, .int .i64 0, .int .i64 0] 89)).alloc (.cells #[.int .i64 0, .int .i64 0, .int .i64 0, .int .i64 0, .int .i64 0, .int .i64 0] 305)), z.x.heap[w.heap.size]? = some (.cells #[.int .i64 0, .int .i64 0, .int .i64 0] 89) ∧ z.x.heap[w.heap.size + 1]? = some (.cells #[.int .i64 0, .int .i64 0, .int .i64 0, .int .i64 0, .int .i64 0, .int .i64 0] 305) := fun z =>
    ⟨by rw [z.h.keep _ (by simp; omega) (by simp)]; exact HB0.out, by rw [z.h.keep _ (by simp) (by simp)]; exact HB1.out⟩
  have HCW := Lib.hid hcw
  have c0 : ∀ z : CW ((w.alloc (.cells #[.int .i64 0, .int .i64 0, .int .i64 0] 89)).alloc (.cells #[.int .i64 0, .int .i64 0, .int .i64 0, .int .i64 0, .int .i64 0, .int .i64 0] 305)), z.x.cell? ⟨w.heap.size, 0, none⟩ = some (.int .i64 0) := fun z => by rw [cell_of_heap (HCW.out z).1]; rfl
  have c1 : ∀ z : CW ((w.alloc (.cells #[.int .i64 0, .int .i64 0, .int .i64 0] 89)).alloc (.cells #[.int .i64 0, .int .i64 0, .int .i64 0, .int .i64 0, .int .i64 0, .int .i64 0] 305)), z.x.cell? ⟨w.heap.size, 1, none⟩ = some (.int .i64 0) := fun z => by rw [cell_of_heap (HCW.out z).1]; rfl
  clear hF0 hb0 hb1 hcw
  go_enter Tryz.func219, Tryz.ntmps219
  go_wp2_with fail
  refine wp_region_cw (by kernel_rfl) (by kernel_rfl) (CW ((w.alloc (.cells #[.int .i64 0, .int .i64 0, .int .i64 0] 89)).alloc (.cells #[.int .i64 0, .int .i64 0, .int .i64 0, .int .i64 0, .int .i64 0, .int .i64 0] 305))) Cls.x ⟨⟨_, (Fr.nil _).drew⟩, rfl⟩ ?_
  repeat (go_big_quiet_step (fail))
  refine wpQuiet_nil ?_
  intro z
  have c2 : z.x.cell? ⟨w.heap.size, 2, none⟩ = some (.int .i64 0) := by rw [cell_of_heap (HCW.out z).1]; rfl
  have d0 : z.x.cell? ⟨w.heap.size + 1, 0, none⟩ = some (.int .i64 0) := by rw [cell_of_heap (HCW.out z).2]; rfl
  have d1 : z.x.cell? ⟨w.heap.size + 1, 1, none⟩ = some (.int .i64 0) := by rw [cell_of_heap (HCW.out z).2]; rfl
  have d2 : z.x.cell? ⟨w.heap.size + 1, 2, none⟩ = some (.int .i64 0) := by rw [cell_of_heap (HCW.out z).2]; rfl
  have d3 : z.x.cell? ⟨w.heap.size + 1, 3, none⟩ = some (.int .i64 0) := by rw [cell_of_heap (HCW.out z).2]; rfl
  have d4 : z.x.cell? ⟨w.heap.size + 1, 4, none⟩ = some (.int .i64 0) := by rw [cell_of_heap (HCW.out z).2]; rfl
  have d5 : z.x.cell? ⟨w.heap.size + 1, 5, none⟩ = some (.int .i64 0) := by rw [cell_of_heap (HCW.out z).2]; rfl
  have hfz : ∀ k, z.x.frozen? ⟨w.heap.size + 1, k, none⟩ = false := fun k => frozen_of_row z.x _ k _ _ (HCW.out z).2
  have s0 := heap_setCell_same _ (w.heap.size + 1) 0 _ _ (.int .i64 0) (HCW.out z).2
  have s1 := heap_setCell_same _ (w.heap.size + 1) 1 _ _ (.int .i64 0) s0
  have s2 := heap_setCell_same _ (w.heap.size + 1) 2 _ _ (.int .i64 1) s1
  have s3 := heap_setCell_same _ (w.heap.size + 1) 3 _ _ (.int .i64 0) s2
  have s4 := heap_setCell_same _ (w.heap.size + 1) 4 _ _ (.int .i64 0) s3
  have s5 := heap_setCell_same _ (w.heap.size + 1) 5 _ _ (.int .i64 1) s4
  have hle : w.heap.size ≤ w.heap.size + 1 := by omega
  have HF9 := Lib.hid (((((((HF0.out.trans z.h).setCell (a := ⟨w.heap.size + 1, 0, none⟩) hle (.int .i64 0)).setCell (a := ⟨w.heap.size + 1, 1, none⟩) hle (.int .i64 0)).setCell (a := ⟨w.heap.size + 1, 2, none⟩) hle (.int .i64 1)).setCell (a := ⟨w.heap.size + 1, 3, none⟩) hle (.int .i64 0)).setCell (a := ⟨w.heap.size + 1, 4, none⟩) hle (.int .i64 0)).setCell (a := ⟨w.heap.size + 1, 5, none⟩) hle (.int .i64 1))
  have H9 := Lib.hid s5
  clear s0 s1 s2 s3 s4 s5 hle c0 c1
  go_wp2_with fail
  generalize ((((((z.x.setCell ⟨w.heap.size + 1, 0, none⟩ (.int .i64 0)).setCell ⟨w.heap.size + 1, 1, none⟩ (.int .i64 0)).setCell ⟨w.heap.size + 1, 2, none⟩ (.int .i64 1)).setCell ⟨w.heap.size + 1, 3, none⟩ (.int .i64 0)).setCell ⟨w.heap.size + 1, 4, none⟩ (.int .i64 0)).setCell ⟨w.heap.size + 1, 5, none⟩ (.int .i64 1)) = W9 at *
  have y0 : W9.cell? ⟨w.heap.size + 1, 0, none⟩ = some (.int .i64 0) := by rw [cell_of_heap H9.out]; rfl
  have y1 : W9.cell? ⟨w.heap.size + 1, 1, none⟩ = some (.int .i64 0) := by rw [cell_of_heap H9.out]; rfl
  have y2 : W9.cell? ⟨w.heap.size + 1, 2, none⟩ = some (.int .i64 1) := by rw [cell_of_heap H9.out]; rfl
  have y3 : W9.cell? ⟨w.heap.size + 1, 3, none⟩ = some (.int .i64 0) := by rw [cell_of_heap H9.out]; rfl
  have y4 : W9.cell? ⟨w.heap.size + 1, 4, none⟩ = some (.int .i64 0) := by rw [cell_of_heap H9.out]; rfl
  have y5 : W9.cell? ⟨w.heap.size + 1, 5, none⟩ = some (.int .i64 1) := by rw [cell_of_heap H9.out]; rfl
  exact bodyPost_ret (v := .agg #[.int .i64 0, .int .i64 0, .int .i64 1, .int .i64 0, .int .i64 0, .int .i64 1]) (by simp [results, Tryz.results219, go_sem, y0, y1, y2, y3, y4, y5]) rfl ⟨rfl, HF9.out⟩
set_option maxRecDepth 100000 in
set_option maxHeartbeats 800000 in
theorem corners1_c (w : World) : Calls Tryz.prog 219 #[.agg #[.int .i64 0, .int .i64 0, .int .i64 1]] w fun e w' => e = .returned (.agg #[.int .i64 1, .int .i64 0, .int .i64 0, .int .i64 1, .int .i64 1, .int .i64 1]) ∧ Fr w [] w' [] := by
  have hF0 : Fr w [] ((w.alloc (.cells #[.int .i64 0, .int .i64 0, .int .i64 1] 89)).alloc (.cells #[.int .i64 0, .int .i64 0, .int .i64 0, .int .i64 0, .int .i64 0, .int .i64 0] 305)) [] := ((Fr.nil w).alloc _).alloc _
  have HF0 := Lib.hid hF0
  have hb0 : ((w.alloc (.cells #[.int .i64 0, .int .i64 0, .int .i64 1] 89)).alloc (.cells #[.int .i64 0, .int .i64 0, .int .i64 0, .int .i64 0, .int .i64 0, .int .i64 0] 305)).heap[w.heap.size]? = some (.cells #[.int .i64 0, .int .i64 0, .int .i64 1] 89) := by
    rw [Below.heap_alloc _ _ _ (by simp)]; exact heap_new _ _
  have hb1 : ((w.alloc (.cells #[.int .i64 0, .int .i64 0, .int .i64 1] 89)).alloc (.cells #[.int .i64 0, .int .i64 0, .int .i64 0, .int .i64 0, .int .i64 0, .int .i64 0] 305)).heap[w.heap.size + 1]? = some (.cells #[.int .i64 0, .int .i64 0, .int .i64 0, .int .i64 0, .int .i64 0, .int .i64 0] 305) := by
    have := heap_new (w.alloc (.cells #[.int .i64 0, .int .i64 0, .int .i64 1] 89)) (.cells #[.int .i64 0, .int .i64 0, .int .i64 0, .int .i64 0, .int .i64 0, .int .i64 0] 305)
    rw [World.size_alloc] at this
    exact this
  have HB0 := Lib.hid hb0
  have HB1 := Lib.hid hb1
  have hcw : ∀ z : CW ((w.alloc (.cells #[.int .i64 0, .int .i64 0, .int .i64 1] 89)).alloc (.cells #[.int .i64 0, .int .i64 0, .int .i64 0, .int .i64 0, .int .i64 0, .int .i64 0] 305)), z.x.heap[w.heap.size]? = some (.cells #[.int .i64 0, .int .i64 0, .int .i64 1] 89) ∧ z.x.heap[w.heap.size + 1]? = some (.cells #[.int .i64 0, .int .i64 0, .int .i64 0, .int .i64 0, .int .i64 0, .int .i64 0] 305) := fun z =>
    ⟨by rw [z.h.keep _ (by simp; omega) (by simp)]; exact HB0.out, by rw [z.h.keep _ (by simp) (by simp)]; exact HB1.out⟩
  have HCW := Lib.hid hcw
  have c0 : ∀ z : CW ((w.alloc (.cells #[.int .i64 0, .int .i64 0, .int .i64 1] 89)).alloc (.cells #[.int .i64 0, .int .i64 0, .int .i64 0, .int .i64 0, .int .i64 0, .int .i64 0] 305)), z.x.cell? ⟨w.heap.size, 0, none⟩ = some (.int .i64 0) := fun z => by rw [cell_of_heap (HCW.out z).1]; rfl
  have c1 : ∀ z : CW ((w.alloc (.cells #[.int .i64 0, .int .i64 0, .int .i64 1] 89)).alloc (.cells #[.int .i64 0, .int .i64 0, .int .i64 0, .int .i64 0, .int .i64 0, .int .i64 0] 305)), z.x.cell? ⟨w.heap.size, 1, none⟩ = some (.int .i64 0) := fun z => by rw [cell_of_heap (HCW.out z).1]; rfl
  clear hF0 hb0 hb1 hcw
  go_enter Tryz.func219, Tryz.ntmps219
  go_wp2_with fail
  refine wp_region_cw (by kernel_rfl) (by kernel_rfl) (CW ((w.alloc (.cells #[.int .i64 0, .int .i64 0, .int .i64 1] 89)).alloc (.cells #[.int .i64 0, .int .i64 0, .int .i64 0, .int .i64 0, .int .i64 0, .int .i64 0] 305))) Cls.x ⟨⟨_, (Fr.nil _).drew⟩, rfl⟩ ?_
  repeat (go_big_quiet_step (fail))
  refine wpQuiet_nil ?_
  intro z
  have c2 : z.x.cell? ⟨w.heap.size, 2, none⟩ = some (.int .i64 1) := by rw [cell_of_heap (HCW.out z).1]; rfl
  have d0 : z.x.cell? ⟨w.heap.size + 1, 0, none⟩ = some (.int .i64 0) := by rw [cell_of_heap (HCW.out z).2]; rfl
  have d1 : z.x.cell? ⟨w.heap.size + 1, 1, none⟩ = some (.int .i64 0) := by rw [cell_of_heap (HCW.out z).2]; rfl
  have d2 : z.x.cell? ⟨w.heap.size + 1, 2, none⟩ = some (.int .i64 0) := by rw [cell_of_heap (HCW.out z).2]; rfl
  have d3 : z.x.cell? ⟨w.heap.size + 1, 3, none⟩ = some (.int .i64 0) := by rw [cell_of_heap (HCW.out z).2]; rfl
  have d4 : z.x.cell? ⟨w.heap.size + 1, 4, none⟩ = some (.int .i64 0) := by rw [cell_of_heap (HCW.out z).2]; rfl
  have d5 : z.x.cell? ⟨w.heap.size + 1, 5, none⟩ = some (.int .i64 0) := by rw [cell_of_heap (HCW.out z).2]; rfl
  have hfz : ∀ k, z.x.frozen? ⟨w.heap.size + 1, k, none⟩ = false := fun k => frozen_of_row z.x _ k _ _ (HCW.out z).2
  have s0 := heap_setCell_same _ (w.heap.size + 1) 0 _ _ (.int .i64 1) (HCW.out z).2
  have s1 := heap_setCell_same _ (w.heap.size + 1) 1 _ _ (.int .i64 0) s0
  have s2 := heap_setCell_same _ (w.heap.size + 1) 2 _ _ (.int .i64 0) s1
  have s3 := heap_setCell_same _ (w.heap.size + 1) 3 _ _ (.int .i64 1) s2
  have s4 := heap_setCell_same _ (w.heap.size + 1) 4 _ _ (.int .i64 1) s3
  have s5 := heap_setCell_same _ (w.heap.size + 1) 5 _ _ (.int .i64 1) s4
  have hle : w.heap.size ≤ w.heap.size + 1 := by omega
  have HF9 := Lib.hid (((((((HF0.out.trans z.h).setCell (a := ⟨w.heap.size + 1, 0, none⟩) hle (.int .i64 1)).setCell (a := ⟨w.heap.size + 1, 1, none⟩) hle (.int .i64 0)).setCell (a := ⟨w.heap.size + 1, 2, none⟩) hle (.int .i64 0)).setCell (a := ⟨w.heap.size + 1, 3, none⟩) hle (.int .i64 1)).setCell (a := ⟨w.heap.size + 1, 4, none⟩) hle (.int .i64 1)).setCell (a := ⟨w.heap.size + 1, 5, none⟩) hle (.int .i64 1))
  have H9 := Lib.hid s5
  clear s0 s1 s2 s3 s4 s5 hle c0 c1
  go_wp2_with fail
  generalize ((((((z.x.setCell ⟨w.heap.size + 1, 0, none⟩ (.int .i64 1)).setCell ⟨w.heap.size + 1, 1, none⟩ (.int .i64 0)).setCell ⟨w.heap.size + 1, 2, none⟩ (.int .i64 0)).setCell ⟨w.heap.size + 1, 3, none⟩ (.int .i64 1)).setCell ⟨w.heap.size + 1, 4, none⟩ (.int .i64 1)).setCell ⟨w.heap.size + 1, 5, none⟩ (.int .i64 1)) = W9 at *
  have y0 : W9.cell? ⟨w.heap.size + 1, 0, none⟩ = some (.int .i64 1) := by rw [cell_of_heap H9.out]; rfl
  have y1 : W9.cell? ⟨w.heap.size + 1, 1, none⟩ = some (.int .i64 0) := by rw [cell_of_heap H9.out]; rfl
  have y2 : W9.cell? ⟨w.heap.size + 1, 2, none⟩ = some (.int .i64 0) := by rw [cell_of_heap H9.out]; rfl
  have y3 : W9.cell? ⟨w.heap.size + 1, 3, none⟩ = some (.int .i64 1) := by rw [cell_of_heap H9.out]; rfl
  have y4 : W9.cell? ⟨w.heap.size + 1, 4, none⟩ = some (.int .i64 1) := by rw [cell_of_heap H9.out]; rfl
  have y5 : W9.cell? ⟨w.heap.size + 1, 5, none⟩ = some (.int .i64 1) := by rw [cell_of_heap H9.out]; rfl
  exact bodyPost_ret (v := .agg #[.int .i64 1, .int .i64 0, .int .i64 0, .int .i64 1, .int .i64 1, .int .i64 1]) (by simp [results, Tryz.results219, go_sem, y0, y1, y2, y3, y4, y5]) rfl ⟨rfl, HF9.out⟩
def upP : Nat → Int × Int | 0 => (0, 0) | 1 => (-1, 0) | _ => (0, -1)
def downP : Nat → Int × Int | 0 => (-1, 0) | 1 => (0, -1) | _ => (-1, -1)
def aroundN (p : Int × Int) (i : Nat) : List Ce := [⟨p.1 + (upP i).1, p.2 + (upP i).2, 0⟩, ⟨p.1 + (downP i).1, p.2 + (downP i).2, 1⟩]
def aroundL (p : Int × Int) (n : Nat) : List Ce := (List.range n).flatMap (aroundN p)
/-- The memory of around. -/
structure AM (w : World) (p : Int × Int) (wr : World) : Prop where
  fr : Fr w [] wr []
  sz : w.heap.size + 1 + 1 < wr.heap.size
  hp : wr.heap[w.heap.size]? = some (.cells #[.int .i64 p.1, .int .i64 p.2] 65)
  hu : wr.heap[w.heap.size + 1]? = some (.cells #[.int .i64 0, .int .i64 0, .int .i64 (-1), .int .i64 0, .int .i64 0, .int .i64 (-1)] 65)
  hd : wr.heap[w.heap.size + 1 + 1]? = some (.cells #[.int .i64 (-1), .int .i64 0, .int .i64 0, .int .i64 (-1), .int .i64 (-1), .int .i64 (-1)] 65)
theorem AM.ext {w wr wz : World} {p : Int × Int} (h : AM w p wr) (hf : Fr wr [] wz []) : AM w p wz :=
  ⟨h.fr.trans hf, Nat.lt_of_lt_of_le h.sz hf.size, by rw [hf.keep _ (by have := h.sz; omega) (by simp)]; exact h.hp, by rw [hf.keep _ (by have := h.sz; omega) (by simp)]; exact h.hu, by rw [hf.keep _ h.sz (by simp)]; exact h.hd⟩
theorem AM.new (w : World) (p : Int × Int) : AM w p (((w.alloc (.cells #[.int .i64 p.1, .int .i64 p.2] 65)).alloc (.cells #[.int .i64 0, .int .i64 0, .int .i64 (-1), .int .i64 0, .int .i64 0, .int .i64 (-1)] 65)).alloc (.cells #[.int .i64 (-1), .int .i64 0, .int .i64 0, .int .i64 (-1), .int .i64 (-1), .int .i64 (-1)] 65)) := by
  refine ⟨(((Fr.nil w).alloc _).alloc _).alloc _, by simp, ?_, ?_, ?_⟩
  · rw [Below.heap_alloc _ _ _ (by simp; omega), Below.heap_alloc _ _ _ (by simp)]; exact heap_new _ _
  · rw [Below.heap_alloc _ _ _ (by simp)]
    have := heap_new (w.alloc (.cells #[.int .i64 p.1, .int .i64 p.2] 65)) (.cells #[.int .i64 0, .int .i64 0, .int .i64 (-1), .int .i64 0, .int .i64 0, .int .i64 (-1)] 65)
    rw [World.size_alloc] at this
    exact this
  · have := heap_new ((w.alloc (.cells #[.int .i64 p.1, .int .i64 p.2] 65)).alloc (.cells #[.int .i64 0, .int .i64 0, .int .i64 (-1), .int .i64 0, .int .i64 0, .int .i64 (-1)] 65)) (.cells #[.int .i64 (-1), .int .i64 0, .int .i64 0, .int .i64 (-1), .int .i64 (-1), .int .i64 (-1)] 65)
    rw [World.size_alloc, World.size_alloc] at this
    exact this
theorem AM.grown {w wA w' : World} {p : Int × Int} {row : Option Nat} (h : AM w p wA) (hg : wA.grownBy w' row) (hr : ∀ k, row = some k → w.heap.size + 3 ≤ k) : AM w p w' :=
  ⟨h.fr.grown' hg (fun k hk => by have := hr k hk; omega), Nat.lt_of_lt_of_le h.sz hg.size,
    by rw [hg.block _ (by have := h.sz; omega) (fun e => by have := hr _ e.symm; omega)]; exact h.hp,
    by rw [hg.block _ (by have := h.sz; omega) (fun e => by have := hr _ e.symm; omega)]; exact h.hu,
    by rw [hg.block _ h.sz (fun e => by have := hr _ e.symm; omega)]; exact h.hd⟩
theorem CeRow.weak {w : World} {base base' : Nat} {e : TypeId} {v : Value} {L : List Ce} (h : CeRow w base e v L) (hb : base' ≤ base) : CeRow w base' e v L := by
  refine ⟨h.1, ?_⟩
  rcases h.2 with h1 | ⟨g, cap, cur, h1, h2, h3⟩
  · exact .inl h1
  · exact .inr ⟨g, cap, cur, h1, Nat.le_trans hb h2, h3⟩
def pt3 (f : Nat → Int × Int) : Array Value := #[.int .i64 (f 0).1, .int .i64 (f 0).2, .int .i64 (f 1).1, .int .i64 (f 1).2, .int .i64 (f 2).1, .int .i64 (f 2).2]
theorem pt3_get (f : Nat → Int × Int) (i : Nat) (hi : i < 3) : (pt3 f)[i * 2]? = some (.int .i64 (f i).1) ∧ (pt3 f)[i * 2 + 1]? = some (.int .i64 (f i).2) := by
  have hc : i = 0 ∨ i = 1 ∨ i = 2 := by omega
  rcases hc with rfl | rfl | rfl <;> exact ⟨rfl, rfl⟩
theorem aroundL_succ (p : Int × Int) (i : Nat) : aroundL p (i + 1) = aroundL p i ++ aroundN p i := by
  unfold aroundL
  rw [List.range_succ, List.flatMap_append]
  simp
theorem aroundL_len (p : Int × Int) (i : Nat) : (aroundL p i).length = 2 * i := by
  induction i with
  | zero => rfl
  | succ i ih => rw [aroundL_succ, List.length_append, ih]; simp [aroundN]; omega
theorem upP_small (i : Nat) : -1 ≤ (upP i).1 ∧ (upP i).1 ≤ 0 ∧ -1 ≤ (upP i).2 ∧ (upP i).2 ≤ 0 := by
  match i with
  | 0 => decide
  | 1 => decide
  | _ + 2 => simp only [upP]; decide
theorem downP_small (i : Nat) : -1 ≤ (downP i).1 ∧ (downP i).1 ≤ 0 ∧ -1 ≤ (downP i).2 ∧ (downP i).2 ≤ 0 := by
  match i with
  | 0 => decide
  | 1 => decide
  | _ + 2 => simp only [downP]; decide
set_option maxRecDepth 100000 in
set_option maxHeartbeats 1600000 in
theorem around6_c (w : World) (p : Int × Int) (h1 : -10 < p.1) (h2 : p.1 < 10) (h3 : -10 < p.2) (h4 : p.2 < 10) :
    Calls Tryz.prog 220 #[.agg #[.int .i64 p.1, .int .i64 p.2]] w fun e w' => ∃ v, e = .returned v ∧ CeRow w' w.heap.size 89 v (aroundL p 3) ∧ Fr w [] w' [] := by
  have HM0 := Lib.hid (AM.new w p)
  obtain ⟨i0, hi0, hz0, hz1, hz2⟩ := info_parts info89
  have HI0 := Lib.hid hi0
  have HI1 := Lib.hid hz0
  have HI2 := Lib.hid hz1
  have HI3 := Lib.hid hz2
  clear hi0 hz0 hz1 hz2
  go_enter Tryz.func220, Tryz.ntmps220
  go_wp2_with fail
  go_loopw [5, 17] (fun v5 v6 wr => ∃ i : Nat, i ≤ 3 ∧ v6 = .int .i64 i ∧ CeRow wr (w.heap.size + 3) 89 v5 (aroundL p i) ∧ AM w p wr) (fun _ v _ => 3 - (intOf v).toNat)
  case atStart => exact ⟨0, by omega, rfl, ⟨rfl, .inl ⟨rfl, rfl⟩⟩, HM0.out⟩
  case round =>
    clear HM0
    obtain ⟨i, hi, rfl, hrow, hM⟩ := hrel
    obtain ⟨W0, rfl⟩ : ∃ W0, W0 = wr := ⟨_, rfl⟩
    have HROW := Lib.hid hrow
    have HM := Lib.hid hM
    clear hrow hM
    by_cases hi3 : i < 3
    · have hi3i : (i : Int) < 3 := by omega
      have hMz : ∀ z : CW W0, AM w p z.x := fun z => HM.out.ext z.h
      have HMZ := Lib.hid hMz
      have c0 : ∀ z : CW W0, z.x.cell? ⟨w.heap.size, 0, none⟩ = some (.int .i64 p.1) := fun z => by rw [cell_of_heap (HMZ.out z).hp]; rfl
      have c1 : ∀ z : CW W0, z.x.cell? ⟨w.heap.size, 1, none⟩ = some (.int .i64 p.2) := fun z => by rw [cell_of_heap (HMZ.out z).hp]; rfl
      have e0 : ∀ z : CW W0, z.x.cell? ⟨w.heap.size + 1, i * 2, none⟩ = some (.int .i64 (upP i).1) := fun z => by rw [cell_of_heap (HMZ.out z).hu]; exact (pt3_get upP i hi3).1
      have e1 : ∀ z : CW W0, z.x.cell? ⟨w.heap.size + 1, i * 2 + 1, none⟩ = some (.int .i64 (upP i).2) := fun z => by rw [cell_of_heap (HMZ.out z).hu]; exact (pt3_get upP i hi3).2
      have f0 : ∀ z : CW W0, z.x.cell? ⟨w.heap.size + 1 + 1, i * 2, none⟩ = some (.int .i64 (downP i).1) := fun z => by rw [cell_of_heap (HMZ.out z).hd]; exact (pt3_get downP i hi3).1
      have f1 : ∀ z : CW W0, z.x.cell? ⟨w.heap.size + 1 + 1, i * 2 + 1, none⟩ = some (.int .i64 (downP i).2) := fun z => by rw [cell_of_heap (HMZ.out z).hd]; exact (pt3_get downP i hi3).2
      have hu := upP_small i
      have hd := downP_small i
      obtain ⟨ux, hux⟩ : ∃ ux, ux = (upP i).1 := ⟨_, rfl⟩
      obtain ⟨uy, huy⟩ : ∃ uy, uy = (upP i).2 := ⟨_, rfl⟩
      obtain ⟨dx, hdx⟩ : ∃ dx, dx = (downP i).1 := ⟨_, rfl⟩
      obtain ⟨dy, hdy⟩ : ∃ dy, dy = (downP i).2 := ⟨_, rfl⟩
      rw [← hux, ← huy] at hu
      rw [← hdx, ← hdy] at hd
      rw [← hux] at e0
      rw [← huy] at e1
      rw [← hdx] at f0
      rw [← hdy] at f1
      have hN : aroundN p i = [⟨p.1 + ux, p.2 + uy, 0⟩, ⟨p.1 + dx, p.2 + dy, 1⟩] := by unfold aroundN; rw [hux, huy, hdx, hdy]
      have HN := Lib.hid hN
      have q1 : IntKind.i64.wrap (p.1 + ux) = p.1 + ux := by rw [IntKind.wrap_i64]; omega
      have q2 : IntKind.i64.wrap (p.2 + uy) = p.2 + uy := by rw [IntKind.wrap_i64]; omega
      have q3 : IntKind.i64.wrap (p.1 + dx) = p.1 + dx := by rw [IntKind.wrap_i64]; omega
      have q4 : IntKind.i64.wrap (p.2 + dy) = p.2 + dy := by rw [IntKind.wrap_i64]; omega
      have hrow2 := HROW.out.ext (((Fr.nil W0).alloc (.cells #[.int .i64 (p.1 + ux), .int .i64 (p.2 + uy), .int .i64 0, .int .i64 (p.1 + dx), .int .i64 (p.2 + dy), .int .i64 1] 89)).drew)
      have HROW2 := Lib.hid hrow2
      have HNEW := Lib.hid (show (W0.alloc (.cells #[.int .i64 (p.1 + ux), .int .i64 (p.2 + uy), .int .i64 0, .int .i64 (p.1 + dx), .int .i64 (p.2 + dy), .int .i64 1] 89)).drew.heap[W0.heap.size]? = some (.cells #[.int .i64 (p.1 + ux), .int .i64 (p.2 + uy), .int .i64 0, .int .i64 (p.1 + dx), .int .i64 (p.2 + dy), .int .i64 1] 89) from heap_new W0 (.cells #[.int .i64 (p.1 + ux), .int .i64 (p.2 + uy), .int .i64 0, .int .i64 (p.1 + dx), .int .i64 (p.2 + dy), .int .i64 1] 89))
      have HF1 := Lib.hid (HM.out.ext ((Fr.nil W0).alloc (.cells #[.int .i64 (p.1 + ux), .int .i64 (p.2 + uy), .int .i64 0, .int .i64 (p.1 + dx), .int .i64 (p.2 + dy), .int .i64 1] 89)).drew)
      have HML := Lib.hid (aroundL_len p i)
      clear hMz hux huy hdx hdy hN hu hd hrow2
      go_wp2_with fail
      refine wp_region_mixed 1 38 [37] (by kernel_rfl) (by kernel_rfl) (fun _ _ d _ _ h => by cases d <;> exact h) (CW W0) Cls.x ⟨_, (Fr.nil W0).drew⟩ rfl ?_
      simp only [List.take_succ_cons, List.take_zero, List.drop_succ_cons, List.drop_zero, moved]
      repeat (refine wpStillC_step (by decide) (fun K hK => ?_); go_simp; (try simp only [c0, c1, e0, e1, f0, f1, q1, q2, q3, q4]); (try go_simp); refine hK _ ?_; clear hK K)
      refine wpStillC_forced (by decide) ⟨⟨_, (Fr.nil W0).drew⟩, rfl⟩ ?_
      go_wp2_with fail
      refine ⟨⟨⟨_, ((Fr.nil W0).alloc _).drew⟩, rfl⟩, wpStillC_nil ⟨⟨⟨_, ((Fr.nil W0).alloc _).drew⟩, rfl⟩, ?_⟩⟩
      clear c0 c1 e0 e1 f0 f1
      refine wpList_append_own _ rfl (.tmp 20) (.tmp 57) 30 rfl (w.heap.size + 3) 89 i0 _ 3 24 Tryz.underlying30 HI0.out HI1.out HI2.out HI3.out rfl (by decide) _ _ _ rfl HROW2.out ⟨W0.heap.size, 0, none⟩ 2 2 (cflat (aroundN p i)) rfl (by rw [HN.out]; rfl) ?c2 ?c1 ?c3 ?c4 ?c5 ?_
      case c2 =>
        intro t u ht
        rw [HN.out] at ht
        rw [addr_add, cell_of_heap HNEW.out]
        have : t = 0 ∨ t = 1 ∨ t = 2 ∨ t = 3 ∨ t = 4 ∨ t = 5 := by have := (List.getElem?_eq_some_iff.1 ht).1; simp [cflat, Ce.cells] at this; omega
        rcases this with rfl | rfl | rfl | rfl | rfl | rfl <;> exact ht
      case c1 => intro u hu; rw [HN.out] at hu; simp only [cflat, Ce.cells, List.flatMap_cons, List.flatMap_nil, List.append_nil, List.cons_append, List.nil_append, List.mem_cons, List.not_mem_nil, or_false] at hu; rcases hu with rfl | rfl | rfl | rfl | rfl | rfl <;> rfl
      case c3 => rw [HML.out]; unfold maxLen; omega
      case c4 => rw [HML.out]; omega
      case c5 => have := HF1.out.sz; omega
      intro v' w' hown' hgr hnil
      have hrow3 : CeRow w' (w.heap.size + 3) 89 v' (aroundL p (i + 1)) := by
        rw [aroundL_succ]
        unfold CeRow
        rw [List.length_append, cflat_append]
        exact hown'
      have hM3 : AM w p w' := HF1.out.grown hgr (fun k hk => (HROW2.out.lt hk).2)
      have HROW3 := Lib.hid hrow3
      have HM3 := Lib.hid hM3
      clear hown' hgr hnil hrow3 hM3
      go_wp2_with fail
      refine ⟨⟨i + 1, by omega, by go_num, HROW3.out, HM3.out⟩, by simp only [intOf]; omega⟩
    · have hi3' : i = 3 := by omega
      subst hi3'
      go_wp2_with fail
      go_ret
      exact ⟨_, rfl, HROW.out.weak (by omega), HM.out.fr⟩
end Go.Proofs.YtnkdbpjmepfblaaGreatDoor

/- Cells beside: near. -/
namespace Go.Proofs.YtnkdbpjmepfblaaGreatDoor
open Go Go.RowKit

def nearP (s : Int) : Nat → Int × Int | 0 => (0, 0) | 1 => (s, 0) | _ => (0, s)
def near2L (h : Int) (n : Nat) : List Ce := (List.range n).map fun i => ⟨(nearP (2 * h - 1) i).1, (nearP (2 * h - 1) i).2, 1 - h⟩
theorem near2L_succ (h : Int) (i : Nat) : near2L h (i + 1) = near2L h i ++ [⟨(nearP (2 * h - 1) i).1, (nearP (2 * h - 1) i).2, 1 - h⟩] := by
  unfold near2L
  rw [List.range_succ, List.map_append]
  rfl
theorem near2L_len (h : Int) (i : Nat) : (near2L h i).length = i := by unfold near2L; simp
theorem nearP_small (s : Int) (h1 : -1 ≤ s) (h2 : s ≤ 1) (i : Nat) : -1 ≤ (nearP s i).1 ∧ (nearP s i).1 ≤ 1 ∧ -1 ≤ (nearP s i).2 ∧ (nearP s i).2 ≤ 1 := by
  match i with
  | 0 => exact ⟨by simp [nearP], by simp [nearP], by simp [nearP], by simp [nearP]⟩
  | 1 => exact ⟨h1, h2, by simp [nearP], by simp [nearP]⟩
  | _ + 2 => exact ⟨by simp [nearP], by simp [nearP], h1, h2⟩
/-- The memory of near: the cell, and the row of steps. -/
structure NR (w : World) (h : Int) (wr : World) : Prop where
  fr : Fr w [] wr []
  sz : w.heap.size + 1 < wr.heap.size
  hc : wr.heap[w.heap.size]? = some (.cells #[.int .i64 0, .int .i64 0, .int .i64 h] 89)
  hs : wr.heap[w.heap.size + 1]? = some (.cells (pt3 (nearP (2 * h - 1))) 65)
theorem NR.ext {w wr wz : World} {h : Int} (hn : NR w h wr) (hf : Fr wr [] wz []) : NR w h wz :=
  ⟨hn.fr.trans hf, Nat.lt_of_lt_of_le hn.sz hf.size, by rw [hf.keep _ (by have := hn.sz; omega) (by simp)]; exact hn.hc, by rw [hf.keep _ hn.sz (by simp)]; exact hn.hs⟩
theorem NR.grown {w wA w' : World} {h : Int} {row : Option Nat} (hn : NR w h wA) (hg : wA.grownBy w' row) (hr : ∀ k, row = some k → w.heap.size + 2 ≤ k) : NR w h w' :=
  ⟨hn.fr.grown' hg (fun k hk => by have := hr k hk; omega), Nat.lt_of_lt_of_le hn.sz hg.size,
    by rw [hg.block _ (by have := hn.sz; omega) (fun e => by have := hr _ e.symm; omega)]; exact hn.hc,
    by rw [hg.block _ hn.sz (fun e => by have := hr _ e.symm; omega)]; exact hn.hs⟩
theorem NR.new (w : World) (h : Int) : NR w h ((w.alloc (.cells #[.int .i64 0, .int .i64 0, .int .i64 h] 89)).alloc (.cells (pt3 (nearP (2 * h - 1))) 65)) := by
  refine ⟨((Fr.nil w).alloc _).alloc _, by simp, ?_, ?_⟩
  · rw [Below.heap_alloc _ _ _ (by simp)]; exact heap_new _ _
  · have := heap_new (w.alloc (.cells #[.int .i64 0, .int .i64 0, .int .i64 h] 89)) (.cells (pt3 (nearP (2 * h - 1))) 65)
    rw [World.size_alloc] at this
    exact this
set_option maxRecDepth 100000 in
set_option maxHeartbeats 1600000 in
theorem near2_c (w : World) (h : Int) (h0 : 0 ≤ h) (h1 : h ≤ 1) :
    Calls Tryz.prog 183 #[.int .i64 2, .agg #[.int .i64 0, .int .i64 0, .int .i64 h]] w fun e w' => ∃ v, e = .returned v ∧ CeRow w' w.heap.size 89 v (near2L h 3) ∧ Fr w [] w' [] := by
  have HM0 := Lib.hid (NR.new w h)
  obtain ⟨i0, hi0, hz0, hz1, hz2⟩ := info_parts info89
  have HI0 := Lib.hid hi0
  have HI1 := Lib.hid hz0
  have HI2 := Lib.hid hz1
  have HI3 := Lib.hid hz2
  have hc0 : (w.alloc (.cells #[.int .i64 0, .int .i64 0, .int .i64 h] 89)).cell? ⟨w.heap.size, 2, none⟩ = some (.int .i64 h) := by rw [cell_of_heap (heap_new _ _)]; rfl
  have q1 : IntKind.i64.wrap (2 * h) = 2 * h := by rw [IntKind.wrap_i64]; omega
  have q2 : IntKind.i64.wrap (2 * h - 1) = 2 * h - 1 := by rw [IntKind.wrap_i64]; omega
  have q3 : IntKind.i64.wrap (1 - h) = 1 - h := by rw [IntKind.wrap_i64]; omega
  clear hi0 hz0 hz1 hz2
  go_enter Tryz.func183, Tryz.ntmps183
  go_wp2_with fail
  go_loopw [5, 61] (fun v5 v6 wr => ∃ i : Nat, i ≤ 3 ∧ v6 = .int .i64 i ∧ CeRow wr (w.heap.size + 2) 89 v5 (near2L h i) ∧ NR w h wr) (fun _ v _ => 3 - (intOf v).toNat)
  case atStart => exact ⟨0, by omega, rfl, ⟨rfl, .inl ⟨rfl, rfl⟩⟩, HM0.out⟩
  case round =>
    clear HM0 hc0
    obtain ⟨i, hi, rfl, hrow, hM⟩ := hrel
    obtain ⟨W0, rfl⟩ : ∃ W0, W0 = wr := ⟨_, rfl⟩
    have HROW := Lib.hid hrow
    have HM := Lib.hid hM
    clear hrow hM
    by_cases hi3 : i < 3
    · have hi3i : (i : Int) < 3 := by omega
      have hd := nearP_small (2 * h - 1) (by omega) (by omega) i
      obtain ⟨ux, hux⟩ : ∃ ux, ux = (nearP (2 * h - 1) i).1 := ⟨_, rfl⟩
      obtain ⟨uy, huy⟩ : ∃ uy, uy = (nearP (2 * h - 1) i).2 := ⟨_, rfl⟩
      have e0 : W0.cell? ⟨w.heap.size + 1, i * 2, none⟩ = some (.int .i64 ux) := by rw [cell_of_heap HM.out.hs, hux]; exact (pt3_get _ i hi3).1
      have e1 : W0.cell? ⟨w.heap.size + 1, i * 2 + 1, none⟩ = some (.int .i64 uy) := by rw [cell_of_heap HM.out.hs, huy]; exact (pt3_get _ i hi3).2
      rw [← hux, ← huy] at hd
      have hN : near2L h (i + 1) = near2L h i ++ [⟨ux, uy, 1 - h⟩] := by rw [near2L_succ, hux, huy]
      have HN := Lib.hid hN
      have q5 : IntKind.i64.wrap (0 + ux) = ux := by rw [IntKind.wrap_i64]; omega
      have q6 : IntKind.i64.wrap (0 + uy) = uy := by rw [IntKind.wrap_i64]; omega
      have q7 : IntKind.i64.wrap ux = ux := by rw [IntKind.wrap_i64]; omega
      have q8 : IntKind.i64.wrap uy = uy := by rw [IntKind.wrap_i64]; omega
      clear hux huy hN hd
      have HM1 := Lib.hid (HM.out.ext ((Fr.nil W0).alloc (.cells #[.int .i64 ux, .int .i64 uy] 65)))
      have c0 : (W0.alloc (.cells #[.int .i64 ux, .int .i64 uy] 65)).cell? ⟨w.heap.size, 0, none⟩ = some (.int .i64 0) := by rw [cell_of_heap HM1.out.hc]; rfl
      have c1 : (W0.alloc (.cells #[.int .i64 ux, .int .i64 uy] 65)).cell? ⟨w.heap.size, 1, none⟩ = some (.int .i64 0) := by rw [cell_of_heap HM1.out.hc]; rfl
      have c2 : (W0.alloc (.cells #[.int .i64 ux, .int .i64 uy] 65)).cell? ⟨w.heap.size, 2, none⟩ = some (.int .i64 h) := by rw [cell_of_heap HM1.out.hc]; rfl
      have d0 : (W0.alloc (.cells #[.int .i64 ux, .int .i64 uy] 65)).cell? ⟨W0.heap.size, 0, none⟩ = some (.int .i64 ux) := by rw [cell_of_heap (heap_new _ _)]; rfl
      have d1 : (W0.alloc (.cells #[.int .i64 ux, .int .i64 uy] 65)).cell? ⟨W0.heap.size, 1, none⟩ = some (.int .i64 uy) := by rw [cell_of_heap (heap_new _ _)]; rfl
      have hfa := (Fr.nil (W0.alloc (.cells #[.int .i64 ux, .int .i64 uy] 65))).alloc (.cells #[.int .i64 ux, .int .i64 uy, .int .i64 (1 - h)] 89)
      have HROW2 := Lib.hid ((HROW.out.ext ((Fr.nil W0).alloc (.cells #[.int .i64 ux, .int .i64 uy] 65))).ext hfa)
      have HM2 := Lib.hid (HM1.out.ext hfa)
      have HNEW := Lib.hid (heap_new (W0.alloc (.cells #[.int .i64 ux, .int .i64 uy] 65)) (.cells #[.int .i64 ux, .int .i64 uy, .int .i64 (1 - h)] 89))
      have HML := Lib.hid (near2L_len h i)
      clear hfa
      go_wp2_with (at_builtin; refine wpList_append_own _ rfl (.tmp 65) (.tmp 83) 30 rfl (w.heap.size + 2) 89 i0 _ 3 24 Tryz.underlying30 HI0.out HI1.out HI2.out HI3.out rfl (by decide) _ _ _ rfl HROW2.out ⟨W0.heap.size + 1, 0, none⟩ 1 1 (Ce.cells ⟨ux, uy, 1 - h⟩) rfl rfl ?c2 ?c1 ?c3 ?c4 ?c5 ?_)
      case c2 =>
        intro t u ht
        have hnn := HNEW.out
        rw [World.size_alloc] at hnn
        rw [addr_add, cell_of_heap hnn]
        have : t = 0 ∨ t = 1 ∨ t = 2 := by have := (List.getElem?_eq_some_iff.1 ht).1; simp [Ce.cells] at this; omega
        rcases this with rfl | rfl | rfl <;> exact ht
      case c1 => intro u hu; simp only [Ce.cells, List.mem_cons, List.not_mem_nil, or_false] at hu; rcases hu with rfl | rfl | rfl <;> rfl
      case c3 => rw [HML.out]; unfold maxLen; omega
      case c4 => rw [HML.out]; omega
      case c5 => have := HM2.out.sz; omega
      intro v' w' hown' hgr hnil
      have hrow3 : CeRow w' (w.heap.size + 2) 89 v' (near2L h (i + 1)) := by
        rw [HN.out]
        unfold CeRow
        rw [List.length_append, HML.out, cflat_append]
        rw [HML.out] at hown'
        exact hown'
      have HM3 := Lib.hid (HM2.out.grown hgr (fun k hk => (HROW2.out.lt hk).2))
      have HROW3 := Lib.hid hrow3
      clear hown' hgr hnil hrow3 c0 c1 c2 d0 d1 e0 e1
      go_wp2_with fail
      refine ⟨⟨i + 1, by omega, by go_num, HROW3.out, HM3.out⟩, by simp only [intOf]; omega⟩
    · have hi3' : i = 3 := by omega
      subst hi3'
      go_wp2_with fail
      go_ret
      exact ⟨_, rfl, HROW.out.weak (by omega), HM.out.fr⟩
end Go.Proofs.YtnkdbpjmepfblaaGreatDoor

/- Cells beside: near, over points. -/
namespace Go.Proofs.YtnkdbpjmepfblaaGreatDoor
open Go Go.RowKit

def cornerP (h : Int) : Nat → Int × Int | 0 => (h, 0) | 1 => (1 - h, h) | _ => (h, 1)
theorem cornerP_small (h : Int) (h1 : 0 ≤ h) (h2 : h ≤ 1) (i : Nat) : 0 ≤ (cornerP h i).1 ∧ (cornerP h i).1 ≤ 1 ∧ 0 ≤ (cornerP h i).2 ∧ (cornerP h i).2 ≤ 1 := by
  match i with
  | 0 => exact ⟨h1, h2, by simp [cornerP], by simp [cornerP]⟩
  | 1 => exact ⟨by simp [cornerP]; omega, by simp [cornerP]; omega, h1, h2⟩
  | _ + 2 => exact ⟨h1, h2, by simp [cornerP], by simp [cornerP]⟩
theorem corners_c (w : World) (h : Int) (h0 : 0 ≤ h) (h1 : h ≤ 1) : Calls Tryz.prog 219 #[.agg #[.int .i64 0, .int .i64 0, .int .i64 h]] w fun e w' => e = .returned (.agg (pt3 (cornerP h))) ∧ Fr w [] w' [] := by
  have hc : h = 0 ∨ h = 1 := by omega
  rcases hc with rfl | rfl
  · exact corners0_c w
  · exact corners1_c w
def near3L (h : Int) (n : Nat) : List Ce := (List.range n).flatMap fun i => aroundL (cornerP h i) 3
theorem near3L_succ (h : Int) (i : Nat) : near3L h (i + 1) = near3L h i ++ aroundL (cornerP h i) 3 := by
  unfold near3L
  rw [List.range_succ, List.flatMap_append]
  simp
theorem near3L_len (h : Int) (i : Nat) : (near3L h i).length = 6 * i := by
  induction i with
  | zero => rfl
  | succ i ih => rw [near3L_succ, List.length_append, ih, aroundL_len]; omega
theorem run_index3 (f : Nat → Int × Int) (i : Nat) (hi : i < 3) (w : World) : (Instr.index 305 (.agg (pt3 f)) (.int .i64 i)).run Tryz.prog w = .ok (.agg #[.int .i64 (f i).1, .int .i64 (f i).2]) w := by
  have hc : i = 0 ∨ i = 1 ∨ i = 2 := by omega
  rcases hc with rfl | rfl | rfl <;> simp [Instr.index, pt3, go_sem]
set_option maxRecDepth 100000 in
set_option maxHeartbeats 1600000 in
theorem near3_c (w : World) (h : Int) (h0 : 0 ≤ h) (h1 : h ≤ 1) :
    Calls Tryz.prog 183 #[.int .i64 3, .agg #[.int .i64 0, .int .i64 0, .int .i64 h]] w fun e w' => ∃ v, e = .returned v ∧ CeRow w' w.heap.size 89 v (near3L h 3) ∧ Fr w [] w' [] := by
  have HFA := Lib.hid ((Fr.nil w).alloc (.cells #[.int .i64 0, .int .i64 0, .int .i64 h] 89))
  obtain ⟨i0, hi0, hz0, hz1, hz2⟩ := info_parts info89
  have HI0 := Lib.hid hi0
  have HI1 := Lib.hid hz0
  have HI2 := Lib.hid hz1
  have HI3 := Lib.hid hz2
  have c0 : (w.alloc (.cells #[.int .i64 0, .int .i64 0, .int .i64 h] 89)).cell? ⟨w.heap.size, 0, none⟩ = some (.int .i64 0) := by rw [cell_of_heap (heap_new _ _)]; rfl
  have c1 : (w.alloc (.cells #[.int .i64 0, .int .i64 0, .int .i64 h] 89)).cell? ⟨w.heap.size, 1, none⟩ = some (.int .i64 0) := by rw [cell_of_heap (heap_new _ _)]; rfl
  have c2 : (w.alloc (.cells #[.int .i64 0, .int .i64 0, .int .i64 h] 89)).cell? ⟨w.heap.size, 2, none⟩ = some (.int .i64 h) := by rw [cell_of_heap (heap_new _ _)]; rfl
  have HCO := Lib.hid (corners_c (w.alloc (.cells #[.int .i64 0, .int .i64 0, .int .i64 h] 89)) h h0 h1)
  clear hi0 hz0 hz1 hz2
  go_enter Tryz.func183, Tryz.ntmps183
  go_wp2_with fail
  refine (HCO.out).mono ?_
  rintro e w1 ⟨rfl, hf1⟩
  have HF1 := Lib.hid (HFA.out.trans hf1)
  clear hf1 c0 c1 c2
  go_wp2_with fail
  go_loopw [5, 16] (fun v5 v6 wr => ∃ i : Nat, i ≤ 3 ∧ v6 = .int .i64 i ∧ CeRow wr w.heap.size 89 v5 (near3L h i) ∧ Fr w [] wr []) (fun _ v _ => 3 - (intOf v).toNat)
  case atStart => exact ⟨0, by omega, rfl, ⟨rfl, .inl ⟨rfl, rfl⟩⟩, HF1.out⟩
  case round =>
    clear HF1 HFA
    obtain ⟨i, hi, rfl, hrow, hF⟩ := hrel
    obtain ⟨W0, rfl⟩ : ∃ W0, W0 = wr := ⟨_, rfl⟩
    have HROW := Lib.hid hrow
    have HF := Lib.hid hF
    clear hrow hF
    by_cases hi3 : i < 3
    · have hi3i : (i : Int) < 3 := by omega
      have hd := cornerP_small h h0 h1 i
      have hix := run_index3 (cornerP h) i hi3 W0
      obtain ⟨ux, hux⟩ : ∃ ux, ux = (cornerP h i).1 := ⟨_, rfl⟩
      obtain ⟨uy, huy⟩ : ∃ uy, uy = (cornerP h i).2 := ⟨_, rfl⟩
      rw [← hux, ← huy] at hix hd
      have HN := Lib.hid (show near3L h (i + 1) = near3L h i ++ aroundL (ux, uy) 3 by rw [near3L_succ, hux, huy])
      have HML := Lib.hid (near3L_len h i)
      have HAL := Lib.hid (aroundL_len (ux, uy) 3)
      have d0 : (W0.alloc (.cells #[.int .i64 ux, .int .i64 uy] 65)).cell? ⟨W0.heap.size, 0, none⟩ = some (.int .i64 ux) := by rw [cell_of_heap (heap_new _ _)]; rfl
      have d1 : (W0.alloc (.cells #[.int .i64 ux, .int .i64 uy] 65)).cell? ⟨W0.heap.size, 1, none⟩ = some (.int .i64 uy) := by rw [cell_of_heap (heap_new _ _)]; rfl
      have HF1 := Lib.hid (HF.out.alloc (.cells #[.int .i64 ux, .int .i64 uy] 65))
      have HFS := Lib.hid ((Fr.nil W0).alloc (.cells #[.int .i64 ux, .int .i64 uy] 65))
      have HAR := Lib.hid (around6_c (W0.alloc (.cells #[.int .i64 ux, .int .i64 uy] 65)) (ux, uy) (by show -10 < ux; omega) (by show ux < 10; omega) (by show -10 < uy; omega) (by show uy < 10; omega))
      clear hux huy hd
      go_wp2_with fail
      refine (HAR.out).mono ?_
      rintro e w1 ⟨va, rfl, hrow1, hf1⟩
      have HF2 := Lib.hid (HF1.out.trans hf1)
      have HROW2 := Lib.hid ((HROW.out.ext HFS.out).ext hf1)
      rcases hrow1.sr with ⟨h2, h3⟩ | ⟨g, o, cap, hv, hcells⟩
      · exfalso; have := HAL.out; rw [h3] at this; simp at this
      have HCL := Lib.hid hcells
      subst hv
      rw [HAL.out] at hrow1
      clear hrow1 hf1 hcells d0 d1 hix
      rw [HAL.out]
      go_wp2_with (at_builtin; refine wpList_append_own _ rfl (.tmp 19) (.tmp 21) 30 rfl w.heap.size 89 i0 _ 3 24 Tryz.underlying30 HI0.out HI1.out HI2.out HI3.out rfl (by decide) _ _ _ rfl HROW2.out ⟨g, o, none⟩ 6 cap (cflat (aroundL (ux, uy) 3)) rfl ?c0 ?c2 ?c1 ?c3 ?c4 ?c5 ?_)
      case c0 => rw [cflat_len, HAL.out]
      case c2 => intro t u ht; rw [addr_add]; exact HCL.out t u ht
      case c1 => exact cflat_one _
      case c3 => rw [HML.out]; unfold maxLen; omega
      case c4 => rw [HML.out]; omega
      case c5 => have := HF2.out.size; omega
      intro v' w' hown' hgr hnil
      have hrow3 : CeRow w' w.heap.size 89 v' (near3L h (i + 1)) := by
        rw [HN.out]
        unfold CeRow
        rw [List.length_append, HML.out, HAL.out, cflat_append]
        rw [HML.out] at hown'
        exact hown'
      have HF3 := Lib.hid (HF2.out.grown' hgr (fun k hk => (HROW2.out.lt hk).2))
      have HROW3 := Lib.hid hrow3
      clear hown' hgr hnil hrow3
      go_wp2_with fail
      refine ⟨⟨i + 1, by omega, by go_num, HROW3.out, HF3.out⟩, by simp only [intOf]; omega⟩
    · have hi3' : i = 3 := by omega
      subst hi3'
      go_wp2_with fail
      go_ret
      exact ⟨_, rfl, HROW.out, HF.out⟩
end Go.Proofs.YtnkdbpjmepfblaaGreatDoor

/- Cells: Good, Halves, Check. -/
namespace Go.Proofs.YtnkdbpjmepfblaaGreatDoor
open Go Go.RowKit

set_option maxRecDepth 100000 in
theorem latgood_c (l : Int) (h1 : 1 ≤ l) (h2 : l ≤ 3) (w : World) : Calls Tryz.prog 143 #[.int .i64 l] w fun e w' => e = .returned (.bool true) ∧ w' = w := by
  go_enter Tryz.func143, Tryz.ntmps143
  go_wp2_with fail
  go_ret
  exact ⟨rfl, rfl⟩
set_option maxRecDepth 100000 in
theorem chalves_c (l : Int) (h1 : 1 ≤ l) (w : World) : Calls Tryz.prog 50 #[.int .i64 l] w fun e w' => e = .returned (.int .i64 (if l = 1 then 1 else 2)) ∧ w' = w := by
  by_cases h : l = 1
  · subst h
    go_enter Tryz.func50, Tryz.ntmps50
    go_wp2_with fail
    go_ret
    exact ⟨rfl, rfl⟩
  · have hb : (l == 1) = false := by simpa using h
    rw [if_neg h]
    go_enter Tryz.func50, Tryz.ntmps50
    go_wp2_with fail
    go_ret
    exact ⟨rfl, rfl⟩
set_option maxRecDepth 100000 in
theorem good_c (a b : Int) (h1 : -1099511627776 ≤ a) (h2 : a ≤ 1099511627776) (h3 : -1099511627776 ≤ b) (h4 : b ≤ 1099511627776) (w : World) : Calls Tryz.prog 146 #[.agg #[.int .i64 a, .int .i64 b]] w fun e w' => e = .returned (.bool true) ∧ Fr w [] w' [] := by
  have c0 : (w.alloc (.cells #[.int .i64 a, .int .i64 b] 65)).cell? ⟨w.heap.size, 0, none⟩ = some (.int .i64 a) := by rw [cell_of_heap (heap_new _ _)]; rfl
  have c1 : (w.alloc (.cells #[.int .i64 a, .int .i64 b] 65)).cell? ⟨w.heap.size, 1, none⟩ = some (.int .i64 b) := by rw [cell_of_heap (heap_new _ _)]; rfl
  have HF := Lib.hid ((Fr.nil w).alloc (.cells #[.int .i64 a, .int .i64 b] 65))
  go_enter Tryz.func146, Tryz.ntmps146
  go_wp2_with fail
  go_ret
  exact ⟨rfl, HF.out⟩
set_option maxRecDepth 100000 in
set_option maxHeartbeats 800000 in
theorem check_c (l h : Int) (hl1 : 2 ≤ l) (hl2 : l ≤ 3) (h0 : 0 ≤ h) (h1 : h ≤ 1) (w : World) : Calls Tryz.prog 120 #[.int .i64 l, .agg #[.int .i64 0, .int .i64 0, .int .i64 h]] w fun e w' => e = .returned .nilIface ∧ Fr w [] w' [] := by
  obtain ⟨W1, hW1⟩ : ∃ W1, W1 = w.alloc (.cells #[.int .i64 0, .int .i64 0, .int .i64 h] 89) := ⟨_, rfl⟩
  have hh : W1.heap[w.heap.size]? = some (.cells #[.int .i64 0, .int .i64 0, .int .i64 h] 89) := by rw [hW1]; exact heap_new _ _
  have hlt : w.heap.size < W1.heap.size := by rw [hW1]; simp
  have hF : Fr w [] W1 [] := by rw [hW1]; exact (Fr.nil w).alloc _
  have hcw : ∀ z : CW W1, z.x.cell? ⟨w.heap.size, 0, none⟩ = some (.int .i64 0) ∧ z.x.cell? ⟨w.heap.size, 1, none⟩ = some (.int .i64 0) ∧ z.x.cell? ⟨w.heap.size, 2, none⟩ = some (.int .i64 h) := fun z => by
    have := z.h.keep _ hlt (by simp)
    rw [hh] at this
    exact ⟨by rw [cell_of_heap this]; rfl, by rw [cell_of_heap this]; rfl, by rw [cell_of_heap this]; rfl⟩
  have HCW := Lib.hid hcw
  have c2 : ∀ z : CW W1, z.x.cell? ⟨w.heap.size, 2, none⟩ = some (.int .i64 h) := fun z => (hcw z).2.2
  have HF := Lib.hid hF
  have HLG := Lib.hid (latgood_c l (by omega) hl2)
  have HHA := Lib.hid (fun w => (chalves_c l (by omega) w).mono (R' := fun e w' => e = .returned (.int .i64 2) ∧ Fr w [] w' []) (fun e w' he => by rcases he with ⟨rfl, rfl⟩; rw [if_neg (by omega)]; exact ⟨rfl, Fr.nil _⟩))
  have HGO := Lib.hid (good_c 0 0 (by decide) (by decide) (by decide) (by decide))
  have hneg : decide (h < 0) = false := by simp; omega
  have hge : decide (2 ≤ h) = false := by simp; omega
  clear hh hlt hF hcw
  subst hW1
  go_enter Tryz.func120, Tryz.ntmps120
  go_wp2_with fail
  refine (HLG.out _).mono ?_
  rintro e w1 ⟨rfl, rfl⟩
  go_wp2_with fail
  refine wp_region_cw (by kernel_rfl) (by kernel_rfl) (CW (w.alloc (.cells #[.int .i64 0, .int .i64 0, .int .i64 h] 89))) Cls.x ⟨⟨_, (Fr.nil _).drew⟩, rfl⟩ ?_
  repeat (go_big_quiet_step (((go_at_call 50; exact Calls.cls (HHA.out _)))))
  refine wpQuiet_nil ?_
  intro z
  have d0 : z.x.cell? ⟨w.heap.size, 0, none⟩ = some (.int .i64 0) := (HCW.out z).1
  have d1 : z.x.cell? ⟨w.heap.size, 1, none⟩ = some (.int .i64 0) := (HCW.out z).2.1
  have HF2 := Lib.hid (HF.out.trans z.h)
  go_wp2_with fail
  refine (HGO.out _).mono ?_
  rintro e w2 ⟨rfl, hf2⟩
  have HF3 := Lib.hid (HF2.out.trans hf2)
  clear hf2
  go_wp2_with fail
  go_ret
  exact ⟨rfl, HF3.out⟩
end Go.Proofs.YtnkdbpjmepfblaaGreatDoor
