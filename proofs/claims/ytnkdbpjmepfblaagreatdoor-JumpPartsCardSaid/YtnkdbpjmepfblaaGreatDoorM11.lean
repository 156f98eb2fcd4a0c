/- Texts of the walk and its plain law, merged: CeE. -/
import Derived.Test.YtnkdbpjmepfblaaGreatDoorM09
import Derived.Test.YtnkdbpjmepfblaaGreatDoorM10
import Derived.Sort.LotA
/- Slices of cells: SortFunc; set.Of. -/
namespace Go.Proofs.YtnkdbpjmepfblaaGreatDoor
open Go Go.RowKit

theorem Ce.lt_iff (x y : Ce) : x.lt y = true ↔ x.b < y.b ∨ (x.b = y.b ∧ (x.a < y.a ∨ (x.a = y.a ∧ x.h < y.h))) := by
  unfold Ce.lt
  split
  · simp; omega
  · split
    · split
      · simp; omega
      · split
        · simp; omega
        · simp; omega
    · simp; omega
theorem Ce.lt_false (x y : Ce) : x.lt y = false ↔ ¬ (x.b < y.b ∨ (x.b = y.b ∧ (x.a < y.a ∨ (x.a = y.a ∧ x.h < y.h)))) := by
  rw [← Ce.lt_iff]; simp
theorem Ce.ltOf (x y : Ce) : Go.Proofs.ltOf Ce.cmp x y = x.lt y := by
  unfold Go.Proofs.ltOf Ce.cmp
  cases h : x.lt y with
  | true => simp
  | false =>
    simp only [Bool.false_eq_true, if_false]
    split <;> rfl
theorem Ce.swo : Go.Sort.SWO (Go.Proofs.ltOf Ce.cmp) where
  irrefl x := by rw [Ce.ltOf, Ce.lt_false]; omega
  trans x y z h1 h2 := by rw [Ce.ltOf] at *; rw [Ce.lt_iff] at *; omega
  ntrans x y z h1 h2 := by rw [Ce.ltOf] at *; rw [Ce.lt_false] at *; omega
theorem Ce.anti (x y : Ce) (h1 : Go.Proofs.ltOf Ce.cmp x y = false) (h2 : Go.Proofs.ltOf Ce.cmp y x = false) : x = y := by
  rw [Ce.ltOf, Ce.lt_false] at h1 h2
  obtain ⟨a, b, c⟩ := x
  obtain ⟨d, e, f⟩ := y
  simp only [Ce.mk.injEq] at *
  omega
def sortL (L : List Ce) : List Ce := L.mergeSort fun x y => !(y.lt x)
theorem flatK_ce (L : List Ce) : (Go.Sort.flatK Ce.cells 3 L.toArray).toList = cflat L := by
  apply List.ext_getElem?
  intro t
  by_cases ht : t < L.length * 3
  · have hq : t / 3 < L.length := by omega
    have hl : L[t / 3]? = some L[t / 3] := List.getElem?_eq_getElem hq
    have hg := cflat_get L (t / 3) _ hl (t % 3) (Nat.mod_lt _ (by decide))
    rw [show t / 3 * 3 + t % 3 = t by omega] at hg
    rw [hg]
    have h0 := Go.Sort.get_flatK Ce.cells 3 L.toArray t (by simpa using ht)
    have hs : t < (Go.Sort.flatK Ce.cells 3 L.toArray).size := by rw [Go.Sort.size_flatK]; simpa using ht
    rw [Array.getElem?_toList, Array.getElem?_eq_getElem hs]
    rw [getElem!_pos _ t hs] at h0
    rw [h0]
    have hm : t % 3 < (L[t / 3]).cells.length := Nat.mod_lt _ (by decide)
    have hx : L.toArray[t / 3]! = L[t / 3] := by rw [getElem!_pos _ _ (by simpa using hq)]; simp
    rw [hx, List.getElem?_eq_getElem hm, getElem!_pos (L[t / 3]).cells (t % 3) hm]
  · rw [List.getElem?_eq_none (by simp [Go.Sort.size_flatK]; omega), List.getElem?_eq_none (by rw [cflat_len]; omega)]
theorem CeRow.holds {w : World} {base g n cap : Nat} {e : TypeId} {L : List Ce} (h : CeRow w base e (.slice (some ⟨g, 0, none⟩) n cap) L) : Go.Sort.HoldsK Ce.cells 3 w g 0 L.toArray := by
  intro t ht
  rw [Go.Sort.size_flatK] at ht
  have ht' : t < L.length * 3 := by simpa using ht
  refine ⟨?_, h.fz _⟩
  have hs : t < (Go.Sort.flatK Ce.cells 3 L.toArray).size := by rw [Go.Sort.size_flatK]; exact ht
  have h1 : (cflat L)[t]? = some ((Go.Sort.flatK Ce.cells 3 L.toArray)[t]!) := by
    rw [← flatK_ce, Array.getElem?_toList, Array.getElem?_eq_getElem hs, getElem!_pos _ t hs]
  have := h.cells (g := g) rfl t _ h1
  rw [addr_add] at this
  exact this
theorem CeRow.sorted {w : World} {base g n cap : Nat} {e : TypeId} {L M : List Ce} (h : CeRow w base e (.slice (some ⟨g, 0, none⟩) n cap) L) (hM : M.length = L.length) (m : Nat) (os : Array Obj) :
    CeRow (Go.Proofs.sortWorldK Ce.cells 3 w g 0 m M.toArray os) base e (.slice (some ⟨g, 0, none⟩) n cap) M ∧ Fr w [g] (Go.Proofs.sortWorldK Ce.cells 3 w g 0 m M.toArray os) [g] := by
  obtain ⟨h1, h2⟩ := h
  rcases h2 with ⟨h2, _⟩ | ⟨g', cap', cur, h2, hb, hh, hn, hm, hs, ht⟩
  · cases h2
  simp only [Value.slice.injEq, Option.some.injEq, Addr.mk.injEq] at h2
  obtain ⟨⟨rfl, _, _⟩, rfl, rfl⟩ := h2
  have hgl := heap_lt hh
  have hheap : ∀ k, k < w.heap.size → (Go.Proofs.sortWorldK Ce.cells 3 w g 0 m M.toArray os).heap[k]? = (Go.Sort.putRow id w g 0 (Go.Sort.flatK Ce.cells 3 M.toArray)).heap[k]? := by
    intro k hk
    unfold Go.Proofs.sortWorldK
    rw [Go.Sort.heap_grow_old _ _ (by simpa [Go.Sort.putRowK] using hk)]
    rfl
  have hg2 : (Go.Sort.putRow id w g 0 (Go.Sort.flatK Ce.cells 3 M.toArray)).heap[g]? = some (.cells (Go.Sort.putCells id 0 (Go.Sort.flatK Ce.cells 3 M.toArray) cur) e (0, 0)) := by
    simp only [Go.Sort.putRow, Go.Sort.mapBlock, Array.getElem?_modify, hh]
    rfl
  refine ⟨⟨by rw [cflat_len], .inr ⟨g, cap, _, by rw [hM], hb, (hheap g hgl).trans hg2, by rw [hM]; exact hn, hm, by simpa [Go.Sort.putCells] using hs, ?_⟩⟩, ?_⟩
  · apply List.ext_getElem?
    intro t
    by_cases htl : t < M.length * 3
    · rw [List.getElem?_take_of_lt htl]
      have hct : t < cur.size := by rw [hs]; rw [hM] at htl; have := Nat.mul_le_mul_right 3 hn; omega
      have hsz : (Go.Sort.flatK Ce.cells 3 M.toArray).size = M.length * 3 := by rw [Go.Sort.size_flatK]; simp
      rw [← flatK_ce, Array.getElem?_toList, Array.getElem?_toList]
      simp only [Go.Sort.putCells, Array.getElem?_mapIdx, Array.getElem?_eq_getElem hct, Option.map_some, Nat.zero_le, true_and, Nat.zero_add, Nat.sub_zero, hsz, htl, if_true, id]
      rw [getElem!_pos _ t (by rw [hsz]; exact htl), Array.getElem?_eq_getElem (by rw [hsz]; exact htl)]
    · rw [List.getElem?_eq_none (by simp; omega), List.getElem?_eq_none (by rw [cflat_len]; omega)]
  · refine ⟨rfl, rfl, rfl, ?_, fun b hbl hn' => ?_, fun b hb => .inl hb, fun b hb => ?_⟩
    · unfold Go.Proofs.sortWorldK; simp [Go.Sort.putRowK]
    · rw [hheap b hbl]
      simp only [Go.Sort.putRow, Go.Sort.mapBlock, Array.getElem?_modify]
      rw [if_neg (fun e => hn' (by simp [e]))]
    · obtain rfl : b = g := by simpa using hb
      unfold Go.Proofs.sortWorldK
      simp [Go.Sort.putRowK]
      omega
theorem enters113 : ∀ args w, (callFunc 113 args).run Tryz.prog w = .ok (.enter 113 args) w := enters_of Tryz.func113 (by kernel_rfl) rfl
theorem sort_c {w : World} {base g cap : Nat} {L : List Ce} (h : CeRow w base 89 (.slice (some ⟨g, 0, none⟩) L.length cap) L) (hL : L.length < 4611686018427387904) :
    Calls Tryz.prog 112 #[.slice (some ⟨g, 0, none⟩) L.length cap, .func (.func 113) #[] #[]] w fun e w' => e = .returned (.tuple #[]) ∧ CeRow w' base 89 (.slice (some ⟨g, 0, none⟩) (sortL L).length cap) (sortL L) ∧ Fr w [g] w' [g] := by
  have hcon := AnyQ.slices_SortFunc (P := Tryz.prog) Tryz.sortCell 3 (fun w => Tryz.isAgg89 w) (fun w => Tryz.sizeOf89 w) Ce.cells (fun _ => rfl) (fun x v hv => by
      simp only [Ce.cells, List.mem_cons, List.not_mem_nil, or_false] at hv
      rcases hv with rfl | rfl | rfl <;> rfl) Ce.cmp Ce.swo 113 #[] g 0 cap L.toArray w enters113
    (fun m os dk _ x y => (compare_c x y _).mono fun e w' ⟨he, os', hw⟩ => ⟨he, 0, os', hw⟩) h.holds h.caps.2.2.2 (by simpa using hL)
  refine hcon.mono ?_
  rintro e w' ⟨rfl, d', n, os, hp, hs, rfl⟩
  have hd : d'.toList = sortL L := by
    have := Go.Sort.sorted_unique_holds Ce.swo Ce.anti L.toArray d' hp hs
    rw [this]
    unfold sortL
    congr 1
    funext x y
    rw [Ce.ltOf]
  have hlen : (sortL L).length = L.length := by unfold sortL; exact List.length_mergeSort _
  have hd' : d' = (sortL L).toArray := by rw [← hd]
  rw [hd', hlen]
  have := h.sorted hlen n os
  exact ⟨rfl, this.1, this.2⟩
end Go.Proofs.YtnkdbpjmepfblaaGreatDoor
