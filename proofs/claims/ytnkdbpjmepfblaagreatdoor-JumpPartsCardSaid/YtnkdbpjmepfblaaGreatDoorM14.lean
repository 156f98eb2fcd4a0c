/- Texts of the walk and its plain law, merged: FwA, TrJ. -/
import Derived.Test.YtnkdbpjmepfblaaGreatDoorM09
import Derived.Test.YtnkdbpjmepfblaaGreatDoorM13
import Derived.Test.YtnkdbpjmepfblaaGreatDoorM08
import Derived.Test.YtnkdbpjmepfblaaGreatDoorM02
/- Cells drawn: Own, Some. -/
namespace Go.Proofs.YtnkdbpjmepfblaaGreatDoor
open Go Go.RowKit

set_option maxRecDepth 100000 in
set_option maxHeartbeats 800000 in
theorem own3_c (x : Ce) (w : World) : Calls Tryz.prog 110 #[x.val] w fun e w' => e = .returned x.val ∧ Fr w [] w' [] := by
  unfold Ce.val
  go_enter Tryz.func110, Tryz.ntmps110
  go_wp2_with fail
  refine bodyPost_ret (v := .agg #[.int .i64 x.a, .int .i64 x.b, .int .i64 x.h]) (by simp [results, Tryz.results110, go_sem]) rfl ⟨rfl, ?_⟩
  exact (((Fr.nil w).alloc _).alloc _)
def someC (lat : Int) (x : Ce) : Ce := ⟨x.a.tmod 100, x.b.tmod 100, if lat = 1 then 0 else x.h % 2⟩
set_option maxRecDepth 100000 in
set_option maxHeartbeats 800000 in
theorem some3_c (lat : Int) (x : Ce) (w : World) : Calls Tryz.prog 118 #[.int .i64 lat, x.val] w fun e w' => e = .returned (someC lat x).val ∧ Fr w [] w' [] := by
  unfold someC Ce.val
  have hb := i64_and1 x.h
  by_cases hl : lat = 1
  · subst hl
    rw [if_pos rfl]
    obtain ⟨z, hz⟩ : ∃ z : Ce, z = ⟨x.a.tmod 100, x.b.tmod 100, 0⟩ := ⟨_, rfl⟩
    have hcw := own3_c z ((w.alloc (.cells #[.int .i64 (x.a.tmod 100), .int .i64 (x.b.tmod 100), .int .i64 (0)] 92)).alloc (.cells #[.int .i64 0, .int .i64 0, .int .i64 0] 89))
    have hZ0 := heap_new (w.alloc (.cells #[.int .i64 (x.a.tmod 100), .int .i64 (x.b.tmod 100), .int .i64 (0)] 92)) (.cells #[.int .i64 0, .int .i64 0, .int .i64 0] 89)
    rw [World.size_alloc] at hZ0
    have HZ0 := Lib.hid hZ0
    rw [hz] at hcw
    have HCW := Lib.hid hcw
    have hF0 := ((Fr.nil w).alloc (.cells #[.int .i64 (x.a.tmod 100), .int .i64 (x.b.tmod 100), .int .i64 (0)] 92)).alloc (.cells #[.int .i64 0, .int .i64 0, .int .i64 0] 89)
    have HF0 := Lib.hid hF0
    clear hz hcw hZ0 hF0
    go_enter Tryz.func118, Tryz.ntmps118
    go_wp2_with fail
    refine HCW.out.mono ?_
    rintro e w1 ⟨rfl, hF⟩
    have hz1 := (hF.keep (w.heap.size + 1) (by simp) (by simp)).trans HZ0.out
    have HF := Lib.hid (HF0.out.trans hF)
    have hfz := fun k => frozen_of_row w1 (w.heap.size + 1) k _ _ hz1
    have c0 : w1.cell? ⟨w.heap.size + 1, 0, none⟩ = some (.int .i64 0) := by rw [cell_of_heap hz1]; rfl
    have c1 : w1.cell? ⟨w.heap.size + 1, 1, none⟩ = some (.int .i64 0) := by rw [cell_of_heap hz1]; rfl
    have c2 : w1.cell? ⟨w.heap.size + 1, 2, none⟩ = some (.int .i64 0) := by rw [cell_of_heap hz1]; rfl
    have h1 := heap_setCell_same _ (w.heap.size + 1) 0 _ _ (.int .i64 (x.a.tmod 100)) hz1
    have h2 := heap_setCell_same _ (w.heap.size + 1) 1 _ _ (.int .i64 (x.b.tmod 100)) h1
    have h3 := heap_setCell_same _ (w.heap.size + 1) 2 _ _ (.int .i64 (0)) h2
    have H3 := Lib.hid h3
    have hs : w.heap.size ≤ w.heap.size + 1 := by omega
    have HF3 := Lib.hid (((HF.out.setCell (a := ⟨w.heap.size + 1, 0, none⟩) hs (.int .i64 (x.a.tmod 100))).setCell (a := ⟨w.heap.size + 1, 1, none⟩) hs (.int .i64 (x.b.tmod 100))).setCell (a := ⟨w.heap.size + 1, 2, none⟩) hs (.int .i64 (0)))
    clear hF hz1 h1 h2 h3 hs
    simp only [Ce.val]
    go_wp2_with fail
    generalize ((w1.setCell ⟨w.heap.size + 1, 0, none⟩ (.int .i64 (x.a.tmod 100))).setCell ⟨w.heap.size + 1, 1, none⟩ (.int .i64 (x.b.tmod 100))).setCell ⟨w.heap.size + 1, 2, none⟩ (.int .i64 (0)) = W9 at *
    have y0 : W9.cell? ⟨w.heap.size + 1, 0, none⟩ = some (.int .i64 (x.a.tmod 100)) := by rw [cell_of_heap H3.out]; rfl
    have y1 : W9.cell? ⟨w.heap.size + 1, 1, none⟩ = some (.int .i64 (x.b.tmod 100)) := by rw [cell_of_heap H3.out]; rfl
    have y2 : W9.cell? ⟨w.heap.size + 1, 2, none⟩ = some (.int .i64 (0)) := by rw [cell_of_heap H3.out]; rfl
    exact bodyPost_ret (v := .agg #[.int .i64 (x.a.tmod 100), .int .i64 (x.b.tmod 100), .int .i64 (0)]) (by simp [results, Tryz.results118, go_sem, y0, y1, y2]) rfl ⟨rfl, HF3.out⟩
  · rw [if_neg hl]
    have hlb : (lat == 1) = false := by simpa using hl
    obtain ⟨z, hz⟩ : ∃ z : Ce, z = ⟨x.a.tmod 100, x.b.tmod 100, x.h % 2⟩ := ⟨_, rfl⟩
    have hcw := own3_c z ((w.alloc (.cells #[.int .i64 (x.a.tmod 100), .int .i64 (x.b.tmod 100), .int .i64 (x.h % 2)] 92)).alloc (.cells #[.int .i64 0, .int .i64 0, .int .i64 0] 89))
    have hZ0 := heap_new (w.alloc (.cells #[.int .i64 (x.a.tmod 100), .int .i64 (x.b.tmod 100), .int .i64 (x.h % 2)] 92)) (.cells #[.int .i64 0, .int .i64 0, .int .i64 0] 89)
    rw [World.size_alloc] at hZ0
    have HZ0 := Lib.hid hZ0
    rw [hz] at hcw
    have HCW := Lib.hid hcw
    have hF0 := ((Fr.nil w).alloc (.cells #[.int .i64 (x.a.tmod 100), .int .i64 (x.b.tmod 100), .int .i64 (x.h % 2)] 92)).alloc (.cells #[.int .i64 0, .int .i64 0, .int .i64 0] 89)
    have HF0 := Lib.hid hF0
    clear hz hcw hZ0 hF0
    go_enter Tryz.func118, Tryz.ntmps118
    go_wp2_with fail
    refine HCW.out.mono ?_
    rintro e w1 ⟨rfl, hF⟩
    have hz1 := (hF.keep (w.heap.size + 1) (by simp) (by simp)).trans HZ0.out
    have HF := Lib.hid (HF0.out.trans hF)
    have hfz := fun k => frozen_of_row w1 (w.heap.size + 1) k _ _ hz1
    have c0 : w1.cell? ⟨w.heap.size + 1, 0, none⟩ = some (.int .i64 0) := by rw [cell_of_heap hz1]; rfl
    have c1 : w1.cell? ⟨w.heap.size + 1, 1, none⟩ = some (.int .i64 0) := by rw [cell_of_heap hz1]; rfl
    have c2 : w1.cell? ⟨w.heap.size + 1, 2, none⟩ = some (.int .i64 0) := by rw [cell_of_heap hz1]; rfl
    have h1 := heap_setCell_same _ (w.heap.size + 1) 0 _ _ (.int .i64 (x.a.tmod 100)) hz1
    have h2 := heap_setCell_same _ (w.heap.size + 1) 1 _ _ (.int .i64 (x.b.tmod 100)) h1
    have h3 := heap_setCell_same _ (w.heap.size + 1) 2 _ _ (.int .i64 (x.h % 2)) h2
    have H3 := Lib.hid h3
    have hs : w.heap.size ≤ w.heap.size + 1 := by omega
    have HF3 := Lib.hid (((HF.out.setCell (a := ⟨w.heap.size + 1, 0, none⟩) hs (.int .i64 (x.a.tmod 100))).setCell (a := ⟨w.heap.size + 1, 1, none⟩) hs (.int .i64 (x.b.tmod 100))).setCell (a := ⟨w.heap.size + 1, 2, none⟩) hs (.int .i64 (x.h % 2)))
    clear hF hz1 h1 h2 h3 hs
    simp only [Ce.val]
    go_wp2_with fail
    generalize ((w1.setCell ⟨w.heap.size + 1, 0, none⟩ (.int .i64 (x.a.tmod 100))).setCell ⟨w.heap.size + 1, 1, none⟩ (.int .i64 (x.b.tmod 100))).setCell ⟨w.heap.size + 1, 2, none⟩ (.int .i64 (x.h % 2)) = W9 at *
    have y0 : W9.cell? ⟨w.heap.size + 1, 0, none⟩ = some (.int .i64 (x.a.tmod 100)) := by rw [cell_of_heap H3.out]; rfl
    have y1 : W9.cell? ⟨w.heap.size + 1, 1, none⟩ = some (.int .i64 (x.b.tmod 100)) := by rw [cell_of_heap H3.out]; rfl
    have y2 : W9.cell? ⟨w.heap.size + 1, 2, none⟩ = some (.int .i64 (x.h % 2)) := by rw [cell_of_heap H3.out]; rfl
    exact bodyPost_ret (v := .agg #[.int .i64 (x.a.tmod 100), .int .i64 (x.b.tmod 100), .int .i64 (x.h % 2)]) (by simp [results, Tryz.results118, go_sem, y0, y1, y2]) rfl ⟨rfl, HF3.out⟩
end Go.Proofs.YtnkdbpjmepfblaaGreatDoor

/- The box of a set: the walk. -/
namespace Go.Proofs.YtnkdbpjmepfblaaGreatDoor
open Go Go.RowKit

def Bx.cells (B : Bx) : Array Value := #[.int .i64 B.la, .int .i64 B.lb, .int .i64 B.ha, .int .i64 B.hb]
def Ce.arr (x : Ce) : Array Value := #[.int .i64 x.a, .int .i64 x.b, .int .i64 x.h]
/-- The memory of Box. -/
structure BxM (w : World) (B : Bx) (wr : World) : Prop where
  fr : Fr w [] wr []
  sz : w.heap.size + 1 < wr.heap.size
  h2 : wr.heap[w.heap.size]? = some (.cells #[.int .i64 0, .int .i64 0, .int .i64 0, .int .i64 0] 79)
  h4 : wr.heap[w.heap.size + 1]? = some (.cells B.cells 79)
structure BxX (w : World) (B : Bx) (cb : Nat) (x : Ce) where
  x : World
  m : BxM w B x
  h6 : x.heap[cb]? = some (.cells (Ce.arr ‹Ce›) 89)
  lt : w.heap.size + 1 < cb
structure BxY (cb : Nat) (x : Ce) where
  x : World
  h6 : x.heap[cb]? = some (.cells (Ce.arr ‹Ce›) 89)
theorem BxM.new (w : World) (B : Bx) : BxM w B ((w.alloc (.cells #[.int .i64 0, .int .i64 0, .int .i64 0, .int .i64 0] 79)).alloc (.cells B.cells 79)).drew := by
  refine ⟨(((Fr.nil w).alloc _).alloc _).drew, by show _ < ((w.alloc _).alloc _).heap.size; simp, ?_, ?_⟩
  · show ((w.alloc _).alloc _).heap[_]? = _
    rw [Below.heap_alloc _ _ _ (by simp)]; exact heap_new _ _
  · show ((w.alloc _).alloc _).heap[_]? = _
    have := heap_new (w.alloc (.cells #[.int .i64 0, .int .i64 0, .int .i64 0, .int .i64 0] 79)) (.cells B.cells 79)
    rw [World.size_alloc] at this
    exact this
theorem BxM.ext {w wr wz : World} {B : Bx} (h : BxM w B wr) (hf : Fr wr [] wz []) : BxM w B wz :=
  ⟨h.fr.trans hf, Nat.lt_of_lt_of_le h.sz hf.size, by rw [hf.keep _ (by have := h.sz; omega) (by simp)]; exact h.h2, by rw [hf.keep _ h.sz (by simp)]; exact h.h4⟩
theorem BxM.set {w wr : World} {B B' : Bx} (h : BxM w B wr) (k : Nat) (v : Int) (hB : B.cells.setIfInBounds k (.int .i64 v) = B'.cells) : BxM w B' (wr.setCell ⟨w.heap.size + 1, k, none⟩ (.int .i64 v)) :=
  ⟨h.fr.setCell (show w.heap.size ≤ w.heap.size + 1 by omega) _, by rw [World.size_setCell]; exact h.sz, by rw [heap_setCell_other _ _ _ _ (show w.heap.size ≠ w.heap.size + 1 by omega)]; exact h.h2, by rw [heap_setCell_same _ _ _ _ _ _ h.h4, hB]⟩
theorem boxL_cons (x0 : Ce) (S : List Ce) : boxL (x0 :: S) = (x0 :: S).foldl Bx.add ⟨x0.a, x0.b, x0.a, x0.b⟩ := rfl
set_option maxRecDepth 100000 in
set_option maxHeartbeats 1600000 in
theorem box_c {w : World} {v : Value} {S : List Ce} (h : SR w v S) (hlen : S.length ≤ 9223372036854775806) (hne : S ≠ []) :
    Calls Tryz.prog 42 #[v] w fun e w' => e = .returned (.tuple #[(boxL S).val, .bool true]) ∧ Fr w [] w' [] := by
  cases S with
  | nil => exact absurd rfl hne
  | cons x0 S =>
  rcases h with ⟨_, h2⟩ | ⟨g, o, cap, rfl, hc⟩
  · cases h2
  have HC := Lib.hid hc
  have hlp : (0 : Int) < (((x0 :: S).length : Nat) : Int) := by simp
  obtain ⟨n, hn⟩ : ∃ n, n = (x0 :: S).length := ⟨_, rfl⟩
  have HN := Lib.hid hn
  have hn1 : 0 < n := by rw [hn]; simp
  rw [← hn] at hlp hlen ⊢
  have hnz : ((n : Int) == 0) = false := by simp; omega
  have HM0 := Lib.hid (BxM.new w ⟨x0.a, x0.b, x0.a, x0.b⟩)
  have hz : ∀ z : CW (w.alloc (.cells #[.int .i64 0, .int .i64 0, .int .i64 0, .int .i64 0] 79)), ∀ (t : Nat) (u : Value), (cflat (x0 :: S))[t]? = some u → z.x.cell? ⟨g, o + t, none⟩ = some u := fun z => by
    rcases (show SR w (.slice (some ⟨g, o, none⟩) (x0 :: S).length cap) (x0 :: S) from .inr ⟨g, o, cap, rfl, HC.out⟩).ext (((Fr.nil w).alloc _).trans z.h) with ⟨h3, _⟩ | ⟨g', o', c', h3, h4⟩
    · cases h3
    · simp only [Value.slice.injEq, Option.some.injEq, Addr.mk.injEq, true_and, and_true] at h3
      obtain ⟨⟨rfl, rfl⟩, _⟩ := h3
      exact h4
  have z0 : ∀ z : CW (w.alloc (.cells #[.int .i64 0, .int .i64 0, .int .i64 0, .int .i64 0] 79)), z.x.cell? ⟨g, o, none⟩ = some (.int .i64 x0.a) := fun z => hz z 0 _ rfl
  have z1 : ∀ z : CW (w.alloc (.cells #[.int .i64 0, .int .i64 0, .int .i64 0, .int .i64 0] 79)), z.x.cell? ⟨g, o + 1, none⟩ = some (.int .i64 x0.b) := fun z => hz z 1 _ rfl
  clear hc hz hn
  go_enter Tryz.func42, Tryz.ntmps42
  go_wp2_with fail
  refine wp_region_mixed 1 10 [9] (by kernel_rfl) (by kernel_rfl) (fun _ _ d _ _ h => by cases d <;> exact h) (CW (w.alloc (.cells #[.int .i64 0, .int .i64 0, .int .i64 0, .int .i64 0] 79))) Cls.x ⟨_, (Fr.nil _).drew⟩ rfl ?_
  simp only [List.take_succ_cons, List.take_zero, List.drop_succ_cons, List.drop_zero, moved]
  repeat (refine wpStillC_step (by decide) (fun K hK => ?_); go_simp; (try simp only [z0, z1]); (try go_simp); refine hK _ ?_; clear hK K)
  refine wpStillC_forced (by decide) ⟨⟨_, (Fr.nil _).drew⟩, rfl⟩ ?_
  go_wp2_with fail
  refine ⟨⟨⟨_, ((Fr.nil _).alloc _).drew⟩, rfl⟩, wpStillC_nil ⟨⟨⟨_, ((Fr.nil _).alloc _).drew⟩, rfl⟩, ?_⟩⟩
  clear z0 z1
  go_wp2_with fail
  go_loopw [22] (fun v6 wr => ∃ i : Nat, i ≤ n ∧ v6 = .int .i64 i ∧ BxM w (((x0 :: S).take i).foldl Bx.add ⟨x0.a, x0.b, x0.a, x0.b⟩) wr) (fun v _ => n - (intOf v).toNat)
  case atStart => exact ⟨0, by omega, rfl, HM0.out⟩
  case round =>
    clear HM0
    obtain ⟨i, hi, rfl, hm⟩ := hrel
    obtain ⟨W0, rfl⟩ : ∃ W0, W0 = wr := ⟨_, rfl⟩
    obtain ⟨B, hB⟩ : ∃ B, B = ((x0 :: S).take i).foldl Bx.add ⟨x0.a, x0.b, x0.a, x0.b⟩ := ⟨_, rfl⟩
    rw [← hB] at hm
    have HM := Lib.hid hm
    have HB := Lib.hid hB
    clear hB
    by_cases hgo : i < n
    · have hli : (i : Int) < (n : Int) := by omega
      obtain ⟨x, hx⟩ : ∃ x, (x0 :: S)[i]? = some x := ⟨_, List.getElem?_eq_getElem (by rw [← HN.out]; exact hgo)⟩
      have hcw : ∀ (t : Nat) (u : Value), (cflat (x0 :: S))[t]? = some u → W0.cell? ⟨g, o + t, none⟩ = some u := by
        rcases (show SR w (.slice (some ⟨g, o, none⟩) (x0 :: S).length cap) (x0 :: S) from .inr ⟨g, o, cap, rfl, HC.out⟩).ext hm.fr with ⟨h3, _⟩ | ⟨g', o', c', h3, h4⟩
        · cases h3
        · simp only [Value.slice.injEq, Option.some.injEq, Addr.mk.injEq, true_and, and_true] at h3
          obtain ⟨⟨rfl, rfl⟩, _⟩ := h3
          exact h4
      have hk := fun k hk u hu => hcw (i * 3 + k) u (by rw [cflat_get (x0 :: S) i x hx k hk]; exact hu)
      have c0 : W0.cell? ⟨g, o + i * 3, none⟩ = some (.int .i64 x.a) := by have := hk 0 (by omega) _ rfl; simpa using this
      have c1 : W0.cell? ⟨g, o + i * 3 + 1, none⟩ = some (.int .i64 x.b) := by have := hk 1 (by omega) _ rfl; rw [← Nat.add_assoc] at this; exact this
      have c2 : W0.cell? ⟨g, o + i * 3 + 2, none⟩ = some (.int .i64 x.h) := by have := hk 2 (by omega) _ rfl; rw [← Nat.add_assoc] at this; exact this
      have HBS := Lib.hid (show ((x0 :: S).take (i + 1)).foldl Bx.add ⟨x0.a, x0.b, x0.a, x0.b⟩ = B.add x by rw [List.take_add_one, hx, HB.out]; simp [List.foldl_append])
      obtain ⟨cb, hcb⟩ : ∃ cb, cb = W0.heap.size := ⟨_, rfl⟩
      have hlt : w.heap.size + 1 < cb := by rw [hcb]; exact hm.sz
      obtain ⟨W1, hW1⟩ : ∃ W1, W1 = W0.alloc (.cells #[.int .i64 x.a, .int .i64 x.b, .int .i64 x.h] 89) := ⟨_, rfl⟩
      have HN6 := Lib.hid (show W1.heap[cb]? = some (.cells x.arr 89) by rw [hcb, hW1]; exact heap_new _ _)
      have HM1 := Lib.hid (show BxM w B W1 by rw [hW1]; exact hm.ext ((Fr.nil W0).alloc _))
      have y0 : ∀ z : BxX w B cb x, z.x.cell? ⟨w.heap.size + 1, 0, none⟩ = some (.int .i64 B.la) ∧ z.x.cell? ⟨w.heap.size + 1, 1, none⟩ = some (.int .i64 B.lb) ∧ z.x.cell? ⟨w.heap.size + 1, 2, none⟩ = some (.int .i64 B.ha) ∧ z.x.cell? ⟨w.heap.size + 1, 3, none⟩ = some (.int .i64 B.hb) ∧
          z.x.cell? ⟨cb, 0, none⟩ = some (.int .i64 x.a) ∧ z.x.cell? ⟨cb, 1, none⟩ = some (.int .i64 x.b) := fun z => by
        refine ⟨?_, ?_, ?_, ?_, ?_, ?_⟩ <;> first | (rw [cell_of_heap z.m.h4]; rfl) | (rw [cell_of_heap z.h6]; rfl)
      have a0 := fun z => (y0 z).1
      have a2 := fun z => (y0 z).2.2.1
      have a4 := fun z => (y0 z).2.2.2.2.1
      have b4 : ∀ z : BxY cb x, z.x.cell? ⟨cb, 0, none⟩ = some (.int .i64 x.a) := fun z => by rw [cell_of_heap z.h6]; rfl
      clear hm hx hk hcw y0
      go_wp2_with fail
      rw [← hcb, ← hW1]
      have HCB := Lib.hid hcb
      clear hcb hW1
      have hne : Nonempty (BxX w B cb x) := ⟨⟨_, HM1.out, HN6.out, hlt⟩⟩
      have hne2 : Nonempty (BxY cb x) := ⟨⟨_, HN6.out⟩⟩
      refine wp_region_two 0 17 16 [16] [0, 1, 2, 3, 4, 5, 6, 7, 8, 9, 10, 11, 12, 13, 14, 15, 16] (by kernel_rfl) (by kernel_rfl) (fun _ _ d _ _ h => by cases d <;> exact h) (fun w' => ∃ z : BxX w B cb x, w' = z.x) (fun w' => ∃ z : BxY cb x, w' = z.x) ⟨⟨_, HM1.out.ext (Fr.nil _).drew, HN6.out, hlt⟩, rfl⟩ ⟨⟨W1.drew, HN6.out⟩, rfl⟩ ?_
      simp only [List.take_zero, List.drop_succ_cons, List.drop_zero, moved, pickO, List.getElem?_cons_succ, List.getElem?_cons_zero]
      iterate 10 (refine wpStillT_step (by decide) (by kernel_rfl) (fun K hK => ?_); go_simp; (try simp only [a0, a2, a4]); (try go_simp); refine hK _ ?_; clear hK K)
      iterate 4 (refine wpStillT_late (by decide) (by kernel_rfl) (fun K hK => ?_); go_simp; (try simp only [b4]); (try go_simp); refine hK _ ?_; clear hK K)
      iterate 2 (refine wpStillT_step (by decide) (by kernel_rfl) (fun K hK => ?_); go_simp; (try simp only [a0, a2, a4]); (try go_simp); refine hK _ ?_; clear hK K)
      obtain ⟨la, hla⟩ : ∃ la, la = (if x.a < B.la then x.a else B.la) := ⟨_, rfl⟩
      obtain ⟨ha, hha⟩ : ∃ ha, ha = (if B.ha < x.a then x.a else B.ha) := ⟨_, rfl⟩
      rw [← hla, ← hha]
      have HLA := Lib.hid hla
      have HHA := Lib.hid hha
      have HM2 := Lib.hid (HM1.out.ext (Fr.nil _).drew)
      have hm2 := HM2.out
      have e0 : W1.drew.cell? ⟨w.heap.size + 1, 0, none⟩ = some (.int .i64 B.la) := by rw [cell_of_heap hm2.h4]; rfl
      have f0 : W1.drew.frozen? ⟨w.heap.size + 1, 0, none⟩ = false := frozen_of_row _ _ _ _ _ hm2.h4
      have hm3 := (HM1.out.set (B' := ⟨la, B.lb, B.ha, B.hb⟩) 0 la rfl).ext (Fr.nil _).drew
      have e2 : (W1.setCell ⟨w.heap.size + 1, 0, none⟩ (.int .i64 la)).drew.cell? ⟨w.heap.size + 1, 2, none⟩ = some (.int .i64 B.ha) := by rw [cell_of_heap hm3.h4]; rfl
      have f2 : (W1.setCell ⟨w.heap.size + 1, 0, none⟩ (.int .i64 la)).drew.frozen? ⟨w.heap.size + 1, 2, none⟩ = false := frozen_of_row _ _ _ _ _ hm3.h4
      have hm4 := ((HM1.out.set (B' := ⟨la, B.lb, B.ha, B.hb⟩) 0 la rfl).set (B' := ⟨la, B.lb, ha, B.hb⟩) 2 ha rfl).ext (Fr.nil _).drew
      have HM4 := Lib.hid hm4
      have H63 := Lib.hid (show (W1.setCell ⟨w.heap.size + 1, 0, none⟩ (.int .i64 la)).drew.heap[cb]? = some (.cells x.arr 89) by
        show (W1.setCell ⟨w.heap.size + 1, 0, none⟩ (.int .i64 la)).heap[cb]? = _
        rw [heap_setCell_other _ _ _ _ (show cb ≠ w.heap.size + 1 by omega)]; exact HN6.out)
      have H64 := Lib.hid (show ((W1.setCell ⟨w.heap.size + 1, 0, none⟩ (.int .i64 la)).setCell ⟨w.heap.size + 1, 2, none⟩ (.int .i64 ha)).drew.heap[cb]? = some (.cells x.arr 89) by
        show ((W1.setCell ⟨w.heap.size + 1, 0, none⟩ (.int .i64 la)).setCell ⟨w.heap.size + 1, 2, none⟩ (.int .i64 ha)).heap[cb]? = _
        rw [heap_setCell_other _ _ _ _ (show cb ≠ w.heap.size + 1 by omega)]; exact H63.out)
      clear hla hha hm2 hm3 hm4 a0 a2 a4 b4 hne hne2
      refine wpStillT_forced (by decide) (fun _ => ⟨⟨_, HM2.out, HN6.out, hlt⟩, rfl⟩) ⟨⟨W1.drew, HN6.out⟩, rfl⟩ ?_
      go_wp2_with fail
      refine ⟨⟨⟨_, H63.out⟩, rfl⟩, wpStillT_nil ?_⟩
      go_wp2_with fail
      generalize ((W1.setCell ⟨w.heap.size + 1, 0, none⟩ (.int .i64 la)).setCell ⟨w.heap.size + 1, 2, none⟩ (.int .i64 ha)).drew = W3 at *
      clear e0 f0 e2 f2
      have y0 : ∀ z : BxX w ⟨la, B.lb, ha, B.hb⟩ cb x, z.x.cell? ⟨w.heap.size + 1, 0, none⟩ = some (.int .i64 la) ∧ z.x.cell? ⟨w.heap.size + 1, 1, none⟩ = some (.int .i64 B.lb) ∧ z.x.cell? ⟨w.heap.size + 1, 2, none⟩ = some (.int .i64 ha) ∧ z.x.cell? ⟨w.heap.size + 1, 3, none⟩ = some (.int .i64 B.hb) ∧
          z.x.cell? ⟨cb, 0, none⟩ = some (.int .i64 x.a) ∧ z.x.cell? ⟨cb, 1, none⟩ = some (.int .i64 x.b) := fun z => by
        refine ⟨?_, ?_, ?_, ?_, ?_, ?_⟩ <;> first | (rw [cell_of_heap z.m.h4]; rfl) | (rw [cell_of_heap z.h6]; rfl)
      have a0 := fun z => (y0 z).2.1
      have a2 := fun z => (y0 z).2.2.2.1
      have a4 := fun z => (y0 z).2.2.2.2.2
      have b4 : ∀ z : BxY cb x, z.x.cell? ⟨cb, 1, none⟩ = some (.int .i64 x.b) := fun z => by rw [cell_of_heap z.h6]; rfl
      clear y0
      have hne : Nonempty (BxX w ⟨la, B.lb, ha, B.hb⟩ cb x) := ⟨⟨_, HM4.out, H64.out, hlt⟩⟩
      have hne2 : Nonempty (BxY cb x) := ⟨⟨_, H64.out⟩⟩
      refine wp_region_two 0 17 16 [16] [0, 1, 2, 3, 4, 5, 6, 7, 8, 9, 10, 11, 12, 13, 14, 15, 16] (by kernel_rfl) (by kernel_rfl) (fun _ _ d _ _ h => by cases d <;> exact h) (fun w' => ∃ z : BxX w ⟨la, B.lb, ha, B.hb⟩ cb x, w' = z.x) (fun w' => ∃ z : BxY cb x, w' = z.x) ⟨⟨_, HM4.out.ext (Fr.nil _).drew, H64.out, hlt⟩, rfl⟩ ⟨⟨W3.drew, H64.out⟩, rfl⟩ ?_
      simp only [List.take_zero, List.drop_succ_cons, List.drop_zero, moved, pickO, List.getElem?_cons_succ, List.getElem?_cons_zero]
      iterate 10 (refine wpStillT_step (by decide) (by kernel_rfl) (fun K hK => ?_); go_simp; (try simp only [a0, a2, a4]); (try go_simp); refine hK _ ?_; clear hK K)
      iterate 4 (refine wpStillT_late (by decide) (by kernel_rfl) (fun K hK => ?_); go_simp; (try simp only [b4]); (try go_simp); refine hK _ ?_; clear hK K)
      iterate 2 (refine wpStillT_step (by decide) (by kernel_rfl) (fun K hK => ?_); go_simp; (try simp only [a0, a2, a4]); (try go_simp); refine hK _ ?_; clear hK K)
      obtain ⟨lb, hlb⟩ : ∃ lb, lb = (if x.b < B.lb then x.b else B.lb) := ⟨_, rfl⟩
      obtain ⟨hb, hhb⟩ : ∃ hb, hb = (if B.hb < x.b then x.b else B.hb) := ⟨_, rfl⟩
      rw [← hlb, ← hhb]
      have HLB := Lib.hid hlb
      have HHB := Lib.hid hhb
      have hm2 := HM4.out.ext (Fr.nil _).drew
      have HM2' := Lib.hid hm2
      have e0 : W3.drew.cell? ⟨w.heap.size + 1, 1, none⟩ = some (.int .i64 B.lb) := by rw [cell_of_heap hm2.h4]; rfl
      have f0 : W3.drew.frozen? ⟨w.heap.size + 1, 1, none⟩ = false := frozen_of_row _ _ _ _ _ hm2.h4
      have hm3 := (HM4.out.set (B' := ⟨la, lb, ha, B.hb⟩) 1 lb rfl).ext (Fr.nil _).drew
      have e2 : (W3.setCell ⟨w.heap.size + 1, 1, none⟩ (.int .i64 lb)).drew.cell? ⟨w.heap.size + 1, 3, none⟩ = some (.int .i64 B.hb) := by rw [cell_of_heap hm3.h4]; rfl
      have f2 : (W3.setCell ⟨w.heap.size + 1, 1, none⟩ (.int .i64 lb)).drew.frozen? ⟨w.heap.size + 1, 3, none⟩ = false := frozen_of_row _ _ _ _ _ hm3.h4
      have hm4 := ((HM4.out.set (B' := ⟨la, lb, ha, B.hb⟩) 1 lb rfl).set (B' := ⟨la, lb, ha, hb⟩) 3 hb rfl).ext (Fr.nil _).drew
      have HM5 := Lib.hid hm4
      have H65 := Lib.hid (show (W3.setCell ⟨w.heap.size + 1, 1, none⟩ (.int .i64 lb)).drew.heap[cb]? = some (.cells x.arr 89) by
        show (W3.setCell ⟨w.heap.size + 1, 1, none⟩ (.int .i64 lb)).heap[cb]? = _
        rw [heap_setCell_other _ _ _ _ (show cb ≠ w.heap.size + 1 by omega)]; exact H64.out)
      clear hlb hhb hm2 hm3 hm4 a0 a2 a4 b4 hne hne2
      refine wpStillT_forced (by decide) (fun _ => ⟨⟨_, HM2'.out, H64.out, hlt⟩, rfl⟩) ⟨⟨W3.drew, H64.out⟩, rfl⟩ ?_
      go_wp2_with fail
      refine ⟨⟨⟨_, H65.out⟩, rfl⟩, wpStillT_nil ?_⟩
      go_wp2_with fail
      have hBn : (⟨la, lb, ha, hb⟩ : Bx) = B.add x := by
        unfold Bx.add
        rw [HLA.out, HHA.out, HLB.out, HHB.out]
        congr 1
        · split <;> omega
        · split <;> omega
        · split <;> omega
        · split <;> omega
      have hfin := HM5.out
      rw [hBn, ← HBS.out] at hfin
      exact ⟨⟨i + 1, by omega, by go_num, hfin⟩, by simp only [intOf]; omega⟩
    · obtain rfl : i = n := by omega
      have hni : ¬ (i : Int) < (i : Int) := by omega
      have hm9 := HM.out
      have hBn : B = boxL (x0 :: S) := by rw [HB.out, boxL_cons, List.take_of_length_le (by rw [← HN.out]; omega)]
      have c0 : W0.cell? ⟨w.heap.size + 1, 0, none⟩ = some (.int .i64 B.la) := by rw [cell_of_heap hm9.h4]; rfl
      have c1 : W0.cell? ⟨w.heap.size + 1, 1, none⟩ = some (.int .i64 B.lb) := by rw [cell_of_heap hm9.h4]; rfl
      have c2 : W0.cell? ⟨w.heap.size + 1, 2, none⟩ = some (.int .i64 B.ha) := by rw [cell_of_heap hm9.h4]; rfl
      have c3 : W0.cell? ⟨w.heap.size + 1, 3, none⟩ = some (.int .i64 B.hb) := by rw [cell_of_heap hm9.h4]; rfl
      have o0 : W0.cell? ⟨w.heap.size, 0, none⟩ = some (.int .i64 0) := by rw [cell_of_heap hm9.h2]; rfl
      have o1 : W0.cell? ⟨w.heap.size, 1, none⟩ = some (.int .i64 0) := by rw [cell_of_heap hm9.h2]; rfl
      have o2 : W0.cell? ⟨w.heap.size, 2, none⟩ = some (.int .i64 0) := by rw [cell_of_heap hm9.h2]; rfl
      have o3 : W0.cell? ⟨w.heap.size, 3, none⟩ = some (.int .i64 0) := by rw [cell_of_heap hm9.h2]; rfl
      have fr : ∀ k, W0.frozen? ⟨w.heap.size, k, none⟩ = false := fun k => frozen_of_row _ _ _ _ _ hm9.h2
      have t0 := heap_setCell_same _ w.heap.size 0 _ _ (.int .i64 B.la) hm9.h2
      have t1 := heap_setCell_same _ w.heap.size 1 _ _ (.int .i64 B.lb) t0
      have t2 := heap_setCell_same _ w.heap.size 2 _ _ (.int .i64 B.ha) t1
      have t3 := heap_setCell_same _ w.heap.size 3 _ _ (.int .i64 B.hb) t2
      have hle : w.heap.size ≤ w.heap.size := Nat.le_refl _
      have HF9 := Lib.hid ((((hm9.fr.setCell (a := ⟨w.heap.size, 0, none⟩) hle (.int .i64 B.la)).setCell (a := ⟨w.heap.size, 1, none⟩) hle (.int .i64 B.lb)).setCell (a := ⟨w.heap.size, 2, none⟩) hle (.int .i64 B.ha)).setCell (a := ⟨w.heap.size, 3, none⟩) hle (.int .i64 B.hb))
      have H9 := Lib.hid t3
      have HBN := Lib.hid hBn
      clear t0 t1 t2 t3 hle hm9 hBn
      go_wp2_with fail
      generalize ((((W0.setCell ⟨w.heap.size, 0, none⟩ (.int .i64 B.la)).setCell ⟨w.heap.size, 1, none⟩ (.int .i64 B.lb)).setCell ⟨w.heap.size, 2, none⟩ (.int .i64 B.ha)).setCell ⟨w.heap.size, 3, none⟩ (.int .i64 B.hb)) = W9 at *
      have y0 : W9.cell? ⟨w.heap.size, 0, none⟩ = some (.int .i64 B.la) := by rw [cell_of_heap H9.out]; rfl
      have y1 : W9.cell? ⟨w.heap.size, 1, none⟩ = some (.int .i64 B.lb) := by rw [cell_of_heap H9.out]; rfl
      have y2 : W9.cell? ⟨w.heap.size, 2, none⟩ = some (.int .i64 B.ha) := by rw [cell_of_heap H9.out]; rfl
      have y3 : W9.cell? ⟨w.heap.size, 3, none⟩ = some (.int .i64 B.hb) := by rw [cell_of_heap H9.out]; rfl
      refine bodyPost_ret (v := .tuple #[.agg #[.int .i64 B.la, .int .i64 B.lb, .int .i64 B.ha, .int .i64 B.hb], .bool true]) (by simp [results, Tryz.results42, go_sem, y0, y1, y2, y3]) rfl ⟨?_, HF9.out⟩
      rw [HBN.out]
      rfl
end Go.Proofs.YtnkdbpjmepfblaaGreatDoor
