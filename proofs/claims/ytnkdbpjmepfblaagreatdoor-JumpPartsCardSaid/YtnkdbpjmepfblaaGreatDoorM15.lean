/- Texts of the walk and its plain law, merged: FwB, BeE, BeF, BnA, BnB, FwC. -/
import Derived.Test.YtnkdbpjmepfblaaGreatDoorM14
import Derived.Test.YtnkdbpjmepfblaaGreatDoorM12
/- Cells drawn: l4.Some. -/
namespace Go.Proofs.YtnkdbpjmepfblaaGreatDoor
open Go Go.RowKit

theorem take_succ_map {α β : Type} (f : α → β) (L : List α) (i : Nat) (x : α) (h : L[i]? = some x) : (L.take (i + 1)).map f = (L.take i).map f ++ [f x] := by
  rw [List.take_add_one, h]; simp
theorem SR.cellsAt {w : World} {g o : Nat} {L : List Ce} (h : ∀ (t : Nat) (u : Value), (cflat L)[t]? = some u → w.cell? ⟨g, o + t, none⟩ = some u) {i : Nat} {x : Ce} (hi : L[i]? = some x) :
    w.cell? ⟨g, o + i * 3, none⟩ = some (.int .i64 x.a) ∧ w.cell? ⟨g, o + i * 3 + 1, none⟩ = some (.int .i64 x.b) ∧ w.cell? ⟨g, o + i * 3 + 2, none⟩ = some (.int .i64 x.h) := by
  have hk := fun k hk u hu => h (i * 3 + k) u (by rw [cflat_get L i x hi k hk]; exact hu)
  refine ⟨?_, ?_, ?_⟩
  · have := hk 0 (by omega) _ rfl
    simpa using this
  · have := hk 1 (by omega) _ rfl
    rw [← Nat.add_assoc] at this; exact this
  · have := hk 2 (by omega) _ rfl
    rw [← Nat.add_assoc] at this; exact this
def someL (lat : Int) (L : List Ce) : List Ce := (L.take 40).map (someC lat)
set_option maxRecDepth 100000 in
set_option maxHeartbeats 1600000 in
theorem some4_c {w : World} {v : Value} {L : List Ce} (h : SR w v L) (hlen : L.length ≤ 9223372036854775807) (lat : Int) :
    Calls Tryz.prog 55 #[.int .i64 lat, v] w fun e w' => ∃ v', e = .returned v' ∧ SR w' v' (setL (someL lat L)) ∧ Fr w [] w' [] := by
  have HSR := Lib.hid h
  have hfr := (Fr.nil w).alloc (.cells #[] 89)
  have hrow0 : CeRow (w.alloc (.cells #[] 89)) w.heap.size 89 (.slice (some ⟨w.heap.size, 0, none⟩) 0 0) [] :=
    ⟨rfl, .inr ⟨w.heap.size, 0, #[], rfl, Nat.le_refl _, heap_new _ _, Nat.le_refl _, Nat.zero_le _, rfl, rfl⟩⟩
  have HFR := Lib.hid hfr
  have HROW0 := Lib.hid hrow0
  obtain ⟨i0, hi0, hz0, hz1, hz2⟩ := info_parts info89
  have HI0 := Lib.hid hi0
  have HI1 := Lib.hid hz0
  have HI2 := Lib.hid hz1
  have HI3 := Lib.hid hz2
  obtain ⟨ad, cap, hvs⟩ : ∃ ad cap, v = .slice ad L.length cap := by
    rcases h with ⟨h1, h2⟩ | ⟨g, o, cap, h1, _⟩
    · exact ⟨none, 0, by rw [h1, h2]; rfl⟩
    · exact ⟨_, cap, h1⟩
  subst hvs
  clear hfr hrow0 hi0 hz0 hz1 hz2 h
  go_enter Tryz.func55, Tryz.ntmps55
  go_wp2_with fail
  go_loopw [5, 6] (fun v5 v6 wr => ∃ i : Nat, i ≤ L.length ∧ i ≤ 40 ∧ v6 = .int .i64 i ∧ CeRow wr w.heap.size 89 v5 ((L.take i).map (someC lat)) ∧ Fr w [] wr []) (fun _ v _ => 40 - (intOf v).toNat)
  case atStart => exact ⟨0, by omega, by omega, rfl, HROW0.out, HFR.out⟩
  case round =>
    clear HFR HROW0
    obtain ⟨i, hi1, hi2, rfl, hrow, hF⟩ := hrel
    obtain ⟨W0, rfl⟩ : ∃ W0, W0 = wr := ⟨_, rfl⟩
    have HROW := Lib.hid hrow
    have HF := Lib.hid hF
    clear hrow hF
    by_cases hgo : i < L.length ∧ i < 40
    · obtain ⟨hl, h40⟩ := hgo
      have hli : (i : Int) < (L.length : Int) := by omega
      have h40i : (i : Int) < 40 := by omega
      obtain ⟨x, hx⟩ : ∃ x, L[i]? = some x := ⟨_, List.getElem?_eq_getElem hl⟩
      rcases HSR.out with ⟨h1, h2⟩ | ⟨g, o, cap', h1, hcells⟩
      · rw [h2] at hl; simp at hl
      simp only [Value.slice.injEq, true_and] at h1
      obtain ⟨rfl, rfl⟩ := h1
      have hsr : SR w (.slice (some ⟨g, o, none⟩) L.length cap) L := .inr ⟨g, o, cap, rfl, hcells⟩
      have hcw : ∀ (t : Nat) (u : Value), (cflat L)[t]? = some u → W0.cell? ⟨g, o + t, none⟩ = some u := by
        rcases hsr.ext HF.out with ⟨h3, _⟩ | ⟨g', o', c', h3, h4⟩
        · cases h3
        · simp only [Value.slice.injEq, Option.some.injEq, Addr.mk.injEq, true_and, and_true] at h3
          obtain ⟨⟨rfl, rfl⟩, _⟩ := h3
          exact h4
      have h3 := SR.cellsAt hcw hx
      obtain ⟨c0, c1, c2⟩ := h3
      have HX := Lib.hid hx
      have hsc := some3_c lat x W0
      unfold Ce.val at hsc
      have HSC := Lib.hid hsc
      clear hx hcells hcw hsr hsc
      go_wp2_with fail
      refine HSC.out.mono ?_
      rintro e w1 ⟨rfl, hF1⟩
      have hF1' := HF.out.trans hF1
      have hrow1 := HROW.out.ext hF1
      have hnew := heap_new w1 (.cells #[.int .i64 (someC lat x).a, .int .i64 (someC lat x).b, .int .i64 (someC lat x).h] 89)
      have hrow2 := hrow1.ext ((Fr.nil w1).alloc (.cells #[.int .i64 (someC lat x).a, .int .i64 (someC lat x).b, .int .i64 (someC lat x).h] 89))
      have HF1 := Lib.hid (hF1'.alloc (.cells #[.int .i64 (someC lat x).a, .int .i64 (someC lat x).b, .int .i64 (someC lat x).h] 89))
      have HNEW := Lib.hid hnew
      have HROW2 := Lib.hid hrow2
      have hml : ((L.take i).map (someC lat)).length = i := by rw [List.length_map, List.length_take]; omega
      have HML := Lib.hid hml
      clear hF1 hF1' hrow1 hrow2 hnew c0 c1 c2 hml
      go_wp2_with (at_builtin; refine wpList_append_own _ rfl (.tmp 18) (.tmp 25) 30 rfl w.heap.size 89 i0 _ 3 24 Tryz.underlying30 HI0.out HI1.out HI2.out HI3.out rfl (by decide) _ _ _ rfl HROW2.out ⟨w1.heap.size, 0, none⟩ 1 1 (someC lat x).cells rfl rfl ?c2 ?c1 ?c3 ?c4 ?c5 ?_)
      case c2 =>
        intro t u ht
        rw [addr_add, cell_of_heap HNEW.out]
        have : t = 0 ∨ t = 1 ∨ t = 2 := by have := (List.getElem?_eq_some_iff.1 ht).1; simp [Ce.cells] at this; omega
        rcases this with rfl | rfl | rfl <;> exact ht
      case c1 => intro u hu; simp only [Ce.cells, List.mem_cons, List.not_mem_nil, or_false] at hu; rcases hu with rfl | rfl | rfl <;> rfl
      case c3 => rw [HML.out]; unfold maxLen; omega
      case c4 => rw [HML.out]; omega
      case c5 => have := HF1.out.size; omega
      intro v' w' hown' hgr hnil
      have hrow3 : CeRow w' w.heap.size 89 v' ((L.take (i + 1)).map (someC lat)) := by
        rw [take_succ_map _ _ _ _ HX.out]
        unfold CeRow
        rw [List.length_append, HML.out, cflat_append, List.map_take]
        exact hown'
      have hF3 : Fr w [] w' [] := HF1.out.grown' hgr (fun k hk => (HROW2.out.lt hk).2)
      have HROW3 := Lib.hid hrow3
      have HF3 := Lib.hid hF3
      clear hown' hgr hnil hrow3 hF3
      go_wp2_with fail
      refine ⟨⟨i + 1, by omega, by omega, by go_num, HROW3.out, HF3.out⟩, by simp only [intOf]; omega⟩
    · have hfin : someL lat L = (L.take i).map (someC lat) := by
        unfold someL
        congr 1
        rcases Nat.lt_or_ge i L.length with h1 | h1
        · have : i = 40 := by omega
          rw [this]
        · rw [List.take_of_length_le (show L.length ≤ 40 by omega), List.take_of_length_le (by omega)]
      have hof := of_c HROW.out.sr (by rw [List.length_map, List.length_take]; omega)
      rw [← hfin] at hof
      have HOF := Lib.hid hof
      clear hfin hof
      by_cases hl : i < L.length
      · have h40 : i = 40 := by omega
        subst h40
        have hli : (40 : Int) < (L.length : Int) := by omega
        simp only [show ((40 : Nat) : Int) = 40 from rfl]
        go_wp2_with fail
        refine HOF.out.mono ?_
        rintro e w2 ⟨v', rfl, h1, h2⟩
        go_wp2_with fail
        go_ret
        exact ⟨_, rfl, h1, HF.out.trans h2⟩
      · have hli : ¬ (i : Int) < (L.length : Int) := by omega
        go_wp2_with fail
        refine HOF.out.mono ?_
        rintro e w2 ⟨v', rfl, h1, h2⟩
        go_wp2_with fail
        go_ret
        exact ⟨_, rfl, h1, HF.out.trans h2⟩
end Go.Proofs.YtnkdbpjmepfblaaGreatDoor

/- Cells beside: Beside. -/
namespace Go.Proofs.YtnkdbpjmepfblaaGreatDoor
open Go Go.RowKit

def outL (c : Ce) (N : List Ce) : List Ce := N.filter fun x => !decide (x = c)
theorem outL_succ (c : Ce) (N : List Ce) (i : Nat) (x : Ce) (hx : N[i]? = some x) : outL c (N.take (i + 1)) = if x = c then outL c (N.take i) else outL c (N.take i) ++ [x] := by
  unfold outL
  rw [List.take_add_one, hx, List.filter_append]
  by_cases h : x = c
  · simp [h]
  · simp [h]
theorem outL_len (c : Ce) (N : List Ce) (i : Nat) : (outL c (N.take i)).length ≤ i := by
  unfold outL
  have := List.length_filter_le (fun x => !decide (x = c)) (N.take i)
  rw [List.length_take] at this
  omega
theorem outL_all (c : Ce) (N : List Ce) (i : Nat) (h : N.length ≤ i) : outL c (N.take i) = outL c N := by rw [List.take_of_length_le h]
/-- What is needed of near. -/
structure NearC (l h : Int) (N : List Ce) : Prop where
  near : ∀ w, Calls Tryz.prog 183 #[.int .i64 l, .agg #[.int .i64 0, .int .i64 0, .int .i64 h]] w fun e w' => ∃ v, e = .returned v ∧ CeRow w' w.heap.size 89 v N ∧ Fr w [] w' []
  check : ∀ w, Calls Tryz.prog 120 #[.int .i64 l, .agg #[.int .i64 0, .int .i64 0, .int .i64 h]] w fun e w' => e = .returned .nilIface ∧ Fr w [] w' []
  len : N.length ≤ 100
  has : outL ⟨0, 0, h⟩ N ≠ []
  good : ∀ x ∈ setL (outL ⟨0, 0, h⟩ N), -10 ≤ x.a ∧ x.a ≤ 10 ∧ -10 ≤ x.b ∧ x.b ≤ 10
  setlen : (setL (outL ⟨0, 0, h⟩ N)).length ≤ 100
set_option maxRecDepth 100000 in
set_option maxHeartbeats 1600000 in
theorem beside_c (w : World) {l h : Int} {N : List Ce} (hN : NearC l h N) :
    Calls Tryz.prog 141 #[.int .i64 l, .agg #[.int .i64 0, .int .i64 0, .int .i64 h]] w fun e w' => ∃ g cap, e = .returned (.tuple #[.slice (some ⟨g, 0, none⟩) (setL (outL ⟨0, 0, h⟩ N)).length cap, .nilIface]) ∧ w.heap.size ≤ g ∧ SR w' (.slice (some ⟨g, 0, none⟩) (setL (outL ⟨0, 0, h⟩ N)).length cap) (setL (outL ⟨0, 0, h⟩ N)) ∧ Fr w [] w' [] := by
  have HNN := Lib.hid hN
  have HFA := Lib.hid ((Fr.nil w).alloc (.cells #[.int .i64 0, .int .i64 0, .int .i64 h] 89))
  have HBL := Lib.hid (heap_new w (.cells #[.int .i64 0, .int .i64 0, .int .i64 h] 89))
  have HSZ := Lib.hid (World.size_alloc w (.cells #[.int .i64 0, .int .i64 0, .int .i64 h] 89))
  obtain ⟨i0, hi0, hz0, hz1, hz2⟩ := info_parts info89
  have HI0 := Lib.hid hi0
  have HI1 := Lib.hid hz0
  have HI2 := Lib.hid hz1
  have HI3 := Lib.hid hz2
  have a0 : (w.alloc (.cells #[.int .i64 0, .int .i64 0, .int .i64 h] 89)).cell? ⟨w.heap.size, 0, none⟩ = some (.int .i64 0) := by rw [cell_of_heap (heap_new _ _)]; rfl
  have a1 : (w.alloc (.cells #[.int .i64 0, .int .i64 0, .int .i64 h] 89)).cell? ⟨w.heap.size, 1, none⟩ = some (.int .i64 0) := by rw [cell_of_heap (heap_new _ _)]; rfl
  have a2 : (w.alloc (.cells #[.int .i64 0, .int .i64 0, .int .i64 h] 89)).cell? ⟨w.heap.size, 2, none⟩ = some (.int .i64 h) := by rw [cell_of_heap (heap_new _ _)]; rfl
  clear hi0 hz0 hz1 hz2 hN
  go_enter Tryz.func141, Tryz.ntmps141
  go_wp2_with fail
  refine (HNN.out.check _).mono ?_
  rintro e w1 ⟨rfl, hf1⟩
  have HF1 := Lib.hid (HFA.out.trans hf1)
  have HB1 := Lib.hid (show w1.heap[w.heap.size]? = some (.cells #[.int .i64 0, .int .i64 0, .int .i64 h] 89) by rw [hf1.keep _ (by rw [HSZ.out]; omega) (by simp)]; exact HBL.out)
  have HS1 := Lib.hid (show w.heap.size < w1.heap.size by have := hf1.size; rw [HSZ.out] at this; omega)
  have b0 : w1.cell? ⟨w.heap.size, 0, none⟩ = some (.int .i64 0) := by rw [cell_of_heap HB1.out]; rfl
  have b1 : w1.cell? ⟨w.heap.size, 1, none⟩ = some (.int .i64 0) := by rw [cell_of_heap HB1.out]; rfl
  have b2 : w1.cell? ⟨w.heap.size, 2, none⟩ = some (.int .i64 h) := by rw [cell_of_heap HB1.out]; rfl
  clear hf1 a0 a1 a2
  go_wp2_with fail
  refine (HNN.out.near _).mono ?_
  rintro e w2 ⟨vn, rfl, hrow2, hf2⟩
  have HF2 := Lib.hid (HF1.out.trans hf2)
  have HB2 := Lib.hid (show w2.heap[w.heap.size]? = some (.cells #[.int .i64 0, .int .i64 0, .int .i64 h] 89) by rw [hf2.keep _ HS1.out (by simp)]; exact HB1.out)
  have HS2 := Lib.hid (Nat.lt_of_lt_of_le HS1.out hf2.size)
  have HSR := Lib.hid hrow2.sr
  obtain ⟨ad, cap, hvs⟩ : ∃ ad cap, vn = .slice ad N.length cap := by
    rcases hrow2.sr with ⟨h1, h2⟩ | ⟨g, o, cap, h1, _⟩
    · exact ⟨none, 0, by rw [h1, h2]; rfl⟩
    · exact ⟨_, cap, h1⟩
  subst hvs
  clear hf2 hrow2 b0 b1 b2
  go_wp2_with fail
  go_loopw [7, 22] (fun v5 v6 wr => ∃ i : Nat, i ≤ N.length ∧ v6 = .int .i64 i ∧ CeRow wr w2.heap.size 89 v5 (outL ⟨0, 0, h⟩ (N.take i)) ∧ Fr w2 [] wr []) (fun _ v _ => N.length - (intOf v).toNat)
  case atStart => exact ⟨0, by omega, rfl, ⟨rfl, .inl ⟨rfl, rfl⟩⟩, Fr.nil _⟩
  case round =>
    obtain ⟨i, hi, rfl, hrow, hF⟩ := hrel
    obtain ⟨W0, rfl⟩ : ∃ W0, W0 = wr := ⟨_, rfl⟩
    have HROW := Lib.hid hrow
    have HF := Lib.hid hF
    clear hrow hF
    obtain ⟨c, hce⟩ : ∃ c : Ce, c = ⟨0, 0, h⟩ := ⟨_, rfl⟩
    have HCE := Lib.hid hce
    clear hce
    by_cases hgo : i < N.length
    · have hli : (i : Int) < (N.length : Int) := by omega
      have hl100 := HNN.out.len
      obtain ⟨x, hx⟩ : ∃ x, N[i]? = some x := ⟨_, List.getElem?_eq_getElem hgo⟩
      rcases HSR.out with ⟨h1, h2⟩ | ⟨g, o, cap', h1, hcells⟩
      · rw [h2] at hgo; simp at hgo
      simp only [Value.slice.injEq, true_and] at h1
      obtain ⟨rfl, rfl⟩ := h1
      have hsr : SR w2 (.slice (some ⟨g, o, none⟩) N.length cap) N := .inr ⟨g, o, cap, rfl, hcells⟩
      have hcw : ∀ (t : Nat) (u : Value), (cflat N)[t]? = some u → W0.cell? ⟨g, o + t, none⟩ = some u := by
        rcases hsr.ext HF.out with ⟨h3, _⟩ | ⟨g', o', c', h3, h4⟩
        · cases h3
        · simp only [Value.slice.injEq, Option.some.injEq, Addr.mk.injEq, true_and, and_true] at h3
          obtain ⟨⟨rfl, rfl⟩, _⟩ := h3
          exact h4
      have c0 : W0.cell? ⟨g, o + i * 3, none⟩ = some (.int .i64 x.a) := (SR.cellsAt hcw hx).1
      have c1 : W0.cell? ⟨g, o + i * 3 + 1, none⟩ = some (.int .i64 x.b) := (SR.cellsAt hcw hx).2.1
      have c2 : W0.cell? ⟨g, o + i * 3 + 2, none⟩ = some (.int .i64 x.h) := (SR.cellsAt hcw hx).2.2
      have hb3 : (W0.alloc (.cells #[.int .i64 x.a, .int .i64 x.b, .int .i64 x.h] 89)).heap[w.heap.size]? = some (.cells #[.int .i64 0, .int .i64 0, .int .i64 h] 89) := by rw [(HF.out.alloc _).keep _ HS2.out (by simp)]; exact HB2.out
      have d0 : (W0.alloc (.cells #[.int .i64 x.a, .int .i64 x.b, .int .i64 x.h] 89)).cell? ⟨w.heap.size, 0, none⟩ = some (.int .i64 c.a) := by rw [cell_of_heap hb3, HCE.out]; rfl
      have d1 : (W0.alloc (.cells #[.int .i64 x.a, .int .i64 x.b, .int .i64 x.h] 89)).cell? ⟨w.heap.size, 1, none⟩ = some (.int .i64 c.b) := by rw [cell_of_heap hb3, HCE.out]; rfl
      have d2 : (W0.alloc (.cells #[.int .i64 x.a, .int .i64 x.b, .int .i64 x.h] 89)).cell? ⟨w.heap.size, 2, none⟩ = some (.int .i64 c.h) := by rw [cell_of_heap hb3, HCE.out]; rfl
      have e0 : (W0.alloc (.cells #[.int .i64 x.a, .int .i64 x.b, .int .i64 x.h] 89)).cell? ⟨W0.heap.size, 0, none⟩ = some (.int .i64 x.a) := by rw [cell_of_heap (heap_new _ _)]; rfl
      have e1 : (W0.alloc (.cells #[.int .i64 x.a, .int .i64 x.b, .int .i64 x.h] 89)).cell? ⟨W0.heap.size, 1, none⟩ = some (.int .i64 x.b) := by rw [cell_of_heap (heap_new _ _)]; rfl
      have e2 : (W0.alloc (.cells #[.int .i64 x.a, .int .i64 x.b, .int .i64 x.h] 89)).cell? ⟨W0.heap.size, 2, none⟩ = some (.int .i64 x.h) := by rw [cell_of_heap (heap_new _ _)]; rfl
      have HX := Lib.hid hx
      have hneq := fun w => neq89 x c w
      clear hx hcells hcw hsr hb3
      by_cases hxc : x = c
      · rw [decide_eq_true hxc] at hneq
        have HROW1 := Lib.hid (show CeRow (W0.alloc (.cells #[.int .i64 x.a, .int .i64 x.b, .int .i64 x.h] 89)) w2.heap.size 89 u7 (outL ⟨0, 0, h⟩ (N.take (i + 1))) by rw [outL_succ _ _ _ _ HX.out, if_pos (hxc.trans HCE.out)]; exact HROW.out.ext ((Fr.nil W0).alloc _))
        have HF3 := Lib.hid (HF.out.alloc (.cells #[.int .i64 x.a, .int .i64 x.b, .int .i64 x.h] 89))
        clear hxc
        simp only [Bool.not_true] at hneq
        go_wp2_with fail
        refine ⟨⟨i + 1, by omega, by go_num, HROW1.out, HF3.out⟩, by simp only [intOf]; omega⟩
      · rw [decide_eq_false hxc] at hneq
        have HN := Lib.hid (show outL ⟨0, 0, h⟩ (N.take (i + 1)) = outL ⟨0, 0, h⟩ (N.take i) ++ [x] by rw [outL_succ _ _ _ _ HX.out, if_neg (fun e => hxc (e.trans HCE.out.symm))])
        have HML := Lib.hid (outL_len ⟨0, 0, h⟩ N i)
        have hfa := (Fr.nil (W0.alloc (.cells #[.int .i64 x.a, .int .i64 x.b, .int .i64 x.h] 89))).alloc (.cells #[.int .i64 x.a, .int .i64 x.b, .int .i64 x.h] 89)
        have HROW2 := Lib.hid ((HROW.out.ext ((Fr.nil W0).alloc (.cells #[.int .i64 x.a, .int .i64 x.b, .int .i64 x.h] 89))).ext hfa)
        have HF3 := Lib.hid ((HF.out.alloc (.cells #[.int .i64 x.a, .int .i64 x.b, .int .i64 x.h] 89)).trans hfa)
        have HNEW := Lib.hid (heap_new (W0.alloc (.cells #[.int .i64 x.a, .int .i64 x.b, .int .i64 x.h] 89)) (.cells #[.int .i64 x.a, .int .i64 x.b, .int .i64 x.h] 89))
        have HLEN := Lib.hid hl100
        clear hxc hfa
        simp only [Bool.not_false] at hneq
        go_wp2_with (at_builtin; refine wpList_append_own _ rfl (.tmp 29) (.tmp 31) 30 rfl w2.heap.size 89 i0 _ 3 24 Tryz.underlying30 HI0.out HI1.out HI2.out HI3.out rfl (by decide) _ _ _ rfl HROW2.out ⟨W0.heap.size + 1, 0, none⟩ 1 1 x.cells rfl rfl ?c2 ?c1 ?c3 ?c4 ?c5 ?_)
        case c2 =>
          intro t u ht
          have hnn := HNEW.out
          rw [World.size_alloc] at hnn
          rw [addr_add, cell_of_heap hnn]
          have : t = 0 ∨ t = 1 ∨ t = 2 := by have := (List.getElem?_eq_some_iff.1 ht).1; simp [Ce.cells] at this; omega
          rcases this with rfl | rfl | rfl <;> exact ht
        case c1 => intro u hu; simp only [Ce.cells, List.mem_cons, List.not_mem_nil, or_false] at hu; rcases hu with rfl | rfl | rfl <;> rfl
        case c3 => have := HML.out; have := HLEN.out; unfold maxLen; omega
        case c4 => have := HML.out; have := HLEN.out; omega
        case c5 => have := HF3.out.size; omega
        intro v' w' hown' hgr hnil
        have hrow3 : CeRow w' w2.heap.size 89 v' (outL ⟨0, 0, h⟩ (N.take (i + 1))) := by
          rw [HN.out]
          unfold CeRow
          rw [List.length_append, cflat_append]
          exact hown'
        have HF4 := Lib.hid (HF3.out.grown' hgr (fun k hk => (HROW2.out.lt hk).2))
        have HROW3 := Lib.hid hrow3
        clear hown' hgr hnil hrow3 c0 c1 c2 d0 d1 d2 e0 e1 e2 hneq
        go_wp2_with fail
        refine ⟨⟨i + 1, by omega, by go_num, HROW3.out, HF4.out⟩, by simp only [intOf]; omega⟩
    · have hni : ¬ (i : Int) < (N.length : Int) := by omega
      have hrow := HROW.out
      rw [outL_all _ _ _ (by omega)] at hrow
      have HROW1 := Lib.hid hrow
      have hne := HNN.out.has
      obtain ⟨g, cap2, hv⟩ : ∃ g cap2, u7 = .slice (some ⟨g, 0, none⟩) (outL ⟨0, 0, h⟩ N).length cap2 := by
        rcases hrow.2 with ⟨_, h0⟩ | ⟨g, cap, cur, hv, _⟩
        · exact absurd (List.length_eq_zero_iff.1 h0) hne
        · exact ⟨g, cap, hv⟩
      subst hv
      have hg := HROW1.out.lt rfl
      have HOL := Lib.hid (show (outL ⟨0, 0, h⟩ N).length ≤ 100 from Nat.le_trans (List.length_filter_le _ _) HNN.out.len)
      clear hrow hne
      go_wp2_with fail
      refine (sort_c HROW1.out (by have := HOL.out; omega)).mono ?_
      rintro e w3 ⟨rfl, hrow3, hF3⟩
      have hcp := compact_c hrow3
      rw [sortL_len] at hcp
      have HCP := Lib.hid hcp
      have HF3 := Lib.hid hF3
      clear hrow3 hF3 hcp
      go_wp2_with fail
      refine HCP.out.mono ?_
      rintro e w4 ⟨rfl, hsr4, hF4⟩
      have HSR4 := Lib.hid hsr4
      have HF4 := Lib.hid (Fr.drop HF.out (HF3.out.trans hF4) hg.2)
      have hfold : compL (sortL (outL ⟨0, 0, h⟩ N)) = setL (outL ⟨0, 0, h⟩ N) := rfl
      rw [hfold] at hsr4 ⊢
      obtain ⟨S, hS⟩ : ∃ S, S = setL (outL ⟨0, 0, h⟩ N) := ⟨_, rfl⟩
      rw [← hS] at hsr4 ⊢
      have HS := Lib.hid hS
      have HSR5 := Lib.hid hsr4
      have HSL := Lib.hid (show S.length ≤ 100 by rw [hS]; exact HNN.out.setlen)
      have HSG := Lib.hid (show ∀ x ∈ S, -10 ≤ x.a ∧ x.a ≤ 10 ∧ -10 ≤ x.b ∧ x.b ≤ 10 by rw [hS]; exact HNN.out.good)
      have HGE := Lib.hid (Nat.le_trans HF2.out.size hg.2)
      clear hF4 hfold hS hg hsr4 HSR4 HF3 HF HROW1 HROW HSR hi
      go_wp2_with fail
      go_loopw [40] (fun v6 wr => ∃ i : Nat, i ≤ S.length ∧ v6 = .int .i64 i ∧ Fr w4 [] wr []) (fun v _ => S.length - (intOf v).toNat)
      case atStart => exact ⟨0, by omega, rfl, Fr.nil _⟩
      case round =>
        obtain ⟨i, hi, rfl, hF⟩ := hrel
        obtain ⟨W0, rfl⟩ : ∃ W0, W0 = wr := ⟨_, rfl⟩
        have HF := Lib.hid hF
        clear hF
        by_cases hgo : i < S.length
        · have hli : (i : Int) < (S.length : Int) := by omega
          have hl100 := HSL.out
          obtain ⟨x, hx⟩ : ∃ x, S[i]? = some x := ⟨_, List.getElem?_eq_getElem hgo⟩
          rcases HSR5.out with ⟨h1, h2⟩ | ⟨g, o, cap', h1, hcells⟩
          · cases h1
          simp only [Value.slice.injEq, true_and, Option.some.injEq, Addr.mk.injEq, and_true] at h1
          obtain ⟨⟨rfl, rfl⟩, rfl⟩ := h1
          have hsr := HSR5.out
          have hcw : ∀ (t : Nat) (u : Value), (cflat S)[t]? = some u → W0.cell? ⟨g, 0 + t, none⟩ = some u := by
            rcases hsr.ext HF.out with ⟨h3, _⟩ | ⟨g', o', c', h3, h4⟩
            · cases h3
            · simp only [Value.slice.injEq, Option.some.injEq, Addr.mk.injEq, true_and, and_true] at h3
              obtain ⟨⟨rfl, rfl⟩, _⟩ := h3
              exact h4
          have c0 : W0.cell? ⟨g, i * 3, none⟩ = some (.int .i64 x.a) := by have := (SR.cellsAt hcw hx).1; rwa [Nat.zero_add] at this
          have c1 : W0.cell? ⟨g, i * 3 + 1, none⟩ = some (.int .i64 x.b) := by have := (SR.cellsAt hcw hx).2.1; rwa [Nat.zero_add] at this
          have c2 : W0.cell? ⟨g, i * 3 + 2, none⟩ = some (.int .i64 x.h) := by have := (SR.cellsAt hcw hx).2.2; rwa [Nat.zero_add] at this
          have e0 : (W0.alloc (.cells #[.int .i64 x.a, .int .i64 x.b, .int .i64 x.h] 89)).cell? ⟨W0.heap.size, 0, none⟩ = some (.int .i64 x.a) := by rw [cell_of_heap (heap_new _ _)]; rfl
          have e1 : (W0.alloc (.cells #[.int .i64 x.a, .int .i64 x.b, .int .i64 x.h] 89)).cell? ⟨W0.heap.size, 1, none⟩ = some (.int .i64 x.b) := by rw [cell_of_heap (heap_new _ _)]; rfl
          obtain ⟨k1, k2, k3, k4⟩ := HSG.out x (List.mem_of_getElem? hx)
          have HGC := Lib.hid (good_c x.a x.b (by omega) (by omega) (by omega) (by omega))
          have HF5 := Lib.hid (HF.out.alloc (.cells #[.int .i64 x.a, .int .i64 x.b, .int .i64 x.h] 89))
          clear hx hcells hcw hsr k1 k2 k3 k4
          go_wp2_with fail
          refine (HGC.out _).mono ?_
          rintro e w5 ⟨rfl, hf5⟩
          have HF6 := Lib.hid (HF5.out.trans hf5)
          clear hf5
          go_wp2_with fail
          refine ⟨⟨i + 1, by omega, by go_num, HF6.out⟩, by simp only [intOf]; omega⟩
        · have hni : ¬ (i : Int) < (S.length : Int) := by omega
          go_wp2_with fail
          go_ret2
          exact ⟨g, cap2, by rw [← HS.out]; rfl, HGE.out, by rw [← HS.out]; exact HSR5.out.ext HF.out, (HF2.out.trans HF4.out).trans HF.out⟩
end Go.Proofs.YtnkdbpjmepfblaaGreatDoor

/- Cells beside: the lists. -/
namespace Go.Proofs.YtnkdbpjmepfblaaGreatDoor
open Go Go.RowKit

theorem Ce.lt_tri (x y : Ce) (h1 : y.lt x = false) (h2 : x.lt y = false) : x = y := by
  obtain ⟨a, b, h⟩ := x
  obtain ⟨a', b', h'⟩ := y
  unfold Ce.lt at h1 h2
  simp only [Ce.mk.injEq]
  grind
theorem sortL_eq {L M : List Ce} (hp : M.Perm L) (hs : M.Pairwise fun x y => y.lt x = false) : sortL L = M := by
  have h1 : (sortL L).Perm L := List.mergeSort_perm _ _
  have h2 : (sortL L).Pairwise fun x y => y.lt x = false := by
    have := List.pairwise_mergeSort (le := fun x y : Ce => !(y.lt x)) (fun a b c h1 h2 => by
      obtain ⟨_, _, _⟩ := a; obtain ⟨_, _, _⟩ := b; obtain ⟨_, _, _⟩ := c
      simp only [Ce.lt] at *
      grind) (fun a b => by
      obtain ⟨_, _, _⟩ := a; obtain ⟨_, _, _⟩ := b
      simp only [Ce.lt] at *
      grind) L
    unfold sortL
    exact this.imp (by intro a b h; simpa using h)
  exact (h1.trans hp.symm).eq_of_pairwise (fun a b _ _ h1 h2 => Ce.lt_tri _ _ h1 h2) h2 hs
theorem setL_eq {L : List Ce} (M : List Ce) (hp : (M.isPerm L) = true) (hs : decide (M.Pairwise fun x y => y.lt x = false) = true) : setL L = compL M := by
  unfold setL
  rw [sortL_eq (List.isPerm_iff.1 hp) (of_decide_eq_true hs)]
def bes20 : List Ce := [⟨0, -1, 1⟩, ⟨-1, 0, 1⟩, ⟨0, 0, 1⟩]
theorem set20 : setL (outL ⟨0, 0, 0⟩ (near2L 0 3)) = bes20 := (setL_eq [⟨0, -1, 1⟩, ⟨-1, 0, 1⟩, ⟨0, 0, 1⟩] (by decide +kernel) (by decide +kernel)).trans (by decide +kernel)
theorem near20 : NearC 2 0 (near2L 0 3) :=
  ⟨fun w => near2_c w 0 (by decide) (by decide), fun w => check_c 2 0 (by decide) (by decide) (by decide) (by decide) w, by decide, by decide +kernel, by rw [set20]; decide, by rw [set20]; decide⟩
def bes21 : List Ce := [⟨0, 0, 0⟩, ⟨1, 0, 0⟩, ⟨0, 1, 0⟩]
theorem set21 : setL (outL ⟨0, 0, 1⟩ (near2L 1 3)) = bes21 := (setL_eq [⟨0, 0, 0⟩, ⟨1, 0, 0⟩, ⟨0, 1, 0⟩] (by decide +kernel) (by decide +kernel)).trans (by decide +kernel)
theorem near21 : NearC 2 1 (near2L 1 3) :=
  ⟨fun w => near2_c w 1 (by decide) (by decide), fun w => check_c 2 1 (by decide) (by decide) (by decide) (by decide) w, by decide, by decide +kernel, by rw [set21]; decide, by rw [set21]; decide⟩
def bes30 : List Ce := [⟨-1, -1, 1⟩, ⟨0, -1, 0⟩, ⟨0, -1, 1⟩, ⟨1, -1, 0⟩, ⟨1, -1, 1⟩, ⟨-1, 0, 0⟩, ⟨-1, 0, 1⟩, ⟨0, 0, 1⟩, ⟨1, 0, 0⟩, ⟨-1, 1, 0⟩, ⟨-1, 1, 1⟩, ⟨0, 1, 0⟩]
theorem set30 : setL (outL ⟨0, 0, 0⟩ (near3L 0 3)) = bes30 := (setL_eq [⟨-1, -1, 1⟩, ⟨0, -1, 0⟩, ⟨0, -1, 1⟩, ⟨0, -1, 1⟩, ⟨1, -1, 0⟩, ⟨1, -1, 1⟩, ⟨-1, 0, 0⟩, ⟨-1, 0, 1⟩, ⟨-1, 0, 1⟩, ⟨0, 0, 1⟩, ⟨0, 0, 1⟩, ⟨1, 0, 0⟩, ⟨-1, 1, 0⟩, ⟨-1, 1, 1⟩, ⟨0, 1, 0⟩] (by decide +kernel) (by decide +kernel)).trans (by decide +kernel)
theorem near30 : NearC 3 0 (near3L 0 3) :=
  ⟨fun w => near3_c w 0 (by decide) (by decide), fun w => check_c 3 0 (by decide) (by decide) (by decide) (by decide) w, by decide, by decide +kernel, by rw [set30]; decide, by rw [set30]; decide⟩
def bes31 : List Ce := [⟨0, -1, 1⟩, ⟨1, -1, 0⟩, ⟨1, -1, 1⟩, ⟨-1, 0, 1⟩, ⟨0, 0, 0⟩, ⟨1, 0, 0⟩, ⟨1, 0, 1⟩, ⟨-1, 1, 0⟩, ⟨-1, 1, 1⟩, ⟨0, 1, 0⟩, ⟨0, 1, 1⟩, ⟨1, 1, 0⟩]
theorem set31 : setL (outL ⟨0, 0, 1⟩ (near3L 1 3)) = bes31 := (setL_eq [⟨0, -1, 1⟩, ⟨1, -1, 0⟩, ⟨1, -1, 1⟩, ⟨-1, 0, 1⟩, ⟨0, 0, 0⟩, ⟨0, 0, 0⟩, ⟨1, 0, 0⟩, ⟨1, 0, 0⟩, ⟨1, 0, 1⟩, ⟨-1, 1, 0⟩, ⟨-1, 1, 1⟩, ⟨0, 1, 0⟩, ⟨0, 1, 0⟩, ⟨0, 1, 1⟩, ⟨1, 1, 0⟩] (by decide +kernel) (by decide +kernel)).trans (by decide +kernel)
theorem near31 : NearC 3 1 (near3L 1 3) :=
  ⟨fun w => near3_c w 1 (by decide) (by decide), fun w => check_c 3 1 (by decide) (by decide) (by decide) (by decide) w, by decide, by decide +kernel, by rw [set31]; decide, by rw [set31]; decide⟩
end Go.Proofs.YtnkdbpjmepfblaaGreatDoor

/- block.New: the six, most, Table.Check. -/
namespace Go.Proofs.YtnkdbpjmepfblaaGreatDoor
open Go Go.RowKit

def sixA : Array Value := #[.int .i64 1, .int .i64 0, .int .i64 0, .int .i64 1, .int .i64 (-1), .int .i64 1, .int .i64 (-1), .int .i64 0, .int .i64 0, .int .i64 (-1), .int .i64 1, .int .i64 (-1)]
/-- The list of the six lies in the memory. -/
structure SixW (w : World) : Prop where
  pos : 0 < w.heap.size
  cell : ∀ (i : Nat) (v : Value), sixA[i]? = some v → w.cell? ⟨0, i, none⟩ = some v
theorem SixW.ext {w w' : World} (h : SixW w) (hf : Fr w [] w' []) : SixW w' :=
  ⟨Nat.lt_of_lt_of_le h.pos hf.size, fun i v hv => by
    have := h.cell i v hv
    have hk := hf.keep 0 h.pos (by simp)
    rw [← this]
    simp only [World.cell?]
    rw [hk]⟩
set_option maxRecDepth 100000 in
theorem six_c {w : World} (hw : SixW w) : Calls Tryz.prog 140 #[] w fun e w' => e = .returned (.agg sixA) ∧ Fr w [] w' [] := by
  have HF := Lib.hid ((Fr.nil w).alloc (.cells #[.int .i64 0, .int .i64 0, .int .i64 0, .int .i64 0, .int .i64 0, .int .i64 0, .int .i64 0, .int .i64 0, .int .i64 0, .int .i64 0, .int .i64 0, .int .i64 0] 205))
  have HW1 := Lib.hid (hw.ext ((Fr.nil w).alloc (.cells #[.int .i64 0, .int .i64 0, .int .i64 0, .int .i64 0, .int .i64 0, .int .i64 0, .int .i64 0, .int .i64 0, .int .i64 0, .int .i64 0, .int .i64 0, .int .i64 0] 205)))
  have g0 : (w.alloc (.cells #[.int .i64 0, .int .i64 0, .int .i64 0, .int .i64 0, .int .i64 0, .int .i64 0, .int .i64 0, .int .i64 0, .int .i64 0, .int .i64 0, .int .i64 0, .int .i64 0] 205)).cell? ⟨0, 0, none⟩ = some (.int .i64 1) := HW1.out.cell 0 _ rfl
  have g1 : (w.alloc (.cells #[.int .i64 0, .int .i64 0, .int .i64 0, .int .i64 0, .int .i64 0, .int .i64 0, .int .i64 0, .int .i64 0, .int .i64 0, .int .i64 0, .int .i64 0, .int .i64 0] 205)).cell? ⟨0, 1, none⟩ = some (.int .i64 0) := HW1.out.cell 1 _ rfl
  have g2 : (w.alloc (.cells #[.int .i64 0, .int .i64 0, .int .i64 0, .int .i64 0, .int .i64 0, .int .i64 0, .int .i64 0, .int .i64 0, .int .i64 0, .int .i64 0, .int .i64 0, .int .i64 0] 205)).cell? ⟨0, 2, none⟩ = some (.int .i64 0) := HW1.out.cell 2 _ rfl
  have g3 : (w.alloc (.cells #[.int .i64 0, .int .i64 0, .int .i64 0, .int .i64 0, .int .i64 0, .int .i64 0, .int .i64 0, .int .i64 0, .int .i64 0, .int .i64 0, .int .i64 0, .int .i64 0] 205)).cell? ⟨0, 3, none⟩ = some (.int .i64 1) := HW1.out.cell 3 _ rfl
  have g4 : (w.alloc (.cells #[.int .i64 0, .int .i64 0, .int .i64 0, .int .i64 0, .int .i64 0, .int .i64 0, .int .i64 0, .int .i64 0, .int .i64 0, .int .i64 0, .int .i64 0, .int .i64 0] 205)).cell? ⟨0, 4, none⟩ = some (.int .i64 (-1)) := HW1.out.cell 4 _ rfl
  have g5 : (w.alloc (.cells #[.int .i64 0, .int .i64 0, .int .i64 0, .int .i64 0, .int .i64 0, .int .i64 0, .int .i64 0, .int .i64 0, .int .i64 0, .int .i64 0, .int .i64 0, .int .i64 0] 205)).cell? ⟨0, 5, none⟩ = some (.int .i64 1) := HW1.out.cell 5 _ rfl
  have g6 : (w.alloc (.cells #[.int .i64 0, .int .i64 0, .int .i64 0, .int .i64 0, .int .i64 0, .int .i64 0, .int .i64 0, .int .i64 0, .int .i64 0, .int .i64 0, .int .i64 0, .int .i64 0] 205)).cell? ⟨0, 6, none⟩ = some (.int .i64 (-1)) := HW1.out.cell 6 _ rfl
  have g7 : (w.alloc (.cells #[.int .i64 0, .int .i64 0, .int .i64 0, .int .i64 0, .int .i64 0, .int .i64 0, .int .i64 0, .int .i64 0, .int .i64 0, .int .i64 0, .int .i64 0, .int .i64 0] 205)).cell? ⟨0, 7, none⟩ = some (.int .i64 0) := HW1.out.cell 7 _ rfl
  have g8 : (w.alloc (.cells #[.int .i64 0, .int .i64 0, .int .i64 0, .int .i64 0, .int .i64 0, .int .i64 0, .int .i64 0, .int .i64 0, .int .i64 0, .int .i64 0, .int .i64 0, .int .i64 0] 205)).cell? ⟨0, 8, none⟩ = some (.int .i64 0) := HW1.out.cell 8 _ rfl
  have g9 : (w.alloc (.cells #[.int .i64 0, .int .i64 0, .int .i64 0, .int .i64 0, .int .i64 0, .int .i64 0, .int .i64 0, .int .i64 0, .int .i64 0, .int .i64 0, .int .i64 0, .int .i64 0] 205)).cell? ⟨0, 9, none⟩ = some (.int .i64 (-1)) := HW1.out.cell 9 _ rfl
  have g10 : (w.alloc (.cells #[.int .i64 0, .int .i64 0, .int .i64 0, .int .i64 0, .int .i64 0, .int .i64 0, .int .i64 0, .int .i64 0, .int .i64 0, .int .i64 0, .int .i64 0, .int .i64 0] 205)).cell? ⟨0, 10, none⟩ = some (.int .i64 1) := HW1.out.cell 10 _ rfl
  have g11 : (w.alloc (.cells #[.int .i64 0, .int .i64 0, .int .i64 0, .int .i64 0, .int .i64 0, .int .i64 0, .int .i64 0, .int .i64 0, .int .i64 0, .int .i64 0, .int .i64 0, .int .i64 0] 205)).cell? ⟨0, 11, none⟩ = some (.int .i64 (-1)) := HW1.out.cell 11 _ rfl
  go_enter Tryz.func140, Tryz.ntmps140
  go_wp2_with fail
  have y0 : (w.alloc (.cells #[.int .i64 1, .int .i64 0, .int .i64 0, .int .i64 1, .int .i64 (-1), .int .i64 1, .int .i64 (-1), .int .i64 0, .int .i64 0, .int .i64 (-1), .int .i64 1, .int .i64 (-1)] 205)).cell? ⟨w.heap.size, 0, none⟩ = some (.int .i64 1) := by rw [cell_of_heap (heap_new _ _)]; rfl
  have y1 : (w.alloc (.cells #[.int .i64 1, .int .i64 0, .int .i64 0, .int .i64 1, .int .i64 (-1), .int .i64 1, .int .i64 (-1), .int .i64 0, .int .i64 0, .int .i64 (-1), .int .i64 1, .int .i64 (-1)] 205)).cell? ⟨w.heap.size, 1, none⟩ = some (.int .i64 0) := by rw [cell_of_heap (heap_new _ _)]; rfl
  have y2 : (w.alloc (.cells #[.int .i64 1, .int .i64 0, .int .i64 0, .int .i64 1, .int .i64 (-1), .int .i64 1, .int .i64 (-1), .int .i64 0, .int .i64 0, .int .i64 (-1), .int .i64 1, .int .i64 (-1)] 205)).cell? ⟨w.heap.size, 2, none⟩ = some (.int .i64 0) := by rw [cell_of_heap (heap_new _ _)]; rfl
  have y3 : (w.alloc (.cells #[.int .i64 1, .int .i64 0, .int .i64 0, .int .i64 1, .int .i64 (-1), .int .i64 1, .int .i64 (-1), .int .i64 0, .int .i64 0, .int .i64 (-1), .int .i64 1, .int .i64 (-1)] 205)).cell? ⟨w.heap.size, 3, none⟩ = some (.int .i64 1) := by rw [cell_of_heap (heap_new _ _)]; rfl
  have y4 : (w.alloc (.cells #[.int .i64 1, .int .i64 0, .int .i64 0, .int .i64 1, .int .i64 (-1), .int .i64 1, .int .i64 (-1), .int .i64 0, .int .i64 0, .int .i64 (-1), .int .i64 1, .int .i64 (-1)] 205)).cell? ⟨w.heap.size, 4, none⟩ = some (.int .i64 (-1)) := by rw [cell_of_heap (heap_new _ _)]; rfl
  have y5 : (w.alloc (.cells #[.int .i64 1, .int .i64 0, .int .i64 0, .int .i64 1, .int .i64 (-1), .int .i64 1, .int .i64 (-1), .int .i64 0, .int .i64 0, .int .i64 (-1), .int .i64 1, .int .i64 (-1)] 205)).cell? ⟨w.heap.size, 5, none⟩ = some (.int .i64 1) := by rw [cell_of_heap (heap_new _ _)]; rfl
  have y6 : (w.alloc (.cells #[.int .i64 1, .int .i64 0, .int .i64 0, .int .i64 1, .int .i64 (-1), .int .i64 1, .int .i64 (-1), .int .i64 0, .int .i64 0, .int .i64 (-1), .int .i64 1, .int .i64 (-1)] 205)).cell? ⟨w.heap.size, 6, none⟩ = some (.int .i64 (-1)) := by rw [cell_of_heap (heap_new _ _)]; rfl
  have y7 : (w.alloc (.cells #[.int .i64 1, .int .i64 0, .int .i64 0, .int .i64 1, .int .i64 (-1), .int .i64 1, .int .i64 (-1), .int .i64 0, .int .i64 0, .int .i64 (-1), .int .i64 1, .int .i64 (-1)] 205)).cell? ⟨w.heap.size, 7, none⟩ = some (.int .i64 0) := by rw [cell_of_heap (heap_new _ _)]; rfl
  have y8 : (w.alloc (.cells #[.int .i64 1, .int .i64 0, .int .i64 0, .int .i64 1, .int .i64 (-1), .int .i64 1, .int .i64 (-1), .int .i64 0, .int .i64 0, .int .i64 (-1), .int .i64 1, .int .i64 (-1)] 205)).cell? ⟨w.heap.size, 8, none⟩ = some (.int .i64 0) := by rw [cell_of_heap (heap_new _ _)]; rfl
  have y9 : (w.alloc (.cells #[.int .i64 1, .int .i64 0, .int .i64 0, .int .i64 1, .int .i64 (-1), .int .i64 1, .int .i64 (-1), .int .i64 0, .int .i64 0, .int .i64 (-1), .int .i64 1, .int .i64 (-1)] 205)).cell? ⟨w.heap.size, 9, none⟩ = some (.int .i64 (-1)) := by rw [cell_of_heap (heap_new _ _)]; rfl
  have y10 : (w.alloc (.cells #[.int .i64 1, .int .i64 0, .int .i64 0, .int .i64 1, .int .i64 (-1), .int .i64 1, .int .i64 (-1), .int .i64 0, .int .i64 0, .int .i64 (-1), .int .i64 1, .int .i64 (-1)] 205)).cell? ⟨w.heap.size, 10, none⟩ = some (.int .i64 1) := by rw [cell_of_heap (heap_new _ _)]; rfl
  have y11 : (w.alloc (.cells #[.int .i64 1, .int .i64 0, .int .i64 0, .int .i64 1, .int .i64 (-1), .int .i64 1, .int .i64 (-1), .int .i64 0, .int .i64 0, .int .i64 (-1), .int .i64 1, .int .i64 (-1)] 205)).cell? ⟨w.heap.size, 11, none⟩ = some (.int .i64 (-1)) := by rw [cell_of_heap (heap_new _ _)]; rfl
  exact bodyPost_ret (v := .agg sixA) (by simp [results, Tryz.results140, go_sem, sixA, y0, y1, y2, y3, y4, y5, y6, y7, y8, y9, y10, y11]) rfl ⟨rfl, (Fr.nil w).alloc _⟩
end Go.Proofs.YtnkdbpjmepfblaaGreatDoor

/- block.New: Table.Check. -/
namespace Go.Proofs.YtnkdbpjmepfblaaGreatDoor
open Go Go.RowKit

/-- A table that may be. -/
def Tb.fit (T : Tb) : Prop := T.ok ∧ T.b0 % 2 = 0 ∧ T.b1 % 2 = 0 ∧ (T.lat = 1 → T.b1 = 0 ∧ T.s1 = 0) ∧ (T.lat = 2 → T.b0 < 16 ∧ T.b1 < 16 ∧ T.s0 < 16 ∧ T.s1 < 16) ∧ (T.lat = 3 → T.b0 < 8192 ∧ T.b1 < 8192 ∧ T.s0 < 8192 ∧ T.s1 < 8192)
set_option maxRecDepth 100000 in
theorem tmost_c (l : Int) (h1 : 1 ≤ l) (h2 : l ≤ 3) (w : World) : Calls Tryz.prog 177 #[.int .i64 l] w fun e w' => e = .returned (.int .i64 (if l = 1 then 63 else if l = 2 then 3 else 12)) ∧ w' = w := by
  have hc : l = 1 ∨ l = 2 ∨ l = 3 := by omega
  rcases hc with rfl | rfl | rfl <;>
  · go_enter Tryz.func177, Tryz.ntmps177
    go_wp2_with fail
    go_ret
    exact ⟨rfl, rfl⟩
theorem and_rest (b k m : Nat) (hk : k ≤ 13) (hb : b < 2 ^ k) (he : m % 2 = 1 → b % 2 = 0) (hm : ∀ i, i < 13 → 1 ≤ i → i < k → m.testBit i = false) : b &&& m = 0 := by
  apply Nat.eq_of_testBit_eq
  intro i
  rw [Nat.testBit_and, Nat.zero_testBit]
  rcases Nat.lt_or_ge i k with h | h
  · by_cases h0 : i = 0
    · subst h0
      simp only [Nat.testBit_zero]
      rcases Nat.mod_two_eq_zero_or_one m with h2 | h2
      · simp [h2]
      · simp [he h2]
    · rw [hm i (by omega) (by omega) h, Bool.and_false]
  · rw [Nat.testBit_lt_two_pow (Nat.lt_of_lt_of_le hb (Nat.pow_le_pow_right (by decide) h)), Bool.false_and]
theorem uand_rest (b k m : Nat) (hk : k ≤ 13) (hb : b < 2 ^ k) (he : m % 2 = 1 → b % 2 = 0) (hm : ∀ i, i < 13 → 1 ≤ i → i < k → m.testBit i = false) (hm64 : m < 18446744073709551616) : bits .and .u64 (b : Int) (m : Int) = 0 := by
  have : 2 ^ k ≤ 2 ^ 13 := Nat.pow_le_pow_right (by decide) hk
  rw [u64_and_nat b m (by omega) hm64, and_rest b k m hk hb he hm]
  rfl
set_option maxRecDepth 100000 in
set_option maxHeartbeats 1600000 in
theorem tcheck1_c {T : Tb} (hT : T.fit) (hl : T.lat = 1) (w : World) : Calls Tryz.prog 131 #[T.val] w fun e w' => e = .returned .nilIface ∧ Fr w [] w' [] := by
  obtain ⟨l, b0, b1, s0, s1⟩ := T
  unfold Tb.val
  simp only at hl ⊢
  subst hl
  simp only [show ((1 : Nat) : Int) = 1 from rfl]
  obtain ⟨⟨_, _, t0, t1, t2, t3⟩, e0, e1, g1, g2, g3⟩ := hT
  simp only at t0 t1 t2 t3 e0 e1 g1 g2 g3
  obtain ⟨rfl, rfl⟩ := g1 trivial
  simp only [show ((0 : Nat) : Int) = 0 from rfl]
  have q0 : bits .and .u64 (b0 : Int) 1 = 0 := by
    have := u64_and_nat b0 1 t0 (by decide)
    rw [show ((1 : Nat) : Int) = 1 from rfl] at this
    rw [this, nat_mask1, e0]; rfl
  have q1 : bits .and .u64 (s0 : Int) 0 = 0 := by
    have := u64_and_nat s0 0 t2 (by decide)
    rw [show ((0 : Nat) : Int) = 0 from rfl] at this
    rw [this, Nat.and_zero]; rfl
  have q2 : bits .and .u64 (0 : Int) 18446744073709551615 = 0 := by rfl
  have q3 : bits .or .u64 (0 : Int) 1 = 1 := by rfl
  have q4 : bits .or .u64 (18446744073709551615 : Int) 1 = 18446744073709551615 := by rfl
  have HF := Lib.hid ((Fr.nil w).alloc (.cells #[.int .i64 1, .int .u64 b0, .int .u64 0, .int .u64 s0, .int .u64 0] 36))
  have a0 : (w.alloc (.cells #[.int .i64 1, .int .u64 b0, .int .u64 0, .int .u64 s0, .int .u64 0] 36)).cell? ⟨w.heap.size, 0, none⟩ = some (.int .i64 1) := by rw [cell_of_heap (heap_new _ _)]; rfl
  have a1 : (w.alloc (.cells #[.int .i64 1, .int .u64 b0, .int .u64 0, .int .u64 s0, .int .u64 0] 36)).cell? ⟨w.heap.size, 1, none⟩ = some (.int .u64 b0) := by rw [cell_of_heap (heap_new _ _)]; rfl
  have a2 : (w.alloc (.cells #[.int .i64 1, .int .u64 b0, .int .u64 0, .int .u64 s0, .int .u64 0] 36)).cell? ⟨w.heap.size, 2, none⟩ = some (.int .u64 0) := by rw [cell_of_heap (heap_new _ _)]; rfl
  have a3 : (w.alloc (.cells #[.int .i64 1, .int .u64 b0, .int .u64 0, .int .u64 s0, .int .u64 0] 36)).cell? ⟨w.heap.size, 3, none⟩ = some (.int .u64 s0) := by rw [cell_of_heap (heap_new _ _)]; rfl
  have a4 : (w.alloc (.cells #[.int .i64 1, .int .u64 b0, .int .u64 0, .int .u64 s0, .int .u64 0] 36)).cell? ⟨w.heap.size, 4, none⟩ = some (.int .u64 0) := by rw [cell_of_heap (heap_new _ _)]; rfl
  clear t0 t1 t2 t3 e0 e1 g1 g2 g3
  go_enter Tryz.func131, Tryz.ntmps131
  go_wp2_with fail
  refine (latgood_c 1 (by decide) (by decide) _).mono ?_
  rintro e w1 ⟨rfl, rfl⟩
  go_wp2_with fail
  refine (tmost_c 1 (by decide) (by decide) _).mono ?_
  rintro e w1 ⟨rfl, rfl⟩
  simp only []
  go_wp2_with fail
  go_loopw [20] (fun v6 wr => ∃ i : Nat, i ≤ 2 ∧ v6 = .int .i64 i ∧ wr = w.alloc (.cells #[.int .i64 1, .int .u64 b0, .int .u64 0, .int .u64 s0, .int .u64 0] 36)) (fun v _ => 2 - (intOf v).toNat)
  case atStart => exact ⟨0, by omega, rfl, rfl⟩
  case round =>
    obtain ⟨i, hi, rfl, rfl⟩ := hrel
    have hc : i = 0 ∨ i = 1 ∨ i = 2 := by omega
    rcases hc with rfl | rfl | rfl
    · simp only [show ((0 : Nat) : Int) = 0 from rfl]
      go_wp2_with fail
      refine (chalves_c 1 (by decide) _).mono ?_
      rintro e w1 ⟨rfl, rfl⟩
      simp only []
      go_wp2_with fail
      exact ⟨⟨1, by omega, by go_num, trivial⟩, by decide⟩
    · simp only [show ((1 : Nat) : Int) = 1 from rfl]
      go_wp2_with fail
      refine (chalves_c 1 (by decide) _).mono ?_
      rintro e w1 ⟨rfl, rfl⟩
      simp only []
      go_wp2_with fail
      exact ⟨⟨2, by omega, by go_num, trivial⟩, by decide⟩
    · simp only [show ((2 : Nat) : Int) = 2 from rfl]
      go_wp2_with fail
      go_ret
      exact ⟨rfl, HF.out⟩

set_option maxRecDepth 100000 in
set_option maxHeartbeats 1600000 in
theorem tcheck2_c {T : Tb} (hT : T.fit) (hl : T.lat = 2) (w : World) : Calls Tryz.prog 131 #[T.val] w fun e w' => e = .returned .nilIface ∧ Fr w [] w' [] := by
  obtain ⟨l, b0, b1, s0, s1⟩ := T
  unfold Tb.val
  simp only at hl ⊢
  subst hl
  simp only [show ((2 : Nat) : Int) = 2 from rfl]
  obtain ⟨⟨_, _, t0, t1, t2, t3⟩, e0, e1, g1, g2, g3⟩ := hT
  simp only at t0 t1 t2 t3 e0 e1 g1 g2 g3
  obtain ⟨k0, k1, k2, k3⟩ := g2 trivial
  have q0 : bits .and .u64 (b0 : Int) 18446744073709551601 = 0 := uand_rest b0 4 18446744073709551601 (by decide) (by omega) (fun _ => e0) (by decide) (by decide)
  have q1 : bits .and .u64 (b1 : Int) 18446744073709551601 = 0 := uand_rest b1 4 18446744073709551601 (by decide) (by omega) (fun _ => e1) (by decide) (by decide)
  have q2 : bits .and .u64 (s0 : Int) 18446744073709551600 = 0 := uand_rest s0 4 18446744073709551600 (by decide) (by omega) (fun h => absurd h (by decide)) (by decide) (by decide)
  have q3 : bits .and .u64 (s1 : Int) 18446744073709551600 = 0 := uand_rest s1 4 18446744073709551600 (by decide) (by omega) (fun h => absurd h (by decide)) (by decide) (by decide)
  have q4 : bits .or .u64 (18446744073709551600 : Int) 1 = 18446744073709551601 := by rfl
  have q5 : IntKind.u64.wrap 295147905179352825840 = 18446744073709551600 := by rfl
  have HF := Lib.hid ((Fr.nil w).alloc (.cells #[.int .i64 2, .int .u64 b0, .int .u64 b1, .int .u64 s0, .int .u64 s1] 36))
  have a0 : (w.alloc (.cells #[.int .i64 2, .int .u64 b0, .int .u64 b1, .int .u64 s0, .int .u64 s1] 36)).cell? ⟨w.heap.size, 0, none⟩ = some (.int .i64 2) := by rw [cell_of_heap (heap_new _ _)]; rfl
  have a1 : (w.alloc (.cells #[.int .i64 2, .int .u64 b0, .int .u64 b1, .int .u64 s0, .int .u64 s1] 36)).cell? ⟨w.heap.size, 1, none⟩ = some (.int .u64 b0) := by rw [cell_of_heap (heap_new _ _)]; rfl
  have a2 : (w.alloc (.cells #[.int .i64 2, .int .u64 b0, .int .u64 b1, .int .u64 s0, .int .u64 s1] 36)).cell? ⟨w.heap.size, 2, none⟩ = some (.int .u64 b1) := by rw [cell_of_heap (heap_new _ _)]; rfl
  have a3 : (w.alloc (.cells #[.int .i64 2, .int .u64 b0, .int .u64 b1, .int .u64 s0, .int .u64 s1] 36)).cell? ⟨w.heap.size, 3, none⟩ = some (.int .u64 s0) := by rw [cell_of_heap (heap_new _ _)]; rfl
  have a4 : (w.alloc (.cells #[.int .i64 2, .int .u64 b0, .int .u64 b1, .int .u64 s0, .int .u64 s1] 36)).cell? ⟨w.heap.size, 4, none⟩ = some (.int .u64 s1) := by rw [cell_of_heap (heap_new _ _)]; rfl
  clear t0 t1 t2 t3 e0 e1 g1 g2 g3
  go_enter Tryz.func131, Tryz.ntmps131
  go_wp2_with fail
  refine (latgood_c 2 (by decide) (by decide) _).mono ?_
  rintro e w1 ⟨rfl, rfl⟩
  go_wp2_with fail
  refine (tmost_c 2 (by decide) (by decide) _).mono ?_
  rintro e w1 ⟨rfl, rfl⟩
  simp only []
  go_wp2_with fail
  go_loopw [20] (fun v6 wr => ∃ i : Nat, i ≤ 2 ∧ v6 = .int .i64 i ∧ wr = w.alloc (.cells #[.int .i64 2, .int .u64 b0, .int .u64 b1, .int .u64 s0, .int .u64 s1] 36)) (fun v _ => 2 - (intOf v).toNat)
  case atStart => exact ⟨0, by omega, rfl, rfl⟩
  case round =>
    obtain ⟨i, hi, rfl, rfl⟩ := hrel
    have hc : i = 0 ∨ i = 1 ∨ i = 2 := by omega
    rcases hc with rfl | rfl | rfl
    · simp only [show ((0 : Nat) : Int) = 0 from rfl]
      go_wp2_with fail
      refine (chalves_c 2 (by decide) _).mono ?_
      rintro e w1 ⟨rfl, rfl⟩
      simp only [show (if (2 : Int) = 1 then (1 : Int) else 2) = 2 from rfl]
      go_wp2_with fail
      exact ⟨⟨1, by omega, by go_num, trivial⟩, by decide⟩
    · simp only [show ((1 : Nat) : Int) = 1 from rfl]
      go_wp2_with fail
      refine (chalves_c 2 (by decide) _).mono ?_
      rintro e w1 ⟨rfl, rfl⟩
      simp only [show (if (2 : Int) = 1 then (1 : Int) else 2) = 2 from rfl]
      go_wp2_with fail
      exact ⟨⟨2, by omega, by go_num, trivial⟩, by decide⟩
    · simp only [show ((2 : Nat) : Int) = 2 from rfl]
      go_wp2_with fail
      go_ret
      exact ⟨rfl, HF.out⟩

set_option maxRecDepth 100000 in
set_option maxHeartbeats 1600000 in
theorem tcheck3_c {T : Tb} (hT : T.fit) (hl : T.lat = 3) (w : World) : Calls Tryz.prog 131 #[T.val] w fun e w' => e = .returned .nilIface ∧ Fr w [] w' [] := by
  obtain ⟨l, b0, b1, s0, s1⟩ := T
  unfold Tb.val
  simp only at hl ⊢
  subst hl
  simp only [show ((3 : Nat) : Int) = 3 from rfl]
  obtain ⟨⟨_, _, t0, t1, t2, t3⟩, e0, e1, g1, g2, g3⟩ := hT
  simp only at t0 t1 t2 t3 e0 e1 g1 g2 g3
  obtain ⟨k0, k1, k2, k3⟩ := g3 trivial
  have q0 : bits .and .u64 (b0 : Int) 18446744073709543425 = 0 := uand_rest b0 13 18446744073709543425 (by decide) (by omega) (fun _ => e0) (by decide) (by decide)
  have q1 : bits .and .u64 (b1 : Int) 18446744073709543425 = 0 := uand_rest b1 13 18446744073709543425 (by decide) (by omega) (fun _ => e1) (by decide) (by decide)
  have q2 : bits .and .u64 (s0 : Int) 18446744073709543424 = 0 := uand_rest s0 13 18446744073709543424 (by decide) (by omega) (fun h => absurd h (by decide)) (by decide) (by decide)
  have q3 : bits .and .u64 (s1 : Int) 18446744073709543424 = 0 := uand_rest s1 13 18446744073709543424 (by decide) (by omega) (fun h => absurd h (by decide)) (by decide) (by decide)
  have q4 : bits .or .u64 (18446744073709543424 : Int) 1 = 18446744073709543425 := by rfl
  have q5 : IntKind.u64.wrap 151115727451828646830080 = 18446744073709543424 := by rfl
  have HF := Lib.hid ((Fr.nil w).alloc (.cells #[.int .i64 3, .int .u64 b0, .int .u64 b1, .int .u64 s0, .int .u64 s1] 36))
  have a0 : (w.alloc (.cells #[.int .i64 3, .int .u64 b0, .int .u64 b1, .int .u64 s0, .int .u64 s1] 36)).cell? ⟨w.heap.size, 0, none⟩ = some (.int .i64 3) := by rw [cell_of_heap (heap_new _ _)]; rfl
  have a1 : (w.alloc (.cells #[.int .i64 3, .int .u64 b0, .int .u64 b1, .int .u64 s0, .int .u64 s1] 36)).cell? ⟨w.heap.size, 1, none⟩ = some (.int .u64 b0) := by rw [cell_of_heap (heap_new _ _)]; rfl
  have a2 : (w.alloc (.cells #[.int .i64 3, .int .u64 b0, .int .u64 b1, .int .u64 s0, .int .u64 s1] 36)).cell? ⟨w.heap.size, 2, none⟩ = some (.int .u64 b1) := by rw [cell_of_heap (heap_new _ _)]; rfl
  have a3 : (w.alloc (.cells #[.int .i64 3, .int .u64 b0, .int .u64 b1, .int .u64 s0, .int .u64 s1] 36)).cell? ⟨w.heap.size, 3, none⟩ = some (.int .u64 s0) := by rw [cell_of_heap (heap_new _ _)]; rfl
  have a4 : (w.alloc (.cells #[.int .i64 3, .int .u64 b0, .int .u64 b1, .int .u64 s0, .int .u64 s1] 36)).cell? ⟨w.heap.size, 4, none⟩ = some (.int .u64 s1) := by rw [cell_of_heap (heap_new _ _)]; rfl
  clear t0 t1 t2 t3 e0 e1 g1 g2 g3
  go_enter Tryz.func131, Tryz.ntmps131
  go_wp2_with fail
  refine (latgood_c 3 (by decide) (by decide) _).mono ?_
  rintro e w1 ⟨rfl, rfl⟩
  go_wp2_with fail
  refine (tmost_c 3 (by decide) (by decide) _).mono ?_
  rintro e w1 ⟨rfl, rfl⟩
  simp only [show (if (3 : Int) = 1 then (63 : Int) else if (3 : Int) = 2 then 3 else 12) = 12 from rfl]
  go_wp2_with fail
  go_loopw [20] (fun v6 wr => ∃ i : Nat, i ≤ 2 ∧ v6 = .int .i64 i ∧ wr = w.alloc (.cells #[.int .i64 3, .int .u64 b0, .int .u64 b1, .int .u64 s0, .int .u64 s1] 36)) (fun v _ => 2 - (intOf v).toNat)
  case atStart => exact ⟨0, by omega, rfl, rfl⟩
  case round =>
    obtain ⟨i, hi, rfl, rfl⟩ := hrel
    have hc : i = 0 ∨ i = 1 ∨ i = 2 := by omega
    rcases hc with rfl | rfl | rfl
    · simp only [show ((0 : Nat) : Int) = 0 from rfl]
      go_wp2_with fail
      refine (chalves_c 3 (by decide) _).mono ?_
      rintro e w1 ⟨rfl, rfl⟩
      simp only [show (if (3 : Int) = 1 then (1 : Int) else 2) = 2 from rfl]
      go_wp2_with fail
      exact ⟨⟨1, by omega, by go_num, trivial⟩, by decide⟩
    · simp only [show ((1 : Nat) : Int) = 1 from rfl]
      go_wp2_with fail
      refine (chalves_c 3 (by decide) _).mono ?_
      rintro e w1 ⟨rfl, rfl⟩
      simp only [show (if (3 : Int) = 1 then (1 : Int) else 2) = 2 from rfl]
      go_wp2_with fail
      exact ⟨⟨2, by omega, by go_num, trivial⟩, by decide⟩
    · simp only [show ((2 : Nat) : Int) = 2 from rfl]
      go_wp2_with fail
      go_ret
      exact ⟨rfl, HF.out⟩
theorem tcheck_c {T : Tb} (hT : T.fit) (w : World) : Calls Tryz.prog 131 #[T.val] w fun e w' => e = .returned .nilIface ∧ Fr w [] w' [] := by
  have h1 := hT.1.1
  have h2 := hT.1.2.1
  have hc : T.lat = 1 ∨ T.lat = 2 ∨ T.lat = 3 := by omega
  rcases hc with h | h | h
  · exact tcheck1_c hT h w
  · exact tcheck2_c hT h w
  · exact tcheck3_c hT h w
end Go.Proofs.YtnkdbpjmepfblaaGreatDoor

/- Cells drawn: Few. -/
namespace Go.Proofs.YtnkdbpjmepfblaaGreatDoor
open Go Go.RowKit

def fewC (x : Ce) : Ce := ⟨x.a.tmod 7, x.b.tmod 7, x.h⟩
def fewL (L : List Ce) : List Ce := (L.take 16).map fewC
set_option maxRecDepth 100000 in
set_option maxHeartbeats 1600000 in
theorem few_c {w : World} {v : Value} {L : List Ce} (h : SR w v L) (hlen : L.length ≤ 9223372036854775807) (lat : Int) :
    Calls Tryz.prog 37 #[.int .i64 lat, v] w fun e w' => ∃ v', e = .returned v' ∧ SR w' v' (setL (someL lat (fewL L))) ∧ Fr w [] w' [] := by
  have HSR := Lib.hid h
  have hfr := (Fr.nil w).alloc (.cells #[] 92)
  have hrow0 : CeRow (w.alloc (.cells #[] 92)) w.heap.size 92 (.slice (some ⟨w.heap.size, 0, none⟩) 0 0) [] :=
    ⟨rfl, .inr ⟨w.heap.size, 0, #[], rfl, Nat.le_refl _, heap_new _ _, Nat.le_refl _, Nat.zero_le _, rfl, rfl⟩⟩
  have HFR := Lib.hid hfr
  have HROW0 := Lib.hid hrow0
  obtain ⟨i0, hi0, hz0, hz1, hz2⟩ := info_parts info92
  have HI0 := Lib.hid hi0
  have HI1 := Lib.hid hz0
  have HI2 := Lib.hid hz1
  have HI3 := Lib.hid hz2
  obtain ⟨ad, cap, hvs⟩ : ∃ ad cap, v = .slice ad L.length cap := by
    rcases h with ⟨h1, h2⟩ | ⟨g, o, cap, h1, _⟩
    · exact ⟨none, 0, by rw [h1, h2]; rfl⟩
    · exact ⟨_, cap, h1⟩
  subst hvs
  clear hfr hrow0 hi0 hz0 hz1 hz2 h
  go_enter Tryz.func37, Tryz.ntmps37
  go_wp2_with fail
  go_loopw [5, 6] (fun v5 v6 wr => ∃ i : Nat, i ≤ L.length ∧ i ≤ 16 ∧ v6 = .int .i64 i ∧ CeRow wr w.heap.size 92 v5 ((L.take i).map fewC) ∧ Fr w [] wr []) (fun _ v _ => 16 - (intOf v).toNat)
  case atStart => exact ⟨0, by omega, by omega, rfl, HROW0.out, HFR.out⟩
  case round =>
    clear HFR HROW0
    obtain ⟨i, hi1, hi2, rfl, hrow, hF⟩ := hrel
    obtain ⟨W0, rfl⟩ : ∃ W0, W0 = wr := ⟨_, rfl⟩
    have HROW := Lib.hid hrow
    have HF := Lib.hid hF
    clear hrow hF
    by_cases hgo : i < L.length ∧ i < 16
    · obtain ⟨hl, h40⟩ := hgo
      have hli : (i : Int) < (L.length : Int) := by omega
      have h40i : (i : Int) < 16 := by omega
      obtain ⟨x, hx⟩ : ∃ x, L[i]? = some x := ⟨_, List.getElem?_eq_getElem hl⟩
      rcases HSR.out with ⟨h1, h2⟩ | ⟨g, o, cap', h1, hcells⟩
      · rw [h2] at hl; simp at hl
      simp only [Value.slice.injEq, true_and] at h1
      obtain ⟨rfl, rfl⟩ := h1
      have hsr : SR w (.slice (some ⟨g, o, none⟩) L.length cap) L := .inr ⟨g, o, cap, rfl, hcells⟩
      have hcw : ∀ z : CW W0, ∀ (t : Nat) (u : Value), (cflat L)[t]? = some u → z.x.cell? ⟨g, o + t, none⟩ = some u := fun z => by
        rcases hsr.ext (HF.out.trans z.h) with ⟨h3, _⟩ | ⟨g', o', c', h3, h4⟩
        · cases h3
        · simp only [Value.slice.injEq, Option.some.injEq, Addr.mk.injEq, true_and, and_true] at h3
          obtain ⟨⟨rfl, rfl⟩, _⟩ := h3
          exact h4
      have c0 : ∀ z : CW W0, z.x.cell? ⟨g, o + i * 3, none⟩ = some (.int .i64 x.a) := fun z => (SR.cellsAt (hcw z) hx).1
      have c1 : ∀ z : CW W0, z.x.cell? ⟨g, o + i * 3 + 1, none⟩ = some (.int .i64 x.b) := fun z => (SR.cellsAt (hcw z) hx).2.1
      have c2 : ∀ z : CW W0, z.x.cell? ⟨g, o + i * 3 + 2, none⟩ = some (.int .i64 x.h) := fun z => (SR.cellsAt (hcw z) hx).2.2
      have HX := Lib.hid hx
      have hrow2 := HROW.out.ext (((Fr.nil W0).alloc (.cells #[.int .i64 (x.a.tmod 7), .int .i64 (x.b.tmod 7), .int .i64 x.h] 92)).drew)
      have HROW2 := Lib.hid hrow2
      have HNEW := Lib.hid (show (W0.alloc (.cells #[.int .i64 (x.a.tmod 7), .int .i64 (x.b.tmod 7), .int .i64 x.h] 92)).drew.heap[W0.heap.size]? = some (.cells #[.int .i64 (x.a.tmod 7), .int .i64 (x.b.tmod 7), .int .i64 x.h] 92) from heap_new W0 (.cells #[.int .i64 (x.a.tmod 7), .int .i64 (x.b.tmod 7), .int .i64 x.h] 92))
      have HF1 := Lib.hid ((HF.out.alloc (.cells #[.int .i64 (x.a.tmod 7), .int .i64 (x.b.tmod 7), .int .i64 x.h] 92)).drew)
      have HML := Lib.hid (show ((L.take i).map fewC).length = i by rw [List.length_map, List.length_take]; omega)
      clear hx hcells hcw hsr hrow2
      go_wp2_with fail
      refine wp_region_mixed 1 20 [19] (by kernel_rfl) (by kernel_rfl) (fun _ _ d _ _ h => by cases d <;> exact h) (CW W0) Cls.x ⟨_, (Fr.nil W0).drew⟩ rfl ?_
      simp only [List.take_succ_cons, List.take_zero, List.drop_succ_cons, List.drop_zero, moved]
      repeat (refine wpStillC_step (by decide) (fun K hK => ?_); go_simp; (try simp only [c0, c1, c2]); (try go_simp); refine hK _ ?_; clear hK K)
      refine wpStillC_forced (by decide) ⟨⟨_, (Fr.nil W0).drew⟩, rfl⟩ ?_
      go_wp2_with fail
      refine ⟨⟨⟨_, ((Fr.nil W0).alloc _).drew⟩, rfl⟩, wpStillC_nil ⟨⟨⟨_, ((Fr.nil W0).alloc _).drew⟩, rfl⟩, ?_⟩⟩
      clear c0 c1 c2
      refine wpList_append_own _ rfl (.tmp 18) (.tmp 37) 26 rfl w.heap.size 92 i0 _ 3 24 Tryz.underlying26 HI0.out HI1.out HI2.out HI3.out rfl (by decide) _ _ _ rfl HROW2.out ⟨W0.heap.size, 0, none⟩ 1 1 (fewC x).cells rfl rfl ?c2 ?c1 ?c3 ?c4 ?c5 ?_
      case c2 =>
        intro t u ht
        rw [addr_add, cell_of_heap HNEW.out]
        have : t = 0 ∨ t = 1 ∨ t = 2 := by have := (List.getElem?_eq_some_iff.1 ht).1; simp [Ce.cells] at this; omega
        rcases this with rfl | rfl | rfl <;> exact ht
      case c1 => intro u hu; simp only [Ce.cells, List.mem_cons, List.not_mem_nil, or_false] at hu; rcases hu with rfl | rfl | rfl <;> rfl
      case c3 => rw [HML.out]; unfold maxLen; omega
      case c4 => rw [HML.out]; omega
      case c5 => have := HF1.out.size; omega
      intro v' w' hown' hgr hnil
      have hrow3 : CeRow w' w.heap.size 92 v' ((L.take (i + 1)).map fewC) := by
        rw [take_succ_map _ _ _ _ HX.out]
        unfold CeRow
        rw [List.length_append, cflat_append]
        exact hown'
      have hF3 : Fr w [] w' [] := HF1.out.grown' hgr (fun k hk => (HROW2.out.lt hk).2)
      have HROW3 := Lib.hid hrow3
      have HF3 := Lib.hid hF3
      clear hown' hgr hnil hrow3 hF3
      go_wp2_with fail
      refine ⟨⟨i + 1, by omega, by omega, by go_num, HROW3.out, HF3.out⟩, by simp only [intOf]; omega⟩
    · have hfin : fewL L = (L.take i).map fewC := by
        unfold fewL
        congr 1
        rcases Nat.lt_or_ge i L.length with h1 | h1
        · have : i = 16 := by omega
          rw [this]
        · rw [List.take_of_length_le (show L.length ≤ 16 by omega), List.take_of_length_le (by omega)]
      have hof := some4_c HROW.out.sr (by rw [List.length_map, List.length_take]; omega) lat
      rw [← hfin] at hof
      have HOF := Lib.hid hof
      clear hfin hof
      by_cases hl : i < L.length
      · have h40 : i = 16 := by omega
        subst h40
        have hli : (16 : Int) < (L.length : Int) := by omega
        simp only [show ((16 : Nat) : Int) = 16 from rfl]
        go_wp2_with fail
        refine HOF.out.mono ?_
        rintro e w2 ⟨v', rfl, h1, h2⟩
        go_wp2_with fail
        go_ret
        exact ⟨_, rfl, h1, HF.out.trans h2⟩
      · have hli : ¬ (i : Int) < (L.length : Int) := by omega
        go_wp2_with fail
        refine HOF.out.mono ?_
        rintro e w2 ⟨v', rfl, h1, h2⟩
        go_wp2_with fail
        go_ret
        exact ⟨_, rfl, h1, HF.out.trans h2⟩
end Go.Proofs.YtnkdbpjmepfblaaGreatDoor
