/- Texts of the walk and its plain law, merged: BnC, BnD, BnE, BnF. -/
import Derived.Test.YtnkdbpjmepfblaaGreatDoorM15
import Derived.Test.YtnkdbpjmepfblaaGreatDoorM02
import Derived.Test.YtnkdbpjmepfblaaGreatDoorM18
/- block.New: the kernel in the making. -/
namespace Go.Proofs.YtnkdbpjmepfblaaGreatDoor
open Go Go.RowKit

def pflat (L : List Part) : List Value := L.flatMap Part.cells
theorem pflat_one (L : List Part) : ∀ u ∈ pflat L, u.oneCell' = true := by
  intro u hu
  obtain ⟨x, _, hx⟩ := List.mem_flatMap.1 hu
  simp only [Part.cells, List.mem_cons, List.not_mem_nil, or_false] at hx
  rcases hx with rfl | rfl | rfl | rfl <;> rfl
def kbCells (T : Tb) (v0 v1 : Value) : Array Value := #[.int .i64 T.lat, .int .u64 T.b0, .int .u64 T.b1, .int .u64 T.s0, .int .u64 T.s1, v0, v1]
/-- The kernel in the making. -/
structure KB (w0 : World) (kb : Nat) (T : Tb) (L0 L1 : List Part) (v0 v1 : Value) (w : World) : Prop where
  fr : Fr w0 [] w []
  ge : w0.heap.size ≤ kb
  lt : kb < w.heap.size
  hb : w.heap[kb]? = some (.cells (kbCells T v0 v1) 204)
  r0 : w.ownsRow 0 208 4 v0 L0.length (pflat L0)
  r1 : w.ownsRow 0 208 4 v1 L1.length (pflat L1)
  g0 : ∀ b, v0.ownBlock = some b → kb < b ∧ v1.ownBlock ≠ some b
  g1 : ∀ b, v1.ownBlock = some b → kb < b
theorem ownsRow_lt {w : World} {base n size : Nat} {e : TypeId} {v : Value} {xs : List Value} (h : w.ownsRow base e size v n xs) {g : Nat} (hg : v.ownBlock = some g) : g < w.heap.size := by
  rcases h.2 with ⟨hv, h0⟩ | ⟨g', cap, cur, hv, hb, hh, _⟩
  · rw [hv] at hg; cases hg
  · rw [hv] at hg
    simp only [Value.ownBlock, Option.some.injEq] at hg
    subst hg
    exact heap_lt hh
theorem KB.ext {w0 w w' : World} {kb : Nat} {T : Tb} {L0 L1 : List Part} {v0 v1 : Value} (h : KB w0 kb T L0 L1 v0 v1 w) (hf : Fr w [] w' []) : KB w0 kb T L0 L1 v0 v1 w' :=
  ⟨h.fr.trans hf, h.ge, Nat.lt_of_lt_of_le h.lt hf.size, by rw [hf.keep _ h.lt (by simp)]; exact h.hb, ownsRow_same' h.r0 hf, ownsRow_same' h.r1 hf, h.g0, h.g1⟩
theorem KB.put0 {w0 w w' : World} {kb : Nat} {T : Tb} {L0 L1 M : List Part} {v0 v1 v : Value} (h : KB w0 kb T L0 L1 v0 v1 w) {g n cap : Nat} (hv : v = .slice (some ⟨g, 0, none⟩) n cap)
    (ho : w'.ownsRow 0 208 4 v M.length (pflat M)) (hg : w.grownBy w' v0.ownBlock) (hw : v0.ownBlock = some g ∨ w.heap.size ≤ g) :
    KB w0 kb T M L1 v v1 (w'.setCell ⟨kb, 5, none⟩ v) ∧ w'.frozen? ⟨kb, 5, none⟩ = false ∧ w'.cell? ⟨kb, 5, none⟩ = some v0 := by
  have hbk : w'.heap[kb]? = some (.cells (kbCells T v0 v1) 204) := by
    rw [hg.block kb h.lt (fun e => by have := (h.g0 kb e.symm).1; omega)]
    exact h.hb
  have hov : v.ownBlock = some g := by rw [hv]; rfl
  have hgk : kb < g := by
    rcases hw with hw | hw
    · exact (h.g0 g hw).1
    · have := h.lt; omega
  refine ⟨⟨(h.fr.grown' hg (fun k hk => by have := (h.g0 k hk).1; have := h.ge; omega)).setCell h.ge v, h.ge, by rw [World.size_setCell]; exact Nat.lt_of_lt_of_le h.lt hg.size, ?_, ?_, ?_, ?_, h.g1⟩, frozen_of_row _ _ _ _ _ hbk, by rw [cell_of_heap hbk]; rfl⟩
  · rw [heap_setCell_same _ _ _ _ _ _ hbk]; rfl
  · refine ownsRow_same ho fun b hb => ?_
    rw [hov] at hb
    obtain rfl := Option.some.inj hb
    exact heap_setCell_other _ _ _ _ (by simp; omega)
  · refine ownsRow_same h.r1 fun b hb => ?_
    have hb1 := h.g1 b hb
    rw [heap_setCell_other _ _ _ _ (by simp; omega), hg.block b (ownsRow_lt h.r1 hb) (fun e => (h.g0 b e.symm).2 hb)]
  · intro b hb
    rw [hov] at hb
    obtain rfl := Option.some.inj hb
    refine ⟨hgk, fun e => ?_⟩
    rcases hw with hw | hw
    · exact (h.g0 g hw).2 e
    · have := ownsRow_lt h.r1 e; omega
theorem KB.put1 {w0 w w' : World} {kb : Nat} {T : Tb} {L0 L1 M : List Part} {v0 v1 v : Value} (h : KB w0 kb T L0 L1 v0 v1 w) {g n cap : Nat} (hv : v = .slice (some ⟨g, 0, none⟩) n cap)
    (ho : w'.ownsRow 0 208 4 v M.length (pflat M)) (hg : w.grownBy w' v1.ownBlock) (hw : v1.ownBlock = some g ∨ w.heap.size ≤ g) :
    KB w0 kb T L0 M v0 v (w'.setCell ⟨kb, 6, none⟩ v) ∧ w'.frozen? ⟨kb, 6, none⟩ = false ∧ w'.cell? ⟨kb, 6, none⟩ = some v1 := by
  have hbk : w'.heap[kb]? = some (.cells (kbCells T v0 v1) 204) := by
    rw [hg.block kb h.lt (fun e => by have := (h.g1 kb e.symm); omega)]
    exact h.hb
  have hov : v.ownBlock = some g := by rw [hv]; rfl
  have hgk : kb < g := by
    rcases hw with hw | hw
    · exact (h.g1 g hw)
    · have := h.lt; omega
  refine ⟨⟨(h.fr.grown' hg (fun k hk => by have := (h.g1 k hk); have := h.ge; omega)).setCell h.ge v, h.ge, by rw [World.size_setCell]; exact Nat.lt_of_lt_of_le h.lt hg.size, ?_, ?_, ?_, ?_, ?_⟩, frozen_of_row _ _ _ _ _ hbk, by rw [cell_of_heap hbk]; rfl⟩
  · rw [heap_setCell_same _ _ _ _ _ _ hbk]; rfl
  · refine ownsRow_same h.r0 fun b hb => ?_
    have hb1 := h.g0 b hb
    rw [heap_setCell_other _ _ _ _ (by simp; omega), hg.block b (ownsRow_lt h.r0 hb) (fun e => (h.g0 b hb).2 e.symm)]
  · refine ownsRow_same ho fun b hb => ?_
    rw [hov] at hb
    obtain rfl := Option.some.inj hb
    exact heap_setCell_other _ _ _ _ (by simp; omega)
  · intro b hb
    refine ⟨(h.g0 b hb).1, fun e => ?_⟩
    rw [hov] at e
    obtain rfl := Option.some.inj e
    rcases hw with hw | hw
    · exact (h.g0 _ hb).2 hw
    · have := ownsRow_lt h.r0 hb; omega
  · intro b hb
    rw [hov] at hb
    obtain rfl := Option.some.inj hb
    exact hgk
theorem KB.new (w : World) (T : Tb) : KB w w.heap.size T [] [] (.slice none 0 0) (.slice none 0 0) (w.alloc (.cells (kbCells T (.slice none 0 0) (.slice none 0 0)) 204)) :=
  ⟨(Fr.nil w).alloc _, Nat.le_refl _, by simp, heap_new _ _, ⟨rfl, .inl ⟨rfl, rfl⟩⟩, ⟨rfl, .inl ⟨rfl, rfl⟩⟩, (fun _ h => by cases h), (fun _ h => by cases h)⟩
theorem KB.kw {w0 w : World} {kb : Nat} {T : Tb} {L0 L1 : List Part} {v0 v1 : Value} (h : KB w0 kb T L0 L1 v0 v1 w) {N : Kn} (hN : N.ok) (hT : N.T = T) (h0 : N.p 0 = L0) (h1 : N.p 1 = L1) :
    ∃ ko, KW w kb N ko ∧ ∀ b ∈ ko, w0.heap.size ≤ b := by
  refine ⟨kb :: (v0.ownBlock.toList ++ v1.ownBlock.toList), ⟨⟨v0, v1, by rw [hT]; exact h.hb, by rw [h0]; exact h.r0, by rw [h1]; exact h.r1, by simp, fun b hb => by simp [hb], fun b hb => by simp [hb]⟩, hN, ?_⟩, ?_⟩
  · intro b hb
    simp only [List.mem_cons, List.mem_append, Option.mem_toList] at hb
    rcases hb with rfl | hb | hb
    · exact h.lt
    · exact ownsRow_lt h.r0 hb
    · exact ownsRow_lt h.r1 hb
  · intro b hb
    have := h.ge
    simp only [List.mem_cons, List.mem_append, Option.mem_toList] at hb
    rcases hb with rfl | hb | hb
    · exact h.ge
    · have := (h.g0 b hb).1; omega
    · have := h.g1 b hb; omega
end Go.Proofs.YtnkdbpjmepfblaaGreatDoor

/- block.New: hexagons. -/
namespace Go.Proofs.YtnkdbpjmepfblaaGreatDoor
open Go Go.RowKit

def hexP : List Part := [⟨1, 0, 0, 1⟩, ⟨0, 1, 0, 2⟩, ⟨-1, 1, 0, 4⟩, ⟨-1, 0, 0, 8⟩, ⟨0, -1, 0, 16⟩, ⟨1, -1, 0, 32⟩]
theorem info208 : (Tryz.prog.info? 208).map (fun i => (i.zero, i.size, i.bytes)) = some (some (.agg #[.int .i64 0, .int .i64 0, .int .i64 0, .int .i64 0]), 4, 32) := by kernel_rfl
theorem run_index6 (i : Nat) (hi : i < 6) (p : Part) (hp : hexP[i]? = some p) (w : World) : (Instr.index 205 (.agg sixA) (.int .i64 i)).run Tryz.prog w = .ok (.agg #[.int .i64 p.a, .int .i64 p.b]) w ∧ p.h = 0 ∧ IntKind.i64.wrap (2 ^ i) = p.w ∧ -2 < p.a ∧ p.a < 2 ∧ -2 < p.b ∧ p.b < 2 := by
  have hc : i = 0 ∨ i = 1 ∨ i = 2 ∨ i = 3 ∨ i = 4 ∨ i = 5 := by omega
  rcases hc with rfl | rfl | rfl | rfl | rfl | rfl <;>
  · simp only [hexP, List.getElem?_cons_zero, List.getElem?_cons_succ, Option.some.injEq] at hp
    subst hp
    exact ⟨by simp [Instr.index, sixA, go_sem], rfl, by rfl, by decide, by decide, by decide, by decide⟩
theorem pflat_append (L M : List Part) : pflat (L ++ M) = pflat L ++ pflat M := by unfold pflat; rw [List.flatMap_append]
theorem take_succ_of {α : Type} (L : List α) (i : Nat) (x : α) (h : L[i]? = some x) : L.take (i + 1) = L.take i ++ [x] := by rw [List.take_add_one, h]; rfl
set_option maxRecDepth 100000 in
set_option maxHeartbeats 1600000 in
theorem newhex_c {T : Tb} (hT : T.fit) (hl : T.lat = 1) {w : World} (hw : SixW w) : Calls Tryz.prog 77 #[T.val] w fun e w' => ∃ kb v0 v1, e = .returned (.tuple #[.pointer (some ⟨kb, 0, none⟩), .nilIface]) ∧ KB w kb T hexP [] v0 v1 w' := by
  have HCK := Lib.hid (tcheck_c hT)
  obtain ⟨l, b0, b1, s0, s1⟩ := T
  unfold Tb.val at HCK ⊢
  simp only at hl
  subst hl
  simp only [show ((1 : Nat) : Int) = 1 from rfl] at HCK ⊢
  have a0 : (w.alloc (.cells #[.int .i64 1, .int .u64 b0, .int .u64 b1, .int .u64 s0, .int .u64 s1] 36)).cell? ⟨w.heap.size, 0, none⟩ = some (.int .i64 1) := by rw [cell_of_heap (heap_new _ _)]; rfl
  have a1 : (w.alloc (.cells #[.int .i64 1, .int .u64 b0, .int .u64 b1, .int .u64 s0, .int .u64 s1] 36)).cell? ⟨w.heap.size, 1, none⟩ = some (.int .u64 b0) := by rw [cell_of_heap (heap_new _ _)]; rfl
  have a2 : (w.alloc (.cells #[.int .i64 1, .int .u64 b0, .int .u64 b1, .int .u64 s0, .int .u64 s1] 36)).cell? ⟨w.heap.size, 2, none⟩ = some (.int .u64 b1) := by rw [cell_of_heap (heap_new _ _)]; rfl
  have a3 : (w.alloc (.cells #[.int .i64 1, .int .u64 b0, .int .u64 b1, .int .u64 s0, .int .u64 s1] 36)).cell? ⟨w.heap.size, 3, none⟩ = some (.int .u64 s0) := by rw [cell_of_heap (heap_new _ _)]; rfl
  have a4 : (w.alloc (.cells #[.int .i64 1, .int .u64 b0, .int .u64 b1, .int .u64 s0, .int .u64 s1] 36)).cell? ⟨w.heap.size, 4, none⟩ = some (.int .u64 s1) := by rw [cell_of_heap (heap_new _ _)]; rfl
  have HF0 := Lib.hid ((Fr.nil w).alloc (.cells #[.int .i64 1, .int .u64 b0, .int .u64 b1, .int .u64 s0, .int .u64 s1] 36))
  have HLT := Lib.hid (show w.heap.size < (w.alloc (.cells #[.int .i64 1, .int .u64 b0, .int .u64 b1, .int .u64 s0, .int .u64 s1] 36)).heap.size by simp)
  have HNEW := Lib.hid (heap_new w (.cells #[.int .i64 1, .int .u64 b0, .int .u64 b1, .int .u64 s0, .int .u64 s1] 36))
  have HW := Lib.hid hw
  obtain ⟨i0, hi0, hz0, hz1, hz2⟩ := info_parts info208
  have HI0 := Lib.hid hi0
  have HI1 := Lib.hid hz0
  have HI2 := Lib.hid hz1
  have HI3 := Lib.hid hz2
  clear hi0 hz0 hz1 hz2 hT hw
  go_enter Tryz.func77, Tryz.ntmps77
  go_wp2_with fail
  refine (HCK.out _).mono ?_
  rintro e w1 ⟨rfl, hf1⟩
  have HF1 := Lib.hid (HF0.out.trans hf1)
  have hnew := HNEW.out
  have hk1 := hf1.keep _ HLT.out (by simp)
  rw [hnew] at hk1
  have HB1 := Lib.hid hk1
  have HS1 := Lib.hid (Nat.lt_of_lt_of_le HLT.out hf1.size)
  clear a0 a1 a2 a3 a4 hnew hk1 hf1
  have a0 : w1.cell? ⟨w.heap.size, 0, none⟩ = some (.int .i64 1) := by rw [cell_of_heap HB1.out]; rfl
  have a1 : w1.cell? ⟨w.heap.size, 1, none⟩ = some (.int .u64 b0) := by rw [cell_of_heap HB1.out]; rfl
  have a2 : w1.cell? ⟨w.heap.size, 2, none⟩ = some (.int .u64 b1) := by rw [cell_of_heap HB1.out]; rfl
  have a3 : w1.cell? ⟨w.heap.size, 3, none⟩ = some (.int .u64 s0) := by rw [cell_of_heap HB1.out]; rfl
  have a4 : w1.cell? ⟨w.heap.size, 4, none⟩ = some (.int .u64 s1) := by rw [cell_of_heap HB1.out]; rfl
  have HKB := Lib.hid (KB.new w1 ⟨1, b0, b1, s0, s1⟩)
  have c0 : (w1.alloc (.cells (kbCells ⟨1, b0, b1, s0, s1⟩ (.slice none 0 0) (.slice none 0 0)) 204)).cell? ⟨w.heap.size, 0, none⟩ = some (.int .i64 1) := by rw [cell_of_heap (show (w1.alloc (.cells (kbCells ⟨1, b0, b1, s0, s1⟩ (.slice none 0 0) (.slice none 0 0)) 204)).heap[w.heap.size]? = _ by rw [HKB.out.fr.keep _ HS1.out (by simp)]; exact HB1.out)]; rfl
  have HSW := Lib.hid ((HW.out.ext HF1.out).ext HKB.out.fr)
  unfold kbCells at c0 HSW
  simp only [show ((1 : Nat) : Int) = 1 from rfl] at c0 HSW
  go_wp2_with fail
  refine (six_c HSW.out).mono ?_
  rintro e w2 ⟨rfl, hf2⟩
  have hkb2 := HKB.out.ext (w' := w2) (by unfold kbCells; exact hf2)
  have HKB2 := Lib.hid hkb2
  clear a0 a1 a2 a3 a4 c0 hf2 hkb2
  go_wp2_with fail
  go_loopw [25] (fun v6 wr => ∃ i : Nat, i ≤ 6 ∧ v6 = .int .i64 i ∧ ∃ v0 v1, KB w1 w1.heap.size ⟨1, b0, b1, s0, s1⟩ (hexP.take i) [] v0 v1 wr) (fun v _ => 6 - (intOf v).toNat)
  case atStart => exact ⟨0, by omega, rfl, _, _, HKB2.out⟩
  case round =>
    clear HKB HKB2
    obtain ⟨i, hi, rfl, v0, v1, hkb⟩ := hrel
    obtain ⟨W0, rfl⟩ : ∃ W0, W0 = wr := ⟨_, rfl⟩
    have HK := Lib.hid hkb
    clear hkb
    by_cases hgo : i < 6
    · have hli : (i : Int) < 6 := by omega
      obtain ⟨p, hp⟩ : ∃ p, hexP[i]? = some p := ⟨_, List.getElem?_eq_getElem hgo⟩
      obtain ⟨hix, hph, hsh, r1, r2, r3, r4⟩ := run_index6 i hgo p hp W0
      have HPH := Lib.hid hph
      have HPT := Lib.hid (take_succ_of hexP i p hp)
      have hka := HK.out.ext ((Fr.nil W0).alloc (.cells #[.int .i64 p.a, .int .i64 p.b] 65))
      have HKA := Lib.hid hka
      have HOS := Lib.hid (show ∀ b, b ∈ v0.ownBlock.toList → b < W0.heap.size ∧ w1.heap.size < b from fun b hb => ⟨ownsRow_lt HK.out.r0 (by simpa using hb), (HK.out.g0 b (by simpa using hb)).1⟩)
      have hy0 : ∀ y : CO (W0.alloc (.cells #[.int .i64 p.a, .int .i64 p.b] 65)) v0.ownBlock.toList, y.x.cell? ⟨w1.heap.size, 5, none⟩ = some v0 := fun y => by
        have := y.h w1.heap.size HKA.out.lt (fun hb => by have := (HOS.out _ hb).2; omega)
        rw [HKA.out.hb] at this
        rw [cell_of_heap this]; rfl
      have hyb : ∀ y : CO (W0.alloc (.cells #[.int .i64 p.a, .int .i64 p.b] 65)) v0.ownBlock.toList, y.x.heap[W0.heap.size]? = some (.cells #[.int .i64 p.a, .int .i64 p.b] 65) := fun y => by
        have := y.h W0.heap.size (by simp) (fun hb => by have := (HOS.out _ hb).1; omega)
        rw [heap_new] at this
        exact this
      have hya : ∀ y : CO (W0.alloc (.cells #[.int .i64 p.a, .int .i64 p.b] 65)) v0.ownBlock.toList, y.x.cell? ⟨W0.heap.size, 0, none⟩ = some (.int .i64 p.a) := fun y => by rw [cell_of_heap (hyb y)]; rfl
      have hyc : ∀ y : CO (W0.alloc (.cells #[.int .i64 p.a, .int .i64 p.b] 65)) v0.ownBlock.toList, y.x.cell? ⟨W0.heap.size, 1, none⟩ = some (.int .i64 p.b) := fun y => by rw [cell_of_heap (hyb y)]; rfl
      clear hyb hka hph hp
      go_wp2_with fail
      refine wp_region_ord 2 17 [13, 14] [2, 3, 4, 5, 6, 7, 8, 9, 10, 11, 12, 15, 16, 13, 14] (by kernel_rfl) (by kernel_rfl) (fun _ _ d _ _ h => by cases d <;> exact h) (CO (W0.alloc (.cells #[.int .i64 p.a, .int .i64 p.b] 65)) v0.ownBlock.toList) CO.x ⟨(W0.alloc (.cells #[.int .i64 p.a, .int .i64 p.b] 65)).drew, fun _ _ _ => rfl⟩ rfl ?_
      simp only [List.take_succ_cons, List.take_zero, List.drop_succ_cons, List.drop_zero, moved, pickO, List.getElem?_cons_succ, List.getElem?_cons_zero]
      repeat (refine wpStillO_step (by decide) (fun K hK => ?_); go_simp; (try simp only [hy0, hya, hyc, hsh]); (try go_simp); refine hK _ ?_; clear hK K)
      have HAK := Lib.hid (show ∀ b, b < (W0.alloc (.cells #[.int .i64 p.a, .int .i64 p.b] 65)).heap.size → b ∉ v0.ownBlock.toList → ((W0.alloc (.cells #[.int .i64 p.a, .int .i64 p.b] 65)).alloc (.cells #[.int .i64 p.a, .int .i64 p.b, .int .i64 0, .int .i64 p.w] 208)).drew.heap[b]? = (W0.alloc (.cells #[.int .i64 p.a, .int .i64 p.b] 65)).heap[b]? from fun b hb _ => Below.heap_alloc _ _ _ (by simpa using hb))
      have HKB3 := Lib.hid (HKA.out.ext (w' := ((W0.alloc (.cells #[.int .i64 p.a, .int .i64 p.b] 65)).alloc (.cells #[.int .i64 p.a, .int .i64 p.b, .int .i64 0, .int .i64 p.w] 208)).drew) ((Fr.nil _).alloc _).drew)
      have HNW := Lib.hid (heap_new (W0.alloc (.cells #[.int .i64 p.a, .int .i64 p.b] 65)).drew (.cells #[.int .i64 p.a, .int .i64 p.b, .int .i64 0, .int .i64 p.w] 208))
      refine wpStillO_forced (by decide) ⟨⟨(W0.alloc (.cells #[.int .i64 p.a, .int .i64 p.b] 65)).drew, fun _ _ _ => rfl⟩, rfl⟩ ?_
      go_wp2_with fail
      refine ⟨⟨⟨_, HAK.out⟩, rfl⟩, ?_⟩
      refine wpStillO_forced (by decide) ⟨⟨_, HAK.out⟩, rfl⟩ ?_
      clear hy0 hya hyc
      refine wpList_append_where _ rfl (.tmp 34) (.tmp 42) 201 rfl 208 i0 _ 4 32 Tryz.underlying201 HI0.out HI1.out HI2.out HI3.out rfl (by decide) v0 _ _ rfl HKB3.out.r0 ⟨W0.heap.size + 1, 0, none⟩ 1 1 p.cells rfl rfl ?c2 ?c1 (by decide) ?c3 ?c4 ?_
      case c2 =>
        intro t u ht
        have hnn := HNW.out
        rw [show ((W0.alloc (.cells #[.int .i64 p.a, .int .i64 p.b] 65)).drew.heap.size) = W0.heap.size + 1 from World.size_alloc _ _] at hnn
        rw [addr_add, cell_of_heap (show (((W0.alloc (.cells #[.int .i64 p.a, .int .i64 p.b] 65)).alloc (.cells #[.int .i64 p.a, .int .i64 p.b, .int .i64 0, .int .i64 p.w] 208)).drew).heap[W0.heap.size + 1]? = _ from hnn)]
        rw [Part.cells, HPH.out] at ht
        have : t = 0 ∨ t = 1 ∨ t = 2 ∨ t = 3 := by have := (List.getElem?_eq_some_iff.1 ht).1; simp at this; omega
        rcases this with rfl | rfl | rfl | rfl <;> exact ht
      case c1 => intro u hu; simp only [Part.cells, List.mem_cons, List.not_mem_nil, or_false] at hu; rcases hu with rfl | rfl | rfl | rfl <;> rfl
      case c3 => rw [List.length_take]; unfold maxLen; omega
      case c4 => rw [List.length_take]; omega
      intro g cap w' hown' hgr hwh hglt
      obtain ⟨hkb4, hfz, hce⟩ := HKB3.out.put0 (M := hexP.take (i + 1)) rfl (by rw [HPT.out, List.length_append, pflat_append]; simpa [pflat] using hown') hgr hwh
      have hcw : ∀ b, b < (W0.alloc (.cells #[.int .i64 p.a, .int .i64 p.b] 65)).heap.size → b ∉ v0.ownBlock.toList → w'.heap[b]? = (W0.alloc (.cells #[.int .i64 p.a, .int .i64 p.b] 65)).heap[b]? := fun b hb hn => by
        rw [hgr.block b (by have := HAK; simp at hb ⊢; omega) (fun e => hn (by simp [← e]))]
        exact HAK.out b hb hn
      have HCW := Lib.hid hcw
      have HKB4 := Lib.hid hkb4
      clear hown' hgr hwh hglt hcw hkb4
      go_wp2_with fail
      refine ⟨⟨⟨_, HCW.out⟩, rfl⟩, wpStillO_nil ⟨⟨⟨_, HCW.out⟩, rfl⟩, ?_⟩⟩
      go_wp2_with fail
      refine ⟨⟨i + 1, by omega, by go_num, _, _, HKB4.out⟩, by simp only [intOf]; omega⟩
    · have hi6 : i = 6 := by omega
      subst hi6
      go_wp2_with fail
      go_ret2
      exact ⟨_, _, _, rfl, { HK.out with fr := HF1.out.trans HK.out.fr, ge := Nat.le_trans (Nat.le_of_lt HS1.out) HK.out.ge }⟩
end Go.Proofs.YtnkdbpjmepfblaaGreatDoor

/- block.New: triangles. -/
namespace Go.Proofs.YtnkdbpjmepfblaaGreatDoor
open Go Go.RowKit

def triP (x : Ce) : Part := ⟨x.a, x.b, x.h.toNat, 1⟩
set_option maxRecDepth 100000 in
set_option maxHeartbeats 3200000 in
theorem newtri_c {T : Tb} (hT : T.fit) (hl : T.lat = 2 ∨ T.lat = 3) {N0 N1 S0 S1 : List Ce} (hn0 : NearC T.lat 0 N0) (hn1 : NearC T.lat 1 N1) (hs0 : setL (outL ⟨0, 0, 0⟩ N0) = S0) (hs1 : setL (outL ⟨0, 0, 1⟩ N1) = S1)
    (hh0 : ∀ x ∈ S0, 0 ≤ x.h) (hh1 : ∀ x ∈ S1, 0 ≤ x.h) (w : World) :
    Calls Tryz.prog 77 #[T.val] w fun e w' => ∃ kb v0 v1, e = .returned (.tuple #[.pointer (some ⟨kb, 0, none⟩), .nilIface]) ∧ KB w kb T (S0.map triP) (S1.map triP) v0 v1 w' := by
  have HCK := Lib.hid (tcheck_c hT)
  obtain ⟨l, b0, b1, s0, s1⟩ := T
  unfold Tb.val at HCK ⊢
  simp only at hl hn0 hn1 HCK ⊢
  have hl1 : ((l : Int) == 1) = false := by rcases hl with rfl | rfl <;> decide
  have HN0 := Lib.hid hn0
  have HN1 := Lib.hid hn1
  have HS0 := Lib.hid hs0
  have HS1' := Lib.hid hs1
  have HL0 := Lib.hid (show S0.length ≤ 100 by rw [← hs0]; exact hn0.setlen)
  have HL1 := Lib.hid (show S1.length ≤ 100 by rw [← hs1]; exact hn1.setlen)
  have HH0 := Lib.hid hh0
  have HH1 := Lib.hid hh1
  clear hn0 hn1 hs0 hs1 hh0 hh1 hl
  have a0 : (w.alloc (.cells #[.int .i64 l, .int .u64 b0, .int .u64 b1, .int .u64 s0, .int .u64 s1] 36)).cell? ⟨w.heap.size, 0, none⟩ = some (.int .i64 l) := by rw [cell_of_heap (heap_new _ _)]; rfl
  have a1 : (w.alloc (.cells #[.int .i64 l, .int .u64 b0, .int .u64 b1, .int .u64 s0, .int .u64 s1] 36)).cell? ⟨w.heap.size, 1, none⟩ = some (.int .u64 b0) := by rw [cell_of_heap (heap_new _ _)]; rfl
  have a2 : (w.alloc (.cells #[.int .i64 l, .int .u64 b0, .int .u64 b1, .int .u64 s0, .int .u64 s1] 36)).cell? ⟨w.heap.size, 2, none⟩ = some (.int .u64 b1) := by rw [cell_of_heap (heap_new _ _)]; rfl
  have a3 : (w.alloc (.cells #[.int .i64 l, .int .u64 b0, .int .u64 b1, .int .u64 s0, .int .u64 s1] 36)).cell? ⟨w.heap.size, 3, none⟩ = some (.int .u64 s0) := by rw [cell_of_heap (heap_new _ _)]; rfl
  have a4 : (w.alloc (.cells #[.int .i64 l, .int .u64 b0, .int .u64 b1, .int .u64 s0, .int .u64 s1] 36)).cell? ⟨w.heap.size, 4, none⟩ = some (.int .u64 s1) := by rw [cell_of_heap (heap_new _ _)]; rfl
  have HF0 := Lib.hid ((Fr.nil w).alloc (.cells #[.int .i64 l, .int .u64 b0, .int .u64 b1, .int .u64 s0, .int .u64 s1] 36))
  have HLT := Lib.hid (show w.heap.size < (w.alloc (.cells #[.int .i64 l, .int .u64 b0, .int .u64 b1, .int .u64 s0, .int .u64 s1] 36)).heap.size by simp)
  have HNEW := Lib.hid (heap_new w (.cells #[.int .i64 l, .int .u64 b0, .int .u64 b1, .int .u64 s0, .int .u64 s1] 36))
  obtain ⟨i0, hi0, hz0, hz1, hz2⟩ := info_parts info208
  have HI0 := Lib.hid hi0
  have HI1 := Lib.hid hz0
  have HI2 := Lib.hid hz1
  have HI3 := Lib.hid hz2
  clear hi0 hz0 hz1 hz2 hT
  go_enter Tryz.func77, Tryz.ntmps77
  go_wp2_with fail
  refine (HCK.out _).mono ?_
  rintro e w1 ⟨rfl, hf1⟩
  have HF1 := Lib.hid (HF0.out.trans hf1)
  have hnew := HNEW.out
  have hk1 := hf1.keep _ HLT.out (by simp)
  rw [hnew] at hk1
  have HB1 := Lib.hid hk1
  have HS1 := Lib.hid (Nat.lt_of_lt_of_le HLT.out hf1.size)
  clear a0 a1 a2 a3 a4 hnew hk1 hf1
  have a0 : w1.cell? ⟨w.heap.size, 0, none⟩ = some (.int .i64 l) := by rw [cell_of_heap HB1.out]; rfl
  have a1 : w1.cell? ⟨w.heap.size, 1, none⟩ = some (.int .u64 b0) := by rw [cell_of_heap HB1.out]; rfl
  have a2 : w1.cell? ⟨w.heap.size, 2, none⟩ = some (.int .u64 b1) := by rw [cell_of_heap HB1.out]; rfl
  have a3 : w1.cell? ⟨w.heap.size, 3, none⟩ = some (.int .u64 s0) := by rw [cell_of_heap HB1.out]; rfl
  have a4 : w1.cell? ⟨w.heap.size, 4, none⟩ = some (.int .u64 s1) := by rw [cell_of_heap HB1.out]; rfl
  have HKB := Lib.hid (KB.new w1 ⟨l, b0, b1, s0, s1⟩)
  have c0 : (w1.alloc (.cells (kbCells ⟨l, b0, b1, s0, s1⟩ (.slice none 0 0) (.slice none 0 0)) 204)).cell? ⟨w.heap.size, 0, none⟩ = some (.int .i64 l) := by rw [cell_of_heap (show (w1.alloc (.cells (kbCells ⟨l, b0, b1, s0, s1⟩ (.slice none 0 0) (.slice none 0 0)) 204)).heap[w.heap.size]? = _ by rw [HKB.out.fr.keep _ HS1.out (by simp)]; exact HB1.out)]; rfl
  unfold kbCells at c0
  simp only at c0
  go_wp2_with fail
  clear a0 a1 a2 a3 a4 c0
  go_loopw [49] (fun v6 wr => ∃ k : Nat, k ≤ 2 ∧ v6 = .int .i64 k ∧ ∃ v0 v1, (k = 0 → v0.ownBlock = none) ∧ (k ≤ 1 → v1.ownBlock = none) ∧ KB w1 w1.heap.size ⟨l, b0, b1, s0, s1⟩ (if k = 0 then [] else S0.map triP) (if k ≤ 1 then [] else S1.map triP) v0 v1 wr) (fun v _ => 2 - (intOf v).toNat)
  case atStart => exact ⟨0, by omega, rfl, _, _, fun _ => rfl, fun _ => rfl, HKB.out⟩
  case round =>
    clear HKB
    obtain ⟨k, hk, rfl, v0, v1, hvn0, hvn1, hkb⟩ := hrel
    obtain ⟨W9, rfl⟩ : ∃ W9, W9 = wr := ⟨_, rfl⟩
    have HK := Lib.hid hkb
    have a0 : W9.cell? ⟨w.heap.size, 0, none⟩ = some (.int .i64 l) := by rw [cell_of_heap (show W9.heap[w.heap.size]? = _ by rw [hkb.fr.keep _ HS1.out (by simp)]; exact HB1.out)]; rfl
    clear hkb
    have hc : k = 0 ∨ k = 1 ∨ k = 2 := by omega
    rcases hc with rfl | rfl | rfl
    · rw [if_pos rfl, if_pos (by omega)] at HK
      simp only [show ((0 : Nat) : Int) = 0 from rfl]
      go_wp2_with fail
      refine (beside_c _ HN0.out).mono ?_
      rintro e wb ⟨g, cap, rfl, hgg, hsr, hfb⟩
      rw [HS0.out] at hsr ⊢
      have HSR := Lib.hid hsr
      have HGG := Lib.hid (Nat.lt_of_lt_of_le HK.out.lt hgg)
      have HKb := Lib.hid (HK.out.ext hfb)
      have HVN := Lib.hid (show ∀ b, v0.ownBlock = some b → wb.heap.size ≤ b from fun b hb => by rw [hvn0 (by first | trivial | omega)] at hb; cases hb)
      have HVN1 := Lib.hid (hvn1 (by first | trivial | omega))
      clear hsr hgg hfb hvn0 hvn1 a0
      go_wp2_with fail
      go_loopw [62] (fun v6 wr => ∃ i : Nat, i ≤ S0.length ∧ v6 = .int .i64 i ∧ wb.heap.size ≤ wr.heap.size ∧ (∀ b, b < wb.heap.size → b ≠ w1.heap.size → wr.heap[b]? = wb.heap[b]?) ∧ ∃ v0 v1, (∀ b, v0.ownBlock = some b → wb.heap.size ≤ b) ∧ v1.ownBlock = none ∧ KB w1 w1.heap.size ⟨l, b0, b1, s0, s1⟩ ((S0.take i).map triP) [] v0 v1 wr) (fun v _ => S0.length - (intOf v).toNat)
      case atStart => exact ⟨0, by omega, rfl, Nat.le_refl _, fun _ _ _ => rfl, _, _, HVN.out, HVN1.out, HKb.out⟩
      case round =>
        clear HKb HK HVN HVN1
        obtain ⟨i, hi, rfl, hszw, hkeep, v0, v1, hown, hv1, hkb⟩ := hrel
        obtain ⟨W0, rfl⟩ : ∃ W0, W0 = wr := ⟨_, rfl⟩
        have HK := Lib.hid hkb
        have HKE := Lib.hid hkeep
        have HOW := Lib.hid hown
        have HWB := Lib.hid hszw
        have HV1 := Lib.hid hv1
        clear hv1
        clear hkb hkeep hown hszw
        have hl100 := HL0.out
        by_cases hgo : i < S0.length
        · have hli : (i : Int) < (S0.length : Int) := by omega
          obtain ⟨x, hx⟩ : ∃ x, S0[i]? = some x := ⟨_, List.getElem?_eq_getElem hgo⟩
          have hxh := HH0.out x (List.mem_of_getElem? hx)
          have HXH := Lib.hid (show ((triP x).h : Int) = x.h from Int.toNat_of_nonneg hxh)
          have HPT := Lib.hid (show (S0.take (i + 1)).map triP = (S0.take i).map triP ++ [triP x] by rw [take_succ_of _ _ _ hx, List.map_append]; rfl)
          have hcells : ∀ (t : Nat) (u : Value), (cflat S0)[t]? = some u → W0.cell? ⟨g, 0 + t, none⟩ = some u := by
            rcases HSR.out with ⟨h3, _⟩ | ⟨g', o', c', h3, h4⟩
            · cases h3
            · simp only [Value.slice.injEq, Option.some.injEq, Addr.mk.injEq, true_and, and_true] at h3
              obtain ⟨⟨rfl, rfl⟩, _⟩ := h3
              intro t u ht
              have h5 := h4 t u ht
              have hg : g < wb.heap.size := by
                rcases Nat.lt_or_ge g wb.heap.size with h' | h'
                · exact h'
                · simp [World.cell?, Array.getElem?_eq_none h'] at h5
              rw [← h5]
              simp only [World.cell?]
              rw [HKE.out g hg (by have := HGG.out; omega)]
          have c0 : W0.cell? ⟨g, i * 3, none⟩ = some (.int .i64 x.a) := by have := (SR.cellsAt hcells hx).1; rwa [Nat.zero_add] at this
          have c1 : W0.cell? ⟨g, i * 3 + 1, none⟩ = some (.int .i64 x.b) := by have := (SR.cellsAt hcells hx).2.1; rwa [Nat.zero_add] at this
          have c2 : W0.cell? ⟨g, i * 3 + 2, none⟩ = some (.int .i64 x.h) := by have := (SR.cellsAt hcells hx).2.2; rwa [Nat.zero_add] at this
          have hka := HK.out.ext ((Fr.nil W0).alloc (.cells #[.int .i64 x.a, .int .i64 x.b, .int .i64 x.h] 89))
          have HKA := Lib.hid hka
          have HOS := Lib.hid (show ∀ b, b ∈ v0.ownBlock.toList → b < W0.heap.size ∧ w1.heap.size < b from fun b hb => ⟨ownsRow_lt HK.out.r0 (by simpa using hb), (HK.out.g0 b (by simpa using hb)).1⟩)
          have hy0 : ∀ y : CO (W0.alloc (.cells #[.int .i64 x.a, .int .i64 x.b, .int .i64 x.h] 89)) v0.ownBlock.toList, y.x.cell? ⟨w1.heap.size, 5, none⟩ = some v0 := fun y => by
            have := y.h w1.heap.size HKA.out.lt (fun hb => by have := (HOS.out _ hb).2; omega)
            rw [HKA.out.hb] at this
            rw [cell_of_heap this]; rfl
          have hyb : ∀ y : CO (W0.alloc (.cells #[.int .i64 x.a, .int .i64 x.b, .int .i64 x.h] 89)) v0.ownBlock.toList, y.x.heap[W0.heap.size]? = some (.cells #[.int .i64 x.a, .int .i64 x.b, .int .i64 x.h] 89) := fun y => by
            have := y.h W0.heap.size (by simp) (fun hb => by have := (HOS.out _ hb).1; omega)
            rw [heap_new] at this
            exact this
          have hya : ∀ y : CO (W0.alloc (.cells #[.int .i64 x.a, .int .i64 x.b, .int .i64 x.h] 89)) v0.ownBlock.toList, y.x.cell? ⟨W0.heap.size, 0, none⟩ = some (.int .i64 x.a) := fun y => by rw [cell_of_heap (hyb y)]; rfl
          have hyc : ∀ y : CO (W0.alloc (.cells #[.int .i64 x.a, .int .i64 x.b, .int .i64 x.h] 89)) v0.ownBlock.toList, y.x.cell? ⟨W0.heap.size, 1, none⟩ = some (.int .i64 x.b) := fun y => by rw [cell_of_heap (hyb y)]; rfl
          have hyd : ∀ y : CO (W0.alloc (.cells #[.int .i64 x.a, .int .i64 x.b, .int .i64 x.h] 89)) v0.ownBlock.toList, y.x.cell? ⟨W0.heap.size, 2, none⟩ = some (.int .i64 x.h) := fun y => by rw [cell_of_heap (hyb y)]; rfl
          clear hyb hka hxh hx hcells
          go_wp2_with fail
          refine wp_region_ord 4 21 [17, 18] [4, 5, 6, 7, 8, 9, 10, 11, 12, 13, 14, 15, 16, 19, 20, 17, 18] (by kernel_rfl) (by kernel_rfl) (fun _ _ d _ _ h => by cases d <;> exact h) (CO (W0.alloc (.cells #[.int .i64 x.a, .int .i64 x.b, .int .i64 x.h] 89)) v0.ownBlock.toList) CO.x ⟨(W0.alloc (.cells #[.int .i64 x.a, .int .i64 x.b, .int .i64 x.h] 89)).drew, fun _ _ _ => rfl⟩ rfl ?_
          simp only [List.take_succ_cons, List.take_zero, List.drop_succ_cons, List.drop_zero, moved, pickO, List.getElem?_cons_succ, List.getElem?_cons_zero]
          repeat (refine wpStillO_step (by decide) (fun K hK => ?_); go_simp; (try simp only [hy0, hya, hyc, hyd]); (try go_simp); refine hK _ ?_; clear hK K)
          have HAK := Lib.hid (show ∀ b, b < (W0.alloc (.cells #[.int .i64 x.a, .int .i64 x.b, .int .i64 x.h] 89)).heap.size → b ∉ v0.ownBlock.toList → ((W0.alloc (.cells #[.int .i64 x.a, .int .i64 x.b, .int .i64 x.h] 89)).alloc (.cells #[.int .i64 x.a, .int .i64 x.b, .int .i64 x.h, .int .i64 1] 208)).drew.heap[b]? = (W0.alloc (.cells #[.int .i64 x.a, .int .i64 x.b, .int .i64 x.h] 89)).heap[b]? from fun b hb _ => Below.heap_alloc _ _ _ (by simpa using hb))
          have HKB3 := Lib.hid (HKA.out.ext (w' := ((W0.alloc (.cells #[.int .i64 x.a, .int .i64 x.b, .int .i64 x.h] 89)).alloc (.cells #[.int .i64 x.a, .int .i64 x.b, .int .i64 x.h, .int .i64 1] 208)).drew) ((Fr.nil _).alloc _).drew)
          have HNW := Lib.hid (heap_new (W0.alloc (.cells #[.int .i64 x.a, .int .i64 x.b, .int .i64 x.h] 89)).drew (.cells #[.int .i64 x.a, .int .i64 x.b, .int .i64 x.h, .int .i64 1] 208))
          refine wpStillO_forced (by decide) ⟨⟨(W0.alloc (.cells #[.int .i64 x.a, .int .i64 x.b, .int .i64 x.h] 89)).drew, fun _ _ _ => rfl⟩, rfl⟩ ?_
          go_wp2_with fail
          refine ⟨⟨⟨_, HAK.out⟩, rfl⟩, ?_⟩
          refine wpStillO_forced (by decide) ⟨⟨_, HAK.out⟩, rfl⟩ ?_
          clear hy0 hya hyc hyd
          have HML := Lib.hid (show ((S0.take i).map triP).length = i by rw [List.length_map, List.length_take]; omega)
          have HRW := Lib.hid (show World.ownsRow ((W0.alloc (.cells #[.int .i64 x.a, .int .i64 x.b, .int .i64 x.h] 89)).alloc (.cells #[.int .i64 x.a, .int .i64 x.b, .int .i64 x.h, .int .i64 1] 208)).drew 0 208 4 v0 i (pflat ((S0.take i).map triP)) by have := HKB3.out.r0; rw [HML.out] at this; exact this)
          refine wpList_append_where _ rfl (.tmp 73) (.tmp 83) 201 rfl 208 i0 _ 4 32 Tryz.underlying201 HI0.out HI1.out HI2.out HI3.out rfl (by decide) v0 i _ rfl HRW.out ⟨W0.heap.size + 1, 0, none⟩ 1 1 (triP x).cells rfl rfl ?c2 ?c1 (by decide) ?c3 ?c4 ?_
          case c2 =>
            intro t u ht
            have hnn := HNW.out
            rw [show ((W0.alloc (.cells #[.int .i64 x.a, .int .i64 x.b, .int .i64 x.h] 89)).drew.heap.size) = W0.heap.size + 1 from World.size_alloc _ _] at hnn
            rw [addr_add, cell_of_heap (show (((W0.alloc (.cells #[.int .i64 x.a, .int .i64 x.b, .int .i64 x.h] 89)).alloc (.cells #[.int .i64 x.a, .int .i64 x.b, .int .i64 x.h, .int .i64 1] 208)).drew).heap[W0.heap.size + 1]? = _ from hnn)]
            rw [Part.cells, HXH.out] at ht
            have : t = 0 ∨ t = 1 ∨ t = 2 ∨ t = 3 := by have := (List.getElem?_eq_some_iff.1 ht).1; simp at this; omega
            rcases this with rfl | rfl | rfl | rfl <;> exact ht
          case c1 => intro u hu; simp only [Part.cells, List.mem_cons, List.not_mem_nil, or_false] at hu; rcases hu with rfl | rfl | rfl | rfl <;> rfl
          case c3 => unfold maxLen; omega
          case c4 => omega
          intro g2 cap2 w' hown' hgr hwh hglt
          obtain ⟨hkb4, hfz, hce⟩ := HKB3.out.put0 (M := (S0.take (i + 1)).map triP) rfl (by rw [HPT.out, List.length_append, HML.out, pflat_append]; simpa [pflat] using hown') hgr hwh
          have hcw : ∀ b, b < (W0.alloc (.cells #[.int .i64 x.a, .int .i64 x.b, .int .i64 x.h] 89)).heap.size → b ∉ v0.ownBlock.toList → w'.heap[b]? = (W0.alloc (.cells #[.int .i64 x.a, .int .i64 x.b, .int .i64 x.h] 89)).heap[b]? := fun b hb hn => by
            rw [hgr.block b (by simp at hb ⊢; exact Nat.lt_succ_of_lt hb) (fun e => hn (by simp [← e]))]
            exact HAK.out b hb hn
          have hszA : (W0.alloc (.cells #[.int .i64 x.a, .int .i64 x.b, .int .i64 x.h] 89)).heap.size = W0.heap.size + 1 := World.size_alloc _ _
          have hszC : ((W0.alloc (.cells #[.int .i64 x.a, .int .i64 x.b, .int .i64 x.h] 89)).alloc (.cells #[.int .i64 x.a, .int .i64 x.b, .int .i64 x.h, .int .i64 1] 208)).drew.heap.size = W0.heap.size + 1 + 1 := (World.size_alloc _ _).trans (by rw [hszA])
          have HKP := Lib.hid (show ∀ b, b < wb.heap.size → b ≠ w1.heap.size → (w'.setCell ⟨w1.heap.size, 5, none⟩ (.slice (some ⟨g2, 0, none⟩) (i + 1) cap2)).heap[b]? = wb.heap[b]? from fun b hb hne => by
            have hb0 : b < W0.heap.size := Nat.lt_of_lt_of_le hb HWB.out
            rw [heap_setCell_other _ _ _ _ hne, hcw b (by rw [hszA]; omega) (fun hm => by have := HOW.out b (by simpa using hm); omega), Below.heap_alloc _ _ _ hb0]
            exact HKE.out b hb hne)
          have HON := Lib.hid (show ∀ b, (Value.slice (some ⟨g2, 0, none⟩) (i + 1) cap2).ownBlock = some b → wb.heap.size ≤ b from fun b hb => by
            have hgb : g2 = b := Option.some.inj hb
            subst hgb
            rcases hwh with hw | hw
            · exact HOW.out _ hw
            · have := HWB.out; rw [hszC] at hw; omega)
          have HSZ9 := Lib.hid (show wb.heap.size ≤ (w'.setCell ⟨w1.heap.size, 5, none⟩ (.slice (some ⟨g2, 0, none⟩) (i + 1) cap2)).heap.size by rw [World.size_setCell]; have := hgr.size; rw [hszC] at this; have := HWB.out; omega)
          have HCW := Lib.hid hcw
          have HKB4 := Lib.hid hkb4
          clear hown' hgr hwh hglt hcw hkb4 hszA hszC c0 c1 c2
          go_wp2_with fail
          refine ⟨⟨⟨_, HCW.out⟩, rfl⟩, wpStillO_nil ⟨⟨⟨_, HCW.out⟩, rfl⟩, ?_⟩⟩
          go_wp2_with fail
          refine ⟨⟨i + 1, by omega, by go_num, HSZ9.out, HKP.out, _, _, HON.out, HV1.out, HKB4.out⟩, by simp only [intOf]; omega⟩
        · have hni : ¬ (i : Int) < (S0.length : Int) := by omega
          have hta : S0.take i = S0 := List.take_of_length_le (by omega)
          have hk := HK.out
          rw [hta] at hk
          have HK9 := Lib.hid hk
          clear hk hta
          go_wp2_with fail
          refine ⟨⟨1, by omega, by go_num, v0, v1, (fun h => absurd h (by decide)), (fun _ => HV1.out), ?_⟩, by decide⟩
          exact HK9.out
    · rw [if_neg (by omega), if_pos (by omega)] at HK
      simp only [show ((1 : Nat) : Int) = 1 from rfl]
      go_wp2_with fail
      refine (beside_c _ HN1.out).mono ?_
      rintro e wb ⟨g, cap, rfl, hgg, hsr, hfb⟩
      rw [HS1'.out] at hsr ⊢
      have HSR := Lib.hid hsr
      have HGG := Lib.hid (Nat.lt_of_lt_of_le HK.out.lt hgg)
      have HKb := Lib.hid (HK.out.ext hfb)
      have HVN := Lib.hid (show ∀ b, v1.ownBlock = some b → wb.heap.size ≤ b from fun b hb => by rw [hvn1 (by first | trivial | omega)] at hb; cases hb)
      have HVN1 := Lib.hid (hvn1 (by first | trivial | omega))
      clear hsr hgg hfb hvn0 hvn1 a0
      go_wp2_with fail
      go_loopw [62] (fun v6 wr => ∃ i : Nat, i ≤ S1.length ∧ v6 = .int .i64 i ∧ wb.heap.size ≤ wr.heap.size ∧ (∀ b, b < wb.heap.size → b ≠ w1.heap.size → wr.heap[b]? = wb.heap[b]?) ∧ ∃ v0 v1, (∀ b, v1.ownBlock = some b → wb.heap.size ≤ b) ∧ KB w1 w1.heap.size ⟨l, b0, b1, s0, s1⟩ (S0.map triP) ((S1.take i).map triP) v0 v1 wr) (fun v _ => S1.length - (intOf v).toNat)
      case atStart => exact ⟨0, by omega, rfl, Nat.le_refl _, fun _ _ _ => rfl, _, _, HVN.out, HKb.out⟩
      case round =>
        clear HKb HK HVN HVN1
        obtain ⟨i, hi, rfl, hszw, hkeep, v0, v1, hown, hkb⟩ := hrel
        obtain ⟨W0, rfl⟩ : ∃ W0, W0 = wr := ⟨_, rfl⟩
        have HK := Lib.hid hkb
        have HKE := Lib.hid hkeep
        have HOW := Lib.hid hown
        have HWB := Lib.hid hszw
        clear hkb hkeep hown hszw
        have hl100 := HL1.out
        by_cases hgo : i < S1.length
        · have hli : (i : Int) < (S1.length : Int) := by omega
          obtain ⟨x, hx⟩ : ∃ x, S1[i]? = some x := ⟨_, List.getElem?_eq_getElem hgo⟩
          have hxh := HH1.out x (List.mem_of_getElem? hx)
          have HXH := Lib.hid (show ((triP x).h : Int) = x.h from Int.toNat_of_nonneg hxh)
          have HPT := Lib.hid (show (S1.take (i + 1)).map triP = (S1.take i).map triP ++ [triP x] by rw [take_succ_of _ _ _ hx, List.map_append]; rfl)
          have hcells : ∀ (t : Nat) (u : Value), (cflat S1)[t]? = some u → W0.cell? ⟨g, 0 + t, none⟩ = some u := by
            rcases HSR.out with ⟨h3, _⟩ | ⟨g', o', c', h3, h4⟩
            · cases h3
            · simp only [Value.slice.injEq, Option.some.injEq, Addr.mk.injEq, true_and, and_true] at h3
              obtain ⟨⟨rfl, rfl⟩, _⟩ := h3
              intro t u ht
              have h5 := h4 t u ht
              have hg : g < wb.heap.size := by
                rcases Nat.lt_or_ge g wb.heap.size with h' | h'
                · exact h'
                · simp [World.cell?, Array.getElem?_eq_none h'] at h5
              rw [← h5]
              simp only [World.cell?]
              rw [HKE.out g hg (by have := HGG.out; omega)]
          have c0 : W0.cell? ⟨g, i * 3, none⟩ = some (.int .i64 x.a) := by have := (SR.cellsAt hcells hx).1; rwa [Nat.zero_add] at this
          have c1 : W0.cell? ⟨g, i * 3 + 1, none⟩ = some (.int .i64 x.b) := by have := (SR.cellsAt hcells hx).2.1; rwa [Nat.zero_add] at this
          have c2 : W0.cell? ⟨g, i * 3 + 2, none⟩ = some (.int .i64 x.h) := by have := (SR.cellsAt hcells hx).2.2; rwa [Nat.zero_add] at this
          have hka := HK.out.ext ((Fr.nil W0).alloc (.cells #[.int .i64 x.a, .int .i64 x.b, .int .i64 x.h] 89))
          have HKA := Lib.hid hka
          have HOS := Lib.hid (show ∀ b, b ∈ v1.ownBlock.toList → b < W0.heap.size ∧ w1.heap.size < b from fun b hb => ⟨ownsRow_lt HK.out.r1 (by simpa using hb), HK.out.g1 b (by simpa using hb)⟩)
          have hy0 : ∀ y : CO (W0.alloc (.cells #[.int .i64 x.a, .int .i64 x.b, .int .i64 x.h] 89)) v1.ownBlock.toList, y.x.cell? ⟨w1.heap.size, 6, none⟩ = some v1 := fun y => by
            have := y.h w1.heap.size HKA.out.lt (fun hb => by have := (HOS.out _ hb).2; omega)
            rw [HKA.out.hb] at this
            rw [cell_of_heap this]; rfl
          have hyb : ∀ y : CO (W0.alloc (.cells #[.int .i64 x.a, .int .i64 x.b, .int .i64 x.h] 89)) v1.ownBlock.toList, y.x.heap[W0.heap.size]? = some (.cells #[.int .i64 x.a, .int .i64 x.b, .int .i64 x.h] 89) := fun y => by
            have := y.h W0.heap.size (by simp) (fun hb => by have := (HOS.out _ hb).1; omega)
            rw [heap_new] at this
            exact this
          have hya : ∀ y : CO (W0.alloc (.cells #[.int .i64 x.a, .int .i64 x.b, .int .i64 x.h] 89)) v1.ownBlock.toList, y.x.cell? ⟨W0.heap.size, 0, none⟩ = some (.int .i64 x.a) := fun y => by rw [cell_of_heap (hyb y)]; rfl
          have hyc : ∀ y : CO (W0.alloc (.cells #[.int .i64 x.a, .int .i64 x.b, .int .i64 x.h] 89)) v1.ownBlock.toList, y.x.cell? ⟨W0.heap.size, 1, none⟩ = some (.int .i64 x.b) := fun y => by rw [cell_of_heap (hyb y)]; rfl
          have hyd : ∀ y : CO (W0.alloc (.cells #[.int .i64 x.a, .int .i64 x.b, .int .i64 x.h] 89)) v1.ownBlock.toList, y.x.cell? ⟨W0.heap.size, 2, none⟩ = some (.int .i64 x.h) := fun y => by rw [cell_of_heap (hyb y)]; rfl
          clear hyb hka hxh hx hcells
          go_wp2_with fail
          refine wp_region_ord 4 21 [17, 18] [4, 5, 6, 7, 8, 9, 10, 11, 12, 13, 14, 15, 16, 19, 20, 17, 18] (by kernel_rfl) (by kernel_rfl) (fun _ _ d _ _ h => by cases d <;> exact h) (CO (W0.alloc (.cells #[.int .i64 x.a, .int .i64 x.b, .int .i64 x.h] 89)) v1.ownBlock.toList) CO.x ⟨(W0.alloc (.cells #[.int .i64 x.a, .int .i64 x.b, .int .i64 x.h] 89)).drew, fun _ _ _ => rfl⟩ rfl ?_
          simp only [List.take_succ_cons, List.take_zero, List.drop_succ_cons, List.drop_zero, moved, pickO, List.getElem?_cons_succ, List.getElem?_cons_zero]
          repeat (refine wpStillO_step (by decide) (fun K hK => ?_); go_simp; (try simp only [hy0, hya, hyc, hyd]); (try go_simp); refine hK _ ?_; clear hK K)
          have HAK := Lib.hid (show ∀ b, b < (W0.alloc (.cells #[.int .i64 x.a, .int .i64 x.b, .int .i64 x.h] 89)).heap.size → b ∉ v1.ownBlock.toList → ((W0.alloc (.cells #[.int .i64 x.a, .int .i64 x.b, .int .i64 x.h] 89)).alloc (.cells #[.int .i64 x.a, .int .i64 x.b, .int .i64 x.h, .int .i64 1] 208)).drew.heap[b]? = (W0.alloc (.cells #[.int .i64 x.a, .int .i64 x.b, .int .i64 x.h] 89)).heap[b]? from fun b hb _ => Below.heap_alloc _ _ _ (by simpa using hb))
          have HKB3 := Lib.hid (HKA.out.ext (w' := ((W0.alloc (.cells #[.int .i64 x.a, .int .i64 x.b, .int .i64 x.h] 89)).alloc (.cells #[.int .i64 x.a, .int .i64 x.b, .int .i64 x.h, .int .i64 1] 208)).drew) ((Fr.nil _).alloc _).drew)
          have HNW := Lib.hid (heap_new (W0.alloc (.cells #[.int .i64 x.a, .int .i64 x.b, .int .i64 x.h] 89)).drew (.cells #[.int .i64 x.a, .int .i64 x.b, .int .i64 x.h, .int .i64 1] 208))
          refine wpStillO_forced (by decide) ⟨⟨(W0.alloc (.cells #[.int .i64 x.a, .int .i64 x.b, .int .i64 x.h] 89)).drew, fun _ _ _ => rfl⟩, rfl⟩ ?_
          go_wp2_with fail
          refine ⟨⟨⟨_, HAK.out⟩, rfl⟩, ?_⟩
          refine wpStillO_forced (by decide) ⟨⟨_, HAK.out⟩, rfl⟩ ?_
          clear hy0 hya hyc hyd
          have HML := Lib.hid (show ((S1.take i).map triP).length = i by rw [List.length_map, List.length_take]; omega)
          have HRW := Lib.hid (show World.ownsRow ((W0.alloc (.cells #[.int .i64 x.a, .int .i64 x.b, .int .i64 x.h] 89)).alloc (.cells #[.int .i64 x.a, .int .i64 x.b, .int .i64 x.h, .int .i64 1] 208)).drew 0 208 4 v1 i (pflat ((S1.take i).map triP)) by have := HKB3.out.r1; rw [HML.out] at this; exact this)
          refine wpList_append_where _ rfl (.tmp 73) (.tmp 83) 201 rfl 208 i0 _ 4 32 Tryz.underlying201 HI0.out HI1.out HI2.out HI3.out rfl (by decide) v1 i _ rfl HRW.out ⟨W0.heap.size + 1, 0, none⟩ 1 1 (triP x).cells rfl rfl ?c2 ?c1 (by decide) ?c3 ?c4 ?_
          case c2 =>
            intro t u ht
            have hnn := HNW.out
            rw [show ((W0.alloc (.cells #[.int .i64 x.a, .int .i64 x.b, .int .i64 x.h] 89)).drew.heap.size) = W0.heap.size + 1 from World.size_alloc _ _] at hnn
            rw [addr_add, cell_of_heap (show (((W0.alloc (.cells #[.int .i64 x.a, .int .i64 x.b, .int .i64 x.h] 89)).alloc (.cells #[.int .i64 x.a, .int .i64 x.b, .int .i64 x.h, .int .i64 1] 208)).drew).heap[W0.heap.size + 1]? = _ from hnn)]
            rw [Part.cells, HXH.out] at ht
            have : t = 0 ∨ t = 1 ∨ t = 2 ∨ t = 3 := by have := (List.getElem?_eq_some_iff.1 ht).1; simp at this; omega
            rcases this with rfl | rfl | rfl | rfl <;> exact ht
          case c1 => intro u hu; simp only [Part.cells, List.mem_cons, List.not_mem_nil, or_false] at hu; rcases hu with rfl | rfl | rfl | rfl <;> rfl
          case c3 => unfold maxLen; omega
          case c4 => omega
          intro g2 cap2 w' hown' hgr hwh hglt
          obtain ⟨hkb4, hfz, hce⟩ := HKB3.out.put1 (M := (S1.take (i + 1)).map triP) rfl (by rw [HPT.out, List.length_append, HML.out, pflat_append]; simpa [pflat] using hown') hgr hwh
          have hcw : ∀ b, b < (W0.alloc (.cells #[.int .i64 x.a, .int .i64 x.b, .int .i64 x.h] 89)).heap.size → b ∉ v1.ownBlock.toList → w'.heap[b]? = (W0.alloc (.cells #[.int .i64 x.a, .int .i64 x.b, .int .i64 x.h] 89)).heap[b]? := fun b hb hn => by
            rw [hgr.block b (by simp at hb ⊢; exact Nat.lt_succ_of_lt hb) (fun e => hn (by simp [← e]))]
            exact HAK.out b hb hn
          have hszA : (W0.alloc (.cells #[.int .i64 x.a, .int .i64 x.b, .int .i64 x.h] 89)).heap.size = W0.heap.size + 1 := World.size_alloc _ _
          have hszC : ((W0.alloc (.cells #[.int .i64 x.a, .int .i64 x.b, .int .i64 x.h] 89)).alloc (.cells #[.int .i64 x.a, .int .i64 x.b, .int .i64 x.h, .int .i64 1] 208)).drew.heap.size = W0.heap.size + 1 + 1 := (World.size_alloc _ _).trans (by rw [hszA])
          have HKP := Lib.hid (show ∀ b, b < wb.heap.size → b ≠ w1.heap.size → (w'.setCell ⟨w1.heap.size, 6, none⟩ (.slice (some ⟨g2, 0, none⟩) (i + 1) cap2)).heap[b]? = wb.heap[b]? from fun b hb hne => by
            have hb0 : b < W0.heap.size := Nat.lt_of_lt_of_le hb HWB.out
            rw [heap_setCell_other _ _ _ _ hne, hcw b (by rw [hszA]; omega) (fun hm => by have := HOW.out b (by simpa using hm); omega), Below.heap_alloc _ _ _ hb0]
            exact HKE.out b hb hne)
          have HON := Lib.hid (show ∀ b, (Value.slice (some ⟨g2, 0, none⟩) (i + 1) cap2).ownBlock = some b → wb.heap.size ≤ b from fun b hb => by
            have hgb : g2 = b := Option.some.inj hb
            subst hgb
            rcases hwh with hw | hw
            · exact HOW.out _ hw
            · have := HWB.out; rw [hszC] at hw; omega)
          have HSZ9 := Lib.hid (show wb.heap.size ≤ (w'.setCell ⟨w1.heap.size, 6, none⟩ (.slice (some ⟨g2, 0, none⟩) (i + 1) cap2)).heap.size by rw [World.size_setCell]; have := hgr.size; rw [hszC] at this; have := HWB.out; omega)
          have HCW := Lib.hid hcw
          have HKB4 := Lib.hid hkb4
          clear hown' hgr hwh hglt hcw hkb4 hszA hszC c0 c1 c2
          go_wp2_with fail
          refine ⟨⟨⟨_, HCW.out⟩, rfl⟩, wpStillO_nil ⟨⟨⟨_, HCW.out⟩, rfl⟩, ?_⟩⟩
          go_wp2_with fail
          refine ⟨⟨i + 1, by omega, by go_num, HSZ9.out, HKP.out, _, _, HON.out, HKB4.out⟩, by simp only [intOf]; omega⟩
        · have hni : ¬ (i : Int) < (S1.length : Int) := by omega
          have hta : S1.take i = S1 := List.take_of_length_le (by omega)
          have hk := HK.out
          rw [hta] at hk
          have HK9 := Lib.hid hk
          clear hk hta
          go_wp2_with fail
          refine ⟨⟨2, by omega, by go_num, v0, v1, (fun h => absurd h (by decide)), (fun h => absurd h (by decide)), ?_⟩, by decide⟩
          exact HK9.out
    · rw [if_neg (by omega), if_neg (by omega)] at HK
      simp only [show ((2 : Nat) : Int) = 2 from rfl]
      go_wp2_with fail
      go_ret2
      exact ⟨_, _, _, rfl, { HK.out with fr := HF1.out.trans HK.out.fr, ge := Nat.le_trans (Nat.le_of_lt HS1.out) HK.out.ge }⟩
end Go.Proofs.YtnkdbpjmepfblaaGreatDoor

/- block.New. -/
namespace Go.Proofs.YtnkdbpjmepfblaaGreatDoor
open Go Go.RowKit

def partsOf (l h : Nat) : List Part := if l = 1 then (if h = 0 then hexP else []) else if l = 2 then (if h = 0 then bes20 else bes21).map triP else (if h = 0 then bes30 else bes31).map triP
/-- The kernel of a table. -/
def knOf (T : Tb) : Kn := ⟨T, partsOf T.lat⟩
instance (q : Part) : Decidable q.ok := by unfold Part.ok; infer_instance
theorem partsOf_ok (l : Nat) (h1 : 1 ≤ l) (h2 : l ≤ 3) (h : Nat) (hh : h < 2) : (partsOf l h).length ≤ 12 ∧ (∀ q ∈ partsOf l h, q.ok) ∧ ((partsOf l h).map Part.w).sum ≤ 63 := by
  have hc : l = 1 ∨ l = 2 ∨ l = 3 := by omega
  have hd : h = 0 ∨ h = 1 := by omega
  rcases hc with rfl | rfl | rfl <;> rcases hd with rfl | rfl <;> decide
theorem knOf_good {T : Tb} (hT : T.fit) : (knOf T).good :=
  ⟨⟨hT.1, fun h hh => partsOf_ok T.lat hT.1.1 hT.1.2.1 h hh⟩, hT.2.1, hT.2.2.1⟩
theorem new_c {T : Tb} (hT : T.fit) {w : World} (hw : SixW w) : Calls Tryz.prog 77 #[T.val] w fun e w' =>
    ∃ kb ko, e = .returned (.tuple #[.pointer (some ⟨kb, 0, none⟩), .nilIface]) ∧ KW w' kb (knOf T) ko ∧ (∀ b ∈ ko, w.heap.size ≤ b) ∧ Fr w [] w' [] := by
  have h1 := hT.1.1
  have h2 := hT.1.2.1
  have hc : T.lat = 1 ∨ T.lat = 2 ∨ T.lat = 3 := by omega
  rcases hc with h | h | h
  · refine (newhex_c hT h hw).mono ?_
    rintro e w' ⟨kb, v0, v1, rfl, hk⟩
    obtain ⟨ko, h3, h4⟩ := hk.kw (N := knOf T) (knOf_good hT).1 rfl (by simp [knOf, partsOf, h]) (by simp [knOf, partsOf, h])
    exact ⟨kb, ko, rfl, h3, h4, hk.fr⟩
  · refine (newtri_c hT (.inl h) (N0 := near2L 0 3) (N1 := near2L 1 3) (S0 := bes20) (S1 := bes21) (by rw [h]; exact near20) (by rw [h]; exact near21) set20 set21 (by decide) (by decide) w).mono ?_
    rintro e w' ⟨kb, v0, v1, rfl, hk⟩
    obtain ⟨ko, h3, h4⟩ := hk.kw (N := knOf T) (knOf_good hT).1 rfl (by simp [knOf, partsOf, h]) (by simp [knOf, partsOf, h])
    exact ⟨kb, ko, rfl, h3, h4, hk.fr⟩
  · refine (newtri_c hT (.inr h) (N0 := near3L 0 3) (N1 := near3L 1 3) (S0 := bes30) (S1 := bes31) (by rw [h]; exact near30) (by rw [h]; exact near31) set30 set31 (by decide) (by decide) w).mono ?_
    rintro e w' ⟨kb, v0, v1, rfl, hk⟩
    obtain ⟨ko, h3, h4⟩ := hk.kw (N := knOf T) (knOf_good hT).1 rfl (by simp [knOf, partsOf, h]) (by simp [knOf, partsOf, h])
    exact ⟨kb, ko, rfl, h3, h4, hk.fr⟩
end Go.Proofs.YtnkdbpjmepfblaaGreatDoor
