/- Texts of the walk and its plain law, merged: MkA. -/
import Derived.Test.YtnkdbpjmepfblaaGreatDoorM19
import Derived.Test.YtnkdbpjmepfblaaGreatDoorM23
/- A life is made: leaf.New, life.New, Kernel. -/
namespace Go.Proofs.YtnkdbpjmepfblaaGreatDoor
open Go Go.RowKit

set_option maxRecDepth 100000 in
theorem leafnew_c (w : World) (kb : Nat) : Calls Tryz.prog 138 #[.pointer (some ⟨kb, 0, none⟩), .int .i64 16384] w fun e w' =>
    ∃ mb mm, e = .returned (.pointer (some ⟨mb, 0, none⟩)) ∧ (∀ N, MemoW w' mb mm kb N) ∧ w.heap.size ≤ mb ∧ w.heap.size ≤ mm ∧ Fr w [] w' [] := by
  have HF := Lib.hid (((Fr.nil w).alloc (.map #[] 0)).alloc (.cells #[.pointer (some ⟨kb, 0, none⟩), .int .i64 16384, .map (some w.heap.size), .int .i64 0] 264))
  have hm := MapL.new (val := lkVal) w
  have h1 := heap_new (w.alloc (.map #[] 0)) (.cells #[.pointer (some ⟨kb, 0, none⟩), .int .i64 16384, .map (some w.heap.size), .int .i64 0] 264)
  rw [World.size_alloc] at h1
  have h2 : ((w.alloc (.map #[] 0)).alloc (.cells #[.pointer (some ⟨kb, 0, none⟩), .int .i64 16384, .map (some w.heap.size), .int .i64 0] 264)).heap[w.heap.size]? = (w.alloc (.map #[] 0)).heap[w.heap.size]? := Below.heap_alloc _ _ _ (by simp)
  have HM := Lib.hid (show ∀ N, MemoW ((w.alloc (.map #[] 0)).alloc (.cells #[.pointer (some ⟨kb, 0, none⟩), .int .i64 16384, .map (some w.heap.size), .int .i64 0] 264)) (w.heap.size + 1) w.heap.size kb N from fun N => ⟨⟨0, h1⟩, ⟨[], hm.same h2, by simp⟩, by omega⟩)
  clear h1 h2 hm
  have hmk : (Instr.makeMap 262 none).run Tryz.prog w = .ok (.map (some w.heap.size)) (w.alloc (.map #[] 0)) := rfl
  go_enter Tryz.func138, Tryz.ntmps138
  go_wp2_with fail
  go_ret
  exact ⟨_, _, rfl, HM.out, by omega, by omega, HF.out⟩
set_option maxRecDepth 100000 in
theorem lifenew_c {w : World} {ab kb : Nat} {A : Ar} {o ko : List Nat} {N : Kn} (hA : AW w ab A o) (hK : KW w kb N ko) (hN : N.good) (hd : ∀ b ∈ ko, b ∉ o) :
    Calls Tryz.prog 73 #[.pointer (some ⟨ab, 0, none⟩), .pointer (some ⟨kb, 0, none⟩)] w fun e w' =>
      ∃ I : LI, e = .returned (.pointer (some ⟨I.lb, 0, none⟩)) ∧ LW w' I N ⟨A, []⟩ o ∧ I.ab = ab ∧ I.kb = kb ∧ (∀ b ∈ I.own o, b ∈ o ∨ w.heap.size ≤ b) ∧ Fr w [] w' [] := by
  have HA := Lib.hid hA
  have HK := Lib.hid hK
  have HN := Lib.hid hN
  have HD := Lib.hid hd
  clear hA hK hN hd
  go_enter Tryz.func73, Tryz.ntmps73
  go_wp2_with fail
  refine (leafnew_c _ kb).mono ?_
  rintro e w1 ⟨mb, mm, rfl, hm, hm1, hm2, hf⟩
  have HM := Lib.hid hm
  have HM1 := Lib.hid hm1
  have HM2 := Lib.hid hm2
  have HF := Lib.hid hf
  clear hm hm1 hm2 hf
  have hmk : (Instr.makeMap 48 none).run Tryz.prog w1 = .ok (.map (some w1.heap.size)) (w1.alloc (.map #[] 0)) := rfl
  go_wp2_with fail
  go_ret
  have hfm : Fr w1 [] ((w1.alloc (.map #[] 0)).alloc (LI.box ⟨w1.heap.size + 1, ab, mb, mm, w1.heap.size, kb, ko⟩)) [] := ((Fr.nil w1).alloc _).alloc _
  have hfa := HF.out.trans hfm
  have hb : ((w1.alloc (.map #[] 0)).alloc (LI.box ⟨w1.heap.size + 1, ab, mb, mm, w1.heap.size, kb, ko⟩)).heap[w1.heap.size + 1]? = some (LI.box ⟨w1.heap.size + 1, ab, mb, mm, w1.heap.size, kb, ko⟩) := by
    have := heap_new (w1.alloc (.map #[] 0)) (LI.box ⟨w1.heap.size + 1, ab, mb, mm, w1.heap.size, kb, ko⟩)
    rw [World.size_alloc] at this
    exact this
  have hkn : MapL ((w1.alloc (.map #[] 0)).alloc (LI.box ⟨w1.heap.size + 1, ab, mb, mm, w1.heap.size, kb, ko⟩)) rkVal w1.heap.size [] := (MapL.new (val := rkVal) w1).same (Below.heap_alloc _ _ _ (by simp))
  have hso := HF.out.size
  have hmlt := (HM.out N).lt
  have hm1 := HM1.out
  have hm2 := HM2.out
  have hne := (HM.out N).ne
  have holt : ∀ b ∈ o, b < w.heap.size := HA.out.lt
  refine ⟨⟨w1.heap.size + 1, ab, mb, mm, w1.heap.size, kb, ko⟩, rfl, ⟨hb, HA.out.ext hfa, (HM.out N).ext hfm, HK.out.ext hfa, hkn, HN.out, ?_, ?_, ?_⟩, rfl, rfl, ?_, hfa⟩
  · simp only; omega
  · simp only
    refine ⟨fun h => ?_, fun h => ?_, fun h => ?_, fun h => ?_⟩ <;> (have := holt _ h; omega)
  · intro b hb
    have h1 := HK.out.lt b hb
    exact ⟨HD.out b hb, by simp only; omega, by simp only; omega, by simp only; omega⟩
  · intro b hb
    simp only [LI.own, List.mem_cons] at hb
    rcases hb with rfl | rfl | rfl | hb
    · right; omega
    · right; omega
    · right; omega
    · exact .inl hb
set_option maxRecDepth 100000 in
theorem kernel_c {w : World} {I : LI} {N : Kn} {S : Lf} {o : List Nat} (h : LW w I N S o) : Calls Tryz.prog 74 #[.pointer (some ⟨I.lb, 0, none⟩)] w fun e w' => e = .returned (.pointer (some ⟨I.kb, 0, none⟩)) ∧ w' = w := by
  have hc : w.cell? ⟨I.lb, 3, none⟩ = some (.pointer (some ⟨I.kb, 0, none⟩)) := by rw [cell_of_heap h.hl]; rfl
  go_enter Tryz.func74, Tryz.ntmps74
  go_wp2_with fail
  go_ret
  exact ⟨rfl, rfl⟩
end Go.Proofs.YtnkdbpjmepfblaaGreatDoor
