/- Texts of the walk and its plain law, merged: MkB, MkC, MkD, TrA, TrB, TrC, TrD, TrE. -/
import Derived.Test.YtnkdbpjmepfblaaGreatDoorM24
import Derived.LaidEqlPtr
/- A life is made: Make. -/
namespace Go.Proofs.YtnkdbpjmepfblaaGreatDoor
open Go Go.RowKit

theorem ptr_eq46 (a : Addr) (w : World) : (binOp .eql 46 (.pointer (some a)) (.pointer (some a))).run Tryz.prog w = .ok (.bool true) w := by
  exact run_eql_ptr_same w a Tryz.underlying46 (Option.isSome_iff_exists.1 (show (Tryz.prog.info? _).isSome = true by kernel_rfl)).choose_spec
theorem ptr_eq49 (a : Addr) (w : World) : (binOp .eql 49 (.pointer (some a)) (.pointer (some a))).run Tryz.prog w = .ok (.bool true) w := by
  exact run_eql_ptr_same w a Tryz.underlying49 (Option.isSome_iff_exists.1 (show (Tryz.prog.info? _).isSome = true by kernel_rfl)).choose_spec
set_option maxRecDepth 100000 in
set_option maxHeartbeats 800000 in
theorem make_c {T : Tb} (hT : T.fit) {w : World} (hw : SixW w) (M : Int) (h1 : 0 ≤ M) (h2 : M < 9223372036854775808) :
    Calls Tryz.prog 35 #[T.val, .int .i64 M] w fun e w' => ∃ (I : LI) (o : List Nat), e = .returned (.tuple #[.pointer (some ⟨I.lb, 0, none⟩), .bool true]) ∧
      LW w' I (knOf T) ⟨Ar.new (max M 64).toNat, []⟩ o ∧ (∀ b ∈ I.own o, w.heap.size ≤ b) ∧ Fr w [] w' [] := by
  obtain ⟨l, b0, b1, s0, s1⟩ := T
  have HNC := Lib.hid (fun (w : World) (hw : SixW w) => new_c hT hw)
  have HGO := Lib.hid (knOf_good hT)
  unfold Tb.val at HNC ⊢
  simp only at HNC ⊢
  have HW := Lib.hid (hw.ext ((Fr.nil w).alloc (.cells #[.int .i64 l, .int .u64 b0, .int .u64 b1, .int .u64 s0, .int .u64 s1] 36)))
  have HF0 := Lib.hid ((Fr.nil w).alloc (.cells #[.int .i64 l, .int .u64 b0, .int .u64 b1, .int .u64 s0, .int .u64 s1] 36))
  have a0 : (w.alloc (.cells #[.int .i64 l, .int .u64 b0, .int .u64 b1, .int .u64 s0, .int .u64 s1] 36)).cell? ⟨w.heap.size, 0, none⟩ = some (.int .i64 l) := by rw [cell_of_heap (heap_new _ _)]; rfl
  have a1 : (w.alloc (.cells #[.int .i64 l, .int .u64 b0, .int .u64 b1, .int .u64 s0, .int .u64 s1] 36)).cell? ⟨w.heap.size, 1, none⟩ = some (.int .u64 b0) := by rw [cell_of_heap (heap_new _ _)]; rfl
  have a2 : (w.alloc (.cells #[.int .i64 l, .int .u64 b0, .int .u64 b1, .int .u64 s0, .int .u64 s1] 36)).cell? ⟨w.heap.size, 2, none⟩ = some (.int .u64 b1) := by rw [cell_of_heap (heap_new _ _)]; rfl
  have a3 : (w.alloc (.cells #[.int .i64 l, .int .u64 b0, .int .u64 b1, .int .u64 s0, .int .u64 s1] 36)).cell? ⟨w.heap.size, 3, none⟩ = some (.int .u64 s0) := by rw [cell_of_heap (heap_new _ _)]; rfl
  have a4 : (w.alloc (.cells #[.int .i64 l, .int .u64 b0, .int .u64 b1, .int .u64 s0, .int .u64 s1] 36)).cell? ⟨w.heap.size, 4, none⟩ = some (.int .u64 s1) := by rw [cell_of_heap (heap_new _ _)]; rfl
  have HM := Lib.hid (fun w => new_w w M (by omega) h2)
  clear hT hw h1 h2
  go_enter Tryz.func35, Tryz.ntmps35
  go_wp2_with fail
  refine (HNC.out _ HW.out).mono ?_
  rintro e w1 ⟨kb, ko, rfl, hk, hko, hf1⟩
  have HK := Lib.hid hk
  have HKO := Lib.hid hko
  have HF1 := Lib.hid (HF0.out.trans hf1)
  have HSZ := Lib.hid (HF0.out.size)
  clear hk hko hf1 a0 a1 a2 a3 a4
  go_wp2_with fail
  refine (HM.out w1).mono ?_
  rintro e w2 ⟨ab, o, rfl, ha, hf2⟩
  have HA := Lib.hid ha
  have HF2 := Lib.hid hf2
  have hf2' : Fr w1 [] w2 [] := ⟨hf2.os, hf2.tape, hf2.output, hf2.size, fun b hb _ => hf2.keep b hb (by simp), by simp, by simp⟩
  have HF3 := Lib.hid (HF1.out.trans hf2')
  have HK2 := Lib.hid (HK.out.ext hf2')
  clear ha hf2 hf2'
  go_wp2_with fail
  refine (lifenew_c HA.out HK2.out HGO.out (fun b hb hn => by
    have h1 := HK.out.lt b hb
    rcases HF2.out.own b hn with h | h
    · simp at h
    · omega)).mono ?_
  rintro e w3 ⟨I, rfl, hL, hab, hkb, hown, hf4⟩
  have HL := Lib.hid hL
  have HOWN := Lib.hid hown
  have HF4 := Lib.hid (HF3.out.trans hf4)
  have c0 : w3.cell? ⟨I.lb, 0, none⟩ = some (.pointer (some ⟨ab, 0, none⟩)) := by rw [cell_of_heap hL.hl, ← hab]; rfl
  have HKC := Lib.hid (kernel_c hL)
  rw [hkb] at HKC
  have hp1 := ptr_eq46 ⟨ab, 0, none⟩ w3
  have hp2 := ptr_eq49 ⟨kb, 0, none⟩ w3
  clear hL hown hf4 hab hkb
  go_wp2_with fail
  refine (HKC.out).mono ?_
  rintro e w4 ⟨rfl, rfl⟩
  go_wp2_with fail
  go_ret2
  refine ⟨I, o, rfl, HL.out, fun b hb => ?_, HF4.out⟩
  have h3 := HF3.out.size
  have h1 := HF1.out.size
  rcases HOWN.out b hb with h | h
  · rcases HF2.out.own b h with h' | h'
    · simp at h'
    · omega
  · omega
end Go.Proofs.YtnkdbpjmepfblaaGreatDoor

/- A table that may be: Own, Some. -/
namespace Go.Proofs.YtnkdbpjmepfblaaGreatDoor
open Go Go.RowKit

set_option maxRecDepth 100000 in
set_option maxHeartbeats 800000 in
theorem own_c (w : World) (l b0 b1 s0 s1 : Int) : Calls Tryz.prog 83 #[.agg #[.int .i64 l, .int .u64 b0, .int .u64 b1, .int .u64 s0, .int .u64 s1]] w fun e w' => e = .returned (.agg #[.int .i64 l, .int .u64 b0, .int .u64 b1, .int .u64 s0, .int .u64 s1]) ∧ Fr w [] w' [] := by
  have g (k : Nat) (v : Value) (hv : (#[.int .i64 l, .int .u64 b0, .int .u64 b1, .int .u64 s0, .int .u64 s1] : Array Value)[k]? = some v) : ((w.alloc (.cells #[.int .i64 l, .int .u64 b0, .int .u64 b1, .int .u64 s0, .int .u64 s1] 25)).alloc (.cells #[.int .i64 0, .int .u64 0, .int .u64 0, .int .u64 0, .int .u64 0] 36)).cell? ⟨w.heap.size, k, none⟩ = some v := by
    rw [cell_of_heap (show _ = some (Obj.cells #[.int .i64 l, .int .u64 b0, .int .u64 b1, .int .u64 s0, .int .u64 s1] 25) by rw [Below.heap_alloc _ _ _ (by simp)]; exact heap_new _ _)]; exact hv
  have a0 := g 0 _ rfl
  have a1 := g 1 _ rfl
  have a2 := g 2 _ rfl
  have a3 := g 3 _ rfl
  have a4 := g 4 _ rfl
  clear g
  go_enter Tryz.func83, Tryz.ntmps83
  go_wp2_with fail
  have g (k : Nat) (v : Value) (hv : (#[.int .i64 l, .int .u64 b0, .int .u64 b1, .int .u64 s0, .int .u64 s1] : Array Value)[k]? = some v) : ((w.alloc (.cells #[.int .i64 l, .int .u64 b0, .int .u64 b1, .int .u64 s0, .int .u64 s1] 25)).alloc (.cells #[.int .i64 l, .int .u64 b0, .int .u64 b1, .int .u64 s0, .int .u64 s1] 36)).cell? ⟨w.heap.size + 1, k, none⟩ = some v := by
    have := heap_new (w.alloc (.cells #[.int .i64 l, .int .u64 b0, .int .u64 b1, .int .u64 s0, .int .u64 s1] 25)) (.cells #[.int .i64 l, .int .u64 b0, .int .u64 b1, .int .u64 s0, .int .u64 s1] 36)
    rw [World.size_alloc] at this
    rw [cell_of_heap this]; exact hv
  have y0 := g 0 _ rfl
  have y1 := g 1 _ rfl
  have y2 := g 2 _ rfl
  have y3 := g 3 _ rfl
  have y4 := g 4 _ rfl
  exact bodyPost_ret (v := .agg #[.int .i64 l, .int .u64 b0, .int .u64 b1, .int .u64 s0, .int .u64 s1]) (by simp [results, Tryz.results83, go_sem, y0, y1, y2, y3, y4]) rfl ⟨rfl, ((Fr.nil w).alloc _).alloc _⟩
def maskOf (l : Nat) : Nat := if l = 1 then 18446744073709551615 else if l = 2 then 15 else 8191
def someLat (l : Int) : Nat := 1 + ((l % 256) % 3).toNat
/-- The table that l5.Some makes. -/
def someTb (l : Int) (b0 b1 s0 s1 : Nat) : Tb :=
  ⟨someLat l, b0 &&& (maskOf (someLat l) - 1), if someLat l = 1 then 0 else b1 &&& (maskOf (someLat l) - 1), s0 &&& maskOf (someLat l), if someLat l = 1 then 0 else s1 &&& maskOf (someLat l)⟩
/-- The memory of Some. -/
structure SM (w : World) (t3 : Nat) (l b0 b1 s0 s1 : Int) (wr : World) : Prop where
  fr : Fr w [] wr []
  ge : w.heap.size + 2 ≤ t3
  hr : wr.heap[w.heap.size + 1]? = some (.cells #[.int .i64 0, .int .u64 0, .int .u64 0, .int .u64 0, .int .u64 0] 36)
  ht : wr.heap[t3]? = some (.cells #[.int .i64 l, .int .u64 b0, .int .u64 b1, .int .u64 s0, .int .u64 s1] 36)
set_option maxRecDepth 100000 in
set_option maxHeartbeats 1600000 in
theorem some_c (w : World) (l : Int) (b0 b1 s0 s1 : Nat) (_hl1 : -9223372036854775808 ≤ l) (_hl2 : l < 9223372036854775808) (h0 : b0 < 18446744073709551616) (h1 : b1 < 18446744073709551616) (h2 : s0 < 18446744073709551616) (h3 : s1 < 18446744073709551616) :
    Calls Tryz.prog 21 #[.agg #[.int .i64 l, .int .u64 b0, .int .u64 b1, .int .u64 s0, .int .u64 s1]] w fun e w' => e = .returned (someTb l b0 b1 s0 s1).val ∧ Fr w [] w' [] := by
  have g (k : Nat) (v : Value) (hv : (#[.int .i64 l, .int .u64 b0, .int .u64 b1, .int .u64 s0, .int .u64 s1] : Array Value)[k]? = some v) : ((w.alloc (.cells #[.int .i64 l, .int .u64 b0, .int .u64 b1, .int .u64 s0, .int .u64 s1] 25)).alloc (.cells #[.int .i64 0, .int .u64 0, .int .u64 0, .int .u64 0, .int .u64 0] 36)).cell? ⟨w.heap.size, k, none⟩ = some v := by
    rw [cell_of_heap (show _ = some (Obj.cells #[.int .i64 l, .int .u64 b0, .int .u64 b1, .int .u64 s0, .int .u64 s1] 25) by rw [Below.heap_alloc _ _ _ (by simp)]; exact heap_new _ _)]; exact hv
  have a0 := g 0 _ rfl
  have a1 := g 1 _ rfl
  have a2 := g 2 _ rfl
  have a3 := g 3 _ rfl
  have a4 := g 4 _ rfl
  have hb0 : ((w.alloc (.cells #[.int .i64 l, .int .u64 b0, .int .u64 b1, .int .u64 s0, .int .u64 s1] 25)).alloc (.cells #[.int .i64 0, .int .u64 0, .int .u64 0, .int .u64 0, .int .u64 0] 36)).heap[w.heap.size]? = some (.cells #[.int .i64 l, .int .u64 b0, .int .u64 b1, .int .u64 s0, .int .u64 s1] 25) := by
    rw [Below.heap_alloc _ _ _ (by simp)]; exact heap_new _ _
  have hb1 : ((w.alloc (.cells #[.int .i64 l, .int .u64 b0, .int .u64 b1, .int .u64 s0, .int .u64 s1] 25)).alloc (.cells #[.int .i64 0, .int .u64 0, .int .u64 0, .int .u64 0, .int .u64 0] 36)).heap[w.heap.size + 1]? = some (.cells #[.int .i64 0, .int .u64 0, .int .u64 0, .int .u64 0, .int .u64 0] 36) := by
    have := heap_new (w.alloc (.cells #[.int .i64 l, .int .u64 b0, .int .u64 b1, .int .u64 s0, .int .u64 s1] 25)) (.cells #[.int .i64 0, .int .u64 0, .int .u64 0, .int .u64 0, .int .u64 0] 36)
    rwa [World.size_alloc] at this
  have HB0 := Lib.hid hb0
  have HB1 := Lib.hid hb1
  have HF0 := Lib.hid (((Fr.nil w).alloc (.cells #[.int .i64 l, .int .u64 b0, .int .u64 b1, .int .u64 s0, .int .u64 s1] 25)).alloc (.cells #[.int .i64 0, .int .u64 0, .int .u64 0, .int .u64 0, .int .u64 0] 36))
  have HO := Lib.hid (own_c ((w.alloc (.cells #[.int .i64 l, .int .u64 b0, .int .u64 b1, .int .u64 s0, .int .u64 s1] 25)).alloc (.cells #[.int .i64 0, .int .u64 0, .int .u64 0, .int .u64 0, .int .u64 0] 36)) l b0 b1 s0 s1)
  have hand := i64_and_mask 8 255 (by decide) rfl l
  rw [show ((255 : Nat) : Int) = 255 from rfl, show ((2 ^ 8 : Nat) : Int) = 256 from rfl] at hand
  have hq : (l % 256).tmod 3 = (l % 256) % 3 := Int.tmod_eq_emod_of_nonneg (by omega)
  obtain ⟨q, hqe⟩ : ∃ q, q = (l % 256) % 3 := ⟨_, rfl⟩
  have hq3 : q = 0 ∨ q = 1 ∨ q = 2 := by omega
  have HLAT := Lib.hid (show someLat l = 1 + q.toNat by unfold someLat; rw [hqe])
  rw [← hqe] at hq
  clear g hb0 hb1 hqe
  go_enter Tryz.func21, Tryz.ntmps21
  go_wp2_with fail
  refine (HO.out).mono ?_
  rintro e w1 ⟨rfl, hf1⟩
  have HF1 := Lib.hid (HF0.out.trans hf1)
  have HF1' := Lib.hid hf1
  have hk0 := hf1.keep w.heap.size (by simp; omega) (by simp)
  rw [HB0.out] at hk0
  have b0' : (w1.alloc (.cells #[.int .i64 l, .int .u64 b0, .int .u64 b1, .int .u64 s0, .int .u64 s1] 36)).cell? ⟨w.heap.size, 0, none⟩ = some (.int .i64 l) := by
    rw [cell_of_heap (show _ = some (Obj.cells #[.int .i64 l, .int .u64 b0, .int .u64 b1, .int .u64 s0, .int .u64 s1] 25) by rw [Below.heap_alloc _ _ _ (by have := hf1.size; simp at this; omega)]; exact hk0)]; rfl
  have hm4 : (#[.int .u64 0, .int .u64 18446744073709551615, .int .u64 15, .int .u64 8191] : Array Value)[(1 + q).toNat]? = some (.int .u64 (maskOf (1 + q.toNat) : Nat)) := by rcases hq3 with rfl | rfl | rfl <;> rfl
  have hmm : maskOf (1 + q.toNat) = 18446744073709551615 ∨ maskOf (1 + q.toNat) = 15 ∨ maskOf (1 + q.toNat) = 8191 := by rcases hq3 with rfl | rfl | rfl <;> decide
  obtain ⟨m, hme⟩ : ∃ m, m = maskOf (1 + q.toNat) := ⟨_, rfl⟩
  rw [← hme] at hm4 hmm
  have hmlt : m < 18446744073709551616 := by omega
  have han : bits .andNot .u64 (m : Int) 1 = ((m - 1 : Nat) : Int) := by rcases hmm with rfl | rfl | rfl <;> rfl
  have hmask : ((w1.alloc (.cells #[.int .i64 (1 + q), .int .u64 b0, .int .u64 b1, .int .u64 s0, .int .u64 s1] 36)).alloc (.cells #[.int .u64 0, .int .u64 18446744073709551615, .int .u64 15, .int .u64 8191] 22)).cell? ⟨w1.heap.size + 1, (1 + q).toNat, none⟩ = some (.int .u64 m) := by
    have := heap_new (w1.alloc (.cells #[.int .i64 (1 + q), .int .u64 b0, .int .u64 b1, .int .u64 s0, .int .u64 s1] 36)) (.cells #[.int .u64 0, .int .u64 18446744073709551615, .int .u64 15, .int .u64 8191] 22)
    rw [World.size_alloc] at this
    rw [cell_of_heap this]
    exact hm4
  have hsz1 := hf1.size
  have hsz2 : ((w.alloc (.cells #[.int .i64 l, .int .u64 b0, .int .u64 b1, .int .u64 s0, .int .u64 s1] 25)).alloc (.cells #[.int .i64 0, .int .u64 0, .int .u64 0, .int .u64 0, .int .u64 0] 36)).heap.size = w.heap.size + 1 + 1 := by rw [World.size_alloc, World.size_alloc]
  rw [hsz2] at hsz1
  have HSM := Lib.hid (show SM w w1.heap.size (1 + q) b0 b1 s0 s1 ((w1.alloc (.cells #[.int .i64 (1 + q), .int .u64 b0, .int .u64 b1, .int .u64 s0, .int .u64 s1] 36)).alloc (.cells #[.int .u64 0, .int .u64 18446744073709551615, .int .u64 15, .int .u64 8191] 22)) from
    ⟨(HF1.out.alloc _).alloc _, by omega, by rw [Below.heap_alloc _ _ _ (by rw [World.size_alloc]; omega), Below.heap_alloc _ _ _ (by omega), hf1.keep _ (by rw [hsz2]; omega) (by simp)]; exact HB1.out, by rw [Below.heap_alloc _ _ _ (by simp)]; exact heap_new _ _⟩)
  have u0 := u64_and_nat b0 (m - 1) h0 (by omega)
  have u1 := u64_and_nat b1 (m - 1) h1 (by omega)
  have u2 := u64_and_nat s0 m h2 hmlt
  have u3 := u64_and_nat s1 m h3 hmlt
  obtain ⟨c0, hc0⟩ : ∃ c0, c0 = b0 &&& (m - 1) := ⟨_, rfl⟩
  obtain ⟨c1, hc1⟩ : ∃ c1, c1 = b1 &&& (m - 1) := ⟨_, rfl⟩
  obtain ⟨d0, hd0⟩ : ∃ d0, d0 = s0 &&& m := ⟨_, rfl⟩
  obtain ⟨d1, hd1⟩ : ∃ d1, d1 = s1 &&& m := ⟨_, rfl⟩
  rw [← hc0] at u0
  rw [← hc1] at u1
  rw [← hd0] at u2
  rw [← hd1] at u3
  obtain ⟨mn, hmn⟩ : ∃ mn, mn = m - 1 := ⟨_, rfl⟩
  rw [← hmn] at han u0 u1
  have HT := Lib.hid (show someTb l b0 b1 s0 s1 = ⟨1 + q.toNat, c0, if 1 + q.toNat = 1 then 0 else c1, d0, if 1 + q.toNat = 1 then 0 else d1⟩ by unfold someTb; rw [HLAT.out, ← hme, hc0, hc1, hd0, hd1])
  clear a0 a1 a2 a3 a4 hk0 hf1 hsz1 hsz2 hme hmm hm4 hc0 hc1 hd0 hd1 hmn hmlt
  go_wp2_with fail
  clear hmask b0' h0 h1 h2 h3 hand hq
  go_loopw [19] (fun v6 wr => ∃ i : Nat, i ≤ 2 ∧ v6 = .int .i64 i ∧ SM w w1.heap.size (1 + q) (if 1 ≤ i then c0 else b0 : Nat) (if 2 ≤ i then c1 else b1 : Nat) (if 1 ≤ i then d0 else s0 : Nat) (if 2 ≤ i then d1 else s1 : Nat) wr) (fun v _ => 2 - (intOf v).toNat)
  case atStart => exact ⟨0, by omega, rfl, HSM.out⟩
  case round =>
    clear HSM
    obtain ⟨i, hi, rfl, hM⟩ := hrel
    obtain ⟨W0, rfl⟩ : ∃ W0, W0 = wr := ⟨_, rfl⟩
    have HM := Lib.hid hM
    clear hM
    have hc : i = 0 ∨ i = 1 ∨ i = 2 := by omega
    rcases hc with rfl | rfl | rfl
    · simp only [show ((0 : Nat) : Int) = 0 from rfl]
      have hm := HM.out
      simp only [if_false, show ¬ (1 ≤ 0) by decide, show ¬ (2 ≤ 0) by decide] at hm
      have k1 : W0.cell? ⟨w1.heap.size, 1 + 0, none⟩ = some (.int .u64 b0) := by rw [cell_of_heap hm.ht]; rfl
      have fz : ∀ k, W0.frozen? ⟨w1.heap.size, k, none⟩ = false := fun k => frozen_of_row _ _ _ _ _ hm.ht
      have hs1 := heap_setCell_same _ w1.heap.size (1 + 0) _ _ (.int .u64 c0) hm.ht
      have k2 : (W0.setCell ⟨w1.heap.size, 1 + 0, none⟩ (.int .u64 c0)).cell? ⟨w1.heap.size, 3 + 0, none⟩ = some (.int .u64 s0) := by rw [cell_of_heap hs1]; rfl
      have fz2 : ∀ k, (W0.setCell ⟨w1.heap.size, 1 + 0, none⟩ (.int .u64 c0)).frozen? ⟨w1.heap.size, k, none⟩ = false := fun k => frozen_of_row _ _ _ _ _ hs1
      have hs2 := heap_setCell_same _ w1.heap.size (3 + 0) _ _ (.int .u64 d0) hs1
      have HM9 := Lib.hid (show SM w w1.heap.size (1 + q) c0 b1 d0 s1 ((W0.setCell ⟨w1.heap.size, 1 + 0, none⟩ (.int .u64 c0)).setCell ⟨w1.heap.size, 3 + 0, none⟩ (.int .u64 d0)) from
        ⟨(hm.fr.setCell (by have := hm.ge; simp; omega) _).setCell (by have := hm.ge; simp; omega) _, hm.ge, by rw [heap_setCell_other _ _ _ _ (by have := hm.ge; simp; omega), heap_setCell_other _ _ _ _ (by have := hm.ge; simp; omega)]; exact hm.hr, hs2⟩)
      clear hm hs1 hs2
      simp only [show 1 + 0 = 1 from rfl, show 3 + 0 = 3 from rfl] at k1 k2 fz2 HM9
      go_wp2_with fail
      exact ⟨⟨1, by omega, by go_num, HM9.out⟩, by decide⟩
    · simp only [show ((1 : Nat) : Int) = 1 from rfl]
      have hm := HM.out
      simp only [if_true, if_false, Nat.le_refl, show ¬ (2 ≤ 1) by decide] at hm
      have k1 : W0.cell? ⟨w1.heap.size, 1 + 1, none⟩ = some (.int .u64 b1) := by rw [cell_of_heap hm.ht]; rfl
      have fz : ∀ k, W0.frozen? ⟨w1.heap.size, k, none⟩ = false := fun k => frozen_of_row _ _ _ _ _ hm.ht
      have hs1 := heap_setCell_same _ w1.heap.size (1 + 1) _ _ (.int .u64 c1) hm.ht
      have k2 : (W0.setCell ⟨w1.heap.size, 1 + 1, none⟩ (.int .u64 c1)).cell? ⟨w1.heap.size, 3 + 1, none⟩ = some (.int .u64 s1) := by rw [cell_of_heap hs1]; rfl
      have fz2 : ∀ k, (W0.setCell ⟨w1.heap.size, 1 + 1, none⟩ (.int .u64 c1)).frozen? ⟨w1.heap.size, k, none⟩ = false := fun k => frozen_of_row _ _ _ _ _ hs1
      have hs2 := heap_setCell_same _ w1.heap.size (3 + 1) _ _ (.int .u64 d1) hs1
      have HM9 := Lib.hid (show SM w w1.heap.size (1 + q) c0 c1 d0 d1 ((W0.setCell ⟨w1.heap.size, 1 + 1, none⟩ (.int .u64 c1)).setCell ⟨w1.heap.size, 3 + 1, none⟩ (.int .u64 d1)) from
        ⟨(hm.fr.setCell (by have := hm.ge; simp; omega) _).setCell (by have := hm.ge; simp; omega) _, hm.ge, by rw [heap_setCell_other _ _ _ _ (by have := hm.ge; simp; omega), heap_setCell_other _ _ _ _ (by have := hm.ge; simp; omega)]; exact hm.hr, hs2⟩)
      clear hm hs1 hs2
      simp only [show 1 + 1 = 2 from rfl, show 3 + 1 = 4 from rfl] at k1 k2 fz2 HM9
      go_wp2_with fail
      exact ⟨⟨2, by omega, by go_num, HM9.out⟩, by decide⟩
    · simp only [show ((2 : Nat) : Int) = 2 from rfl]
      have hm := HM.out
      simp only [if_true, show (1 ≤ 2) = True from by simp, Nat.le_refl] at hm
      by_cases hq0 : q = 0
      · subst hq0
        simp only [show (1 : Int) + 0 = 1 from rfl] at hm
        have hq1 : 1 + (0 : Int).toNat = 1 := rfl
        have k0 : W0.cell? ⟨w1.heap.size, 0, none⟩ = some (.int .i64 1) := by rw [cell_of_heap hm.ht]; rfl
        have fz : ∀ k, W0.frozen? ⟨w1.heap.size, k, none⟩ = false := fun k => frozen_of_row _ _ _ _ _ hm.ht
        have kx : W0.cell? ⟨w1.heap.size, 2, none⟩ = some (.int .u64 c1) := by rw [cell_of_heap hm.ht]; rfl
        have hs1 := heap_setCell_same _ w1.heap.size 2 _ _ (.int .u64 0) hm.ht
        have ky : (W0.setCell ⟨w1.heap.size, 2, none⟩ (.int .u64 0)).cell? ⟨w1.heap.size, 4, none⟩ = some (.int .u64 d1) := by rw [cell_of_heap hs1]; rfl
        have fz2 : ∀ k, (W0.setCell ⟨w1.heap.size, 2, none⟩ (.int .u64 0)).frozen? ⟨w1.heap.size, k, none⟩ = false := fun k => frozen_of_row _ _ _ _ _ hs1
        have hs2 := heap_setCell_same _ w1.heap.size 4 _ _ (.int .u64 0) hs1
        have hf9 : Fr w [] ((W0.setCell ⟨w1.heap.size, 2, none⟩ (.int .u64 0)).setCell ⟨w1.heap.size, 4, none⟩ (.int .u64 0)) [] := (hm.fr.setCell (by have := hm.ge; simp; omega) _).setCell (by have := hm.ge; simp; omega) _
        have hr9 : ((W0.setCell ⟨w1.heap.size, 2, none⟩ (.int .u64 0)).setCell ⟨w1.heap.size, 4, none⟩ (.int .u64 0)).heap[w.heap.size + 1]? = some (.cells #[.int .i64 0, .int .u64 0, .int .u64 0, .int .u64 0, .int .u64 0] 36) := by rw [heap_setCell_other _ _ _ _ (by have := hm.ge; simp; omega), heap_setCell_other _ _ _ _ (by have := hm.ge; simp; omega)]; exact hm.hr
        have z0 : ((W0.setCell ⟨w1.heap.size, 2, none⟩ (.int .u64 0)).setCell ⟨w1.heap.size, 4, none⟩ (.int .u64 0)).cell? ⟨w1.heap.size, 0, none⟩ = some (.int .i64 1) := by rw [cell_of_heap hs2]; rfl
        have z1 : ((W0.setCell ⟨w1.heap.size, 2, none⟩ (.int .u64 0)).setCell ⟨w1.heap.size, 4, none⟩ (.int .u64 0)).cell? ⟨w1.heap.size, 1, none⟩ = some (.int .u64 c0) := by rw [cell_of_heap hs2]; rfl
        have z2 : ((W0.setCell ⟨w1.heap.size, 2, none⟩ (.int .u64 0)).setCell ⟨w1.heap.size, 4, none⟩ (.int .u64 0)).cell? ⟨w1.heap.size, 2, none⟩ = some (.int .u64 0) := by rw [cell_of_heap hs2]; rfl
        have z3 : ((W0.setCell ⟨w1.heap.size, 2, none⟩ (.int .u64 0)).setCell ⟨w1.heap.size, 4, none⟩ (.int .u64 0)).cell? ⟨w1.heap.size, 3, none⟩ = some (.int .u64 d0) := by rw [cell_of_heap hs2]; rfl
        have z4 : ((W0.setCell ⟨w1.heap.size, 2, none⟩ (.int .u64 0)).setCell ⟨w1.heap.size, 4, none⟩ (.int .u64 0)).cell? ⟨w1.heap.size, 4, none⟩ = some (.int .u64 0) := by rw [cell_of_heap hs2]; rfl
        have fr : ∀ k, ((W0.setCell ⟨w1.heap.size, 2, none⟩ (.int .u64 0)).setCell ⟨w1.heap.size, 4, none⟩ (.int .u64 0)).frozen? ⟨w.heap.size + 1, k, none⟩ = false := fun k => frozen_of_row _ _ _ _ _ hr9
        have o0 : ((W0.setCell ⟨w1.heap.size, 2, none⟩ (.int .u64 0)).setCell ⟨w1.heap.size, 4, none⟩ (.int .u64 0)).cell? ⟨w.heap.size + 1, 0, none⟩ = some (.int .i64 0) := by rw [cell_of_heap hr9]; rfl
        have o1 : ((W0.setCell ⟨w1.heap.size, 2, none⟩ (.int .u64 0)).setCell ⟨w1.heap.size, 4, none⟩ (.int .u64 0)).cell? ⟨w.heap.size + 1, 1, none⟩ = some (.int .u64 0) := by rw [cell_of_heap hr9]; rfl
        have o2 : ((W0.setCell ⟨w1.heap.size, 2, none⟩ (.int .u64 0)).setCell ⟨w1.heap.size, 4, none⟩ (.int .u64 0)).cell? ⟨w.heap.size + 1, 2, none⟩ = some (.int .u64 0) := by rw [cell_of_heap hr9]; rfl
        have o3 : ((W0.setCell ⟨w1.heap.size, 2, none⟩ (.int .u64 0)).setCell ⟨w1.heap.size, 4, none⟩ (.int .u64 0)).cell? ⟨w.heap.size + 1, 3, none⟩ = some (.int .u64 0) := by rw [cell_of_heap hr9]; rfl
        have o4 : ((W0.setCell ⟨w1.heap.size, 2, none⟩ (.int .u64 0)).setCell ⟨w1.heap.size, 4, none⟩ (.int .u64 0)).cell? ⟨w.heap.size + 1, 4, none⟩ = some (.int .u64 0) := by rw [cell_of_heap hr9]; rfl
        have t0 := heap_setCell_same _ (w.heap.size + 1) 0 _ _ (.int .i64 1) hr9
        have t1 := heap_setCell_same _ (w.heap.size + 1) 1 _ _ (.int .u64 c0) t0
        have t2 := heap_setCell_same _ (w.heap.size + 1) 2 _ _ (.int .u64 0) t1
        have t3 := heap_setCell_same _ (w.heap.size + 1) 3 _ _ (.int .u64 d0) t2
        have t4 := heap_setCell_same _ (w.heap.size + 1) 4 _ _ (.int .u64 0) t3
        have hle : w.heap.size ≤ w.heap.size + 1 := by omega
        have HF9 := Lib.hid (((((hf9.setCell (a := ⟨w.heap.size + 1, 0, none⟩) hle (.int .i64 1)).setCell (a := ⟨w.heap.size + 1, 1, none⟩) hle (.int .u64 c0)).setCell (a := ⟨w.heap.size + 1, 2, none⟩) hle (.int .u64 0)).setCell (a := ⟨w.heap.size + 1, 3, none⟩) hle (.int .u64 d0)).setCell (a := ⟨w.heap.size + 1, 4, none⟩) hle (.int .u64 0))
        have H9 := Lib.hid t4
        have HT' := HT.out
        rw [if_pos hq1, if_pos hq1] at HT'
        have HT9 := Lib.hid HT'
        clear HT' t0 t1 t2 t3 t4 hle hr9 hf9 hm hs1 hs2
        go_wp2_with fail
        generalize (((((((W0.setCell ⟨w1.heap.size, 2, none⟩ (.int .u64 0)).setCell ⟨w1.heap.size, 4, none⟩ (.int .u64 0)).setCell ⟨w.heap.size + 1, 0, none⟩ (.int .i64 1)).setCell ⟨w.heap.size + 1, 1, none⟩ (.int .u64 c0)).setCell ⟨w.heap.size + 1, 2, none⟩ (.int .u64 0)).setCell ⟨w.heap.size + 1, 3, none⟩ (.int .u64 d0)).setCell ⟨w.heap.size + 1, 4, none⟩ (.int .u64 0)) = W9 at *
        have y0 : W9.cell? ⟨w.heap.size + 1, 0, none⟩ = some (.int .i64 1) := by rw [cell_of_heap H9.out]; rfl
        have y1 : W9.cell? ⟨w.heap.size + 1, 1, none⟩ = some (.int .u64 c0) := by rw [cell_of_heap H9.out]; rfl
        have y2 : W9.cell? ⟨w.heap.size + 1, 2, none⟩ = some (.int .u64 0) := by rw [cell_of_heap H9.out]; rfl
        have y3 : W9.cell? ⟨w.heap.size + 1, 3, none⟩ = some (.int .u64 d0) := by rw [cell_of_heap H9.out]; rfl
        have y4 : W9.cell? ⟨w.heap.size + 1, 4, none⟩ = some (.int .u64 0) := by rw [cell_of_heap H9.out]; rfl
        refine bodyPost_ret (v := .agg #[.int .i64 1, .int .u64 c0, .int .u64 0, .int .u64 d0, .int .u64 0]) (by simp [results, Tryz.results21, go_sem, y0, y1, y2, y3, y4]) rfl ⟨?_, HF9.out⟩
        rw [HT9.out]
        rfl
      · have hq1 : ¬ (1 + q.toNat = 1) := by omega
        have hqb : (1 + q == 1) = false := by simp; omega
        have HQN := Lib.hid (show ((1 + q.toNat : Nat) : Int) = 1 + q by omega)
        have k0 : W0.cell? ⟨w1.heap.size, 0, none⟩ = some (.int .i64 (1 + q)) := by rw [cell_of_heap hm.ht]; rfl
        have hf9 := hm.fr
        have hr9 := hm.hr
        have z1 : W0.cell? ⟨w1.heap.size, 1, none⟩ = some (.int .u64 c0) := by rw [cell_of_heap hm.ht]; rfl
        have z2 : W0.cell? ⟨w1.heap.size, 2, none⟩ = some (.int .u64 c1) := by rw [cell_of_heap hm.ht]; rfl
        have z3 : W0.cell? ⟨w1.heap.size, 3, none⟩ = some (.int .u64 d0) := by rw [cell_of_heap hm.ht]; rfl
        have z4 : W0.cell? ⟨w1.heap.size, 4, none⟩ = some (.int .u64 d1) := by rw [cell_of_heap hm.ht]; rfl
        have fr : ∀ k, W0.frozen? ⟨w.heap.size + 1, k, none⟩ = false := fun k => frozen_of_row _ _ _ _ _ hr9
        have o0 : W0.cell? ⟨w.heap.size + 1, 0, none⟩ = some (.int .i64 0) := by rw [cell_of_heap hr9]; rfl
        have o1 : W0.cell? ⟨w.heap.size + 1, 1, none⟩ = some (.int .u64 0) := by rw [cell_of_heap hr9]; rfl
        have o2 : W0.cell? ⟨w.heap.size + 1, 2, none⟩ = some (.int .u64 0) := by rw [cell_of_heap hr9]; rfl
        have o3 : W0.cell? ⟨w.heap.size + 1, 3, none⟩ = some (.int .u64 0) := by rw [cell_of_heap hr9]; rfl
        have o4 : W0.cell? ⟨w.heap.size + 1, 4, none⟩ = some (.int .u64 0) := by rw [cell_of_heap hr9]; rfl
        have t0 := heap_setCell_same _ (w.heap.size + 1) 0 _ _ (.int .i64 (1 + q)) hr9
        have t1 := heap_setCell_same _ (w.heap.size + 1) 1 _ _ (.int .u64 c0) t0
        have t2 := heap_setCell_same _ (w.heap.size + 1) 2 _ _ (.int .u64 c1) t1
        have t3 := heap_setCell_same _ (w.heap.size + 1) 3 _ _ (.int .u64 d0) t2
        have t4 := heap_setCell_same _ (w.heap.size + 1) 4 _ _ (.int .u64 d1) t3
        have hle : w.heap.size ≤ w.heap.size + 1 := by omega
        have HF9 := Lib.hid (((((hf9.setCell (a := ⟨w.heap.size + 1, 0, none⟩) hle (.int .i64 (1 + q))).setCell (a := ⟨w.heap.size + 1, 1, none⟩) hle (.int .u64 c0)).setCell (a := ⟨w.heap.size + 1, 2, none⟩) hle (.int .u64 c1)).setCell (a := ⟨w.heap.size + 1, 3, none⟩) hle (.int .u64 d0)).setCell (a := ⟨w.heap.size + 1, 4, none⟩) hle (.int .u64 d1))
        have H9 := Lib.hid t4
        have HT' := HT.out
        rw [if_neg hq1, if_neg hq1] at HT'
        have HT9 := Lib.hid HT'
        clear HT' t0 t1 t2 t3 t4 hle hr9 hf9 hm
        go_wp2_with fail
        generalize (((((W0.setCell ⟨w.heap.size + 1, 0, none⟩ (.int .i64 (1 + q))).setCell ⟨w.heap.size + 1, 1, none⟩ (.int .u64 c0)).setCell ⟨w.heap.size + 1, 2, none⟩ (.int .u64 c1)).setCell ⟨w.heap.size + 1, 3, none⟩ (.int .u64 d0)).setCell ⟨w.heap.size + 1, 4, none⟩ (.int .u64 d1)) = W9 at *
        have y0 : W9.cell? ⟨w.heap.size + 1, 0, none⟩ = some (.int .i64 (1 + q)) := by rw [cell_of_heap H9.out]; rfl
        have y1 : W9.cell? ⟨w.heap.size + 1, 1, none⟩ = some (.int .u64 c0) := by rw [cell_of_heap H9.out]; rfl
        have y2 : W9.cell? ⟨w.heap.size + 1, 2, none⟩ = some (.int .u64 c1) := by rw [cell_of_heap H9.out]; rfl
        have y3 : W9.cell? ⟨w.heap.size + 1, 3, none⟩ = some (.int .u64 d0) := by rw [cell_of_heap H9.out]; rfl
        have y4 : W9.cell? ⟨w.heap.size + 1, 4, none⟩ = some (.int .u64 d1) := by rw [cell_of_heap H9.out]; rfl
        refine bodyPost_ret (v := .agg #[.int .i64 (1 + q), .int .u64 c0, .int .u64 c1, .int .u64 d0, .int .u64 d1]) (by simp [results, Tryz.results21, go_sem, y0, y1, y2, y3, y4]) rfl ⟨?_, HF9.out⟩
        rw [HT9.out]
        unfold Tb.val
        simp only
        rw [HQN.out]
end Go.Proofs.YtnkdbpjmepfblaaGreatDoor

/- A table that may be: it is one. -/
namespace Go.Proofs.YtnkdbpjmepfblaaGreatDoor
open Go Go.RowKit

theorem mand_even (a m : Nat) (hm : m % 2 = 0) : (a &&& m) % 2 = 0 := by
  have h : (a &&& m).testBit 0 = false := by
    rw [Nat.testBit_and]
    have : m.testBit 0 = false := by rw [Nat.testBit_zero]; simp [hm]
    rw [this, Bool.and_false]
  rw [Nat.testBit_zero] at h
  have := of_decide_eq_false h
  omega
theorem fit_of1 (x0 y0 : Nat) (h0 : x0 < 18446744073709551616) (h1 : x0 % 2 = 0) (h2 : y0 < 18446744073709551616) : Tb.fit ⟨1, x0, 0, y0, 0⟩ :=
  ⟨⟨Nat.le_refl 1, (by decide : (1 : Nat) ≤ 3), h0, (by decide : 0 < 18446744073709551616), h2, (by decide : 0 < 18446744073709551616)⟩, h1, (rfl : 0 % 2 = 0), fun _ => ⟨rfl, rfl⟩, fun h => absurd h (by decide : ¬ (1 : Nat) = 2), fun h => absurd h (by decide : ¬ (1 : Nat) = 3)⟩
theorem fit_of2 (x0 x1 y0 y1 : Nat) (h0 : x0 < 16) (h1 : x0 % 2 = 0) (h2 : x1 < 16) (h3 : x1 % 2 = 0) (h4 : y0 < 16) (h5 : y1 < 16) : Tb.fit ⟨2, x0, x1, y0, y1⟩ := by
  unfold Tb.fit Tb.ok; simp only; omega
theorem fit_of3 (x0 x1 y0 y1 : Nat) (h0 : x0 < 8192) (h1 : x0 % 2 = 0) (h2 : x1 < 8192) (h3 : x1 % 2 = 0) (h4 : y0 < 8192) (h5 : y1 < 8192) : Tb.fit ⟨3, x0, x1, y0, y1⟩ := by
  unfold Tb.fit Tb.ok; simp only; omega
theorem mand_le (a m : Nat) : (a &&& m) < m + 1 := Nat.lt_succ_of_le Nat.and_le_right
theorem someTb_fit (l : Int) (b0 b1 s0 s1 : Nat) : (someTb l b0 b1 s0 s1).fit := by
  unfold someTb
  obtain ⟨L, hL⟩ : ∃ L, L = someLat l := ⟨_, rfl⟩
  rw [← hL]
  have hc : L = 1 ∨ L = 2 ∨ L = 3 := by
    rw [hL]; unfold someLat
    omega
  rcases hc with rfl | rfl | rfl
  · exact fit_of1 _ _ (Nat.lt_of_lt_of_le (mand_le _ _) (by decide)) (mand_even _ _ (by decide)) (mand_le _ _)
  · exact fit_of2 _ _ _ _ (Nat.lt_of_lt_of_le (mand_le _ _) (by decide)) (mand_even _ _ (by decide)) (Nat.lt_of_lt_of_le (mand_le _ _) (by decide)) (mand_even _ _ (by decide)) (mand_le _ _) (mand_le _ _)
  · exact fit_of3 _ _ _ _ (Nat.lt_of_lt_of_le (mand_le _ _) (by decide)) (mand_even _ _ (by decide)) (Nat.lt_of_lt_of_le (mand_le _ _) (by decide)) (mand_even _ _ (by decide)) (mand_le _ _) (mand_le _ _)
end Go.Proofs.YtnkdbpjmepfblaaGreatDoor

/- The tree: Half, Inside, Low. -/
namespace Go.Proofs.YtnkdbpjmepfblaaGreatDoor
open Go Go.RowKit

theorem nat_andNot3 (x : Nat) (hx : x < 18446744073709551616) : x &&& 18446744073709551612 = x - x % 4 := by
  have e : x - x % 4 = x / 4 * 2 ^ 2 := by omega
  rw [e]
  apply Nat.eq_of_testBit_eq
  intro i
  rw [Nat.testBit_and, Nat.testBit_mul_two_pow]
  have h4 : (x / 4).testBit (i - 2) = x.testBit (i - 2 + 2) := by rw [show x / 4 = x / 2 ^ 2 from rfl, Nat.testBit_div_two_pow]
  have hm : (18446744073709551612 : Nat).testBit i = (decide (i < 64) && !(Nat.testBit 3 i)) := by
    have := Nat.testBit_two_pow_sub_succ (n := 64) (x := 3) (by decide) i
    exact this
  rw [hm]
  by_cases h2 : 2 ≤ i
  · rw [decide_eq_true h2, Bool.true_and, h4, show i - 2 + 2 = i by omega]
    have h3 : Nat.testBit 3 i = false := Nat.testBit_lt_two_pow (Nat.lt_of_lt_of_le (by decide : 3 < 2 ^ 2) (Nat.pow_le_pow_right (show 0 < 2 by decide) h2))
    rw [h3]
    by_cases h64 : i < 64
    · simp [h64]
    · have : x.testBit i = false := Nat.testBit_lt_two_pow (Nat.lt_of_lt_of_le hx (Nat.pow_le_pow_right (show 0 < 2 by decide) (by omega : 64 ≤ i)))
      rw [this]; simp
  · have h01 : i = 0 ∨ i = 1 := by omega
    rcases h01 with rfl | rfl
    · simp
    · rw [show Nat.testBit 3 1 = true from rfl]; simp
theorem i64_andNot3 (n : Int) (h1 : -9223372036854775808 ≤ n) (h2 : n < 9223372036854775808) : bits .andNot .i64 n 3 = n - n % 4 := by
  have key : (BitVec.ofInt 64 n &&& ~~~(BitVec.ofInt 64 3)).toNat = (n % ((2 ^ 64 : Nat) : Int)).toNat - (n % ((2 ^ 64 : Nat) : Int)).toNat % 4 := by
    rw [BitVec.toNat_and, BitVec.toNat_not, BitVec.toNat_ofInt]
    exact nat_andNot3 _ (by omega)
  show IntKind.i64.wrap ((BitVec.ofInt 64 n &&& ~~~(BitVec.ofInt 64 3)).toNat : Nat) = _
  rw [key, IntKind.wrap_i64]
  omega
set_option maxRecDepth 100000 in
theorem half_c (n : Nat) (h1 : 1 ≤ n) (h2 : n ≤ 44) (w : World) : Calls Tryz.prog 157 #[.int .i64 n] w fun e w' => e = .returned (.int .i64 ((2 ^ (n - 1) : Nat) : Int)) ∧ w' = w := by
  have hp : 2 ^ (n - 1) ≤ 2 ^ 43 := Nat.pow_le_pow_right (by decide) (by omega)
  have m1 : max (n : Int) 1 = n := by omega
  have m2 : min (n : Int) 44 = n := by omega
  have hw1 : IntKind.i64.wrap ((n : Int) - 1) = (n : Int) - 1 := by rw [IntKind.wrap_i64]; omega
  have HE := Lib.hid (show wrap64 (2 ^ (n - 1)) = ((2 ^ (n - 1) : Nat) : Int) by
    rw [show (2 : Int) ^ (n - 1) = ((2 ^ (n - 1) : Nat) : Int) by norm_cast]
    exact wrap64_nat _ (by omega))
  have hc : (n : Int) - 1 = ((n - 1 : Nat) : Int) := by omega
  clear hp
  go_enter Tryz.func157, Tryz.ntmps157
  go_wp2_with fail
  go_ret
  exact ⟨by rw [← HE.out]; rfl, rfl⟩
set_option maxRecDepth 100000 in
theorem low_c (a b : Int) (h1 : -9223372036854775808 ≤ a) (h2 : a < 9223372036854775808) (h3 : -9223372036854775808 ≤ b) (h4 : b < 9223372036854775808) (w : World) : Calls Tryz.prog 158 #[.agg #[.int .i64 a, .int .i64 b]] w fun e w' => e = .returned (.agg #[.int .i64 (a - a % 4), .int .i64 (b - b % 4)]) ∧ Fr w [] w' [] := by
  have c0 : ((w.alloc (.cells #[.int .i64 a, .int .i64 b] 65)).alloc (.cells #[.int .i64 0, .int .i64 0] 65)).cell? ⟨w.heap.size, 0, none⟩ = some (.int .i64 a) := by
    rw [cell_of_heap (show _ = some (Obj.cells #[.int .i64 a, .int .i64 b] 65) by rw [Below.heap_alloc _ _ _ (by simp)]; exact heap_new _ _)]; rfl
  have c1 : ((w.alloc (.cells #[.int .i64 a, .int .i64 b] 65)).alloc (.cells #[.int .i64 0, .int .i64 0] 65)).cell? ⟨w.heap.size, 1, none⟩ = some (.int .i64 b) := by
    rw [cell_of_heap (show _ = some (Obj.cells #[.int .i64 a, .int .i64 b] 65) by rw [Below.heap_alloc _ _ _ (by simp)]; exact heap_new _ _)]; rfl
  have e1 := i64_andNot3 a h1 h2
  have e2 := i64_andNot3 b h3 h4
  obtain ⟨a', ha⟩ : ∃ a', a' = a - a % 4 := ⟨_, rfl⟩
  obtain ⟨b', hb⟩ : ∃ b', b' = b - b % 4 := ⟨_, rfl⟩
  rw [← ha] at e1 ⊢
  rw [← hb] at e2 ⊢
  clear ha hb
  go_enter Tryz.func158, Tryz.ntmps158
  go_wp2_with fail
  have hh := heap_new (w.alloc (.cells #[.int .i64 a, .int .i64 b] 65)) (.cells #[.int .i64 a', .int .i64 b'] 65)
  rw [World.size_alloc] at hh
  have y0 : ((w.alloc (.cells #[.int .i64 a, .int .i64 b] 65)).alloc (.cells #[.int .i64 a', .int .i64 b'] 65)).cell? ⟨w.heap.size + 1, 0, none⟩ = some (.int .i64 a') := by rw [cell_of_heap hh]; rfl
  have y1 : ((w.alloc (.cells #[.int .i64 a, .int .i64 b] 65)).alloc (.cells #[.int .i64 a', .int .i64 b'] 65)).cell? ⟨w.heap.size + 1, 1, none⟩ = some (.int .i64 b') := by rw [cell_of_heap hh]; rfl
  exact bodyPost_ret (v := .agg #[.int .i64 a', .int .i64 b']) (by simp [results, Tryz.results158, go_sem, y0, y1]) rfl ⟨rfl, ((Fr.nil w).alloc _).alloc _⟩
end Go.Proofs.YtnkdbpjmepfblaaGreatDoor

/- The tree: Inside, origin. -/
namespace Go.Proofs.YtnkdbpjmepfblaaGreatDoor
open Go Go.RowKit

def inB (n : Nat) (a b : Int) : Bool := decide (-((2 ^ (n - 1) : Nat) : Int) ≤ a) && decide (a < ((2 ^ (n - 1) : Nat) : Int)) && decide (-((2 ^ (n - 1) : Nat) : Int) ≤ b) && decide (b < ((2 ^ (n - 1) : Nat) : Int))
set_option maxRecDepth 100000 in
theorem inside_c (n : Nat) (h1 : 1 ≤ n) (h2 : n ≤ 44) (a b : Int) (w : World) : Calls Tryz.prog 92 #[.int .i64 n, .agg #[.int .i64 a, .int .i64 b]] w fun e w' => e = .returned (.bool (inB n a b)) ∧ Fr w [] w' [] := by
  have c0 : (w.alloc (.cells #[.int .i64 a, .int .i64 b] 65)).cell? ⟨w.heap.size, 0, none⟩ = some (.int .i64 a) := by rw [cell_of_heap (heap_new _ _)]; rfl
  have c1 : (w.alloc (.cells #[.int .i64 a, .int .i64 b] 65)).cell? ⟨w.heap.size, 1, none⟩ = some (.int .i64 b) := by rw [cell_of_heap (heap_new _ _)]; rfl
  have HF := Lib.hid ((Fr.nil w).alloc (.cells #[.int .i64 a, .int .i64 b] 65))
  have hp : 2 ^ (n - 1) ≤ 2 ^ 43 := Nat.pow_le_pow_right (by decide) (by omega)
  have HH := Lib.hid (half_c n h1 h2)
  unfold inB
  obtain ⟨h, hh⟩ : ∃ h : Nat, h = 2 ^ (n - 1) := ⟨_, rfl⟩
  rw [← hh] at hp HH ⊢
  have hn : IntKind.i64.wrap (-(h : Int)) = -(h : Int) := by rw [IntKind.wrap_i64]; omega
  clear hh hp h1 h2
  by_cases t1 : -(h : Int) ≤ a
  · by_cases t2 : a < (h : Int)
    · by_cases t3 : -(h : Int) ≤ b
      · simp only [t1, t2, t3, decide_true, Bool.true_and]
        go_enter Tryz.func92, Tryz.ntmps92
        go_wp2_with fail
        refine (HH.out _).mono ?_
        rintro e w1 ⟨rfl, rfl⟩
        go_wp2_with fail
        go_ret
        exact ⟨rfl, HF.out⟩
      · simp only [t1, t2, t3, decide_true, decide_false, Bool.and_self, Bool.and_false, Bool.false_and]
        go_enter Tryz.func92, Tryz.ntmps92
        go_wp2_with fail
        refine (HH.out _).mono ?_
        rintro e w1 ⟨rfl, rfl⟩
        go_wp2_with fail
        go_ret
        exact ⟨rfl, HF.out⟩
    · simp only [t1, t2, decide_true, decide_false, Bool.and_false, Bool.false_and]
      go_enter Tryz.func92, Tryz.ntmps92
      go_wp2_with fail
      refine (HH.out _).mono ?_
      rintro e w1 ⟨rfl, rfl⟩
      go_wp2_with fail
      go_ret
      exact ⟨rfl, HF.out⟩
  · simp only [t1, decide_false, Bool.false_and]
    go_enter Tryz.func92, Tryz.ntmps92
    go_wp2_with fail
    refine (HH.out _).mono ?_
    rintro e w1 ⟨rfl, rfl⟩
    go_wp2_with fail
    go_ret
    exact ⟨rfl, HF.out⟩
set_option maxRecDepth 100000 in
theorem origin_c (n : Nat) (h1 : 1 ≤ n) (h2 : n ≤ 44) (w : World) : Calls Tryz.prog 95 #[.int .i64 n] w fun e w' => e = .returned (.agg #[.int .i64 (-((2 ^ (n - 1) : Nat) : Int)), .int .i64 (-((2 ^ (n - 1) : Nat) : Int))]) ∧ Fr w [] w' [] := by
  have hp : 2 ^ (n - 1) ≤ 2 ^ 43 := Nat.pow_le_pow_right (by decide) (by omega)
  have HH := Lib.hid (half_c n h1 h2)
  obtain ⟨h, hh⟩ : ∃ h : Nat, h = 2 ^ (n - 1) := ⟨_, rfl⟩
  rw [← hh] at hp HH ⊢
  obtain ⟨k, hk⟩ : ∃ k : Int, k = -(h : Int) := ⟨_, rfl⟩
  have hn : IntKind.i64.wrap (-(h : Int)) = k := by rw [IntKind.wrap_i64]; omega
  rw [← hk]
  clear hh hp h1 h2 hk
  have hnw := heap_new w (.cells #[.int .i64 0, .int .i64 0] 65)
  have HF := Lib.hid ((Fr.nil w).alloc (.cells #[.int .i64 k, .int .i64 k] 65))
  go_enter Tryz.func95, Tryz.ntmps95
  go_wp2_with fail
  refine (HH.out _).mono ?_
  rintro e w1 ⟨rfl, rfl⟩
  go_wp2_with fail
  refine (HH.out _).mono ?_
  rintro e w1 ⟨rfl, rfl⟩
  go_wp2_with fail
  have y0 : (w.alloc (.cells #[.int .i64 k, .int .i64 k] 65)).cell? ⟨w.heap.size, 0, none⟩ = some (.int .i64 k) := by rw [cell_of_heap (heap_new _ _)]; rfl
  have y1 : (w.alloc (.cells #[.int .i64 k, .int .i64 k] 65)).cell? ⟨w.heap.size, 1, none⟩ = some (.int .i64 k) := by rw [cell_of_heap (heap_new _ _)]; rfl
  exact bodyPost_ret (v := .agg #[.int .i64 k, .int .i64 k]) (by simp [results, Tryz.results95, go_sem, y0, y1]) rfl ⟨rfl, HF.out⟩
end Go.Proofs.YtnkdbpjmepfblaaGreatDoor

/- The tree: Level. -/
namespace Go.Proofs.YtnkdbpjmepfblaaGreatDoor
open Go Go.RowKit

def boxB (n : Nat) (la lb ha hb : Int) : Bool := inB n la lb && inB n ha hb
set_option maxRecDepth 100000 in
set_option maxHeartbeats 800000 in
theorem tlevel_c (la lb ha hb : Int) (w : World) : Calls Tryz.prog 91 #[.agg #[.int .i64 la, .int .i64 lb, .int .i64 ha, .int .i64 hb]] w fun e w' =>
    ∃ L : Nat, e = .returned (.int .i64 L) ∧ 3 ≤ L ∧ L ≤ 44 ∧ (∀ m, 3 ≤ m → m < L → boxB m la lb ha hb = false) ∧ (L = 44 ∨ boxB L la lb ha hb = true) ∧ Fr w [] w' [] := by
  have HB := Lib.hid (heap_new w (.cells #[.int .i64 la, .int .i64 lb, .int .i64 ha, .int .i64 hb] 79))
  have HF := Lib.hid ((Fr.nil w).alloc (.cells #[.int .i64 la, .int .i64 lb, .int .i64 ha, .int .i64 hb] 79))
  have HLT := Lib.hid (show w.heap.size < (w.alloc (.cells #[.int .i64 la, .int .i64 lb, .int .i64 ha, .int .i64 hb] 79)).heap.size by simp)
  go_enter Tryz.func91, Tryz.ntmps91
  go_wp2_with fail
  go_loopw [3] (fun v6 wr => ∃ i : Nat, 3 ≤ i ∧ i ≤ 44 ∧ v6 = .int .i64 i ∧ (∀ m, 3 ≤ m → m < i → boxB m la lb ha hb = false) ∧ Fr w [] wr [] ∧ w.heap.size < wr.heap.size ∧ wr.heap[w.heap.size]? = some (.cells #[.int .i64 la, .int .i64 lb, .int .i64 ha, .int .i64 hb] 79)) (fun v _ => 44 - (intOf v).toNat)
  case atStart => exact ⟨3, by omega, by omega, rfl, fun m h1 h2 => by omega, HF.out, HLT.out, HB.out⟩
  case round =>
    clear HF HB HLT
    obtain ⟨i, h3, hi, rfl, hm, hf, hlt, hb⟩ := hrel
    obtain ⟨W0, rfl⟩ : ∃ W0, W0 = wr := ⟨_, rfl⟩
    have HM := Lib.hid hm
    have HF := Lib.hid hf
    have HLT := Lib.hid hlt
    have HB := Lib.hid hb
    have c0 : W0.cell? ⟨w.heap.size, 0, none⟩ = some (.int .i64 la) := by rw [cell_of_heap hb]; rfl
    have c1 : W0.cell? ⟨w.heap.size, 1, none⟩ = some (.int .i64 lb) := by rw [cell_of_heap hb]; rfl
    clear hm hf hlt hb
    by_cases hgo : i < 44
    · have hli : (i : Int) < 44 := by omega
      have HI1 := Lib.hid (inside_c i (by omega) (by omega) la lb)
      have HI2 := Lib.hid (inside_c i (by omega) (by omega) ha hb)
      have HBX := Lib.hid (show boxB i la lb ha hb = (inB i la lb && inB i ha hb) from rfl)
      obtain ⟨p1, hp1⟩ : ∃ p1, p1 = inB i la lb := ⟨_, rfl⟩
      obtain ⟨p2, hp2⟩ : ∃ p2, p2 = inB i ha hb := ⟨_, rfl⟩
      rw [← hp1] at HI1 HBX
      rw [← hp2] at HI2 HBX
      clear hp1 hp2
      go_wp2_with fail
      refine (HI1.out _).mono ?_
      rintro e w1 ⟨rfl, hf1⟩
      have HF1 := Lib.hid (HF.out.trans hf1)
      have hb1 := hf1.keep _ HLT.out (by simp)
      rw [HB.out] at hb1
      have HB1 := Lib.hid hb1
      have HLT1 := Lib.hid (Nat.lt_of_lt_of_le HLT.out hf1.size)
      have d0 : w1.cell? ⟨w.heap.size, 2, none⟩ = some (.int .i64 ha) := by rw [cell_of_heap hb1]; rfl
      have d1 : w1.cell? ⟨w.heap.size, 3, none⟩ = some (.int .i64 hb) := by rw [cell_of_heap hb1]; rfl
      clear hf1 hb1 c0 c1
      cases p1 with
      | false =>
        go_wp2_with fail
        refine ⟨⟨i + 1, by omega, by omega, by go_num, fun m k1 k2 => ?_, HF1.out, HLT1.out, HB1.out⟩, by simp only [intOf]; omega⟩
        rcases Nat.lt_or_ge m i with k | k
        · exact HM.out m k1 k
        · obtain rfl : m = i := by omega
          exact HBX.out
      | true =>
        go_wp2_with fail
        refine (HI2.out _).mono ?_
        rintro e w2 ⟨rfl, hf2⟩
        have HF2 := Lib.hid (HF1.out.trans hf2)
        have hb2 := hf2.keep _ HLT1.out (by simp)
        rw [HB1.out] at hb2
        have HB2 := Lib.hid hb2
        have HLT2 := Lib.hid (Nat.lt_of_lt_of_le HLT1.out hf2.size)
        clear hf2 hb2 d0 d1
        cases p2 with
        | false =>
          go_wp2_with fail
          refine ⟨⟨i + 1, by omega, by omega, by go_num, fun m k1 k2 => ?_, HF2.out, HLT2.out, HB2.out⟩, by simp only [intOf]; omega⟩
          rcases Nat.lt_or_ge m i with k | k
          · exact HM.out m k1 k
          · obtain rfl : m = i := by omega
            exact HBX.out
        | true =>
          go_wp2_with fail
          go_ret
          exact ⟨i, rfl, h3, hi, HM.out, .inr HBX.out, HF2.out⟩
    · obtain rfl : i = 44 := by omega
      simp only [show ((44 : Nat) : Int) = 44 from rfl]
      go_wp2_with fail
      go_ret
      exact ⟨44, rfl, h3, hi, HM.out, .inl rfl, HF.out⟩
end Go.Proofs.YtnkdbpjmepfblaaGreatDoor

/- The tree: quarter. -/
namespace Go.Proofs.YtnkdbpjmepfblaaGreatDoor
open Go Go.RowKit

/-- The memory of quarter. -/
structure QtM (w : World) (x y a b : Int) (wr : World) : Prop where
  fr : Fr w [] wr []
  sz : w.heap.size + 1 + 1 < wr.heap.size
  h4 : wr.heap[w.heap.size]? = some (.cells #[.int .i64 x, .int .i64 y] 65)
  h5 : wr.heap[w.heap.size + 1]? = some (.cells #[.int .i64 a, .int .i64 b] 65)
  h7 : wr.heap[w.heap.size + 1 + 1]? = some (.cells #[.int .i64 0, .int .i64 0] 65)
theorem QtM.ext {w wr wz : World} {x y a b : Int} (h : QtM w x y a b wr) (hf : Fr wr [] wz []) : QtM w x y a b wz :=
  ⟨h.fr.trans hf, Nat.lt_of_lt_of_le h.sz hf.size, by rw [hf.keep _ (by have := h.sz; omega) (by simp)]; exact h.h4, by rw [hf.keep _ (by have := h.sz; omega) (by simp)]; exact h.h5, by rw [hf.keep _ h.sz (by simp)]; exact h.h7⟩
theorem QtM.set0 {w wr : World} {x y a b : Int} (h : QtM w x y a b wr) (v : Int) : QtM w v y a b (wr.setCell ⟨w.heap.size, 0, none⟩ (.int .i64 v)) :=
  ⟨h.fr.setCell (Nat.le_refl _) _, by rw [World.size_setCell]; exact h.sz, by rw [heap_setCell_same _ _ _ _ _ _ h.h4]; rfl, by rw [heap_setCell_other _ _ _ _ (by simp)]; exact h.h5, by rw [heap_setCell_other _ _ _ _ (show w.heap.size + 1 + 1 ≠ w.heap.size by omega)]; exact h.h7⟩
theorem QtM.set1 {w wr : World} {x y a b : Int} (h : QtM w x y a b wr) (v : Int) : QtM w x v a b (wr.setCell ⟨w.heap.size, 1, none⟩ (.int .i64 v)) :=
  ⟨h.fr.setCell (Nat.le_refl _) _, by rw [World.size_setCell]; exact h.sz, by rw [heap_setCell_same _ _ _ _ _ _ h.h4]; rfl, by rw [heap_setCell_other _ _ _ _ (by simp)]; exact h.h5, by rw [heap_setCell_other _ _ _ _ (show w.heap.size + 1 + 1 ≠ w.heap.size by omega)]; exact h.h7⟩
theorem QtM.cells {w wr : World} {x y a b : Int} (h : QtM w x y a b wr) : wr.cell? ⟨w.heap.size, 0, none⟩ = some (.int .i64 x) ∧ wr.cell? ⟨w.heap.size, 1, none⟩ = some (.int .i64 y) ∧ wr.cell? ⟨w.heap.size + 1, 0, none⟩ = some (.int .i64 a) ∧ wr.cell? ⟨w.heap.size + 1, 1, none⟩ = some (.int .i64 b) ∧
    wr.cell? ⟨w.heap.size + 1 + 1, 0, none⟩ = some (.int .i64 0) ∧ wr.cell? ⟨w.heap.size + 1 + 1, 1, none⟩ = some (.int .i64 0) ∧ (∀ k, wr.frozen? ⟨w.heap.size, k, none⟩ = false) ∧ (∀ k, wr.frozen? ⟨w.heap.size + 1 + 1, k, none⟩ = false) :=
  ⟨by rw [cell_of_heap h.h4]; rfl, by rw [cell_of_heap h.h4]; rfl, by rw [cell_of_heap h.h5]; rfl, by rw [cell_of_heap h.h5]; rfl, by rw [cell_of_heap h.h7]; rfl, by rw [cell_of_heap h.h7]; rfl, fun k => frozen_of_row _ _ _ _ _ h.h4, fun k => frozen_of_row _ _ _ _ _ h.h7⟩
theorem QtM.new (w : World) (x y a b : Int) : QtM w x y a b (((w.alloc (.cells #[.int .i64 x, .int .i64 y] 65)).alloc (.cells #[.int .i64 a, .int .i64 b] 65)).alloc (.cells #[.int .i64 0, .int .i64 0] 65)) := by
  refine ⟨(((Fr.nil w).alloc _).alloc _).alloc _, by simp, ?_, ?_, ?_⟩
  · rw [Below.heap_alloc _ _ _ (by simp; omega), Below.heap_alloc _ _ _ (by simp)]; exact heap_new _ _
  · rw [Below.heap_alloc _ _ _ (by simp)]
    have := heap_new (w.alloc (.cells #[.int .i64 x, .int .i64 y] 65)) (.cells #[.int .i64 a, .int .i64 b] 65)
    rw [World.size_alloc] at this
    exact this
  · have := heap_new ((w.alloc (.cells #[.int .i64 x, .int .i64 y] 65)).alloc (.cells #[.int .i64 a, .int .i64 b] 65)) (.cells #[.int .i64 0, .int .i64 0] 65)
    rw [World.size_alloc, World.size_alloc] at this
    exact this
theorem QtM.fin {w wr : World} {x y a b : Int} (h : QtM w x y a b wr) (x' y' : Int) : ((wr.setCell ⟨w.heap.size + 1 + 1, 0, none⟩ (.int .i64 x')).setCell ⟨w.heap.size + 1 + 1, 1, none⟩ (.int .i64 y')).heap[w.heap.size + 1 + 1]? = some (.cells #[.int .i64 x', .int .i64 y'] 65) ∧ Fr w [] ((wr.setCell ⟨w.heap.size + 1 + 1, 0, none⟩ (.int .i64 x')).setCell ⟨w.heap.size + 1 + 1, 1, none⟩ (.int .i64 y')) [] := by
  have h1 := heap_setCell_same _ (w.heap.size + 1 + 1) 0 _ _ (.int .i64 x') h.h7
  have h2 := heap_setCell_same _ (w.heap.size + 1 + 1) 1 _ _ (.int .i64 y') h1
  exact ⟨h2, (h.fr.setCell (show w.heap.size ≤ w.heap.size + 1 + 1 by omega) _).setCell (show w.heap.size ≤ w.heap.size + 1 + 1 by omega) _⟩
def quart (d : Nat) (la lb a b : Int) : Nat × Int × Int :=
  ((if la + ((2 ^ (d - 1) : Nat) : Int) ≤ a then 1 else 0) + (if lb + ((2 ^ (d - 1) : Nat) : Int) ≤ b then 2 else 0), (if la + ((2 ^ (d - 1) : Nat) : Int) ≤ a then la + ((2 ^ (d - 1) : Nat) : Int) else la), (if lb + ((2 ^ (d - 1) : Nat) : Int) ≤ b then lb + ((2 ^ (d - 1) : Nat) : Int) else lb))
set_option maxRecDepth 100000 in
set_option maxHeartbeats 1600000 in
theorem quarter_c (d : Nat) (hd1 : 1 ≤ d) (hd2 : d ≤ 44) (la lb a b : Int) (k1 : -1000000000000000 ≤ la) (k2 : la ≤ 1000000000000000) (k3 : -1000000000000000 ≤ lb) (k4 : lb ≤ 1000000000000000) (w : World) :
    Calls Tryz.prog 161 #[.int .i64 d, .agg #[.int .i64 la, .int .i64 lb], .agg #[.int .i64 a, .int .i64 b]] w fun e w' =>
      e = .returned (.tuple #[.int .i64 (quart d la lb a b).1, .agg #[.int .i64 (quart d la lb a b).2.1, .int .i64 (quart d la lb a b).2.2]]) ∧ Fr w [] w' [] := by
  have hp : 2 ^ (d - 1) ≤ 2 ^ 43 := Nat.pow_le_pow_right (by decide) (by omega)
  unfold quart
  have hsh : wrap64 (2 ^ (d - 1)) = ((2 ^ (d - 1) : Nat) : Int) := by
    rw [show (2 : Int) ^ (d - 1) = ((2 ^ (d - 1) : Nat) : Int) by norm_cast]
    exact wrap64_nat _ (by omega)
  obtain ⟨h, hh⟩ : ∃ h : Nat, h = 2 ^ (d - 1) := ⟨_, rfl⟩
  rw [← hh] at hp hsh ⊢
  have hdc : (d : Int) - 1 = ((d - 1 : Nat) : Int) := by omega
  have hdw : IntKind.i64.wrap ((d : Int) - 1) = (d : Int) - 1 := by rw [IntKind.wrap_i64]; omega
  obtain ⟨xa, hxa⟩ : ∃ xa, xa = la + (h : Int) := ⟨_, rfl⟩
  obtain ⟨xb, hxb⟩ : ∃ xb, xb = lb + (h : Int) := ⟨_, rfl⟩
  have q1 : IntKind.i64.wrap (la + (h : Int)) = xa := by rw [IntKind.wrap_i64]; omega
  have q2 : IntKind.i64.wrap (lb + (h : Int)) = xb := by rw [IntKind.wrap_i64]; omega
  rw [← hxa, ← hxb]
  have HM0 := Lib.hid (QtM.new w la lb a b)
  clear hh hp k1 k2 k3 k4 hxa hxb
  have hq0 := HM0.out.cells
  obtain ⟨a0, a1, a2, a3, a4, a5, a6, a7⟩ := hq0
  by_cases t1 : xa ≤ a <;> by_cases t2 : xb ≤ b
  · simp only [t1, t2, if_true]
    go_enter Tryz.func161, Tryz.ntmps161
    go_wp2_with fail
    clear a0 a1 a2 a3 a4 a5 a6 a7
    have hz1 : ∀ z : CW (((w.alloc (.cells #[.int .i64 la, .int .i64 lb] 65)).alloc (.cells #[.int .i64 a, .int .i64 b] 65)).alloc (.cells #[.int .i64 0, .int .i64 0] 65)), QtM w la lb a b z.x := fun z => HM0.out.ext z.h
    have HZ1 := Lib.hid hz1
    have z10 : ∀ z : CW (((w.alloc (.cells #[.int .i64 la, .int .i64 lb] 65)).alloc (.cells #[.int .i64 a, .int .i64 b] 65)).alloc (.cells #[.int .i64 0, .int .i64 0] 65)), z.x.cell? ⟨w.heap.size, 0, none⟩ = some (.int .i64 la) := fun z => (hz1 z).cells.1
    have z11 : ∀ z : CW (((w.alloc (.cells #[.int .i64 la, .int .i64 lb] 65)).alloc (.cells #[.int .i64 a, .int .i64 b] 65)).alloc (.cells #[.int .i64 0, .int .i64 0] 65)), z.x.cell? ⟨w.heap.size, 1, none⟩ = some (.int .i64 lb) := fun z => (hz1 z).cells.2.1
    clear hz1
    refine wp_region_tail 8 (by kernel_rfl) (by kernel_rfl) (CW (((w.alloc (.cells #[.int .i64 la, .int .i64 lb] 65)).alloc (.cells #[.int .i64 a, .int .i64 b] 65)).alloc (.cells #[.int .i64 0, .int .i64 0] 65))) Cls.x ⟨⟨_, (Fr.nil _).drew⟩, rfl⟩ ?_
    simp only [List.take_succ_cons, List.take_zero, List.drop_succ_cons, List.drop_zero]
    repeat (go_big_quiet_step (fail))
    refine wpQuiet_nil ?_
    intro y1
    clear z10 z11
    obtain ⟨f10, f11, f12, f13, f14, f15, f16, f17⟩ := (HZ1.out y1).cells
    have HM1 := Lib.hid ((HZ1.out y1).set0 xa)
    obtain ⟨g10, g11, g12, g13, g14, g15, g16, g17⟩ := HM1.out.cells
    go_wp2_with fail
    clear f10 f11 f12 f13 f14 f15 f16 f17 g10 g11 g12 g13 g14 g15 g16 g17
    have hz2 : ∀ z : CW (y1.x.setCell ⟨w.heap.size, 0, none⟩ (.int .i64 xa)), QtM w xa lb a b z.x := fun z => HM1.out.ext z.h
    have HZ2 := Lib.hid hz2
    have z20 : ∀ z : CW (y1.x.setCell ⟨w.heap.size, 0, none⟩ (.int .i64 xa)), z.x.cell? ⟨w.heap.size, 0, none⟩ = some (.int .i64 xa) := fun z => (hz2 z).cells.1
    have z21 : ∀ z : CW (y1.x.setCell ⟨w.heap.size, 0, none⟩ (.int .i64 xa)), z.x.cell? ⟨w.heap.size, 1, none⟩ = some (.int .i64 lb) := fun z => (hz2 z).cells.2.1
    clear hz2
    refine wp_region_tail 8 (by kernel_rfl) (by kernel_rfl) (CW (y1.x.setCell ⟨w.heap.size, 0, none⟩ (.int .i64 xa))) Cls.x ⟨⟨_, (Fr.nil _).drew⟩, rfl⟩ ?_
    simp only [List.take_succ_cons, List.take_zero, List.drop_succ_cons, List.drop_zero]
    repeat (go_big_quiet_step (fail))
    refine wpQuiet_nil ?_
    intro y2
    clear z20 z21
    obtain ⟨f20, f21, f22, f23, f24, f25, f26, f27⟩ := (HZ2.out y2).cells
    have HM2 := Lib.hid ((HZ2.out y2).set1 xb)
    obtain ⟨g20, g21, g22, g23, g24, g25, g26, g27⟩ := HM2.out.cells
    go_wp2_with fail
    clear f20 f21 f22 f23 f24 f25 f26 f27 g20 g21 g22 g23 g24 g25 g26 g27
    have hz3 : ∀ z : CW (y2.x.setCell ⟨w.heap.size, 1, none⟩ (.int .i64 xb)), QtM w xa xb a b z.x := fun z => HM2.out.ext z.h
    have HZ3 := Lib.hid hz3
    have z30 : ∀ z : CW (y2.x.setCell ⟨w.heap.size, 1, none⟩ (.int .i64 xb)), z.x.cell? ⟨w.heap.size, 0, none⟩ = some (.int .i64 xa) := fun z => (hz3 z).cells.1
    have z31 : ∀ z : CW (y2.x.setCell ⟨w.heap.size, 1, none⟩ (.int .i64 xb)), z.x.cell? ⟨w.heap.size, 1, none⟩ = some (.int .i64 xb) := fun z => (hz3 z).cells.2.1
    clear hz3
    refine wp_region_tail 3 (by kernel_rfl) (by kernel_rfl) (CW (y2.x.setCell ⟨w.heap.size, 1, none⟩ (.int .i64 xb))) Cls.x ⟨⟨_, (Fr.nil _).drew⟩, rfl⟩ ?_
    simp only [List.take_succ_cons, List.take_zero, List.drop_succ_cons, List.drop_zero]
    repeat (go_big_quiet_step (fail))
    refine wpQuiet_nil ?_
    intro y3
    clear z30 z31
    obtain ⟨f30, f31, f32, f33, f34, f35, f36, f37⟩ := (HZ3.out y3).cells
    obtain ⟨hfin, hffr⟩ := (HZ3.out y3).fin xa xb
    have HFIN := Lib.hid hfin
    have HFR := Lib.hid hffr
    clear hfin hffr
    go_wp2_with fail
    generalize ((y3.x.setCell ⟨w.heap.size + 1 + 1, 0, none⟩ (.int .i64 xa)).setCell ⟨w.heap.size + 1 + 1, 1, none⟩ (.int .i64 xb)) = W9 at *
    have y0 : W9.cell? ⟨w.heap.size + 1 + 1, 0, none⟩ = some (.int .i64 xa) := by rw [cell_of_heap HFIN.out]; rfl
    have y1' : W9.cell? ⟨w.heap.size + 1 + 1, 1, none⟩ = some (.int .i64 xb) := by rw [cell_of_heap HFIN.out]; rfl
    exact bodyPost_ret (v := .tuple #[.int .i64 3, .agg #[.int .i64 xa, .int .i64 xb]]) (by simp [results, Tryz.results161, go_sem, y0, y1']) rfl ⟨rfl, HFR.out⟩
  · simp only [t1, t2, if_true, if_false]
    go_enter Tryz.func161, Tryz.ntmps161
    go_wp2_with fail
    clear a0 a1 a2 a3 a4 a5 a6 a7
    have hz1 : ∀ z : CW (((w.alloc (.cells #[.int .i64 la, .int .i64 lb] 65)).alloc (.cells #[.int .i64 a, .int .i64 b] 65)).alloc (.cells #[.int .i64 0, .int .i64 0] 65)), QtM w la lb a b z.x := fun z => HM0.out.ext z.h
    have HZ1 := Lib.hid hz1
    have z10 : ∀ z : CW (((w.alloc (.cells #[.int .i64 la, .int .i64 lb] 65)).alloc (.cells #[.int .i64 a, .int .i64 b] 65)).alloc (.cells #[.int .i64 0, .int .i64 0] 65)), z.x.cell? ⟨w.heap.size, 0, none⟩ = some (.int .i64 la) := fun z => (hz1 z).cells.1
    have z11 : ∀ z : CW (((w.alloc (.cells #[.int .i64 la, .int .i64 lb] 65)).alloc (.cells #[.int .i64 a, .int .i64 b] 65)).alloc (.cells #[.int .i64 0, .int .i64 0] 65)), z.x.cell? ⟨w.heap.size, 1, none⟩ = some (.int .i64 lb) := fun z => (hz1 z).cells.2.1
    clear hz1
    refine wp_region_tail 8 (by kernel_rfl) (by kernel_rfl) (CW (((w.alloc (.cells #[.int .i64 la, .int .i64 lb] 65)).alloc (.cells #[.int .i64 a, .int .i64 b] 65)).alloc (.cells #[.int .i64 0, .int .i64 0] 65))) Cls.x ⟨⟨_, (Fr.nil _).drew⟩, rfl⟩ ?_
    simp only [List.take_succ_cons, List.take_zero, List.drop_succ_cons, List.drop_zero]
    repeat (go_big_quiet_step (fail))
    refine wpQuiet_nil ?_
    intro y1
    clear z10 z11
    obtain ⟨f10, f11, f12, f13, f14, f15, f16, f17⟩ := (HZ1.out y1).cells
    have HM1 := Lib.hid ((HZ1.out y1).set0 xa)
    obtain ⟨g10, g11, g12, g13, g14, g15, g16, g17⟩ := HM1.out.cells
    go_wp2_with fail
    clear f10 f11 f12 f13 f14 f15 f16 f17 g10 g11 g12 g13 g14 g15 g16 g17
    have hz2 : ∀ z : CW (y1.x.setCell ⟨w.heap.size, 0, none⟩ (.int .i64 xa)), QtM w xa lb a b z.x := fun z => HM1.out.ext z.h
    have HZ2 := Lib.hid hz2
    have z20 : ∀ z : CW (y1.x.setCell ⟨w.heap.size, 0, none⟩ (.int .i64 xa)), z.x.cell? ⟨w.heap.size, 0, none⟩ = some (.int .i64 xa) := fun z => (hz2 z).cells.1
    have z21 : ∀ z : CW (y1.x.setCell ⟨w.heap.size, 0, none⟩ (.int .i64 xa)), z.x.cell? ⟨w.heap.size, 1, none⟩ = some (.int .i64 lb) := fun z => (hz2 z).cells.2.1
    clear hz2
    refine wp_region_tail 3 (by kernel_rfl) (by kernel_rfl) (CW (y1.x.setCell ⟨w.heap.size, 0, none⟩ (.int .i64 xa))) Cls.x ⟨⟨_, (Fr.nil _).drew⟩, rfl⟩ ?_
    simp only [List.take_succ_cons, List.take_zero, List.drop_succ_cons, List.drop_zero]
    repeat (go_big_quiet_step (fail))
    refine wpQuiet_nil ?_
    intro y2
    clear z20 z21
    obtain ⟨f20, f21, f22, f23, f24, f25, f26, f27⟩ := (HZ2.out y2).cells
    obtain ⟨hfin, hffr⟩ := (HZ2.out y2).fin xa lb
    have HFIN := Lib.hid hfin
    have HFR := Lib.hid hffr
    clear hfin hffr
    go_wp2_with fail
    generalize ((y2.x.setCell ⟨w.heap.size + 1 + 1, 0, none⟩ (.int .i64 xa)).setCell ⟨w.heap.size + 1 + 1, 1, none⟩ (.int .i64 lb)) = W9 at *
    have y0 : W9.cell? ⟨w.heap.size + 1 + 1, 0, none⟩ = some (.int .i64 xa) := by rw [cell_of_heap HFIN.out]; rfl
    have y1' : W9.cell? ⟨w.heap.size + 1 + 1, 1, none⟩ = some (.int .i64 lb) := by rw [cell_of_heap HFIN.out]; rfl
    exact bodyPost_ret (v := .tuple #[.int .i64 1, .agg #[.int .i64 xa, .int .i64 lb]]) (by simp [results, Tryz.results161, go_sem, y0, y1']) rfl ⟨rfl, HFR.out⟩
  · simp only [t1, t2, if_true, if_false]
    go_enter Tryz.func161, Tryz.ntmps161
    go_wp2_with fail
    clear a0 a1 a2 a3 a4 a5 a6 a7
    have hz1 : ∀ z : CW (((w.alloc (.cells #[.int .i64 la, .int .i64 lb] 65)).alloc (.cells #[.int .i64 a, .int .i64 b] 65)).alloc (.cells #[.int .i64 0, .int .i64 0] 65)), QtM w la lb a b z.x := fun z => HM0.out.ext z.h
    have HZ1 := Lib.hid hz1
    have z10 : ∀ z : CW (((w.alloc (.cells #[.int .i64 la, .int .i64 lb] 65)).alloc (.cells #[.int .i64 a, .int .i64 b] 65)).alloc (.cells #[.int .i64 0, .int .i64 0] 65)), z.x.cell? ⟨w.heap.size, 0, none⟩ = some (.int .i64 la) := fun z => (hz1 z).cells.1
    have z11 : ∀ z : CW (((w.alloc (.cells #[.int .i64 la, .int .i64 lb] 65)).alloc (.cells #[.int .i64 a, .int .i64 b] 65)).alloc (.cells #[.int .i64 0, .int .i64 0] 65)), z.x.cell? ⟨w.heap.size, 1, none⟩ = some (.int .i64 lb) := fun z => (hz1 z).cells.2.1
    clear hz1
    refine wp_region_tail 8 (by kernel_rfl) (by kernel_rfl) (CW (((w.alloc (.cells #[.int .i64 la, .int .i64 lb] 65)).alloc (.cells #[.int .i64 a, .int .i64 b] 65)).alloc (.cells #[.int .i64 0, .int .i64 0] 65))) Cls.x ⟨⟨_, (Fr.nil _).drew⟩, rfl⟩ ?_
    simp only [List.take_succ_cons, List.take_zero, List.drop_succ_cons, List.drop_zero]
    repeat (go_big_quiet_step (fail))
    refine wpQuiet_nil ?_
    intro y1
    clear z10 z11
    obtain ⟨f10, f11, f12, f13, f14, f15, f16, f17⟩ := (HZ1.out y1).cells
    have HM1 := Lib.hid ((HZ1.out y1).set1 xb)
    obtain ⟨g10, g11, g12, g13, g14, g15, g16, g17⟩ := HM1.out.cells
    go_wp2_with fail
    clear f10 f11 f12 f13 f14 f15 f16 f17 g10 g11 g12 g13 g14 g15 g16 g17
    have hz2 : ∀ z : CW (y1.x.setCell ⟨w.heap.size, 1, none⟩ (.int .i64 xb)), QtM w la xb a b z.x := fun z => HM1.out.ext z.h
    have HZ2 := Lib.hid hz2
    have z20 : ∀ z : CW (y1.x.setCell ⟨w.heap.size, 1, none⟩ (.int .i64 xb)), z.x.cell? ⟨w.heap.size, 0, none⟩ = some (.int .i64 la) := fun z => (hz2 z).cells.1
    have z21 : ∀ z : CW (y1.x.setCell ⟨w.heap.size, 1, none⟩ (.int .i64 xb)), z.x.cell? ⟨w.heap.size, 1, none⟩ = some (.int .i64 xb) := fun z => (hz2 z).cells.2.1
    clear hz2
    refine wp_region_tail 3 (by kernel_rfl) (by kernel_rfl) (CW (y1.x.setCell ⟨w.heap.size, 1, none⟩ (.int .i64 xb))) Cls.x ⟨⟨_, (Fr.nil _).drew⟩, rfl⟩ ?_
    simp only [List.take_succ_cons, List.take_zero, List.drop_succ_cons, List.drop_zero]
    repeat (go_big_quiet_step (fail))
    refine wpQuiet_nil ?_
    intro y2
    clear z20 z21
    obtain ⟨f20, f21, f22, f23, f24, f25, f26, f27⟩ := (HZ2.out y2).cells
    obtain ⟨hfin, hffr⟩ := (HZ2.out y2).fin la xb
    have HFIN := Lib.hid hfin
    have HFR := Lib.hid hffr
    clear hfin hffr
    go_wp2_with fail
    generalize ((y2.x.setCell ⟨w.heap.size + 1 + 1, 0, none⟩ (.int .i64 la)).setCell ⟨w.heap.size + 1 + 1, 1, none⟩ (.int .i64 xb)) = W9 at *
    have y0 : W9.cell? ⟨w.heap.size + 1 + 1, 0, none⟩ = some (.int .i64 la) := by rw [cell_of_heap HFIN.out]; rfl
    have y1' : W9.cell? ⟨w.heap.size + 1 + 1, 1, none⟩ = some (.int .i64 xb) := by rw [cell_of_heap HFIN.out]; rfl
    exact bodyPost_ret (v := .tuple #[.int .i64 2, .agg #[.int .i64 la, .int .i64 xb]]) (by simp [results, Tryz.results161, go_sem, y0, y1']) rfl ⟨rfl, HFR.out⟩
  · simp only [t1, t2, if_false]
    go_enter Tryz.func161, Tryz.ntmps161
    go_wp2_with fail
    clear a0 a1 a2 a3 a4 a5 a6 a7
    have hz1 : ∀ z : CW (((w.alloc (.cells #[.int .i64 la, .int .i64 lb] 65)).alloc (.cells #[.int .i64 a, .int .i64 b] 65)).alloc (.cells #[.int .i64 0, .int .i64 0] 65)), QtM w la lb a b z.x := fun z => HM0.out.ext z.h
    have HZ1 := Lib.hid hz1
    have z10 : ∀ z : CW (((w.alloc (.cells #[.int .i64 la, .int .i64 lb] 65)).alloc (.cells #[.int .i64 a, .int .i64 b] 65)).alloc (.cells #[.int .i64 0, .int .i64 0] 65)), z.x.cell? ⟨w.heap.size, 0, none⟩ = some (.int .i64 la) := fun z => (hz1 z).cells.1
    have z11 : ∀ z : CW (((w.alloc (.cells #[.int .i64 la, .int .i64 lb] 65)).alloc (.cells #[.int .i64 a, .int .i64 b] 65)).alloc (.cells #[.int .i64 0, .int .i64 0] 65)), z.x.cell? ⟨w.heap.size, 1, none⟩ = some (.int .i64 lb) := fun z => (hz1 z).cells.2.1
    clear hz1
    refine wp_region_tail 3 (by kernel_rfl) (by kernel_rfl) (CW (((w.alloc (.cells #[.int .i64 la, .int .i64 lb] 65)).alloc (.cells #[.int .i64 a, .int .i64 b] 65)).alloc (.cells #[.int .i64 0, .int .i64 0] 65))) Cls.x ⟨⟨_, (Fr.nil _).drew⟩, rfl⟩ ?_
    simp only [List.take_succ_cons, List.take_zero, List.drop_succ_cons, List.drop_zero]
    repeat (go_big_quiet_step (fail))
    refine wpQuiet_nil ?_
    intro y1
    clear z10 z11
    obtain ⟨f10, f11, f12, f13, f14, f15, f16, f17⟩ := (HZ1.out y1).cells
    obtain ⟨hfin, hffr⟩ := (HZ1.out y1).fin la lb
    have HFIN := Lib.hid hfin
    have HFR := Lib.hid hffr
    clear hfin hffr
    go_wp2_with fail
    generalize ((y1.x.setCell ⟨w.heap.size + 1 + 1, 0, none⟩ (.int .i64 la)).setCell ⟨w.heap.size + 1 + 1, 1, none⟩ (.int .i64 lb)) = W9 at *
    have y0 : W9.cell? ⟨w.heap.size + 1 + 1, 0, none⟩ = some (.int .i64 la) := by rw [cell_of_heap HFIN.out]; rfl
    have y1' : W9.cell? ⟨w.heap.size + 1 + 1, 1, none⟩ = some (.int .i64 lb) := by rw [cell_of_heap HFIN.out]; rfl
    exact bodyPost_ret (v := .tuple #[.int .i64 0, .agg #[.int .i64 la, .int .i64 lb]]) (by simp [results, Tryz.results161, go_sem, y0, y1']) rfl ⟨rfl, HFR.out⟩
end Go.Proofs.YtnkdbpjmepfblaaGreatDoor

/- Leaves: State, Put. -/
namespace Go.Proofs.YtnkdbpjmepfblaaGreatDoor
open Go Go.RowKit

set_option maxRecDepth 100000 in
theorem lstate_c (f a b : Nat) (hf : f < 4294967296) (ha : a < 4) (hb : b < 4) (w : World) : Calls Tryz.prog 163 #[.int .u32 f, .int .i64 a, .int .i64 b] w fun e w' => e = .returned (.int .i64 ((f / 2 ^ (2 * (4 * b + a)) % 4 : Nat) : Int)) ∧ w' = w := by
  have ha' : (a : Int) < 4 := by omega
  have hb' : (b : Int) < 4 := by omega
  obtain ⟨n, hn⟩ : ∃ n, n = 2 * (4 * b + a) := ⟨_, rfl⟩
  rw [← hn]
  have w1 : IntKind.i64.wrap (4 * (b : Int)) = ((4 * b : Nat) : Int) := by rw [IntKind.wrap_i64]; omega
  have w2 : IntKind.i64.wrap (((4 * b : Nat) : Int) + (a : Int)) = ((4 * b + a : Nat) : Int) := by rw [IntKind.wrap_i64]; omega
  have w3 : IntKind.i64.wrap (2 * ((4 * b + a : Nat) : Int)) = (n : Int) := by rw [IntKind.wrap_i64]; omega
  go_enter Tryz.func163, Tryz.ntmps163
  have HE := Lib.hid (show bits .and .i64 (wrap64 ((f : Int) / 2 ^ (2 * (4 * b + a)))) 3 = ((f / 2 ^ n % 4 : Nat) : Int) by
    have hle : f / 2 ^ n ≤ f := Nat.div_le_self _ _
    rw [← hn, show (f : Int) / 2 ^ n = ((f / 2 ^ n : Nat) : Int) by norm_cast, wrap64_nat _ (by omega), i64_and3]
    omega)
  clear hn
  go_wp2_with fail
  go_ret
  exact ⟨by rw [← HE.out]; rfl, rfl⟩
def putN (f n s : Nat) : Nat := (f &&& (4294967295 - 3 * 2 ^ n)) ||| (s * 2 ^ n)
theorem putN_eq (f n s : Nat) (hf : f < 4294967296) (hn : n ≤ 30) (hs : s < 4) :
    bits .or .u32 (bits .andNot .u32 (f : Int) (3 * 2 ^ n % 4294967296)) (bits .and .i64 (s : Int) 3 % 4294967296 * 2 ^ n % 4294967296) = (putN f n s : Nat) := by
  have hp : 2 ^ n ≤ 2 ^ 30 := Nat.pow_le_pow_right (by decide) hn
  have e : ((2 : Int) ^ n) = ((2 ^ n : Nat) : Int) := by norm_cast
  unfold putN
  rw [e]
  generalize 2 ^ n = P at hp
  have h1 : (3 * (P : Int) % 4294967296) = ((3 * P : Nat) : Int) := by omega
  have hsp : s * P < 4294967296 := by
    have : s * P ≤ 3 * P := Nat.mul_le_mul_right _ (by omega)
    omega
  have h2 : (bits .and .i64 (s : Int) 3 % 4294967296 * (P : Int) % 4294967296) = ((s * P : Nat) : Int) := by
    have h3 : (s : Int) % 4 % 4294967296 = (s : Int) := by omega
    rw [i64_and3, h3, ← Int.natCast_mul]
    exact Int.emod_eq_of_lt (Int.natCast_nonneg _) (show ((s * P : Nat) : Int) < ((4294967296 : Nat) : Int) from Int.ofNat_lt.2 hsp)
  rw [h1, h2, u32_andNot_nat f (3 * P) hf (by omega), u32_or_nat _ _ (Nat.lt_of_le_of_lt Nat.and_le_left hf) hsp]
set_option maxRecDepth 100000 in
theorem lput_c (f a b s : Nat) (hf : f < 4294967296) (ha : a < 4) (hb : b < 4) (hs : s < 4) (w : World) : Calls Tryz.prog 189 #[.int .u32 f, .int .i64 a, .int .i64 b, .int .i64 s] w fun e w' => e = .returned (.int .u32 (putN f (2 * (4 * b + a)) s : Nat)) ∧ Fr w [] w' [] := by
  have ha' : (a : Int) < 4 := by omega
  have hb' : (b : Int) < 4 := by omega
  obtain ⟨n, hn⟩ : ∃ n, n = 2 * (4 * b + a) := ⟨_, rfl⟩
  have w1 : IntKind.i64.wrap (4 * (b : Int)) = ((4 * b : Nat) : Int) := by rw [IntKind.wrap_i64]; omega
  have w2 : IntKind.i64.wrap (((4 * b : Nat) : Int) + (a : Int)) = ((4 * b + a : Nat) : Int) := by rw [IntKind.wrap_i64]; omega
  have w3 : IntKind.i64.wrap (2 * ((4 * b + a : Nat) : Int)) = (n : Int) := by rw [IntKind.wrap_i64]; omega
  have HE := Lib.hid (putN_eq f (2 * (4 * b + a)) s hf (by omega) hs)
  clear hn
  go_enter Tryz.func189, Tryz.ntmps189
  go_wp2_with fail
  refine wp_region_cw (by kernel_rfl) (by kernel_rfl) (CW w) Cls.x ⟨⟨_, (Fr.nil w).drew⟩, rfl⟩ ?_
  repeat (go_big_quiet_step (fail))
  refine wpQuiet_nil ?_
  intro z
  have HZ := Lib.hid z.h
  go_wp2_with fail
  go_ret
  exact ⟨by rw [← HE.out]; rfl, HZ.out⟩
end Go.Proofs.YtnkdbpjmepfblaaGreatDoor
