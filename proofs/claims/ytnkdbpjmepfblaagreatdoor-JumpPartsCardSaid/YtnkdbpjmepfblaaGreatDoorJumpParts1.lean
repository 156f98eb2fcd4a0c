/- Texts of the walk and its plain law, merged: JpA, JpB. -/
import Derived.Test.YtnkdbpjmepfblaaGreatDoorM30
import Derived.Test.YtnkdbpjmepfblaaGreatDoorM31
/- JumpParts: the walk. -/
namespace Go.Proofs.YtnkdbpjmepfblaaGreatDoor
open Go Go.RowKit

def modN (n : Int) (k : Nat) : Nat := (n % 256).toNat % k
theorem modN_lt (n : Int) {k : Nat} (h : 0 < k) : modN n k < k := Nat.mod_lt _ h
theorem room_near {T : Tb} (hT : T.fit) (lat : Int) (L : List Ce) {M : Nat} (hM : 1500046 < M) : Room (famN (knOf T) (setPl (fewS lat L)) 80) M :=
  ⟨⟨1500000, (famN_few (knOf_good hT) (fewS_box lat L) 80).mono (fun _ _ _ _ h => h) wnT_13_80, by omega, by omega⟩⟩
theorem ctx_near {T : Tb} (lat : Int) (L : List Ce) (t : Nat) (ht : t ≤ 1000000) : Ctx (knOf T) (famN (knOf T) (setPl (fewS lat L)) t) (setPl (fewS lat L)) (-6) (-6) 13 t :=
  ⟨fewS_box lat L, by omega, by omega, fun t ht => Al_famN _ _ ht⟩
theorem bits_mod (n : Int) (k : Nat) : (bits BinOp.and IntKind.i64 n 255).tmod (k : Int) = (modN n k : Nat) := by
  have hand := i64_and_mask 8 255 (by decide) rfl n
  rw [show ((255 : Nat) : Int) = 255 from rfl, show ((2 ^ 8 : Nat) : Int) = 256 from rfl] at hand
  rw [hand, Int.tmod_eq_emod_of_nonneg (by omega)]
  unfold modN
  rw [Int.natCast_emod, Int.toNat_of_nonneg (by omega)]
set_option maxRecDepth 100000 in
set_option maxHeartbeats 1600000 in
theorem jumpParts_c {w : World} (hw : SixW w) (l : Int) (b0 b1 s0 s1 : Nat) (hl1 : -9223372036854775808 ≤ l) (hl2 : l < 9223372036854775808) (h0 : b0 < 18446744073709551616) (h1 : b1 < 18446744073709551616) (h2 : s0 < 18446744073709551616) (h3 : s1 < 18446744073709551616)
    {v : Value} {L : List Ce} (hsr : SR w v L) (hlen : L.length ≤ 9223372036854775807) (n m : Int) (_hn1 : -9223372036854775808 ≤ n) (_hn2 : n < 9223372036854775808) (_hm1 : -9223372036854775808 ≤ m) (_hm2 : m < 9223372036854775808) :
    Calls Tryz.prog 3 #[.agg #[.int .i64 l, .int .u64 b0, .int .u64 b1, .int .u64 s0, .int .u64 s1], v, .int .i64 n, .int .i64 m] w fun e w' => e = .returned (.bool true) ∧ Fr w [] w' [] := by
  have HAW := Lib.hid (fun (W : World) (h : SixW W) => awake_c h)
  have HSO := Lib.hid (fun W => some_c W l b0 b1 s0 s1 hl1 hl2 h0 h1 h2 h3)
  obtain ⟨T, hT⟩ : ∃ T, T = someTb l b0 b1 s0 s1 := ⟨_, rfl⟩
  have hfit : T.fit := by rw [hT]; exact someTb_fit l b0 b1 s0 s1
  rw [← hT] at HSO
  have HFIT := Lib.hid hfit
  have hbg : ∀ W, Fr w [] W [] → Calls Tryz.prog 20 #[T.val, v, .int .i64 2097152] W _ := fun W hf => begin_c hfit (hw.ext hf) (hsr.ext hf) hlen (F := famN (knOf T) (setPl (fewS T.lat L)) 80) (M := 2097152) (by omega) (by omega) (room_near hfit _ _ (by omega)) (Al_famN _ _ (t := 0) (by omega))
  have HBG := Lib.hid hbg
  have HCT := Lib.hid (ctx_near (T := T) T.lat L 80 (by omega))
  have HRM := Lib.hid (room_near hfit T.lat L (M := 2097152) (by omega))
  have HGD := Lib.hid (knOf_good hfit)
  obtain ⟨F, hF⟩ : ∃ F, F = famN (knOf T) (setPl (fewS T.lat L)) 80 := ⟨_, rfl⟩
  rw [← hF] at HBG HCT HRM
  obtain ⟨N, hN⟩ : ∃ N, N = knOf T := ⟨_, rfl⟩
  rw [← hN] at HBG HCT HGD
  obtain ⟨C, hC⟩ : ∃ C, C = setPl (fewS T.lat L) := ⟨_, rfl⟩
  rw [← hC] at HBG HCT
  obtain ⟨tv, htv⟩ : ∃ tv, tv = T.val := ⟨_, rfl⟩
  rw [← htv] at HBG HSO
  have HW := Lib.hid hw
  have hnw := heap_new w (.cells #[.int .i64 l, .int .u64 b0, .int .u64 b1, .int .u64 s0, .int .u64 s1] 25)
  have HNW := Lib.hid hnw
  have HF0 := Lib.hid ((Fr.nil w).alloc (.cells #[.int .i64 l, .int .u64 b0, .int .u64 b1, .int .u64 s0, .int .u64 s1] 25))
  obtain ⟨n', hn'⟩ : ∃ n', n' = modN n 41 := ⟨_, rfl⟩
  obtain ⟨m', hm'⟩ : ∃ m', m' = modN m 41 := ⟨_, rfl⟩
  have hbn : (bits BinOp.and IntKind.i64 n 255).tmod 41 = (n' : Int) := by rw [hn']; exact bits_mod n 41
  have hbm : (bits BinOp.and IntKind.i64 m 255).tmod 41 = (m' : Int) := by rw [hm']; exact bits_mod m 41
  have HNL := Lib.hid (show n' ≤ 40 ∧ m' ≤ 40 from ⟨by rw [hn']; have := modN_lt n (k := 41) (by omega); omega, by rw [hm']; have := modN_lt m (k := 41) (by omega); omega⟩)
  clear hn' hm' hw hl1 hl2 h0 h1 h2 h3 hsr hlen hT hfit hbg hF hN hC htv hnw
  go_enter Tryz.func3, Tryz.ntmps3
  go_wp2_with fail
  refine (HAW.out _ (HW.out.ext HF0.out)).mono ?_
  rintro e w1 ⟨rfl, hf1⟩
  have HF1 := Lib.hid (HF0.out.trans hf1)
  have hh1 : w1.heap[w.heap.size]? = some (.cells #[.int .i64 l, .int .u64 b0, .int .u64 b1, .int .u64 s0, .int .u64 s1] 25) := by rw [hf1.keep _ (heap_lt HNW.out) (by simp)]; exact HNW.out
  have a0 : w1.cell? ⟨w.heap.size, 0, none⟩ = some (.int .i64 l) := by rw [cell_of_heap hh1]; rfl
  have a1 : w1.cell? ⟨w.heap.size, 1, none⟩ = some (.int .u64 b0) := by rw [cell_of_heap hh1]; rfl
  have a2 : w1.cell? ⟨w.heap.size, 2, none⟩ = some (.int .u64 b1) := by rw [cell_of_heap hh1]; rfl
  have a3 : w1.cell? ⟨w.heap.size, 3, none⟩ = some (.int .u64 s0) := by rw [cell_of_heap hh1]; rfl
  have a4 : w1.cell? ⟨w.heap.size, 4, none⟩ = some (.int .u64 s1) := by rw [cell_of_heap hh1]; rfl
  clear hf1 hh1 HAW HNW HF0
  go_wp2_with fail
  refine (HSO.out w1).mono ?_
  rintro e w2 ⟨rfl, hf2⟩
  have HF2 := Lib.hid (HF1.out.trans hf2)
  clear hf2 HF1 HSO a0 a1 a2 a3 a4
  go_wp2_with fail
  refine (HBG.out w2 HF2.out).mono ?_
  rintro e w3 ⟨I, S3, o3, j, v3, rfl, hg3, hr3, hf3, ho3⟩
  have HG3 := Lib.hid hg3
  have HR3 := Lib.hid hr3
  have HF3 := Lib.hid (HF2.out.trans hf3)
  have HO3 := Lib.hid (show ∀ b ∈ I.own o3, w.heap.size ≤ b from fun b hb => by have := ho3 b hb; have := HF2.out.size; omega)
  clear hg3 hr3 hf3 ho3 HBG HF2
  go_wp2_with fail
  have hnl := HNL.out
  obtain ⟨g3, hg3, _⟩ := HR3.out
  have HJ4 := Lib.hid (GS.jump HGD.out HG3.out HRM.out HCT.out (t := 0) (n := n') (by omega) (by omega) hg3)
  clear hg3
  refine HJ4.out.mono ?_
  rintro e w4 ⟨j4, S4, o4, rfl, hg4, hr4, hle4, hf4⟩
  have HG4 := Lib.hid hg4
  have HR4 := Lib.hid hr4
  have HF4 := Lib.hid hf4
  have HL4 := Lib.hid hle4
  obtain ⟨g4, hg4', _⟩ := hr4
  have HJ5 := Lib.hid (GS.jump HGD.out hg4 HRM.out HCT.out (t := n' + 0) (n := m') (by omega) (by omega) hg4')
  clear hg4 hle4 hf4 hg4' HJ4
  simp only [okV]
  go_wp2_with fail
  refine HJ5.out.mono ?_
  rintro e w5 ⟨j5, S5, o5, rfl, hg5, hr5, hle5, hf5⟩
  have HG5 := Lib.hid hg5
  have HR5 := Lib.hid hr5
  have HF5 := Lib.hid (HF4.out.trans hf5)
  have HL5 := Lib.hid (HL4.out.trans hle5)
  obtain ⟨g3, hg3, _⟩ := HR3.out.le HL5.out HG3.out.vd.wf
  have HJ6 := Lib.hid (GS.jump HGD.out hg5 HRM.out HCT.out (t := 0) (n := m') (by omega) (by omega) hg3)
  clear hg5 hr5 hle5 hf5 hg3 HJ5 HF4
  simp only [okV]
  go_wp2_with fail
  refine HJ6.out.mono ?_
  rintro e w6 ⟨j6, S6, o6, rfl, hg6, hr6, hle6, hf6⟩
  have HG6 := Lib.hid hg6
  have HR56 := Lib.hid (HR5.out.le hle6 HG5.out.vd.wf)
  have HF6 := Lib.hid (HF5.out.trans hf6)
  have HL6 := Lib.hid (HL5.out.trans hle6)
  obtain ⟨g6, hg6', _⟩ := hr6
  have HJ7 := Lib.hid (GS.jump HGD.out hg6 HRM.out HCT.out (t := m' + 0) (n := n') (by omega) (by omega) hg6')
  clear hg6 hle6 hf6 hg6' HJ6 HF5 HR5
  simp only [okV]
  go_wp2_with fail
  refine HJ7.out.mono ?_
  rintro e w7 ⟨j7, S7, o7, rfl, hg7, hr7, hle7, hf7⟩
  have HG7 := Lib.hid hg7
  have HR7 := Lib.hid hr7
  have HR57 := Lib.hid (HR56.out.le hle7 HG6.out.vd.wf)
  have HF7 := Lib.hid (HF6.out.trans hf7)
  obtain ⟨g3, hg3, _⟩ := HR3.out.le (HL6.out.trans hle7) HG3.out.vd.wf
  obtain ⟨k, hk⟩ : ∃ k, k = n' + m' := ⟨_, rfl⟩
  have HJ8 := Lib.hid (GS.jump HGD.out hg7 HRM.out HCT.out (t := 0) (n := k) (by omega) (by omega) hg3)
  have hks : IntKind.i64.wrap ((n' : Int) + (m' : Int)) = (k : Int) := by rw [IntKind.wrap_i64]; omega
  have HK := Lib.hid hk
  clear hg7 hr7 hle7 hf7 hg3 HJ7 HF6 hk
  simp only [okV]
  go_wp2_with fail
  refine HJ8.out.mono ?_
  rintro e w8 ⟨j8, S8, o8, rfl, hg8, hr8, hle8, hf8⟩
  have e5 : j5 = j8 := Root.eq hg8.vd.wf (HR57.out.le hle8 HG7.out.vd.wf) (by rw [show m' + (n' + 0) = k + 0 by have := HK.out; omega]; exact hr8)
  have e7 : j7 = j8 := Root.eq hg8.vd.wf (HR7.out.le hle8 HG7.out.vd.wf) (by rw [show n' + (m' + 0) = k + 0 by have := HK.out; omega]; exact hr8)
  have HF8 := Lib.hid (HF3.out.dropAll (HF7.out.trans hf8) HO3.out)
  subst e5
  subst e7
  obtain ⟨W9, hW9⟩ : ∃ W9, W9 = w8.alloc (.cells #[.nilIface, .nilIface, .nilIface, .nilIface] 39) := ⟨_, rfl⟩
  obtain ⟨b9, hb9⟩ : ∃ b9, b9 = w8.heap.size := ⟨_, rfl⟩
  have HF9 := Lib.hid (show Fr w [] W9 [] by rw [hW9]; exact HF8.out.alloc _)
  have hh9 : W9.heap[b9]? = some (.cells #[.nilIface, .nilIface, .nilIface, .nilIface] 39) := by rw [hW9, hb9]; exact heap_new _ _
  have H9 := Lib.hid hh9
  clear hg8 hr8 hle8 hf8 HJ8 HF7 HF8 hh9 HG7 HR7 HR57 HR56 HG6 HG5 HG4 HR4
  simp only [okV]
  go_wp2_with fail
  rw [← hW9, ← hb9]
  clear hW9 hb9
  go_loopw [92] (fun v wr => ∃ i : Nat, i ≤ 4 ∧ v = .int .i64 i ∧ wr = W9) (fun v _ => 4 - (intOf v).toNat)
  case atStart => exact ⟨0, by omega, rfl, rfl⟩
  case round =>
    obtain ⟨i, hi, rfl, rfl⟩ := hrel
    by_cases hgo : i < 4
    · have hli : (i : Int) < 4 := by omega
      have c0 : wr.cell? ⟨b9, i, none⟩ = some .nilIface := by
        rw [cell_of_heap H9.out]
        have hc : i = 0 ∨ i = 1 ∨ i = 2 ∨ i = 3 := by omega
        rcases hc with rfl | rfl | rfl | rfl <;> rfl
      go_wp2_with fail
      exact ⟨⟨i + 1, by omega, rfl, trivial⟩, by simp only [intOf]; omega⟩
    · obtain rfl : i = 4 := by omega
      simp only [show ((4 : Nat) : Int) = 4 from rfl]
      go_wp2_with fail
      go_ret
      exact ⟨rfl, HF9.out⟩
end Go.Proofs.YtnkdbpjmepfblaaGreatDoor

/- JumpParts, the row: one behind the other, whatever the input. -/
namespace Go.Proofs.YtnkdbpjmepfblaaGreatDoor
open Go Go.RowKit Go.WideShapes Go.ChangeShapes

theorem own0 : ownKnob Tryz.prog.godebug = none := by kernel_rfl

/-- The door's own heap meets the condition. -/
theorem door_met (os : Os) (args : Array Value) : laidMetH Tryz.prog lsix ((World.doorLaid Tryz.prog 400 os).forCall (fun _ _ => 0) ⟨#[], args, []⟩).memory :=
  laidMetH_of_parts3 (fuel := 8) (laidMet_of_run' 8 (by kernel_rfl) (by kernel_rfl)) (by kernel_rfl) (by kernel_rfl)

theorem shut_true {H : Type} {enc : TypeId × Value → H} {w : World} {base : Nat} {spare : Nat → Bool} {held : Bool} : DataW.TrodAll enc Tryz.prog w base spare held [4] [.bool true] [.lit (.bool true)] [] :=
  trodAll_mk1 (shut_bool Tryz.underlying4 _)

def jpArgs : Array Value := #[.agg #[.int .i64 0, .int .u64 0, .int .u64 0, .int .u64 0, .int .u64 0], .slice none 0 0, .int .i64 0, .int .i64 0]

set_option maxRecDepth 100000 in
theorem jumpParts_lifted (os : Os) (started : os.Started) (H : Type) (enc : TypeId × Value → H) :
    ReturnsInHanded {} Tryz.checked os 3 .any (fun w args => (Rows.jumpPartsSpec.pre enc Tryz.prog Tryz.f3 [] false w args ∧ laidMetH Tryz.prog lsix w) ∧ sizedMet enc Tryz.prog Tryz.f3 (OpenSpec.ofChange Rows.jumpPartsSpec) false w args)
      (Rows.jumpPartsSpec.post enc Tryz.prog Tryz.f3 false true false false) := by
  refine returnsInHanded_of_change_and (C := Tryz.checked) (X := fun w _ => laidMetH Tryz.prog lsix w) (fun _ _ _ hh h => h.of_heap hh) own0 started (by kernel_rfl) Tryz.func3
    (ChangeSpec.witness_shaped (enc := enc) (C := Tryz.checked) (os := os) (X := fun w _ => laidMetH Tryz.prog lsix w) false (World.doorLaid Tryz.prog 400 os) jpArgs 8 rfl (World.shaped_of_RefB (by kernel_rfl) (by kernel_rfl)) (by kernel_rfl) (by kernel_rfl) (by kernel_rfl) (door_met os _)) ?_
  intro W base args ds gs before hval0 hW _ _ hL _
  have hval : ∀ (j : Nat) t v, Tryz.f3.params[j]? = some t → args[j]? = some v → Value.okWide Tryz.prog W .any base t v := hval0
  have hW' := hW
  obtain ⟨p, q, hA0, hV, rfl, hfz, hnd⟩ := hW
  have hA : DataW.TrodAll enc Tryz.prog W 0 (fun _ => true) true Tryz.f3.params.toList args.toList ds p := hA0
  rw [Tryz.params3] at hA hval
  obtain ⟨v0, v1, v2, v3, d0, d1, d2, d3, p0, p1, p2, p3, rfl, rfl, rfl, h0, h1, h2, h3⟩ := trodAll_four hA
  obtain ⟨rfl, rfl⟩ := trodVars_none hV
  obtain ⟨l, b0, b1, s0, s1, e0, hl1, hl2, hb0, hb1, hs0, hs1⟩ := open_table (hval 0 25 v0 rfl rfl) h0
  obtain ⟨L, hsr, hlen⟩ := open_cells (hval 1 26 v1 rfl rfl) h1
  obtain ⟨n, e2, f2, _, hn⟩ := open_int Tryz.underlying3 (hval 2 3 v2 rfl rfl) h2
  obtain ⟨m, e3, f3, _, hm⟩ := open_int Tryz.underlying3 (hval 3 3 v3 rfl rfl) h3
  have hn := bounds_i64 hn
  have hm := bounds_i64 hm
  have hlt : ∀ x ∈ p0 ++ p1 ++ p2 ++ p3, x.block < W.heap.size := fun x hx => by simpa using hW'.lt x (by simpa using hx)
  have call := jumpParts_c (six_of_laid hL) l b0 b1 s0 s1 hl1 hl2 hb0 hb1 hs0 hs1 hsr hlen n m hn.1 (by omega) hm.1 (by omega)
  rw [← e0, ← e2, ← e3] at call
  refine call.mono fun e W' ⟨he, hf⟩ => ?_
  have bel := hf.below
  have low : ∀ {t : TypeId} {v : Value} {d : DataW H} {ps : List MemPlace}, Tryz.prog.readableRec t = true → t < Tryz.prog.types.size → DataW.Trod enc Tryz.prog W 0 (fun _ => true) true t v d ps → (∀ x ∈ ps, x ∈ p0 ++ p1 ++ p2 ++ p3) →
      DataW.Trod enc Tryz.prog W' 0 (fun b => decide (b < W.heap.size)) true t v d ps := fun hr ht h hx => Below.trod laidOut hr ht h bel (fun x hm => hlt x (hx x hm))
  refine ⟨_, he, _, _, _, [], p0 ++ (p1 ++ (p2 ++ p3)), [], hW', shut_true, ?_, rfl, bel.frame _, (fun h => by cases h)⟩
  show DataW.TrodAll enc Tryz.prog W' 0 (fun b => decide (b < W.heap.size)) true Tryz.f3.params.toList [v0, v1, v2, v3] [d0, d1, d2, d3] _
  rw [Tryz.params3]
  exact trodAll_mk4 (low (by kernel_rfl) (of_decide_eq_true (by kernel_rfl)) h0 (by simp; grind)) (low (by kernel_rfl) (of_decide_eq_true (by kernel_rfl)) h1 (by simp; grind)) (low (by kernel_rfl) (of_decide_eq_true (by kernel_rfl)) h2 (by simp; grind)) (low (by kernel_rfl) (of_decide_eq_true (by kernel_rfl)) h3 (by simp; grind))

end Go.Proofs.YtnkdbpjmepfblaaGreatDoor
