/- Texts of the walk and its plain law, merged: LwF, LwG, JmA. -/
import Derived.Test.YtnkdbpjmepfblaaGreatDoorM22
import Derived.Test.YtnkdbpjmepfblaaGreatDoorM20
/- Jumps: Leap. -/
namespace Go.Proofs.YtnkdbpjmepfblaaGreatDoor
open Go Go.RowKit

theorem up_some {S S' : Lf} {x : Option (Except Nat Nat × Ar)} {r : Except Nat Nat} (h : S.up x = some (r, S')) : ∃ B, x = some (r, B) ∧ S' = ⟨B, S.L⟩ := by
  simp only [Lf.up, Option.map_eq_some_iff, Prod.mk.injEq, Prod.exists] at h
  obtain ⟨a, b, h1, rfl, rfl⟩ := h
  exact ⟨b, h1, rfl⟩
theorem gbind2 {σ α β : Type} {x : Option (Except Nat α × σ)} {f : α → σ → Option (Except Nat β × σ)} {r : Except Nat β} {S' : σ} (h : gbind x f = some (r, S')) :
    ∃ r1 T1, x = some (r1, T1) ∧ (∀ c, r1 = .error c → r = .error c ∧ T1 = S') ∧ ∀ j, r1 = .ok j → f j T1 = some (r, S') := by
  rcases gbind_some h with ⟨c, h1, h2⟩ | ⟨j, T, h1, h2⟩
  · exact ⟨.error c, S', h1, fun c' hc => (by injection hc with hc; subst hc; exact ⟨h2, rfl⟩), fun k hk => by cases hk⟩
  · exact ⟨.ok j, T, h1, fun c' hc => (by cases hc), fun k hk => by injection hk with hk; subst hk; exact h2⟩
/-- No count on the way is too great. -/
def LeapC (N : Kn) (i e : Nat) (S : Lf) : Prop := S.A.count i < 1152921504606846976 ∧
  ∀ j T k U m V, S.up (S.A.trim i) = some (.ok j, T) → T.up (T.A.fit j (leapLev T.A j e : Nat)) = some (.ok k, U) → resF N (leapLev T.A j e - 3) k e U = some (.ok m, V) → V.A.count m < 1152921504606846976
set_option maxRecDepth 100000 in
set_option maxHeartbeats 3200000 in
theorem leap_w {N : Kn} {w : World} {I : LI} {S : Lf} {oA : List Nat} (h : LW w I N S oA) (hv : S.valid N) (i : Nat) (hl : 3 ≤ S.A.level i) (e : Nat) (he : e ≤ 40) (hcn : LeapC N i e S) {r : Except Nat Nat} {S' : Lf}
    (hj : leapF N i e S = some (r, S')) :
    Calls Tryz.prog 28 #[.pointer (some ⟨I.lb, 0, none⟩), .int .u32 i, .int .i64 e] w fun e w' => e = .returned (encR r) ∧ LPost w I N S' oA w' := by
  have hi : i < 4294967296 := by
    have h1 : i < S.A.nodes.length := Ar.level_lt (by omega)
    have := hv.wf.len; omega
  have hlb := h.lt.1
  have hc0 := h.c.1
  have HLW := Lib.hid h
  have HV := Lib.hid hv
  have HLV := Lib.hid (level_w h.arena i hi)
  have HCN := Lib.hid hcn.2
  unfold leapF at hj
  obtain ⟨r1, T1, hx, hxe, hxo⟩ := gbind2 hj
  have HN1 := Lib.hid (trim_next hv hl hcn.1 hx)
  obtain ⟨B1, hB1, hT1⟩ := up_some hx
  have HTW := Lib.hid (trim_w h.arena hv.wf i hi hcn.1 hB1)
  have HX1 := Lib.hid hx
  have HXE := Lib.hid hxe
  have HXO := Lib.hid hxo
  have hl3 : ¬ S.A.level i < 3 := by omega
  clear h hv hcn hj hx hxe hxo hB1 hl
  go_enter Tryz.func28, Tryz.ntmps28
  go_wp2_with fail
  refine HLV.out.mono ?_
  rintro e1 w1 ⟨rfl, rfl⟩
  go_wp2_with fail
  refine HTW.out.mono ?_
  rintro e1 w1 ⟨rfl, oB, h1, h2⟩
  have hLF := HLW.out.arena' h1 h2
  rw [← hT1] at hLF
  have HL1 := Lib.hid hLF.1
  have HF1 := Lib.hid hLF.2
  clear h1 h2 hLF hT1 hlb hc0 hl3 HTW HLV
  cases r1 with
  | error c =>
    obtain ⟨rfl, rfl⟩ := HXE.out c rfl
    simp only [encR, errV]
    go_wp2_with fail
    go_ret2
    exact ⟨rfl, oB, HL1.out, HF1.out⟩
  | ok j =>
    have hn := HN1.out.ok j rfl
    have HLJ := Lib.hid hn.1
    have hj32 : j < 4294967296 := by
      have h1 : j < T1.A.nodes.length := Ar.level_lt (by omega)
      have := HN1.out.valid.wf.len; omega
    have hc0 := HL1.out.c.1
    have hlb := HL1.out.lt.1
    have HCW := Lib.hid (count_w HL1.out.arena j hj32)
    have hj := HXO.out j rfl
    clear hn
    by_cases hcz : T1.A.count j = 0
    · have hczb : ((T1.A.count j : Nat) : Int) = 0 := by omega
      rw [if_pos hcz] at hj
      obtain ⟨rfl, rfl⟩ : Except.ok j = r ∧ T1 = S' := by simpa using hj
      simp only [encR, okV]
      clear hcz
      go_wp2_with fail
      refine HCW.out.mono ?_
      rintro e1 w2 ⟨rfl, rfl⟩
      go_wp2_with fail
      go_ret2
      exact ⟨rfl, oB, HL1.out, HF1.out⟩
    · have hczb : (((T1.A.count j : Nat) : Int) == 0) = false := by simp; omega
      rw [if_neg hcz] at hj
      simp only [encR, okV]
      clear hcz
      go_wp2_with fail
      refine HCW.out.mono ?_
      rintro e1 w2 ⟨rfl, rfl⟩
      have hlw := level_w HL1.out.arena j hj32
      obtain ⟨D, hD⟩ : ∃ D : Int, D = T1.A.level j := ⟨_, rfl⟩
      have hD0 : 3 ≤ D := by rw [hD]; exact HLJ.out
      have hD1 : D ≤ 44 := by rw [hD]; exact HN1.out.valid.wf.level_le j
      have hml : leapLev T1.A j e = max D.toNat (e + 1) + 2 := by unfold leapLev; rw [← hD]
      rw [← hD] at hlw
      have HLW2 := Lib.hid hlw
      have HD := Lib.hid hD
      have HML := Lib.hid hml
      have HJ := Lib.hid hj
      clear hlw hD hml hj
      by_cases hme : D < (e : Int) + 1
      · have hlev : leapLev T1.A j e = (e + 3) := by rw [HML.out]; omega
        have hj := HJ.out
        rw [hlev, if_neg (by omega)] at hj
        obtain ⟨r2, T2, hx, hxe, hxo⟩ := gbind2 hj
        have HN2 := Lib.hid (fit_next HN1.out.valid HLJ.out (by rw [← HD.out]; omega) (by omega) hx)
        obtain ⟨B2, hB2, hT2⟩ := up_some hx
        have hfw := fit_w HL1.out.arena HN1.out.valid.wf j hj32 (((e + 3) : Nat) : Int) (by omega) (by omega) hB2
        rw [show (((e + 3) : Nat) : Int) = (e : Int) + 1 + 2 by omega] at hfw
        have HFW := Lib.hid hfw
        have HX2 := Lib.hid hx
        have HXE2 := Lib.hid hxe
        have HXO2 := Lib.hid hxo
        have HLEV := Lib.hid hlev
        clear hx hxe hxo hB2 hfw hj hlev
        go_wp2_with fail
        refine HLW2.out.mono ?_
        rintro e1 w2 ⟨rfl, rfl⟩
        go_wp2_with fail
        refine HFW.out.mono ?_
        rintro e1 w2 ⟨rfl, oC, h1, h2⟩
        have hLF := HL1.out.arena' h1 h2
        rw [← hT2] at hLF
        have HL2 := Lib.hid hLF.1
        have HF2 := Lib.hid (HF1.out.trans hLF.2)
        clear h1 h2 hLF hT2 hlb hc0 HFW HLW2
        cases r2 with
        | error c =>
          obtain ⟨rfl, rfl⟩ := HXE2.out c rfl
          simp only [encR, errV]
          go_wp2_with fail
          go_ret2
          exact ⟨rfl, oC, HL2.out, HF2.out⟩
        | ok k =>
          have hk := HN2.out.ok k rfl
          have hkl : T2.A.level k = (((e + 3) - 3) + 3 : Nat) := by rw [hk]; omega
          obtain ⟨r3, T3, hx, hxe, hxo⟩ := gbind2 (HXO2.out k rfl)
          have HN3 := Lib.hid (resF_next HLW.out.good HN2.out.valid hkl (by omega) hx)
          have HRW := Lib.hid (result_w N ((e + 3) - 3) w2 I T2 oC k e r3 T3 HL2.out HN2.out.valid hkl (by omega) hx)
          have HX3 := Lib.hid hx
          have HXE3 := Lib.hid hxe
          have HXO3 := Lib.hid hxo
          clear hx hxe hxo hk hkl
          simp only [encR, okV]
          go_wp2_with fail
          refine HRW.out.mono ?_
          rintro e1 w3 ⟨rfl, hq⟩
          obtain ⟨oD, hL3, hF3⟩ := hq
          have HL3 := Lib.hid hL3
          have HF3 := Lib.hid (HF2.out.trans hF3)
          clear hL3 hF3 HRW
          cases r3 with
          | error c =>
            obtain ⟨rfl, rfl⟩ := HXE3.out c rfl
            simp only [encR, errV]
            go_wp2_with fail
            go_ret2
            exact ⟨rfl, oD, HL3.out, HF3.out⟩
          | ok m =>
            have hm := HN3.out.ok m rfl
            have hm32 : m < 4294967296 := Ar.level_lt' HN3.out.valid.wf hm
            have hcm : T3.A.count m < 1152921504606846976 := HCN.out j T1 k T2 m T3 HX1.out (by rw [HLEV.out]; exact HX2.out) (by rw [HLEV.out]; exact HX3.out)
            obtain ⟨B4, hB4, hT4⟩ := up_some (HXO3.out m rfl)
            have HTW4 := Lib.hid (trim_w HL3.out.arena HN3.out.valid.wf m hm32 hcm hB4)
            have HT4 := Lib.hid hT4
            have hc0 := HL3.out.c.1
            have hlb := HL3.out.lt.1
            clear hm hcm hB4 hT4
            simp only [encR, okV]
            go_wp2_with fail
            refine HTW4.out.mono ?_
            rintro e1 w4 ⟨rfl, oE, h1, h2⟩
            have hLF := HL3.out.arena' h1 h2
            rw [← HT4.out] at hLF
            have HL4 := Lib.hid hLF.1
            have HF4 := Lib.hid (HF3.out.trans hLF.2)
            clear h1 h2 hLF hlb hc0
            cases r with
            | error c =>
              simp only [encR, errV]
              go_wp2_with fail
              go_ret2
              exact ⟨rfl, oE, HL4.out, HF4.out⟩
            | ok q =>
              simp only [encR, okV]
              go_wp2_with fail
              go_ret2
              exact ⟨rfl, oE, HL4.out, HF4.out⟩
      · by_cases hbig : 44 < D + 2
        · have hlev : leapLev T1.A j e = D.toNat + 2 := by rw [HML.out]; omega
          have hj := HJ.out
          rw [hlev, if_pos (by omega)] at hj
          obtain ⟨rfl, rfl⟩ : Except.error 7 = r ∧ T1 = S' := by simpa using hj
          clear hj hlev
          go_wp2_with fail
          refine HLW2.out.mono ?_
          rintro e1 w2 ⟨rfl, rfl⟩
          go_wp2_with fail
          go_ret2
          exact ⟨rfl, oB, HL1.out, HF1.out⟩
        · have hlev : leapLev T1.A j e = (D.toNat + 2) := by rw [HML.out]; omega
          have hj := HJ.out
          rw [hlev, if_neg (by omega)] at hj
          obtain ⟨r2, T2, hx, hxe, hxo⟩ := gbind2 hj
          have HN2 := Lib.hid (fit_next HN1.out.valid HLJ.out (by rw [← HD.out]; omega) (by omega) hx)
          obtain ⟨B2, hB2, hT2⟩ := up_some hx
          have hfw := fit_w HL1.out.arena HN1.out.valid.wf j hj32 (((D.toNat + 2) : Nat) : Int) (by omega) (by omega) hB2
          rw [show (((D.toNat + 2) : Nat) : Int) = D + 2 by omega] at hfw
          have HFW := Lib.hid hfw
          have HX2 := Lib.hid hx
          have HXE2 := Lib.hid hxe
          have HXO2 := Lib.hid hxo
          have HLEV := Lib.hid hlev
          clear hx hxe hxo hB2 hfw hj hlev
          go_wp2_with fail
          refine HLW2.out.mono ?_
          rintro e1 w2 ⟨rfl, rfl⟩
          go_wp2_with fail
          refine HFW.out.mono ?_
          rintro e1 w2 ⟨rfl, oC, h1, h2⟩
          have hLF := HL1.out.arena' h1 h2
          rw [← hT2] at hLF
          have HL2 := Lib.hid hLF.1
          have HF2 := Lib.hid (HF1.out.trans hLF.2)
          clear h1 h2 hLF hT2 hlb hc0 HFW HLW2
          cases r2 with
          | error c =>
            obtain ⟨rfl, rfl⟩ := HXE2.out c rfl
            simp only [encR, errV]
            go_wp2_with fail
            go_ret2
            exact ⟨rfl, oC, HL2.out, HF2.out⟩
          | ok k =>
            have hk := HN2.out.ok k rfl
            have hkl : T2.A.level k = (((D.toNat + 2) - 3) + 3 : Nat) := by rw [hk]; omega
            obtain ⟨r3, T3, hx, hxe, hxo⟩ := gbind2 (HXO2.out k rfl)
            have HN3 := Lib.hid (resF_next HLW.out.good HN2.out.valid hkl (by omega) hx)
            have HRW := Lib.hid (result_w N ((D.toNat + 2) - 3) w2 I T2 oC k e r3 T3 HL2.out HN2.out.valid hkl (by omega) hx)
            have HX3 := Lib.hid hx
            have HXE3 := Lib.hid hxe
            have HXO3 := Lib.hid hxo
            clear hx hxe hxo hk hkl
            simp only [encR, okV]
            go_wp2_with fail
            refine HRW.out.mono ?_
            rintro e1 w3 ⟨rfl, hq⟩
            obtain ⟨oD, hL3, hF3⟩ := hq
            have HL3 := Lib.hid hL3
            have HF3 := Lib.hid (HF2.out.trans hF3)
            clear hL3 hF3 HRW
            cases r3 with
            | error c =>
              obtain ⟨rfl, rfl⟩ := HXE3.out c rfl
              simp only [encR, errV]
              go_wp2_with fail
              go_ret2
              exact ⟨rfl, oD, HL3.out, HF3.out⟩
            | ok m =>
              have hm := HN3.out.ok m rfl
              have hm32 : m < 4294967296 := Ar.level_lt' HN3.out.valid.wf hm
              have hcm : T3.A.count m < 1152921504606846976 := HCN.out j T1 k T2 m T3 HX1.out (by rw [HLEV.out]; exact HX2.out) (by rw [HLEV.out]; exact HX3.out)
              obtain ⟨B4, hB4, hT4⟩ := up_some (HXO3.out m rfl)
              have HTW4 := Lib.hid (trim_w HL3.out.arena HN3.out.valid.wf m hm32 hcm hB4)
              have HT4 := Lib.hid hT4
              have hc0 := HL3.out.c.1
              have hlb := HL3.out.lt.1
              clear hm hcm hB4 hT4
              simp only [encR, okV]
              go_wp2_with fail
              refine HTW4.out.mono ?_
              rintro e1 w4 ⟨rfl, oE, h1, h2⟩
              have hLF := HL3.out.arena' h1 h2
              rw [← HT4.out] at hLF
              have HL4 := Lib.hid hLF.1
              have HF4 := Lib.hid (HF3.out.trans hLF.2)
              clear h1 h2 hLF hlb hc0
              cases r with
              | error c =>
                simp only [encR, errV]
                go_wp2_with fail
                go_ret2
                exact ⟨rfl, oE, HL4.out, HF4.out⟩
              | ok q =>
                simp only [encR, okV]
                go_wp2_with fail
                go_ret2
                exact ⟨rfl, oE, HL4.out, HF4.out⟩
end Go.Proofs.YtnkdbpjmepfblaaGreatDoor

/- Jumps: Jump. -/
namespace Go.Proofs.YtnkdbpjmepfblaaGreatDoor
open Go Go.RowKit

theorem leap_next {N : Kn} (hN : N.good) {S : Lf} (hv : S.valid N) {i : Nat} (hl : 3 ≤ S.A.level i) {e : Nat} (hcn : LeapC N i e S) {r : Except Nat Nat} {S' : Lf} (hj : leapF N i e S = some (r, S')) :
    S.next N r S' (fun j => 3 ≤ S'.A.level j) := by
  unfold leapF at hj
  obtain ⟨r1, T1, hx, hxe, hxo⟩ := gbind2 hj
  have h1 := trim_next hv hl hcn.1 hx
  cases r1 with
  | error c => obtain ⟨rfl, rfl⟩ := hxe c rfl; exact ⟨h1.valid, h1.le, fun j hj => by cases hj⟩
  | ok j =>
    have hl1 := h1.ok j rfl
    have h44 := h1.valid.wf.level_le j
    have hj := hxo j rfl
    split at hj
    · obtain ⟨rfl, rfl⟩ : Except.ok j = r ∧ T1 = S' := by simpa using hj
      exact ⟨h1.valid, h1.le, fun k hk => by injection hk with hk; subst hk; exact hl1.1⟩
    · split at hj
      · obtain ⟨rfl, rfl⟩ : Except.error 7 = r ∧ T1 = S' := by simpa using hj
        exact ⟨h1.valid, h1.le, fun j hj => by cases hj⟩
      · rename_i h44'
        have hlev : (T1.A.level j).toNat + 2 ≤ leapLev T1.A j e ∧ e + 3 ≤ leapLev T1.A j e := by unfold leapLev; omega
        have hcn2 := hcn.2
        generalize hL : leapLev T1.A j e = L at *
        obtain ⟨r2, T2, hx2, hxe2, hxo2⟩ := gbind2 hj
        have h2 := fit_next h1.valid hl1.1 (by omega) (by omega) hx2
        cases r2 with
        | error c => obtain ⟨rfl, rfl⟩ := hxe2 c rfl; exact ⟨h2.valid, h1.le.trans h2.le, fun j hj => by cases hj⟩
        | ok k =>
          obtain ⟨r3, T3, hx3, hxe3, hxo3⟩ := gbind2 (hxo2 k rfl)
          have hkl : T2.A.level k = ((L - 3) + 3 : Nat) := by rw [h2.ok k rfl]; omega
          have h3 := resF_next hN h2.valid hkl (by omega) hx3
          cases r3 with
          | error c => obtain ⟨rfl, rfl⟩ := hxe3 c rfl; exact ⟨h3.valid, (h1.le.trans h2.le).trans h3.le, fun j hj => by cases hj⟩
          | ok m =>
            have hm := h3.ok m rfl
            have h4 := trim_next h3.valid (by omega) (hcn2 j T1 k T2 m T3 hx (by rw [hL]; exact hx2) (by rw [hL]; exact hx3)) (hxo3 m rfl)
            exact ⟨h4.valid, ((h1.le.trans h2.le).trans h3.le).trans h4.le, fun q hq => (h4.ok q hq).1⟩
/-- No count on the way of a jump is too great. -/
def JumpC (N : Kn) (n : Nat) : Nat → Nat → Nat → Lf → Prop
  | 0, _, _, _ => True
  | f + 1, e, i, S => n / 2 ^ e ≠ 0 → (n / 2 ^ e % 2 = 1 → LeapC N i e S) ∧ ∀ j T, (if n / 2 ^ e % 2 = 1 then leapF N i e S else some (.ok i, S)) = some (.ok j, T) → JumpC N n f (e + 1) j T
set_option maxRecDepth 100000 in
set_option maxHeartbeats 3200000 in
theorem jump_w {N : Kn} {w : World} {I : LI} {S : Lf} {oA : List Nat} (h : LW w I N S oA) (hv : S.valid N) (i : Nat) (hl : 3 ≤ S.A.level i) (n : Nat) (hn : n ≤ 1048576) (hc1 : S.A.count i < 1152921504606846976)
    (hcn : ∀ j T, S.up (S.A.trim i) = some (.ok j, T) → JumpC N n 21 0 j T) {r : Except Nat Nat} {S' : Lf} (hj : jumpF N i n S = some (r, S')) :
    Calls Tryz.prog 22 #[.pointer (some ⟨I.lb, 0, none⟩), .int .u32 i, .int .i64 n] w fun e w' => e = .returned (encR r) ∧ LPost w I N S' oA w' := by
  have hi : i < 4294967296 := by
    have h1 : i < S.A.nodes.length := Ar.level_lt (by omega)
    have := hv.wf.len; omega
  have hlb := h.lt.1
  have hc0 := h.c.1
  have HLW := Lib.hid h
  have HV := Lib.hid hv
  have HLV := Lib.hid (level_w h.arena i hi)
  unfold jumpF at hj
  obtain ⟨r1, T1, hx, hxe, hxo⟩ := gbind2 hj
  have HN1 := Lib.hid (trim_next hv hl hc1 hx)
  obtain ⟨B1, hB1, hT1⟩ := up_some hx
  have HTW := Lib.hid (trim_w h.arena hv.wf i hi hc1 hB1)
  have HX1 := Lib.hid hx
  have HXE := Lib.hid hxe
  have HXO := Lib.hid hxo
  have HCN := Lib.hid hcn
  have hl3 : ¬ S.A.level i < 3 := by omega
  have hn20 : (n : Int) ≤ 1048576 := by omega
  clear h hv hcn hj hx hxe hxo hB1 hl hc1 hn
  go_enter Tryz.func22, Tryz.ntmps22
  go_wp2_with fail
  refine HLV.out.mono ?_
  rintro e1 w1 ⟨rfl, rfl⟩
  go_wp2_with fail
  refine HTW.out.mono ?_
  rintro e1 w1 ⟨rfl, oB, h1, h2⟩
  have hLF := HLW.out.arena' h1 h2
  rw [← hT1] at hLF
  have HL1 := Lib.hid hLF.1
  have HF1 := Lib.hid hLF.2
  clear h1 h2 hLF hT1 hlb hc0 hl3 HTW HLV
  have hrel0 : ∃ (v1 v8 : Value), encR r1 = .tuple #[v1, v8] ∧ ((∃ i' : Nat, v1 = .int .u32 i' ∧ v8 = .nilIface ∧ r1 = .ok i') ∨ ∃ c : Nat, v1 = .int .u32 0 ∧ v8 = .iface 42 (.int .i64 c) ∧ r1 = .error c) := by
    cases r1 with
    | ok i' => exact ⟨_, _, rfl, .inl ⟨i', rfl, rfl, rfl⟩⟩
    | error c => exact ⟨_, _, rfl, .inr ⟨c, rfl, rfl, rfl⟩⟩
  obtain ⟨v1, v8, hv18, hv⟩ := hrel0
  rw [hv18]
  go_wp2_with fail
  go_loopw [1, 8, 9] (fun x y z wr => ∃ (e : Nat) (T : Lf) (oC : List Nat), e ≤ 21 ∧ z = .int .i64 e ∧ LW wr I N T oC ∧ Fr w (I.own oA) wr (I.own oC) ∧
      ((∃ i' : Nat, x = .int .u32 i' ∧ y = .nilIface ∧ T.valid N ∧ 3 ≤ T.A.level i' ∧ jumpL N n (21 - e) e i' T = some (r, S') ∧ JumpC N n (21 - e) e i' T) ∨ (∃ c : Nat, x = .int .u32 0 ∧ y = .iface 42 (.int .i64 c) ∧ r = .error c ∧ T = S')))
    (fun _ _ z _ => 22 - (intOf z).toNat)
  case atStart =>
    refine ⟨0, T1, oB, by omega, rfl, HL1.out, HF1.out, ?_⟩
    rcases hv with ⟨i', rfl, rfl, rfl⟩ | ⟨c, rfl, rfl, rfl⟩
    · exact .inl ⟨i', rfl, rfl, HN1.out.valid, (HN1.out.ok i' rfl).1, HXO.out i' rfl, HCN.out i' T1 HX1.out⟩
    · obtain ⟨h1, h2⟩ := HXE.out c rfl
      exact .inr ⟨c, rfl, rfl, h1, h2⟩
  case round =>
    clear hv hv18 HL1 HF1 HN1 HX1 HXE HXO HCN
    obtain ⟨e, T, oC, he, rfl, hL, hF, hcase⟩ := hrel
    obtain ⟨W0, rfl⟩ : ∃ W0, W0 = wr := ⟨_, rfl⟩
    have HL := Lib.hid hL
    have HF := Lib.hid hF
    clear hL hF
    rcases hcase with ⟨i', rfl, rfl, hT, hl', hjl, hjc⟩ | ⟨c, rfl, rfl, hr, hTS⟩
    · have HT := Lib.hid hT
      have HLV := Lib.hid hl'
      have HJL := Lib.hid hjl
      have HJC := Lib.hid hjc
      clear hT hl' hjl hjc
      obtain ⟨q, hq⟩ : ∃ q : Nat, q = n / 2 ^ e := ⟨_, rfl⟩
      have hqi : (n : Int) / 2 ^ e = (q : Int) := by rw [hq]; norm_cast
      have hqn : q ≤ 1048576 := by rw [hq]; have := Nat.div_le_self n (2 ^ e); omega
      have HQ := Lib.hid hq
      clear hq
      by_cases hz : q = 0
      · have hjl := HJL.out
        have hend : Except.ok i' = r ∧ T = S' := by
          cases hf : 21 - e with
          | zero => rw [hf] at hjl; simpa [jumpL] using hjl
          | succ f => rw [hf] at hjl; simp only [jumpL] at hjl; rw [if_pos (by rw [← HQ.out]; exact hz)] at hjl; simpa using hjl
        obtain ⟨rfl, rfl⟩ := hend
        have hq0 : ¬ (0 : Int) < (q : Int) := by omega
        clear hjl hz
        go_wp2_with fail
        go_ret2
        exact ⟨rfl, oC, HL.out, HF.out⟩
      · have hq0 : (0 : Int) < (q : Int) := by omega
        have he21 : e < 21 := by
          rcases Nat.lt_or_ge e 21 with h | h
          · exact h
          · exfalso
            have h1 := HQ.out
            have h2 : n < 2 ^ e := Nat.lt_of_lt_of_le (show n < 2 ^ 21 by omega) (Nat.pow_le_pow_right (by omega) h)
            rw [Nat.div_eq_of_lt h2] at h1
            exact hz h1
        obtain ⟨f, hf⟩ : ∃ f, 21 - e = f + 1 := ⟨20 - e, by omega⟩
        have hjl := HJL.out
        have hjc := HJC.out
        rw [hf] at hjl hjc
        simp only [jumpL] at hjl
        simp only [JumpC] at hjc
        rw [if_neg (by rw [← HQ.out]; exact hz)] at hjl
        have hjc := hjc (by rw [← HQ.out]; exact hz)
        rw [← HQ.out] at hjl hjc
        have hf' : f = 21 - (e + 1) := by omega
        rw [hf'] at hjl hjc
        clear hz hf hf'
        by_cases hodd : q % 2 = 1
        · have hb : (bits .and .i64 (q : Int) 1 == 1) = true := by rw [i64_and1]; simp; omega
          rw [if_pos hodd] at hjl
          simp only [if_pos hodd] at hjc
          obtain ⟨r2, T2, hx, hxe, hxo⟩ := gbind2 hjl
          have HN2 := Lib.hid (leap_next HL.out.good HT.out HLV.out (hjc.1 hodd) hx)
          have HLP := Lib.hid (leap_w HL.out HT.out i' HLV.out e (by omega) (hjc.1 hodd) hx)
          have HX2 := Lib.hid hx
          have HXE2 := Lib.hid hxe
          have HXO2 := Lib.hid hxo
          have HJC2 := Lib.hid hjc.2
          clear hodd hjl hjc hx hxe hxo
          go_wp2_with fail
          refine HLP.out.mono ?_
          rintro e1 w5 ⟨rfl, hqq⟩
          obtain ⟨oD, hL5, hF5⟩ := hqq
          have HL5 := Lib.hid hL5
          have HF5 := Lib.hid (HF.out.trans hF5)
          clear hL5 hF5 HLP
          cases r2 with
          | ok j =>
            simp only [encR, okV]
            go_wp2_with fail
            refine ⟨⟨e + 1, T2, oD, by omega, by go_num, HL5.out, HF5.out, .inl ⟨j, rfl, rfl, HN2.out.valid, HN2.out.ok j rfl, HXO2.out j rfl, HJC2.out j T2 HX2.out⟩⟩, by simp only [intOf]; omega⟩
          | error c =>
            obtain ⟨h1, h2⟩ := HXE2.out c rfl
            have H1 := Lib.hid h1
            have H2 := Lib.hid h2
            clear h1 h2
            simp only [encR, errV]
            go_wp2_with fail
            refine ⟨⟨e + 1, T2, oD, by omega, by go_num, HL5.out, HF5.out, .inr ⟨c, rfl, rfl, H1.out, H2.out⟩⟩, by simp only [intOf]; omega⟩
        · have hb : (bits .and .i64 (q : Int) 1 == 1) = false := by rw [i64_and1]; simp; omega
          rw [if_neg hodd] at hjl
          simp only [if_neg hodd] at hjc
          have HJL2 := Lib.hid hjl
          have HJC2 := Lib.hid hjc
          clear hodd hjl hjc
          go_wp2_with fail
          refine ⟨⟨e + 1, T, oC, by omega, by go_num, HL.out, HF.out, .inl ⟨i', rfl, rfl, HT.out, HLV.out, HJL2.out, HJC2.out.2 i' T rfl⟩⟩, by simp only [intOf]; omega⟩
    · obtain ⟨q, hq⟩ : ∃ q : Nat, q = n / 2 ^ e := ⟨_, rfl⟩
      have hqi : (n : Int) / 2 ^ e = (q : Int) := by rw [hq]; norm_cast
      subst hTS
      subst hr
      clear hq
      by_cases hz : q = 0
      · have hq0 : ¬ (0 : Int) < (q : Int) := by omega
        clear hz
        go_wp2_with fail
        go_ret2
        exact ⟨rfl, oC, HL.out, HF.out⟩
      · have hq0 : (0 : Int) < (q : Int) := by omega
        clear hz
        go_wp2_with fail
        go_ret2
        exact ⟨rfl, oC, HL.out, HF.out⟩
end Go.Proofs.YtnkdbpjmepfblaaGreatDoor

/- Leap, Jump: what lives then. -/
namespace Go.Proofs.YtnkdbpjmepfblaaGreatDoor
open Go Go.RowKit

theorem Ar.R.box {A : Ar} {d i : Nat} {C : Plane} (h : A.R d i C) : inBox C (-((2 ^ (d + 1) : Nat) : Int)) (-((2 ^ (d + 1) : Nat) : Int)) (2 * 2 ^ (d + 1)) := by
  intro x y k hC
  refine Classical.byContradiction fun hno => ?_
  rw [h.out x y k (by omega)] at hC
  cases hC
theorem Ar.R.none {A : Ar} (hA : A.wf) {d i : Nat} {C : Plane} (h : A.R d i C) (hc : A.count i = 0) : ∀ x y k, C x y k = false := by
  intro x y k
  cases hC : C x y k with
  | false => rfl
  | true =>
    have hb := h.box x y k hC
    have e2 := pw2 d
    have := (h.w.isEmpty hA).1 hc (x + (2 ^ (d + 1) : Nat)).toNat (y + (2 ^ (d + 1) : Nat)).toNat k (by omega) (by omega) (by omega)
    rw [show -((2 ^ (d + 1) : Nat) : Int) + ((x + (2 ^ (d + 1) : Nat)).toNat : Nat) = x by omega, show -((2 ^ (d + 1) : Nat) : Int) + ((y + (2 ^ (d + 1) : Nat)).toNat : Nat) = y by omega, hC] at this
    cases this
theorem Kn.evo_allnone {N : Kn} (hN : N.good) {C : Plane} (h : ∀ x y k, C x y k = false) (n : Nat) : N.evo n C = C := by
  funext x y k
  rw [h]
  by_cases hk : k < 2
  · exact Kn.evo_none hN n (fun _ _ _ _ _ _ _ _ => h _ _ _) k hk
  · exact Kn.evo_two N (fun x y k _ => h x y k) n x y k (by omega)
theorem Trimmed.lt {g M : Nat} {C : Plane} (h : Trimmed g C) (hM : 1 ≤ M) (hC : ∀ x y k, C x y k = true → -((2 ^ M : Nat) : Int) ≤ x ∧ x < ((2 ^ M : Nat) : Int) ∧ -((2 ^ M : Nat) : Int) ≤ y ∧ y < ((2 ^ M : Nat) : Int) ∧ k < 2) : g + 1 ≤ M := by
  rcases h with rfl | ⟨x, y, k, hn, hc⟩
  · omega
  · have := hC x y k hc
    refine Classical.byContradiction fun hno => hn ?_
    have hp : 2 ^ M ≤ 2 ^ (g + 1) := Nat.pow_le_pow_right (by decide) (by omega)
    omega
theorem inBox.far {C : Plane} {xa ya : Int} {s : Nat} (h : inBox C xa ya s) (hf : -2199023255552 ≤ xa ∧ xa + s ≤ 2199023255552 ∧ -2199023255552 ≤ ya ∧ ya + s ≤ 2199023255552) :
    ∀ x y k, C x y k = true → -((2 ^ 41 : Nat) : Int) ≤ x ∧ x < ((2 ^ 41 : Nat) : Int) ∧ -((2 ^ 41 : Nat) : Int) ≤ y ∧ y < ((2 ^ 41 : Nat) : Int) ∧ k < 2 := by
  intro x y k hC
  have := h x y k hC
  rw [show (2 ^ 41 : Nat) = 2199023255552 by decide]
  omega
theorem leap_lev {A : Ar} {g j e : Nat} {C : Plane} (hR : A.R (g + 1) j C) (hg : g ≤ 40) (he : e ≤ 40) : ∃ D, leapLev A j e = D + 4 ∧ g + 1 ≤ D ∧ e ≤ D + 1 ∧ D + 4 ≤ 45 ∧ (g ≤ 39 → D + 4 ≤ 44) := by
  have hl := hR.w.lv
  refine ⟨leapLev A j e - 4, ?_⟩
  unfold leapLev
  omega
theorem leap_fit {N : Kn} {F : Fam} {T : Lf} (hv : T.valid N) {g j D : Nat} {C : Plane} (hAl : Al F C) (hR : T.A.R (g + 1) j C) (hg : g + 1 ≤ D) (h44 : D + 4 ≤ 44) :
    T.goes N (T.up (T.A.fit j ((D + 4 : Nat) : Int))) F (fun k U => U.A.R (D + 2) k C) := by
  refine goesS.mono (Lf.goes_up hv (Ar.goes_fit hAl hv.wf hR h44 (by omega))) fun k U _ _ _ h => ?_
  have h1 := h.1
  rwa [show g + (D + 4 - (g + 3)) + 1 = D + 2 by omega] at h1
theorem leap_res {N : Kn} (hN : N.good) {F : Fam} {U : Lf} (hv : U.valid N) {k D e g : Nat} {C : Plane} (hR : U.A.R (D + 2) k C) (hg : g + 1 ≤ D) (hC : inBox C (-((2 ^ (g + 2) : Nat) : Int)) (-((2 ^ (g + 2) : Nat) : Int)) (2 * 2 ^ (g + 2)))
    (he : e ≤ D + 1) (h44 : D + 4 ≤ 44) (hAl : ∀ t, t ≤ 2 ^ e → Al F (N.evo t C)) :
    U.goes N (resF N (D + 1) k e U) F (fun m V => V.A.R (D + 1) m (N.evo (2 ^ e) C)) := by
  have e3 : 2 ^ (D + 1 + 1 + 1) = 2 * 2 ^ (D + 1 + 1) := (Nat.pow_succ _ _).trans (Nat.mul_comm _ _)
  refine goesS.mono (resF_goes hN (D + 1) hv hR.w (by omega) (by omega) (dvd_neg_pw (by omega)) (dvd_neg_pw (by omega)) hAl) fun m V _ _ _ h => ?_
  have e5 : 2 ^ (D + 2 + 1) = 2 * 2 ^ (D + 1 + 1) := by rw [show D + 2 + 1 = D + 1 + 1 + 1 by omega, e3]
  refine ⟨h.off (by rw [e5]; generalize 2 ^ (D + 1 + 1) = s; omega) (by rw [e5]; generalize 2 ^ (D + 1 + 1) = s; omega), fun x y k' hn => ?_⟩
  have hp1 : 2 ^ (g + 2) ≤ 2 ^ (D + 1) := Nat.pow_le_pow_right (by decide) (by omega)
  have hp2 : 2 ^ e ≤ 2 ^ (D + 1) := Nat.pow_le_pow_right (by decide) he
  have e4 : 2 ^ (D + 1 + 1) = 2 * 2 ^ (D + 1) := (Nat.pow_succ _ _).trans (Nat.mul_comm _ _)
  cases hc : N.evo (2 ^ e) C x y k' with
  | false => rfl
  | true =>
    have := hC.evo hN (2 ^ e) x y k' hc
    rw [e4] at hn
    exfalso
    apply hn
    omega
/-- A Leap: all that lives 2^e generations on. -/
theorem leap_goes {N : Kn} (hN : N.good) {F : Fam} {S : Lf} (hv : S.valid N) {f i e : Nat} {C : Plane} (hR : S.A.R (f + 1) i C) {xa ya : Int} {s : Nat} (hb : inBox C xa ya s) (hs : s + 2 * 2 ^ e ≤ 100000000)
    (hf : -2199023255552 ≤ xa ∧ xa + s ≤ 2199023255552 ∧ -2199023255552 ≤ ya ∧ ya + s ≤ 2199023255552) (he : e ≤ 40) (hAl : ∀ t, t ≤ 2 ^ e → Al F (N.evo t C)) :
    S.goes N (leapF N i e S) F (fun j U => ∃ g, U.A.R (g + 1) j (N.evo (2 ^ e) C) ∧ Trimmed g (N.evo (2 ^ e) C)) ∧ LeapC N i e S := by
  have hc := hR.w.count_box hv.wf hb (by omega)
  have hpos : 0 < 2 ^ e := pwpos e
  have h1 : S.goes N (S.up (S.A.trim i)) F (fun j T => ∃ g, g ≤ f ∧ T.A.R (g + 1) j C ∧ Trimmed g C ∧ T.A.count j = S.A.count i) :=
    goesS.mono (Lf.goes_up hv (Ar.goes_trim (hAl 0 (Nat.zero_le _)) hv.wf hR hc)) fun _ _ _ _ _ h => h.1
  have hlev : ∀ {T : Lf} {g j : Nat}, T.A.R (g + 1) j C → Trimmed g C → ∃ D, leapLev T.A j e = D + 4 ∧ g + 1 ≤ D ∧ e ≤ D + 1 ∧ D + 4 ≤ 44 := by
    intro T g j hj hg
    have hg1 := hg.lt (M := 41) (by omega) (hb.far hf)
    have hg2 : g ≤ 39 := by
      rcases Nat.lt_or_ge g 40 with h | h
      · omega
      · -- g = 40: the cell outside of 2^41
        rcases hg with rfl | ⟨x, y, k, hn, hc⟩
        · omega
        · have h41 := (hb.far hf) x y k hc
          have : g = 40 := by omega
          subst this
          exact absurd h41 hn
    obtain ⟨D, d1, d2, d3, _, d5⟩ := leap_lev (e := e) hj (by omega) he
    exact ⟨D, d1, d2, d3, d5 hg2⟩
  constructor
  · unfold leapF
    refine goesS.bind h1 fun j T hT st hj => ?_
    obtain ⟨g, hgf, hjR, hg, hcnt⟩ := hj
    split
    · rename_i hz
      have hno := hjR.none hT.wf hz
      have hev := Kn.evo_allnone hN hno (2 ^ e)
      refine goesS.pure (ar := Lf.A) hT.wf hT ⟨g, ?_, ?_⟩
      · rw [hev]; exact hjR
      · rw [hev]; exact hg
    · obtain ⟨D, d1, d2, d3, d4⟩ := hlev hjR hg
      rw [d1, if_neg (by omega)]
      refine goesS.bind (leap_fit hT (hAl 0 (Nat.zero_le _)) hjR d2 d4) fun k U hU st2 hk => ?_
      rw [show D + 4 - 3 = D + 1 by omega]
      refine goesS.bind (leap_res hN hU hk d2 hjR.box d3 d4 hAl) fun m V hV st3 hm => ?_
      have hcm := hm.w.count_box hV.wf (hb.evo hN (2 ^ e)) (by omega)
      refine goesS.mono (Lf.goes_up hV (Ar.goes_trim (hAl _ (Nat.le_refl _)) hV.wf hm hcm)) fun q X _ _ _ h => ?_
      obtain ⟨⟨g', _, q1, q2, _⟩, _⟩ := h
      exact ⟨g', q1, q2⟩
  · refine ⟨hc, fun j T k U m V hx hfit hres => ?_⟩
    obtain ⟨st, hT, g, hgf, hjR, hg, hcnt⟩ := h1.fine j T hx
    obtain ⟨D, d1, d2, d3, d4⟩ := hlev hjR hg
    rw [d1] at hfit hres
    obtain ⟨st2, hU, hk⟩ := (leap_fit hT (hAl 0 (Nat.zero_le _)) hjR d2 d4).fine k U hfit
    rw [show D + 4 - 3 = D + 1 by omega] at hres
    obtain ⟨st3, hV, hm⟩ := (leap_res hN hU hk d2 hjR.box d3 d4 hAl).fine m V hres
    exact hm.w.count_box hV.wf (hb.evo hN (2 ^ e)) (by omega)

theorem bit_more {n e : Nat} (h : n / 2 ^ e % 2 = 1) : n % 2 ^ (e + 1) = 2 ^ e + n % 2 ^ e ∧ 2 ^ e + n % 2 ^ e ≤ n := by
  have h1 : n % 2 ^ (e + 1) = n % 2 ^ e + 2 ^ e * (n / 2 ^ e % 2) := Nat.mod_pow_succ
  rw [h, Nat.mul_one] at h1
  refine ⟨by omega, ?_⟩
  have := Nat.mod_le n (2 ^ (e + 1))
  omega
theorem bit_less {n e : Nat} (h : ¬ n / 2 ^ e % 2 = 1) : n % 2 ^ (e + 1) = n % 2 ^ e := by
  have h1 : n % 2 ^ (e + 1) = n % 2 ^ e + 2 ^ e * (n / 2 ^ e % 2) := Nat.mod_pow_succ
  have h0 : n / 2 ^ e % 2 = 0 := by omega
  rw [h0, Nat.mul_zero] at h1
  omega
theorem jumpL_goes {N : Kn} (hN : N.good) {F : Fam} {n : Nat} (hn : n < 2 ^ 21) {C : Plane} {xa ya : Int} {s : Nat} (hb : inBox C xa ya s) (hs : s + 2 * n ≤ 100000000)
    (hf : -2199023255552 ≤ xa - n ∧ xa + s + n ≤ 2199023255552 ∧ -2199023255552 ≤ ya - n ∧ ya + s + n ≤ 2199023255552) (hAl : ∀ t, t ≤ n → Al F (N.evo t C)) :
    ∀ (f e : Nat) {S : Lf} {i : Nat}, f + e = 21 → S.valid N → (∃ g, S.A.R (g + 1) i (N.evo (n % 2 ^ e) C) ∧ Trimmed g (N.evo (n % 2 ^ e) C)) →
      S.goes N (jumpL N n f e i S) F (fun j U => ∃ g, U.A.R (g + 1) j (N.evo n C) ∧ Trimmed g (N.evo n C)) ∧ JumpC N n f e i S := by
  intro f
  induction f with
  | zero =>
    intro e S i hfe hv hi
    obtain rfl : e = 21 := by omega
    rw [Nat.mod_eq_of_lt hn] at hi
    exact ⟨goesS.pure (ar := Lf.A) hv.wf hv hi, trivial⟩
  | succ f ih =>
    intro e S i hfe hv hi
    have hstep : n / 2 ^ e ≠ 0 → S.goes N (if n / 2 ^ e % 2 = 1 then leapF N i e S else some (.ok i, S)) F (fun j U => ∃ g, U.A.R (g + 1) j (N.evo (n % 2 ^ (e + 1)) C) ∧ Trimmed g (N.evo (n % 2 ^ (e + 1)) C)) ∧ (n / 2 ^ e % 2 = 1 → LeapC N i e S) := by
      intro _
      by_cases hbit : n / 2 ^ e % 2 = 1
      · obtain ⟨g, hg, ht⟩ := hi
        obtain ⟨m1, m2⟩ := bit_more hbit
        have hl := leap_goes hN (F := F) hv (e := e) hg (hb.evo hN (n % 2 ^ e)) (by omega) (by omega) (by omega) (fun t ht => by rw [← Kn.evo_add]; exact hAl _ (by omega))
        rw [if_pos hbit, m1, Kn.evo_add]
        exact ⟨hl.1, fun _ => hl.2⟩
      · rw [if_neg hbit, bit_less hbit]
        exact ⟨goesS.pure (ar := Lf.A) hv.wf hv hi, fun h => absurd h hbit⟩
    constructor
    · simp only [jumpL]
      split
      · rename_i hz
        have : n < 2 ^ e := by
          rcases Nat.lt_or_ge n (2 ^ e) with h | h
          · exact h
          · have := Nat.div_pos h (pwpos e); omega
        rw [Nat.mod_eq_of_lt this] at hi
        exact goesS.pure (ar := Lf.A) hv.wf hv hi
      · rename_i hz
        exact goesS.bind (hstep hz).1 fun j T hT _ hj => (ih (e + 1) (by omega) hT hj).1
    · intro hz
      refine ⟨(hstep hz).2, fun j T hx => ?_⟩
      obtain ⟨_, hT, hj⟩ := (hstep hz).1.fine j T hx
      exact (ih (e + 1) (by omega) hT hj).2
/-- A Jump: all that lives n generations on. -/
theorem jump_goes {N : Kn} (hN : N.good) {F : Fam} {S : Lf} (hv : S.valid N) {f i n : Nat} (hn : n < 2 ^ 21) {C : Plane} (hR : S.A.R (f + 1) i C) {xa ya : Int} {s : Nat} (hb : inBox C xa ya s) (hs : s + 2 * n ≤ 100000000)
    (hf : -2199023255552 ≤ xa - n ∧ xa + s + n ≤ 2199023255552 ∧ -2199023255552 ≤ ya - n ∧ ya + s + n ≤ 2199023255552) (hAl : ∀ t, t ≤ n → Al F (N.evo t C)) :
    S.goes N (jumpF N i n S) F (fun j U => ∃ g, U.A.R (g + 1) j (N.evo n C) ∧ Trimmed g (N.evo n C)) ∧ S.A.count i < 1152921504606846976 ∧ ∀ j T, S.up (S.A.trim i) = some (.ok j, T) → JumpC N n 21 0 j T := by
  have hc := hR.w.count_box hv.wf hb (by omega)
  have h1 : S.goes N (S.up (S.A.trim i)) F (fun j T => ∃ g, T.A.R (g + 1) j (N.evo (n % 2 ^ 0) C) ∧ Trimmed g (N.evo (n % 2 ^ 0) C)) :=
    goesS.mono (Lf.goes_up hv (Ar.goes_trim (hAl 0 (Nat.zero_le _)) hv.wf hR hc)) fun _ _ _ _ _ h => by
      obtain ⟨⟨g, _, q1, q2, _⟩, _⟩ := h
      rw [Nat.pow_zero, Nat.mod_one]
      exact ⟨g, q1, q2⟩
  refine ⟨?_, hc, fun j T hx => ?_⟩
  · unfold jumpF
    exact goesS.bind h1 fun j T hT _ hj => (jumpL_goes hN hn hb hs hf hAl 21 0 rfl hT hj).1
  · obtain ⟨_, hT, hj⟩ := h1.fine j T hx
    exact (jumpL_goes hN hn hb hs hf hAl 21 0 rfl hT hj).2

/-- The call: a Jump. -/
theorem jump_c {N : Kn} (hN : N.good) {w : World} {I : LI} {S : Lf} {oA : List Nat} (h : LW w I N S oA) (hv : S.valid N) {F : Fam} {f i n : Nat} (hn : n ≤ 1048576) {C : Plane} (hR : S.A.R (f + 1) i C) {xa ya : Int} {s : Nat} (hb : inBox C xa ya s) (hs : s + 2 * n ≤ 100000000)
    (hf : -2199023255552 ≤ xa - n ∧ xa + s + n ≤ 2199023255552 ∧ -2199023255552 ≤ ya - n ∧ ya + s + n ≤ 2199023255552) (hAl : ∀ t, t ≤ n → Al F (N.evo t C)) (hno : ∀ B : Ar, S.A.step F B → B.nodes.length < 4294967295) :
    Calls Tryz.prog 22 #[.pointer (some ⟨I.lb, 0, none⟩), .int .u32 i, .int .i64 n] w fun e w' => ∃ (r : Except Nat Nat) (S' : Lf), e = .returned (encR r) ∧ LPost w I N S' oA w' ∧ S'.valid N ∧ S.A.step F S'.A ∧
      (∀ c, r = .error c → c = 8 ∧ S.A.most ≤ S'.A.nodes.length) ∧ ∀ j, r = .ok j → ∃ g, S'.A.R (g + 1) j (N.evo n C) ∧ Trimmed g (N.evo n C) := by
  obtain ⟨hg, hc, hcn⟩ := jump_goes hN (F := F) hv (n := n) (Nat.lt_of_le_of_lt hn (by decide)) hR hb hs hf hAl
  cases hj : jumpF N i n S with
  | none =>
    obtain ⟨B, hB, hl⟩ := hg.no hj
    have := hno B hB
    omega
  | some p =>
    obtain ⟨r, S'⟩ := p
    refine (jump_w h hv i (by have := hR.w.lv; omega) n hn hc hcn hj).mono ?_
    rintro e w' ⟨rfl, hp⟩
    cases r with
    | ok j =>
      obtain ⟨h1, h2, h3⟩ := hg.fine j S' hj
      exact ⟨.ok j, S', rfl, hp, h2, h1, fun c hc => (by cases hc), fun k hk => (by injection hk with hk; subst hk; exact h3)⟩
    | error c =>
      obtain ⟨h1, h2, h3⟩ := hg.err c S' hj
      exact ⟨.error c, S', rfl, hp, h2, h1, fun c' hc => (by injection hc with hc; subst hc; exact h3), fun k hk => (by cases hk)⟩
end Go.Proofs.YtnkdbpjmepfblaaGreatDoor
