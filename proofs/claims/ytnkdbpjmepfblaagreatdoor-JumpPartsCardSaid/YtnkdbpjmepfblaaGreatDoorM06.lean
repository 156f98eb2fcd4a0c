/- Texts of the walk and its plain law, merged: SqC, PureB, PureC, PureD, PureE, SqD. -/
import Derived.Test.YtnkdbpjmepfblaaGreatDoorM05
/- Squares: Expand, Fit. -/
namespace Go.Proofs.YtnkdbpjmepfblaaGreatDoor
open Go Go.RowKit

def quad (z k i : Nat) : K4 := ⟨if i = 3 then k else z, if i = 2 then k else z, if i = 1 then k else z, if i = 0 then k else z⟩
def K4.set (K : K4) (i j : Nat) : K4 := ⟨if i = 0 then j else K.a, if i = 1 then j else K.b, if i = 2 then j else K.c, if i = 3 then j else K.d⟩
def Ar.expandL (z : Nat) (K : K4) : Nat → K4 → Ar → Option (Except Nat Nat × Ar)
  | 0, acc, A => A.join acc
  | n + 1, acc, A => mbind (A.join (quad z (K.k (3 - n)) (3 - n))) (fun j B => Ar.expandL z K n (acc.set (3 - n) j) B)
def Ar.expand (A : Ar) (root : Nat) : Option (Except Nat Nat × Ar) :=
  if A.level root < 3 then some (.error 4, A) else if 44 ≤ A.level root then some (.error 7, A) else
    mbind (A.mt (A.level root - 1)) fun z B => Ar.expandL z (B.kids root) 4 ⟨0, 0, 0, 0⟩ B
theorem AW.eok {w : World} {ab : Nat} {A : Ar} {o : List Nat} (h : AW w ab A o) : ∀ e ∈ A.empty, e < 4294967296 := by
  obtain ⟨S, _, h1, _, _, hA, _⟩ := h
  rw [← h1]; exact hA.eok
theorem fillE_ok {lev : Nat} : ∀ (n : Nat) {A B : Ar} {i : Nat}, A.fillE lev n = some (.ok i, B) → i = B.empty[lev]?.getD 0 := by
  intro n
  induction n with
  | zero => intro A B i h; simp only [Ar.fillE, Option.some.injEq, Prod.mk.injEq, Except.ok.injEq] at h; obtain ⟨rfl, rfl⟩ := h; rfl
  | succ n ih =>
    intro A B i h
    simp only [Ar.fillE] at h
    split at h
    · exact ih h
    · rename_i hr
      exact absurd h (fun hh => hr _ _ hh)
theorem mt_lt {A B : Ar} {lev : Int} {i : Nat} (hB : ∀ e ∈ B.empty, e < 4294967296) (h : A.mt lev = some (.ok i, B)) : i < 4294967296 := by
  unfold Ar.mt at h
  split at h
  · simp at h
  · split at h
    · simp at h
    · rw [fillE_ok _ h]
      cases hg : B.empty[lev.toNat]? with
      | none => show (0 : Nat) < _; omega
      | some e => exact hB e (List.mem_of_getElem? hg)

set_option maxRecDepth 100000 in
set_option maxHeartbeats 1600000 in
theorem expand_w {w : World} {ab : Nat} {A : Ar} {o : List Nat} (h : AW w ab A o) (hpos : 0 < A.empty.length) (n : Nat) (hn : n < 4294967296) (hlv : A.level n < 100) {r : Except Nat Nat} {A' : Ar} (hj : A.expand n = some (r, A')) :
    Calls Tryz.prog 82 #[.pointer (some ⟨ab, 0, none⟩), .int .u32 n] w fun e w' => e = .returned (encR r) ∧ ∃ o', AW w' ab A' o' ∧ Fr w o w' o' := by
  have HAW := Lib.hid h
  have HJ := Lib.hid hj
  have hlo : -1 ≤ A.level n := by unfold Ar.level; split <;> omega
  clear h hj
  go_enter Tryz.func82, Tryz.ntmps82
  go_wp2_with fail
  refine (level_w HAW.out n hn).mono ?_
  rintro e w' ⟨rfl, rfl⟩
  by_cases hl3 : A.level n < 3
  · go_wp2_with fail
    have hj := HJ.out
    unfold Ar.expand at hj
    rw [if_pos hl3] at hj
    obtain ⟨rfl, rfl⟩ : Except.error 4 = r ∧ A = A' := by simpa using hj
    go_ret2
    exact ⟨rfl, o, HAW.out, Fr.refl w o HAW.out.lt⟩
  by_cases hl4 : 44 ≤ A.level n
  · go_wp2_with fail
    have hj := HJ.out
    unfold Ar.expand at hj
    rw [if_neg (by omega), if_pos hl4] at hj
    obtain ⟨rfl, rfl⟩ : Except.error 7 = r ∧ A = A' := by simpa using hj
    go_ret2
    exact ⟨rfl, o, HAW.out, Fr.refl w o HAW.out.lt⟩
  have hj := HJ.out
  unfold Ar.expand at hj
  rw [if_neg (by omega), if_neg (by omega)] at hj
  clear HJ
  obtain ⟨x, hx⟩ : ∃ x, x = A.mt (A.level n - 1) := ⟨_, rfl⟩
  rw [← hx] at hj
  cases x with
  | none => cases hj
  | some ra =>
    obtain ⟨r1, A1⟩ := ra
    have hmw := empty_w HAW.out hpos (A.level n - 1) (by omega) (by omega) hx.symm
    have HMW := Lib.hid hmw
    have HX := Lib.hid hx
    have HJ := Lib.hid hj
    clear hmw hx hj
    go_wp2_with fail
    refine HMW.out.mono ?_
    rintro e w1 ⟨rfl, o1, hAW1, hF1⟩
    cases r1 with
    | error c =>
      have hj := HJ.out
      simp only [mbind] at hj
      obtain ⟨rfl, rfl⟩ : Except.error c = r ∧ A1 = A' := by simpa using hj
      simp only [encR, errV]
      go_wp2_with fail
      go_ret2
      exact ⟨rfl, o1, hAW1, hF1⟩
    | ok z =>
      have hj := HJ.out
      simp only [mbind] at hj
      have HJ1 := Lib.hid hj
      have HA1 := Lib.hid hAW1
      have HF1 := Lib.hid hF1
      have HZ := Lib.hid (mt_lt hAW1.eok HX.out.symm)
      clear hj HJ HX HMW hAW1 hF1
      simp only [encR, okV]
      have hz : z < 4294967296 := HZ.out
      have HG1 := Lib.hid HA1.out.good
      go_wp2_with fail
      have hA2 := HA1.out.alloc (KBox ⟨0, 0, 0, 0⟩)
      have hlt2 := HA1.out.lt
      have hF2 : Fr w o (w1.alloc (KBox ⟨0, 0, 0, 0⟩)) o1 := HF1.out.alloc _
      have hbx := heap_new w1 (KBox ⟨0, 0, 0, 0⟩)
      have hws := HF1.out.size
      have hkw := kids_w hA2 n hn
      have HBX := Lib.hid hbx
      have HF2 := Lib.hid hF2
      have HA2 := Lib.hid hA2
      have HKW := Lib.hid hkw
      have HLT := Lib.hid hlt2
      clear hA2 hF2 hbx hkw hlt2
      refine HKW.out.mono ?_
      rintro e w2 ⟨rfl, hFk⟩
      have hA3 := HA2.out.ext hFk
      have hF3 : Fr w o w2 o1 := HF2.out.ext hFk
      have hbx3 : w2.heap[w1.heap.size]? = some (KBox ⟨0, 0, 0, 0⟩) := by rw [hFk.keep _ (by simp) (by simp)]; exact HBX.out
      have hno : w1.heap.size ∉ o1 := fun hm => Nat.lt_irrefl _ (HLT.out _ hm)
      have HA3 := Lib.hid hA3
      have HF3 := Lib.hid hF3
      have HBX3 := Lib.hid hbx3
      clear hA3 hF3 hbx3 hFk HKW HA2 HF2 HBX
      go_wp2_with fail
      go_loopw [37] (fun v wr => ∃ (k : Nat) (acc : K4) (A2 : Ar) (o2 : List Nat), k ≤ 4 ∧ v = .int .i64 k ∧ acc.ok ∧ wr.heap[w1.heap.size]? = some (KBox acc) ∧ w1.heap.size ∉ o2 ∧ AW wr ab A2 o2 ∧ Fr w o wr o2 ∧ Ar.expandL z (A1.kids n) (4 - k) acc A2 = some (r, A')) (fun v w => 4 - (intOf v).toNat)
      case atStart => exact ⟨0, ⟨0, 0, 0, 0⟩, A1, o1, by omega, rfl, ⟨by decide, by decide, by decide, by decide⟩, HBX3.out, hno, HA3.out, HF3.out, HJ1.out⟩
      case round =>
        clear HJ1 HA3 HF3 HBX3 hno
        obtain ⟨k, acc, A2, o2, hk, rfl, hacc, hbx, hno, hAW, hF, hj⟩ := hrel
        obtain ⟨W0, rfl⟩ : ∃ W0, W0 = wr := ⟨_, rfl⟩
        have HACC := Lib.hid hacc
        have HBX := Lib.hid hbx
        have HAW := Lib.hid hAW
        have HF := Lib.hid hF
        have HJ := Lib.hid hj
        have hbl := heap_lt hbx
        clear hacc hbx hAW hF hj
        have hcase : k = 0 ∨ k = 1 ∨ k = 2 ∨ k = 3 ∨ k = 4 := by omega
        rcases hcase with rfl | rfl | rfl | rfl | rfl
        · have hj0 := HJ.out
          have hj : mbind (A2.join ⟨z, z, z, A1.kid n 0⟩) (fun j B => Ar.expandL z (A1.kids n) 3 ⟨j, acc.b, acc.c, acc.d⟩ B) = some (r, A') := hj0
          clear HJ hj0
          have hi : ∀ w, (Instr.index 155 (.agg #[.int .u32 (A1.kid n 0), .int .u32 (A1.kid n 1), .int .u32 (A1.kid n 2), .int .u32 (A1.kid n 3)]) (.int .i64 0)).run Tryz.prog w = .ok (.int .u32 (A1.kid n 0)) w := fun w => idxKid A1 n 0 (by decide) w
          obtain ⟨x, hx⟩ : ∃ x, x = A2.join ⟨z, z, z, A1.kid n 0⟩ := ⟨_, rfl⟩
          rw [← hx] at hj
          cases x with
          | none => cases hj
          | some ra =>
            obtain ⟨r1, A3⟩ := ra
            have hjw := join_w (HAW.out.alloc (KBox ⟨z, z, z, A1.kid n 0⟩)) ⟨z, z, z, A1.kid n 0⟩ ⟨hz, hz, hz, A1.kid_lt HG1.out n 0⟩ hx.symm
            have hne : w1.heap.size ≠ W0.heap.size := by omega
            have hfa : Fr w o (W0.alloc (KBox ⟨z, z, z, A1.kid n 0⟩)) o2 := HF.out.alloc _
            have hba : (W0.alloc (KBox ⟨z, z, z, A1.kid n 0⟩)).heap[w1.heap.size]? = some (KBox acc) := by rw [Below.heap_alloc _ _ _ hbl]; exact HBX.out
            have HJW := Lib.hid hjw
            have HX := Lib.hid hx
            have HJ := Lib.hid hj
            have HFA := Lib.hid hfa
            have HBA := Lib.hid hba
            clear hjw hx hj hfa hba
            go_wp2_with fail
            refine HJW.out.mono ?_
            rintro e w3 ⟨rfl, o3, hAW3, hF3⟩
            have hbx3 : w3.heap[w1.heap.size]? = some (KBox acc) := by rw [hF3.keep _ (by simp; omega) hno]; exact HBA.out
            have hno3 : w1.heap.size ∉ o3 := fun hm => by
              rcases hF3.own _ hm with h1 | h1
              · exact hno h1
              · simp at h1; omega
            have hfz : w3.frozen? ⟨w1.heap.size, 0, none⟩ = false := frozen_of_row w3 _ _ _ _ hbx3
            have hcl : w3.cell? ⟨w1.heap.size, 0, none⟩ = some (.int .u32 acc.a) := cell_of_heap hbx3 0
            have HF3 := Lib.hid (HFA.out.trans hF3)
            have HAW3 := Lib.hid hAW3
            have HBX3 := Lib.hid hbx3
            clear hAW3 hF3 hbx3 HJW HFA HBA HAW HF HBX
            cases r1 with
            | error c =>
              have hj := HJ.out
              simp only [mbind] at hj
              obtain ⟨rfl, rfl⟩ : Except.error c = r ∧ A3 = A' := by simpa using hj
              simp only [encR, errV]
              go_wp2_with fail
              go_ret2
              exact ⟨rfl, o3, HAW3.out.setNew hno3 _, HF3.out.setCell hws _⟩
            | ok j =>
              have hjlt : j < 4294967296 := Nat.lt_trans (join_lt HX.out.symm) HAW3.out.len
              simp only [encR, okV]
              go_wp2_with fail
              refine ⟨⟨1, ⟨j, acc.b, acc.c, acc.d⟩, A3, o3, by omega, rfl, ⟨hjlt, HACC.out.2.1, HACC.out.2.2.1, HACC.out.2.2.2⟩, ?_, hno3, HAW3.out.setNew hno3 _, HF3.out.setCell hws _, HJ.out⟩, by simp [intOf]⟩
              rw [heap_setCell_same _ _ _ _ _ _ HBX3.out]
              rfl
        · have hj0 := HJ.out
          have hj : mbind (A2.join ⟨z, z, A1.kid n 1, z⟩) (fun j B => Ar.expandL z (A1.kids n) 2 ⟨acc.a, j, acc.c, acc.d⟩ B) = some (r, A') := hj0
          clear HJ hj0
          have hi : ∀ w, (Instr.index 155 (.agg #[.int .u32 (A1.kid n 0), .int .u32 (A1.kid n 1), .int .u32 (A1.kid n 2), .int .u32 (A1.kid n 3)]) (.int .i64 1)).run Tryz.prog w = .ok (.int .u32 (A1.kid n 1)) w := fun w => idxKid A1 n 1 (by decide) w
          obtain ⟨x, hx⟩ : ∃ x, x = A2.join ⟨z, z, A1.kid n 1, z⟩ := ⟨_, rfl⟩
          rw [← hx] at hj
          cases x with
          | none => cases hj
          | some ra =>
            obtain ⟨r1, A3⟩ := ra
            have hjw := join_w (HAW.out.alloc (KBox ⟨z, z, A1.kid n 1, z⟩)) ⟨z, z, A1.kid n 1, z⟩ ⟨hz, hz, A1.kid_lt HG1.out n 1, hz⟩ hx.symm
            have hne : w1.heap.size ≠ W0.heap.size := by omega
            have hfa : Fr w o (W0.alloc (KBox ⟨z, z, A1.kid n 1, z⟩)) o2 := HF.out.alloc _
            have hba : (W0.alloc (KBox ⟨z, z, A1.kid n 1, z⟩)).heap[w1.heap.size]? = some (KBox acc) := by rw [Below.heap_alloc _ _ _ hbl]; exact HBX.out
            have HJW := Lib.hid hjw
            have HX := Lib.hid hx
            have HJ := Lib.hid hj
            have HFA := Lib.hid hfa
            have HBA := Lib.hid hba
            clear hjw hx hj hfa hba
            go_wp2_with fail
            refine HJW.out.mono ?_
            rintro e w3 ⟨rfl, o3, hAW3, hF3⟩
            have hbx3 : w3.heap[w1.heap.size]? = some (KBox acc) := by rw [hF3.keep _ (by simp; omega) hno]; exact HBA.out
            have hno3 : w1.heap.size ∉ o3 := fun hm => by
              rcases hF3.own _ hm with h1 | h1
              · exact hno h1
              · simp at h1; omega
            have hfz : w3.frozen? ⟨w1.heap.size, 1, none⟩ = false := frozen_of_row w3 _ _ _ _ hbx3
            have hcl : w3.cell? ⟨w1.heap.size, 1, none⟩ = some (.int .u32 acc.b) := cell_of_heap hbx3 1
            have HF3 := Lib.hid (HFA.out.trans hF3)
            have HAW3 := Lib.hid hAW3
            have HBX3 := Lib.hid hbx3
            clear hAW3 hF3 hbx3 HJW HFA HBA HAW HF HBX
            cases r1 with
            | error c =>
              have hj := HJ.out
              simp only [mbind] at hj
              obtain ⟨rfl, rfl⟩ : Except.error c = r ∧ A3 = A' := by simpa using hj
              simp only [encR, errV]
              go_wp2_with fail
              go_ret2
              exact ⟨rfl, o3, HAW3.out.setNew hno3 _, HF3.out.setCell hws _⟩
            | ok j =>
              have hjlt : j < 4294967296 := Nat.lt_trans (join_lt HX.out.symm) HAW3.out.len
              simp only [encR, okV]
              go_wp2_with fail
              refine ⟨⟨2, ⟨acc.a, j, acc.c, acc.d⟩, A3, o3, by omega, rfl, ⟨HACC.out.1, hjlt, HACC.out.2.2.1, HACC.out.2.2.2⟩, ?_, hno3, HAW3.out.setNew hno3 _, HF3.out.setCell hws _, HJ.out⟩, by simp [intOf]⟩
              rw [heap_setCell_same _ _ _ _ _ _ HBX3.out]
              rfl
        · have hj0 := HJ.out
          have hj : mbind (A2.join ⟨z, A1.kid n 2, z, z⟩) (fun j B => Ar.expandL z (A1.kids n) 1 ⟨acc.a, acc.b, j, acc.d⟩ B) = some (r, A') := hj0
          clear HJ hj0
          have hi : ∀ w, (Instr.index 155 (.agg #[.int .u32 (A1.kid n 0), .int .u32 (A1.kid n 1), .int .u32 (A1.kid n 2), .int .u32 (A1.kid n 3)]) (.int .i64 2)).run Tryz.prog w = .ok (.int .u32 (A1.kid n 2)) w := fun w => idxKid A1 n 2 (by decide) w
          obtain ⟨x, hx⟩ : ∃ x, x = A2.join ⟨z, A1.kid n 2, z, z⟩ := ⟨_, rfl⟩
          rw [← hx] at hj
          cases x with
          | none => cases hj
          | some ra =>
            obtain ⟨r1, A3⟩ := ra
            have hjw := join_w (HAW.out.alloc (KBox ⟨z, A1.kid n 2, z, z⟩)) ⟨z, A1.kid n 2, z, z⟩ ⟨hz, A1.kid_lt HG1.out n 2, hz, hz⟩ hx.symm
            have hne : w1.heap.size ≠ W0.heap.size := by omega
            have hfa : Fr w o (W0.alloc (KBox ⟨z, A1.kid n 2, z, z⟩)) o2 := HF.out.alloc _
            have hba : (W0.alloc (KBox ⟨z, A1.kid n 2, z, z⟩)).heap[w1.heap.size]? = some (KBox acc) := by rw [Below.heap_alloc _ _ _ hbl]; exact HBX.out
            have HJW := Lib.hid hjw
            have HX := Lib.hid hx
            have HJ := Lib.hid hj
            have HFA := Lib.hid hfa
            have HBA := Lib.hid hba
            clear hjw hx hj hfa hba
            go_wp2_with fail
            refine HJW.out.mono ?_
            rintro e w3 ⟨rfl, o3, hAW3, hF3⟩
            have hbx3 : w3.heap[w1.heap.size]? = some (KBox acc) := by rw [hF3.keep _ (by simp; omega) hno]; exact HBA.out
            have hno3 : w1.heap.size ∉ o3 := fun hm => by
              rcases hF3.own _ hm with h1 | h1
              · exact hno h1
              · simp at h1; omega
            have hfz : w3.frozen? ⟨w1.heap.size, 2, none⟩ = false := frozen_of_row w3 _ _ _ _ hbx3
            have hcl : w3.cell? ⟨w1.heap.size, 2, none⟩ = some (.int .u32 acc.c) := cell_of_heap hbx3 2
            have HF3 := Lib.hid (HFA.out.trans hF3)
            have HAW3 := Lib.hid hAW3
            have HBX3 := Lib.hid hbx3
            clear hAW3 hF3 hbx3 HJW HFA HBA HAW HF HBX
            cases r1 with
            | error c =>
              have hj := HJ.out
              simp only [mbind] at hj
              obtain ⟨rfl, rfl⟩ : Except.error c = r ∧ A3 = A' := by simpa using hj
              simp only [encR, errV]
              go_wp2_with fail
              go_ret2
              exact ⟨rfl, o3, HAW3.out.setNew hno3 _, HF3.out.setCell hws _⟩
            | ok j =>
              have hjlt : j < 4294967296 := Nat.lt_trans (join_lt HX.out.symm) HAW3.out.len
              simp only [encR, okV]
              go_wp2_with fail
              refine ⟨⟨3, ⟨acc.a, acc.b, j, acc.d⟩, A3, o3, by omega, rfl, ⟨HACC.out.1, HACC.out.2.1, hjlt, HACC.out.2.2.2⟩, ?_, hno3, HAW3.out.setNew hno3 _, HF3.out.setCell hws _, HJ.out⟩, by simp [intOf]⟩
              rw [heap_setCell_same _ _ _ _ _ _ HBX3.out]
              rfl
        · have hj0 := HJ.out
          have hj : mbind (A2.join ⟨A1.kid n 3, z, z, z⟩) (fun j B => Ar.expandL z (A1.kids n) 0 ⟨acc.a, acc.b, acc.c, j⟩ B) = some (r, A') := hj0
          clear HJ hj0
          have hi : ∀ w, (Instr.index 155 (.agg #[.int .u32 (A1.kid n 0), .int .u32 (A1.kid n 1), .int .u32 (A1.kid n 2), .int .u32 (A1.kid n 3)]) (.int .i64 3)).run Tryz.prog w = .ok (.int .u32 (A1.kid n 3)) w := fun w => idxKid A1 n 3 (by decide) w
          obtain ⟨x, hx⟩ : ∃ x, x = A2.join ⟨A1.kid n 3, z, z, z⟩ := ⟨_, rfl⟩
          rw [← hx] at hj
          cases x with
          | none => cases hj
          | some ra =>
            obtain ⟨r1, A3⟩ := ra
            have hjw := join_w (HAW.out.alloc (KBox ⟨A1.kid n 3, z, z, z⟩)) ⟨A1.kid n 3, z, z, z⟩ ⟨A1.kid_lt HG1.out n 3, hz, hz, hz⟩ hx.symm
            have hne : w1.heap.size ≠ W0.heap.size := by omega
            have hfa : Fr w o (W0.alloc (KBox ⟨A1.kid n 3, z, z, z⟩)) o2 := HF.out.alloc _
            have hba : (W0.alloc (KBox ⟨A1.kid n 3, z, z, z⟩)).heap[w1.heap.size]? = some (KBox acc) := by rw [Below.heap_alloc _ _ _ hbl]; exact HBX.out
            have HJW := Lib.hid hjw
            have HX := Lib.hid hx
            have HJ := Lib.hid hj
            have HFA := Lib.hid hfa
            have HBA := Lib.hid hba
            clear hjw hx hj hfa hba
            go_wp2_with fail
            refine HJW.out.mono ?_
            rintro e w3 ⟨rfl, o3, hAW3, hF3⟩
            have hbx3 : w3.heap[w1.heap.size]? = some (KBox acc) := by rw [hF3.keep _ (by simp; omega) hno]; exact HBA.out
            have hno3 : w1.heap.size ∉ o3 := fun hm => by
              rcases hF3.own _ hm with h1 | h1
              · exact hno h1
              · simp at h1; omega
            have hfz : w3.frozen? ⟨w1.heap.size, 3, none⟩ = false := frozen_of_row w3 _ _ _ _ hbx3
            have hcl : w3.cell? ⟨w1.heap.size, 3, none⟩ = some (.int .u32 acc.d) := cell_of_heap hbx3 3
            have HF3 := Lib.hid (HFA.out.trans hF3)
            have HAW3 := Lib.hid hAW3
            have HBX3 := Lib.hid hbx3
            clear hAW3 hF3 hbx3 HJW HFA HBA HAW HF HBX
            cases r1 with
            | error c =>
              have hj := HJ.out
              simp only [mbind] at hj
              obtain ⟨rfl, rfl⟩ : Except.error c = r ∧ A3 = A' := by simpa using hj
              simp only [encR, errV]
              go_wp2_with fail
              go_ret2
              exact ⟨rfl, o3, HAW3.out.setNew hno3 _, HF3.out.setCell hws _⟩
            | ok j =>
              have hjlt : j < 4294967296 := Nat.lt_trans (join_lt HX.out.symm) HAW3.out.len
              simp only [encR, okV]
              go_wp2_with fail
              refine ⟨⟨4, ⟨acc.a, acc.b, acc.c, j⟩, A3, o3, by omega, rfl, ⟨HACC.out.1, HACC.out.2.1, HACC.out.2.2.1, hjlt⟩, ?_, hno3, HAW3.out.setNew hno3 _, HF3.out.setCell hws _, HJ.out⟩, by simp [intOf]⟩
              rw [heap_setCell_same _ _ _ _ _ _ HBX3.out]
              rfl
        · have hj := HJ.out
          simp only [Nat.sub_self, Ar.expandL] at hj
          have hjw := join_w HAW.out acc HACC.out hj
          have b0 := cell_of_heap HBX.out 0
          have b1 := cell_of_heap HBX.out 1
          have b2 := cell_of_heap HBX.out 2
          have b3 := cell_of_heap HBX.out 3
          simp only [List.getElem?_toArray, List.getElem?_cons_zero, List.getElem?_cons_succ] at b0 b1 b2 b3
          have HJW := Lib.hid hjw
          clear hj hjw
          go_wp2_with fail
          refine HJW.out.mono ?_
          rintro e w3 ⟨rfl, o3, hAW3, hF3⟩
          have hq : ∃ o', AW w3 ab A' o' ∧ Fr w o w3 o' := ⟨o3, hAW3, HF.out.trans hF3⟩
          clear hAW3 hF3 b0 b1 b2 b3
          cases r with
          | ok i =>
            simp only [encR, okV]
            go_wp2_with fail
            go_ret2
            exact ⟨rfl, hq⟩
          | error c =>
            simp only [encR, errV]
            go_wp2_with fail
            go_ret2
            exact ⟨rfl, hq⟩
end Go.Proofs.YtnkdbpjmepfblaaGreatDoor

/- What lives below a node. -/
namespace Go.Proofs.YtnkdbpjmepfblaaGreatDoor
open Go

/-- Does the cell (x, y, h) of a node of level d + 2 live? -/
def Ar.at (A : Ar) : Nat → Nat → Nat → Nat → Nat → Bool
  | 0, i, x, y, h => (A.bits i).testBit (2 * (4 * y + x) + h)
  | d + 1, i, x, y, h => A.at d (A.kid i (2 * (y / 2 ^ (d + 2)) + x / 2 ^ (d + 2))) (x % 2 ^ (d + 2)) (y % 2 ^ (d + 2)) h

theorem quo_lt {d x : Nat} (hx : x < 2 ^ (d + 3)) : x / 2 ^ (d + 2) < 2 := by
  rw [Nat.div_lt_iff_lt_mul (Nat.two_pow_pos _)]
  rw [show d + 3 = (d + 2) + 1 by omega, Nat.pow_succ] at hx
  omega
theorem kid_ix {d x y : Nat} (hx : x < 2 ^ (d + 3)) (hy : y < 2 ^ (d + 3)) : 2 * (y / 2 ^ (d + 2)) + x / 2 ^ (d + 2) < 4 := by
  have := quo_lt hx
  have := quo_lt hy
  omega
theorem Ar.wf.level_kid' {A : Ar} (h : A.wf) {n j d : Nat} (hj : j < 4) (hl : A.level n = (d + 1 + 2 : Nat)) : A.level (A.kid n j) = (d + 2 : Nat) := by
  rw [h.level_kid hj (by omega), hl]; omega
theorem Ar.le.at {A B : Ar} (hle : A.le B) (h : A.wf) : ∀ (d : Nat) {i : Nat}, A.level i = (d + 2 : Nat) → ∀ {x y : Nat}, x < 2 ^ (d + 2) → y < 2 ^ (d + 2) → ∀ k, B.at d i x y k = A.at d i x y k := by
  intro d
  induction d with
  | zero =>
    intro i hi x y _ _ k
    simp only [Ar.at]
    rw [hle.bits (Ar.level_lt (by omega))]
  | succ d ih =>
    intro i hi x y hx hy k
    simp only [Ar.at]
    rw [hle.kid (Ar.level_lt (by omega))]
    exact ih (h.level_kid' (kid_ix hx hy) hi) (Nat.mod_lt _ (Nat.two_pow_pos _)) (Nat.mod_lt _ (Nat.two_pow_pos _)) k

/-- The same level and the same cells: the same node. -/
theorem Ar.wf.canon {A : Ar} (h : A.wf) : ∀ (d : Nat) {i j : Nat}, A.level i = (d + 2 : Nat) → A.level j = (d + 2 : Nat) →
    (∀ x y k, x < 2 ^ (d + 2) → y < 2 ^ (d + 2) → k < 2 → A.at d i x y k = A.at d j x y k) → i = j := by
  intro d
  have key : ∀ {i j : Nat}, ∀ m n : Nd, A.nodes[i]? = some m → A.nodes[j]? = some n → m.lv = n.lv → m.bits = n.bits → m.K = n.K → i = j := by
    intro i j m n hi hj h1 h2 h3
    refine h.keys i j m n hi hj ?_
    simp only [Nd.K, K4.mk.injEq] at h3
    simp only [Nd.key, h1, h2, h3]
  induction d with
  | zero =>
    intro i j hi hj he
    obtain ⟨m, hm⟩ : ∃ m, A.nodes[i]? = some m := ⟨_, List.getElem?_eq_getElem (Ar.level_lt (by omega))⟩
    obtain ⟨n, hn⟩ : ∃ n, A.nodes[j]? = some n := ⟨_, List.getElem?_eq_getElem (Ar.level_lt (by omega))⟩
    rw [Ar.level_get hm] at hi
    rw [Ar.level_get hn] at hj
    have m2 := (h.nodes i m hm).2
    have n2 := (h.nodes j n hn).2
    have mo := (h.nodes i m hm).1.2.1
    have no := (h.nodes j n hn).1.2.1
    rcases m2 with ⟨a1, a2, a3⟩ | ⟨a1, _⟩
    rotate_left
    · omega
    rcases n2 with ⟨b1, b2, b3⟩ | ⟨b1, _⟩
    rotate_left
    · omega
    refine key m n hm hn (by omega) ?_ (by rw [a2, b2])
    apply Nat.eq_of_testBit_eq
    intro t
    by_cases ht : t < 32
    · have := he (t / 2 % 4) (t / 8) (t % 2) (by simp; omega) (by simp; omega) (by omega)
      simp only [Ar.at, Ar.bits_get hm, Ar.bits_get hn] at this
      rwa [show 2 * (4 * (t / 8) + t / 2 % 4) + t % 2 = t by omega] at this
    · have h32 : ∀ z : Nat, z < 4294967296 → z.testBit t = false := fun z hz => Nat.testBit_lt_two_pow (Nat.lt_of_lt_of_le hz (by
        have : 2 ^ 32 ≤ 2 ^ t := Nat.pow_le_pow_right (by omega) (by omega)
        simpa using this))
      rw [h32 _ mo, h32 _ no]
  | succ d ih =>
    intro i j hi hj he
    obtain ⟨m, hm⟩ : ∃ m, A.nodes[i]? = some m := ⟨_, List.getElem?_eq_getElem (Ar.level_lt (by omega))⟩
    obtain ⟨n, hn⟩ : ∃ n, A.nodes[j]? = some n := ⟨_, List.getElem?_eq_getElem (Ar.level_lt (by omega))⟩
    have hi' := hi
    have hj' := hj
    rw [Ar.level_get hm] at hi
    rw [Ar.level_get hn] at hj
    have m2 := (h.nodes i m hm).2
    have n2 := (h.nodes j n hn).2
    rcases m2 with ⟨a1, _⟩ | ⟨_, _, a3, _⟩
    · omega
    rcases n2 with ⟨b1, _⟩ | ⟨_, _, b3, _⟩
    · omega
    refine key m n hm hn (by omega) (by omega) (K4.ext4 fun t ht => ?_)
    rw [← Ar.kid_get hm, ← Ar.kid_get hn]
    refine ih (h.level_kid' ht hi') (h.level_kid' ht hj') fun x y k hx hy hk => ?_
    have hP : 2 ^ (d + 1 + 2) = 2 * 2 ^ (d + 2) := by rw [show d + 1 + 2 = (d + 2) + 1 by omega, Nat.pow_succ]; omega
    have hlt : ∀ u b, u < 2 ^ (d + 2) → b < 2 → u + b * 2 ^ (d + 2) < 2 ^ (d + 1 + 2) := by
      intro u b hu hb
      have hc : b = 0 ∨ b = 1 := by omega
      rcases hc with rfl | rfl <;> omega
    have hq : ∀ u b, u < 2 ^ (d + 2) → (u + b * 2 ^ (d + 2)) / 2 ^ (d + 2) = b := by
      intro u b hu
      rw [Nat.add_mul_div_right _ _ (Nat.two_pow_pos _), Nat.div_eq_of_lt hu]; omega
    have hr : ∀ u b, u < 2 ^ (d + 2) → (u + b * 2 ^ (d + 2)) % 2 ^ (d + 2) = u := by
      intro u b hu
      rw [Nat.add_mul_mod_self_right, Nat.mod_eq_of_lt hu]
    have := he (x + (t % 2) * 2 ^ (d + 2)) (y + (t / 2) * 2 ^ (d + 2)) k (hlt _ _ hx (by omega)) (hlt _ _ hy (by omega)) hk
    simp only [Ar.at, hq _ _ hx, hq _ _ hy, hr _ _ hx, hr _ _ hy] at this
    rwa [show 2 * (t / 2) + t % 2 = t by omega] at this

/-- What lives in a join. -/
theorem Ar.at_join {A B : Ar} (h : A.wf) (hle : A.le B) {K : K4} {d i : Nat} (hK : ∀ j, j < 4 → A.level (K.k j) = (d + 2 : Nat)) (hi : B.nodes[i]? = some (A.joinNd K (d + 2))) {x y : Nat}
    (hx : x < 2 ^ (d + 3)) (hy : y < 2 ^ (d + 3)) (k : Nat) :
    B.at (d + 1) i x y k = A.at d (K.k (2 * (y / 2 ^ (d + 2)) + x / 2 ^ (d + 2))) (x % 2 ^ (d + 2)) (y % 2 ^ (d + 2)) k := by
  simp only [Ar.at]
  rw [Ar.kid_get hi]
  show B.at d (K.k _) _ _ k = _
  exact hle.at h d (hK _ (kid_ix hx hy)) (Nat.mod_lt _ (Nat.two_pow_pos _)) (Nat.mod_lt _ (Nat.two_pow_pos _)) k

theorem popc_eq_zero {f : Nat} (h : popc f = 0) : f = 0 := by
  rw [popc] at h
  split at h
  · assumption
  · omega
theorem Ar.sum_eq_zero {A : Ar} {K : K4} : ∀ n, A.sum K n = 0 ↔ ∀ j, j < n → A.count (K.k j) = 0 := by
  intro n
  induction n with
  | zero => exact ⟨fun _ j hj => by omega, fun _ => rfl⟩
  | succ n ih =>
    simp only [Ar.sum, cap62]
    constructor
    · intro h j hj
      rcases Nat.lt_succ_iff_lt_or_eq.mp hj with h1 | rfl
      · exact ih.1 (by omega) j h1
      · omega
    · intro h
      have h1 := ih.2 (fun j hj => h j (by omega))
      have h2 := h n (by omega)
      omega
theorem Ar.wf.cnt_node {A : Ar} (h : A.wf) {i d : Nat} (hi : A.level i = (d + 1 + 2 : Nat)) : A.count i = A.sum (A.kids i) 4 := by
  obtain ⟨m, hm⟩ : ∃ m, A.nodes[i]? = some m := ⟨_, List.getElem?_eq_getElem (Ar.level_lt (by omega))⟩
  have hk : A.kids i = m.K := K4.ext4 fun j hj => by rw [A.kids_k i j hj, Ar.kid_get hm]
  rw [hk, Ar.count_get hm]
  rw [Ar.level_get hm] at hi
  rcases (h.nodes i m hm).2 with ⟨a1, _⟩ | ⟨_, _, _, _, a5⟩
  · omega
  · exact a5
/-- No cell is counted: none lives. -/
theorem Ar.wf.empty_iff {A : Ar} (h : A.wf) : ∀ (d : Nat) {i : Nat}, A.level i = (d + 2 : Nat) → (A.count i = 0 ↔ ∀ x y k, x < 2 ^ (d + 2) → y < 2 ^ (d + 2) → k < 2 → A.at d i x y k = false) := by
  intro d
  induction d with
  | zero =>
    intro i hi
    obtain ⟨m, hm⟩ : ∃ m, A.nodes[i]? = some m := ⟨_, List.getElem?_eq_getElem (Ar.level_lt (by omega))⟩
    rw [Ar.count_get hm]
    rw [Ar.level_get hm] at hi
    have mo := (h.nodes i m hm).1.2.1
    rcases (h.nodes i m hm).2 with ⟨a1, a2, a3⟩ | ⟨a1, _⟩
    rotate_left
    · omega
    rw [a3]
    constructor
    · intro h0 x y k _ _ _
      simp only [Ar.at, Ar.bits_get hm]
      rw [popc_eq_zero h0, Nat.zero_testBit]
    · intro he
      have h0 : m.bits = 0 := by
        apply Nat.eq_of_testBit_eq
        intro t
        rw [Nat.zero_testBit]
        by_cases ht : t < 32
        · have := he (t / 2 % 4) (t / 8) (t % 2) (by simp; omega) (by simp; omega) (by omega)
          simp only [Ar.at, Ar.bits_get hm] at this
          rwa [show 2 * (4 * (t / 8) + t / 2 % 4) + t % 2 = t by omega] at this
        · exact Nat.testBit_lt_two_pow (Nat.lt_of_lt_of_le mo (by
            have : 2 ^ 32 ≤ 2 ^ t := Nat.pow_le_pow_right (by omega) (by omega)
            simpa using this))
      rw [h0, popc_zero]
  | succ d ih =>
    intro i hi
    rw [h.cnt_node hi, Ar.sum_eq_zero]
    have hP : 2 ^ (d + 1 + 2) = 2 * 2 ^ (d + 2) := by rw [show d + 1 + 2 = (d + 2) + 1 by omega, Nat.pow_succ]; omega
    constructor
    · intro h0 x y k hx hy hk
      simp only [Ar.at]
      have hj := kid_ix hx hy
      have := h0 _ hj
      rw [A.kids_k i _ hj] at this
      exact (ih (h.level_kid' hj hi)).1 this _ _ k (Nat.mod_lt _ (Nat.two_pow_pos _)) (Nat.mod_lt _ (Nat.two_pow_pos _)) hk
    · intro he t ht
      rw [A.kids_k i t ht, ih (h.level_kid' ht hi)]
      intro x y k hx hy hk
      have hlt : ∀ u b, u < 2 ^ (d + 2) → b < 2 → u + b * 2 ^ (d + 2) < 2 ^ (d + 1 + 2) := by
        intro u b hu hb
        have hc : b = 0 ∨ b = 1 := by omega
        rcases hc with rfl | rfl <;> omega
      have hq : ∀ u b, u < 2 ^ (d + 2) → (u + b * 2 ^ (d + 2)) / 2 ^ (d + 2) = b := by
        intro u b hu
        rw [Nat.add_mul_div_right _ _ (Nat.two_pow_pos _), Nat.div_eq_of_lt hu]; omega
      have hr : ∀ u b, u < 2 ^ (d + 2) → (u + b * 2 ^ (d + 2)) % 2 ^ (d + 2) = u := by
        intro u b hu
        rw [Nat.add_mul_mod_self_right, Nat.mod_eq_of_lt hu]
      have := he (x + (t % 2) * 2 ^ (d + 2)) (y + (t / 2) * 2 ^ (d + 2)) k (hlt _ _ hx (by omega)) (hlt _ _ hy (by omega)) hk
      simp only [Ar.at, hq _ _ hx, hq _ _ hy, hr _ _ hx, hr _ _ hy] at this
      rwa [show 2 * (t / 2) + t % 2 = t by omega] at this
end Go.Proofs.YtnkdbpjmepfblaaGreatDoor

/- Windows: what a node shows of a plane. -/
namespace Go.Proofs.YtnkdbpjmepfblaaGreatDoor
open Go

abbrev Plane := Int → Int → Nat → Bool
/-- The node i, of level d + 2, is what C shows from (a, b) on. -/
structure Ar.W (A : Ar) (d i : Nat) (C : Plane) (a b : Int) : Prop where
  lv : A.level i = (d + 2 : Nat)
  at' : ∀ x y k, x < 2 ^ (d + 2) → y < 2 ^ (d + 2) → k < 2 → A.at d i x y k = C (a + x) (b + y) k

theorem Ar.W.le {A B : Ar} (hle : A.le B) (hA : A.wf) {d i : Nat} {C : Plane} {a b : Int} (h : A.W d i C a b) : B.W d i C a b :=
  ⟨by rw [hle.level (Ar.level_lt (by rw [h.lv]; omega))]; exact h.lv, fun x y k hx hy hk => by rw [hle.at hA d h.lv hx hy]; exact h.at' x y k hx hy hk⟩
theorem Ar.W.inj {A : Ar} (hA : A.wf) {d i j : Nat} {C C' : Plane} {a b a' b' : Int} (h : A.W d i C a b) (h' : A.W d j C' a' b')
    (he : ∀ (x y k : Nat), x < 2 ^ (d + 2) → y < 2 ^ (d + 2) → k < 2 → C (a + x) (b + y) k = C' (a' + x) (b' + y) k) : i = j :=
  hA.canon d h.lv h'.lv fun x y k hx hy hk => by rw [h.at' x y k hx hy hk, h'.at' x y k hx hy hk]; exact he x y k hx hy hk
theorem pow_cast (d : Nat) : ((2 ^ (d + 2) : Nat) : Int) = 2 ^ (d + 2) := by norm_cast
theorem two_pow_succ (d : Nat) : 2 ^ (d + 1 + 2) = 2 * 2 ^ (d + 2) := by rw [show d + 1 + 2 = (d + 2) + 1 by omega, Nat.pow_succ]; omega
/-- The kid's window. -/
theorem Ar.W.kid {A : Ar} (hA : A.wf) {d i : Nat} {C : Plane} {a b : Int} (h : A.W (d + 1) i C a b) {t : Nat} (ht : t < 4) :
    A.W d (A.kid i t) C (a + (t % 2 : Nat) * (2 ^ (d + 2) : Nat)) (b + (t / 2 : Nat) * (2 ^ (d + 2) : Nat)) := by
  refine ⟨hA.level_kid' ht h.lv, fun x y k hx hy hk => ?_⟩
  have hP := two_pow_succ d
  have hlt : ∀ u b, u < 2 ^ (d + 2) → b < 2 → u + b * 2 ^ (d + 2) < 2 ^ (d + 1 + 2) := by
    intro u b hu hb
    have hc : b = 0 ∨ b = 1 := by omega
    rcases hc with rfl | rfl <;> omega
  have hq : ∀ u b, u < 2 ^ (d + 2) → (u + b * 2 ^ (d + 2)) / 2 ^ (d + 2) = b := by
    intro u b hu
    rw [Nat.add_mul_div_right _ _ (Nat.two_pow_pos _), Nat.div_eq_of_lt hu]; omega
  have hr : ∀ u b, u < 2 ^ (d + 2) → (u + b * 2 ^ (d + 2)) % 2 ^ (d + 2) = u := by
    intro u b hu
    rw [Nat.add_mul_mod_self_right, Nat.mod_eq_of_lt hu]
  have := h.at' (x + (t % 2) * 2 ^ (d + 2)) (y + (t / 2) * 2 ^ (d + 2)) k (hlt _ _ hx (by omega)) (hlt _ _ hy (by omega)) hk
  simp only [Ar.at, hq _ _ hx, hq _ _ hy, hr _ _ hx, hr _ _ hy] at this
  rw [show 2 * (t / 2) + t % 2 = t by omega] at this
  rw [this]
  congr 1
  · simp only [Int.natCast_add, Int.natCast_mul]; omega
  · simp only [Int.natCast_add, Int.natCast_mul]; omega
/-- The window of a join. -/
theorem Ar.W.join {A B : Ar} (hA : A.wf) (hle : A.le B) {K : K4} {d i : Nat} {C : Plane} {a b : Int}
    (hK : ∀ t, t < 4 → A.W d (K.k t) C (a + (t % 2 : Nat) * (2 ^ (d + 2) : Nat)) (b + (t / 2 : Nat) * (2 ^ (d + 2) : Nat)))
    (hi : B.nodes[i]? = some (A.joinNd K (d + 2))) : B.W (d + 1) i C a b := by
  refine ⟨by rw [Ar.level_get hi]; rfl, fun x y k hx hy hk => ?_⟩
  rw [Ar.at_join hA hle (fun j hj => (hK j hj).lv) hi hx hy]
  have hx2 := quo_lt hx
  have hy2 := quo_lt hy
  rw [(hK _ (kid_ix hx hy)).at' _ _ k (Nat.mod_lt _ (Nat.two_pow_pos _)) (Nat.mod_lt _ (Nat.two_pow_pos _)) hk]
  have e1 := Nat.div_add_mod x (2 ^ (d + 2))
  have e2 := Nat.div_add_mod y (2 ^ (d + 2))
  rw [Nat.mul_comm] at e1 e2
  generalize x / 2 ^ (d + 2) = qx at *
  generalize y / 2 ^ (d + 2) = qy at *
  rw [show (2 * qy + qx) % 2 = qx by omega, show (2 * qy + qx) / 2 = qy by omega]
  congr 1
  · rw [Int.add_assoc]; congr 1
    rw [← Int.natCast_mul, ← Int.natCast_add, e1]
  · rw [Int.add_assoc]; congr 1
    rw [← Int.natCast_mul, ← Int.natCast_add, e2]
theorem Ar.does_joinW {A : Ar} (h : A.wf) {K : K4} {d : Nat} (h44 : d + 2 < 44) {C : Plane} {a b : Int}
    (hK : ∀ t, t < 4 → A.W d (K.k t) C (a + (t % 2 : Nat) * (2 ^ (d + 2) : Nat)) (b + (t / 2 : Nat) * (2 ^ (d + 2) : Nat))) :
    A.does (A.join K) 1 (fun i B => B.W (d + 1) i C a b) := by
  refine ⟨fun r B hx => ?_, ((Ar.does_join h (by omega) h44 (fun j hj => (hK j hj).lv)).2)⟩
  have ho := (Ar.does_join h (by omega) h44 (fun j hj => (hK j hj).lv)).1 r B hx
  exact ⟨ho.wf, ho.le, ho.len, fun i hi => Ar.W.join h ho.le hK (ho.ok i hi), ho.err⟩
/-- An empty one. -/
theorem Ar.W.empty {A : Ar} (hA : A.wf) {d i : Nat} (hl : A.level i = (d + 2 : Nat)) (hc : A.count i = 0) {C : Plane} {a b : Int}
    (hC : ∀ (x y k : Nat), x < 2 ^ (d + 2) → y < 2 ^ (d + 2) → k < 2 → C (a + x) (b + y) k = false) : A.W d i C a b :=
  ⟨hl, fun x y k hx hy hk => by rw [(hA.empty_iff d hl).1 hc x y k hx hy hk, hC x y k hx hy hk]⟩
theorem Ar.W.isEmpty {A : Ar} (hA : A.wf) {d i : Nat} {C : Plane} {a b : Int} (h : A.W d i C a b) : A.count i = 0 ↔ ∀ (x y k : Nat), x < 2 ^ (d + 2) → y < 2 ^ (d + 2) → k < 2 → C (a + x) (b + y) k = false := by
  rw [hA.empty_iff d h.lv]
  constructor
  · intro h0 x y k hx hy hk; rw [← h.at' x y k hx hy hk]; exact h0 x y k hx hy hk
  · intro h0 x y k hx hy hk; rw [h.at' x y k hx hy hk]; exact h0 x y k hx hy hk
theorem Ar.W.congr {A : Ar} {d i : Nat} {C C' : Plane} {a b a' b' : Int} (h : A.W d i C a b)
    (he : ∀ (x y k : Nat), x < 2 ^ (d + 2) → y < 2 ^ (d + 2) → k < 2 → C (a + x) (b + y) k = C' (a' + x) (b' + y) k) : A.W d i C' a' b' :=
  ⟨h.lv, fun x y k hx hy hk => by rw [h.at' x y k hx hy hk]; exact he x y k hx hy hk⟩
theorem Ar.W.off {A : Ar} {d i : Nat} {C : Plane} {a b a' b' : Int} (h : A.W d i C a b) (ha : a = a') (hb : b = b') : A.W d i C a' b' := by subst ha; subst hb; exact h
/-- Each node is its own plane's window. -/
def Ar.plane (A : Ar) (d i : Nat) (a b : Int) : Plane := fun x y k =>
  if a ≤ x ∧ x < a + (2 ^ (d + 2) : Nat) ∧ b ≤ y ∧ y < b + (2 ^ (d + 2) : Nat) ∧ k < 2 then A.at d i (x - a).toNat (y - b).toNat k else false
theorem Ar.W.self {A : Ar} {d i : Nat} (hl : A.level i = (d + 2 : Nat)) (a b : Int) : A.W d i (A.plane d i a b) a b := by
  refine ⟨hl, fun x y k hx hy hk => ?_⟩
  unfold Ar.plane
  rw [if_pos ⟨by omega, by omega, by omega, by omega, hk⟩]
  congr 1 <;> omega
end Go.Proofs.YtnkdbpjmepfblaaGreatDoor

/- Roots: Expand, Fit, Trim as data. -/
namespace Go.Proofs.YtnkdbpjmepfblaaGreatDoor
open Go

/-- The root i, of level d + 2, is all that lives in C. -/
structure Ar.R (A : Ar) (d i : Nat) (C : Plane) : Prop where
  w : A.W d i C (-((2 ^ (d + 1) : Nat) : Int)) (-((2 ^ (d + 1) : Nat) : Int))
  out : ∀ (x y : Int) (k : Nat), ¬ (-((2 ^ (d + 1) : Nat) : Int) ≤ x ∧ x < ((2 ^ (d + 1) : Nat) : Int) ∧ -((2 ^ (d + 1) : Nat) : Int) ≤ y ∧ y < ((2 ^ (d + 1) : Nat) : Int) ∧ k < 2) → C x y k = false
theorem Ar.R.le {A B : Ar} (hle : A.le B) (hA : A.wf) {d i : Nat} {C : Plane} (h : A.R d i C) : B.R d i C := ⟨h.w.le hle hA, h.out⟩
theorem Ar.R.inj {A : Ar} (hA : A.wf) {d i j : Nat} {C : Plane} (h : A.R d i C) (h' : A.R d j C) : i = j :=
  h.w.inj hA h'.w fun _ _ _ _ _ _ => rfl
theorem pw1 (d : Nat) : 2 ^ (d + 1 + 1) = 2 * 2 ^ (d + 1) := by rw [Nat.pow_succ]; omega
theorem pw2 (d : Nat) : 2 ^ (d + 2) = 2 * 2 ^ (d + 1) := by rw [show d + 2 = (d + 1) + 1 by omega, Nat.pow_succ]; omega
theorem pwpos (d : Nat) : 0 < 2 ^ d := Nat.two_pow_pos d

/-- The quarter t of a root, moved into the middle. -/
theorem Ar.does_quad {A : Ar} (h : A.wf) {d z k : Nat} {C : Plane} (h44 : d + 3 < 44) (hz : A.level z = (d + 2 : Nat) ∧ A.count z = 0)
    (hout : ∀ (x y : Int) (k : Nat), ¬ (-((2 ^ (d + 2) : Nat) : Int) ≤ x ∧ x < ((2 ^ (d + 2) : Nat) : Int) ∧ -((2 ^ (d + 2) : Nat) : Int) ≤ y ∧ y < ((2 ^ (d + 2) : Nat) : Int) ∧ k < 2) → C x y k = false)
    {t : Nat} (ht : t < 4) (hk : A.W d k C (-((2 ^ (d + 2) : Nat) : Int) + (t % 2 : Nat) * (2 ^ (d + 2) : Nat)) (-((2 ^ (d + 2) : Nat) : Int) + (t / 2 : Nat) * (2 ^ (d + 2) : Nat))) :
    A.does (A.join (quad z k t)) 1 (fun j B => B.W (d + 1) j C (-((2 ^ (d + 3) : Nat) : Int) + (t % 2 : Nat) * (2 ^ (d + 3) : Nat)) (-((2 ^ (d + 3) : Nat) : Int) + (t / 2 : Nat) * (2 ^ (d + 3) : Nat))) := by
  refine Ar.does_joinW h (by omega) fun p hp => ?_
  have hP : 2 ^ (d + 3) = 2 * 2 ^ (d + 2) := two_pow_succ d
  have hpos := pwpos (d + 2)
  rw [hP]
  have hE : ∀ (a b : Int), (a + (2 ^ (d + 2) : Nat) ≤ -((2 ^ (d + 2) : Nat) : Int) ∨ ((2 ^ (d + 2) : Nat) : Int) ≤ a ∨ b + (2 ^ (d + 2) : Nat) ≤ -((2 ^ (d + 2) : Nat) : Int) ∨ ((2 ^ (d + 2) : Nat) : Int) ≤ b) → A.W d z C a b := by
    intro a b hd
    refine Ar.W.empty h hz.1 hz.2 fun x y k hx hy hk => hout _ _ _ ?_
    generalize 2 ^ (d + 2) = s at *
    omega
  have hc : t = 0 ∨ t = 1 ∨ t = 2 ∨ t = 3 := by omega
  have hq : p = 0 ∨ p = 1 ∨ p = 2 ∨ p = 3 := by omega
  clear hz hout hP
  rcases hc with rfl | rfl | rfl | rfl <;> rcases hq with rfl | rfl | rfl | rfl <;>
    first
    | exact hk.off (by generalize 2 ^ (d + 2) = s at *; omega) (by generalize 2 ^ (d + 2) = s at *; omega)
    | exact hE _ _ (by generalize 2 ^ (d + 2) = s at *; omega)
theorem Ar.does_expandL {A : Ar} (h : A.wf) {d z : Nat} {C : Plane} (h44 : d + 4 ≤ 44) {K : K4} (hz : A.level z = (d + 2 : Nat) ∧ A.count z = 0)
    (hout : ∀ (x y : Int) (k : Nat), ¬ (-((2 ^ (d + 2) : Nat) : Int) ≤ x ∧ x < ((2 ^ (d + 2) : Nat) : Int) ∧ -((2 ^ (d + 2) : Nat) : Int) ≤ y ∧ y < ((2 ^ (d + 2) : Nat) : Int) ∧ k < 2) → C x y k = false)
    (hk : ∀ t, t < 4 → A.W d (K.k t) C (-((2 ^ (d + 2) : Nat) : Int) + (t % 2 : Nat) * (2 ^ (d + 2) : Nat)) (-((2 ^ (d + 2) : Nat) : Int) + (t / 2 : Nat) * (2 ^ (d + 2) : Nat))) :
    A.does (A.expandL z K 4 ⟨0, 0, 0, 0⟩) 5 (fun j B => B.R (d + 2) j C) := by
  have hkk : ∀ {B : Ar}, A.le B → ∀ t, t < 4 → B.W d (K.k t) C (-((2 ^ (d + 2) : Nat) : Int) + (t % 2 : Nat) * (2 ^ (d + 2) : Nat)) (-((2 ^ (d + 2) : Nat) : Int) + (t / 2 : Nat) * (2 ^ (d + 2) : Nat)) :=
    fun hle t ht => (hk t ht).le hle h
  have hzz : ∀ {B : Ar}, A.le B → B.level z = (d + 2 : Nat) ∧ B.count z = 0 := fun hle => by
    have hl : z < A.nodes.length := Ar.level_lt (by rw [hz.1]; omega)
    rw [hle.level hl, hle.count hl]; exact hz
  show A.does (mbind (A.join (quad z (K.k 0) 0)) _) (1 + (1 + (1 + (1 + 1)))) _
  refine Ar.does.bind (Ar.does_quad h (by omega) hz hout (by omega) (hk 0 (by omega))) fun j0 B0 w0 le0 h0 => ?_
  show B0.does (mbind (B0.join (quad z (K.k 1) 1)) _) (1 + (1 + (1 + 1))) _
  refine Ar.does.bind (Ar.does_quad w0 (by omega) (hzz le0) hout (by omega) (hkk le0 1 (by omega))) fun j1 B1 w1 le1 h1 => ?_
  have le1' := le0.trans le1
  show B1.does (mbind (B1.join (quad z (K.k 2) 2)) _) (1 + (1 + 1)) _
  refine Ar.does.bind (Ar.does_quad w1 (by omega) (hzz le1') hout (by omega) (hkk le1' 2 (by omega))) fun j2 B2 w2 le2 h2 => ?_
  have le2' := le1'.trans le2
  show B2.does (mbind (B2.join (quad z (K.k 3) 3)) _) (1 + 1) _
  refine Ar.does.bind (Ar.does_quad w2 (by omega) (hzz le2') hout (by omega) (hkk le2' 3 (by omega))) fun j3 B3 w3 le3 h3 => ?_
  show B3.does (B3.join ⟨j0, j1, j2, j3⟩) 1 _
  refine (Ar.does_joinW (d := d + 1) w3 (by omega) (C := C) (a := -((2 ^ (d + 3) : Nat) : Int)) (b := -((2 ^ (d + 3) : Nat) : Int)) fun t ht => ?_).mono (Nat.le_refl _) (fun i B _ _ hB => ⟨hB, fun x y k hn => hout x y k ?_⟩)
  · have hc : t = 0 ∨ t = 1 ∨ t = 2 ∨ t = 3 := by omega
    rcases hc with rfl | rfl | rfl | rfl
    · exact h0.le ((le1.trans le2).trans le3) w0
    · exact h1.le (le2.trans le3) w1
    · exact h2.le le3 w2
    · exact h3
  · have hP : 2 ^ (d + 2 + 1) = 2 * 2 ^ (d + 2) := by rw [Nat.pow_succ]; omega
    rw [hP] at hn
    generalize 2 ^ (d + 2) = s at *
    omega
/-- Expand: the same cells. -/
theorem Ar.does_expand {A : Ar} (h : A.wf) {d i : Nat} {C : Plane} (h44 : d + 4 ≤ 44) (hR : A.R (d + 1) i C) : A.does (A.expand i) 50 (fun j B => B.R (d + 2) j C) := by
  unfold Ar.expand
  have hl := hR.w.lv
  rw [if_neg (by omega), if_neg (by omega)]
  have e : A.level i - 1 = ((d + 2 : Nat) : Int) := by omega
  rw [e]
  refine Ar.does.bind (N := 45) (M := 5) (Ar.does_mt h (by omega) (by omega)) fun z B wB le hz => ?_
  refine Ar.does_expandL wB h44 hz hR.out fun t ht => ?_
  have hw := (hR.w.le le h).kid wB ht
  rw [B.kids_k i t ht]
  exact hw
end Go.Proofs.YtnkdbpjmepfblaaGreatDoor

/- Roots: Fit, Trim as data. -/
namespace Go.Proofs.YtnkdbpjmepfblaaGreatDoor
open Go

def Ar.fitL : Nat → Nat → Ar → Option (Except Nat Nat × Ar)
  | 0, i, A => some (.ok i, A)
  | f + 1, i, A => mbind (A.expand i) (Ar.fitL f)
def Ar.fit (A : Ar) (i : Nat) (lev : Int) : Option (Except Nat Nat × Ar) :=
  if A.level i < 3 then some (.error 4, A) else A.fitL (lev - A.level i).toNat i
theorem Ar.does_fitL {C : Plane} : ∀ (f : Nat) {A : Ar} {d i : Nat}, A.wf → A.R (d + 1) i C → d + 3 + f ≤ 44 → A.does (A.fitL f i) (50 * f) (fun j B => B.R (d + f + 1) j C) := by
  intro f
  induction f with
  | zero => intro A d i h hR _; exact .pure h hR
  | succ f ih =>
    intro A d i h hR hd
    rw [show 50 * (f + 1) = 50 + 50 * f by omega]
    refine Ar.does.bind (Ar.does_expand h (by omega) hR) fun j B wB le hj => ?_
    refine (ih (d := d + 1) wB hj (by omega)).mono (Nat.le_refl _) fun k B' _ _ hk => ?_
    rwa [show d + (f + 1) + 1 = d + 1 + f + 1 by omega]
theorem Ar.does_fit {A : Ar} {C : Plane} {d i : Nat} (h : A.wf) (hR : A.R (d + 1) i C) {lev : Nat} (h44 : lev ≤ 44) (hd : d + 3 ≤ 44) :
    A.does (A.fit i (lev : Int)) (50 * (lev - (d + 3))) (fun j B => B.R (d + (lev - (d + 3)) + 1) j C) := by
  unfold Ar.fit
  have hl := hR.w.lv
  rw [if_neg (by omega), show ((lev : Int) - A.level i).toNat = lev - (d + 3) by omega]
  exact Ar.does_fitL _ h hR (by omega)

theorem Ar.wf.count_sum {A : Ar} (h : A.wf) {i : Nat} (hl : 3 ≤ A.level i) (hc : A.count i < 4611686018427387904) :
    A.count i = A.count (A.kid i 0) + A.count (A.kid i 1) + A.count (A.kid i 2) + A.count (A.kid i 3) := by
  have h44 := h.level_le i
  obtain ⟨d, hd⟩ : ∃ d : Nat, A.level i = (d + 1 + 2 : Nat) := ⟨(A.level i).toNat - 3, by omega⟩
  rw [h.cnt_node hd] at hc ⊢
  simp only [Ar.sum, cap62, K4.k, Ar.kids] at hc ⊢
  omega
/-- Do all cells of a root lie in its middle? -/
theorem Ar.R.inner {A : Ar} (h : A.wf) {f i : Nat} {C : Plane} (hR : A.R (f + 2) i C) (hc : A.count i < 1152921504606846976) :
    A.innerS i 4 = A.count i ↔ ∀ (x y : Int) (k : Nat), ¬ (-((2 ^ (f + 2) : Nat) : Int) ≤ x ∧ x < ((2 ^ (f + 2) : Nat) : Int) ∧ -((2 ^ (f + 2) : Nat) : Int) ≤ y ∧ y < ((2 ^ (f + 2) : Nat) : Int) ∧ k < 2) → C x y k = false := by
  have hl := hR.w.lv
  have hpos := pwpos (f + 2)
  have e3 : 2 ^ (f + 2 + 1) = 2 * 2 ^ (f + 2) := by rw [Nat.pow_succ]; omega
  have hg : ∀ t u, t < 4 → u < 4 → A.W f (A.grand i t u) C (-((2 * 2 ^ (f + 2) : Nat) : Int) + (t % 2 : Nat) * (2 * 2 ^ (f + 2) : Nat) + (u % 2 : Nat) * (2 ^ (f + 2) : Nat)) (-((2 * 2 ^ (f + 2) : Nat) : Int) + (t / 2 : Nat) * (2 * 2 ^ (f + 2) : Nat) + (u / 2 : Nat) * (2 ^ (f + 2) : Nat)) := by
    intro t u ht hu
    have h1 := (hR.w.kid h ht).kid h hu
    rw [e3] at h1
    exact h1
  have hcs := h.count_sum (i := i) (by omega) (by omega)
  have hck : ∀ t, t < 4 → A.count (A.kid i t) = A.count (A.grand i t 0) + A.count (A.grand i t 1) + A.count (A.grand i t 2) + A.count (A.grand i t 3) := by
    intro t ht
    have h1 := h.level_kid (n := i) ht (by omega)
    have h2 := h.count_kid (n := i) ht (by omega) (by omega)
    exact h.count_sum (by omega) (by omega)
  have hiff : A.innerS i 4 = A.count i ↔ ∀ t u, t < 4 → u < 4 → u ≠ 3 - t → A.count (A.grand i t u) = 0 := by
    rw [hcs, hck 0 (by omega), hck 1 (by omega), hck 2 (by omega), hck 3 (by omega)]
    simp only [Ar.innerS, Nat.sub_zero, Nat.sub_self, Nat.reduceSub]
    constructor
    · intro he t u ht hu hne
      have hc1 : t = 0 ∨ t = 1 ∨ t = 2 ∨ t = 3 := by omega
      have hc2 : u = 0 ∨ u = 1 ∨ u = 2 ∨ u = 3 := by omega
      rcases hc1 with rfl | rfl | rfl | rfl <;> rcases hc2 with rfl | rfl | rfl | rfl <;> omega
    · intro hz
      have hz' := fun t u ht hu hne => hz t u ht hu hne
      rw [hz 0 0 (by omega) (by omega) (by omega), hz 0 1 (by omega) (by omega) (by omega), hz 0 2 (by omega) (by omega) (by omega),
        hz 1 0 (by omega) (by omega) (by omega), hz 1 1 (by omega) (by omega) (by omega), hz 1 3 (by omega) (by omega) (by omega),
        hz 2 0 (by omega) (by omega) (by omega), hz 2 2 (by omega) (by omega) (by omega), hz 2 3 (by omega) (by omega) (by omega),
        hz 3 1 (by omega) (by omega) (by omega), hz 3 2 (by omega) (by omega) (by omega), hz 3 3 (by omega) (by omega) (by omega)]
      omega
  rw [hiff]
  have hout := hR.out
  rw [e3] at hout
  obtain ⟨s, hs⟩ : ∃ s, s = 2 ^ (f + 2) := ⟨_, rfl⟩
  constructor
  · intro hz x y k hn
    have hcell : ∀ tx ux ty uy : Nat, tx < 2 → ux < 2 → ty < 2 → uy < 2 → ¬ (tx ≠ ux ∧ ty ≠ uy) →
        -((2 * s : Nat) : Int) + tx * (2 * s : Nat) + ux * s ≤ x → x < -((2 * s : Nat) : Int) + tx * (2 * s : Nat) + ux * s + s →
        -((2 * s : Nat) : Int) + ty * (2 * s : Nat) + uy * s ≤ y → y < -((2 * s : Nat) : Int) + ty * (2 * s : Nat) + uy * s + s → k < 2 → C x y k = false := by
      intro tx ux ty uy h1 h2 h3 h4 hne a1 a2 a3 a4 hk
      have h0 := ((hg (2 * ty + tx) (2 * uy + ux) (by omega) (by omega)).isEmpty h).1 (hz _ _ (by omega) (by omega) (by omega))
      rw [← hs] at h0
      rw [show (2 * ty + tx) % 2 = tx by omega, show (2 * ty + tx) / 2 = ty by omega, show (2 * uy + ux) % 2 = ux by omega, show (2 * uy + ux) / 2 = uy by omega] at h0
      have h5 := h0 (x - (-((2 * s : Nat) : Int) + tx * (2 * s : Nat) + ux * s)).toNat (y - (-((2 * s : Nat) : Int) + ty * (2 * s : Nat) + uy * s)).toNat k (by omega) (by omega) hk
      rw [Int.toNat_of_nonneg (by omega), Int.toNat_of_nonneg (by omega)] at h5
      rw [← h5]
      congr 1 <;> omega
    rw [← hs] at hn hpos hout
    clear hg hz hcs hck hiff hl
    by_cases hin : -((2 * s : Nat) : Int) ≤ x ∧ x < ((2 * s : Nat) : Int) ∧ -((2 * s : Nat) : Int) ≤ y ∧ y < ((2 * s : Nat) : Int) ∧ k < 2
    · have split4 : ∀ z : Int, -((2 * s : Nat) : Int) ≤ z → z < ((2 * s : Nat) : Int) → ∃ t u : Nat, t < 2 ∧ u < 2 ∧ (t ≠ u → -(s : Int) ≤ z ∧ z < s) ∧
          -((2 * s : Nat) : Int) + t * (2 * s : Nat) + u * s ≤ z ∧ z < -((2 * s : Nat) : Int) + t * (2 * s : Nat) + u * s + s := by
        intro z h1 h2
        by_cases a : z < -(s : Int)
        · exact ⟨0, 0, by omega, by omega, fun e => absurd rfl e, by omega, by omega⟩
        by_cases b : z < 0
        · exact ⟨0, 1, by omega, by omega, fun _ => by omega, by omega, by omega⟩
        by_cases c : z < s
        · exact ⟨1, 0, by omega, by omega, fun _ => by omega, by omega, by omega⟩
        · exact ⟨1, 1, by omega, by omega, fun e => absurd rfl e, by omega, by omega⟩
      obtain ⟨tx, ux, p1, p2, p3, p4, p5⟩ := split4 x hin.1 hin.2.1
      obtain ⟨ty, uy, q1, q2, q3, q4, q5⟩ := split4 y hin.2.2.1 hin.2.2.2.1
      exact hcell tx ux ty uy p1 p2 q1 q2 (fun hne => hn ⟨(p3 hne.1).1, (p3 hne.1).2, (q3 hne.2).1, (q3 hne.2).2, hin.2.2.2.2⟩) p4 p5 q4 q5 hin.2.2.2.2
    · exact hout x y k hin
  · intro hz t u ht hu hne
    rw [(hg t u ht hu).isEmpty h]
    intro x y k hx hy hk
    refine hz _ _ _ ?_
    have hc1 : t = 0 ∨ t = 1 ∨ t = 2 ∨ t = 3 := by omega
    have hc2 : u = 0 ∨ u = 1 ∨ u = 2 ∨ u = 3 := by omega
    rw [← hs] at hx hy hpos ⊢
    clear hg hz hcs hck hiff hl hout
    rcases hc1 with rfl | rfl | rfl | rfl <;> rcases hc2 with rfl | rfl | rfl | rfl <;> first | (exact absurd rfl hne) | omega

/-- A root that can't be less: of the least level, or with a cell outside of its middle. -/
def Trimmed (e : Nat) (C : Plane) : Prop :=
  e = 0 ∨ ∃ (x y : Int) (k : Nat), ¬ (-((2 ^ (e + 1) : Nat) : Int) ≤ x ∧ x < ((2 ^ (e + 1) : Nat) : Int) ∧ -((2 ^ (e + 1) : Nat) : Int) ≤ y ∧ y < ((2 ^ (e + 1) : Nat) : Int) ∧ k < 2) ∧ C x y k = true
/-- The level of such a root is told by the cells. -/
theorem Trimmed.uniq {A B : Ar} {d e i j : Nat} {C : Plane} (h : A.R (d + 1) i C) (k : B.R (e + 1) j C) (hd : Trimmed d C) (he : Trimmed e C) : d = e := by
  have key : ∀ {A B : Ar} {d e i j : Nat}, A.R (d + 1) i C → B.R (e + 1) j C → Trimmed e C → ¬ d < e := by
    intro A B d e i j h k he hlt
    rcases he with he | ⟨x, y, t, hn, hc⟩
    · omega
    · have hp : 2 ^ (d + 1 + 1) ≤ 2 ^ (e + 1) := Nat.pow_le_pow_right (by omega) (by omega)
      have := h.out x y t (fun hin => hn (by omega))
      rw [this] at hc; cases hc
  have h1 := key h k he
  have h2 := key k h hd
  omega
theorem Ar.does_middle {A : Ar} (h : A.wf) {f i : Nat} {C : Plane} (hR : A.R (f + 2) i C) (h44 : f + 4 ≤ 44)
    (hin : ∀ (x y : Int) (k : Nat), ¬ (-((2 ^ (f + 2) : Nat) : Int) ≤ x ∧ x < ((2 ^ (f + 2) : Nat) : Int) ∧ -((2 ^ (f + 2) : Nat) : Int) ≤ y ∧ y < ((2 ^ (f + 2) : Nat) : Int) ∧ k < 2) → C x y k = false) :
    A.does (A.middle i) 1 (fun j B => B.R (f + 1) j C) := by
  have hl := hR.w.lv
  have e3 : 2 ^ (f + 2 + 1) = 2 * 2 ^ (f + 2) := by rw [Nat.pow_succ]; omega
  have hg : ∀ t u, t < 4 → u < 4 → A.W f (A.grand i t u) C (-((2 * 2 ^ (f + 2) : Nat) : Int) + (t % 2 : Nat) * (2 * 2 ^ (f + 2) : Nat) + (u % 2 : Nat) * (2 ^ (f + 2) : Nat)) (-((2 * 2 ^ (f + 2) : Nat) : Int) + (t / 2 : Nat) * (2 * 2 ^ (f + 2) : Nat) + (u / 2 : Nat) * (2 ^ (f + 2) : Nat)) := by
    intro t u ht hu
    have h1 := (hR.w.kid h ht).kid h hu
    rw [e3] at h1
    exact h1
  refine (Ar.does_joinW h (by omega) (C := C) (a := -((2 ^ (f + 2) : Nat) : Int)) (b := -((2 ^ (f + 2) : Nat) : Int)) fun t ht => ?_).mono (Nat.le_refl _) (fun j B _ _ hB => ⟨hB, hin⟩)
  have hc : t = 0 ∨ t = 1 ∨ t = 2 ∨ t = 3 := by omega
  rcases hc with rfl | rfl | rfl | rfl
  · exact (hg 0 3 (by omega) (by omega)).off (by generalize 2 ^ (f + 2) = s at *; omega) (by generalize 2 ^ (f + 2) = s at *; omega)
  · exact (hg 1 2 (by omega) (by omega)).off (by generalize 2 ^ (f + 2) = s at *; omega) (by generalize 2 ^ (f + 2) = s at *; omega)
  · exact (hg 2 1 (by omega) (by omega)).off (by generalize 2 ^ (f + 2) = s at *; omega) (by generalize 2 ^ (f + 2) = s at *; omega)
  · exact (hg 3 0 (by omega) (by omega)).off (by generalize 2 ^ (f + 2) = s at *; omega) (by generalize 2 ^ (f + 2) = s at *; omega)
theorem Ar.middle_count {A B : Ar} (h : A.wf) {i j l : Nat} (h2 : 2 ≤ l) (hl : A.level i = l + 2) (hs : A.innerS i 4 < 4611686018427387904) (hm : A.middle i = some (.ok j, B)) : B.count j = A.innerS i 4 := by
  have h44 := h.level_le i
  have hd := A.join_spec h (K := A.mid i) (l := l) h2 (by omega) (A.mid_level h hl h2) hm
  rw [Ar.count_get (hd.ok j rfl)]
  exact A.mid_sum hs
theorem Ar.does_trimL {C : Plane} : ∀ (f : Nat) {A : Ar} {i : Nat}, A.wf → A.R (f + 1) i C → A.count i < 1152921504606846976 → f + 3 ≤ 44 →
    A.does (A.trimL f i) f (fun j B => ∃ e, e ≤ f ∧ B.R (e + 1) j C ∧ Trimmed e C ∧ B.count j = A.count i) := by
  intro f
  induction f with
  | zero => intro A i h hR _ _; exact .pure h ⟨0, Nat.le_refl _, hR, .inl rfl, rfl⟩
  | succ f ih =>
    intro A i h hR hc hf
    simp only [Ar.trimL]
    have hin := hR.inner h hc
    split
    · rename_i hne
      refine .pure h ⟨f + 1, Nat.le_refl _, hR, .inr ?_, rfl⟩
      refine Classical.byContradiction fun hno => hne (hin.2 fun x y k hn => ?_)
      cases hC : C x y k with
      | false => rfl
      | true => exact absurd ⟨x, y, k, hn, hC⟩ hno
    · rename_i hne
      have he : A.innerS i 4 = A.count i := Classical.not_not.1 hne
      have hl := hR.w.lv
      have hm := Ar.does_middle h hR (by omega) (hin.1 he)
      have hm' : A.does (A.middle i) 1 (fun j B => B.R (f + 1) j C ∧ B.count j = A.count i) := by
        refine ⟨fun r B hx => ?_, hm.2⟩
        have ho := hm.1 r B hx
        exact ⟨ho.wf, ho.le, ho.len, fun j hj => ⟨ho.ok j hj, by
          subst hj
          rw [Ar.middle_count h (l := f + 2) (by omega) (by rw [hl]; omega) (by omega) hx, he]⟩, ho.err⟩
      rw [Nat.add_comm f 1]
      refine Ar.does.bind hm' fun j B wB le hj => ?_
      refine (ih wB hj.1 (by rw [hj.2]; exact hc) (by omega)).mono (Nat.le_refl _) fun k B' _ _ ⟨e, h1, h2, h3, h4⟩ => ⟨e, by omega, h2, h3, by rw [h4, hj.2]⟩
theorem Ar.does_trim {A : Ar} {C : Plane} {f i : Nat} (h : A.wf) (hR : A.R (f + 1) i C) (hc : A.count i < 1152921504606846976) :
    A.does (A.trim i) f (fun j B => ∃ e, e ≤ f ∧ B.R (e + 1) j C ∧ Trimmed e C ∧ B.count j = A.count i) := by
  have hl := hR.w.lv
  have h44 := h.level_le i
  unfold Ar.trim
  rw [if_neg (by omega), show (A.level i).toNat - 3 = f by omega]
  exact Ar.does_trimL f h hR hc (by omega)
end Go.Proofs.YtnkdbpjmepfblaaGreatDoor

/- Squares: Fit. -/
namespace Go.Proofs.YtnkdbpjmepfblaaGreatDoor
open Go Go.RowKit

theorem Ar.R.self {A : Ar} {d i : Nat} (hl : A.level i = (d + 2 : Nat)) : ∃ C, A.R d i C := by
  refine ⟨A.plane d i (-((2 ^ (d + 1) : Nat) : Int)) (-((2 ^ (d + 1) : Nat) : Int)), Ar.W.self hl _ _, fun x y k hn => ?_⟩
  unfold Ar.plane
  rw [if_neg]
  intro hh
  refine hn ?_
  rw [pw2] at hh
  generalize 2 ^ (d + 1) = s at *
  omega
theorem Ar.expand_out {A B : Ar} (h : A.wf) {i j : Nat} (hl : 3 ≤ A.level i) (h44 : A.level i < 44) (he : A.expand i = some (.ok j, B)) : B.wf ∧ B.level j = A.level i + 1 := by
  obtain ⟨d, hd⟩ : ∃ d : Nat, A.level i = (d + 1 + 2 : Nat) := ⟨(A.level i).toNat - 3, by omega⟩
  obtain ⟨C, hC⟩ := Ar.R.self hd
  have ho := (Ar.does_expand h (by omega) hC).1 _ _ he
  refine ⟨ho.wf, ?_⟩
  have := (ho.ok j rfl).w.lv
  omega

set_option maxRecDepth 100000 in
set_option maxHeartbeats 1600000 in
theorem fit_w {w : World} {ab : Nat} {A : Ar} {o : List Nat} (h : AW w ab A o) (hwf : A.wf) (n : Nat) (hn : n < 4294967296) (lev : Int) (hlo : -9223372036854775808 ≤ lev) (hhi : lev ≤ 44) {r : Except Nat Nat} {A' : Ar} (hj : A.fit n lev = some (r, A')) :
    Calls Tryz.prog 23 #[.pointer (some ⟨ab, 0, none⟩), .int .u32 n, .int .i64 lev] w fun e w' => e = .returned (encR r) ∧ ∃ o', AW w' ab A' o' ∧ Fr w o w' o' := by
  have HAW := Lib.hid h
  have HJ := Lib.hid hj
  have HWF := Lib.hid hwf
  clear h hj hwf
  have hlv := HWF.out.level_le n
  have hlo3 := HWF.out.level_lo n
  go_enter Tryz.func23, Tryz.ntmps23
  go_wp2_with fail
  refine (level_w HAW.out n hn).mono ?_
  rintro e w' ⟨rfl, rfl⟩
  by_cases hl3 : A.level n < 3
  · go_wp2_with fail
    have hj := HJ.out
    unfold Ar.fit at hj
    rw [if_pos hl3] at hj
    obtain ⟨rfl, rfl⟩ : Except.error 4 = r ∧ A = A' := by simpa using hj
    go_ret2
    exact ⟨rfl, o, HAW.out, Fr.refl w o HAW.out.lt⟩
  have hj := HJ.out
  unfold Ar.fit at hj
  rw [if_neg hl3] at hj
  clear HJ
  have HJ := Lib.hid hj
  clear hj
  go_wp2_with fail
  go_loopw [1, 8] (fun v e wr => ∃ (A1 : Ar) (o1 : List Nat) (m : Nat), v = .int .u32 m ∧ m < 4294967296 ∧ AW wr ab A1 o1 ∧ Fr w o wr o1 ∧
      ((e = .nilIface ∧ A1.wf ∧ 3 ≤ A1.level m ∧ ∃ f : Nat, f = (lev - A1.level m).toNat ∧ A1.fitL f m = some (r, A')) ∨ (∃ c : Nat, e = .iface 42 (.int .i64 c) ∧ m = 0 ∧ r = .error c ∧ A1 = A')))
    (fun v e w => match e with | .nilIface => 1 + (lev - (lvOf w ab (intOf v).toNat : Nat)).toNat | _ => 0)
  case atStart =>
    exact ⟨A, o, n, rfl, hn, HAW.out, Fr.refl w o HAW.out.lt, .inl ⟨rfl, HWF.out, by omega, _, rfl, HJ.out⟩⟩
  case round =>
    clear HJ HAW HWF hlv hlo3 hl3 hn
    obtain ⟨A1, o1, m, rfl, hm, hAW, hF, hcase⟩ := hrel
    obtain ⟨W0, rfl⟩ : ∃ W0, W0 = wr := ⟨_, rfl⟩
    have HAW := Lib.hid hAW
    have HF := Lib.hid hF
    clear hAW hF
    rcases hcase with ⟨rfl, hwf, hl3, f, hf, hj⟩ | ⟨c, rfl, rfl, rfl, rfl⟩
    · have HWF := Lib.hid hwf
      have HJ := Lib.hid hj
      have HF0 := Lib.hid hf
      have hlv := hwf.level_le m
      clear hwf hj hf
      by_cases hlt : A1.level m < lev
      · obtain ⟨g, rfl⟩ : ∃ g, f = g + 1 := ⟨f - 1, by have := HF0.out; omega⟩
        have hj := HJ.out
        unfold Ar.fitL at hj
        obtain ⟨x, hx⟩ : ∃ x, x = A1.expand m := ⟨_, rfl⟩
        rw [← hx] at hj
        cases x with
        | none => cases hj
        | some ra =>
          obtain ⟨r1, A2⟩ := ra
          have hew := expand_w HAW.out (by have := HWF.out.elo; omega) m hm (by omega) hx.symm
          have HEW := Lib.hid hew
          have HX := Lib.hid hx
          have HJ2 := Lib.hid hj
          clear hew hx hj HJ
          go_wp2_with fail
          refine (level_w HAW.out m hm).mono ?_
          rintro e w' ⟨rfl, rfl⟩
          go_wp2_with fail
          refine HEW.out.mono ?_
          rintro e w2 ⟨rfl, o2, hAW2, hF2⟩
          have HAW2 := Lib.hid hAW2
          have HF2 := Lib.hid (HF.out.trans hF2)
          clear hAW2 hF2
          cases r1 with
          | error c =>
            have hj := HJ2.out
            simp only [mbind] at hj
            obtain ⟨rfl, rfl⟩ : Except.error c = r ∧ A2 = A' := by simpa using hj
            simp only [encR, errV]
            go_wp2_with fail
            refine ⟨⟨A2, o2, 0, rfl, by decide, HAW2.out, HF2.out, .inr ⟨c, rfl, rfl, rfl, rfl⟩⟩, ?_⟩
            show 0 < 1 + _
            omega
          | ok j =>
            have hjl : j < 4294967296 := by
              have h1 := Ar.expand_out HWF.out hl3 (by omega) HX.out.symm
              exact Nat.lt_trans (Ar.level_lt (by omega)) HAW2.out.len
            simp only [encR, okV]
            go_wp2_with fail
            have h1 := Ar.expand_out HWF.out hl3 (by omega) HX.out.symm
            have hf := HF0.out
            refine ⟨⟨A2, o2, j, rfl, hjl, HAW2.out, HF2.out, .inl ⟨rfl, h1.1, by omega, g, by omega, HJ2.out⟩⟩, ?_⟩
            show 1 + _ < 1 + _
            simp only [intOf, Int.toNat_natCast]
            rw [HAW2.out.lv, HAW.out.lv]
            omega
      · have hf0 : f = 0 := by have := HF0.out; omega
        have hj := HJ.out
        rw [hf0] at hj
        unfold Ar.fitL at hj
        obtain ⟨rfl, rfl⟩ : Except.ok m = r ∧ A1 = A' := by simpa using hj
        go_wp2_with fail
        refine (level_w HAW.out m hm).mono ?_
        rintro e w' ⟨rfl, rfl⟩
        go_wp2_with fail
        go_ret2
        exact ⟨rfl, o1, HAW.out, HF.out⟩
    · go_wp2_with fail
      have hlw := level_w HAW.out 0 hm
      simp only [Int.natCast_zero] at hlw
      refine hlw.mono ?_
      rintro e w' ⟨rfl, rfl⟩
      by_cases hlt : A1.level 0 < lev
      · go_wp2_with fail
        go_ret2
        exact ⟨rfl, o1, HAW.out, HF.out⟩
      · go_wp2_with fail
        go_ret2
        exact ⟨rfl, o1, HAW.out, HF.out⟩
end Go.Proofs.YtnkdbpjmepfblaaGreatDoor
