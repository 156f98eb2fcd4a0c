/- Texts of the walk and its plain law, merged: LwA, LwB, LfC, LfD, MapC, CntA. -/
import Derived.Test.YtnkdbpjmepfblaaGreatDoorM18
import Derived.Test.YtnkdbpjmepfblaaGreatDoorM16
/- Life in memory. -/
namespace Go.Proofs.YtnkdbpjmepfblaaGreatDoor
open Go Go.RowKit

/-- Where a life lies. -/
structure LI where
  lb : Nat
  ab : Nat
  mb : Nat
  mm : Nat
  km : Nat
  kb : Nat
  ko : List Nat
def LI.own (I : LI) (oA : List Nat) : List Nat := I.mb :: I.mm :: I.km :: oA
def LI.box (I : LI) : Obj := .cells #[.pointer (some ⟨I.ab, 0, none⟩), .pointer (some ⟨I.mb, 0, none⟩), .map (some I.km), .pointer (some ⟨I.kb, 0, none⟩)] 51
structure LW (w : World) (I : LI) (N : Kn) (S : Lf) (oA : List Nat) : Prop where
  hl : w.heap[I.lb]? = some I.box
  arena : AW w I.ab S.A oA
  memo : MemoW w I.mb I.mm I.kb N
  kern : KW w I.kb N I.ko
  known : MapL w rkVal I.km S.L
  good : N.good
  d1 : I.km ≠ I.mb ∧ I.km ≠ I.mm ∧ I.lb ≠ I.km ∧ I.lb ≠ I.mb ∧ I.lb ≠ I.mm
  d2 : I.lb ∉ oA ∧ I.mb ∉ oA ∧ I.mm ∉ oA ∧ I.km ∉ oA
  d3 : ∀ b ∈ I.ko, b ∉ oA ∧ b ≠ I.mb ∧ b ≠ I.mm ∧ b ≠ I.km
section
variable {w w' : World} {I : LI} {N : Kn} {S : Lf} {oA : List Nat}
theorem LW.lt (h : LW w I N S oA) : I.lb < w.heap.size ∧ I.mb < w.heap.size ∧ I.mm < w.heap.size ∧ I.km < w.heap.size :=
  ⟨heap_lt h.hl, h.memo.lt.1, h.memo.lt.2, h.known.lt⟩
theorem LW.ownLt (h : LW w I N S oA) : ∀ b ∈ I.own oA, b < w.heap.size := by
  intro b hb
  simp only [LI.own, List.mem_cons] at hb
  have := h.lt
  rcases hb with rfl | rfl | rfl | hb
  · exact this.2.1
  · exact this.2.2.1
  · exact this.2.2.2
  · exact h.arena.lt b hb
theorem LW.ext (h : LW w I N S oA) (hF : Fr w [] w' []) : LW w' I N S oA :=
  ⟨by rw [hF.keep _ h.lt.1 (by simp)]; exact h.hl, h.arena.ext hF, h.memo.ext hF, h.kern.ext hF, h.known.same (hF.keep _ h.lt.2.2.2 (by simp)), h.good, h.d1, h.d2, h.d3⟩
theorem LW.fr (h : LW w I N S oA) (hF : Fr w [] w' []) : Fr w (I.own oA) w' (I.own oA) := hF.widen h.ownLt
theorem LW.arena' (h : LW w I N S oA) {A' : Ar} {oA' : List Nat} (hA : AW w' I.ab A' oA') (hF : Fr w oA w' oA') : LW w' I N ⟨A', S.L⟩ oA' ∧ Fr w (I.own oA) w' (I.own oA') := by
  have hlt := h.lt
  have hno : ∀ b, b < w.heap.size → b ∉ oA → b ∉ oA' := fun b h1 h2 hm => by
    rcases hF.own b hm with h3 | h3
    · exact h2 h3
    · omega
  have hd2 := h.d2
  refine ⟨⟨by rw [hF.keep _ hlt.1 hd2.1]; exact h.hl, hA, h.memo.same (hF.keep _ hlt.2.1 hd2.2.1) (hF.keep _ hlt.2.2.1 hd2.2.2.1), h.kern.fr hF (fun b hb => (h.d3 b hb).1), h.known.same (hF.keep _ hlt.2.2.2 hd2.2.2.2), h.good, h.d1,
    ⟨hno _ hlt.1 hd2.1, hno _ hlt.2.1 hd2.2.1, hno _ hlt.2.2.1 hd2.2.2.1, hno _ hlt.2.2.2 hd2.2.2.2⟩, fun b hb => ⟨hno b (h.kern.lt b hb) (h.d3 b hb).1, (h.d3 b hb).2⟩⟩, ?_⟩
  refine ⟨hF.os, hF.tape, hF.output, hF.size, fun b hb hn => hF.keep b hb (fun hm => hn (by simp [LI.own, hm])), fun b hb => ?_, fun b hb => ?_⟩
  · simp only [LI.own, List.mem_cons] at hb ⊢
    rcases hb with rfl | rfl | rfl | hb
    · exact .inl (.inl rfl)
    · exact .inl (.inr (.inl rfl))
    · exact .inl (.inr (.inr (.inl rfl)))
    · rcases hF.own b hb with h1 | h1
      · exact .inl (.inr (.inr (.inr h1)))
      · exact .inr h1
  · simp only [LI.own, List.mem_cons] at hb
    have hs := hF.size
    rcases hb with rfl | rfl | rfl | hb
    · omega
    · omega
    · omega
    · exact hF.lt b hb
theorem LW.memo' (h : LW w I N S oA) (hM : MemoW w' I.mb I.mm I.kb N) (hF : Fr w [I.mb, I.mm] w' [I.mb, I.mm]) : LW w' I N S oA ∧ Fr w (I.own oA) w' (I.own oA) := by
  have hlt := h.lt
  have hd1 := h.d1
  have hd2 := h.d2
  have hk : ∀ b, b < w.heap.size → b ≠ I.mb → b ≠ I.mm → w'.heap[b]? = w.heap[b]? := fun b h1 h2 h3 => hF.keep b h1 (by simp [h2, h3])
  refine ⟨⟨by rw [hk _ hlt.1 hd1.2.2.2.1 hd1.2.2.2.2]; exact h.hl, h.arena.same (fun b hb => hk b (h.arena.lt b hb) (fun e => hd2.2.1 (e ▸ hb)) (fun e => hd2.2.2.1 (e ▸ hb))), hM,
    h.kern.keep hF.size (fun b hb => hk b (h.kern.lt b hb) (h.d3 b hb).2.1 (h.d3 b hb).2.2.1), h.known.same (hk _ hlt.2.2.2 hd1.1 hd1.2.1), h.good, hd1, hd2, h.d3⟩, ?_⟩
  refine ⟨hF.os, hF.tape, hF.output, hF.size, fun b hb hn => hF.keep b hb (fun hm => hn (by simp only [LI.own, List.mem_cons, List.not_mem_nil, or_false] at hm ⊢; rcases hm with h1 | h1 <;> simp [h1])), fun b hb => .inl hb, fun b hb => Nat.lt_of_lt_of_le (h.ownLt b hb) hF.size⟩
theorem LW.put' (h : LW w I N S oA) {o : Obj} {L' : List ((Nat × Nat) × Nat)} (hM : MapL (putObj w I.km o) rkVal I.km L') : LW (putObj w I.km o) I N ⟨S.A, L'⟩ oA ∧ Fr w (I.own oA) (putObj w I.km o) (I.own oA) := by
  have hlt := h.lt
  have hd1 := h.d1
  have hd2 := h.d2
  have hk : ∀ b, b ≠ I.km → (putObj w I.km o).heap[b]? = w.heap[b]? := fun b hb => putObj_ne w o hb
  refine ⟨⟨by rw [hk _ hd1.2.2.1]; exact h.hl, h.arena.same (fun b hb => hk b (fun e => hd2.2.2.2 (e ▸ hb))), h.memo.same (hk _ (fun e => hd1.1 e.symm)) (hk _ (fun e => hd1.2.1 e.symm)),
    h.kern.keep (by rw [putObj_size]; exact Nat.le_refl _) (fun b hb => hk b (h.d3 b hb).2.2.2), hM, h.good, hd1, hd2, h.d3⟩, (Fr.refl w _ h.ownLt).put (.inl (by simp [LI.own])) o⟩
theorem LW.c (h : LW w I N S oA) : w.cell? ⟨I.lb, 0, none⟩ = some (.pointer (some ⟨I.ab, 0, none⟩)) ∧ w.cell? ⟨I.lb, 1, none⟩ = some (.pointer (some ⟨I.mb, 0, none⟩)) ∧
    w.cell? ⟨I.lb, 2, none⟩ = some (.map (some I.km)) ∧ w.cell? ⟨I.lb, 3, none⟩ = some (.pointer (some ⟨I.kb, 0, none⟩)) := by
  refine ⟨?_, ?_, ?_, ?_⟩ <;> rw [cell_of_heap h.hl] <;> rfl
end
end Go.Proofs.YtnkdbpjmepfblaaGreatDoor

/- Life: leaves. -/
namespace Go.Proofs.YtnkdbpjmepfblaaGreatDoor
open Go Go.RowKit

/-- The worlds in which the life is as it is. -/
abbrev LC (w : World) (I : LI) (N : Kn) (S : Lf) (oA : List Nat) : Type := Cls (fun x => LW x I N S oA ∧ Fr w (I.own oA) x (I.own oA))
theorem Calls.lc {f : FuncId} {args : Array Value} {w : World} {I : LI} {N : Kn} {S : Lf} {oA : List Nat} {y : LC w I N S oA} {v : Value}
    (h : Calls Tryz.prog f args y.x fun e w' => e = .returned v ∧ LW w' I N S oA ∧ Fr y.x (I.own oA) w' (I.own oA)) :
    Calls Tryz.prog f args y.x fun e w' => e = .returned v ∧ ∃ z : LC w I N S oA, w' = z.x :=
  h.mono fun _ w' ⟨he, hL, hf⟩ => ⟨he, ⟨w', hL, y.h.2.trans hf⟩, rfl⟩
theorem Calls.lcF {f : FuncId} {args : Array Value} {w : World} {I : LI} {N : Kn} {S : Lf} {oA : List Nat} {y : LC w I N S oA} {v : Value}
    (h : Calls Tryz.prog f args y.x fun e w' => e = .returned v ∧ Fr y.x [] w' []) :
    Calls Tryz.prog f args y.x fun e w' => e = .returned v ∧ ∃ z : LC w I N S oA, w' = z.x :=
  Calls.lc (h.mono fun _ _ ⟨he, hf⟩ => ⟨he, y.h.1.ext hf, y.h.1.fr hf⟩)
theorem Calls.lcS {f : FuncId} {args : Array Value} {w : World} {I : LI} {N : Kn} {S : Lf} {oA : List Nat} {y : LC w I N S oA} {v : Value}
    (h : Calls Tryz.prog f args y.x fun e w' => e = .returned v ∧ y.x = w') :
    Calls Tryz.prog f args y.x fun e w' => e = .returned v ∧ ∃ z : LC w I N S oA, w' = z.x :=
  h.mono fun _ _ ⟨he, hf⟩ => ⟨he, y, hf.symm⟩
/-- What an operation on the life's arena leaves. -/
def LPost (w : World) (I : LI) (N : Kn) (S' : Lf) (oA : List Nat) (w' : World) : Prop := ∃ oA', LW w' I N S' oA' ∧ Fr w (I.own oA) w' (I.own oA')
set_option maxRecDepth 100000 in
set_option maxHeartbeats 1600000 in
theorem leavesL_w {w : World} {I : LI} {N : Kn} {S : Lf} {oA : List Nat} (h : LW w I N S oA) (i : Nat) (hi : i < 4294967296) (hl : S.A.level i = 3) (e : Nat) (he : e ≤ 1) {r : Except Nat Nat} {A' : Ar}
    (hj : S.A.leaf (leafRes N (S.A.quarters i) (2 ^ e)) = some (r, A')) :
    Calls Tryz.prog 154 #[.pointer (some ⟨I.lb, 0, none⟩), .int .u32 i, .int .i64 e] w fun e w' => e = .returned (encR r) ∧ LPost w I N ⟨A', S.L⟩ oA w' := by
  have HQ := Lib.hid (S.A.quarters_ok h.arena.good i)
  have hLY : ∀ y : LC w I N S oA, LW y.x I N S oA := fun y => y.h.1
  have HLY := Lib.hid hLY
  have HL := Lib.hid hl
  have HJ := Lib.hid hj
  have hc0 : ∀ y : LC w I N S oA, y.x.cell? ⟨I.lb, 0, none⟩ = some (.pointer (some ⟨I.ab, 0, none⟩)) := fun y => (HLY.out y).c.1
  have hc1 : ∀ y : LC w I N S oA, y.x.cell? ⟨I.lb, 1, none⟩ = some (.pointer (some ⟨I.mb, 0, none⟩)) := fun y => (HLY.out y).c.2.1
  have h187 : ∀ y : LC w I N S oA, Calls Tryz.prog 187 #[.pointer (some ⟨I.ab, 0, none⟩), .int .u32 i] y.x fun e w' => e = .returned (S.A.quarters i).val ∧ ∃ z : LC w I N S oA, w' = z.x := fun y =>
    Calls.lcF (leaves_w (HLY.out y).arena i hi HL.out)
  have h186 : ∀ (n : Nat), 1 ≤ n → n ≤ 2 → ∀ y : LC w I N S oA, Calls Tryz.prog 186 #[.pointer (some ⟨I.mb, 0, none⟩), (S.A.quarters i).val, .int .i64 n] y.x fun e w' => e = .returned (.int .u32 (leafRes N (S.A.quarters i) n)) ∧ ∃ z : LC w I N S oA, w' = z.x := fun n h1 h2 y =>
    Calls.lc ((memo_c (HLY.out y).memo (HLY.out y).kern ⟨fun hm => ((HLY.out y).d3 _ hm).2.1 rfl, fun hm => ((HLY.out y).d3 _ hm).2.2.1 rfl⟩ _ HQ.out n h1 h2).mono fun _ _ ⟨he, hM, hF⟩ => ⟨he, (HLY.out y).memo' hM hF⟩)
  have H187 := Lib.hid h187
  have H186 := Lib.hid h186
  have HLW := Lib.hid h
  haveI : Nonempty (LC w I N S oA) := ⟨⟨w, h, h.fr (Fr.nil w)⟩⟩
  clear hLY hl h187 h186 h hj
  have hc : e = 0 ∨ e = 1 := by omega
  rcases hc with rfl | rfl
  · have HM := Lib.hid (H186.out 1 (by decide) (by decide))
    simp only [show ((0 : Nat) : Int) = 0 from rfl]
    go_enter Tryz.func154, Tryz.ntmps154
    go_wp2_with fail
    refine wp_region_one' 17 (by kernel_rfl) (by kernel_rfl) (LC w I N S oA) Cls.x ⟨⟨_, HLW.out.ext (Fr.nil w).drew, HLW.out.fr (Fr.nil w).drew⟩, rfl⟩ ?_
    simp only [List.take_succ_cons, List.take_zero, List.drop_succ_cons, List.drop_zero]
    repeat (go_big_quiet_step (first | (go_at_call 187; exact H187.out _) | (go_at_call 186; exact HM.out _)))
    refine wpQuiet_nil ?_
    intro y
    have hll := leafRes_lt N (S.A.quarters i) 1
    have HLF := Lib.hid (leaf_w (HLY.out y).arena _ (leafRes_lt N (S.A.quarters i) 1) HJ.out)
    have HY2 := Lib.hid y.h.2
    have HY1 := Lib.hid y.h.1
    clear hc0 hc1
    go_wp2_with fail
    refine HLF.out.mono ?_
    rintro e w5 ⟨rfl, o', h1, h2⟩
    have hq : LPost w I N ⟨A', S.L⟩ oA w5 := ⟨o', (HY1.out.arena' h1 h2).1, HY2.out.trans (HY1.out.arena' h1 h2).2⟩
    clear h1 h2
    cases r with
    | ok k =>
      simp only [encR, okV]
      go_wp2_with fail
      repeat (go_big_quiet_step (fail))
      refine wpQuiet_nil ?_
      go_wp2_with fail
      go_ret2
      exact ⟨rfl, hq⟩
    | error c =>
      simp only [encR, errV]
      go_wp2_with fail
      repeat (go_big_quiet_step (fail))
      refine wpQuiet_nil ?_
      go_wp2_with fail
      go_ret2
      exact ⟨rfl, hq⟩
  · have HM := Lib.hid (H186.out 2 (by decide) (by decide))
    simp only [show ((1 : Nat) : Int) = 1 from rfl]
    go_enter Tryz.func154, Tryz.ntmps154
    go_wp2_with fail
    refine wp_region_one' 17 (by kernel_rfl) (by kernel_rfl) (LC w I N S oA) Cls.x ⟨⟨_, HLW.out.ext (Fr.nil w).drew, HLW.out.fr (Fr.nil w).drew⟩, rfl⟩ ?_
    simp only [List.take_succ_cons, List.take_zero, List.drop_succ_cons, List.drop_zero]
    repeat (go_big_quiet_step (first | (go_at_call 187; exact H187.out _) | (go_at_call 186; exact HM.out _)))
    refine wpQuiet_nil ?_
    intro y
    have hll := leafRes_lt N (S.A.quarters i) 2
    have HLF := Lib.hid (leaf_w (HLY.out y).arena _ (leafRes_lt N (S.A.quarters i) 2) HJ.out)
    have HY2 := Lib.hid y.h.2
    have HY1 := Lib.hid y.h.1
    clear hc0 hc1
    go_wp2_with fail
    refine HLF.out.mono ?_
    rintro e w5 ⟨rfl, o', h1, h2⟩
    have hq : LPost w I N ⟨A', S.L⟩ oA w5 := ⟨o', (HY1.out.arena' h1 h2).1, HY2.out.trans (HY1.out.arena' h1 h2).2⟩
    clear h1 h2
    cases r with
    | ok k =>
      simp only [encR, okV]
      go_wp2_with fail
      repeat (go_big_quiet_step (fail))
      refine wpQuiet_nil ?_
      go_wp2_with fail
      go_ret2
      exact ⟨rfl, hq⟩
    | error c =>
      simp only [encR, errV]
      go_wp2_with fail
      repeat (go_big_quiet_step (fail))
      refine wpQuiet_nil ?_
      go_wp2_with fail
      go_ret2
      exact ⟨rfl, hq⟩
end Go.Proofs.YtnkdbpjmepfblaaGreatDoor

/- What is true of each outcome of Result, whatever the plane. -/
namespace Go.Proofs.YtnkdbpjmepfblaaGreatDoor
open Go

def FT : Fam := fun _ _ _ _ => True
theorem Al.FT (C : Plane) : Al FT C := fun _ _ _ _ _ => trivial
structure Lf.next {α : Type} (N : Kn) (S : Lf) (r : Except Nat α) (S' : Lf) (P : α → Prop) : Prop where
  valid : S'.valid N
  le : S.A.le S'.A
  ok : ∀ j, r = .ok j → P j
theorem Lf.goes.next {N : Kn} {α : Type} {S : Lf} {x : Option (Except Nat α × Lf)} {P : α → Lf → Prop} (h : S.goes N x FT P) {r : Except Nat α} {S' : Lf} (hx : x = some (r, S')) : S.next N r S' (fun j => P j S') := by
  cases r with
  | ok j =>
    obtain ⟨h1, h2, h3⟩ := h.fine j S' hx
    exact ⟨h2, h1.le, fun k hk => by injection hk with hk; exact hk ▸ h3⟩
  | error c =>
    obtain ⟨h1, h2, _⟩ := h.err c S' hx
    exact ⟨h2, h1.le, fun k hk => by cases hk⟩
theorem Lf.next.mono {α : Type} {N : Kn} {S S' : Lf} {r : Except Nat α} {P Q : α → Prop} (h : S.next N r S' P) (hPQ : ∀ j, P j → Q j) : S.next N r S' Q := ⟨h.valid, h.le, fun j hj => hPQ j (h.ok j hj)⟩
theorem dvd_zero0 (d : Nat) : ((2 ^ d : Nat) : Int) ∣ 0 := Int.dvd_zero _
theorem resF_next {N : Kn} (hN : N.good) {S : Lf} (hv : S.valid N) {d i e : Nat} (hl : S.A.level i = (d + 3 : Nat)) (he : e ≤ d + 1) {r : Except Nat Nat} {S' : Lf} (hx : resF N d i e S = some (r, S')) : S.next N r S' (fun j => S'.A.level j = (d + 2 : Nat)) := by
  have h44 := hv.wf.level_le i
  exact ((resF_goes hN (F := FT) d hv (Ar.W.self (d := d + 1) hl 0 0) he (by omega) (dvd_zero0 _) (dvd_zero0 _) (fun _ _ => Al.FT _)).next hx).mono fun j hj => hj.lv
theorem centre_next {N : Kn} {S : Lf} (hv : S.valid N) {d i : Nat} (hl : S.A.level i = (d + 3 : Nat)) {r : Except Nat Nat} {S' : Lf} (hx : S.up (S.A.centre i) = some (r, S')) : S.next N r S' (fun j => S'.A.level j = (d + 2 : Nat)) := by
  have h44 := hv.wf.level_le i
  exact ((Lf.goes_up (N := N) hv (Ar.goes_centre hv.wf (F := FT) (Al.FT _) (by omega) (dvd_zero0 _) (dvd_zero0 _) (Ar.W.self (d := d + 1) hl 0 0))).next hx).mono fun j hj => hj.1.lv
theorem nine_next {N : Kn} {S : Lf} (hv : S.valid N) {d i : Nat} (hl : S.A.level i = (d + 4 : Nat)) {r : Except Nat (List Nat)} {S' : Lf} (hx : S.up (S.A.nine i) = some (r, S')) :
    S.next N r S' (fun l => l.length = 9 ∧ ∀ k ∈ l, S'.A.level k = (d + 3 : Nat)) := by
  have h44 := hv.wf.level_le i
  refine ((Lf.goes_up (N := N) hv (Ar.goes_nine hv.wf (F := FT) (Al.FT _) (d := d) (by omega) (dvd_zero0 _) (dvd_zero0 _) (Ar.W.self (d := d + 2) hl 0 0))).next hx).mono fun l hl => ⟨hl.1.1, fun k hk => ?_⟩
  obtain ⟨t, ht⟩ := List.getElem?_of_mem hk
  have h9 := (List.getElem?_eq_some_iff.1 ht).1
  have := (hl.1.2 t (by have := hl.1.1; omega)).lv
  rw [List.getD_eq_getElem?_getD, ht] at this
  exact this
theorem join_next {N : Kn} {S : Lf} (hv : S.valid N) {d : Nat} {K : K4} (h44 : d + 2 < 44) (hK : ∀ t, t < 4 → S.A.level (K.k t) = (d + 2 : Nat)) {r : Except Nat Nat} {S' : Lf} (hx : S.up (S.A.join K) = some (r, S')) :
    S.next N r S' (fun j => S'.A.level j = (d + 3 : Nat)) := by
  have hg : S.A.goes (S.A.join K) FT (fun i B => B.nodes[i]? = some (S.A.joinNd K (d + 2))) := by
    rw [Ar.join_eq h44 hK]
    have hW : ∀ (A : Ar) (i : Nat), (∃ n, A.nodes[i]? = some n ∧ n.lv = d + 3) → A.fam FT i := fun A i ⟨n, h1, h2⟩ =>
      .inr ⟨d + 1, A.plane (d + 1) i 0 0, 0, 0, trivial, Ar.W.self (by rw [Ar.level_get h1, h2]) 0 0⟩
    exact Ar.goes_find (key := ⟨d + 2 + 1, 0, K.a, K.b, K.c, K.d⟩) (c := S.A.sum K 4) hv.wf (Ar.joinOk (Nat.le_of_lt hv.wf.len) (by omega) h44 hK) (fun i B _ _ hi => hW B i ⟨_, hi, rfl⟩)
  exact ((Lf.goes_up (N := N) hv hg).next hx).mono fun j hj => by rw [Ar.level_get hj.1]; rfl
theorem Ar.level_lt' {A : Ar} (h : A.wf) {i : Nat} {d : Nat} (hl : A.level i = (d : Nat)) : i < 4294967296 := by
  have h1 : i < A.nodes.length := Ar.level_lt (by omega)
  have := h.len
  omega
theorem Ar.le.level' {A B : Ar} (h : A.le B) {i d : Nat} (hl : A.level i = (d : Nat)) : B.level i = (d : Nat) := by
  rw [h.level (Ar.level_lt (by omega))]; exact hl
theorem gbind_some {σ α β : Type} {x : Option (Except Nat α × σ)} {f : α → σ → Option (Except Nat β × σ)} {r : Except Nat β} {S' : σ} (h : gbind x f = some (r, S')) :
    (∃ c, x = some (.error c, S') ∧ r = .error c) ∨ ∃ j T, x = some (.ok j, T) ∧ f j T = some (r, S') := by
  match x, h with
  | some (.ok j, T), h => exact .inr ⟨j, T, rfl, h⟩
  | some (.error c, T), h =>
    simp only [gbind, Option.some.injEq, Prod.mk.injEq] at h
    obtain ⟨rfl, rfl⟩ := h
    exact .inl ⟨c, rfl, rfl⟩
theorem partsL_next {N : Kn} {d : Nat} {f : Nat → Lf → Option (Except Nat Nat × Lf)}
    (hf : ∀ (k : Nat) (T : Lf) (r : Except Nat Nat) (T1 : Lf), T.valid N → T.A.level k = (d + 3 : Nat) → f k T = some (r, T1) → T.next N r T1 (fun j => T1.A.level j = (d + 2 : Nat))) :
    ∀ (ks acc : List Nat) (T : Lf) (r : Except Nat (List Nat)) (S' : Lf), T.valid N → (∀ k ∈ ks, T.A.level k = (d + 3 : Nat)) → (∀ k ∈ acc, T.A.level k = (d + 2 : Nat)) → partsL f ks acc T = some (r, S') →
      T.next N r S' (fun l => l.length = acc.length + ks.length ∧ ∀ k ∈ l, S'.A.level k = (d + 2 : Nat)) := by
  intro ks
  induction ks with
  | nil =>
    intro acc T r S' hv _ ha h
    simp only [partsL, Option.some.injEq, Prod.mk.injEq] at h
    obtain ⟨rfl, rfl⟩ := h
    exact ⟨hv, .refl _, fun j hj => by injection hj with hj; subst hj; exact ⟨rfl, ha⟩⟩
  | cons k ks ih =>
    intro acc T r S' hv hk ha h
    simp only [partsL] at h
    rcases gbind_some h with ⟨c, h1, rfl⟩ | ⟨j, T1, h1, h2⟩
    · have hn := hf k T _ _ hv (hk k (by simp)) h1
      exact ⟨hn.valid, hn.le, fun j hj => by cases hj⟩
    · have hn := hf k T _ _ hv (hk k (by simp)) h1
      have := ih (acc ++ [j]) T1 r S' hn.valid (fun k' hk' => hn.le.level' (hk k' (by simp [hk']))) (fun k' hk' => by
        rcases List.mem_append.1 hk' with h3 | h3
        · exact hn.le.level' (ha k' h3)
        · obtain rfl : k' = j := by simpa using h3
          exact hn.ok _ rfl) h2
      exact ⟨this.valid, hn.le.trans this.le, fun l hl => by have := this.ok l hl; exact ⟨by rw [this.1]; simp; omega, this.2⟩⟩
theorem parts_next {N : Kn} (hN : N.good) {S : Lf} (hv : S.valid N) {d i e : Nat} (hl : S.A.level i = (d + 4 : Nat)) (_he : e ≤ d + 2) {r : Except Nat (List Nat)} {S' : Lf}
    (hx : S.parts i (decide (e = d + 2)) (fun k T => resF N d k (if e = d + 2 then e - 1 else e) T) = some (r, S')) : S.next N r S' (fun l => l.length = 9 ∧ ∀ k ∈ l, S'.A.level k = (d + 2 : Nat)) := by
  unfold Lf.parts at hx
  rcases gbind_some hx with ⟨c, h1, rfl⟩ | ⟨l, T, h1, h2⟩
  · have hn := nine_next hv hl h1
    exact ⟨hn.valid, hn.le, fun j hj => by cases hj⟩
  · have hn := nine_next hv hl h1
    have h9 := hn.ok l rfl
    have := partsL_next (N := N) (d := d) (f := partF (decide (e = d + 2)) (fun k T => resF N d k (if e = d + 2 then e - 1 else e) T)) (fun k T r1 T1 hT hk hf => by
      unfold partF at hf
      by_cases hfull : e = d + 2
      · simp only [hfull, decide_true, if_true] at hf
        exact resF_next hN hT hk (by omega) hf
      · simp only [decide_eq_false hfull, Bool.false_eq_true, if_false] at hf
        exact centre_next hT hk hf) l [] T r S' hn.valid h9.2 (by simp) h2
    exact ⟨this.valid, hn.le.trans this.le, fun l' hl' => by have h3 := this.ok l' hl'; exact ⟨by rw [h3.1, h9.1]; rfl, h3.2⟩⟩
end Go.Proofs.YtnkdbpjmepfblaaGreatDoor

/- Leap and Jump as data. -/
namespace Go.Proofs.YtnkdbpjmepfblaaGreatDoor
open Go

def leapLev (A : Ar) (j e : Nat) : Nat := max (A.level j).toNat (e + 1) + 2
def leapF (N : Kn) (i e : Nat) (S : Lf) : Option (Except Nat Nat × Lf) :=
  gbind (S.up (S.A.trim i)) fun j T =>
    if T.A.count j = 0 then some (.ok j, T) else if 44 < leapLev T.A j e then some (.error 7, T) else
      gbind (T.up (T.A.fit j (leapLev T.A j e : Nat))) fun k U => gbind (resF N (leapLev T.A j e - 3) k e U) fun m V => V.up (V.A.trim m)
/-- The bits of n from e on, f of them. -/
def jumpL (N : Kn) (n : Nat) : Nat → Nat → Nat → Lf → Option (Except Nat Nat × Lf)
  | 0, _, i, S => some (.ok i, S)
  | f + 1, e, i, S => if n / 2 ^ e = 0 then some (.ok i, S) else
      gbind (if n / 2 ^ e % 2 = 1 then leapF N i e S else some (.ok i, S)) fun j T => jumpL N n f (e + 1) j T
def jumpF (N : Kn) (i n : Nat) (S : Lf) : Option (Except Nat Nat × Lf) := gbind (S.up (S.A.trim i)) fun j T => jumpL N n 21 0 j T

theorem trim_next {N : Kn} {S : Lf} (hv : S.valid N) {i : Nat} (hl : 3 ≤ S.A.level i) (hc : S.A.count i < 1152921504606846976) {r : Except Nat Nat} {S' : Lf} (hx : S.up (S.A.trim i) = some (r, S')) : S.next N r S' (fun j => 3 ≤ S'.A.level j ∧ S'.A.count j = S.A.count i) := by
  have h44 := hv.wf.level_le i
  obtain ⟨f, hf⟩ : ∃ f : Nat, S.A.level i = (f + 1 + 2 : Nat) := ⟨(S.A.level i).toNat - 3, by omega⟩
  obtain ⟨C, hC⟩ := Ar.R.self hf
  exact ((Lf.goes_up (N := N) hv (Ar.goes_trim (F := FT) (Al.FT C) hv.wf hC hc)).next hx).mono fun j hj => by
    obtain ⟨⟨e, _, h1, _, h2⟩, _⟩ := hj
    have := h1.w.lv
    exact ⟨by omega, h2⟩
theorem fit_next {N : Kn} {S : Lf} (hv : S.valid N) {i lev : Nat} (hl : 3 ≤ S.A.level i) (h2 : S.A.level i ≤ lev) (h44 : lev ≤ 44) {r : Except Nat Nat} {S' : Lf} (hx : S.up (S.A.fit i (lev : Int)) = some (r, S')) : S.next N r S' (fun j => S'.A.level j = (lev : Nat)) := by
  obtain ⟨f, hf⟩ : ∃ f : Nat, S.A.level i = (f + 1 + 2 : Nat) := ⟨(S.A.level i).toNat - 3, by omega⟩
  obtain ⟨C, hC⟩ := Ar.R.self hf
  exact ((Lf.goes_up (N := N) hv (Ar.goes_fit (F := FT) (Al.FT C) hv.wf hC h44 (by omega))).next hx).mono fun j hj => by
    have := hj.1.w.lv
    omega
end Go.Proofs.YtnkdbpjmepfblaaGreatDoor

/- The keys of leaves: points. -/
namespace Go.Proofs.YtnkdbpjmepfblaaGreatDoor
open Go

def pkVal (p : Int × Int) : Value := .agg #[.int .i64 p.1, .int .i64 p.2]
theorem pk_keys : KeyL Tryz.prog 65 (Int × Int) pkVal where
  now := ⟨_, by exact show Tryz.prog.underlying 65 = some (.struct (Tryz.prog.fieldsOf 65)) by kernel_rfl, fun x y => rfl⟩
  eq := fun w x y => by
    have f0 : Tryz.prog.stoodInHeld 65 = false := by kernel_rfl
    have hS : Tryz.prog.underlying 65 = some (.struct (Tryz.prog.fieldsOf 65)) := by kernel_rfl
    have u2 := Tryz.underlying2
    have z2 := Tryz.sizeOf2
    have ag2 := Tryz.isAgg2
    show (Op.equalIn (9999 + 1) 65 (pkVal x) (pkVal y)).run Tryz.prog w = _
    unfold pkVal
    rw [run_equalIn_agg w 9999 65 _ _ hS f0]
    simp only [Program.fieldsOf, Tryz.underlying65]
    obtain ⟨x1, x2⟩ := x
    obtain ⟨y1, y2⟩ := y
    go_simp
    by_cases g0 : x1 = y1 <;> by_cases g1 : x2 = y2 <;> simp [g0, g1]
  chk := fun w em x => by
    unfold pkVal
    have c2 : ∀ (w : World) (a : Int), (Instr.checkKey em 9999 2 (.int .i64 a)).run Tryz.prog w = .ok () w := fun w a => MapKept.run_checkKey Tryz.underlying2 (by simp [MapKept.IsKey]) em 9998
    rw [show (10000 : Nat) = 9999 + 1 from rfl, Instr.checkKey]
    have z2 := Tryz.sizeOf2
    have ag2 := Tryz.isAgg2
    simp [run_underlying Tryz.underlying65, Sem.run_bind, Result.andThen, part, c2, ag2]
  stays := fun w x => by
    have : Instr.sameBits 10000 (pkVal x) (pkVal x) = true := by
      rw [show (10000 : Nat) = 9999 + 1 from rfl]
      simp [pkVal, Instr.sameBits]
    simp [Instr.keyThatStays, this]
theorem MapL.look1 {P : Program} {kT : TypeId} {κ : Type} [DecidableEq κ] {val : κ → Value} {w : World} {B : Nat} {L : List (κ × Nat)} (h : MapL w val B L) (K : KeyL P kT κ val) {t e : TypeId} (ht : P.underlying t = some (.map kT e)) (hz : ∀ w, (zeroValue e).run P w = .ok (.int .u32 0) w) (x : κ) :
    (Instr.lookup t (.map (some B)) (val x) false).run P w = .ok (.int .u32 (((lookL L x).getD 0 : Nat) : Int)) w := by
  obtain ⟨es, clock, h1, h2, _⟩ := h
  obtain ⟨r, hr, hc⟩ := findKey_run K w x es.toList L h2
  rcases hc with ⟨rfl, a2, _⟩ | ⟨j, v, rfl, a2, _⟩
  · simp [Instr.lookup, run_underlying ht, MapKept.run_getObj_map h1, K.chk, hr, hz, a2, Sem.run_bind, Result.andThen]
  · simp [Instr.lookup, run_underlying ht, MapKept.run_getObj_map h1, K.chk, hr, a2, Sem.run_bind, Result.andThen]
theorem und144 : ∃ e, Tryz.prog.underlying 144 = some (.map 65 e) ∧ ∀ w, (zeroValue e).run Tryz.prog w = .ok (.int .u32 0) w := ⟨150, by kernel_rfl, zero150⟩
end Go.Proofs.YtnkdbpjmepfblaaGreatDoor

/- Few nodes: distinct windows are counted; the cells of a node in a box. -/
namespace Go.Proofs.YtnkdbpjmepfblaaGreatDoor
open Go

theorem pigeon {α β : Type} (R : α → β → Prop) (h2 : ∀ a a' b, R a b → R a' b → a = a') : ∀ (l : List α) (K : List β), l.Nodup → (∀ a ∈ l, ∃ b ∈ K, R a b) → l.length ≤ K.length
  | [], _, _, _ => Nat.zero_le _
  | a :: l, K, hn, h1 => by
    obtain ⟨b, hb, hab⟩ := h1 a (by simp)
    obtain ⟨s, t, rfl⟩ := List.append_of_mem hb
    have hn' := List.nodup_cons.1 hn
    have := pigeon R h2 l (s ++ t) hn'.2 (fun a' ha' => by
      obtain ⟨b', hb', hab'⟩ := h1 a' (by simp [ha'])
      refine ⟨b', ?_, hab'⟩
      rcases List.mem_append.1 hb' with h | h
      · exact List.mem_append.2 (.inl h)
      · rcases List.mem_cons.1 h with rfl | h
        · have e := h2 _ _ _ hab' hab
          subst e
          exact absurd ha' hn'.1
        · exact List.mem_append.2 (.inr h))
    simp only [List.length_append, List.length_cons] at this ⊢
    omega

abbrev Wk := Nat × Plane × Int × Int
/-- The windows of a family in which something lives are at most n. -/
def Fam.few (F : Fam) (n : Nat) : Prop := ∃ K : List Wk, K.length ≤ n ∧ ∀ d C a b, F d C a b → d ≤ 42 → (∃ x y k : Nat, x < 2 ^ (d + 2) ∧ y < 2 ^ (d + 2) ∧ k < 2 ∧ C (a + x) (b + y) k = true) → (d, C, a, b) ∈ K
def Fam.or (F G : Fam) : Fam := fun d C a b => F d C a b ∨ G d C a b
theorem Fam.few.or {F G : Fam} {n m : Nat} (h : Fam.few F n) (k : Fam.few G m) : Fam.few (Fam.or F G) (n + m) := by
  obtain ⟨K, h1, h2⟩ := h
  obtain ⟨L, k1, k2⟩ := k
  refine ⟨K ++ L, by simp; omega, fun d C a b hF hd hx => ?_⟩
  rcases hF with hF | hF
  · exact List.mem_append.2 (.inl (h2 d C a b hF hd hx))
  · exact List.mem_append.2 (.inr (k2 d C a b hF hd hx))
theorem Fam.few.mono {F G : Fam} {n m : Nat} (h : Fam.few F n) (hGF : ∀ d C a b, G d C a b → F d C a b) (hnm : n ≤ m) : Fam.few G m := by
  obtain ⟨K, h1, h2⟩ := h
  exact ⟨K, by omega, fun d C a b hF => h2 d C a b (hGF d C a b hF)⟩
theorem Ar.wf.level_ge {A : Ar} (h : A.wf) {i : Nat} (hi : i < A.nodes.length) : 2 ≤ A.level i := by
  obtain ⟨m, hm⟩ : ∃ m, A.nodes[i]? = some m := ⟨_, List.getElem?_eq_getElem hi⟩
  rw [Ar.level_get hm]
  rcases (h.nodes i m hm).2 with ⟨a1, _⟩ | ⟨a1, _⟩ <;> omega
/-- All nodes that are new: few. -/
theorem Ar.step.count {A B : Ar} {F : Fam} (h : A.step F B) {n : Nat} (hF : Fam.few F n) : B.nodes.length ≤ A.nodes.length + 45 + n := by
  obtain ⟨K, hK, hmem⟩ := hF
  have hle := h.le.len
  have hinj : ∀ a a' (b : Nat ⊕ Wk), (match b with | .inl v => B.level a = (v : Nat) ∧ 2 ≤ v ∧ B.count a = 0 | .inr q => B.W q.1 a q.2.1 q.2.2.1 q.2.2.2) →
      (match b with | .inl v => B.level a' = (v : Nat) ∧ 2 ≤ v ∧ B.count a' = 0 | .inr q => B.W q.1 a' q.2.1 q.2.2.1 q.2.2.2) → a = a' := by
    intro a a' b h1 h2
    cases b with
    | inl v =>
      simp only at h1 h2
      obtain ⟨d, rfl⟩ : ∃ d, v = d + 2 := ⟨v - 2, by omega⟩
      exact h.wf.canon d h1.1 h2.1 fun x y k hx hy hk => by
        rw [(h.wf.empty_iff d h1.1).1 h1.2.2 x y k hx hy hk, (h.wf.empty_iff d h2.1).1 h2.2.2 x y k hx hy hk]
    | inr q =>
      simp only at h1 h2
      exact h1.inj h.wf h2 fun _ _ _ _ _ _ => rfl
  have := pigeon (fun (a : Nat) (b : Nat ⊕ Wk) => match b with | .inl v => B.level a = (v : Nat) ∧ 2 ≤ v ∧ B.count a = 0 | .inr q => B.W q.1 a q.2.1 q.2.2.1 q.2.2.2) hinj
    ((List.range (B.nodes.length - A.nodes.length)).map (A.nodes.length + ·)) ((List.range 45).map Sum.inl ++ K.map Sum.inr)
    (List.pairwise_map.2 (List.Pairwise.imp (fun h => by omega) List.nodup_range)) (fun j hj => by
      obtain ⟨t, ht, rfl⟩ := List.mem_map.1 hj
      have ht' := List.mem_range.1 ht
      have hjl : A.nodes.length + t < B.nodes.length := by omega
      have hl2 := h.wf.level_ge hjl
      have hl44 := h.wf.level_le (A.nodes.length + t)
      by_cases hc : B.count (A.nodes.length + t) = 0
      · refine ⟨.inl (B.level (A.nodes.length + t)).toNat, ?_, by omega, by omega, hc⟩
        exact List.mem_append.2 (.inl (List.mem_map.2 ⟨_, List.mem_range.2 (by omega), rfl⟩))
      · rcases h.fam _ (Nat.le_add_right _ _) hjl with h0 | ⟨d, C, a, b, h1, h2⟩
        · exact absurd h0 hc
        · refine ⟨.inr (d, C, a, b), List.mem_append.2 (.inr (List.mem_map.2 ⟨_, hmem d C a b h1 ?_ ?_, rfl⟩)), h2⟩
          · have := h2.lv; omega
          · refine Classical.byContradiction fun hno => hc ((h2.isEmpty h.wf).2 fun x y k hx hy hk => ?_)
            cases hC : C (a + x) (b + y) k with
            | false => rfl
            | true => exact absurd ⟨x, y, k, hx, hy, hk, hC⟩ hno)
  simp only [List.length_map, List.length_range, List.length_append] at this
  omega

/-- All that lives lies in a box. -/
def inBox (C : Plane) (xa ya : Int) (s : Nat) : Prop := ∀ x y k, C x y k = true → xa ≤ x ∧ x < xa + s ∧ ya ≤ y ∧ y < ya + s ∧ k < 2
theorem inBox.two {C : Plane} {xa ya : Int} {s : Nat} (h : inBox C xa ya s) : Plane.two C := by
  intro x y k hk
  cases hC : C x y k with
  | false => rfl
  | true => have := h x y k hC; omega
theorem inBox.next {N : Kn} (hN : N.good) {C : Plane} {xa ya : Int} {s : Nat} (h : inBox C xa ya s) : inBox (N.next C) (xa - 1) (ya - 1) (s + 2) := by
  intro x y k hC
  by_cases hk : 2 ≤ k
  · rw [Kn.next_two N C x y k hk] at hC; cases hC
  refine Classical.byContradiction fun hno => ?_
  rw [Kn.next_none hN (C := C) (fun a b k' h1 h2 h3 h4 hk' => ?_)] at hC
  · cases hC
  · cases hc : C (x + a) (y + b) k' with
    | false => rfl
    | true => have := h _ _ _ hc; omega
theorem inBox.evo {N : Kn} (hN : N.good) {C : Plane} {xa ya : Int} {s : Nat} (h : inBox C xa ya s) : ∀ n : Nat, inBox (N.evo n C) (xa - n) (ya - n) (s + 2 * n)
  | 0 => fun x y k hC => by have := h x y k hC; omega
  | n + 1 => fun x y k hC => by have := (inBox.evo hN h n).next hN x y k hC; omega
theorem inBox.wider {C : Plane} {xa ya xb yb : Int} {s u : Nat} (h : inBox C xa ya s) (h1 : xb ≤ xa) (h2 : yb ≤ ya) (h3 : xa + s ≤ xb + u) (h4 : ya + s ≤ yb + u) : inBox C xb yb u :=
  fun x y k hC => by have := h x y k hC; omega

def posL (d : Nat) (xa : Int) (s : Nat) : List Int := (List.range (s / 2 ^ d + 5)).map fun q => ((2 ^ d : Nat) : Int) * (xa / ((2 ^ d : Nat) : Int) - 3 + (q : Nat))
theorem mem_posL {d s : Nat} {a xa X : Int} (ha : ((2 ^ d : Nat) : Int) ∣ a) (h1 : a ≤ X) (h2 : X < a + (2 ^ (d + 2) : Nat)) (h3 : xa ≤ X) (h4 : X < xa + s) : a ∈ posL d xa s := by
  obtain ⟨m, rfl⟩ := ha
  have hp : 2 ^ (d + 2) = 4 * 2 ^ d := by rw [Nat.pow_add]; omega
  rw [hp] at h2
  unfold posL
  have hpos := pwpos d
  generalize 2 ^ d = p at *
  have hpi : (0 : Int) < (p : Int) := by omega
  have e1 := Int.mul_ediv_add_emod xa (p : Int)
  have e2 := Int.emod_nonneg xa (b := (p : Int)) (by omega)
  have e3 := Int.emod_lt_of_pos xa hpi
  have e4 : p * (s / p) + s % p = s := Nat.div_add_mod s p
  have e5 := Nat.mod_lt s hpos
  generalize xa / (p : Int) = f at *
  generalize s / p = g at *
  have e4' : (p : Int) * (g : Int) + ((s % p : Nat) : Int) = s := by exact_mod_cast e4
  have l1 : f - 3 ≤ m := by
    have : (p : Int) * (f - 4) < (p : Int) * m := by rw [Int.mul_sub]; omega
    have := Int.lt_of_mul_lt_mul_left this (Int.le_of_lt hpi)
    omega
  have l2 : m < f + g + 2 := by
    have : (p : Int) * m < (p : Int) * (f + g + 2) := by rw [Int.mul_add, Int.mul_add]; omega
    exact Int.lt_of_mul_lt_mul_left this (Int.le_of_lt hpi)
  refine List.mem_map.2 ⟨(m - (f - 3)).toNat, List.mem_range.2 (by omega), ?_⟩
  congr 1
  omega
def winsK (C : Plane) (xa ya : Int) (s : Nat) : List Wk := (List.range 43).flatMap fun d => (posL d xa s).flatMap fun a => (posL d ya s).map fun b => (d, C, a, b)
def wn (s : Nat) : Nat := ((List.range 43).map fun d => (s / 2 ^ d + 5) * (s / 2 ^ d + 5)).sum
theorem length_flatMap_const {α β : Type} {f : α → List β} {n : Nat} : ∀ (l : List α), (∀ a ∈ l, (f a).length = n) → (l.flatMap f).length = l.length * n
  | [], _ => by simp
  | a :: l, h => by
    rw [List.flatMap_cons, List.length_append, length_flatMap_const l (fun b hb => h b (by simp [hb])), h a (by simp), List.length_cons, Nat.succ_mul]; omega
theorem posL_length (d : Nat) (xa : Int) (s : Nat) : (posL d xa s).length = s / 2 ^ d + 5 := by simp [posL]
theorem winsK_length (C : Plane) (xa ya : Int) (s : Nat) : (winsK C xa ya s).length = wn s := by
  unfold winsK wn
  rw [List.length_flatMap]
  congr 1
  refine List.map_congr_left fun d _ => ?_
  rw [length_flatMap_const (n := s / 2 ^ d + 5), posL_length]
  intro a _
  rw [List.length_map, posL_length]
theorem mem_winsK {C : Plane} {xa ya : Int} {s : Nat} (hC : inBox C xa ya s) {d : Nat} (hd : d ≤ 42) {a b : Int} (ha : ((2 ^ d : Nat) : Int) ∣ a) (hb : ((2 ^ d : Nat) : Int) ∣ b)
    (h : ∃ x y k : Nat, x < 2 ^ (d + 2) ∧ y < 2 ^ (d + 2) ∧ k < 2 ∧ C (a + x) (b + y) k = true) : (d, C, a, b) ∈ winsK C xa ya s := by
  obtain ⟨x, y, k, hx, hy, hk, hc⟩ := h
  have hin := hC _ _ _ hc
  unfold winsK
  refine List.mem_flatMap.2 ⟨d, List.mem_range.2 (by omega), List.mem_flatMap.2 ⟨a, mem_posL (X := a + x) ha (by omega) (by omega) hin.1 hin.2.1, List.mem_map.2 ⟨b, mem_posL (X := b + y) hb (by omega) (by omega) hin.2.2.1 hin.2.2.2.1, rfl⟩⟩⟩
/-- The windows of what becomes of a plane. -/
def famN (N : Kn) (C : Plane) (T : Nat) : Fam := fun d C' a b => ∃ t, t ≤ T ∧ C' = N.evo t C ∧ ((2 ^ d : Nat) : Int) ∣ a ∧ ((2 ^ d : Nat) : Int) ∣ b
theorem Al_famN (N : Kn) (C : Plane) {t T : Nat} (h : t ≤ T) : Al (famN N C T) (N.evo t C) := fun _ _ _ ha hb => ⟨t, h, rfl, ha, hb⟩
def wnT (s T : Nat) : Nat := ((List.range (T + 1)).map fun t => wn (s + 2 * t)).sum
theorem famN_few {N : Kn} (hN : N.good) {C : Plane} {xa ya : Int} {s : Nat} (h : inBox C xa ya s) (T : Nat) : Fam.few (famN N C T) (wnT s T) := by
  refine ⟨(List.range (T + 1)).flatMap fun t => winsK (N.evo t C) (xa - t) (ya - t) (s + 2 * t), ?_, ?_⟩
  · rw [List.length_flatMap]
    have e : ((List.range (T + 1)).map fun t => (winsK (N.evo t C) (xa - t) (ya - t) (s + 2 * t)).length) = (List.range (T + 1)).map fun t => wn (s + 2 * t) := List.map_congr_left fun t _ => winsK_length _ _ _ _
    rw [e]
    exact Nat.le_refl (wnT s T)
  · rintro d C' a b ⟨t, ht, rfl, ha, hb⟩ hd hx
    exact List.mem_flatMap.2 ⟨t, List.mem_range.2 (by omega), mem_winsK (h.evo hN t) hd ha hb hx⟩

/-- How much of a window's side lies near the box. -/
def ovl (xa : Int) (s : Nat) (a : Int) (w : Nat) : Nat := (min (a + w) (xa + s + 3) - max a (xa - 3)).toNat
theorem ovl_add (xa : Int) (s : Nat) (a : Int) (w : Nat) : ovl xa s a (2 * w) = ovl xa s a w + ovl xa s (a + w) w := by unfold ovl; omega
theorem ovl_le (xa : Int) (s : Nat) (a : Int) (w : Nat) : ovl xa s a w ≤ s + 6 := by unfold ovl; omega
theorem Ar.W.count_le {A : Ar} (hA : A.wf) {C : Plane} {xa ya : Int} {s : Nat} (hC : inBox C xa ya s) : ∀ (d : Nat) {i : Nat} {a b : Int}, A.W d i C a b → A.count i ≤ 2 * (ovl xa s a (2 ^ (d + 2)) * ovl ya s b (2 ^ (d + 2))) := by
  intro d
  induction d with
  | zero =>
    intro i a b h
    obtain ⟨m, hm⟩ : ∃ m, A.nodes[i]? = some m := ⟨_, List.getElem?_eq_getElem (Ar.level_lt (by rw [h.lv]; omega))⟩
    have hl := h.lv
    rw [Ar.level_get hm] at hl
    have h32 : A.count i ≤ 32 := by
      rw [Ar.count_get hm]
      rcases (hA.nodes i m hm).2 with ⟨a1, a2, a3⟩ | ⟨a1, _⟩
      · rw [a3]; exact popc_le 32 _ (hA.nodes i m hm).1.2.1
      · omega
    by_cases hz : A.count i = 0
    · omega
    · have hne : ¬ ∀ (x y k : Nat), x < 2 ^ (0 + 2) → y < 2 ^ (0 + 2) → k < 2 → C (a + x) (b + y) k = false := fun hno => hz ((h.isEmpty hA).2 hno)
      have hex : ∃ x y k : Nat, x < 4 ∧ y < 4 ∧ k < 2 ∧ C (a + x) (b + y) k = true := by
        refine Classical.byContradiction fun hno => hne fun x y k hx hy hk => ?_
        cases hc : C (a + x) (b + y) k with
        | false => rfl
        | true => exact absurd ⟨x, y, k, hx, hy, hk, hc⟩ hno
      obtain ⟨x, y, k, hx, hy, hk, hc⟩ := hex
      have hin := hC _ _ _ hc
      have e1 : ovl xa s a (2 ^ (0 + 2)) = 4 := by unfold ovl; simp only [Nat.reduceAdd, Nat.reducePow]; omega
      have e2 : ovl ya s b (2 ^ (0 + 2)) = 4 := by unfold ovl; simp only [Nat.reduceAdd, Nat.reducePow]; omega
      rw [e1, e2]; omega
  | succ d ih =>
    intro i a b h
    have hcs : A.count i ≤ A.count (A.kid i 0) + A.count (A.kid i 1) + A.count (A.kid i 2) + A.count (A.kid i 3) := by
      rw [hA.cnt_node h.lv]
      simp only [Ar.sum, cap62, K4.k, Ar.kids]
      omega
    have k0 := ih (h.kid hA (t := 0) (by omega))
    have k1 := ih (h.kid hA (t := 1) (by omega))
    have k2 := ih (h.kid hA (t := 2) (by omega))
    have k3 := ih (h.kid hA (t := 3) (by omega))
    rw [two_pow_succ d, ovl_add, ovl_add]
    generalize hw : 2 ^ (d + 2) = w at *
    simp only [Nat.reduceMod, Nat.reduceDiv, Int.ofNat_zero, Int.natCast_one, Int.zero_mul, Int.one_mul, Int.add_zero, Nat.zero_mod, Nat.zero_div, Nat.one_mod] at k0 k1 k2 k3
    simp only [Nat.add_mul, Nat.mul_add]
    omega
theorem Ar.W.count_box {A : Ar} (hA : A.wf) {C : Plane} {xa ya : Int} {s : Nat} (hC : inBox C xa ya s) (hs : s ≤ 100000000) {d i : Nat} {a b : Int} (h : A.W d i C a b) : A.count i < 1152921504606846976 := by
  have h1 := h.count_le hA hC d
  have h2 : ovl xa s a (2 ^ (d + 2)) * ovl ya s b (2 ^ (d + 2)) ≤ 100000006 * 100000006 := Nat.mul_le_mul (Nat.le_trans (ovl_le _ _ _ _) (by omega)) (Nat.le_trans (ovl_le _ _ _ _) (by omega))
  omega
end Go.Proofs.YtnkdbpjmepfblaaGreatDoor
