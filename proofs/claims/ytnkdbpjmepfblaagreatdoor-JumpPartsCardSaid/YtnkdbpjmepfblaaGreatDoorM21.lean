/- Texts of the walk and its plain law, merged: LwC. -/
import Derived.Test.YtnkdbpjmepfblaaGreatDoorM20
/- Life: parts. -/
namespace Go.Proofs.YtnkdbpjmepfblaaGreatDoor
open Go Go.RowKit

/-- The contract of Result, at a level. -/
def ResC (N : Kn) (d : Nat) : Prop := ∀ (w : World) (I : LI) (S : Lf) (oA : List Nat) (i e : Nat) (r : Except Nat Nat) (S' : Lf), LW w I N S oA → S.valid N → S.A.level i = (d + 3 : Nat) → e ≤ d + 1 → resF N d i e S = some (r, S') →
  Calls Tryz.prog 87 #[.pointer (some ⟨I.lb, 0, none⟩), .int .u32 i, .int .i64 e] w fun e w' => e = .returned (encR r) ∧ LPost w I N S' oA w'
theorem nidx0 (a0 a1 a2 a3 a4 a5 a6 a7 a8 : Int) (w : World) : (Instr.index 273 (.agg #[.int .u32 a0, .int .u32 a1, .int .u32 a2, .int .u32 a3, .int .u32 a4, .int .u32 a5, .int .u32 a6, .int .u32 a7, .int .u32 a8]) (.int .i64 0)).run Tryz.prog w = .ok (.int .u32 a0) w := by kernel_rfl
theorem nidx1 (a0 a1 a2 a3 a4 a5 a6 a7 a8 : Int) (w : World) : (Instr.index 273 (.agg #[.int .u32 a0, .int .u32 a1, .int .u32 a2, .int .u32 a3, .int .u32 a4, .int .u32 a5, .int .u32 a6, .int .u32 a7, .int .u32 a8]) (.int .i64 1)).run Tryz.prog w = .ok (.int .u32 a1) w := by kernel_rfl
theorem nidx2 (a0 a1 a2 a3 a4 a5 a6 a7 a8 : Int) (w : World) : (Instr.index 273 (.agg #[.int .u32 a0, .int .u32 a1, .int .u32 a2, .int .u32 a3, .int .u32 a4, .int .u32 a5, .int .u32 a6, .int .u32 a7, .int .u32 a8]) (.int .i64 2)).run Tryz.prog w = .ok (.int .u32 a2) w := by kernel_rfl
theorem nidx3 (a0 a1 a2 a3 a4 a5 a6 a7 a8 : Int) (w : World) : (Instr.index 273 (.agg #[.int .u32 a0, .int .u32 a1, .int .u32 a2, .int .u32 a3, .int .u32 a4, .int .u32 a5, .int .u32 a6, .int .u32 a7, .int .u32 a8]) (.int .i64 3)).run Tryz.prog w = .ok (.int .u32 a3) w := by kernel_rfl
theorem nidx4 (a0 a1 a2 a3 a4 a5 a6 a7 a8 : Int) (w : World) : (Instr.index 273 (.agg #[.int .u32 a0, .int .u32 a1, .int .u32 a2, .int .u32 a3, .int .u32 a4, .int .u32 a5, .int .u32 a6, .int .u32 a7, .int .u32 a8]) (.int .i64 4)).run Tryz.prog w = .ok (.int .u32 a4) w := by kernel_rfl
theorem nidx5 (a0 a1 a2 a3 a4 a5 a6 a7 a8 : Int) (w : World) : (Instr.index 273 (.agg #[.int .u32 a0, .int .u32 a1, .int .u32 a2, .int .u32 a3, .int .u32 a4, .int .u32 a5, .int .u32 a6, .int .u32 a7, .int .u32 a8]) (.int .i64 5)).run Tryz.prog w = .ok (.int .u32 a5) w := by kernel_rfl
theorem nidx6 (a0 a1 a2 a3 a4 a5 a6 a7 a8 : Int) (w : World) : (Instr.index 273 (.agg #[.int .u32 a0, .int .u32 a1, .int .u32 a2, .int .u32 a3, .int .u32 a4, .int .u32 a5, .int .u32 a6, .int .u32 a7, .int .u32 a8]) (.int .i64 6)).run Tryz.prog w = .ok (.int .u32 a6) w := by kernel_rfl
theorem nidx7 (a0 a1 a2 a3 a4 a5 a6 a7 a8 : Int) (w : World) : (Instr.index 273 (.agg #[.int .u32 a0, .int .u32 a1, .int .u32 a2, .int .u32 a3, .int .u32 a4, .int .u32 a5, .int .u32 a6, .int .u32 a7, .int .u32 a8]) (.int .i64 7)).run Tryz.prog w = .ok (.int .u32 a7) w := by kernel_rfl
theorem nidx8 (a0 a1 a2 a3 a4 a5 a6 a7 a8 : Int) (w : World) : (Instr.index 273 (.agg #[.int .u32 a0, .int .u32 a1, .int .u32 a2, .int .u32 a3, .int .u32 a4, .int .u32 a5, .int .u32 a6, .int .u32 a7, .int .u32 a8]) (.int .i64 8)).run Tryz.prog w = .ok (.int .u32 a8) w := by kernel_rfl
theorem idx273 (l : List Nat) (hl : l.length = 9) (k : Nat) (hk : k < 9) (w : World) :
    (Instr.index 273 (.agg (l.map u32).toArray) (.int .i64 (k : Int))).run Tryz.prog w = .ok (.int .u32 (l.getD k 0 : Nat)) w := by
  obtain ⟨a0, a1, a2, a3, a4, a5, a6, a7, a8, rfl⟩ := list9 l hl
  have hc : k = 0 ∨ k = 1 ∨ k = 2 ∨ k = 3 ∨ k = 4 ∨ k = 5 ∨ k = 6 ∨ k = 7 ∨ k = 8 := by omega
  rcases hc with rfl | rfl | rfl | rfl | rfl | rfl | rfl | rfl | rfl
  · exact nidx0 _ _ _ _ _ _ _ _ _ w
  · exact nidx1 _ _ _ _ _ _ _ _ _ w
  · exact nidx2 _ _ _ _ _ _ _ _ _ w
  · exact nidx3 _ _ _ _ _ _ _ _ _ w
  · exact nidx4 _ _ _ _ _ _ _ _ _ w
  · exact nidx5 _ _ _ _ _ _ _ _ _ w
  · exact nidx6 _ _ _ _ _ _ _ _ _ w
  · exact nidx7 _ _ _ _ _ _ _ _ _ w
  · exact nidx8 _ _ _ _ _ _ _ _ _ w
/-- The memory of parts: the answer's cell, the nine. -/
structure PM (w : World) (b8 : Nat) (l : List Nat) (wr : World) : Prop where
  lo : w.heap.size < b8
  lt : b8 < wr.heap.size
  hZ : wr.heap[w.heap.size]? = some (.cells (([0, 0, 0, 0, 0, 0, 0, 0, 0] : List Nat).map u32).toArray 273)
  hN : wr.heap[b8]? = some (.cells (l.map u32).toArray 273)
theorem PM.fr {w wr wz : World} {b8 : Nat} {l : List Nat} {o o' : List Nat} (h : PM w b8 l wr) (hf : Fr wr o wz o') (h1 : w.heap.size ∉ o) (h2 : b8 ∉ o) : PM w b8 l wz :=
  ⟨h.lo, Nat.lt_of_lt_of_le h.lt hf.size, by rw [hf.keep _ (Nat.lt_trans h.lo h.lt) h1]; exact h.hZ, by rw [hf.keep _ h.lt h2]; exact h.hN⟩
theorem PM.set {w wr : World} {b8 : Nat} {l : List Nat} (h : PM w b8 l wr) (k v : Nat) : PM w b8 (l.set k v) (wr.setCell ⟨b8, k, none⟩ (.int .u32 (v : Int))) :=
  ⟨h.lo, by simpa using h.lt, by rw [World.heap_setCell_ne _ _ _ _ (by show w.heap.size ≠ b8; have := h.lo; omega)]; exact h.hZ, lbox_set h.hN k v⟩
theorem PM.new {w w1 : World} (hz : w1.heap[w.heap.size]? = some (.cells (([0, 0, 0, 0, 0, 0, 0, 0, 0] : List Nat).map u32).toArray 273)) (l : List Nat) : PM w w1.heap.size l (w1.alloc (.cells (l.map u32).toArray 273)) :=
  ⟨heap_lt hz, by simp, by rw [Below.heap_alloc _ _ _ (heap_lt hz)]; exact hz, heap_new _ _⟩
/-- What a life owns but what is new lies ahead of a call. -/
def OwnO (w : World) (b8 : Nat) (oA oB : List Nat) : Prop := ∀ b ∈ oB, b ∈ oA ∨ (w.heap.size < b ∧ b ≠ b8)
theorem OwnO.no {w : World} {I : LI} {b8 : Nat} {oA oB : List Nat} (h : OwnO w b8 oA oB) (hI : ∀ b ∈ I.own oA, b < w.heap.size) (h8 : w.heap.size < b8) : w.heap.size ∉ I.own oB ∧ b8 ∉ I.own oB := by
  have hm : ∀ b, w.heap.size ≤ b → b ∈ I.own oB → w.heap.size < b ∧ b ≠ b8 := by
    intro b hb hm
    simp only [LI.own, List.mem_cons] at hm hI
    rcases hm with h1 | h1 | h1 | h1
    · have := hI b (.inl h1); omega
    · have := hI b (.inr (.inl h1)); omega
    · have := hI b (.inr (.inr (.inl h1))); omega
    · rcases h b h1 with h2 | h2
      · have := hI b (.inr (.inr (.inr h2))); omega
      · exact h2
  exact ⟨fun h1 => by have := hm _ (Nat.le_refl _) h1; omega, fun h1 => (hm _ (by omega) h1).2 rfl⟩
theorem OwnO.step {w wr wz : World} {I : LI} {b8 : Nat} {oA oB oC : List Nat} (h : OwnO w b8 oA oB) (_hI : ∀ b ∈ I.own oA, b < w.heap.size) (hf : Fr wr (I.own oB) wz (I.own oC)) (h8 : w.heap.size < b8) (h9 : b8 < wr.heap.size) (hd : I.mb ∉ oC ∧ I.mm ∉ oC ∧ I.km ∉ oC) : OwnO w b8 oA oC := by
  intro b hb
  rcases hf.own b (by simp [LI.own, hb]) with h1 | h1
  · simp only [LI.own, List.mem_cons] at h1
    rcases h1 with rfl | rfl | rfl | h1
    · exact absurd hb hd.1
    · exact absurd hb hd.2.1
    · exact absurd hb hd.2.2
    · exact h b h1
  · exact .inr ⟨by omega, by omega⟩
theorem LW.keepN {w w' : World} {I : LI} {N : Kn} {S : Lf} {oA : List Nat} (h : LW w I N S oA) (hs : w.heap.size ≤ w'.heap.size) (hk : ∀ b, b = I.lb ∨ b ∈ I.own oA ∨ b ∈ I.ko → w'.heap[b]? = w.heap[b]?) : LW w' I N S oA :=
  ⟨by rw [hk _ (.inl rfl)]; exact h.hl, h.arena.same (fun b hb => hk b (.inr (.inl (by simp [LI.own, hb])))), h.memo.same (hk _ (.inr (.inl (by simp [LI.own])))) (hk _ (.inr (.inl (by simp [LI.own])))), h.kern.keep hs (fun b hb => hk b (.inr (.inr hb))),
    h.known.same (hk _ (.inr (.inl (by simp [LI.own])))), h.good, h.d1, h.d2, h.d3⟩
theorem LW.setNew {w : World} {I : LI} {N : Kn} {S : Lf} {oA : List Nat} (h : LW w I N S oA) {a : Addr} (h1 : a.block ≠ I.lb) (h2 : a.block ∉ I.own oA) (h3 : a.block ∉ I.ko) (v : Value) : LW (w.setCell a v) I N S oA :=
  h.keepN (by simp) (fun b hb => World.heap_setCell_ne w a v b (fun e => by subst e; rcases hb with hb | hb | hb <;> contradiction))
set_option maxRecDepth 100000 in
set_option maxHeartbeats 3200000 in
theorem parts_w {N : Kn} {d : Nat} (IH : ResC N d) {w : World} {I : LI} {S : Lf} {oA : List Nat} (h : LW w I N S oA) (hv : S.valid N) (i : Nat) (hl : S.A.level i = (d + 4 : Nat)) (e : Nat) (he : e ≤ d + 2) {r : Except Nat (List Nat)} {S' : Lf}
    (hj : S.parts i (decide (e = d + 2)) (fun k T => resF N d k (if e = d + 2 then e - 1 else e) T) = some (r, S')) :
    Calls Tryz.prog 188 #[.pointer (some ⟨I.lb, 0, none⟩), .int .u32 i, .int .i64 e] w fun e w' => e = .returned (encN r) ∧ LPost w I N S' oA w' := by
  have h44 := hv.wf.level_le i
  have hd40 : d ≤ 40 := by omega
  have hi : i < 4294967296 := Ar.level_lt' hv.wf hl
  have HLW := Lib.hid h
  have HV := Lib.hid hv
  have HIH := Lib.hid IH
  have HOL := Lib.hid h.ownLt
  have HJ := Lib.hid hj
  have HLVL := Lib.hid hl
  have hlb := h.lt.1
  have hc0 := h.c.1
  clear h hv IH hj hl h44
  have hZ0 := heap_new w (.cells (([0, 0, 0, 0, 0, 0, 0, 0, 0] : List Nat).map u32).toArray 273)
  have HZ0 := Lib.hid hZ0
  clear hZ0
  have hF0 := (Fr.nil w).alloc (.cells (([0, 0, 0, 0, 0, 0, 0, 0, 0] : List Nat).map u32).toArray 273)
  have HF0 := Lib.hid hF0
  clear hF0
  have hj := HJ.out
  unfold Lf.parts at hj
  obtain ⟨r1, A1, hx⟩ : ∃ r1 A1, S.A.nine i = some (r1, A1) := by
    cases hx : S.A.nine i with
    | none => rw [hx] at hj; cases hj
    | some y => exact ⟨y.1, y.2, rfl⟩
  rw [hx] at hj
  have hup : S.up (S.A.nine i) = some (r1, ⟨A1, S.L⟩) := by rw [hx]; rfl
  have HN := Lib.hid (nine_next HV.out HLVL.out hup)
  have HX := Lib.hid hx
  have HJ2 := Lib.hid hj
  clear hj hx hup HJ
  have hlv3 : 3 < S.A.level i := by rw [HLVL.out]; omega
  have hlv4 : S.A.level i < 100 := by rw [HLVL.out]; omega
  have HNW := Lib.hid (fun (W : World) (hF : Fr w [] W []) => nine_w (HLW.out.arena.ext hF) i hi hlv3 hlv4 HX.out)
  clear hlv3 hlv4
  go_enter Tryz.func188, Tryz.ntmps188
  go_wp2_with fail
  refine (HNW.out _ HF0.out).mono ?_
  rintro e1 w1 ⟨rfl, o1, hA1, hF1⟩
  have hL1 := (HLW.out.ext HF0.out).arena' hA1 hF1
  have hfr1 : Fr w (I.own oA) w1 (I.own o1) := (HLW.out.fr HF0.out).trans hL1.2
  have hZ1 := (hL1.2.keep w.heap.size (by simp) (fun hm => by have := HOL.out _ hm; omega)).trans HZ0.out
  have HL1 := Lib.hid hL1.1
  have HFR1 := Lib.hid hfr1
  have HZ1 := Lib.hid hZ1
  have HO1 := Lib.hid (show ∀ b ∈ o1, b ∈ oA ∨ w.heap.size < b from fun b hb => by
    rcases hF1.own b hb with h1 | h1
    · exact .inl h1
    · exact .inr (by have : (w.alloc (.cells (([0, 0, 0, 0, 0, 0, 0, 0, 0] : List Nat).map u32).toArray 273)).heap.size = w.heap.size + 1 := World.size_alloc _ _; omega))
  clear hA1 hF1 hL1 hfr1 hZ1 HNW HZ0
  have hs1 : w.heap.size < w1.heap.size := heap_lt HZ1.out
  have hz : ∀ k, w1.frozen? ⟨w.heap.size, k, none⟩ = false := fun k => lbox_fz (T := 273) HZ1.out k
  have z0 : w1.cell? ⟨w.heap.size, 0, none⟩ = some (.int .u32 0) := lbox_cell (T := 273) HZ1.out 0 0 rfl
  have z1 : w1.cell? ⟨w.heap.size, 1, none⟩ = some (.int .u32 0) := lbox_cell (T := 273) HZ1.out 1 0 rfl
  have z2 : w1.cell? ⟨w.heap.size, 2, none⟩ = some (.int .u32 0) := lbox_cell (T := 273) HZ1.out 2 0 rfl
  have z3 : w1.cell? ⟨w.heap.size, 3, none⟩ = some (.int .u32 0) := lbox_cell (T := 273) HZ1.out 3 0 rfl
  have z4 : w1.cell? ⟨w.heap.size, 4, none⟩ = some (.int .u32 0) := lbox_cell (T := 273) HZ1.out 4 0 rfl
  have z5 : w1.cell? ⟨w.heap.size, 5, none⟩ = some (.int .u32 0) := lbox_cell (T := 273) HZ1.out 5 0 rfl
  have z6 : w1.cell? ⟨w.heap.size, 6, none⟩ = some (.int .u32 0) := lbox_cell (T := 273) HZ1.out 6 0 rfl
  have z7 : w1.cell? ⟨w.heap.size, 7, none⟩ = some (.int .u32 0) := lbox_cell (T := 273) HZ1.out 7 0 rfl
  have z8 : w1.cell? ⟨w.heap.size, 8, none⟩ = some (.int .u32 0) := lbox_cell (T := 273) HZ1.out 8 0 rfl
  have hc1 := HL1.out.c.1
  have hlb1 := HL1.out.lt.1
  have hne : ∀ b, b = I.lb ∨ b ∈ I.own o1 ∨ b ∈ I.ko → b ≠ w.heap.size := by
    intro b hb e
    subst e
    rcases hb with h1 | h1 | h1
    · omega
    · simp only [LI.own, List.mem_cons] at h1
      have hol := HOL.out
      simp only [LI.own, List.mem_cons] at hol
      rcases h1 with h1 | h1 | h1 | h1
      · have := hol _ (.inl h1); omega
      · have := hol _ (.inr (.inl h1)); omega
      · have := hol _ (.inr (.inr (.inl h1))); omega
      · rcases HO1.out _ h1 with h2 | h2
        · have := hol _ (.inr (.inr (.inr h2))); omega
        · omega
    · have := HLW.out.kern.lt _ h1; omega
  have HNE := Lib.hid hne
  clear hne
  cases r1 with
  | error c =>
    obtain ⟨rfl, rfl⟩ : Except.error c = r ∧ (⟨A1, S.L⟩ : Lf) = S' := by have := HJ2.out; simpa [Lf.up, gbind] using this
    have hB9 := set9_box (T := 273) HZ1.out rfl 0 0 0 0 0 0 0 0 0
    have hN9 := fun c (hc : c ≠ w.heap.size) => set9_ne (w := w1) hc 0 0 0 0 0 0 0 0 0
    have hS9 : w1.heap.size ≤ (((((((((w1.setCell ⟨w.heap.size, 0, none⟩ (.int .u32 0)).setCell ⟨w.heap.size, 1, none⟩ (.int .u32 0)).setCell ⟨w.heap.size, 2, none⟩ (.int .u32 0)).setCell ⟨w.heap.size, 3, none⟩ (.int .u32 0)).setCell ⟨w.heap.size, 4, none⟩ (.int .u32 0)).setCell ⟨w.heap.size, 5, none⟩ (.int .u32 0)).setCell ⟨w.heap.size, 6, none⟩ (.int .u32 0)).setCell ⟨w.heap.size, 7, none⟩ (.int .u32 0)).setCell ⟨w.heap.size, 8, none⟩ (.int .u32 0)).heap.size := by simp
    (try simp only [show ((0 : Nat) : Int) = 0 from rfl] at hB9 hN9)
    have hL9 : LW (((((((((w1.setCell ⟨w.heap.size, 0, none⟩ (.int .u32 0)).setCell ⟨w.heap.size, 1, none⟩ (.int .u32 0)).setCell ⟨w.heap.size, 2, none⟩ (.int .u32 0)).setCell ⟨w.heap.size, 3, none⟩ (.int .u32 0)).setCell ⟨w.heap.size, 4, none⟩ (.int .u32 0)).setCell ⟨w.heap.size, 5, none⟩ (.int .u32 0)).setCell ⟨w.heap.size, 6, none⟩ (.int .u32 0)).setCell ⟨w.heap.size, 7, none⟩ (.int .u32 0)).setCell ⟨w.heap.size, 8, none⟩ (.int .u32 0)) I N ⟨A1, S.L⟩ o1 := HL1.out.keepN hS9 (fun b hb => hN9 b (HNE.out b hb))
    have hC9 : ((((((((((w1.setCell ⟨w.heap.size, 0, none⟩ (.int .u32 0)).setCell ⟨w.heap.size, 1, none⟩ (.int .u32 0)).setCell ⟨w.heap.size, 2, none⟩ (.int .u32 0)).setCell ⟨w.heap.size, 3, none⟩ (.int .u32 0)).setCell ⟨w.heap.size, 4, none⟩ (.int .u32 0)).setCell ⟨w.heap.size, 5, none⟩ (.int .u32 0)).setCell ⟨w.heap.size, 6, none⟩ (.int .u32 0)).setCell ⟨w.heap.size, 7, none⟩ (.int .u32 0)).setCell ⟨w.heap.size, 8, none⟩ (.int .u32 0)).alloc (.cells #[.int .u32 0, .int .u32 0, .int .u32 0, .int .u32 0, .int .u32 0, .int .u32 0, .int .u32 0, .int .u32 0, .int .u32 0] 273)).heap[w.heap.size]? = _ := (Below.heap_alloc _ _ _ (heap_lt hB9)).trans hB9
    have HB9 := Lib.hid hC9
    have HQ9 := Lib.hid (show LPost w I N ⟨A1, S.L⟩ oA ((((((((((w1.setCell ⟨w.heap.size, 0, none⟩ (.int .u32 0)).setCell ⟨w.heap.size, 1, none⟩ (.int .u32 0)).setCell ⟨w.heap.size, 2, none⟩ (.int .u32 0)).setCell ⟨w.heap.size, 3, none⟩ (.int .u32 0)).setCell ⟨w.heap.size, 4, none⟩ (.int .u32 0)).setCell ⟨w.heap.size, 5, none⟩ (.int .u32 0)).setCell ⟨w.heap.size, 6, none⟩ (.int .u32 0)).setCell ⟨w.heap.size, 7, none⟩ (.int .u32 0)).setCell ⟨w.heap.size, 8, none⟩ (.int .u32 0)).alloc (.cells #[.int .u32 0, .int .u32 0, .int .u32 0, .int .u32 0, .int .u32 0, .int .u32 0, .int .u32 0, .int .u32 0, .int .u32 0] 273)) from ⟨o1, hL9.ext ((Fr.nil _).alloc _), (((((((((HFR1.out.setCell (a := ⟨w.heap.size, 0, none⟩) (Nat.le_refl _) (.int .u32 0)).setCell (a := ⟨w.heap.size, 1, none⟩) (Nat.le_refl _) (.int .u32 0)).setCell (a := ⟨w.heap.size, 2, none⟩) (Nat.le_refl _) (.int .u32 0)).setCell (a := ⟨w.heap.size, 3, none⟩) (Nat.le_refl _) (.int .u32 0)).setCell (a := ⟨w.heap.size, 4, none⟩) (Nat.le_refl _) (.int .u32 0)).setCell (a := ⟨w.heap.size, 5, none⟩) (Nat.le_refl _) (.int .u32 0)).setCell (a := ⟨w.heap.size, 6, none⟩) (Nat.le_refl _) (.int .u32 0)).setCell (a := ⟨w.heap.size, 7, none⟩) (Nat.le_refl _) (.int .u32 0)).setCell (a := ⟨w.heap.size, 8, none⟩) (Nat.le_refl _) (.int .u32 0)).alloc _⟩)
    clear hB9 hN9 hL9 hS9 hC9
    simp only [encN, List.map_cons, List.map_nil, Go.Proofs.YtnkdbpjmepfblaaGreatDoor.u32, show ((0 : Nat) : Int) = 0 from rfl]
    go_wp2_with fail
    generalize (((((((((w1.setCell ⟨w.heap.size, 0, none⟩ (.int .u32 0)).setCell ⟨w.heap.size, 1, none⟩ (.int .u32 0)).setCell ⟨w.heap.size, 2, none⟩ (.int .u32 0)).setCell ⟨w.heap.size, 3, none⟩ (.int .u32 0)).setCell ⟨w.heap.size, 4, none⟩ (.int .u32 0)).setCell ⟨w.heap.size, 5, none⟩ (.int .u32 0)).setCell ⟨w.heap.size, 6, none⟩ (.int .u32 0)).setCell ⟨w.heap.size, 7, none⟩ (.int .u32 0)).setCell ⟨w.heap.size, 8, none⟩ (.int .u32 0)).alloc (.cells #[.int .u32 0, .int .u32 0, .int .u32 0, .int .u32 0, .int .u32 0, .int .u32 0, .int .u32 0, .int .u32 0, .int .u32 0] 273) = W9 at *
    have y0 : W9.cell? ⟨w.heap.size, 0, none⟩ = some (.int .u32 0) := lbox_cell (T := 273) HB9.out 0 0 rfl
    have y1 : W9.cell? ⟨w.heap.size, 1, none⟩ = some (.int .u32 0) := lbox_cell (T := 273) HB9.out 1 0 rfl
    have y2 : W9.cell? ⟨w.heap.size, 2, none⟩ = some (.int .u32 0) := lbox_cell (T := 273) HB9.out 2 0 rfl
    have y3 : W9.cell? ⟨w.heap.size, 3, none⟩ = some (.int .u32 0) := lbox_cell (T := 273) HB9.out 3 0 rfl
    have y4 : W9.cell? ⟨w.heap.size, 4, none⟩ = some (.int .u32 0) := lbox_cell (T := 273) HB9.out 4 0 rfl
    have y5 : W9.cell? ⟨w.heap.size, 5, none⟩ = some (.int .u32 0) := lbox_cell (T := 273) HB9.out 5 0 rfl
    have y6 : W9.cell? ⟨w.heap.size, 6, none⟩ = some (.int .u32 0) := lbox_cell (T := 273) HB9.out 6 0 rfl
    have y7 : W9.cell? ⟨w.heap.size, 7, none⟩ = some (.int .u32 0) := lbox_cell (T := 273) HB9.out 7 0 rfl
    have y8 : W9.cell? ⟨w.heap.size, 8, none⟩ = some (.int .u32 0) := lbox_cell (T := 273) HB9.out 8 0 rfl
    exact bodyPost_ret (v := encN (.error c)) (by
      unfold encN
      simp [results, Tryz.results188, go_sem, y0, y1, y2, y3, y4, y5, y6, y7, y8, Go.Proofs.YtnkdbpjmepfblaaGreatDoor.u32]) rfl ⟨rfl, HQ9.out⟩
  | ok l =>
    have hl9 := (HN.out.ok l rfl).1
    obtain ⟨a0, a1, a2, a3, a4, a5, a6, a7, a8, rfl⟩ := list9 l hl9
    have HLV := Lib.hid (show A1.level i = (d + 4 : Nat) from HN.out.le.level' HLVL.out)
    have hlw := level_w ((HL1.out.ext ((Fr.nil w1).alloc (.cells #[.int .u32 a0, .int .u32 a1, .int .u32 a2, .int .u32 a3, .int .u32 a4, .int .u32 a5, .int .u32 a6, .int .u32 a7, .int .u32 a8] 273))).arena) i hi
    have HLW2 := Lib.hid hlw
    clear hlw
    simp only [encN, List.map_cons, List.map_nil, Go.Proofs.YtnkdbpjmepfblaaGreatDoor.u32]
    have hP := PM.new HZ1.out [a0, a1, a2, a3, a4, a5, a6, a7, a8]
    simp only [List.map_cons, List.map_nil, Go.Proofs.YtnkdbpjmepfblaaGreatDoor.u32] at hP
    have HP := Lib.hid hP
    clear hP
    have HL2 := Lib.hid (HL1.out.ext ((Fr.nil w1).alloc (.cells #[.int .u32 a0, .int .u32 a1, .int .u32 a2, .int .u32 a3, .int .u32 a4, .int .u32 a5, .int .u32 a6, .int .u32 a7, .int .u32 a8] 273)))
    have HF2 := Lib.hid (HFR1.out.alloc (.cells #[.int .u32 a0, .int .u32 a1, .int .u32 a2, .int .u32 a3, .int .u32 a4, .int .u32 a5, .int .u32 a6, .int .u32 a7, .int .u32 a8] 273))
    have HO2 := Lib.hid (show OwnO w w1.heap.size oA o1 from fun b hb => by
      rcases HO1.out b hb with h1 | h1
      · exact .inl h1
      · exact .inr ⟨h1, by have := HL1.out.arena.lt b hb; omega⟩)
    have HNK := Lib.hid (show I.lb ≠ w.heap.size ∧ w.heap.size ∉ I.ko from ⟨by omega, fun hm => by have := HLW.out.kern.lt _ hm; omega⟩)
    have HNK8 := Lib.hid (show I.lb ≠ w1.heap.size ∧ w1.heap.size ∉ I.ko from ⟨by omega, fun hm => by have := HLW.out.kern.lt _ hm; omega⟩)
    by_cases hfull : e = d + 2
    · have HFB := Lib.hid hfull
      have hfb : ((e : Int) == (d : Int) + 2) = true := by simp; omega
      have hpf : ∀ k T, partF (decide (e = d + 2)) (fun k T => resF N d k (if e = d + 2 then e - 1 else e) T) k T = resF N d k (e - 1) T := fun k T => by
        unfold partF; simp [HFB.out]
      have HPF := Lib.hid hpf
      clear hfull hpf
      go_wp2_with fail
      refine HLW2.out.mono ?_
      rintro e w' ⟨rfl, rfl⟩
      rw [HLV.out, show ((d + 4 : Nat) : Int) = (d : Int) + 4 by omega]
      clear z0 z1 z2 z3 z4 z5 z6 z7 z8 hz hc0 hc1 hlb hlb1 HLW2
      generalize (w1.alloc (.cells #[.int .u32 a0, .int .u32 a1, .int .u32 a2, .int .u32 a3, .int .u32 a4, .int .u32 a5, .int .u32 a6, .int .u32 a7, .int .u32 a8] 273)) = W2 at *
      have q0 : W2.cell? ⟨w1.heap.size, 0, none⟩ = some (.int .u32 a0) := lbox_cell (T := 273) HP.out.hN 0 a0 rfl
      have q1 : W2.cell? ⟨w1.heap.size, 1, none⟩ = some (.int .u32 a1) := lbox_cell (T := 273) HP.out.hN 1 a1 rfl
      have q2 : W2.cell? ⟨w1.heap.size, 2, none⟩ = some (.int .u32 a2) := lbox_cell (T := 273) HP.out.hN 2 a2 rfl
      have q3 : W2.cell? ⟨w1.heap.size, 3, none⟩ = some (.int .u32 a3) := lbox_cell (T := 273) HP.out.hN 3 a3 rfl
      have q4 : W2.cell? ⟨w1.heap.size, 4, none⟩ = some (.int .u32 a4) := lbox_cell (T := 273) HP.out.hN 4 a4 rfl
      have q5 : W2.cell? ⟨w1.heap.size, 5, none⟩ = some (.int .u32 a5) := lbox_cell (T := 273) HP.out.hN 5 a5 rfl
      have q6 : W2.cell? ⟨w1.heap.size, 6, none⟩ = some (.int .u32 a6) := lbox_cell (T := 273) HP.out.hN 6 a6 rfl
      have q7 : W2.cell? ⟨w1.heap.size, 7, none⟩ = some (.int .u32 a7) := lbox_cell (T := 273) HP.out.hN 7 a7 rfl
      have q8 : W2.cell? ⟨w1.heap.size, 8, none⟩ = some (.int .u32 a8) := lbox_cell (T := 273) HP.out.hN 8 a8 rfl
      have hcl := HL2.out.c.1
      go_wp2_with fail
      clear q0 q1 q2 q3 q4 q5 q6 q7 q8 hcl
      go_loopw [36] (fun v wr => ∃ (j : Nat) (acc : List Nat) (T : Lf) (oB : List Nat), j ≤ 9 ∧ v = .int .i64 j ∧ acc.length = j ∧ T.valid N ∧ LW wr I N T oB ∧ Fr w (I.own oA) wr (I.own oB) ∧ OwnO w w1.heap.size oA oB ∧
          PM w w1.heap.size (acc ++ ([a0, a1, a2, a3, a4, a5, a6, a7, a8]).drop j) wr ∧ partsL (partF (decide (e = d + 2)) (fun k T => resF N d k (if e = d + 2 then e - 1 else e) T)) (([a0, a1, a2, a3, a4, a5, a6, a7, a8] : List Nat).drop j) acc T = some (r, S') ∧ ∀ k ∈ ([a0, a1, a2, a3, a4, a5, a6, a7, a8] : List Nat), T.A.level k = (d + 3 : Nat)) (fun v _ => 9 - (intOf v).toNat)
      case atStart =>
        exact ⟨0, [], ⟨A1, S.L⟩, o1, by omega, rfl, rfl, HN.out.valid, HL2.out, HF2.out, HO2.out, HP.out, HJ2.out, (HN.out.ok _ rfl).2⟩
      case round =>
        clear HL2 HF2 HO2 HP HJ2 HLV HL1 HFR1 HN HX
        obtain ⟨j, acc, T, oB, hj, rfl, hlen, hT, hL, hF, hO, hP, hps, hlv⟩ := hrel
        obtain ⟨W0, rfl⟩ : ∃ W0, W0 = wr := ⟨_, rfl⟩
        have HLEN := Lib.hid hlen
        have HT := Lib.hid hT
        have HL := Lib.hid hL
        have HF := Lib.hid hF
        have HO := Lib.hid hO
        have HP := Lib.hid hP
        have HPS := Lib.hid hps
        have HLVS := Lib.hid hlv
        clear hlen hT hL hF hO hP hps hlv
        by_cases hj9 : j < 9
        · have hj9i : (j : Int) < 9 := by omega
          obtain ⟨kj, hkj⟩ : ∃ kj, kj = ([a0, a1, a2, a3, a4, a5, a6, a7, a8] : List Nat).getD j 0 := ⟨_, rfl⟩
          have hdrop : ([a0, a1, a2, a3, a4, a5, a6, a7, a8] : List Nat).drop j = kj :: ([a0, a1, a2, a3, a4, a5, a6, a7, a8] : List Nat).drop (j + 1) := by
            rw [List.drop_eq_getElem_cons (by simpa using hj9), hkj]; simp [List.getD_eq_getElem?_getD, hj9]
          have hmem : kj ∈ ([a0, a1, a2, a3, a4, a5, a6, a7, a8] : List Nat) := by rw [hkj]; simp only [List.getD_eq_getElem?_getD, List.getElem?_eq_getElem (show j < ([a0, a1, a2, a3, a4, a5, a6, a7, a8] : List Nat).length by simpa using hj9)]; exact List.getElem_mem _
          have hix := fun w => idx273 [a0, a1, a2, a3, a4, a5, a6, a7, a8] rfl j hj9 w
          simp only [List.map_cons, List.map_nil, Go.Proofs.YtnkdbpjmepfblaaGreatDoor.u32] at hix
          rw [← hkj] at hix
          have hkl := HLVS.out _ hmem
          have hk32 : kj < 4294967296 := Ar.level_lt' HT.out.wf hkl
          have HKL := Lib.hid hkl
          have HDR := Lib.hid hdrop
          have hps := HPS.out
          rw [hdrop] at hps
          simp only [partsL] at hps
          rw [HPF.out] at hps
          clear hkj hdrop hmem hkl
          obtain ⟨r1, T1, hx⟩ : ∃ r1 T1, resF N d kj (e - 1) T = some (r1, T1) := by
            cases hx : resF N d kj (e - 1) T with
            | none => rw [hx] at hps; cases hps
            | some y => exact ⟨y.1, y.2, rfl⟩
          rw [hx] at hps
          have HNX := Lib.hid (resF_next HLW.out.good HT.out HKL.out (by have := HFB.out; omega) hx)
          have HX := Lib.hid hx
          have HPS2 := Lib.hid hps
          have hno := HO.out.no HOL.out hs1
          have HNO := Lib.hid hno
          clear hx hps HPS hno
          have hcl := HL.out.c.1
          have hcw := HIH.out W0 I T oB kj (e - 1) r1 T1 HL.out HT.out HKL.out (by have := HFB.out; omega) HX.out
          rw [show ((e - 1 : Nat) : Int) = (e : Int) - 1 by have := HFB.out; omega] at hcw
          have HCW := Lib.hid hcw
          have he1 : 1 ≤ (e : Int) := by have := HFB.out; omega
          clear hcw
          go_wp2_with fail
          refine HCW.out.mono ?_
          rintro e1 w5 ⟨rfl, hq⟩
          obtain ⟨oC, hL5, hF5⟩ := hq
          have hd2 := hL5.d2
          have HO5 := Lib.hid (HO.out.step HOL.out hF5 hs1 HP.out.lt ⟨hd2.2.1, hd2.2.2.1, hd2.2.2.2⟩)
          have HP5 := Lib.hid (HP.out.fr hF5 HNO.out.1 HNO.out.2)
          have HF5 := Lib.hid (HF.out.trans hF5)
          have HL5 := Lib.hid hL5
          try clear hq
          clear hL5 hF5 hd2 hix hcl HP HF HL HO HCW
          have hb9 : (acc ++ ([a0, a1, a2, a3, a4, a5, a6, a7, a8] : List Nat).drop j)[j]? = some kj := by rw [HDR.out, List.getElem?_append_right (by rw [HLEN.out]; exact Nat.le_refl _), HLEN.out, Nat.sub_self]; rfl
          have hcb : w5.cell? ⟨w1.heap.size, j, none⟩ = some (.int .u32 (kj : Int)) := lbox_cell (T := 273) HP5.out.hN _ _ hb9
          have hfb9 : w5.frozen? ⟨w1.heap.size, j, none⟩ = false := lbox_fz (T := 273) HP5.out.hN j
          have hset : ∀ v, (acc ++ ([a0, a1, a2, a3, a4, a5, a6, a7, a8] : List Nat).drop j).set j v = (acc ++ [v]) ++ ([a0, a1, a2, a3, a4, a5, a6, a7, a8] : List Nat).drop (j + 1) := fun v => by
            rw [HDR.out, List.set_append_right _ _ (by rw [HLEN.out]; exact Nat.le_refl _), HLEN.out, Nat.sub_self, List.set_cons_zero, List.append_assoc]; rfl
          have HSET := Lib.hid hset
          have hno5 := HO5.out.no HOL.out hs1
          have HNO5 := Lib.hid hno5
          clear hb9 hset hno5
          cases r1 with
          | ok jj =>
            have hP6 := HP5.out.set j jj
            rw [HSET.out] at hP6
            have HP6 := Lib.hid hP6
            have HL6 := Lib.hid (HL5.out.setNew (a := ⟨w1.heap.size, j, none⟩) (fun e => HNK8.out.1 e.symm) HNO5.out.2 HNK8.out.2 (.int .u32 (jj : Int)))
            have HF6 := Lib.hid (HF5.out.setCell (a := ⟨w1.heap.size, j, none⟩) (Nat.le_of_lt hs1) (.int .u32 (jj : Int)))
            clear hP6
            simp only [encR, okV]
            go_wp2_with fail
            generalize w5.setCell ⟨w1.heap.size, j, none⟩ (.int .u32 (jj : Int)) = W6 at *
            go_wp2_with fail
            refine ⟨⟨j + 1, acc ++ [jj], T1, oC, by omega, rfl, by rw [List.length_append, HLEN.out]; rfl, HNX.out.valid, HL6.out, HF6.out, HO5.out, HP6.out, HPS2.out, fun k hk => HNX.out.le.level' (HLVS.out k hk)⟩, by simp only [intOf]; omega⟩
          | error c =>
            obtain ⟨rfl, rfl⟩ : Except.error c = r ∧ T1 = S' := by have := HPS2.out; simpa [gbind] using this
            have hP6 := HP5.out.set j 0
            rw [HSET.out] at hP6
            simp only [show ((0 : Nat) : Int) = 0 from rfl] at hP6
            have HP6 := Lib.hid hP6
            have HL6 := Lib.hid (HL5.out.setNew (a := ⟨w1.heap.size, j, none⟩) (fun e => HNK8.out.1 e.symm) HNO5.out.2 HNK8.out.2 (.int .u32 0))
            have HF6 := Lib.hid (HF5.out.setCell (a := ⟨w1.heap.size, j, none⟩) (Nat.le_of_lt hs1) (.int .u32 0))
            clear hP6
            simp only [encR, errV]
            have hB9 := set9_box (T := 273) HP6.out.hZ rfl 0 0 0 0 0 0 0 0 0
            have HF9 := (((((((((HF6.out.setCell (a := ⟨w.heap.size, 0, none⟩) (Nat.le_refl _) (.int .u32 0)).setCell (a := ⟨w.heap.size, 1, none⟩) (Nat.le_refl _) (.int .u32 0)).setCell (a := ⟨w.heap.size, 2, none⟩) (Nat.le_refl _) (.int .u32 0)).setCell (a := ⟨w.heap.size, 3, none⟩) (Nat.le_refl _) (.int .u32 0)).setCell (a := ⟨w.heap.size, 4, none⟩) (Nat.le_refl _) (.int .u32 0)).setCell (a := ⟨w.heap.size, 5, none⟩) (Nat.le_refl _) (.int .u32 0)).setCell (a := ⟨w.heap.size, 6, none⟩) (Nat.le_refl _) (.int .u32 0)).setCell (a := ⟨w.heap.size, 7, none⟩) (Nat.le_refl _) (.int .u32 0)).setCell (a := ⟨w.heap.size, 8, none⟩) (Nat.le_refl _) (.int .u32 0))
            have hN9 := fun c (hc : c ≠ w.heap.size) => set9_ne (w := (w5.setCell ⟨w1.heap.size, j, none⟩ (.int .u32 0))) hc 0 0 0 0 0 0 0 0 0
            have hno9 := HNO5.out
            have hnk := HNK.out
            have hS9 : (w5.setCell ⟨w1.heap.size, j, none⟩ (.int .u32 0)).heap.size ≤ ((((((((((w5.setCell ⟨w1.heap.size, j, none⟩ (.int .u32 0)).setCell ⟨w.heap.size, 0, none⟩ (.int .u32 0)).setCell ⟨w.heap.size, 1, none⟩ (.int .u32 0)).setCell ⟨w.heap.size, 2, none⟩ (.int .u32 0)).setCell ⟨w.heap.size, 3, none⟩ (.int .u32 0)).setCell ⟨w.heap.size, 4, none⟩ (.int .u32 0)).setCell ⟨w.heap.size, 5, none⟩ (.int .u32 0)).setCell ⟨w.heap.size, 6, none⟩ (.int .u32 0)).setCell ⟨w.heap.size, 7, none⟩ (.int .u32 0)).setCell ⟨w.heap.size, 8, none⟩ (.int .u32 0)).heap.size := by simp
            (try simp only [show ((0 : Nat) : Int) = 0 from rfl] at hB9 hN9)
            have HB9 := Lib.hid hB9
            have hL9 : LW ((((((((((w5.setCell ⟨w1.heap.size, j, none⟩ (.int .u32 0)).setCell ⟨w.heap.size, 0, none⟩ (.int .u32 0)).setCell ⟨w.heap.size, 1, none⟩ (.int .u32 0)).setCell ⟨w.heap.size, 2, none⟩ (.int .u32 0)).setCell ⟨w.heap.size, 3, none⟩ (.int .u32 0)).setCell ⟨w.heap.size, 4, none⟩ (.int .u32 0)).setCell ⟨w.heap.size, 5, none⟩ (.int .u32 0)).setCell ⟨w.heap.size, 6, none⟩ (.int .u32 0)).setCell ⟨w.heap.size, 7, none⟩ (.int .u32 0)).setCell ⟨w.heap.size, 8, none⟩ (.int .u32 0)) I N T1 oC := HL6.out.keepN hS9 (fun b hb => hN9 b (by
              intro e; subst e
              rcases hb with h1 | h1 | h1
              · exact hnk.1 h1.symm
              · exact hno9.1 h1
              · exact hnk.2 h1))
            have HQ9 := Lib.hid (show LPost w I N T1 oA ((((((((((w5.setCell ⟨w1.heap.size, j, none⟩ (.int .u32 0)).setCell ⟨w.heap.size, 0, none⟩ (.int .u32 0)).setCell ⟨w.heap.size, 1, none⟩ (.int .u32 0)).setCell ⟨w.heap.size, 2, none⟩ (.int .u32 0)).setCell ⟨w.heap.size, 3, none⟩ (.int .u32 0)).setCell ⟨w.heap.size, 4, none⟩ (.int .u32 0)).setCell ⟨w.heap.size, 5, none⟩ (.int .u32 0)).setCell ⟨w.heap.size, 6, none⟩ (.int .u32 0)).setCell ⟨w.heap.size, 7, none⟩ (.int .u32 0)).setCell ⟨w.heap.size, 8, none⟩ (.int .u32 0)) from ⟨oC, hL9, HF9⟩)
            clear hB9 HF9 hN9 hL9 hno9 hS9 hnk
            have hz : ∀ k, w5.frozen? ⟨w.heap.size, k, none⟩ = false := fun k => lbox_fz (T := 273) HP5.out.hZ k
            have z0 : w5.cell? ⟨w.heap.size, 0, none⟩ = some (.int .u32 0) := lbox_cell (T := 273) HP5.out.hZ 0 0 rfl
            have z1 : w5.cell? ⟨w.heap.size, 1, none⟩ = some (.int .u32 0) := lbox_cell (T := 273) HP5.out.hZ 1 0 rfl
            have z2 : w5.cell? ⟨w.heap.size, 2, none⟩ = some (.int .u32 0) := lbox_cell (T := 273) HP5.out.hZ 2 0 rfl
            have z3 : w5.cell? ⟨w.heap.size, 3, none⟩ = some (.int .u32 0) := lbox_cell (T := 273) HP5.out.hZ 3 0 rfl
            have z4 : w5.cell? ⟨w.heap.size, 4, none⟩ = some (.int .u32 0) := lbox_cell (T := 273) HP5.out.hZ 4 0 rfl
            have z5 : w5.cell? ⟨w.heap.size, 5, none⟩ = some (.int .u32 0) := lbox_cell (T := 273) HP5.out.hZ 5 0 rfl
            have z6 : w5.cell? ⟨w.heap.size, 6, none⟩ = some (.int .u32 0) := lbox_cell (T := 273) HP5.out.hZ 6 0 rfl
            have z7 : w5.cell? ⟨w.heap.size, 7, none⟩ = some (.int .u32 0) := lbox_cell (T := 273) HP5.out.hZ 7 0 rfl
            have z8 : w5.cell? ⟨w.heap.size, 8, none⟩ = some (.int .u32 0) := lbox_cell (T := 273) HP5.out.hZ 8 0 rfl
            have hbne : ¬ w1.heap.size = w.heap.size := by omega
            have hbne2 : ¬ w.heap.size = w1.heap.size := by omega
            go_wp2_with fail
            generalize ((((((((((w5.setCell ⟨w1.heap.size, j, none⟩ (.int .u32 0)).setCell ⟨w.heap.size, 0, none⟩ (.int .u32 0)).setCell ⟨w.heap.size, 1, none⟩ (.int .u32 0)).setCell ⟨w.heap.size, 2, none⟩ (.int .u32 0)).setCell ⟨w.heap.size, 3, none⟩ (.int .u32 0)).setCell ⟨w.heap.size, 4, none⟩ (.int .u32 0)).setCell ⟨w.heap.size, 5, none⟩ (.int .u32 0)).setCell ⟨w.heap.size, 6, none⟩ (.int .u32 0)).setCell ⟨w.heap.size, 7, none⟩ (.int .u32 0)).setCell ⟨w.heap.size, 8, none⟩ (.int .u32 0)) = W9 at *
            have y0 : W9.cell? ⟨w.heap.size, 0, none⟩ = some (.int .u32 0) := lbox_cell (T := 273) HB9.out 0 0 rfl
            have y1 : W9.cell? ⟨w.heap.size, 1, none⟩ = some (.int .u32 0) := lbox_cell (T := 273) HB9.out 1 0 rfl
            have y2 : W9.cell? ⟨w.heap.size, 2, none⟩ = some (.int .u32 0) := lbox_cell (T := 273) HB9.out 2 0 rfl
            have y3 : W9.cell? ⟨w.heap.size, 3, none⟩ = some (.int .u32 0) := lbox_cell (T := 273) HB9.out 3 0 rfl
            have y4 : W9.cell? ⟨w.heap.size, 4, none⟩ = some (.int .u32 0) := lbox_cell (T := 273) HB9.out 4 0 rfl
            have y5 : W9.cell? ⟨w.heap.size, 5, none⟩ = some (.int .u32 0) := lbox_cell (T := 273) HB9.out 5 0 rfl
            have y6 : W9.cell? ⟨w.heap.size, 6, none⟩ = some (.int .u32 0) := lbox_cell (T := 273) HB9.out 6 0 rfl
            have y7 : W9.cell? ⟨w.heap.size, 7, none⟩ = some (.int .u32 0) := lbox_cell (T := 273) HB9.out 7 0 rfl
            have y8 : W9.cell? ⟨w.heap.size, 8, none⟩ = some (.int .u32 0) := lbox_cell (T := 273) HB9.out 8 0 rfl
            exact bodyPost_ret (v := encN (.error c)) (by
              unfold encN
              simp [results, Tryz.results188, go_sem, y0, y1, y2, y3, y4, y5, y6, y7, y8, Go.Proofs.YtnkdbpjmepfblaaGreatDoor.u32]) rfl ⟨rfl, HQ9.out⟩
        · have hj9' : j = 9 := by omega
          subst hj9'
          simp only [show ((9 : Nat) : Int) = 9 from rfl]
          obtain ⟨c0, c1, c2, c3, c4, c5, c6, c7, c8, rfl⟩ := list9 acc HLEN.out
          obtain ⟨rfl, rfl⟩ : Except.ok [c0, c1, c2, c3, c4, c5, c6, c7, c8] = r ∧ T = S' := by have := HPS.out; simpa [partsL] using this
          have HP9 := Lib.hid (show PM w w1.heap.size [c0, c1, c2, c3, c4, c5, c6, c7, c8] W0 from HP.out)
          have hno := HO.out.no HOL.out hs1
          have HNO := Lib.hid hno
          clear hno
          have q0 : W0.cell? ⟨w1.heap.size, 0, none⟩ = some (.int .u32 (c0 : Int)) := lbox_cell (T := 273) HP9.out.hN 0 c0 rfl
          have q1 : W0.cell? ⟨w1.heap.size, 1, none⟩ = some (.int .u32 (c1 : Int)) := lbox_cell (T := 273) HP9.out.hN 1 c1 rfl
          have q2 : W0.cell? ⟨w1.heap.size, 2, none⟩ = some (.int .u32 (c2 : Int)) := lbox_cell (T := 273) HP9.out.hN 2 c2 rfl
          have q3 : W0.cell? ⟨w1.heap.size, 3, none⟩ = some (.int .u32 (c3 : Int)) := lbox_cell (T := 273) HP9.out.hN 3 c3 rfl
          have q4 : W0.cell? ⟨w1.heap.size, 4, none⟩ = some (.int .u32 (c4 : Int)) := lbox_cell (T := 273) HP9.out.hN 4 c4 rfl
          have q5 : W0.cell? ⟨w1.heap.size, 5, none⟩ = some (.int .u32 (c5 : Int)) := lbox_cell (T := 273) HP9.out.hN 5 c5 rfl
          have q6 : W0.cell? ⟨w1.heap.size, 6, none⟩ = some (.int .u32 (c6 : Int)) := lbox_cell (T := 273) HP9.out.hN 6 c6 rfl
          have q7 : W0.cell? ⟨w1.heap.size, 7, none⟩ = some (.int .u32 (c7 : Int)) := lbox_cell (T := 273) HP9.out.hN 7 c7 rfl
          have q8 : W0.cell? ⟨w1.heap.size, 8, none⟩ = some (.int .u32 (c8 : Int)) := lbox_cell (T := 273) HP9.out.hN 8 c8 rfl
          have hB9 := set9_box (T := 273) HP9.out.hZ rfl c0 c1 c2 c3 c4 c5 c6 c7 c8
          have HF9 := (((((((((HF.out.setCell (a := ⟨w.heap.size, 0, none⟩) (Nat.le_refl _) (.int .u32 (c0 : Int))).setCell (a := ⟨w.heap.size, 1, none⟩) (Nat.le_refl _) (.int .u32 (c1 : Int))).setCell (a := ⟨w.heap.size, 2, none⟩) (Nat.le_refl _) (.int .u32 (c2 : Int))).setCell (a := ⟨w.heap.size, 3, none⟩) (Nat.le_refl _) (.int .u32 (c3 : Int))).setCell (a := ⟨w.heap.size, 4, none⟩) (Nat.le_refl _) (.int .u32 (c4 : Int))).setCell (a := ⟨w.heap.size, 5, none⟩) (Nat.le_refl _) (.int .u32 (c5 : Int))).setCell (a := ⟨w.heap.size, 6, none⟩) (Nat.le_refl _) (.int .u32 (c6 : Int))).setCell (a := ⟨w.heap.size, 7, none⟩) (Nat.le_refl _) (.int .u32 (c7 : Int))).setCell (a := ⟨w.heap.size, 8, none⟩) (Nat.le_refl _) (.int .u32 (c8 : Int)))
          have hN9 := fun c (hc : c ≠ w.heap.size) => set9_ne (w := W0) hc c0 c1 c2 c3 c4 c5 c6 c7 c8
          have hno9 := HNO.out
          have hnk := HNK.out
          have hS9 : W0.heap.size ≤ (((((((((W0.setCell ⟨w.heap.size, 0, none⟩ (.int .u32 (c0 : Int))).setCell ⟨w.heap.size, 1, none⟩ (.int .u32 (c1 : Int))).setCell ⟨w.heap.size, 2, none⟩ (.int .u32 (c2 : Int))).setCell ⟨w.heap.size, 3, none⟩ (.int .u32 (c3 : Int))).setCell ⟨w.heap.size, 4, none⟩ (.int .u32 (c4 : Int))).setCell ⟨w.heap.size, 5, none⟩ (.int .u32 (c5 : Int))).setCell ⟨w.heap.size, 6, none⟩ (.int .u32 (c6 : Int))).setCell ⟨w.heap.size, 7, none⟩ (.int .u32 (c7 : Int))).setCell ⟨w.heap.size, 8, none⟩ (.int .u32 (c8 : Int))).heap.size := by simp
          (try simp only [show ((0 : Nat) : Int) = 0 from rfl] at hB9 hN9)
          have HB9 := Lib.hid hB9
          have hL9 : LW (((((((((W0.setCell ⟨w.heap.size, 0, none⟩ (.int .u32 (c0 : Int))).setCell ⟨w.heap.size, 1, none⟩ (.int .u32 (c1 : Int))).setCell ⟨w.heap.size, 2, none⟩ (.int .u32 (c2 : Int))).setCell ⟨w.heap.size, 3, none⟩ (.int .u32 (c3 : Int))).setCell ⟨w.heap.size, 4, none⟩ (.int .u32 (c4 : Int))).setCell ⟨w.heap.size, 5, none⟩ (.int .u32 (c5 : Int))).setCell ⟨w.heap.size, 6, none⟩ (.int .u32 (c6 : Int))).setCell ⟨w.heap.size, 7, none⟩ (.int .u32 (c7 : Int))).setCell ⟨w.heap.size, 8, none⟩ (.int .u32 (c8 : Int))) I N T oB := HL.out.keepN hS9 (fun b hb => hN9 b (by
            intro e; subst e
            rcases hb with h1 | h1 | h1
            · exact hnk.1 h1.symm
            · exact hno9.1 h1
            · exact hnk.2 h1))
          have HQ9 := Lib.hid (show LPost w I N T oA (((((((((W0.setCell ⟨w.heap.size, 0, none⟩ (.int .u32 (c0 : Int))).setCell ⟨w.heap.size, 1, none⟩ (.int .u32 (c1 : Int))).setCell ⟨w.heap.size, 2, none⟩ (.int .u32 (c2 : Int))).setCell ⟨w.heap.size, 3, none⟩ (.int .u32 (c3 : Int))).setCell ⟨w.heap.size, 4, none⟩ (.int .u32 (c4 : Int))).setCell ⟨w.heap.size, 5, none⟩ (.int .u32 (c5 : Int))).setCell ⟨w.heap.size, 6, none⟩ (.int .u32 (c6 : Int))).setCell ⟨w.heap.size, 7, none⟩ (.int .u32 (c7 : Int))).setCell ⟨w.heap.size, 8, none⟩ (.int .u32 (c8 : Int))) from ⟨oB, hL9, HF9⟩)
          clear hB9 HF9 hN9 hL9 hno9 hS9 hnk
          have hz : ∀ k, W0.frozen? ⟨w.heap.size, k, none⟩ = false := fun k => lbox_fz (T := 273) HP9.out.hZ k
          have z0 : W0.cell? ⟨w.heap.size, 0, none⟩ = some (.int .u32 0) := lbox_cell (T := 273) HP9.out.hZ 0 0 rfl
          have z1 : W0.cell? ⟨w.heap.size, 1, none⟩ = some (.int .u32 0) := lbox_cell (T := 273) HP9.out.hZ 1 0 rfl
          have z2 : W0.cell? ⟨w.heap.size, 2, none⟩ = some (.int .u32 0) := lbox_cell (T := 273) HP9.out.hZ 2 0 rfl
          have z3 : W0.cell? ⟨w.heap.size, 3, none⟩ = some (.int .u32 0) := lbox_cell (T := 273) HP9.out.hZ 3 0 rfl
          have z4 : W0.cell? ⟨w.heap.size, 4, none⟩ = some (.int .u32 0) := lbox_cell (T := 273) HP9.out.hZ 4 0 rfl
          have z5 : W0.cell? ⟨w.heap.size, 5, none⟩ = some (.int .u32 0) := lbox_cell (T := 273) HP9.out.hZ 5 0 rfl
          have z6 : W0.cell? ⟨w.heap.size, 6, none⟩ = some (.int .u32 0) := lbox_cell (T := 273) HP9.out.hZ 6 0 rfl
          have z7 : W0.cell? ⟨w.heap.size, 7, none⟩ = some (.int .u32 0) := lbox_cell (T := 273) HP9.out.hZ 7 0 rfl
          have z8 : W0.cell? ⟨w.heap.size, 8, none⟩ = some (.int .u32 0) := lbox_cell (T := 273) HP9.out.hZ 8 0 rfl
          have hbne : ¬ w1.heap.size = w.heap.size := by omega
          have hbne2 : ¬ w.heap.size = w1.heap.size := by omega
          go_wp2_with fail
          generalize (((((((((W0.setCell ⟨w.heap.size, 0, none⟩ (.int .u32 (c0 : Int))).setCell ⟨w.heap.size, 1, none⟩ (.int .u32 (c1 : Int))).setCell ⟨w.heap.size, 2, none⟩ (.int .u32 (c2 : Int))).setCell ⟨w.heap.size, 3, none⟩ (.int .u32 (c3 : Int))).setCell ⟨w.heap.size, 4, none⟩ (.int .u32 (c4 : Int))).setCell ⟨w.heap.size, 5, none⟩ (.int .u32 (c5 : Int))).setCell ⟨w.heap.size, 6, none⟩ (.int .u32 (c6 : Int))).setCell ⟨w.heap.size, 7, none⟩ (.int .u32 (c7 : Int))).setCell ⟨w.heap.size, 8, none⟩ (.int .u32 (c8 : Int))) = W9 at *
          have y0 : W9.cell? ⟨w.heap.size, 0, none⟩ = some (.int .u32 (c0 : Int)) := lbox_cell (T := 273) HB9.out 0 c0 rfl
          have y1 : W9.cell? ⟨w.heap.size, 1, none⟩ = some (.int .u32 (c1 : Int)) := lbox_cell (T := 273) HB9.out 1 c1 rfl
          have y2 : W9.cell? ⟨w.heap.size, 2, none⟩ = some (.int .u32 (c2 : Int)) := lbox_cell (T := 273) HB9.out 2 c2 rfl
          have y3 : W9.cell? ⟨w.heap.size, 3, none⟩ = some (.int .u32 (c3 : Int)) := lbox_cell (T := 273) HB9.out 3 c3 rfl
          have y4 : W9.cell? ⟨w.heap.size, 4, none⟩ = some (.int .u32 (c4 : Int)) := lbox_cell (T := 273) HB9.out 4 c4 rfl
          have y5 : W9.cell? ⟨w.heap.size, 5, none⟩ = some (.int .u32 (c5 : Int)) := lbox_cell (T := 273) HB9.out 5 c5 rfl
          have y6 : W9.cell? ⟨w.heap.size, 6, none⟩ = some (.int .u32 (c6 : Int)) := lbox_cell (T := 273) HB9.out 6 c6 rfl
          have y7 : W9.cell? ⟨w.heap.size, 7, none⟩ = some (.int .u32 (c7 : Int)) := lbox_cell (T := 273) HB9.out 7 c7 rfl
          have y8 : W9.cell? ⟨w.heap.size, 8, none⟩ = some (.int .u32 (c8 : Int)) := lbox_cell (T := 273) HB9.out 8 c8 rfl
          exact bodyPost_ret (v := encN (.ok [c0, c1, c2, c3, c4, c5, c6, c7, c8])) (by
            unfold encN
            simp [results, Tryz.results188, go_sem, y0, y1, y2, y3, y4, y5, y6, y7, y8, Go.Proofs.YtnkdbpjmepfblaaGreatDoor.u32]) rfl ⟨rfl, HQ9.out⟩
    · have HFB := Lib.hid hfull
      have hfb : ((e : Int) == (d : Int) + 2) = false := by simp; omega
      have hpf : ∀ k T, partF (decide (e = d + 2)) (fun k T => resF N d k (if e = d + 2 then e - 1 else e) T) k T = T.up (T.A.centre k) := fun k T => by
        unfold partF; simp [HFB.out]
      have HPF := Lib.hid hpf
      clear hfull hpf
      go_wp2_with fail
      refine HLW2.out.mono ?_
      rintro e w' ⟨rfl, rfl⟩
      rw [HLV.out, show ((d + 4 : Nat) : Int) = (d : Int) + 4 by omega]
      clear z0 z1 z2 z3 z4 z5 z6 z7 z8 hz hc0 hc1 hlb hlb1 HLW2
      generalize (w1.alloc (.cells #[.int .u32 a0, .int .u32 a1, .int .u32 a2, .int .u32 a3, .int .u32 a4, .int .u32 a5, .int .u32 a6, .int .u32 a7, .int .u32 a8] 273)) = W2 at *
      have q0 : W2.cell? ⟨w1.heap.size, 0, none⟩ = some (.int .u32 a0) := lbox_cell (T := 273) HP.out.hN 0 a0 rfl
      have q1 : W2.cell? ⟨w1.heap.size, 1, none⟩ = some (.int .u32 a1) := lbox_cell (T := 273) HP.out.hN 1 a1 rfl
      have q2 : W2.cell? ⟨w1.heap.size, 2, none⟩ = some (.int .u32 a2) := lbox_cell (T := 273) HP.out.hN 2 a2 rfl
      have q3 : W2.cell? ⟨w1.heap.size, 3, none⟩ = some (.int .u32 a3) := lbox_cell (T := 273) HP.out.hN 3 a3 rfl
      have q4 : W2.cell? ⟨w1.heap.size, 4, none⟩ = some (.int .u32 a4) := lbox_cell (T := 273) HP.out.hN 4 a4 rfl
      have q5 : W2.cell? ⟨w1.heap.size, 5, none⟩ = some (.int .u32 a5) := lbox_cell (T := 273) HP.out.hN 5 a5 rfl
      have q6 : W2.cell? ⟨w1.heap.size, 6, none⟩ = some (.int .u32 a6) := lbox_cell (T := 273) HP.out.hN 6 a6 rfl
      have q7 : W2.cell? ⟨w1.heap.size, 7, none⟩ = some (.int .u32 a7) := lbox_cell (T := 273) HP.out.hN 7 a7 rfl
      have q8 : W2.cell? ⟨w1.heap.size, 8, none⟩ = some (.int .u32 a8) := lbox_cell (T := 273) HP.out.hN 8 a8 rfl
      have hcl := HL2.out.c.1
      go_wp2_with fail
      clear q0 q1 q2 q3 q4 q5 q6 q7 q8 hcl
      go_loopw [36] (fun v wr => ∃ (j : Nat) (acc : List Nat) (T : Lf) (oB : List Nat), j ≤ 9 ∧ v = .int .i64 j ∧ acc.length = j ∧ T.valid N ∧ LW wr I N T oB ∧ Fr w (I.own oA) wr (I.own oB) ∧ OwnO w w1.heap.size oA oB ∧
          PM w w1.heap.size (acc ++ ([a0, a1, a2, a3, a4, a5, a6, a7, a8]).drop j) wr ∧ partsL (partF (decide (e = d + 2)) (fun k T => resF N d k (if e = d + 2 then e - 1 else e) T)) (([a0, a1, a2, a3, a4, a5, a6, a7, a8] : List Nat).drop j) acc T = some (r, S') ∧ ∀ k ∈ ([a0, a1, a2, a3, a4, a5, a6, a7, a8] : List Nat), T.A.level k = (d + 3 : Nat)) (fun v _ => 9 - (intOf v).toNat)
      case atStart =>
        exact ⟨0, [], ⟨A1, S.L⟩, o1, by omega, rfl, rfl, HN.out.valid, HL2.out, HF2.out, HO2.out, HP.out, HJ2.out, (HN.out.ok _ rfl).2⟩
      case round =>
        clear HL2 HF2 HO2 HP HJ2 HLV HL1 HFR1 HN HX
        obtain ⟨j, acc, T, oB, hj, rfl, hlen, hT, hL, hF, hO, hP, hps, hlv⟩ := hrel
        obtain ⟨W0, rfl⟩ : ∃ W0, W0 = wr := ⟨_, rfl⟩
        have HLEN := Lib.hid hlen
        have HT := Lib.hid hT
        have HL := Lib.hid hL
        have HF := Lib.hid hF
        have HO := Lib.hid hO
        have HP := Lib.hid hP
        have HPS := Lib.hid hps
        have HLVS := Lib.hid hlv
        clear hlen hT hL hF hO hP hps hlv
        by_cases hj9 : j < 9
        · have hj9i : (j : Int) < 9 := by omega
          obtain ⟨kj, hkj⟩ : ∃ kj, kj = ([a0, a1, a2, a3, a4, a5, a6, a7, a8] : List Nat).getD j 0 := ⟨_, rfl⟩
          have hdrop : ([a0, a1, a2, a3, a4, a5, a6, a7, a8] : List Nat).drop j = kj :: ([a0, a1, a2, a3, a4, a5, a6, a7, a8] : List Nat).drop (j + 1) := by
            rw [List.drop_eq_getElem_cons (by simpa using hj9), hkj]; simp [List.getD_eq_getElem?_getD, hj9]
          have hmem : kj ∈ ([a0, a1, a2, a3, a4, a5, a6, a7, a8] : List Nat) := by rw [hkj]; simp only [List.getD_eq_getElem?_getD, List.getElem?_eq_getElem (show j < ([a0, a1, a2, a3, a4, a5, a6, a7, a8] : List Nat).length by simpa using hj9)]; exact List.getElem_mem _
          have hix := fun w => idx273 [a0, a1, a2, a3, a4, a5, a6, a7, a8] rfl j hj9 w
          simp only [List.map_cons, List.map_nil, Go.Proofs.YtnkdbpjmepfblaaGreatDoor.u32] at hix
          rw [← hkj] at hix
          have hkl := HLVS.out _ hmem
          have hk32 : kj < 4294967296 := Ar.level_lt' HT.out.wf hkl
          have HKL := Lib.hid hkl
          have HDR := Lib.hid hdrop
          have hps := HPS.out
          rw [hdrop] at hps
          simp only [partsL] at hps
          rw [HPF.out] at hps
          clear hkj hdrop hmem hkl
          obtain ⟨r1, T1, hx⟩ : ∃ r1 T1, T.up (T.A.centre kj) = some (r1, T1) := by
            cases hx : T.up (T.A.centre kj) with
            | none => rw [hx] at hps; cases hps
            | some y => exact ⟨y.1, y.2, rfl⟩
          rw [hx] at hps
          have HNX := Lib.hid (centre_next HT.out HKL.out hx)
          have HX := Lib.hid hx
          have HPS2 := Lib.hid hps
          have hno := HO.out.no HOL.out hs1
          have HNO := Lib.hid hno
          clear hx hps HPS hno
          have hcl := HL.out.c.1
          obtain ⟨B1, hB1, hT1⟩ : ∃ B1, T.A.centre kj = some (r1, B1) ∧ T1 = ⟨B1, T.L⟩ := by
            have := HX.out
            simp only [Lf.up, Option.map_eq_some_iff, Prod.mk.injEq, Prod.exists] at this
            obtain ⟨a, b, h1, rfl, rfl⟩ := this
            exact ⟨b, h1, rfl⟩
          have HCW := Lib.hid (centre_w HL.out.arena kj hk32 hB1)
          have HT1 := Lib.hid hT1
          clear hB1 hT1
          go_wp2_with fail
          refine HCW.out.mono ?_
          rintro e1 w5 ⟨rfl, hq⟩
          obtain ⟨oC, hL5, hF5⟩ := (show ∃ oC, LW w5 I N T1 oC ∧ Fr W0 (I.own oB) w5 (I.own oC) from by obtain ⟨oC, h1, h2⟩ := hq; rw [HT1.out]; exact ⟨oC, HL.out.arena' h1 h2⟩)
          have hd2 := hL5.d2
          have HO5 := Lib.hid (HO.out.step HOL.out hF5 hs1 HP.out.lt ⟨hd2.2.1, hd2.2.2.1, hd2.2.2.2⟩)
          have HP5 := Lib.hid (HP.out.fr hF5 HNO.out.1 HNO.out.2)
          have HF5 := Lib.hid (HF.out.trans hF5)
          have HL5 := Lib.hid hL5
          try clear hq
          clear hL5 hF5 hd2 hix hcl HP HF HL HO HCW
          have hb9 : (acc ++ ([a0, a1, a2, a3, a4, a5, a6, a7, a8] : List Nat).drop j)[j]? = some kj := by rw [HDR.out, List.getElem?_append_right (by rw [HLEN.out]; exact Nat.le_refl _), HLEN.out, Nat.sub_self]; rfl
          have hcb : w5.cell? ⟨w1.heap.size, j, none⟩ = some (.int .u32 (kj : Int)) := lbox_cell (T := 273) HP5.out.hN _ _ hb9
          have hfb9 : w5.frozen? ⟨w1.heap.size, j, none⟩ = false := lbox_fz (T := 273) HP5.out.hN j
          have hset : ∀ v, (acc ++ ([a0, a1, a2, a3, a4, a5, a6, a7, a8] : List Nat).drop j).set j v = (acc ++ [v]) ++ ([a0, a1, a2, a3, a4, a5, a6, a7, a8] : List Nat).drop (j + 1) := fun v => by
            rw [HDR.out, List.set_append_right _ _ (by rw [HLEN.out]; exact Nat.le_refl _), HLEN.out, Nat.sub_self, List.set_cons_zero, List.append_assoc]; rfl
          have HSET := Lib.hid hset
          have hno5 := HO5.out.no HOL.out hs1
          have HNO5 := Lib.hid hno5
          clear hb9 hset hno5
          cases r1 with
          | ok jj =>
            have hP6 := HP5.out.set j jj
            rw [HSET.out] at hP6
            have HP6 := Lib.hid hP6
            have HL6 := Lib.hid (HL5.out.setNew (a := ⟨w1.heap.size, j, none⟩) (fun e => HNK8.out.1 e.symm) HNO5.out.2 HNK8.out.2 (.int .u32 (jj : Int)))
            have HF6 := Lib.hid (HF5.out.setCell (a := ⟨w1.heap.size, j, none⟩) (Nat.le_of_lt hs1) (.int .u32 (jj : Int)))
            clear hP6
            simp only [encR, okV]
            go_wp2_with fail
            generalize w5.setCell ⟨w1.heap.size, j, none⟩ (.int .u32 (jj : Int)) = W6 at *
            go_wp2_with fail
            refine ⟨⟨j + 1, acc ++ [jj], T1, oC, by omega, rfl, by rw [List.length_append, HLEN.out]; rfl, HNX.out.valid, HL6.out, HF6.out, HO5.out, HP6.out, HPS2.out, fun k hk => HNX.out.le.level' (HLVS.out k hk)⟩, by simp only [intOf]; omega⟩
          | error c =>
            obtain ⟨rfl, rfl⟩ : Except.error c = r ∧ T1 = S' := by have := HPS2.out; simpa [gbind] using this
            have hP6 := HP5.out.set j 0
            rw [HSET.out] at hP6
            simp only [show ((0 : Nat) : Int) = 0 from rfl] at hP6
            have HP6 := Lib.hid hP6
            have HL6 := Lib.hid (HL5.out.setNew (a := ⟨w1.heap.size, j, none⟩) (fun e => HNK8.out.1 e.symm) HNO5.out.2 HNK8.out.2 (.int .u32 0))
            have HF6 := Lib.hid (HF5.out.setCell (a := ⟨w1.heap.size, j, none⟩) (Nat.le_of_lt hs1) (.int .u32 0))
            clear hP6
            simp only [encR, errV]
            have hB9 := set9_box (T := 273) HP6.out.hZ rfl 0 0 0 0 0 0 0 0 0
            have HF9 := (((((((((HF6.out.setCell (a := ⟨w.heap.size, 0, none⟩) (Nat.le_refl _) (.int .u32 0)).setCell (a := ⟨w.heap.size, 1, none⟩) (Nat.le_refl _) (.int .u32 0)).setCell (a := ⟨w.heap.size, 2, none⟩) (Nat.le_refl _) (.int .u32 0)).setCell (a := ⟨w.heap.size, 3, none⟩) (Nat.le_refl _) (.int .u32 0)).setCell (a := ⟨w.heap.size, 4, none⟩) (Nat.le_refl _) (.int .u32 0)).setCell (a := ⟨w.heap.size, 5, none⟩) (Nat.le_refl _) (.int .u32 0)).setCell (a := ⟨w.heap.size, 6, none⟩) (Nat.le_refl _) (.int .u32 0)).setCell (a := ⟨w.heap.size, 7, none⟩) (Nat.le_refl _) (.int .u32 0)).setCell (a := ⟨w.heap.size, 8, none⟩) (Nat.le_refl _) (.int .u32 0))
            have hN9 := fun c (hc : c ≠ w.heap.size) => set9_ne (w := (w5.setCell ⟨w1.heap.size, j, none⟩ (.int .u32 0))) hc 0 0 0 0 0 0 0 0 0
            have hno9 := HNO5.out
            have hnk := HNK.out
            have hS9 : (w5.setCell ⟨w1.heap.size, j, none⟩ (.int .u32 0)).heap.size ≤ ((((((((((w5.setCell ⟨w1.heap.size, j, none⟩ (.int .u32 0)).setCell ⟨w.heap.size, 0, none⟩ (.int .u32 0)).setCell ⟨w.heap.size, 1, none⟩ (.int .u32 0)).setCell ⟨w.heap.size, 2, none⟩ (.int .u32 0)).setCell ⟨w.heap.size, 3, none⟩ (.int .u32 0)).setCell ⟨w.heap.size, 4, none⟩ (.int .u32 0)).setCell ⟨w.heap.size, 5, none⟩ (.int .u32 0)).setCell ⟨w.heap.size, 6, none⟩ (.int .u32 0)).setCell ⟨w.heap.size, 7, none⟩ (.int .u32 0)).setCell ⟨w.heap.size, 8, none⟩ (.int .u32 0)).heap.size := by simp
            (try simp only [show ((0 : Nat) : Int) = 0 from rfl] at hB9 hN9)
            have HB9 := Lib.hid hB9
            have hL9 : LW ((((((((((w5.setCell ⟨w1.heap.size, j, none⟩ (.int .u32 0)).setCell ⟨w.heap.size, 0, none⟩ (.int .u32 0)).setCell ⟨w.heap.size, 1, none⟩ (.int .u32 0)).setCell ⟨w.heap.size, 2, none⟩ (.int .u32 0)).setCell ⟨w.heap.size, 3, none⟩ (.int .u32 0)).setCell ⟨w.heap.size, 4, none⟩ (.int .u32 0)).setCell ⟨w.heap.size, 5, none⟩ (.int .u32 0)).setCell ⟨w.heap.size, 6, none⟩ (.int .u32 0)).setCell ⟨w.heap.size, 7, none⟩ (.int .u32 0)).setCell ⟨w.heap.size, 8, none⟩ (.int .u32 0)) I N T1 oC := HL6.out.keepN hS9 (fun b hb => hN9 b (by
              intro e; subst e
              rcases hb with h1 | h1 | h1
              · exact hnk.1 h1.symm
              · exact hno9.1 h1
              · exact hnk.2 h1))
            have HQ9 := Lib.hid (show LPost w I N T1 oA ((((((((((w5.setCell ⟨w1.heap.size, j, none⟩ (.int .u32 0)).setCell ⟨w.heap.size, 0, none⟩ (.int .u32 0)).setCell ⟨w.heap.size, 1, none⟩ (.int .u32 0)).setCell ⟨w.heap.size, 2, none⟩ (.int .u32 0)).setCell ⟨w.heap.size, 3, none⟩ (.int .u32 0)).setCell ⟨w.heap.size, 4, none⟩ (.int .u32 0)).setCell ⟨w.heap.size, 5, none⟩ (.int .u32 0)).setCell ⟨w.heap.size, 6, none⟩ (.int .u32 0)).setCell ⟨w.heap.size, 7, none⟩ (.int .u32 0)).setCell ⟨w.heap.size, 8, none⟩ (.int .u32 0)) from ⟨oC, hL9, HF9⟩)
            clear hB9 HF9 hN9 hL9 hno9 hS9 hnk
            have hz : ∀ k, w5.frozen? ⟨w.heap.size, k, none⟩ = false := fun k => lbox_fz (T := 273) HP5.out.hZ k
            have z0 : w5.cell? ⟨w.heap.size, 0, none⟩ = some (.int .u32 0) := lbox_cell (T := 273) HP5.out.hZ 0 0 rfl
            have z1 : w5.cell? ⟨w.heap.size, 1, none⟩ = some (.int .u32 0) := lbox_cell (T := 273) HP5.out.hZ 1 0 rfl
            have z2 : w5.cell? ⟨w.heap.size, 2, none⟩ = some (.int .u32 0) := lbox_cell (T := 273) HP5.out.hZ 2 0 rfl
            have z3 : w5.cell? ⟨w.heap.size, 3, none⟩ = some (.int .u32 0) := lbox_cell (T := 273) HP5.out.hZ 3 0 rfl
            have z4 : w5.cell? ⟨w.heap.size, 4, none⟩ = some (.int .u32 0) := lbox_cell (T := 273) HP5.out.hZ 4 0 rfl
            have z5 : w5.cell? ⟨w.heap.size, 5, none⟩ = some (.int .u32 0) := lbox_cell (T := 273) HP5.out.hZ 5 0 rfl
            have z6 : w5.cell? ⟨w.heap.size, 6, none⟩ = some (.int .u32 0) := lbox_cell (T := 273) HP5.out.hZ 6 0 rfl
            have z7 : w5.cell? ⟨w.heap.size, 7, none⟩ = some (.int .u32 0) := lbox_cell (T := 273) HP5.out.hZ 7 0 rfl
            have z8 : w5.cell? ⟨w.heap.size, 8, none⟩ = some (.int .u32 0) := lbox_cell (T := 273) HP5.out.hZ 8 0 rfl
            have hbne : ¬ w1.heap.size = w.heap.size := by omega
            have hbne2 : ¬ w.heap.size = w1.heap.size := by omega
            go_wp2_with fail
            generalize ((((((((((w5.setCell ⟨w1.heap.size, j, none⟩ (.int .u32 0)).setCell ⟨w.heap.size, 0, none⟩ (.int .u32 0)).setCell ⟨w.heap.size, 1, none⟩ (.int .u32 0)).setCell ⟨w.heap.size, 2, none⟩ (.int .u32 0)).setCell ⟨w.heap.size, 3, none⟩ (.int .u32 0)).setCell ⟨w.heap.size, 4, none⟩ (.int .u32 0)).setCell ⟨w.heap.size, 5, none⟩ (.int .u32 0)).setCell ⟨w.heap.size, 6, none⟩ (.int .u32 0)).setCell ⟨w.heap.size, 7, none⟩ (.int .u32 0)).setCell ⟨w.heap.size, 8, none⟩ (.int .u32 0)) = W9 at *
            have y0 : W9.cell? ⟨w.heap.size, 0, none⟩ = some (.int .u32 0) := lbox_cell (T := 273) HB9.out 0 0 rfl
            have y1 : W9.cell? ⟨w.heap.size, 1, none⟩ = some (.int .u32 0) := lbox_cell (T := 273) HB9.out 1 0 rfl
            have y2 : W9.cell? ⟨w.heap.size, 2, none⟩ = some (.int .u32 0) := lbox_cell (T := 273) HB9.out 2 0 rfl
            have y3 : W9.cell? ⟨w.heap.size, 3, none⟩ = some (.int .u32 0) := lbox_cell (T := 273) HB9.out 3 0 rfl
            have y4 : W9.cell? ⟨w.heap.size, 4, none⟩ = some (.int .u32 0) := lbox_cell (T := 273) HB9.out 4 0 rfl
            have y5 : W9.cell? ⟨w.heap.size, 5, none⟩ = some (.int .u32 0) := lbox_cell (T := 273) HB9.out 5 0 rfl
            have y6 : W9.cell? ⟨w.heap.size, 6, none⟩ = some (.int .u32 0) := lbox_cell (T := 273) HB9.out 6 0 rfl
            have y7 : W9.cell? ⟨w.heap.size, 7, none⟩ = some (.int .u32 0) := lbox_cell (T := 273) HB9.out 7 0 rfl
            have y8 : W9.cell? ⟨w.heap.size, 8, none⟩ = some (.int .u32 0) := lbox_cell (T := 273) HB9.out 8 0 rfl
            exact bodyPost_ret (v := encN (.error c)) (by
              unfold encN
              simp [results, Tryz.results188, go_sem, y0, y1, y2, y3, y4, y5, y6, y7, y8, Go.Proofs.YtnkdbpjmepfblaaGreatDoor.u32]) rfl ⟨rfl, HQ9.out⟩
        · have hj9' : j = 9 := by omega
          subst hj9'
          simp only [show ((9 : Nat) : Int) = 9 from rfl]
          obtain ⟨c0, c1, c2, c3, c4, c5, c6, c7, c8, rfl⟩ := list9 acc HLEN.out
          obtain ⟨rfl, rfl⟩ : Except.ok [c0, c1, c2, c3, c4, c5, c6, c7, c8] = r ∧ T = S' := by have := HPS.out; simpa [partsL] using this
          have HP9 := Lib.hid (show PM w w1.heap.size [c0, c1, c2, c3, c4, c5, c6, c7, c8] W0 from HP.out)
          have hno := HO.out.no HOL.out hs1
          have HNO := Lib.hid hno
          clear hno
          have q0 : W0.cell? ⟨w1.heap.size, 0, none⟩ = some (.int .u32 (c0 : Int)) := lbox_cell (T := 273) HP9.out.hN 0 c0 rfl
          have q1 : W0.cell? ⟨w1.heap.size, 1, none⟩ = some (.int .u32 (c1 : Int)) := lbox_cell (T := 273) HP9.out.hN 1 c1 rfl
          have q2 : W0.cell? ⟨w1.heap.size, 2, none⟩ = some (.int .u32 (c2 : Int)) := lbox_cell (T := 273) HP9.out.hN 2 c2 rfl
          have q3 : W0.cell? ⟨w1.heap.size, 3, none⟩ = some (.int .u32 (c3 : Int)) := lbox_cell (T := 273) HP9.out.hN 3 c3 rfl
          have q4 : W0.cell? ⟨w1.heap.size, 4, none⟩ = some (.int .u32 (c4 : Int)) := lbox_cell (T := 273) HP9.out.hN 4 c4 rfl
          have q5 : W0.cell? ⟨w1.heap.size, 5, none⟩ = some (.int .u32 (c5 : Int)) := lbox_cell (T := 273) HP9.out.hN 5 c5 rfl
          have q6 : W0.cell? ⟨w1.heap.size, 6, none⟩ = some (.int .u32 (c6 : Int)) := lbox_cell (T := 273) HP9.out.hN 6 c6 rfl
          have q7 : W0.cell? ⟨w1.heap.size, 7, none⟩ = some (.int .u32 (c7 : Int)) := lbox_cell (T := 273) HP9.out.hN 7 c7 rfl
          have q8 : W0.cell? ⟨w1.heap.size, 8, none⟩ = some (.int .u32 (c8 : Int)) := lbox_cell (T := 273) HP9.out.hN 8 c8 rfl
          have hB9 := set9_box (T := 273) HP9.out.hZ rfl c0 c1 c2 c3 c4 c5 c6 c7 c8
          have HF9 := (((((((((HF.out.setCell (a := ⟨w.heap.size, 0, none⟩) (Nat.le_refl _) (.int .u32 (c0 : Int))).setCell (a := ⟨w.heap.size, 1, none⟩) (Nat.le_refl _) (.int .u32 (c1 : Int))).setCell (a := ⟨w.heap.size, 2, none⟩) (Nat.le_refl _) (.int .u32 (c2 : Int))).setCell (a := ⟨w.heap.size, 3, none⟩) (Nat.le_refl _) (.int .u32 (c3 : Int))).setCell (a := ⟨w.heap.size, 4, none⟩) (Nat.le_refl _) (.int .u32 (c4 : Int))).setCell (a := ⟨w.heap.size, 5, none⟩) (Nat.le_refl _) (.int .u32 (c5 : Int))).setCell (a := ⟨w.heap.size, 6, none⟩) (Nat.le_refl _) (.int .u32 (c6 : Int))).setCell (a := ⟨w.heap.size, 7, none⟩) (Nat.le_refl _) (.int .u32 (c7 : Int))).setCell (a := ⟨w.heap.size, 8, none⟩) (Nat.le_refl _) (.int .u32 (c8 : Int)))
          have hN9 := fun c (hc : c ≠ w.heap.size) => set9_ne (w := W0) hc c0 c1 c2 c3 c4 c5 c6 c7 c8
          have hno9 := HNO.out
          have hnk := HNK.out
          have hS9 : W0.heap.size ≤ (((((((((W0.setCell ⟨w.heap.size, 0, none⟩ (.int .u32 (c0 : Int))).setCell ⟨w.heap.size, 1, none⟩ (.int .u32 (c1 : Int))).setCell ⟨w.heap.size, 2, none⟩ (.int .u32 (c2 : Int))).setCell ⟨w.heap.size, 3, none⟩ (.int .u32 (c3 : Int))).setCell ⟨w.heap.size, 4, none⟩ (.int .u32 (c4 : Int))).setCell ⟨w.heap.size, 5, none⟩ (.int .u32 (c5 : Int))).setCell ⟨w.heap.size, 6, none⟩ (.int .u32 (c6 : Int))).setCell ⟨w.heap.size, 7, none⟩ (.int .u32 (c7 : Int))).setCell ⟨w.heap.size, 8, none⟩ (.int .u32 (c8 : Int))).heap.size := by simp
          (try simp only [show ((0 : Nat) : Int) = 0 from rfl] at hB9 hN9)
          have HB9 := Lib.hid hB9
          have hL9 : LW (((((((((W0.setCell ⟨w.heap.size, 0, none⟩ (.int .u32 (c0 : Int))).setCell ⟨w.heap.size, 1, none⟩ (.int .u32 (c1 : Int))).setCell ⟨w.heap.size, 2, none⟩ (.int .u32 (c2 : Int))).setCell ⟨w.heap.size, 3, none⟩ (.int .u32 (c3 : Int))).setCell ⟨w.heap.size, 4, none⟩ (.int .u32 (c4 : Int))).setCell ⟨w.heap.size, 5, none⟩ (.int .u32 (c5 : Int))).setCell ⟨w.heap.size, 6, none⟩ (.int .u32 (c6 : Int))).setCell ⟨w.heap.size, 7, none⟩ (.int .u32 (c7 : Int))).setCell ⟨w.heap.size, 8, none⟩ (.int .u32 (c8 : Int))) I N T oB := HL.out.keepN hS9 (fun b hb => hN9 b (by
            intro e; subst e
            rcases hb with h1 | h1 | h1
            · exact hnk.1 h1.symm
            · exact hno9.1 h1
            · exact hnk.2 h1))
          have HQ9 := Lib.hid (show LPost w I N T oA (((((((((W0.setCell ⟨w.heap.size, 0, none⟩ (.int .u32 (c0 : Int))).setCell ⟨w.heap.size, 1, none⟩ (.int .u32 (c1 : Int))).setCell ⟨w.heap.size, 2, none⟩ (.int .u32 (c2 : Int))).setCell ⟨w.heap.size, 3, none⟩ (.int .u32 (c3 : Int))).setCell ⟨w.heap.size, 4, none⟩ (.int .u32 (c4 : Int))).setCell ⟨w.heap.size, 5, none⟩ (.int .u32 (c5 : Int))).setCell ⟨w.heap.size, 6, none⟩ (.int .u32 (c6 : Int))).setCell ⟨w.heap.size, 7, none⟩ (.int .u32 (c7 : Int))).setCell ⟨w.heap.size, 8, none⟩ (.int .u32 (c8 : Int))) from ⟨oB, hL9, HF9⟩)
          clear hB9 HF9 hN9 hL9 hno9 hS9 hnk
          have hz : ∀ k, W0.frozen? ⟨w.heap.size, k, none⟩ = false := fun k => lbox_fz (T := 273) HP9.out.hZ k
          have z0 : W0.cell? ⟨w.heap.size, 0, none⟩ = some (.int .u32 0) := lbox_cell (T := 273) HP9.out.hZ 0 0 rfl
          have z1 : W0.cell? ⟨w.heap.size, 1, none⟩ = some (.int .u32 0) := lbox_cell (T := 273) HP9.out.hZ 1 0 rfl
          have z2 : W0.cell? ⟨w.heap.size, 2, none⟩ = some (.int .u32 0) := lbox_cell (T := 273) HP9.out.hZ 2 0 rfl
          have z3 : W0.cell? ⟨w.heap.size, 3, none⟩ = some (.int .u32 0) := lbox_cell (T := 273) HP9.out.hZ 3 0 rfl
          have z4 : W0.cell? ⟨w.heap.size, 4, none⟩ = some (.int .u32 0) := lbox_cell (T := 273) HP9.out.hZ 4 0 rfl
          have z5 : W0.cell? ⟨w.heap.size, 5, none⟩ = some (.int .u32 0) := lbox_cell (T := 273) HP9.out.hZ 5 0 rfl
          have z6 : W0.cell? ⟨w.heap.size, 6, none⟩ = some (.int .u32 0) := lbox_cell (T := 273) HP9.out.hZ 6 0 rfl
          have z7 : W0.cell? ⟨w.heap.size, 7, none⟩ = some (.int .u32 0) := lbox_cell (T := 273) HP9.out.hZ 7 0 rfl
          have z8 : W0.cell? ⟨w.heap.size, 8, none⟩ = some (.int .u32 0) := lbox_cell (T := 273) HP9.out.hZ 8 0 rfl
          have hbne : ¬ w1.heap.size = w.heap.size := by omega
          have hbne2 : ¬ w.heap.size = w1.heap.size := by omega
          go_wp2_with fail
          generalize (((((((((W0.setCell ⟨w.heap.size, 0, none⟩ (.int .u32 (c0 : Int))).setCell ⟨w.heap.size, 1, none⟩ (.int .u32 (c1 : Int))).setCell ⟨w.heap.size, 2, none⟩ (.int .u32 (c2 : Int))).setCell ⟨w.heap.size, 3, none⟩ (.int .u32 (c3 : Int))).setCell ⟨w.heap.size, 4, none⟩ (.int .u32 (c4 : Int))).setCell ⟨w.heap.size, 5, none⟩ (.int .u32 (c5 : Int))).setCell ⟨w.heap.size, 6, none⟩ (.int .u32 (c6 : Int))).setCell ⟨w.heap.size, 7, none⟩ (.int .u32 (c7 : Int))).setCell ⟨w.heap.size, 8, none⟩ (.int .u32 (c8 : Int))) = W9 at *
          have y0 : W9.cell? ⟨w.heap.size, 0, none⟩ = some (.int .u32 (c0 : Int)) := lbox_cell (T := 273) HB9.out 0 c0 rfl
          have y1 : W9.cell? ⟨w.heap.size, 1, none⟩ = some (.int .u32 (c1 : Int)) := lbox_cell (T := 273) HB9.out 1 c1 rfl
          have y2 : W9.cell? ⟨w.heap.size, 2, none⟩ = some (.int .u32 (c2 : Int)) := lbox_cell (T := 273) HB9.out 2 c2 rfl
          have y3 : W9.cell? ⟨w.heap.size, 3, none⟩ = some (.int .u32 (c3 : Int)) := lbox_cell (T := 273) HB9.out 3 c3 rfl
          have y4 : W9.cell? ⟨w.heap.size, 4, none⟩ = some (.int .u32 (c4 : Int)) := lbox_cell (T := 273) HB9.out 4 c4 rfl
          have y5 : W9.cell? ⟨w.heap.size, 5, none⟩ = some (.int .u32 (c5 : Int)) := lbox_cell (T := 273) HB9.out 5 c5 rfl
          have y6 : W9.cell? ⟨w.heap.size, 6, none⟩ = some (.int .u32 (c6 : Int)) := lbox_cell (T := 273) HB9.out 6 c6 rfl
          have y7 : W9.cell? ⟨w.heap.size, 7, none⟩ = some (.int .u32 (c7 : Int)) := lbox_cell (T := 273) HB9.out 7 c7 rfl
          have y8 : W9.cell? ⟨w.heap.size, 8, none⟩ = some (.int .u32 (c8 : Int)) := lbox_cell (T := 273) HB9.out 8 c8 rfl
          exact bodyPost_ret (v := encN (.ok [c0, c1, c2, c3, c4, c5, c6, c7, c8])) (by
            unfold encN
            simp [results, Tryz.results188, go_sem, y0, y1, y2, y3, y4, y5, y6, y7, y8, Go.Proofs.YtnkdbpjmepfblaaGreatDoor.u32]) rfl ⟨rfl, HQ9.out⟩
end Go.Proofs.YtnkdbpjmepfblaaGreatDoor
