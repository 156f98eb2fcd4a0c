/- Texts of the walk and its plain law, merged: LwD, LwE. -/
import Derived.Test.YtnkdbpjmepfblaaGreatDoorM21
/- Life: make. -/
namespace Go.Proofs.YtnkdbpjmepfblaaGreatDoor
open Go Go.RowKit

/-- What a life owns is none of these. -/
def OwnX (X oA oB : List Nat) : Prop := ∀ b ∈ oB, b ∈ oA ∨ b ∉ X
theorem OwnX.no {n : Nat} {I : LI} {X oA oB : List Nat} (h : OwnX X oA oB) (hI : ∀ b ∈ I.own oA, b < n) (hX : ∀ b ∈ X, n ≤ b) : ∀ b ∈ X, b ∉ I.own oB := by
  intro b hb hm
  have h0 := hX b hb
  simp only [LI.own, List.mem_cons] at hm hI
  rcases hm with h1 | h1 | h1 | h1
  · have := hI b (.inl h1); omega
  · have := hI b (.inr (.inl h1)); omega
  · have := hI b (.inr (.inr (.inl h1))); omega
  · rcases h b h1 with h2 | h2
    · have := hI b (.inr (.inr (.inr h2))); omega
    · exact h2 hb
theorem OwnX.step {wr wz : World} {I : LI} {X oA oB oC : List Nat} (h : OwnX X oA oB) (hf : Fr wr (I.own oB) wz (I.own oC)) (hX : ∀ b ∈ X, b < wr.heap.size) (hd : I.mb ∉ oC ∧ I.mm ∉ oC ∧ I.km ∉ oC) : OwnX X oA oC := by
  intro b hb
  rcases hf.own b (by simp [LI.own, hb]) with h1 | h1
  · simp only [LI.own, List.mem_cons] at h1
    rcases h1 with rfl | rfl | rfl | h1
    · exact absurd hb hd.1
    · exact absurd hb hd.2.1
    · exact absurd hb hd.2.2
    · exact h b h1
  · exact .inr (fun hm => by have := hX b hm; omega)
/-- The memory of make: nine, and four. -/
structure MM (b8 bk : Nat) (l ks : List Nat) (wr : World) : Prop where
  lt : b8 < bk ∧ bk < wr.heap.size
  hN : wr.heap[b8]? = some (.cells (l.map u32).toArray 273)
  hK : wr.heap[bk]? = some (.cells (ks.map u32).toArray 155)
theorem MM.fr {wr wz : World} {b8 bk : Nat} {l ks : List Nat} {o o' : List Nat} (h : MM b8 bk l ks wr) (hf : Fr wr o wz o') (h1 : b8 ∉ o) (h2 : bk ∉ o) : MM b8 bk l ks wz :=
  ⟨⟨h.lt.1, Nat.lt_of_lt_of_le h.lt.2 hf.size⟩, by rw [hf.keep _ (by have := h.lt; omega) h1]; exact h.hN, by rw [hf.keep _ h.lt.2 h2]; exact h.hK⟩
theorem MM.set {wr : World} {b8 bk : Nat} {l ks : List Nat} (h : MM b8 bk l ks wr) (k v : Nat) : MM b8 bk l (ks.set k v) (wr.setCell ⟨bk, k, none⟩ (.int .u32 (v : Int))) :=
  ⟨⟨h.lt.1, by simpa using h.lt.2⟩, by rw [World.heap_setCell_ne _ _ _ _ (by show b8 ≠ bk; have := h.lt; omega)]; exact h.hN, lbox_set h.hK k v⟩
theorem list4 (l : List Nat) (h : l.length = 4) : ∃ a0 a1 a2 a3, l = [a0, a1, a2, a3] := by
  match l, h with
  | [a0, a1, a2, a3], _ => exact ⟨a0, a1, a2, a3, rfl⟩
theorem gbind3 {σ α β γ : Type} {x : Option (Except Nat α × σ)} {f : α → σ → Option (Except Nat β × σ)} {g : β → σ → Option (Except Nat γ × σ)} {r : Except Nat γ} {S' : σ} (h : gbind (gbind x f) g = some (r, S')) :
    ∃ r1 T1, x = some (r1, T1) ∧ (∀ c, r1 = .error c → r = .error c ∧ T1 = S') ∧ ∀ j, r1 = .ok j → gbind (f j T1) g = some (r, S') := by
  match x, h with
  | some (.ok j, T), h => exact ⟨.ok j, T, rfl, fun c hc => (by cases hc), fun k hk => by injection hk with hk; subst hk; exact h⟩
  | some (.error c, T), h =>
    simp only [gbind, Option.some.injEq, Prod.mk.injEq] at h
    obtain ⟨rfl, rfl⟩ := h
    exact ⟨.error c, T, rfl, fun c' hc => (by injection hc with hc; subst hc; exact ⟨rfl, rfl⟩), fun k hk => by cases hk⟩
theorem LW.frSetNew {w wr : World} {o o' : List Nat} (h : Fr w o wr o') {a : Addr} (ha : w.heap.size ≤ a.block) (v : Value) : Fr w o (wr.setCell a v) o' := h.setCell ha v
set_option maxRecDepth 100000 in
set_option maxHeartbeats 6400000 in
theorem make_w {N : Kn} {d : Nat} (IH : ResC N d) {w : World} {I : LI} {S : Lf} {oA : List Nat} (h : LW w I N S oA) (hv : S.valid N) (i : Nat) (hl : S.A.level i = (d + 4 : Nat)) (e : Nat) (he : e ≤ d + 2) {r : Except Nat Nat} {S' : Lf}
    (hj : S.make i (decide (e = d + 2)) (fun k T => resF N d k (if e = d + 2 then e - 1 else e) T) = some (r, S')) :
    Calls Tryz.prog 155 #[.pointer (some ⟨I.lb, 0, none⟩), .int .u32 i, .int .i64 e] w fun e w' => e = .returned (encR r) ∧ LPost w I N S' oA w' := by
  have h44 := hv.wf.level_le i
  have hd40 : d ≤ 40 := by omega
  have hi : i < 4294967296 := Ar.level_lt' hv.wf hl
  have HLW := Lib.hid h
  have HV := Lib.hid hv
  have HIH := Lib.hid IH
  have HOL := Lib.hid h.ownLt
  have HLVL := Lib.hid hl
  have hlb := h.lt.1
  unfold Lf.make at hj
  obtain ⟨r1, T1, hx⟩ : ∃ r1 T1, S.parts i (decide (e = d + 2)) (fun k T => resF N d k (if e = d + 2 then e - 1 else e) T) = some (r1, T1) := by
    rcases gbind_some hj with ⟨c, h1, _⟩ | ⟨j, T, h1, _⟩
    · exact ⟨_, _, h1⟩
    · exact ⟨_, _, h1⟩
  rw [hx] at hj
  have HJ := Lib.hid hj
  have HN := Lib.hid (parts_next h.good hv hl he hx)
  have HPW := Lib.hid (parts_w IH h hv i hl e he hx)
  clear h hv IH hj hl h44 hx
  go_enter Tryz.func155, Tryz.ntmps155
  go_wp2_with fail
  refine HPW.out.mono ?_
  rintro e1 w1 ⟨rfl, hq1⟩
  obtain ⟨o1, hL1, hF1⟩ := hq1
  have HL1 := Lib.hid hL1
  have HF1 := Lib.hid hF1
  clear hL1 hF1 HPW
  have hlb1 := HL1.out.lt.1
  have hs1 := HF1.out.size
  cases r1 with
  | error c =>
    obtain ⟨rfl, rfl⟩ : Except.error c = r ∧ T1 = S' := by have := HJ.out; simpa [gbind] using this
    have HQ9 := Lib.hid (show LPost w I N T1 oA (w1.alloc (.cells #[.int .u32 0, .int .u32 0, .int .u32 0, .int .u32 0, .int .u32 0, .int .u32 0, .int .u32 0, .int .u32 0, .int .u32 0] 273)) from ⟨o1, HL1.out.ext ((Fr.nil _).alloc _), HF1.out.alloc _⟩)
    simp only [encN, List.map_cons, List.map_nil, Go.Proofs.YtnkdbpjmepfblaaGreatDoor.u32, show ((0 : Nat) : Int) = 0 from rfl]
    go_wp2_with fail
    go_ret2
    exact ⟨rfl, HQ9.out⟩
  | ok l =>
    have hl9 := (HN.out.ok l rfl).1
    obtain ⟨a0, a1, a2, a3, a4, a5, a6, a7, a8, rfl⟩ := list9 l hl9
    have HLVS := Lib.hid (HN.out.ok _ rfl).2
    have HTV := Lib.hid HN.out.valid
    have HLV := Lib.hid (show T1.A.level i = (d + 4 : Nat) from HN.out.le.level' HLVL.out)
    have hlw := level_w ((HL1.out.ext ((Fr.nil w1).alloc (.cells #[.int .u32 a0, .int .u32 a1, .int .u32 a2, .int .u32 a3, .int .u32 a4, .int .u32 a5, .int .u32 a6, .int .u32 a7, .int .u32 a8] 273))).arena) i hi
    have HLW2 := Lib.hid hlw
    have hc1 := HL1.out.c.1
    clear hlw hl9
    simp only [encN, List.map_cons, List.map_nil, Go.Proofs.YtnkdbpjmepfblaaGreatDoor.u32]
    have hN2 := heap_new w1 (.cells (([a0, a1, a2, a3, a4, a5, a6, a7, a8] : List Nat).map u32).toArray 273)
    simp only [List.map_cons, List.map_nil, Go.Proofs.YtnkdbpjmepfblaaGreatDoor.u32] at hN2
    have HN2 := Lib.hid hN2
    have HL2 := Lib.hid (HL1.out.ext ((Fr.nil w1).alloc (.cells #[.int .u32 a0, .int .u32 a1, .int .u32 a2, .int .u32 a3, .int .u32 a4, .int .u32 a5, .int .u32 a6, .int .u32 a7, .int .u32 a8] 273)))
    have HF2 := Lib.hid (HF1.out.alloc (.cells #[.int .u32 a0, .int .u32 a1, .int .u32 a2, .int .u32 a3, .int .u32 a4, .int .u32 a5, .int .u32 a6, .int .u32 a7, .int .u32 a8] 273))
    have HS2 := Lib.hid (show (w1.alloc (.cells #[.int .u32 a0, .int .u32 a1, .int .u32 a2, .int .u32 a3, .int .u32 a4, .int .u32 a5, .int .u32 a6, .int .u32 a7, .int .u32 a8] 273)).heap.size = w1.heap.size + 1 from World.size_alloc _ _)
    have HO1 := Lib.hid (show OwnX [w1.heap.size, w1.heap.size + 1] oA o1 from fun b hb => .inr (fun hm => by have h1 := HL1.out.arena.lt b hb; simp only [List.mem_cons, List.not_mem_nil, or_false] at hm; omega))
    clear hN2
    have HNK8 := Lib.hid (show (I.lb ≠ w1.heap.size ∧ w1.heap.size ∉ I.ko) ∧ (I.lb ≠ w1.heap.size + 1 ∧ w1.heap.size + 1 ∉ I.ko) from ⟨⟨by omega, fun hm => by have := HLW.out.kern.lt _ hm; omega⟩, ⟨by omega, fun hm => by have := HLW.out.kern.lt _ hm; omega⟩⟩)
    by_cases hfull : e = d + 2
    · have Htrue := Lib.hid hfull
      obtain ⟨D, hD⟩ : ∃ D : Int, D = (d : Int) + 4 := ⟨_, rfl⟩
      have hfb : ((e : Int) == D - 2) = true := by simp; omega
      have hD0 : 4 ≤ D := by omega
      have hD1 : D ≤ 44 := by omega
      have HD := Lib.hid hD
      clear hD
      have HE1 := Lib.hid (show (e - 1 : Nat) ≤ d + 1 by omega)
      have hj := HJ.out
      simp only [gbind, if_pos hfull] at hj
      have HJ2 := Lib.hid hj
      have hee : ((e - 1 : Nat) : Int) = (e : Int) - 1 := by omega
      have HEE := Lib.hid hee
      have he1 : 0 ≤ (e : Int) - 1 := by omega
      clear hfull hj hee
      go_wp2_with fail
      refine HLW2.out.mono ?_
      rintro e w' ⟨rfl, rfl⟩
      rw [HLV.out, show ((d + 4 : Nat) : Int) = D by rw [HD.out]; omega]
      clear hc1 hlb hlb1 HLW2
      generalize (w1.alloc (.cells #[.int .u32 a0, .int .u32 a1, .int .u32 a2, .int .u32 a3, .int .u32 a4, .int .u32 a5, .int .u32 a6, .int .u32 a7, .int .u32 a8] 273)) = W2 at *
      have hcl := HL2.out.c.1
      have hMM : MM w1.heap.size (w1.heap.size + 1) [a0, a1, a2, a3, a4, a5, a6, a7, a8] [0, 0, 0, 0] (W2.alloc (.cells (([0, 0, 0, 0] : List Nat).map u32).toArray 155)) := by
        refine ⟨⟨by omega, by rw [World.size_alloc, HS2.out]; omega⟩, by rw [Below.heap_alloc _ _ _ (by rw [HS2.out]; omega)]; exact HN2.out, ?_⟩
        have := heap_new W2 (.cells (([0, 0, 0, 0] : List Nat).map u32).toArray 155)
        rw [HS2.out] at this
        exact this
      simp only [List.map_cons, List.map_nil, Go.Proofs.YtnkdbpjmepfblaaGreatDoor.u32, show ((0 : Nat) : Int) = 0 from rfl] at hMM
      have HMM := Lib.hid hMM
      have HL3 := Lib.hid (HL2.out.ext ((Fr.nil W2).alloc (.cells #[.int .u32 0, .int .u32 0, .int .u32 0, .int .u32 0] 155)))
      have HF3 := Lib.hid (HF2.out.alloc (.cells #[.int .u32 0, .int .u32 0, .int .u32 0, .int .u32 0] 155))
      clear hMM
      have hs2 := HS2.out
      go_wp2_with fail
      clear hcl hs2
      generalize W2.alloc (.cells #[.int .u32 0, .int .u32 0, .int .u32 0, .int .u32 0] 155) = W3 at *
      go_loopw [36] (fun v wr => ∃ (j : Nat) (acc : List Nat) (T : Lf) (oB : List Nat), j ≤ 4 ∧ v = .int .i64 j ∧ acc.length = j ∧ T.valid N ∧ LW wr I N T oB ∧ Fr w (I.own oA) wr (I.own oB) ∧ OwnX [w1.heap.size, w1.heap.size + 1] oA oB ∧
          MM w1.heap.size (w1.heap.size + 1) [a0, a1, a2, a3, a4, a5, a6, a7, a8] (acc ++ List.replicate (4 - j) 0) wr ∧ gbind (makeL (fun k T => resF N d k (e - 1) T) [a0, a1, a2, a3, a4, a5, a6, a7, a8] (4 - j) acc T) (fun kids U => U.up (U.A.join (k4of kids))) = some (r, S') ∧
          (∀ k ∈ ([a0, a1, a2, a3, a4, a5, a6, a7, a8] : List Nat), T.A.level k = (d + 2 : Nat)) ∧ ∀ k ∈ acc, T.A.level k = (d + 2 : Nat)) (fun v _ => 4 - (intOf v).toNat)
      case atStart =>
        exact ⟨0, [], T1, o1, by omega, rfl, rfl, HTV.out, HL3.out, HF3.out, HO1.out, HMM.out, HJ2.out, HLVS.out, by simp⟩
      case round =>
        clear HL2 HF2 HO1 HL3 HF3 HMM HJ2 HLV HL1 HF1 HN HN2 HLVS HTV HS2 HJ
        obtain ⟨j, acc, T, oB, hj, rfl, hlen, hT, hL, hF, hO, hP, hps, hlv, hla⟩ := hrel
        obtain ⟨W0, rfl⟩ : ∃ W0, W0 = wr := ⟨_, rfl⟩
        have HLEN := Lib.hid hlen
        have HT := Lib.hid hT
        have HL := Lib.hid hL
        have HF := Lib.hid hF
        have HO := Lib.hid hO
        have HP := Lib.hid hP
        have HPS := Lib.hid hps
        have HLVS := Lib.hid hlv
        have HLVA := Lib.hid hla
        have hnoX := hO.no HOL.out (by simp; omega)
        have HNO := Lib.hid (show w1.heap.size ∉ I.own oB ∧ w1.heap.size + 1 ∉ I.own oB from ⟨hnoX _ (by simp), hnoX _ (by simp)⟩)
        have HLN := Lib.hid (show I.lb ∉ I.own oB from fun hm => by
          have h1 := HL.out.d1
          have h2 := HL.out.d2
          simp only [LI.own, List.mem_cons] at hm
          rcases hm with h | h | h | h
          · exact h1.2.2.2.1 h
          · exact h1.2.2.2.2 h
          · exact h1.2.2.1 h
          · exact h2.1 h)
        clear hlen hT hL hF hO hP hps hlv hla hnoX
        by_cases hj4 : j < 4
        · have hj4i : (j : Int) < 4 := by omega
          obtain ⟨k, hk⟩ : ∃ k, k = j / 2 * 3 + j % 2 := ⟨_, rfl⟩
          have hk5 : k + 4 < 9 := by omega
          have hki : (j : Int) / 2 * 3 + (j : Int) % 2 = (k : Int) := by omega
          have hps := HPS.out
          rw [show 4 - j = (3 - j) + 1 by omega] at hps
          simp only [makeL] at hps
          rw [show 3 - (3 - j) = j by omega] at hps
          have hK4 : fourK [a0, a1, a2, a3, a4, a5, a6, a7, a8] j = ⟨([a0, a1, a2, a3, a4, a5, a6, a7, a8] : List Nat).getD k 0, ([a0, a1, a2, a3, a4, a5, a6, a7, a8] : List Nat).getD (k + 1) 0, ([a0, a1, a2, a3, a4, a5, a6, a7, a8] : List Nat).getD (k + 3) 0, ([a0, a1, a2, a3, a4, a5, a6, a7, a8] : List Nat).getD (k + 4) 0⟩ := by unfold fourK; rw [← hk]
          rw [hK4] at hps
          have hget : ∀ t, t < 9 → ([a0, a1, a2, a3, a4, a5, a6, a7, a8] : List Nat)[t]? = some (([a0, a1, a2, a3, a4, a5, a6, a7, a8] : List Nat).getD t 0) := fun t ht => by rw [List.getD_eq_getElem?_getD, List.getElem?_eq_getElem (by simpa using ht)]; rfl
          have hgl : ∀ t, t < 9 → T.A.level (([a0, a1, a2, a3, a4, a5, a6, a7, a8] : List Nat).getD t 0) = (d + 2 : Nat) := fun t ht => HLVS.out _ (List.mem_of_getElem? (hget t ht))
          have hc0 : ∀ y : CO W0 (I.own oB), y.x.cell? ⟨I.lb, 0, none⟩ = some (.pointer (some ⟨I.ab, 0, none⟩)) := fun y => by
            rw [cell_of_heap (by rw [y.h _ HL.out.lt.1 HLN.out]; exact HL.out.hl)]; rfl
          have hgx : ∀ (y : CO W0 (I.own oB)) (t : Nat), t < 9 → y.x.cell? ⟨w1.heap.size, t, none⟩ = some (.int .u32 (([a0, a1, a2, a3, a4, a5, a6, a7, a8] : List Nat).getD t 0 : Nat)) := fun y t ht =>
            lbox_cell (T := 273) (by rw [y.h _ (by have := HP.out.lt; omega) HNO.out.1]; exact HP.out.hN) _ _ (hget t ht)
          obtain ⟨x0, hx0⟩ : ∃ x, x = ([a0, a1, a2, a3, a4, a5, a6, a7, a8] : List Nat).getD k 0 := ⟨_, rfl⟩
          obtain ⟨x1, hx1⟩ : ∃ x, x = ([a0, a1, a2, a3, a4, a5, a6, a7, a8] : List Nat).getD (k + 1) 0 := ⟨_, rfl⟩
          obtain ⟨x3, hx3⟩ : ∃ x, x = ([a0, a1, a2, a3, a4, a5, a6, a7, a8] : List Nat).getD (k + 3) 0 := ⟨_, rfl⟩
          obtain ⟨x4, hx4⟩ : ∃ x, x = ([a0, a1, a2, a3, a4, a5, a6, a7, a8] : List Nat).getD (k + 4) 0 := ⟨_, rfl⟩
          have g0 : ∀ y : CO W0 (I.own oB), y.x.cell? ⟨w1.heap.size, k, none⟩ = some (.int .u32 (x0 : Int)) := fun y => by rw [hx0]; exact hgx y _ (by omega)
          have g1 : ∀ y : CO W0 (I.own oB), y.x.cell? ⟨w1.heap.size, k + 1, none⟩ = some (.int .u32 (x1 : Int)) := fun y => by rw [hx1]; exact hgx y _ (by omega)
          have g3 : ∀ y : CO W0 (I.own oB), y.x.cell? ⟨w1.heap.size, k + 3, none⟩ = some (.int .u32 (x3 : Int)) := fun y => by rw [hx3]; exact hgx y _ (by omega)
          have g4 : ∀ y : CO W0 (I.own oB), y.x.cell? ⟨w1.heap.size, k + 4, none⟩ = some (.int .u32 (x4 : Int)) := fun y => by rw [hx4]; exact hgx y _ (by omega)
          have hKl : ∀ t, t < 4 → T.A.level ((⟨x0, x1, x3, x4⟩ : K4).k t) = (d + 2 : Nat) := fun t ht => by
            have hc : t = 0 ∨ t = 1 ∨ t = 2 ∨ t = 3 := by omega
            rcases hc with rfl | rfl | rfl | rfl
            · show T.A.level x0 = _; rw [hx0]; exact hgl _ (by omega)
            · show T.A.level x1 = _; rw [hx1]; exact hgl _ (by omega)
            · show T.A.level x3 = _; rw [hx3]; exact hgl _ (by omega)
            · show T.A.level x4 = _; rw [hx4]; exact hgl _ (by omega)
          rw [← hx0, ← hx1, ← hx3, ← hx4] at hps
          have HPS2 := Lib.hid hps
          have HKL := Lib.hid hKl
          have HK4ok := Lib.hid (show (⟨x0, x1, x3, x4⟩ : K4).ok from ⟨Ar.level_lt' HT.out.wf (hKl 0 (by omega)), Ar.level_lt' HT.out.wf (hKl 1 (by omega)), Ar.level_lt' HT.out.wf (hKl 2 (by omega)), Ar.level_lt' HT.out.wf (hKl 3 (by omega))⟩)
          clear hk hK4 hget hgl hgx hx0 hx1 hx3 hx4 hps hKl HPS
          have m0 : 0 ≤ (k : Int) ∧ (k : Int) < 9 := by omega
          have m1 : 0 ≤ (k : Int) + 1 ∧ (k : Int) + 1 < 9 := by omega
          have m3 : 0 ≤ (k : Int) + 3 ∧ (k : Int) + 3 < 9 := by omega
          have m4 : 0 ≤ (k : Int) + 4 ∧ (k : Int) + 4 < 9 := by omega
          obtain ⟨m0, M0⟩ := m0
          obtain ⟨m1, M1⟩ := m1
          obtain ⟨m3, M3⟩ := m3
          obtain ⟨m4, M4⟩ := m4
          have n1 : ((k : Int) + 1).toNat = k + 1 := by omega
          have n3 : ((k : Int) + 3).toNat = k + 3 := by omega
          have n4 : ((k : Int) + 4).toNat = k + 4 := by omega
          go_wp2_with fail
          clear hki
          have p1 : IntKind.i64.wrap ((k : Int) + 1) = (k : Int) + 1 := by rw [IntKind.wrap_i64]; omega
          have p3 : IntKind.i64.wrap ((k : Int) + 3) = (k : Int) + 3 := by rw [IntKind.wrap_i64]; omega
          have p4 : IntKind.i64.wrap ((k : Int) + 4) = (k : Int) + 4 := by rw [IntKind.wrap_i64]; omega
          refine wp_region_mixed 1 25 [20] (by kernel_rfl) (by kernel_rfl) (fun _ _ d _ _ h => by cases d <;> exact h) (CO W0 (I.own oB)) CO.x ⟨W0.drew, fun _ _ _ => rfl⟩ rfl ?_
          simp only [List.take_succ_cons, List.take_zero, List.drop_succ_cons, List.drop_zero, moved]
          repeat (refine wpStillC_step (by decide) (fun K hK => ?_); go_simp; (try simp only [p1, p3, p4, m0, m1, m3, m4, M0, M1, M3, M4, n1, n3, n4, and_self, true_and, if_true, g0, g1, g3, g4]); (try go_simp); refine hK _ ?_; clear hK K)
          refine wpStillC_forced (by decide) ⟨⟨W0.drew, fun _ _ _ => rfl⟩, rfl⟩ ?_
          go_wp2_with fail
          obtain ⟨r1, T1', hx, hxe, hxo⟩ := gbind3 HPS2.out
          obtain ⟨B1, hB1, hT1⟩ : ∃ B1, T.A.join ⟨x0, x1, x3, x4⟩ = some (r1, B1) ∧ T1' = ⟨B1, T.L⟩ := by
            have h0 := hx
            simp only [Lf.up, Option.map_eq_some_iff, Prod.mk.injEq, Prod.exists] at h0
            obtain ⟨a, b, h1, rfl, rfl⟩ := h0
            exact ⟨b, h1, rfl⟩
          subst hT1
          have HNX := Lib.hid (join_next HT.out (d := d) (by omega) HKL.out hx)
          have HXE := Lib.hid hxe
          have HXO := Lib.hid hxo
          have HB1 := Lib.hid hB1
          clear hx hxe hxo hB1 g0 g1 g3 g4 hc0 p1 p3 p4 m0 m1 m3 m4 M0 M1 M3 M4 n1 n3 n4
          refine (join_w (HL.out.ext (Fr.nil W0).drew).arena ⟨x0, x1, x3, x4⟩ HK4ok.out HB1.out).mono ?_
          rintro e5 w5 ⟨rfl, oC, h1, h2⟩
          have hLF := (HL.out.ext (Fr.nil W0).drew).arena' h1 h2
          have hF5 : Fr W0 (I.own oB) w5 (I.own oC) := (HL.out.fr (Fr.nil W0).drew).trans hLF.2
          have hd2 := hLF.1.d2
          have HO5 := Lib.hid (HO.out.step hF5 (by have := HP.out.lt; simp; omega) ⟨hd2.2.1, hd2.2.2.1, hd2.2.2.2⟩)
          have HP5 := Lib.hid (HP.out.fr hF5 HNO.out.1 HNO.out.2)
          have HK5 := Lib.hid (show ∀ b, b < W0.heap.size → b ∉ I.own oB → w5.heap[b]? = W0.heap[b]? from fun b hb hn => hF5.keep b hb hn)
          have HF5 := Lib.hid (HF.out.trans hF5)
          have HL5 := Lib.hid hLF.1
          clear h1 h2 hLF hF5 hd2
          cases r1 with
          | error c =>
            obtain ⟨rfl, rfl⟩ := HXE.out c rfl
            simp only [encR, errV]
            go_wp2_with fail
            refine ⟨⟨⟨w5, HK5.out⟩, rfl⟩, ?_⟩
            repeat (refine wpStillC_step (by decide) (fun K hK => ?_); go_simp; refine hK _ ?_; clear hK K)
            refine wpStillC_nil ⟨⟨⟨w5, HK5.out⟩, rfl⟩, ?_⟩
            go_wp2_with fail
            go_ret2
            exact ⟨rfl, oC, HL5.out, HF5.out⟩
          | ok four =>
            have hfl := HNX.out.ok four rfl
            have HFL := Lib.hid hfl
            obtain ⟨r2, T2, hx, hxe, hxo⟩ := gbind3 (HXO.out four rfl)
            have HNX2 := Lib.hid (resF_next HLW.out.good HNX.out.valid hfl HE1.out hx)
            have hcw := HIH.out w5 I ⟨B1, T.L⟩ oC four (e - 1) r2 T2 HL5.out HNX.out.valid hfl HE1.out hx
            rw [HEE.out] at hcw
            have HCW := Lib.hid hcw
            have HXE2 := Lib.hid hxe
            have HXO2 := Lib.hid hxo
            clear hx hxe hxo hcw hfl
            simp only [encR, okV]
            go_wp2_with fail
            refine ⟨⟨⟨w5, HK5.out⟩, rfl⟩, ?_⟩
            repeat (refine wpStillC_step (by decide) (fun K hK => ?_); go_simp; refine hK _ ?_; clear hK K)
            refine wpStillC_nil ⟨⟨⟨w5, HK5.out⟩, rfl⟩, ?_⟩
            go_wp2_with fail
            refine HCW.out.mono ?_
            rintro e6 w6 ⟨rfl, hq⟩
            obtain ⟨oD, hL6, hF6⟩ := hq
            have hnoC := HO5.out.no HOL.out (by simp; omega)
            have hd2 := hL6.d2
            have hO6 := HO5.out.step hF6 (by have := HP5.out.lt; simp; omega) ⟨hd2.2.1, hd2.2.2.1, hd2.2.2.2⟩
            have hnoD := hO6.no HOL.out (by simp; omega)
            have HO6 := Lib.hid hO6
            have HNO6 := Lib.hid (show w1.heap.size ∉ I.own oD ∧ w1.heap.size + 1 ∉ I.own oD from ⟨hnoD _ (by simp), hnoD _ (by simp)⟩)
            have HP6 := Lib.hid (HP5.out.fr hF6 (hnoC _ (by simp)) (hnoC _ (by simp)))
            have HF6 := Lib.hid (HF5.out.trans hF6)
            have HL6 := Lib.hid hL6
            clear hL6 hF6 hd2 hnoC hO6 hnoD HP HF HL HO HCW HP5 HF5 HL5 HO5 HK5
            have hb9 : (acc ++ List.replicate (4 - j) 0)[j]? = some 0 := by
              rw [List.getElem?_append_right (by rw [HLEN.out]; exact Nat.le_refl _), HLEN.out, Nat.sub_self, List.getElem?_replicate]; simp; omega
            have hcb : w6.cell? ⟨w1.heap.size + 1, j, none⟩ = some (.int .u32 ((0 : Nat) : Int)) := lbox_cell (T := 155) HP6.out.hK _ _ hb9
            have hfb9 : w6.frozen? ⟨w1.heap.size + 1, j, none⟩ = false := lbox_fz (T := 155) HP6.out.hK j
            have hset : ∀ v, (acc ++ List.replicate (4 - j) 0).set j v = (acc ++ [v]) ++ List.replicate (4 - (j + 1)) 0 := fun v => by
              rw [show 4 - j = (4 - (j + 1)) + 1 by omega, List.replicate_succ, List.set_append_right _ _ (by rw [HLEN.out]; exact Nat.le_refl _), HLEN.out, Nat.sub_self, List.set_cons_zero, List.append_assoc]; rfl
            have HSET := Lib.hid hset
            clear hb9 hset
            cases r2 with
            | ok jj =>
              have hP7 := HP6.out.set j jj
              rw [HSET.out] at hP7
              have HP7 := Lib.hid hP7
              have HL7 := Lib.hid (HL6.out.setNew (a := ⟨w1.heap.size + 1, j, none⟩) (fun e => HNK8.out.2.1 e.symm) HNO6.out.2 HNK8.out.2.2 (.int .u32 (jj : Int)))
              have HF7 := Lib.hid (HF6.out.setCell (a := ⟨w1.heap.size + 1, j, none⟩) (by show w.heap.size ≤ w1.heap.size + 1; omega) (.int .u32 (jj : Int)))
              clear hP7
              simp only [encR, okV]
              go_wp2_with fail
              generalize w6.setCell ⟨w1.heap.size + 1, j, none⟩ (.int .u32 (jj : Int)) = W7 at *
              go_wp2_with fail
              refine ⟨⟨j + 1, acc ++ [jj], T2, oD, by omega, rfl, by rw [List.length_append, HLEN.out]; rfl, HNX2.out.valid, HL7.out, HF7.out, HO6.out, HP7.out, ?_, fun q hq => HNX2.out.le.level' (HNX.out.le.level' (HLVS.out q hq)), fun q hq => ?_⟩, by simp only [intOf]; omega⟩
              · rw [show 4 - (j + 1) = 3 - j by omega]; exact HXO2.out jj rfl
              · rcases List.mem_append.1 hq with h3 | h3
                · exact HNX2.out.le.level' (HNX.out.le.level' (HLVA.out q h3))
                · obtain rfl : q = jj := by simpa using h3
                  exact HNX2.out.ok _ rfl
            | error c =>
              obtain ⟨rfl, rfl⟩ := HXE2.out c rfl
              have HL7 := Lib.hid (HL6.out.setNew (a := ⟨w1.heap.size + 1, j, none⟩) (fun e => HNK8.out.2.1 e.symm) HNO6.out.2 HNK8.out.2.2 (.int .u32 0))
              have HF7 := Lib.hid (HF6.out.setCell (a := ⟨w1.heap.size + 1, j, none⟩) (by show w.heap.size ≤ w1.heap.size + 1; omega) (.int .u32 0))
              simp only [encR, errV]
              go_wp2_with fail
              go_ret2
              exact ⟨rfl, oD, HL7.out, HF7.out⟩
        · have hj4' : j = 4 := by omega
          subst hj4'
          simp only [show ((4 : Nat) : Int) = 4 from rfl]
          obtain ⟨c0, c1, c2, c3, rfl⟩ := list4 acc HLEN.out
          have hps : T.up (T.A.join (k4of [c0, c1, c2, c3])) = some (r, S') := by have := HPS.out; simpa [makeL, gbind] using this
          obtain ⟨B1, hB1, hT1⟩ : ∃ B1, T.A.join ⟨c0, c1, c2, c3⟩ = some (r, B1) ∧ S' = ⟨B1, T.L⟩ := by
            have h0 := hps
            simp only [Lf.up, Option.map_eq_some_iff, Prod.mk.injEq, Prod.exists] at h0
            obtain ⟨a, b, h1, rfl, rfl⟩ := h0
            exact ⟨b, h1, rfl⟩
          subst hT1
          have HB1 := Lib.hid hB1
          have hcl := fun q hq => HLVA.out q hq
          have HKok := Lib.hid (show (⟨c0, c1, c2, c3⟩ : K4).ok from ⟨Ar.level_lt' HT.out.wf (hcl c0 (by simp)), Ar.level_lt' HT.out.wf (hcl c1 (by simp)), Ar.level_lt' HT.out.wf (hcl c2 (by simp)), Ar.level_lt' HT.out.wf (hcl c3 (by simp))⟩)
          have hc0 : ∀ y : CO W0 (I.own oB), y.x.cell? ⟨I.lb, 0, none⟩ = some (.pointer (some ⟨I.ab, 0, none⟩)) := fun y => by
            rw [cell_of_heap (by rw [y.h _ HL.out.lt.1 HLN.out]; exact HL.out.hl)]; rfl
          have hkx : ∀ (y : CO W0 (I.own oB)), y.x.heap[w1.heap.size + 1]? = some (.cells (([c0, c1, c2, c3] : List Nat).map u32).toArray 155) := fun y => by
            rw [y.h _ HP.out.lt.2 HNO.out.2]; exact HP.out.hK
          have g0 : ∀ y : CO W0 (I.own oB), y.x.cell? ⟨w1.heap.size + 1, 0, none⟩ = some (.int .u32 (c0 : Int)) := fun y => lbox_cell (T := 155) (hkx y) 0 c0 rfl
          have g1 : ∀ y : CO W0 (I.own oB), y.x.cell? ⟨w1.heap.size + 1, 1, none⟩ = some (.int .u32 (c1 : Int)) := fun y => lbox_cell (T := 155) (hkx y) 1 c1 rfl
          have g2 : ∀ y : CO W0 (I.own oB), y.x.cell? ⟨w1.heap.size + 1, 2, none⟩ = some (.int .u32 (c2 : Int)) := fun y => lbox_cell (T := 155) (hkx y) 2 c2 rfl
          have g3 : ∀ y : CO W0 (I.own oB), y.x.cell? ⟨w1.heap.size + 1, 3, none⟩ = some (.int .u32 (c3 : Int)) := fun y => lbox_cell (T := 155) (hkx y) 3 c3 rfl
          clear hps hB1 hcl hkx HPS
          go_wp2_with fail
          refine wp_region_mixed 1 9 [5] (by kernel_rfl) (by kernel_rfl) (fun _ _ d _ _ h => by cases d <;> exact h) (CO W0 (I.own oB)) CO.x ⟨W0.drew, fun _ _ _ => rfl⟩ rfl ?_
          simp only [List.take_succ_cons, List.take_zero, List.drop_succ_cons, List.drop_zero, moved]
          repeat (refine wpStillC_step (by decide) (fun K hK => ?_); go_simp; refine hK _ ?_; clear hK K)
          refine wpStillC_forced (by decide) ⟨⟨W0.drew, fun _ _ _ => rfl⟩, rfl⟩ ?_
          go_wp2_with fail
          clear g0 g1 g2 g3 hc0
          refine (join_w (HL.out.ext (Fr.nil W0).drew).arena ⟨c0, c1, c2, c3⟩ HKok.out HB1.out).mono ?_
          rintro e5 w5 ⟨rfl, oC, h1, h2⟩
          have hLF := (HL.out.ext (Fr.nil W0).drew).arena' h1 h2
          have hF5 : Fr W0 (I.own oB) w5 (I.own oC) := (HL.out.fr (Fr.nil W0).drew).trans hLF.2
          have HK5 := Lib.hid (show ∀ b, b < W0.heap.size → b ∉ I.own oB → w5.heap[b]? = W0.heap[b]? from fun b hb hn => hF5.keep b hb hn)
          have HF5 := Lib.hid (HF.out.trans hF5)
          have HL5 := Lib.hid hLF.1
          clear h1 h2 hLF hF5
          cases r with
          | error c =>
            simp only [encR, errV]
            go_wp2_with fail
            refine ⟨⟨⟨w5, HK5.out⟩, rfl⟩, ?_⟩
            repeat (refine wpStillC_step (by decide) (fun K hK => ?_); go_simp; refine hK _ ?_; clear hK K)
            refine wpStillC_nil ⟨⟨⟨w5, HK5.out⟩, rfl⟩, ?_⟩
            go_wp2_with fail
            go_ret2
            exact ⟨rfl, oC, HL5.out, HF5.out⟩
          | ok four =>
            simp only [encR, okV]
            go_wp2_with fail
            refine ⟨⟨⟨w5, HK5.out⟩, rfl⟩, ?_⟩
            repeat (refine wpStillC_step (by decide) (fun K hK => ?_); go_simp; refine hK _ ?_; clear hK K)
            refine wpStillC_nil ⟨⟨⟨w5, HK5.out⟩, rfl⟩, ?_⟩
            go_wp2_with fail
            go_ret2
            exact ⟨rfl, oC, HL5.out, HF5.out⟩
    · have Hfalse := Lib.hid hfull
      obtain ⟨D, hD⟩ : ∃ D : Int, D = (d : Int) + 4 := ⟨_, rfl⟩
      have hfb : ((e : Int) == D - 2) = false := by simp; omega
      have hD0 : 4 ≤ D := by omega
      have hD1 : D ≤ 44 := by omega
      have HD := Lib.hid hD
      clear hD
      have HE1 := Lib.hid (show (e : Nat) ≤ d + 1 by omega)
      have hj := HJ.out
      simp only [gbind, if_neg hfull] at hj
      have HJ2 := Lib.hid hj
      have hee : ((e : Nat) : Int) = (e : Int) := by omega
      have HEE := Lib.hid hee
      have he1 : 0 ≤ (e : Int) - 0 := by omega
      clear hfull hj hee
      go_wp2_with fail
      refine HLW2.out.mono ?_
      rintro e w' ⟨rfl, rfl⟩
      rw [HLV.out, show ((d + 4 : Nat) : Int) = D by rw [HD.out]; omega]
      clear hc1 hlb hlb1 HLW2
      generalize (w1.alloc (.cells #[.int .u32 a0, .int .u32 a1, .int .u32 a2, .int .u32 a3, .int .u32 a4, .int .u32 a5, .int .u32 a6, .int .u32 a7, .int .u32 a8] 273)) = W2 at *
      have hcl := HL2.out.c.1
      have hMM : MM w1.heap.size (w1.heap.size + 1) [a0, a1, a2, a3, a4, a5, a6, a7, a8] [0, 0, 0, 0] (W2.alloc (.cells (([0, 0, 0, 0] : List Nat).map u32).toArray 155)) := by
        refine ⟨⟨by omega, by rw [World.size_alloc, HS2.out]; omega⟩, by rw [Below.heap_alloc _ _ _ (by rw [HS2.out]; omega)]; exact HN2.out, ?_⟩
        have := heap_new W2 (.cells (([0, 0, 0, 0] : List Nat).map u32).toArray 155)
        rw [HS2.out] at this
        exact this
      simp only [List.map_cons, List.map_nil, Go.Proofs.YtnkdbpjmepfblaaGreatDoor.u32, show ((0 : Nat) : Int) = 0 from rfl] at hMM
      have HMM := Lib.hid hMM
      have HL3 := Lib.hid (HL2.out.ext ((Fr.nil W2).alloc (.cells #[.int .u32 0, .int .u32 0, .int .u32 0, .int .u32 0] 155)))
      have HF3 := Lib.hid (HF2.out.alloc (.cells #[.int .u32 0, .int .u32 0, .int .u32 0, .int .u32 0] 155))
      clear hMM
      have hs2 := HS2.out
      go_wp2_with fail
      clear hcl hs2
      generalize W2.alloc (.cells #[.int .u32 0, .int .u32 0, .int .u32 0, .int .u32 0] 155) = W3 at *
      go_loopw [36] (fun v wr => ∃ (j : Nat) (acc : List Nat) (T : Lf) (oB : List Nat), j ≤ 4 ∧ v = .int .i64 j ∧ acc.length = j ∧ T.valid N ∧ LW wr I N T oB ∧ Fr w (I.own oA) wr (I.own oB) ∧ OwnX [w1.heap.size, w1.heap.size + 1] oA oB ∧
          MM w1.heap.size (w1.heap.size + 1) [a0, a1, a2, a3, a4, a5, a6, a7, a8] (acc ++ List.replicate (4 - j) 0) wr ∧ gbind (makeL (fun k T => resF N d k (e) T) [a0, a1, a2, a3, a4, a5, a6, a7, a8] (4 - j) acc T) (fun kids U => U.up (U.A.join (k4of kids))) = some (r, S') ∧
          (∀ k ∈ ([a0, a1, a2, a3, a4, a5, a6, a7, a8] : List Nat), T.A.level k = (d + 2 : Nat)) ∧ ∀ k ∈ acc, T.A.level k = (d + 2 : Nat)) (fun v _ => 4 - (intOf v).toNat)
      case atStart =>
        exact ⟨0, [], T1, o1, by omega, rfl, rfl, HTV.out, HL3.out, HF3.out, HO1.out, HMM.out, HJ2.out, HLVS.out, by simp⟩
      case round =>
        clear HL2 HF2 HO1 HL3 HF3 HMM HJ2 HLV HL1 HF1 HN HN2 HLVS HTV HS2 HJ
        obtain ⟨j, acc, T, oB, hj, rfl, hlen, hT, hL, hF, hO, hP, hps, hlv, hla⟩ := hrel
        obtain ⟨W0, rfl⟩ : ∃ W0, W0 = wr := ⟨_, rfl⟩
        have HLEN := Lib.hid hlen
        have HT := Lib.hid hT
        have HL := Lib.hid hL
        have HF := Lib.hid hF
        have HO := Lib.hid hO
        have HP := Lib.hid hP
        have HPS := Lib.hid hps
        have HLVS := Lib.hid hlv
        have HLVA := Lib.hid hla
        have hnoX := hO.no HOL.out (by simp; omega)
        have HNO := Lib.hid (show w1.heap.size ∉ I.own oB ∧ w1.heap.size + 1 ∉ I.own oB from ⟨hnoX _ (by simp), hnoX _ (by simp)⟩)
        have HLN := Lib.hid (show I.lb ∉ I.own oB from fun hm => by
          have h1 := HL.out.d1
          have h2 := HL.out.d2
          simp only [LI.own, List.mem_cons] at hm
          rcases hm with h | h | h | h
          · exact h1.2.2.2.1 h
          · exact h1.2.2.2.2 h
          · exact h1.2.2.1 h
          · exact h2.1 h)
        clear hlen hT hL hF hO hP hps hlv hla hnoX
        by_cases hj4 : j < 4
        · have hj4i : (j : Int) < 4 := by omega
          obtain ⟨k, hk⟩ : ∃ k, k = j / 2 * 3 + j % 2 := ⟨_, rfl⟩
          have hk5 : k + 4 < 9 := by omega
          have hki : (j : Int) / 2 * 3 + (j : Int) % 2 = (k : Int) := by omega
          have hps := HPS.out
          rw [show 4 - j = (3 - j) + 1 by omega] at hps
          simp only [makeL] at hps
          rw [show 3 - (3 - j) = j by omega] at hps
          have hK4 : fourK [a0, a1, a2, a3, a4, a5, a6, a7, a8] j = ⟨([a0, a1, a2, a3, a4, a5, a6, a7, a8] : List Nat).getD k 0, ([a0, a1, a2, a3, a4, a5, a6, a7, a8] : List Nat).getD (k + 1) 0, ([a0, a1, a2, a3, a4, a5, a6, a7, a8] : List Nat).getD (k + 3) 0, ([a0, a1, a2, a3, a4, a5, a6, a7, a8] : List Nat).getD (k + 4) 0⟩ := by unfold fourK; rw [← hk]
          rw [hK4] at hps
          have hget : ∀ t, t < 9 → ([a0, a1, a2, a3, a4, a5, a6, a7, a8] : List Nat)[t]? = some (([a0, a1, a2, a3, a4, a5, a6, a7, a8] : List Nat).getD t 0) := fun t ht => by rw [List.getD_eq_getElem?_getD, List.getElem?_eq_getElem (by simpa using ht)]; rfl
          have hgl : ∀ t, t < 9 → T.A.level (([a0, a1, a2, a3, a4, a5, a6, a7, a8] : List Nat).getD t 0) = (d + 2 : Nat) := fun t ht => HLVS.out _ (List.mem_of_getElem? (hget t ht))
          have hc0 : ∀ y : CO W0 (I.own oB), y.x.cell? ⟨I.lb, 0, none⟩ = some (.pointer (some ⟨I.ab, 0, none⟩)) := fun y => by
            rw [cell_of_heap (by rw [y.h _ HL.out.lt.1 HLN.out]; exact HL.out.hl)]; rfl
          have hgx : ∀ (y : CO W0 (I.own oB)) (t : Nat), t < 9 → y.x.cell? ⟨w1.heap.size, t, none⟩ = some (.int .u32 (([a0, a1, a2, a3, a4, a5, a6, a7, a8] : List Nat).getD t 0 : Nat)) := fun y t ht =>
            lbox_cell (T := 273) (by rw [y.h _ (by have := HP.out.lt; omega) HNO.out.1]; exact HP.out.hN) _ _ (hget t ht)
          obtain ⟨x0, hx0⟩ : ∃ x, x = ([a0, a1, a2, a3, a4, a5, a6, a7, a8] : List Nat).getD k 0 := ⟨_, rfl⟩
          obtain ⟨x1, hx1⟩ : ∃ x, x = ([a0, a1, a2, a3, a4, a5, a6, a7, a8] : List Nat).getD (k + 1) 0 := ⟨_, rfl⟩
          obtain ⟨x3, hx3⟩ : ∃ x, x = ([a0, a1, a2, a3, a4, a5, a6, a7, a8] : List Nat).getD (k + 3) 0 := ⟨_, rfl⟩
          obtain ⟨x4, hx4⟩ : ∃ x, x = ([a0, a1, a2, a3, a4, a5, a6, a7, a8] : List Nat).getD (k + 4) 0 := ⟨_, rfl⟩
          have g0 : ∀ y : CO W0 (I.own oB), y.x.cell? ⟨w1.heap.size, k, none⟩ = some (.int .u32 (x0 : Int)) := fun y => by rw [hx0]; exact hgx y _ (by omega)
          have g1 : ∀ y : CO W0 (I.own oB), y.x.cell? ⟨w1.heap.size, k + 1, none⟩ = some (.int .u32 (x1 : Int)) := fun y => by rw [hx1]; exact hgx y _ (by omega)
          have g3 : ∀ y : CO W0 (I.own oB), y.x.cell? ⟨w1.heap.size, k + 3, none⟩ = some (.int .u32 (x3 : Int)) := fun y => by rw [hx3]; exact hgx y _ (by omega)
          have g4 : ∀ y : CO W0 (I.own oB), y.x.cell? ⟨w1.heap.size, k + 4, none⟩ = some (.int .u32 (x4 : Int)) := fun y => by rw [hx4]; exact hgx y _ (by omega)
          have hKl : ∀ t, t < 4 → T.A.level ((⟨x0, x1, x3, x4⟩ : K4).k t) = (d + 2 : Nat) := fun t ht => by
            have hc : t = 0 ∨ t = 1 ∨ t = 2 ∨ t = 3 := by omega
            rcases hc with rfl | rfl | rfl | rfl
            · show T.A.level x0 = _; rw [hx0]; exact hgl _ (by omega)
            · show T.A.level x1 = _; rw [hx1]; exact hgl _ (by omega)
            · show T.A.level x3 = _; rw [hx3]; exact hgl _ (by omega)
            · show T.A.level x4 = _; rw [hx4]; exact hgl _ (by omega)
          rw [← hx0, ← hx1, ← hx3, ← hx4] at hps
          have HPS2 := Lib.hid hps
          have HKL := Lib.hid hKl
          have HK4ok := Lib.hid (show (⟨x0, x1, x3, x4⟩ : K4).ok from ⟨Ar.level_lt' HT.out.wf (hKl 0 (by omega)), Ar.level_lt' HT.out.wf (hKl 1 (by omega)), Ar.level_lt' HT.out.wf (hKl 2 (by omega)), Ar.level_lt' HT.out.wf (hKl 3 (by omega))⟩)
          clear hk hK4 hget hgl hgx hx0 hx1 hx3 hx4 hps hKl HPS
          have m0 : 0 ≤ (k : Int) ∧ (k : Int) < 9 := by omega
          have m1 : 0 ≤ (k : Int) + 1 ∧ (k : Int) + 1 < 9 := by omega
          have m3 : 0 ≤ (k : Int) + 3 ∧ (k : Int) + 3 < 9 := by omega
          have m4 : 0 ≤ (k : Int) + 4 ∧ (k : Int) + 4 < 9 := by omega
          obtain ⟨m0, M0⟩ := m0
          obtain ⟨m1, M1⟩ := m1
          obtain ⟨m3, M3⟩ := m3
          obtain ⟨m4, M4⟩ := m4
          have n1 : ((k : Int) + 1).toNat = k + 1 := by omega
          have n3 : ((k : Int) + 3).toNat = k + 3 := by omega
          have n4 : ((k : Int) + 4).toNat = k + 4 := by omega
          go_wp2_with fail
          clear hki
          have p1 : IntKind.i64.wrap ((k : Int) + 1) = (k : Int) + 1 := by rw [IntKind.wrap_i64]; omega
          have p3 : IntKind.i64.wrap ((k : Int) + 3) = (k : Int) + 3 := by rw [IntKind.wrap_i64]; omega
          have p4 : IntKind.i64.wrap ((k : Int) + 4) = (k : Int) + 4 := by rw [IntKind.wrap_i64]; omega
          refine wp_region_mixed 1 25 [20] (by kernel_rfl) (by kernel_rfl) (fun _ _ d _ _ h => by cases d <;> exact h) (CO W0 (I.own oB)) CO.x ⟨W0.drew, fun _ _ _ => rfl⟩ rfl ?_
          simp only [List.take_succ_cons, List.take_zero, List.drop_succ_cons, List.drop_zero, moved]
          repeat (refine wpStillC_step (by decide) (fun K hK => ?_); go_simp; (try simp only [p1, p3, p4, m0, m1, m3, m4, M0, M1, M3, M4, n1, n3, n4, and_self, true_and, if_true, g0, g1, g3, g4]); (try go_simp); refine hK _ ?_; clear hK K)
          refine wpStillC_forced (by decide) ⟨⟨W0.drew, fun _ _ _ => rfl⟩, rfl⟩ ?_
          go_wp2_with fail
          obtain ⟨r1, T1', hx, hxe, hxo⟩ := gbind3 HPS2.out
          obtain ⟨B1, hB1, hT1⟩ : ∃ B1, T.A.join ⟨x0, x1, x3, x4⟩ = some (r1, B1) ∧ T1' = ⟨B1, T.L⟩ := by
            have h0 := hx
            simp only [Lf.up, Option.map_eq_some_iff, Prod.mk.injEq, Prod.exists] at h0
            obtain ⟨a, b, h1, rfl, rfl⟩ := h0
            exact ⟨b, h1, rfl⟩
          subst hT1
          have HNX := Lib.hid (join_next HT.out (d := d) (by omega) HKL.out hx)
          have HXE := Lib.hid hxe
          have HXO := Lib.hid hxo
          have HB1 := Lib.hid hB1
          clear hx hxe hxo hB1 g0 g1 g3 g4 hc0 p1 p3 p4 m0 m1 m3 m4 M0 M1 M3 M4 n1 n3 n4
          refine (join_w (HL.out.ext (Fr.nil W0).drew).arena ⟨x0, x1, x3, x4⟩ HK4ok.out HB1.out).mono ?_
          rintro e5 w5 ⟨rfl, oC, h1, h2⟩
          have hLF := (HL.out.ext (Fr.nil W0).drew).arena' h1 h2
          have hF5 : Fr W0 (I.own oB) w5 (I.own oC) := (HL.out.fr (Fr.nil W0).drew).trans hLF.2
          have hd2 := hLF.1.d2
          have HO5 := Lib.hid (HO.out.step hF5 (by have := HP.out.lt; simp; omega) ⟨hd2.2.1, hd2.2.2.1, hd2.2.2.2⟩)
          have HP5 := Lib.hid (HP.out.fr hF5 HNO.out.1 HNO.out.2)
          have HK5 := Lib.hid (show ∀ b, b < W0.heap.size → b ∉ I.own oB → w5.heap[b]? = W0.heap[b]? from fun b hb hn => hF5.keep b hb hn)
          have HF5 := Lib.hid (HF.out.trans hF5)
          have HL5 := Lib.hid hLF.1
          clear h1 h2 hLF hF5 hd2
          cases r1 with
          | error c =>
            obtain ⟨rfl, rfl⟩ := HXE.out c rfl
            simp only [encR, errV]
            go_wp2_with fail
            refine ⟨⟨⟨w5, HK5.out⟩, rfl⟩, ?_⟩
            repeat (refine wpStillC_step (by decide) (fun K hK => ?_); go_simp; refine hK _ ?_; clear hK K)
            refine wpStillC_nil ⟨⟨⟨w5, HK5.out⟩, rfl⟩, ?_⟩
            go_wp2_with fail
            go_ret2
            exact ⟨rfl, oC, HL5.out, HF5.out⟩
          | ok four =>
            have hfl := HNX.out.ok four rfl
            have HFL := Lib.hid hfl
            obtain ⟨r2, T2, hx, hxe, hxo⟩ := gbind3 (HXO.out four rfl)
            have HNX2 := Lib.hid (resF_next HLW.out.good HNX.out.valid hfl HE1.out hx)
            have hcw := HIH.out w5 I ⟨B1, T.L⟩ oC four (e) r2 T2 HL5.out HNX.out.valid hfl HE1.out hx
            skip
            have HCW := Lib.hid hcw
            have HXE2 := Lib.hid hxe
            have HXO2 := Lib.hid hxo
            clear hx hxe hxo hcw hfl
            simp only [encR, okV]
            go_wp2_with fail
            refine ⟨⟨⟨w5, HK5.out⟩, rfl⟩, ?_⟩
            repeat (refine wpStillC_step (by decide) (fun K hK => ?_); go_simp; refine hK _ ?_; clear hK K)
            refine wpStillC_nil ⟨⟨⟨w5, HK5.out⟩, rfl⟩, ?_⟩
            go_wp2_with fail
            refine HCW.out.mono ?_
            rintro e6 w6 ⟨rfl, hq⟩
            obtain ⟨oD, hL6, hF6⟩ := hq
            have hnoC := HO5.out.no HOL.out (by simp; omega)
            have hd2 := hL6.d2
            have hO6 := HO5.out.step hF6 (by have := HP5.out.lt; simp; omega) ⟨hd2.2.1, hd2.2.2.1, hd2.2.2.2⟩
            have hnoD := hO6.no HOL.out (by simp; omega)
            have HO6 := Lib.hid hO6
            have HNO6 := Lib.hid (show w1.heap.size ∉ I.own oD ∧ w1.heap.size + 1 ∉ I.own oD from ⟨hnoD _ (by simp), hnoD _ (by simp)⟩)
            have HP6 := Lib.hid (HP5.out.fr hF6 (hnoC _ (by simp)) (hnoC _ (by simp)))
            have HF6 := Lib.hid (HF5.out.trans hF6)
            have HL6 := Lib.hid hL6
            clear hL6 hF6 hd2 hnoC hO6 hnoD HP HF HL HO HCW HP5 HF5 HL5 HO5 HK5
            have hb9 : (acc ++ List.replicate (4 - j) 0)[j]? = some 0 := by
              rw [List.getElem?_append_right (by rw [HLEN.out]; exact Nat.le_refl _), HLEN.out, Nat.sub_self, List.getElem?_replicate]; simp; omega
            have hcb : w6.cell? ⟨w1.heap.size + 1, j, none⟩ = some (.int .u32 ((0 : Nat) : Int)) := lbox_cell (T := 155) HP6.out.hK _ _ hb9
            have hfb9 : w6.frozen? ⟨w1.heap.size + 1, j, none⟩ = false := lbox_fz (T := 155) HP6.out.hK j
            have hset : ∀ v, (acc ++ List.replicate (4 - j) 0).set j v = (acc ++ [v]) ++ List.replicate (4 - (j + 1)) 0 := fun v => by
              rw [show 4 - j = (4 - (j + 1)) + 1 by omega, List.replicate_succ, List.set_append_right _ _ (by rw [HLEN.out]; exact Nat.le_refl _), HLEN.out, Nat.sub_self, List.set_cons_zero, List.append_assoc]; rfl
            have HSET := Lib.hid hset
            clear hb9 hset
            cases r2 with
            | ok jj =>
              have hP7 := HP6.out.set j jj
              rw [HSET.out] at hP7
              have HP7 := Lib.hid hP7
              have HL7 := Lib.hid (HL6.out.setNew (a := ⟨w1.heap.size + 1, j, none⟩) (fun e => HNK8.out.2.1 e.symm) HNO6.out.2 HNK8.out.2.2 (.int .u32 (jj : Int)))
              have HF7 := Lib.hid (HF6.out.setCell (a := ⟨w1.heap.size + 1, j, none⟩) (by show w.heap.size ≤ w1.heap.size + 1; omega) (.int .u32 (jj : Int)))
              clear hP7
              simp only [encR, okV]
              go_wp2_with fail
              generalize w6.setCell ⟨w1.heap.size + 1, j, none⟩ (.int .u32 (jj : Int)) = W7 at *
              go_wp2_with fail
              refine ⟨⟨j + 1, acc ++ [jj], T2, oD, by omega, rfl, by rw [List.length_append, HLEN.out]; rfl, HNX2.out.valid, HL7.out, HF7.out, HO6.out, HP7.out, ?_, fun q hq => HNX2.out.le.level' (HNX.out.le.level' (HLVS.out q hq)), fun q hq => ?_⟩, by simp only [intOf]; omega⟩
              · rw [show 4 - (j + 1) = 3 - j by omega]; exact HXO2.out jj rfl
              · rcases List.mem_append.1 hq with h3 | h3
                · exact HNX2.out.le.level' (HNX.out.le.level' (HLVA.out q h3))
                · obtain rfl : q = jj := by simpa using h3
                  exact HNX2.out.ok _ rfl
            | error c =>
              obtain ⟨rfl, rfl⟩ := HXE2.out c rfl
              have HL7 := Lib.hid (HL6.out.setNew (a := ⟨w1.heap.size + 1, j, none⟩) (fun e => HNK8.out.2.1 e.symm) HNO6.out.2 HNK8.out.2.2 (.int .u32 0))
              have HF7 := Lib.hid (HF6.out.setCell (a := ⟨w1.heap.size + 1, j, none⟩) (by show w.heap.size ≤ w1.heap.size + 1; omega) (.int .u32 0))
              simp only [encR, errV]
              go_wp2_with fail
              go_ret2
              exact ⟨rfl, oD, HL7.out, HF7.out⟩
        · have hj4' : j = 4 := by omega
          subst hj4'
          simp only [show ((4 : Nat) : Int) = 4 from rfl]
          obtain ⟨c0, c1, c2, c3, rfl⟩ := list4 acc HLEN.out
          have hps : T.up (T.A.join (k4of [c0, c1, c2, c3])) = some (r, S') := by have := HPS.out; simpa [makeL, gbind] using this
          obtain ⟨B1, hB1, hT1⟩ : ∃ B1, T.A.join ⟨c0, c1, c2, c3⟩ = some (r, B1) ∧ S' = ⟨B1, T.L⟩ := by
            have h0 := hps
            simp only [Lf.up, Option.map_eq_some_iff, Prod.mk.injEq, Prod.exists] at h0
            obtain ⟨a, b, h1, rfl, rfl⟩ := h0
            exact ⟨b, h1, rfl⟩
          subst hT1
          have HB1 := Lib.hid hB1
          have hcl := fun q hq => HLVA.out q hq
          have HKok := Lib.hid (show (⟨c0, c1, c2, c3⟩ : K4).ok from ⟨Ar.level_lt' HT.out.wf (hcl c0 (by simp)), Ar.level_lt' HT.out.wf (hcl c1 (by simp)), Ar.level_lt' HT.out.wf (hcl c2 (by simp)), Ar.level_lt' HT.out.wf (hcl c3 (by simp))⟩)
          have hc0 : ∀ y : CO W0 (I.own oB), y.x.cell? ⟨I.lb, 0, none⟩ = some (.pointer (some ⟨I.ab, 0, none⟩)) := fun y => by
            rw [cell_of_heap (by rw [y.h _ HL.out.lt.1 HLN.out]; exact HL.out.hl)]; rfl
          have hkx : ∀ (y : CO W0 (I.own oB)), y.x.heap[w1.heap.size + 1]? = some (.cells (([c0, c1, c2, c3] : List Nat).map u32).toArray 155) := fun y => by
            rw [y.h _ HP.out.lt.2 HNO.out.2]; exact HP.out.hK
          have g0 : ∀ y : CO W0 (I.own oB), y.x.cell? ⟨w1.heap.size + 1, 0, none⟩ = some (.int .u32 (c0 : Int)) := fun y => lbox_cell (T := 155) (hkx y) 0 c0 rfl
          have g1 : ∀ y : CO W0 (I.own oB), y.x.cell? ⟨w1.heap.size + 1, 1, none⟩ = some (.int .u32 (c1 : Int)) := fun y => lbox_cell (T := 155) (hkx y) 1 c1 rfl
          have g2 : ∀ y : CO W0 (I.own oB), y.x.cell? ⟨w1.heap.size + 1, 2, none⟩ = some (.int .u32 (c2 : Int)) := fun y => lbox_cell (T := 155) (hkx y) 2 c2 rfl
          have g3 : ∀ y : CO W0 (I.own oB), y.x.cell? ⟨w1.heap.size + 1, 3, none⟩ = some (.int .u32 (c3 : Int)) := fun y => lbox_cell (T := 155) (hkx y) 3 c3 rfl
          clear hps hB1 hcl hkx HPS
          go_wp2_with fail
          refine wp_region_mixed 1 9 [5] (by kernel_rfl) (by kernel_rfl) (fun _ _ d _ _ h => by cases d <;> exact h) (CO W0 (I.own oB)) CO.x ⟨W0.drew, fun _ _ _ => rfl⟩ rfl ?_
          simp only [List.take_succ_cons, List.take_zero, List.drop_succ_cons, List.drop_zero, moved]
          repeat (refine wpStillC_step (by decide) (fun K hK => ?_); go_simp; refine hK _ ?_; clear hK K)
          refine wpStillC_forced (by decide) ⟨⟨W0.drew, fun _ _ _ => rfl⟩, rfl⟩ ?_
          go_wp2_with fail
          clear g0 g1 g2 g3 hc0
          refine (join_w (HL.out.ext (Fr.nil W0).drew).arena ⟨c0, c1, c2, c3⟩ HKok.out HB1.out).mono ?_
          rintro e5 w5 ⟨rfl, oC, h1, h2⟩
          have hLF := (HL.out.ext (Fr.nil W0).drew).arena' h1 h2
          have hF5 : Fr W0 (I.own oB) w5 (I.own oC) := (HL.out.fr (Fr.nil W0).drew).trans hLF.2
          have HK5 := Lib.hid (show ∀ b, b < W0.heap.size → b ∉ I.own oB → w5.heap[b]? = W0.heap[b]? from fun b hb hn => hF5.keep b hb hn)
          have HF5 := Lib.hid (HF.out.trans hF5)
          have HL5 := Lib.hid hLF.1
          clear h1 h2 hLF hF5
          cases r with
          | error c =>
            simp only [encR, errV]
            go_wp2_with fail
            refine ⟨⟨⟨w5, HK5.out⟩, rfl⟩, ?_⟩
            repeat (refine wpStillC_step (by decide) (fun K hK => ?_); go_simp; refine hK _ ?_; clear hK K)
            refine wpStillC_nil ⟨⟨⟨w5, HK5.out⟩, rfl⟩, ?_⟩
            go_wp2_with fail
            go_ret2
            exact ⟨rfl, oC, HL5.out, HF5.out⟩
          | ok four =>
            simp only [encR, okV]
            go_wp2_with fail
            refine ⟨⟨⟨w5, HK5.out⟩, rfl⟩, ?_⟩
            repeat (refine wpStillC_step (by decide) (fun K hK => ?_); go_simp; refine hK _ ?_; clear hK K)
            refine wpStillC_nil ⟨⟨⟨w5, HK5.out⟩, rfl⟩, ?_⟩
            go_wp2_with fail
            go_ret2
            exact ⟨rfl, oC, HL5.out, HF5.out⟩
end Go.Proofs.YtnkdbpjmepfblaaGreatDoor

/- Life: Result. -/
namespace Go.Proofs.YtnkdbpjmepfblaaGreatDoor
open Go Go.RowKit

theorem lookL_none_of {κ : Type} [DecidableEq κ] {L : List (κ × Nat)} {x : κ} (h : lookL L x = none) : (lookL L x).isSome = false := by rw [h]; rfl
set_option maxRecDepth 100000 in
set_option maxHeartbeats 3200000 in
theorem result_zero {N : Kn} : ResC N 0 := by
  intro w I S oA i e r S' h hv hl he hj
  have h44 := hv.wf.level_le i
  have hi : i < 4294967296 := Ar.level_lt' hv.wf hl
  have hel := hv.wf.elo
  obtain ⟨D, hD⟩ : ∃ D : Int, D = S.A.level i := ⟨_, rfl⟩
  have hD0 : 3 ≤ D := by omega
  have hD1 : D ≤ 44 := by omega
  have hDe : (e : Int) ≤ D - 2 := by omega
  have hDb : (D == 3) = true := by simp; omega
  have HD := Lib.hid hD
  have hcn := hv.wf.good
  have hct : S.A.count i < 18446744073709551616 := by
    unfold Ar.count
    split
    · rename_i n hn
      have := (hcn n (List.mem_of_getElem? hn)).2.2.2.2.2.2
      omega
    · decide
  have hlw := level_w h.arena i hi
  rw [← hD] at hlw
  have HLV := Lib.hid hlw
  have HCT := Lib.hid (count_w h.arena i hi)
  have HLW := Lib.hid h
  have HV := Lib.hid hv
  have HL := Lib.hid hl
  have HOL := Lib.hid h.ownLt
  have HE := Lib.hid he
  have hlb := h.lt.1
  have hc0 := h.c.1
  have hc2 := h.c.2.2.1
  simp only [resF] at hj
  unfold Lf.head at hj
  clear h hl hlw hcn hv he
  by_cases hcz : S.A.count i = 0
  · rw [if_pos hcz] at hj
    obtain ⟨A1, hm, hS⟩ : ∃ A1, S.A.mt (D - 1) = some (r, A1) ∧ S' = ⟨A1, S.L⟩ := by
      rw [show D - 1 = ((2 : Nat) : Int) by rw [hD, HL.out]; omega]
      simp only [Lf.up, Option.map_eq_some_iff, Prod.mk.injEq, Prod.exists] at hj
      obtain ⟨a, b, h1, rfl, rfl⟩ := hj
      exact ⟨b, h1, rfl⟩
    subst hS
    have HEM := Lib.hid (empty_w HLW.out.arena (by omega) (D - 1) (by omega) (by omega) hm)
    have hczb : ((S.A.count i : Nat) : Int) = 0 := by omega
    clear hj hm hcz hD
    go_enter Tryz.func87, Tryz.ntmps87
    go_wp2_with fail
    refine HLV.out.mono ?_
    rintro e1 w1 ⟨rfl, rfl⟩
    go_wp2_with fail
    refine HCT.out.mono ?_
    rintro e1 w1 ⟨rfl, rfl⟩
    go_wp2_with fail
    refine HEM.out.mono ?_
    rintro e1 w1 ⟨rfl, oB, h1, h2⟩
    have hq : LPost w I N ⟨A1, S.L⟩ oA w1 := ⟨oB, (HLW.out.arena' h1 h2).1, (HLW.out.arena' h1 h2).2⟩
    clear h1 h2
    cases r with
    | ok j =>
      simp only [encR, okV]
      go_wp2_with fail
      go_ret2
      exact ⟨rfl, hq⟩
    | error c =>
      simp only [encR, errV]
      go_wp2_with fail
      go_ret2
      exact ⟨rfl, hq⟩
  · rw [if_neg hcz] at hj
    have hczb : (((S.A.count i : Nat) : Int) == 0) = false := by simp; omega
    have hlook := HLW.out.known.look rk_keys Tryz.underlying48 zero29 (i, e)
    have hlook' : (Instr.lookup 48 (.map (some I.km)) (.agg #[.int .u32 (i : Int), .int .i64 (e : Int)]) true).run Tryz.prog w = .ok (.tuple #[.int .u32 (((lookL S.L (i, e)).getD 0 : Nat) : Int), .bool (lookL S.L (i, e)).isSome]) w := hlook
    clear hlook hcz hD
    cases hlk : lookL S.L (i, e) with
    | some v =>
      rw [hlk] at hj hlook'
      obtain ⟨rfl, rfl⟩ : Except.ok v = r ∧ S = S' := by simpa using hj
      simp only [Option.getD_some, Option.isSome_some] at hlook'
      clear hj hlk
      go_enter Tryz.func87, Tryz.ntmps87
      go_wp2_with fail
      refine HLV.out.mono ?_
      rintro e1 w1 ⟨rfl, rfl⟩
      go_wp2_with fail
      refine HCT.out.mono ?_
      rintro e1 w1 ⟨rfl, rfl⟩
      go_wp2_with fail
      go_ret2
      exact ⟨rfl, oA, HLW.out, HLW.out.fr (Fr.nil w)⟩
    | none =>
      rw [hlk] at hj hlook'
      simp only [Option.getD_none, Option.isSome_none] at hlook' hj
      obtain ⟨r1, S1, hx, hxe, hxo⟩ : ∃ r1 S1, S.up (S.A.leaf (leafRes N (S.A.quarters i) (2 ^ e))) = some (r1, S1) ∧ (∀ c, r1 = .error c → r = .error c ∧ S1 = S') ∧ ∀ out, r1 = .ok out → r = .ok out ∧ S' = { S1 with L := putL S1.L (i, e) out } := by
        rcases gbind_some hj with ⟨c, h1, h2⟩ | ⟨out, T, h1, h2⟩
        · exact ⟨.error c, S', h1, fun c' hc => ⟨by rw [h2, hc], rfl⟩, fun out ho => by cases ho⟩
        · simp only [Option.some.injEq, Prod.mk.injEq] at h2
          exact ⟨.ok out, T, h1, fun c hc => (by cases hc), fun o ho => by injection ho with ho; subst ho; exact ⟨h2.1.symm, h2.2.symm⟩⟩
      have HXE := Lib.hid hxe
      have HXO := Lib.hid hxo
      obtain ⟨B1, hB1, hS1⟩ : ∃ B1, S.A.leaf (leafRes N (S.A.quarters i) (2 ^ e)) = some (r1, B1) ∧ S1 = ⟨B1, S.L⟩ := by
        simp only [Lf.up, Option.map_eq_some_iff, Prod.mk.injEq, Prod.exists] at hx
        obtain ⟨a, b, h1, rfl, rfl⟩ := hx
        exact ⟨b, h1, rfl⟩
      subst hS1
      have HCW := Lib.hid (leavesL_w HLW.out i hi HL.out e HE.out hB1)
      clear hB1
      clear hj hlk hx hxe hxo
      simp only [show ((0 : Nat) : Int) = 0 from rfl] at hlook'
      go_enter Tryz.func87, Tryz.ntmps87
      go_wp2_with fail
      refine HLV.out.mono ?_
      rintro e1 w1 ⟨rfl, rfl⟩
      go_wp2_with fail
      refine HCT.out.mono ?_
      rintro e1 w1 ⟨rfl, rfl⟩
      go_wp2_with fail
      refine HCW.out.mono ?_
      rintro e1 w5 ⟨rfl, hq⟩
      obtain ⟨oB, hL5, hF5⟩ := hq
      have HL5 := Lib.hid hL5
      have HF5 := Lib.hid hF5
      clear hL5 hF5 hlook' hc0 hc2
      cases r1 with
      | error c =>
        obtain ⟨rfl, rfl⟩ := HXE.out c rfl
        simp only [encR, errV]
        go_wp2_with fail
        go_ret2
        exact ⟨rfl, oB, HL5.out, HF5.out⟩
      | ok out =>
        obtain ⟨rfl, rfl⟩ := HXO.out out rfl
        obtain ⟨ob, hput, hM⟩ := HL5.out.known.putF rk_keys Tryz.underlying48 (i, e) out
        have hput' : (Instr.mapUpdate 48 (.map (some I.km)) (.agg #[.int .u32 (i : Int), .int .i64 (e : Int)]) (.int .u32 (out : Nat))).run Tryz.prog w5 = .ok () (putObj w5 I.km ob) := hput
        have HP := Lib.hid (HL5.out.put' hM)
        have hc5 := HL5.out.c.2.2.1
        clear hput hM
        simp only [encR, okV]
        go_wp2_with fail
        go_ret2
        exact ⟨rfl, oB, HP.out.1, HF5.out.trans HP.out.2⟩
set_option maxRecDepth 100000 in
set_option maxHeartbeats 3200000 in
theorem result_succ {N : Kn} {d : Nat} (IH : ResC N d) : ResC N (d + 1) := by
  intro w I S oA i e r S' h hv hl he hj
  have h44 := hv.wf.level_le i
  have hi : i < 4294967296 := Ar.level_lt' hv.wf hl
  have hel := hv.wf.elo
  obtain ⟨D, hD⟩ : ∃ D : Int, D = S.A.level i := ⟨_, rfl⟩
  have hD0 : 3 ≤ D := by omega
  have hD1 : D ≤ 44 := by omega
  have hDe : (e : Int) ≤ D - 2 := by omega
  have hDb : (D == 3) = false := by simp; omega
  have HD := Lib.hid hD
  have hcn := hv.wf.good
  have hct : S.A.count i < 18446744073709551616 := by
    unfold Ar.count
    split
    · rename_i n hn
      have := (hcn n (List.mem_of_getElem? hn)).2.2.2.2.2.2
      omega
    · decide
  have hlw := level_w h.arena i hi
  rw [← hD] at hlw
  have HLV := Lib.hid hlw
  have HCT := Lib.hid (count_w h.arena i hi)
  have HLW := Lib.hid h
  have HV := Lib.hid hv
  have HL := Lib.hid hl
  have HOL := Lib.hid h.ownLt
  have HE := Lib.hid he
  have hlb := h.lt.1
  have hc0 := h.c.1
  have hc2 := h.c.2.2.1
  simp only [resF] at hj
  unfold Lf.head at hj
  clear h hl hlw hcn hv he
  by_cases hcz : S.A.count i = 0
  · rw [if_pos hcz] at hj
    obtain ⟨A1, hm, hS⟩ : ∃ A1, S.A.mt (D - 1) = some (r, A1) ∧ S' = ⟨A1, S.L⟩ := by
      rw [show D - 1 = ((d + 3 : Nat) : Int) by rw [hD, HL.out]; omega]
      simp only [Lf.up, Option.map_eq_some_iff, Prod.mk.injEq, Prod.exists] at hj
      obtain ⟨a, b, h1, rfl, rfl⟩ := hj
      exact ⟨b, h1, rfl⟩
    subst hS
    have HEM := Lib.hid (empty_w HLW.out.arena (by omega) (D - 1) (by omega) (by omega) hm)
    have hczb : ((S.A.count i : Nat) : Int) = 0 := by omega
    clear hj hm hcz hD
    go_enter Tryz.func87, Tryz.ntmps87
    go_wp2_with fail
    refine HLV.out.mono ?_
    rintro e1 w1 ⟨rfl, rfl⟩
    go_wp2_with fail
    refine HCT.out.mono ?_
    rintro e1 w1 ⟨rfl, rfl⟩
    go_wp2_with fail
    refine HEM.out.mono ?_
    rintro e1 w1 ⟨rfl, oB, h1, h2⟩
    have hq : LPost w I N ⟨A1, S.L⟩ oA w1 := ⟨oB, (HLW.out.arena' h1 h2).1, (HLW.out.arena' h1 h2).2⟩
    clear h1 h2
    cases r with
    | ok j =>
      simp only [encR, okV]
      go_wp2_with fail
      go_ret2
      exact ⟨rfl, hq⟩
    | error c =>
      simp only [encR, errV]
      go_wp2_with fail
      go_ret2
      exact ⟨rfl, hq⟩
  · rw [if_neg hcz] at hj
    have hczb : (((S.A.count i : Nat) : Int) == 0) = false := by simp; omega
    have hlook := HLW.out.known.look rk_keys Tryz.underlying48 zero29 (i, e)
    have hlook' : (Instr.lookup 48 (.map (some I.km)) (.agg #[.int .u32 (i : Int), .int .i64 (e : Int)]) true).run Tryz.prog w = .ok (.tuple #[.int .u32 (((lookL S.L (i, e)).getD 0 : Nat) : Int), .bool (lookL S.L (i, e)).isSome]) w := hlook
    clear hlook hcz hD
    cases hlk : lookL S.L (i, e) with
    | some v =>
      rw [hlk] at hj hlook'
      obtain ⟨rfl, rfl⟩ : Except.ok v = r ∧ S = S' := by simpa using hj
      simp only [Option.getD_some, Option.isSome_some] at hlook'
      clear hj hlk
      go_enter Tryz.func87, Tryz.ntmps87
      go_wp2_with fail
      refine HLV.out.mono ?_
      rintro e1 w1 ⟨rfl, rfl⟩
      go_wp2_with fail
      refine HCT.out.mono ?_
      rintro e1 w1 ⟨rfl, rfl⟩
      go_wp2_with fail
      go_ret2
      exact ⟨rfl, oA, HLW.out, HLW.out.fr (Fr.nil w)⟩
    | none =>
      rw [hlk] at hj hlook'
      simp only [Option.getD_none, Option.isSome_none] at hlook' hj
      obtain ⟨r1, S1, hx, hxe, hxo⟩ : ∃ r1 S1, S.make i (decide (e = d + 2)) (fun k T => resF N d k (if e = d + 2 then e - 1 else e) T) = some (r1, S1) ∧ (∀ c, r1 = .error c → r = .error c ∧ S1 = S') ∧ ∀ out, r1 = .ok out → r = .ok out ∧ S' = { S1 with L := putL S1.L (i, e) out } := by
        rcases gbind_some hj with ⟨c, h1, h2⟩ | ⟨out, T, h1, h2⟩
        · exact ⟨.error c, S', h1, fun c' hc => ⟨by rw [h2, hc], rfl⟩, fun out ho => by cases ho⟩
        · simp only [Option.some.injEq, Prod.mk.injEq] at h2
          exact ⟨.ok out, T, h1, fun c hc => (by cases hc), fun o ho => by injection ho with ho; subst ho; exact ⟨h2.1.symm, h2.2.symm⟩⟩
      have HXE := Lib.hid hxe
      have HXO := Lib.hid hxo
      have HCW := Lib.hid (make_w IH HLW.out HV.out i HL.out e HE.out hx)
      clear IH
      clear hj hlk hx hxe hxo
      simp only [show ((0 : Nat) : Int) = 0 from rfl] at hlook'
      go_enter Tryz.func87, Tryz.ntmps87
      go_wp2_with fail
      refine HLV.out.mono ?_
      rintro e1 w1 ⟨rfl, rfl⟩
      go_wp2_with fail
      refine HCT.out.mono ?_
      rintro e1 w1 ⟨rfl, rfl⟩
      go_wp2_with fail
      refine HCW.out.mono ?_
      rintro e1 w5 ⟨rfl, hq⟩
      obtain ⟨oB, hL5, hF5⟩ := hq
      have HL5 := Lib.hid hL5
      have HF5 := Lib.hid hF5
      clear hL5 hF5 hlook' hc0 hc2
      cases r1 with
      | error c =>
        obtain ⟨rfl, rfl⟩ := HXE.out c rfl
        simp only [encR, errV]
        go_wp2_with fail
        go_ret2
        exact ⟨rfl, oB, HL5.out, HF5.out⟩
      | ok out =>
        obtain ⟨rfl, rfl⟩ := HXO.out out rfl
        obtain ⟨ob, hput, hM⟩ := HL5.out.known.putF rk_keys Tryz.underlying48 (i, e) out
        have hput' : (Instr.mapUpdate 48 (.map (some I.km)) (.agg #[.int .u32 (i : Int), .int .i64 (e : Int)]) (.int .u32 (out : Nat))).run Tryz.prog w5 = .ok () (putObj w5 I.km ob) := hput
        have HP := Lib.hid (HL5.out.put' hM)
        have hc5 := HL5.out.c.2.2.1
        clear hput hM
        simp only [encR, okV]
        go_wp2_with fail
        go_ret2
        exact ⟨rfl, oB, HP.out.1, HF5.out.trans HP.out.2⟩
theorem result_w (N : Kn) : ∀ d, ResC N d := by
  intro d
  induction d with
  | zero => exact result_zero
  | succ d ih => exact result_succ ih
end Go.Proofs.YtnkdbpjmepfblaaGreatDoor
