/- Texts of the walk and its plain law, merged: SqG, PureH, LfA, LfB. -/
import Derived.Test.YtnkdbpjmepfblaaGreatDoorM16
import Derived.Test.YtnkdbpjmepfblaaGreatDoorM17
/- Squares: Nine. -/
namespace Go.Proofs.YtnkdbpjmepfblaaGreatDoor
open Go Go.RowKit

theorem lbox_set {w : World} {b : Nat} {l : List Nat} {T : TypeId} (h : w.heap[b]? = some (.cells (l.map u32).toArray T)) (k v : Nat) :
    (w.setCell ⟨b, k, none⟩ (.int .u32 (v : Int))).heap[b]? = some (.cells ((l.set k v).map u32).toArray T) := by
  rw [heap_setCell_same _ _ _ _ _ _ h]
  congr 2
  simp [List.map_set, u32]
theorem lbox_cell {w : World} {b : Nat} {l : List Nat} {T : TypeId} (h : w.heap[b]? = some (.cells (l.map u32).toArray T)) (k : Nat) (v : Nat) (hk : l[k]? = some v) : w.cell? ⟨b, k, none⟩ = some (.int .u32 (v : Int)) := by
  rw [cell_of_heap h]
  simp [hk, u32]
theorem lbox_fz {w : World} {b : Nat} {l : List Nat} {T : TypeId} (h : w.heap[b]? = some (.cells (l.map u32).toArray T)) (k : Nat) : w.frozen? ⟨b, k, none⟩ = false := frozen_of_row w b k _ _ h
theorem list9 (l : List Nat) (h : l.length = 9) : ∃ a0 a1 a2 a3 a4 a5 a6 a7 a8, l = [a0, a1, a2, a3, a4, a5, a6, a7, a8] := by
  match l, h with
  | [a0, a1, a2, a3, a4, a5, a6, a7, a8], _ => exact ⟨a0, a1, a2, a3, a4, a5, a6, a7, a8, rfl⟩
theorem set9_box {w : World} {b : Nat} {l : List Nat} {T : TypeId} (h : w.heap[b]? = some (.cells (l.map u32).toArray T)) (hl : l.length = 9) (a0 a1 a2 a3 a4 a5 a6 a7 a8 : Nat) :
    (((((((((w.setCell ⟨b, 0, none⟩ (.int .u32 (a0 : Int))).setCell ⟨b, 1, none⟩ (.int .u32 (a1 : Int))).setCell ⟨b, 2, none⟩ (.int .u32 (a2 : Int))).setCell ⟨b, 3, none⟩ (.int .u32 (a3 : Int))).setCell ⟨b, 4, none⟩ (.int .u32 (a4 : Int))).setCell ⟨b, 5, none⟩ (.int .u32 (a5 : Int))).setCell ⟨b, 6, none⟩ (.int .u32 (a6 : Int))).setCell ⟨b, 7, none⟩ (.int .u32 (a7 : Int))).setCell ⟨b, 8, none⟩ (.int .u32 (a8 : Int))).heap[b]? = some (.cells (([a0, a1, a2, a3, a4, a5, a6, a7, a8] : List Nat).map u32).toArray T) := by
  obtain ⟨b0, b1, b2, b3, b4, b5, b6, b7, b8, rfl⟩ := list9 l hl
  have h1 := lbox_set h 0 a0
  have h2 := lbox_set h1 1 a1
  have h3 := lbox_set h2 2 a2
  have h4 := lbox_set h3 3 a3
  have h5 := lbox_set h4 4 a4
  have h6 := lbox_set h5 5 a5
  have h7 := lbox_set h6 6 a6
  have h8 := lbox_set h7 7 a7
  have h9 := lbox_set h8 8 a8
  exact h9
theorem set9_ne {w : World} {b c : Nat} (hc : c ≠ b) (a0 a1 a2 a3 a4 a5 a6 a7 a8 : Nat) :
    (((((((((w.setCell ⟨b, 0, none⟩ (.int .u32 (a0 : Int))).setCell ⟨b, 1, none⟩ (.int .u32 (a1 : Int))).setCell ⟨b, 2, none⟩ (.int .u32 (a2 : Int))).setCell ⟨b, 3, none⟩ (.int .u32 (a3 : Int))).setCell ⟨b, 4, none⟩ (.int .u32 (a4 : Int))).setCell ⟨b, 5, none⟩ (.int .u32 (a5 : Int))).setCell ⟨b, 6, none⟩ (.int .u32 (a6 : Int))).setCell ⟨b, 7, none⟩ (.int .u32 (a7 : Int))).setCell ⟨b, 8, none⟩ (.int .u32 (a8 : Int))).heap[c]? = w.heap[c]? := by
  rw [World.heap_setCell_ne _ _ _ _ (by show c ≠ b; exact hc), World.heap_setCell_ne _ _ _ _ (by show c ≠ b; exact hc), World.heap_setCell_ne _ _ _ _ (by show c ≠ b; exact hc), World.heap_setCell_ne _ _ _ _ (by show c ≠ b; exact hc), World.heap_setCell_ne _ _ _ _ (by show c ≠ b; exact hc), World.heap_setCell_ne _ _ _ _ (by show c ≠ b; exact hc), World.heap_setCell_ne _ _ _ _ (by show c ≠ b; exact hc), World.heap_setCell_ne _ _ _ _ (by show c ≠ b; exact hc), World.heap_setCell_ne _ _ _ _ (by show c ≠ b; exact hc)]
/-- The kids' kids that are laid into the grid when kid i and kid j of it are next. -/
def gridL (g : Nat → Nat → Nat) (i j : Nat) : List Nat :=
  (List.range 16).map fun c => let i' := 2 * (c / 8) + c % 4 / 2; let j' := 2 * (c / 4 % 2) + c % 2; if i' < i ∨ (i' = i ∧ j' < j) then g i' j' else 0
theorem gridL_set (g : Nat → Nat → Nat) {i j : Nat} (hi : i < 4) (hj : j < 4) : (gridL g i j).set ((i / 2 * 2 + j / 2) * 4 + (i % 2 * 2 + j % 2)) (g i j) = gridL g i (j + 1) := by
  have h1 : i = 0 ∨ i = 1 ∨ i = 2 ∨ i = 3 := by omega
  have h2 : j = 0 ∨ j = 1 ∨ j = 2 ∨ j = 3 := by omega
  rcases h1 with rfl | rfl | rfl | rfl <;> rcases h2 with rfl | rfl | rfl | rfl <;> rfl
theorem gridL_row (g : Nat → Nat → Nat) (i : Nat) (hi : i < 4) : gridL g i 4 = gridL g (i + 1) 0 := by
  have h1 : i = 0 ∨ i = 1 ∨ i = 2 ∨ i = 3 := by omega
  rcases h1 with rfl | rfl | rfl | rfl <;> rfl
theorem gridL_full (g : Nat → Nat → Nat) {y x : Nat} (hy : y < 4) (hx : x < 4) : (gridL g 4 0)[y * 4 + x]? = some (g (2 * (y / 2) + x / 2) (2 * (y % 2) + x % 2)) := by
  have h1 : y = 0 ∨ y = 1 ∨ y = 2 ∨ y = 3 := by omega
  have h2 : x = 0 ∨ x = 1 ∨ x = 2 ∨ x = 3 := by omega
  rcases h1 with rfl | rfl | rfl | rfl <;> rcases h2 with rfl | rfl | rfl | rfl <;> rfl
structure NM (w : World) (acc gl : List Nat) (wr : World) : Prop where
  sz : w.heap.size + 1 + 1 < wr.heap.size
  hZ : wr.heap[w.heap.size]? = some (.cells (([0, 0, 0, 0, 0, 0, 0, 0, 0] : List Nat).map u32).toArray 273)
  hA : wr.heap[w.heap.size + 1]? = some (.cells (acc.map u32).toArray 273)
  hG : wr.heap[w.heap.size + 1 + 1]? = some (.cells (gl.map u32).toArray 344)
theorem NM.ext {w wr wz : World} {acc gl : List Nat} {o o' : List Nat} (h : NM w acc gl wr) (hf : Fr wr o wz o') (hd : w.heap.size ∉ o ∧ w.heap.size + 1 ∉ o ∧ w.heap.size + 1 + 1 ∉ o) : NM w acc gl wz :=
  ⟨Nat.lt_of_lt_of_le h.sz hf.size, by rw [hf.keep _ (by have := h.sz; omega) hd.1]; exact h.hZ, by rw [hf.keep _ (by have := h.sz; omega) hd.2.1]; exact h.hA, by rw [hf.keep _ h.sz hd.2.2]; exact h.hG⟩
def encN : Except Nat (List Nat) → Value
  | .ok l => .tuple #[.agg (l.map u32).toArray, .nilIface]
  | .error c => .tuple #[.agg (([0, 0, 0, 0, 0, 0, 0, 0, 0] : List Nat).map u32).toArray, .iface 42 (.int .i64 (c : Int))]

/-- The worlds in which what lay there, but for o, stays. -/
structure CO (W : World) (o : List Nat) where
  x : World
  h : ∀ b, b < W.heap.size → b ∉ o → x.heap[b]? = W.heap[b]?
instance (W : World) (o : List Nat) : Nonempty (CO W o) := ⟨⟨W, fun _ _ _ => rfl⟩⟩
set_option maxRecDepth 100000 in
set_option maxHeartbeats 3200000 in
theorem nine_w {w : World} {ab : Nat} {A : Ar} {o : List Nat} (h : AW w ab A o) (n : Nat) (hn : n < 4294967296) (hl : 3 < A.level n) (hl2 : A.level n < 100) {r : Except Nat (List Nat)} {A' : Ar} (hj : A.nine n = some (r, A')) :
    Calls Tryz.prog 226 #[.pointer (some ⟨ab, 0, none⟩), .int .u32 n] w fun e w' => e = .returned (encN r) ∧ ∃ o', AW w' ab A' o' ∧ Fr w o w' o' := by
  have hj' := hj
  unfold Ar.nine at hj'
  rw [if_neg (by omega)] at hj'
  have HJ := Lib.hid hj'
  have HAW := Lib.hid h
  have HG := Lib.hid h.good
  have hws := h.lt
  have HWS := Lib.hid hws
  have hN0 : NM w [0, 0, 0, 0, 0, 0, 0, 0, 0] (gridL (A.grand n) 0 0) (((w.alloc (.cells (([0, 0, 0, 0, 0, 0, 0, 0, 0] : List Nat).map u32).toArray 273)).alloc (.cells (([0, 0, 0, 0, 0, 0, 0, 0, 0] : List Nat).map u32).toArray 273)).alloc (.cells ((gridL (A.grand n) 0 0).map u32).toArray 344)) := by
    refine ⟨by simp, ?_, ?_, ?_⟩
    · rw [Below.heap_alloc _ _ _ (by simp; omega), Below.heap_alloc _ _ _ (by simp)]; exact heap_new _ _
    · rw [Below.heap_alloc _ _ _ (by simp)]
      have := heap_new (w.alloc (.cells (([0, 0, 0, 0, 0, 0, 0, 0, 0] : List Nat).map u32).toArray 273)) (.cells (([0, 0, 0, 0, 0, 0, 0, 0, 0] : List Nat).map u32).toArray 273)
      rw [World.size_alloc] at this
      exact this
    · have := heap_new ((w.alloc (.cells (([0, 0, 0, 0, 0, 0, 0, 0, 0] : List Nat).map u32).toArray 273)).alloc (.cells (([0, 0, 0, 0, 0, 0, 0, 0, 0] : List Nat).map u32).toArray 273)) (.cells ((gridL (A.grand n) 0 0).map u32).toArray 344)
      rw [World.size_alloc, World.size_alloc] at this
      exact this
  have HN0 := Lib.hid hN0
  have HF0 := Lib.hid ((((Fr.nil w).alloc (.cells (([0, 0, 0, 0, 0, 0, 0, 0, 0] : List Nat).map u32).toArray 273)).alloc (.cells (([0, 0, 0, 0, 0, 0, 0, 0, 0] : List Nat).map u32).toArray 273)).alloc (.cells ((gridL (A.grand n) 0 0).map u32).toArray 344))
  have HLV := Lib.hid (fun (W : World) (hF : Fr w [] W []) => level_w (HAW.out.ext hF) n hn)
  clear h hj hj' hN0 hws
  go_enter Tryz.func226, Tryz.ntmps226
  go_wp2_with fail
  refine (HLV.out _ (((Fr.nil w).alloc _).alloc _)).mono ?_
  rintro e w' ⟨rfl, rfl⟩
  go_wp2_with fail
  refine (kids_w (HAW.out.ext HF0.out) n hn).mono ?_
  rintro e w2 ⟨rfl, hF2⟩
  have HF2 := Lib.hid (HF0.out.trans hF2)
  have HN2 := Lib.hid (HN0.out.ext hF2 (by simp))
  clear hF2 HF0 HN0
  go_wp2_with fail
  go_loopw [25] (fun v wr => ∃ i : Nat, i ≤ 4 ∧ v = .int .i64 i ∧ Fr w [] wr [] ∧ NM w [0, 0, 0, 0, 0, 0, 0, 0, 0] (gridL (A.grand n) i 0) wr) (fun v _ => 4 - (intOf v).toNat)
  case atStart => exact ⟨0, by omega, rfl, HF2.out, HN2.out⟩
  case round =>
    clear HF2 HN2
    obtain ⟨i, hi, rfl, hF, hM⟩ := hrel
    obtain ⟨W0, rfl⟩ : ∃ W0, W0 = wr := ⟨_, rfl⟩
    have HF := Lib.hid hF
    have HM := Lib.hid hM
    clear hF hM
    by_cases hi4 : i < 4
    · have hi4i : (i : Int) < 4 := by omega
      have hix := fun w => idxKid A n i hi4 w
      go_wp2_with fail
      refine (kids_w (HAW.out.ext HF.out) (A.kid n i) (A.kid_lt HG.out n i)).mono ?_
      rintro e w3 ⟨rfl, hF3⟩
      have HF3 := Lib.hid (HF.out.trans hF3)
      have HM3 := Lib.hid (HM.out.ext hF3 (by simp))
      clear hF3 HF HM hix
      go_wp2_with fail
      go_loopw [32] (fun v wr => ∃ j : Nat, j ≤ 4 ∧ v = .int .i64 j ∧ Fr w [] wr [] ∧ NM w [0, 0, 0, 0, 0, 0, 0, 0, 0] (gridL (A.grand n) i j) wr) (fun v _ => 4 - (intOf v).toNat)
      case atStart => exact ⟨0, by omega, rfl, HF3.out, HM3.out⟩
      case round =>
        clear HF3 HM3
        obtain ⟨j, hj, rfl, hF, hM⟩ := hrel
        obtain ⟨W1, rfl⟩ : ∃ W1, W1 = wr := ⟨_, rfl⟩
        have HF := Lib.hid hF
        have HM := Lib.hid hM
        clear hF hM
        by_cases hj4 : j < 4
        · have hj4i : (j : Int) < 4 := by omega
          have hjx := fun w => idxKid A (A.kid n i) j hj4 w
          have hfz := lbox_fz HM.out.hG ((i / 2 * 2 + j / 2) * 4 + (i % 2 * 2 + j % 2))
          have hcl : W1.cell? ⟨w.heap.size + 1 + 1, (i / 2 * 2 + j / 2) * 4 + (i % 2 * 2 + j % 2), none⟩ = some (.int .u32 ((gridL (A.grand n) i j).getD ((i / 2 * 2 + j / 2) * 4 + (i % 2 * 2 + j % 2)) 0 : Nat)) := by
            refine lbox_cell HM.out.hG _ _ ?_
            have hlen : (i / 2 * 2 + j / 2) * 4 + (i % 2 * 2 + j % 2) < (gridL (A.grand n) i j).length := by simp [gridL]; omega
            rw [List.getElem?_eq_getElem hlen]; simp [List.getD_eq_getElem?_getD, List.getElem?_eq_getElem hlen]
          go_wp2_with fail
          have hM := HM.out
          refine ⟨⟨j + 1, by omega, rfl, HF.out.setCell (by show w.heap.size ≤ w.heap.size + 1 + 1; omega) _, ⟨by simpa using hM.sz, ?_, ?_, ?_⟩⟩, by simp only [intOf]; omega⟩
          · rw [World.heap_setCell_ne _ _ _ _ (by show w.heap.size ≠ w.heap.size + 1 + 1; omega)]; exact hM.hZ
          · rw [World.heap_setCell_ne _ _ _ _ (by show w.heap.size + 1 ≠ w.heap.size + 1 + 1; omega)]; exact hM.hA
          · have := lbox_set hM.hG ((i / 2 * 2 + j / 2) * 4 + (i % 2 * 2 + j % 2)) (A.grand n i j)
            rw [gridL_set _ hi4 hj4] at this
            exact this
        · have hj4' : j = 4 := by omega
          subst hj4'
          go_wp2_with fail
          refine ⟨⟨i + 1, by omega, rfl, HF.out, ?_⟩, by simp only [intOf]; omega⟩
          have hM := HM.out
          rw [gridL_row _ _ hi4] at hM
          exact hM
    · have hi4' : i = 4 := by omega
      subst hi4'
      simp only [show ((4 : Nat) : Int) = 4 from rfl]
      go_wp2_with fail
      go_loopw [53] (fun v wr => ∃ (i : Nat) (acc : List Nat) (A1 : Ar) (o1 : List Nat), i ≤ 9 ∧ v = .int .i64 i ∧ acc.length = i ∧ AW wr ab A1 o1 ∧ Fr w o wr o1 ∧ (∀ b ∈ o1, b ∈ o ∨ w.heap.size + 1 + 1 < b) ∧
        NM w (acc ++ List.replicate (9 - i) 0) (gridL (A.grand n) 4 0) wr ∧ Ar.nineL (A.grid n) (9 - i) acc A1 = some (r, A')) (fun v _ => 9 - (intOf v).toNat)
      case atStart => exact ⟨0, [], A, o, by omega, rfl, rfl, HAW.out.ext HF.out, HF.out.widen HWS.out, fun b hb => .inl hb, HM.out, HJ.out⟩
      case round =>
        clear HF HM HJ HLV
        obtain ⟨i, acc, A1, o1, hi, rfl, hlen, hAW, hF, hd, hM, hj⟩ := hrel
        obtain ⟨W1, rfl⟩ : ∃ W1, W1 = wr := ⟨_, rfl⟩
        have HLEN := Lib.hid hlen
        have HAW1 := Lib.hid hAW
        have HF := Lib.hid hF
        have HM := Lib.hid hM
        have HJ := Lib.hid hj
        have HD := Lib.hid hd
        clear hlen hAW hF hM hj hd
        by_cases hi9 : i < 9
        · have hi9i : (i : Int) < 9 := by omega
          have m1 : 0 ≤ (i : Int) / 3 ∧ (i : Int) / 3 < 4 ∧ 0 ≤ (i : Int) % 3 ∧ (i : Int) % 3 < 4 := by omega
          obtain ⟨m1, m2, m3, m4⟩ := m1
          have n1 : ((i : Int) / 3).toNat = i / 3 := by omega
          have n2 : ((i : Int) % 3).toNat = i % 3 := by omega
          have n3 : ((i : Int) / 3 + 1).toNat = i / 3 + 1 := by omega
          have n4 : ((i : Int) % 3 + 1).toNat = i % 3 + 1 := by omega
          have m9 : (i : Int) / 3 < 3 := by omega
          have m10 : (i : Int) % 3 < 3 := by omega
          have m7 : 0 ≤ (i : Int) / 3 + 1 := by omega
          have m8 : 0 ≤ (i : Int) % 3 + 1 := by omega
          have m5 : (i : Int) / 3 + 1 < 4 := by omega
          have m6 : (i : Int) % 3 + 1 < 4 := by omega
          have HNO := Lib.hid (show w.heap.size ∉ o1 ∧ w.heap.size + 1 ∉ o1 ∧ w.heap.size + 1 + 1 ∉ o1 from by
            refine ⟨fun hm => ?_, fun hm => ?_, fun hm => ?_⟩ <;> rcases HD.out _ hm with h1 | h1 <;> first | omega | (have := HWS.out _ h1; omega))
          have hgx : ∀ y : CO W1 ((w.heap.size + 1) :: o1), ∀ a b : Nat, a < 4 → b < 4 → y.x.cell? ⟨w.heap.size + 1 + 1, a * 4 + b, none⟩ = some (.int .u32 (A.grid n a b : Nat)) := fun y a b ha hb =>
            lbox_cell (T := 344) (by rw [y.h _ HM.out.sz (by simp only [List.mem_cons, not_or]; exact ⟨by omega, HNO.out.2.2⟩)]; exact HM.out.hG) _ _ (gridL_full _ ha hb)
          have g0 : ∀ y : CO W1 ((w.heap.size + 1) :: o1), y.x.cell? ⟨w.heap.size + 1 + 1, i / 3 * 4 + i % 3, none⟩ = some (.int .u32 (A.grid n (i / 3) (i % 3) : Nat)) := fun y => hgx y _ _ (by omega) (by omega)
          have g1 : ∀ y : CO W1 ((w.heap.size + 1) :: o1), y.x.cell? ⟨w.heap.size + 1 + 1, i / 3 * 4 + (i % 3 + 1), none⟩ = some (.int .u32 (A.grid n (i / 3) (i % 3 + 1) : Nat)) := fun y => hgx y _ _ (by omega) (by omega)
          have g2 : ∀ y : CO W1 ((w.heap.size + 1) :: o1), y.x.cell? ⟨w.heap.size + 1 + 1, (i / 3 + 1) * 4 + i % 3, none⟩ = some (.int .u32 (A.grid n (i / 3 + 1) (i % 3) : Nat)) := fun y => hgx y _ _ (by omega) (by omega)
          have g3 : ∀ y : CO W1 ((w.heap.size + 1) :: o1), y.x.cell? ⟨w.heap.size + 1 + 1, (i / 3 + 1) * 4 + (i % 3 + 1), none⟩ = some (.int .u32 (A.grid n (i / 3 + 1) (i % 3 + 1) : Nat)) := fun y => hgx y _ _ (by omega) (by omega)
          clear hgx
          go_wp2_with fail
          have p1 : IntKind.i64.wrap ((i : Int) % 3 + 1) = (i : Int) % 3 + 1 := by rw [IntKind.wrap_i64]; omega
          have p2 : IntKind.i64.wrap ((i : Int) / 3 + 1) = (i : Int) / 3 + 1 := by rw [IntKind.wrap_i64]; omega
          have hAWD : AW W1.drew ab A1 o1 := HAW1.out.ext ((Fr.nil W1).drew)
          have HAWD := Lib.hid hAWD
          clear hAWD
          refine wp_region_mixed 1 33 [27, 32] (by kernel_rfl) (by kernel_rfl) (fun _ _ d _ _ h => by cases d <;> exact h) (CO W1 ((w.heap.size + 1) :: o1)) CO.x ⟨W1.drew, fun _ _ _ => rfl⟩ rfl ?_
          simp only [List.take_succ_cons, List.take_zero, List.drop_succ_cons, List.drop_zero, moved]
          repeat (refine wpStillC_step (by decide) (fun K hK => ?_); go_simp; (try simp only [p1, p2, m1, m2, m3, m4, m5, m6, m7, m8, m9, m10, n1, n2, n3, n4, and_self, true_and, if_true, g0, g1, g2, g3]); (try go_simp); refine hK _ ?_; clear hK K)
          have hKok : (nineK (A.grid n) i).ok := ⟨A.kid_lt HG.out _ _, A.kid_lt HG.out _ _, A.kid_lt HG.out _ _, A.kid_lt HG.out _ _⟩
          have hj := HJ.out
          rw [show 9 - i = (8 - i) + 1 by omega] at hj
          simp only [Ar.nineL] at hj
          rw [show 8 - (8 - i) = i by omega] at hj
          refine wpStillC_forced (by decide) ⟨⟨W1.drew, fun _ _ _ => rfl⟩, rfl⟩ ?_
          go_wp2_with fail
          obtain ⟨r1, A2, hx⟩ : ∃ r1 A2, A1.join (nineK (A.grid n) i) = some (r1, A2) := by
            cases hx : A1.join (nineK (A.grid n) i) with
            | none => rw [hx] at hj; cases hj
            | some y => exact ⟨y.1, y.2, rfl⟩
          rw [hx] at hj
          have HX := Lib.hid hx
          have HJ2 := Lib.hid hj
          clear hj hx g0 g1 g2 g3 p1 p2
          refine (join_w HAWD.out (nineK (A.grid n) i) hKok HX.out).mono ?_
          rintro e w1 ⟨rfl, o2, hA2, hF2⟩
          have hF2' : Fr W1 o1 w1 o2 := ((Fr.refl W1 o1 HAW1.out.lt).drew).trans hF2
          have hM2 := HM.out.ext hF2' HNO.out
          have hD2 : ∀ b ∈ o2, b ∈ o ∨ w.heap.size + 1 + 1 < b := fun b hb => by
            rcases hF2'.own b hb with h1 | h1
            · exact HD.out b h1
            · exact .inr (by have := HM.out.sz; omega)
          have hk1 : ∀ b, b < W1.heap.size → b ∉ ((w.heap.size + 1) :: o1) → w1.heap[b]? = W1.heap[b]? := fun b hb hn => hF2'.keep b hb (fun hm => hn (List.mem_cons_of_mem _ hm))
          have HA2 := Lib.hid hA2
          have HF2 := Lib.hid (HF.out.trans hF2')
          have HM2 := Lib.hid hM2
          have HD2 := Lib.hid hD2
          have HK1 := Lib.hid hk1
          have hlen : (acc ++ List.replicate (9 - i) 0)[i]? = some 0 := by
            rw [List.getElem?_append_right (by rw [HLEN.out]; exact Nat.le_refl _), HLEN.out, Nat.sub_self, List.getElem?_replicate]; simp; omega
          have hcl : w1.cell? ⟨w.heap.size + 1, i, none⟩ = some (.int .u32 ((0 : Nat) : Int)) := lbox_cell (T := 273) HM2.out.hA _ _ hlen
          have hfz : w1.frozen? ⟨w.heap.size + 1, i, none⟩ = false := lbox_fz (T := 273) HM2.out.hA i
          clear hF2 hF2' hM2 hD2 hk1 hA2 hlen HM HAW1 HAWD HF HX HJ HD
          have hi9 : i < 9 := by omega
          cases r1 with
          | ok jj =>
            simp only [encR, okV]
            go_wp2_with fail
            refine ⟨⟨⟨w1, HK1.out⟩, rfl⟩, ?_⟩
            repeat (refine wpStillC_step (by decide) (fun K hK => ?_); go_simp; refine hK _ ?_; clear hK K)
            refine wpStillC_forced (by decide) ⟨⟨w1, HK1.out⟩, rfl⟩ ?_
            go_wp2_with fail
            have hk3 : ∀ b, b < W1.heap.size → b ∉ ((w.heap.size + 1) :: o1) → (w1.setCell ⟨w.heap.size + 1, i, none⟩ (.int .u32 (jj : Int))).heap[b]? = W1.heap[b]? := fun b hb hn => by
              rw [World.heap_setCell_ne _ _ _ _ (by show b ≠ w.heap.size + 1; intro e; exact hn (by rw [e]; simp))]; exact HK1.out b hb hn
            have HK3 := Lib.hid hk3
            clear hk3
            refine ⟨⟨⟨_, HK3.out⟩, rfl⟩, wpStillC_nil ⟨⟨⟨_, HK3.out⟩, rfl⟩, ?_⟩⟩
            clear hcl hfz
            have hM3 : NM w (acc ++ jj :: List.replicate (8 - i) 0) (gridL (A.grand n) 4 0) (w1.setCell ⟨w.heap.size + 1, i, none⟩ (.int .u32 (jj : Int))) := by
              have hM := HM2.out
              refine ⟨by simpa using hM.sz, ?_, ?_, ?_⟩
              · rw [World.heap_setCell_ne _ _ _ _ (by show w.heap.size ≠ w.heap.size + 1; omega)]; exact hM.hZ
              · have := lbox_set hM.hA i jj
                rw [List.set_append_right _ _ (by rw [HLEN.out]; exact Nat.le_refl _), HLEN.out, Nat.sub_self, show 9 - i = (8 - i) + 1 by omega, List.replicate_succ, List.set_cons_zero] at this
                exact this
              · rw [World.heap_setCell_ne _ _ _ _ (by show w.heap.size + 1 + 1 ≠ w.heap.size + 1; omega)]; exact hM.hG
            have hA3 : AW (w1.setCell ⟨w.heap.size + 1, i, none⟩ (.int .u32 (jj : Int))) ab A2 o2 := HA2.out.setNew (fun hm => by
              rcases HD2.out _ hm with h1 | h1
              · have h2 := HWS.out _ h1; simp only at h2; omega
              · simp only at h1; omega) _
            have hF3 := HF2.out.setCell (a := ⟨w.heap.size + 1, i, none⟩) (by show w.heap.size ≤ w.heap.size + 1; omega) (.int .u32 (jj : Int))
            have HM3 := Lib.hid hM3
            have HA3 := Lib.hid hA3
            have HF3 := Lib.hid hF3
            clear hM3 hA3 hF3 HM2 HA2 HF2 HK1 HK3
            generalize w1.setCell ⟨w.heap.size + 1, i, none⟩ (.int .u32 (jj : Int)) = W3 at *
            go_wp2_with fail
            refine ⟨⟨i + 1, acc ++ [jj], A2, o2, by omega, rfl, by rw [List.length_append, HLEN.out]; rfl, HA3.out, HF3.out, HD2.out, ?_, ?_⟩, by simp only [intOf]; omega⟩
            · rw [show 9 - (i + 1) = 8 - i by omega, List.append_assoc]; exact HM3.out
            · rw [show 9 - (i + 1) = 8 - i by omega]; exact HJ2.out
          | error c =>
            simp only [encR, errV]
            go_wp2_with fail
            refine ⟨⟨⟨w1, HK1.out⟩, rfl⟩, ?_⟩
            repeat (refine wpStillC_step (by decide) (fun K hK => ?_); go_simp; refine hK _ ?_; clear hK K)
            refine wpStillC_forced (by decide) ⟨⟨w1, HK1.out⟩, rfl⟩ ?_
            go_wp2_with fail
            have hk3 : ∀ b, b < W1.heap.size → b ∉ ((w.heap.size + 1) :: o1) → (w1.setCell ⟨w.heap.size + 1, i, none⟩ (.int .u32 0)).heap[b]? = W1.heap[b]? := fun b hb hn => by
              rw [World.heap_setCell_ne _ _ _ _ (by show b ≠ w.heap.size + 1; intro e; exact hn (by rw [e]; simp))]; exact HK1.out b hb hn
            have HK3 := Lib.hid hk3
            clear hk3
            refine ⟨⟨⟨_, HK3.out⟩, rfl⟩, wpStillC_nil ⟨⟨⟨_, HK3.out⟩, rfl⟩, ?_⟩⟩
            clear hcl hfz
            have hM3 : NM w (acc ++ 0 :: List.replicate (8 - i) 0) (gridL (A.grand n) 4 0) (w1.setCell ⟨w.heap.size + 1, i, none⟩ (.int .u32 0)) := by
              have hM := HM2.out
              refine ⟨by simpa using hM.sz, ?_, ?_, ?_⟩
              · rw [World.heap_setCell_ne _ _ _ _ (by show w.heap.size ≠ w.heap.size + 1; omega)]; exact hM.hZ
              · have := lbox_set hM.hA i 0
                rw [List.set_append_right _ _ (by rw [HLEN.out]; exact Nat.le_refl _), HLEN.out, Nat.sub_self, show 9 - i = (8 - i) + 1 by omega, List.replicate_succ, List.set_cons_zero] at this
                exact this
              · rw [World.heap_setCell_ne _ _ _ _ (by show w.heap.size + 1 + 1 ≠ w.heap.size + 1; omega)]; exact hM.hG
            have hA3 : AW (w1.setCell ⟨w.heap.size + 1, i, none⟩ (.int .u32 0)) ab A2 o2 := HA2.out.setNew (fun hm => by
              rcases HD2.out _ hm with h1 | h1
              · have h2 := HWS.out _ h1; simp only at h2; omega
              · simp only at h1; omega) _
            have hF3 := HF2.out.setCell (a := ⟨w.heap.size + 1, i, none⟩) (by show w.heap.size ≤ w.heap.size + 1; omega) (.int .u32 0)
            have HM3 := Lib.hid hM3
            have HA3 := Lib.hid hA3
            have HF3 := Lib.hid hF3
            clear hM3 hA3 hF3 HM2 HA2 HF2 HK1 HK3
            generalize w1.setCell ⟨w.heap.size + 1, i, none⟩ (.int .u32 0) = W3 at *
            obtain ⟨rfl, rfl⟩ : Except.error c = r ∧ A2 = A' := by have := HJ2.out; simpa [mbind] using this
            have hz : ∀ k, W3.frozen? ⟨w.heap.size, k, none⟩ = false := fun k => lbox_fz (T := 273) HM3.out.hZ k
            have z0 : W3.cell? ⟨w.heap.size, 0, none⟩ = some (.int .u32 0) := lbox_cell (T := 273) HM3.out.hZ 0 0 rfl
            have z1 : W3.cell? ⟨w.heap.size, 1, none⟩ = some (.int .u32 0) := lbox_cell (T := 273) HM3.out.hZ 1 0 rfl
            have z2 : W3.cell? ⟨w.heap.size, 2, none⟩ = some (.int .u32 0) := lbox_cell (T := 273) HM3.out.hZ 2 0 rfl
            have z3 : W3.cell? ⟨w.heap.size, 3, none⟩ = some (.int .u32 0) := lbox_cell (T := 273) HM3.out.hZ 3 0 rfl
            have z4 : W3.cell? ⟨w.heap.size, 4, none⟩ = some (.int .u32 0) := lbox_cell (T := 273) HM3.out.hZ 4 0 rfl
            have z5 : W3.cell? ⟨w.heap.size, 5, none⟩ = some (.int .u32 0) := lbox_cell (T := 273) HM3.out.hZ 5 0 rfl
            have z6 : W3.cell? ⟨w.heap.size, 6, none⟩ = some (.int .u32 0) := lbox_cell (T := 273) HM3.out.hZ 6 0 rfl
            have z7 : W3.cell? ⟨w.heap.size, 7, none⟩ = some (.int .u32 0) := lbox_cell (T := 273) HM3.out.hZ 7 0 rfl
            have z8 : W3.cell? ⟨w.heap.size, 8, none⟩ = some (.int .u32 0) := lbox_cell (T := 273) HM3.out.hZ 8 0 rfl
            have hB9 := set9_box (T := 273) HM3.out.hZ rfl 0 0 0 0 0 0 0 0 0
            have HF9 := (((((((((HF3.out.setCell (a := ⟨w.heap.size, 0, none⟩) (Nat.le_refl _) (.int .u32 0)).setCell (a := ⟨w.heap.size, 1, none⟩) (Nat.le_refl _) (.int .u32 0)).setCell (a := ⟨w.heap.size, 2, none⟩) (Nat.le_refl _) (.int .u32 0)).setCell (a := ⟨w.heap.size, 3, none⟩) (Nat.le_refl _) (.int .u32 0)).setCell (a := ⟨w.heap.size, 4, none⟩) (Nat.le_refl _) (.int .u32 0)).setCell (a := ⟨w.heap.size, 5, none⟩) (Nat.le_refl _) (.int .u32 0)).setCell (a := ⟨w.heap.size, 6, none⟩) (Nat.le_refl _) (.int .u32 0)).setCell (a := ⟨w.heap.size, 7, none⟩) (Nat.le_refl _) (.int .u32 0)).setCell (a := ⟨w.heap.size, 8, none⟩) (Nat.le_refl _) (.int .u32 0))
            have hN9 := fun c (hc : c ≠ w.heap.size) => set9_ne (w := W3) hc 0 0 0 0 0 0 0 0 0
            simp only [show ((0 : Nat) : Int) = 0 from rfl] at hB9 hN9
            have HB9 := Lib.hid hB9
            have HF9' := Lib.hid HF9
            have hA9 : AW (((((((((W3.setCell ⟨w.heap.size, 0, none⟩ (.int .u32 0)).setCell ⟨w.heap.size, 1, none⟩ (.int .u32 0)).setCell ⟨w.heap.size, 2, none⟩ (.int .u32 0)).setCell ⟨w.heap.size, 3, none⟩ (.int .u32 0)).setCell ⟨w.heap.size, 4, none⟩ (.int .u32 0)).setCell ⟨w.heap.size, 5, none⟩ (.int .u32 0)).setCell ⟨w.heap.size, 6, none⟩ (.int .u32 0)).setCell ⟨w.heap.size, 7, none⟩ (.int .u32 0)).setCell ⟨w.heap.size, 8, none⟩ (.int .u32 0)) ab A2 o2 := HA3.out.same (fun b hb => hN9 b (fun e => by
              rcases HD2.out _ hb with h1 | h1
              · have h2 := HWS.out _ h1; omega
              · omega))
            have HA9 := Lib.hid hA9
            clear hB9 HF9 hN9 hA9
            go_wp2_with fail
            generalize (((((((((W3.setCell ⟨w.heap.size, 0, none⟩ (.int .u32 0)).setCell ⟨w.heap.size, 1, none⟩ (.int .u32 0)).setCell ⟨w.heap.size, 2, none⟩ (.int .u32 0)).setCell ⟨w.heap.size, 3, none⟩ (.int .u32 0)).setCell ⟨w.heap.size, 4, none⟩ (.int .u32 0)).setCell ⟨w.heap.size, 5, none⟩ (.int .u32 0)).setCell ⟨w.heap.size, 6, none⟩ (.int .u32 0)).setCell ⟨w.heap.size, 7, none⟩ (.int .u32 0)).setCell ⟨w.heap.size, 8, none⟩ (.int .u32 0)) = W9 at *
            have y0 : W9.cell? ⟨w.heap.size, 0, none⟩ = some (.int .u32 0) := lbox_cell (T := 273) HB9.out 0 0 rfl
            have y1 : W9.cell? ⟨w.heap.size, 1, none⟩ = some (.int .u32 0) := lbox_cell (T := 273) HB9.out 1 0 rfl
            have y2 : W9.cell? ⟨w.heap.size, 2, none⟩ = some (.int .u32 0) := lbox_cell (T := 273) HB9.out 2 0 rfl
            have y3 : W9.cell? ⟨w.heap.size, 3, none⟩ = some (.int .u32 0) := lbox_cell (T := 273) HB9.out 3 0 rfl
            have y4 : W9.cell? ⟨w.heap.size, 4, none⟩ = some (.int .u32 0) := lbox_cell (T := 273) HB9.out 4 0 rfl
            have y5 : W9.cell? ⟨w.heap.size, 5, none⟩ = some (.int .u32 0) := lbox_cell (T := 273) HB9.out 5 0 rfl
            have y6 : W9.cell? ⟨w.heap.size, 6, none⟩ = some (.int .u32 0) := lbox_cell (T := 273) HB9.out 6 0 rfl
            have y7 : W9.cell? ⟨w.heap.size, 7, none⟩ = some (.int .u32 0) := lbox_cell (T := 273) HB9.out 7 0 rfl
            have y8 : W9.cell? ⟨w.heap.size, 8, none⟩ = some (.int .u32 0) := lbox_cell (T := 273) HB9.out 8 0 rfl
            exact bodyPost_ret (v := encN (.error c)) (by
              unfold encN
              simp [results, Tryz.results226, go_sem, y0, y1, y2, y3, y4, y5, y6, y7, y8, Go.Proofs.YtnkdbpjmepfblaaGreatDoor.u32]) rfl ⟨rfl, o2, HA9.out, HF9'.out⟩
        · have hi9' : i = 9 := by omega
          subst hi9'
          simp only [show ((9 : Nat) : Int) = 9 from rfl]
          obtain ⟨a0, a1, a2, a3, a4, a5, a6, a7, a8, rfl⟩ := list9 acc HLEN.out
          obtain ⟨rfl, rfl⟩ : Except.ok [a0, a1, a2, a3, a4, a5, a6, a7, a8] = r ∧ A1 = A' := by have := HJ.out; simpa [Ar.nineL] using this
          have hz : ∀ k, W1.frozen? ⟨w.heap.size, k, none⟩ = false := fun k => lbox_fz (T := 273) HM.out.hZ k
          have z0 : W1.cell? ⟨w.heap.size, 0, none⟩ = some (.int .u32 0) := lbox_cell (T := 273) HM.out.hZ 0 0 rfl
          have z1 : W1.cell? ⟨w.heap.size, 1, none⟩ = some (.int .u32 0) := lbox_cell (T := 273) HM.out.hZ 1 0 rfl
          have z2 : W1.cell? ⟨w.heap.size, 2, none⟩ = some (.int .u32 0) := lbox_cell (T := 273) HM.out.hZ 2 0 rfl
          have z3 : W1.cell? ⟨w.heap.size, 3, none⟩ = some (.int .u32 0) := lbox_cell (T := 273) HM.out.hZ 3 0 rfl
          have z4 : W1.cell? ⟨w.heap.size, 4, none⟩ = some (.int .u32 0) := lbox_cell (T := 273) HM.out.hZ 4 0 rfl
          have z5 : W1.cell? ⟨w.heap.size, 5, none⟩ = some (.int .u32 0) := lbox_cell (T := 273) HM.out.hZ 5 0 rfl
          have z6 : W1.cell? ⟨w.heap.size, 6, none⟩ = some (.int .u32 0) := lbox_cell (T := 273) HM.out.hZ 6 0 rfl
          have z7 : W1.cell? ⟨w.heap.size, 7, none⟩ = some (.int .u32 0) := lbox_cell (T := 273) HM.out.hZ 7 0 rfl
          have z8 : W1.cell? ⟨w.heap.size, 8, none⟩ = some (.int .u32 0) := lbox_cell (T := 273) HM.out.hZ 8 0 rfl
          have x0 : W1.cell? ⟨w.heap.size + 1, 0, none⟩ = some (.int .u32 (a0 : Int)) := lbox_cell (T := 273) HM.out.hA 0 a0 rfl
          have x1 : W1.cell? ⟨w.heap.size + 1, 1, none⟩ = some (.int .u32 (a1 : Int)) := lbox_cell (T := 273) HM.out.hA 1 a1 rfl
          have x2 : W1.cell? ⟨w.heap.size + 1, 2, none⟩ = some (.int .u32 (a2 : Int)) := lbox_cell (T := 273) HM.out.hA 2 a2 rfl
          have x3 : W1.cell? ⟨w.heap.size + 1, 3, none⟩ = some (.int .u32 (a3 : Int)) := lbox_cell (T := 273) HM.out.hA 3 a3 rfl
          have x4 : W1.cell? ⟨w.heap.size + 1, 4, none⟩ = some (.int .u32 (a4 : Int)) := lbox_cell (T := 273) HM.out.hA 4 a4 rfl
          have x5 : W1.cell? ⟨w.heap.size + 1, 5, none⟩ = some (.int .u32 (a5 : Int)) := lbox_cell (T := 273) HM.out.hA 5 a5 rfl
          have x6 : W1.cell? ⟨w.heap.size + 1, 6, none⟩ = some (.int .u32 (a6 : Int)) := lbox_cell (T := 273) HM.out.hA 6 a6 rfl
          have x7 : W1.cell? ⟨w.heap.size + 1, 7, none⟩ = some (.int .u32 (a7 : Int)) := lbox_cell (T := 273) HM.out.hA 7 a7 rfl
          have x8 : W1.cell? ⟨w.heap.size + 1, 8, none⟩ = some (.int .u32 (a8 : Int)) := lbox_cell (T := 273) HM.out.hA 8 a8 rfl
          have hB9 := set9_box (T := 273) HM.out.hZ rfl a0 a1 a2 a3 a4 a5 a6 a7 a8
          have HF9 := (((((((((HF.out.setCell (a := ⟨w.heap.size, 0, none⟩) (Nat.le_refl _) (.int .u32 (a0 : Int))).setCell (a := ⟨w.heap.size, 1, none⟩) (Nat.le_refl _) (.int .u32 (a1 : Int))).setCell (a := ⟨w.heap.size, 2, none⟩) (Nat.le_refl _) (.int .u32 (a2 : Int))).setCell (a := ⟨w.heap.size, 3, none⟩) (Nat.le_refl _) (.int .u32 (a3 : Int))).setCell (a := ⟨w.heap.size, 4, none⟩) (Nat.le_refl _) (.int .u32 (a4 : Int))).setCell (a := ⟨w.heap.size, 5, none⟩) (Nat.le_refl _) (.int .u32 (a5 : Int))).setCell (a := ⟨w.heap.size, 6, none⟩) (Nat.le_refl _) (.int .u32 (a6 : Int))).setCell (a := ⟨w.heap.size, 7, none⟩) (Nat.le_refl _) (.int .u32 (a7 : Int))).setCell (a := ⟨w.heap.size, 8, none⟩) (Nat.le_refl _) (.int .u32 (a8 : Int)))
          have hN9 := fun c (hc : c ≠ w.heap.size) => set9_ne (w := W1) hc a0 a1 a2 a3 a4 a5 a6 a7 a8
          have HB9 := Lib.hid hB9
          have HF9' := Lib.hid HF9
          have hA9 : AW (((((((((W1.setCell ⟨w.heap.size, 0, none⟩ (.int .u32 (a0 : Int))).setCell ⟨w.heap.size, 1, none⟩ (.int .u32 (a1 : Int))).setCell ⟨w.heap.size, 2, none⟩ (.int .u32 (a2 : Int))).setCell ⟨w.heap.size, 3, none⟩ (.int .u32 (a3 : Int))).setCell ⟨w.heap.size, 4, none⟩ (.int .u32 (a4 : Int))).setCell ⟨w.heap.size, 5, none⟩ (.int .u32 (a5 : Int))).setCell ⟨w.heap.size, 6, none⟩ (.int .u32 (a6 : Int))).setCell ⟨w.heap.size, 7, none⟩ (.int .u32 (a7 : Int))).setCell ⟨w.heap.size, 8, none⟩ (.int .u32 (a8 : Int))) ab A1 o1 := HAW1.out.same (fun b hb => hN9 b (fun e => by
            rcases HD.out _ hb with h1 | h1
            · have h2 := HWS.out _ h1; omega
            · omega))
          have HA9 := Lib.hid hA9
          clear hB9 HF9 hN9 hA9 HM HAW1 HF HJ HD
          go_wp2_with fail
          generalize (((((((((W1.setCell ⟨w.heap.size, 0, none⟩ (.int .u32 (a0 : Int))).setCell ⟨w.heap.size, 1, none⟩ (.int .u32 (a1 : Int))).setCell ⟨w.heap.size, 2, none⟩ (.int .u32 (a2 : Int))).setCell ⟨w.heap.size, 3, none⟩ (.int .u32 (a3 : Int))).setCell ⟨w.heap.size, 4, none⟩ (.int .u32 (a4 : Int))).setCell ⟨w.heap.size, 5, none⟩ (.int .u32 (a5 : Int))).setCell ⟨w.heap.size, 6, none⟩ (.int .u32 (a6 : Int))).setCell ⟨w.heap.size, 7, none⟩ (.int .u32 (a7 : Int))).setCell ⟨w.heap.size, 8, none⟩ (.int .u32 (a8 : Int))) = W9 at *
          have y0 : W9.cell? ⟨w.heap.size, 0, none⟩ = some (.int .u32 (a0 : Int)) := lbox_cell (T := 273) HB9.out 0 a0 rfl
          have y1 : W9.cell? ⟨w.heap.size, 1, none⟩ = some (.int .u32 (a1 : Int)) := lbox_cell (T := 273) HB9.out 1 a1 rfl
          have y2 : W9.cell? ⟨w.heap.size, 2, none⟩ = some (.int .u32 (a2 : Int)) := lbox_cell (T := 273) HB9.out 2 a2 rfl
          have y3 : W9.cell? ⟨w.heap.size, 3, none⟩ = some (.int .u32 (a3 : Int)) := lbox_cell (T := 273) HB9.out 3 a3 rfl
          have y4 : W9.cell? ⟨w.heap.size, 4, none⟩ = some (.int .u32 (a4 : Int)) := lbox_cell (T := 273) HB9.out 4 a4 rfl
          have y5 : W9.cell? ⟨w.heap.size, 5, none⟩ = some (.int .u32 (a5 : Int)) := lbox_cell (T := 273) HB9.out 5 a5 rfl
          have y6 : W9.cell? ⟨w.heap.size, 6, none⟩ = some (.int .u32 (a6 : Int)) := lbox_cell (T := 273) HB9.out 6 a6 rfl
          have y7 : W9.cell? ⟨w.heap.size, 7, none⟩ = some (.int .u32 (a7 : Int)) := lbox_cell (T := 273) HB9.out 7 a7 rfl
          have y8 : W9.cell? ⟨w.heap.size, 8, none⟩ = some (.int .u32 (a8 : Int)) := lbox_cell (T := 273) HB9.out 8 a8 rfl
          exact bodyPost_ret (v := encN (.ok [a0, a1, a2, a3, a4, a5, a6, a7, a8])) (by
            unfold encN
            simp [results, Tryz.results226, go_sem, y0, y1, y2, y3, y4, y5, y6, y7, y8, Go.Proofs.YtnkdbpjmepfblaaGreatDoor.u32]) rfl ⟨rfl, o1, HA9.out, HF9'.out⟩
end Go.Proofs.YtnkdbpjmepfblaaGreatDoor

/- Planes, generation by generation; what becomes of four leaves. -/
namespace Go.Proofs.YtnkdbpjmepfblaaGreatDoor
open Go

def nbrs (C : Plane) (l : List Part) (x y : Int) : Nat := (l.map fun q => if C (x + q.a) (y + q.b) q.h then q.w else 0).sum
/-- The next generation. -/
def Kn.next (N : Kn) (C : Plane) : Plane := fun x y h => decide (h < N.T.halves) && N.T.next h (C x y h) (nbrs C (N.p h) x y)
def Kn.evo (N : Kn) : Nat → Plane → Plane
  | 0, C => C
  | n + 1, C => N.next (Kn.evo N n C)
theorem Kn.evo_add (N : Kn) (m : Nat) (C : Plane) : ∀ n, N.evo (n + m) C = N.evo n (N.evo m C) := by
  intro n
  induction n with
  | zero => rw [Nat.zero_add]; rfl
  | succ n ih => rw [show n + 1 + m = (n + m) + 1 by omega]; show N.next _ = N.next _; rw [ih]
/-- None is born of nothing. -/
def Kn.quiet (N : Kn) : Prop := N.T.b0 % 2 = 0 ∧ N.T.b1 % 2 = 0
def Kn.good (N : Kn) : Prop := N.ok ∧ N.quiet
theorem nbrs_congr {C D : Plane} {l : List Part} (hl : ∀ q ∈ l, q.ok) {x y u v : Int} (h : ∀ (a b : Int) (k : Nat), -1 ≤ a → a ≤ 1 → -1 ≤ b → b ≤ 1 → k < 2 → C (x + a) (y + b) k = D (u + a) (v + b) k) :
    nbrs C l x y = nbrs D l u v := by
  unfold nbrs
  congr 1
  apply List.map_congr_left
  intro q hq
  obtain ⟨h1, h2, h3, h4, h5, _⟩ := hl q hq
  rw [h q.a q.b q.h (by omega) (by omega) (by omega) (by omega) h5]
theorem Kn.next_congr {N : Kn} (hN : N.ok) {C D : Plane} {x y u v : Int} (h : ∀ (a b : Int) (k : Nat), -1 ≤ a → a ≤ 1 → -1 ≤ b → b ≤ 1 → k < 2 → C (x + a) (y + b) k = D (u + a) (v + b) k) (k : Nat) :
    N.next C x y k = N.next D u v k := by
  unfold Kn.next
  by_cases hk : k < N.T.halves
  · have hk2 : k < 2 := by unfold Tb.halves at hk; split at hk <;> omega
    have h0 := h 0 0 k (by omega) (by omega) (by omega) (by omega) hk2
    simp only [Int.add_zero] at h0
    rw [h0, nbrs_congr (hN.2 k hk2).2.1 h]
  · rw [decide_eq_false hk]; rfl
/-- n generations on: what lies within n. -/
theorem Kn.evo_congr {N : Kn} (hN : N.ok) {C D : Plane} : ∀ (n : Nat) {x y u v : Int}, (∀ (a b : Int) (k : Nat), -(n : Int) ≤ a → a ≤ n → -(n : Int) ≤ b → b ≤ n → k < 2 → C (x + a) (y + b) k = D (u + a) (v + b) k) →
    ∀ k, k < 2 → N.evo n C x y k = N.evo n D u v k := by
  intro n
  induction n with
  | zero => intro x y u v h k hk; have := h 0 0 k (by omega) (by omega) (by omega) (by omega) hk; show C x y k = D u v k; simpa using this
  | succ n ih =>
    intro x y u v h k hk
    refine Kn.next_congr hN (fun a b k' h1 h2 h3 h4 hk' => ?_) k
    refine ih (fun a' b' k'' g1 g2 g3 g4 hk'' => ?_) k' hk'
    rw [Int.add_assoc, Int.add_assoc, Int.add_assoc, Int.add_assoc]
    exact h (a + a') (b + b') k'' (by omega) (by omega) (by omega) (by omega) hk''
theorem nbrs_none {C : Plane} {l : List Part} (hl : ∀ q ∈ l, q.ok) {x y : Int} (h : ∀ (a b : Int) (k : Nat), -1 ≤ a → a ≤ 1 → -1 ≤ b → b ≤ 1 → k < 2 → C (x + a) (y + b) k = false) : nbrs C l x y = 0 := by
  unfold nbrs
  have : (l.map fun q => if C (x + q.a) (y + q.b) q.h then q.w else 0) = l.map fun _ => 0 := by
    apply List.map_congr_left
    intro q hq
    obtain ⟨h1, h2, h3, h4, h5, _⟩ := hl q hq
    rw [h q.a q.b q.h (by omega) (by omega) (by omega) (by omega) h5]; rfl
  rw [this]
  clear this hl h
  induction l with
  | nil => rfl
  | cons a l ih => rw [List.map_cons, List.sum_cons, ih]
theorem Tb.next_zero {T : Tb} (h0 : T.b0 % 2 = 0) (h1 : T.b1 % 2 = 0) (h : Nat) : T.next h false 0 = false := by
  unfold Tb.next Tb.row
  match h with
  | 0 => simp only [Nat.pow_zero, Nat.div_one]; rw [h0]; rfl
  | _ + 1 => simp only [Nat.pow_zero, Nat.div_one]; rw [h1]; rfl
theorem Kn.next_none {N : Kn} (hN : N.good) {C : Plane} {x y : Int} (h : ∀ (a b : Int) (k : Nat), -1 ≤ a → a ≤ 1 → -1 ≤ b → b ≤ 1 → k < 2 → C (x + a) (y + b) k = false) (k : Nat) :
    N.next C x y k = false := by
  unfold Kn.next
  by_cases hk : k < N.T.halves
  · have hk2 : k < 2 := by unfold Tb.halves at hk; split at hk <;> omega
    have h0 := h 0 0 k (by omega) (by omega) (by omega) (by omega) hk2
    simp only [Int.add_zero] at h0
    rw [h0, nbrs_none (hN.1.2 k hk2).2.1 h, Tb.next_zero hN.2.1 hN.2.2]
    simp
  · rw [decide_eq_false hk]; rfl
theorem Kn.evo_none {N : Kn} (hN : N.good) {C : Plane} : ∀ (n : Nat) {x y : Int}, (∀ (a b : Int) (k : Nat), -(n : Int) ≤ a → a ≤ n → -(n : Int) ≤ b → b ≤ n → k < 2 → C (x + a) (y + b) k = false) → ∀ k, k < 2 → N.evo n C x y k = false := by
  intro n
  induction n with
  | zero => intro x y h k hk; have := h 0 0 k (by omega) (by omega) (by omega) (by omega) hk; show C x y k = false; simpa using this
  | succ n ih =>
    intro x y h k hk
    refine Kn.next_none hN (fun a b k' h1 h2 h3 h4 hk' => ?_) k
    refine ih (fun a' b' k'' g1 g2 g3 g4 hk'' => ?_) k' hk'
    rw [Int.add_assoc, Int.add_assoc]
    exact h (a + a') (b + b') k'' (by omega) (by omega) (by omega) (by omega) hk''
/-- Nothing lives but in halves that there are. -/
def Plane.two (C : Plane) : Prop := ∀ x y k, 2 ≤ k → C x y k = false
theorem Kn.next_two (N : Kn) (C : Plane) : Plane.two (N.next C) := by
  intro x y k hk
  unfold Kn.next
  rw [decide_eq_false (by unfold Tb.halves; split <;> omega)]; rfl
theorem Kn.evo_two (N : Kn) {C : Plane} (h : Plane.two C) : ∀ n, Plane.two (N.evo n C) := by
  intro n
  cases n with
  | zero => exact h
  | succ n => exact N.next_two _

/-- The block as a plane. -/
def B8.plane (B : B8) : Plane := fun x y k => B.bit x y k
theorem bit_testBit (n a h : Nat) (hh : h < 2) : (n / 2 ^ (2 * a) % 4 / 2 ^ h % 2 == 1) = n.testBit (2 * a + h) := by
  have e : n / 2 ^ (2 * a) % 4 / 2 ^ h % 2 = n / 2 ^ (2 * a) / 2 ^ h % 2 := by
    have hc : h = 0 ∨ h = 1 := by omega
    rcases hc with rfl | rfl
    · simp only [Nat.pow_zero, Nat.div_one]; omega
    · omega
  rw [e, Nat.div_div_eq_div_mul, ← Nat.pow_add, Nat.testBit_eq_decide_div_mod_eq]
  rw [Bool.eq_iff_iff]; simp
theorem B8.bit_in (B : B8) {a b h : Nat} (ha : a < 8) (hb : b < 8) (hh : h < 2) : B.bit a b h = (B.r b).testBit (2 * a + h) := by
  unfold B8.bit B8.state
  rw [if_pos ⟨by omega, by omega, by omega, by omega⟩]
  simp only [Int.toNat_natCast]
  exact bit_testBit _ _ _ hh
theorem B8.aroundS_nbrs (B : B8) (l : List Part) (a b : Int) : B.aroundS l a b l.length = nbrs B.plane l a b := by
  have key : ∀ k, k ≤ l.length → B.aroundS l a b k = nbrs B.plane (l.take k) a b := by
    intro k
    induction k with
    | zero => intro _; rfl
    | succ k ih =>
      intro hk
      simp only [B8.aroundS]
      rw [ih (by omega), List.getElem?_eq_getElem (show k < l.length by omega), List.take_succ_eq_append_getElem (show k < l.length by omega)]
      unfold nbrs
      rw [List.map_append, List.sum_append]
      rfl
  rw [key _ (Nat.le_refl _), List.take_length]
theorem B8.step_bit (B : B8) (N : Kn) {a b h : Nat} (ha : a < 8) (hb : b < 8) (hh : h < 2) : (B.step N).bit a b h = N.next B.plane a b h := by
  rw [B8.bit_in _ ha hb hh]
  show (if b < 8 then accB (B.nb N b) 16 else 0).testBit _ = _
  rw [if_pos hb, accB_bit, decide_eq_true (show 2 * a + h < 16 by omega)]
  unfold B8.nb Kn.next
  rw [show (2 * a + h) % 2 = h by omega, show (2 * a + h) / 2 = a by omega, B8.aroundS_nbrs]
  simp only [Bool.true_and]
  rfl
/-- A block that shows a plane, but for m points at its edges. -/
def B8.shows (B : B8) (m : Nat) (C : Plane) (x y : Int) : Prop := ∀ a b h : Nat, m ≤ a → a + m < 8 → m ≤ b → b + m < 8 → h < 2 → B.bit a b h = C (x + a) (y + b) h
theorem B8.shows.step {B : B8} {N : Kn} (hN : N.ok) {m : Nat} {C : Plane} {x y : Int} (h : B.shows m C x y) : (B.step N).shows (m + 1) (N.next C) x y := by
  intro a b k ha ha' hb hb' hk
  rw [B8.step_bit _ _ (by omega) (by omega) hk]
  refine Kn.next_congr hN (fun a' b' k' g1 g2 g3 g4 hk' => ?_) k
  have := h (a + a').toNat (b + b').toNat k' (by omega) (by omega) (by omega) (by omega) hk'
  rw [Int.toNat_of_nonneg (by omega), Int.toNat_of_nonneg (by omega)] at this
  show B.bit _ _ _ = _
  rw [this, Int.add_assoc, Int.add_assoc]
theorem B8.shows.stepN {N : Kn} (hN : N.ok) : ∀ (n : Nat) {B : B8} {m : Nat} {C : Plane} {x y : Int}, B.shows m C x y → (B8.stepN N n B).shows (m + n) (N.evo n C) x y := by
  intro n
  induction n with
  | zero => intro B m C x y h; exact h
  | succ n ih =>
    intro B m C x y h
    rw [B8.stepN_succ]
    exact (ih h).step hN
theorem K4.block_bit (K : K4) {a b h : Nat} (ha : a < 8) (hb : b < 8) (hh : h < 2) : K.block.bit a b h = (K.k (2 * (b / 4) + a / 4)).testBit (2 * (4 * (b % 4) + a % 4) + h) := by
  rw [B8.bit_in _ ha hb hh]
  show (if b < 8 then K.row b else 0).testBit _ = _
  rw [if_pos hb]
  unfold K4.row
  rw [Nat.testBit_or, show (256 : Nat) = 2 ^ 8 by decide, Nat.testBit_mul_two_pow, Nat.testBit_mod_two_pow, Nat.testBit_mod_two_pow, Nat.testBit_div_two_pow, Nat.testBit_div_two_pow]
  by_cases h4 : a < 4
  · rw [decide_eq_true (show 2 * a + h < 8 by omega), decide_eq_false (show ¬ 8 ≤ 2 * a + h by omega), show a / 4 = 0 by omega, show a % 4 = a by omega,
      show b / 4 * 2 = 2 * (b / 4) + 0 by omega, show b % 4 * 8 = 2 * (4 * (b % 4)) by omega]
    simp only [Bool.true_and, Bool.false_and, Bool.or_false]
    congr 1; omega
  · rw [decide_eq_false (show ¬ 2 * a + h < 8 by omega), decide_eq_true (show 8 ≤ 2 * a + h by omega), decide_eq_true (show 2 * a + h - 8 < 8 by omega), show a / 4 = 1 by omega,
      show b / 4 * 2 + 1 = 2 * (b / 4) + 1 by omega]
    simp only [Bool.true_and, Bool.false_and, Bool.false_or]
    congr 1; omega
theorem B8.isNone_iff (B : B8) : B.isNone = true ↔ ∀ j, j < 8 → B.r j = 0 := by
  unfold B8.isNone
  simp only [Bool.and_eq_true, beq_iff_eq]
  constructor
  · rintro ⟨h0, h1, h2, h3, h4, h5, h6, h7⟩ j hj
    have hc : j = 0 ∨ j = 1 ∨ j = 2 ∨ j = 3 ∨ j = 4 ∨ j = 5 ∨ j = 6 ∨ j = 7 := by omega
    rcases hc with rfl | rfl | rfl | rfl | rfl | rfl | rfl | rfl <;> assumption
  · intro h
    exact ⟨h 0 (by omega), h 1 (by omega), h 2 (by omega), h 3 (by omega), h 4 (by omega), h 5 (by omega), h 6 (by omega), h 7 (by omega)⟩
/-- What becomes of four leaves that show a plane. -/
theorem leafRes_bit {N : Kn} (hN : N.good) {K : K4} {C : Plane} {x y : Int} (h : K.block.shows 0 C x y) {n : Nat} (hn : n ≤ 2) {a b k : Nat} (ha : a < 4) (hb : b < 4) (hk : k < 2) :
    (leafRes N K n).testBit (2 * (4 * b + a) + k) = N.evo n C (x + 2 + a) (y + 2 + b) k := by
  unfold leafRes
  split
  · rename_i hno
    rw [B8.mid_bit _ ha hb hk, (B8.isNone_iff _).1 hno _ (by omega), Nat.zero_testBit]
    refine (Kn.evo_none hN n (fun a' b' k' g1 g2 g3 g4 hk' => ?_) k hk).symm
    have := h (a + 2 + a').toNat (b + 2 + b').toNat k' (by omega) (by omega) (by omega) (by omega) hk'
    rw [B8.bit_in _ (by omega) (by omega) hk', (B8.isNone_iff _).1 hno _ (by omega), Nat.zero_testBit, Int.toNat_of_nonneg (by omega), Int.toNat_of_nonneg (by omega)] at this
    rw [this]
    congr 1 <;> omega
  · rw [B8.mid_bit _ ha hb hk, ← B8.bit_in _ (by omega) (by omega) hk]
    rw [(h.stepN hN.1 n) (a + 2) (b + 2) k (by omega) (by omega) (by omega) (by omega) hk]
    congr 1
    · simp; omega
    · simp; omega
/-- Four leaves of a node of their level. -/
theorem Ar.W.quarters {A : Ar} {i : Nat} {C : Plane} {a b : Int} (h : A.W 1 i C a b) : (A.quarters i).block.shows 0 C a b := by
  intro x y k _ hx _ hy hk
  rw [K4.block_bit _ (by omega) (by omega) hk, A.quarters_k i _ (by omega), ← h.at' x y k (by simp; omega) (by simp; omega) hk]
  rfl
theorem leafRes_lt (N : Kn) (K : K4) (n : Nat) : leafRes N K n < 4294967296 := by
  unfold leafRes
  split
  · exact B8.midS_lt _ 4 (by decide)
  · exact B8.midS_lt _ 4 (by decide)
end Go.Proofs.YtnkdbpjmepfblaaGreatDoor

/- Life as data: an arena and what is known; its Result. -/
namespace Go.Proofs.YtnkdbpjmepfblaaGreatDoor
open Go

structure Lf where
  A : Ar
  L : List ((Nat × Nat) × Nat)
def Lf.up (S : Lf) {α : Type} (x : Option (Except Nat α × Ar)) : Option (Except Nat α × Lf) := x.map fun p => (p.1, ⟨p.2, S.L⟩)
def partsL (f : Nat → Lf → Option (Except Nat Nat × Lf)) : List Nat → List Nat → Lf → Option (Except Nat (List Nat) × Lf)
  | [], acc, S => some (.ok acc, S)
  | k :: ks, acc, S => gbind (f k S) fun j T => partsL f ks (acc ++ [j]) T
def fourK (nine : List Nat) (i : Nat) : K4 := ⟨nine.getD (i / 2 * 3 + i % 2) 0, nine.getD (i / 2 * 3 + i % 2 + 1) 0, nine.getD (i / 2 * 3 + i % 2 + 3) 0, nine.getD (i / 2 * 3 + i % 2 + 4) 0⟩
def makeL (g : Nat → Lf → Option (Except Nat Nat × Lf)) (nine : List Nat) : Nat → List Nat → Lf → Option (Except Nat (List Nat) × Lf)
  | 0, acc, S => some (.ok acc, S)
  | n + 1, acc, S => gbind (S.up (S.A.join (fourK nine (3 - n)))) fun four T => gbind (g four T) fun j U => makeL g nine n (acc ++ [j]) U
def k4of (l : List Nat) : K4 := ⟨l.getD 0 0, l.getD 1 0, l.getD 2 0, l.getD 3 0⟩
def Lf.head (S : Lf) (i e lev : Nat) (x : Option (Except Nat Nat × Lf)) : Option (Except Nat Nat × Lf) :=
  if S.A.count i = 0 then S.up (S.A.mt lev) else
    match lookL S.L (i, e) with
    | some j => some (.ok j, S)
    | none => gbind x fun out T => some (.ok out, { T with L := putL T.L (i, e) out })
def partF (full : Bool) (r : Nat → Lf → Option (Except Nat Nat × Lf)) (k : Nat) (S : Lf) : Option (Except Nat Nat × Lf) := if full then r k S else S.up (S.A.centre k)
def Lf.parts (S : Lf) (i : Nat) (full : Bool) (r : Nat → Lf → Option (Except Nat Nat × Lf)) : Option (Except Nat (List Nat) × Lf) :=
  gbind (S.up (S.A.nine i)) fun nine T => partsL (partF full r) nine [] T
def Lf.make (S : Lf) (i : Nat) (full : Bool) (r : Nat → Lf → Option (Except Nat Nat × Lf)) : Option (Except Nat Nat × Lf) :=
  gbind (S.parts i full r) fun nine T => gbind (makeL r nine 4 [] T) fun kids U => U.up (U.A.join (k4of kids))
/-- Result of a node of level d + 3. -/
def resF (N : Kn) : Nat → Nat → Nat → Lf → Option (Except Nat Nat × Lf)
  | 0, i, e, S => S.head i e 2 (S.up (S.A.leaf (leafRes N (S.A.quarters i) (2 ^ e))))
  | d + 1, i, e, S => S.head i e (d + 3) (S.make i (decide (e = d + 2)) (fun k T => resF N d k (if e = d + 2 then e - 1 else e) T))

theorem Ar.W.back {A B : Ar} (hle : A.le B) (hA : A.wf) {d i : Nat} (hi : i < A.nodes.length) {C : Plane} {a b : Int} (h : B.W d i C a b) : A.W d i C a b :=
  ⟨by rw [← hle.level hi]; exact h.lv, fun x y k hx hy hk => by rw [← h.at' x y k hx hy hk, hle.at hA d (by rw [← hle.level hi]; exact h.lv) hx hy]⟩
/-- What is known is so. -/
def entryOk (N : Kn) (A : Ar) (i e j : Nat) : Prop :=
  ∃ d : Nat, A.level i = (d + 3 : Nat) ∧ ∀ C a b, A.W (d + 1) i C a b → A.W d j (N.evo (2 ^ e) C) (a + (2 ^ (d + 1) : Nat)) (b + (2 ^ (d + 1) : Nat))
theorem entryOk.le {N : Kn} {A B : Ar} (hle : A.le B) (hA : A.wf) {i e j : Nat} (h : entryOk N A i e j) : entryOk N B i e j := by
  obtain ⟨d, h1, h2⟩ := h
  have hi : i < A.nodes.length := Ar.level_lt (by omega)
  exact ⟨d, by rw [hle.level hi]; exact h1, fun C a b hW => (h2 C a b (hW.back hle hA hi)).le hle hA⟩
structure Lf.valid (N : Kn) (S : Lf) : Prop where
  wf : S.A.wf
  ok : ∀ p ∈ S.L, entryOk N S.A p.1.1 p.1.2 p.2
abbrev Lf.goes {α : Type} (N : Kn) (S : Lf) (x : Option (Except Nat α × Lf)) (F : Fam) (P : α → Lf → Prop) : Prop := goesS Lf.A (Lf.valid N) S x F P
theorem Lf.goes_up {N : Kn} {S : Lf} (hv : S.valid N) {α : Type} {x : Option (Except Nat α × Ar)} {F : Fam} {P : α → Ar → Prop} (h : S.A.goes x F P) :
    S.goes N (S.up x) F (fun i T => P i T.A ∧ T.L = S.L) := by
  have hval : ∀ B : Ar, S.A.step F B → Lf.valid N ⟨B, S.L⟩ := fun B hs => ⟨hs.wf, fun p hp => (hv.ok p hp).le hs.le hv.wf⟩
  refine ⟨fun i t hx => ?_, fun c t hx => ?_, fun hx => ?_⟩
  · simp only [Lf.up, Option.map_eq_some_iff, Prod.mk.injEq, Prod.exists] at hx
    obtain ⟨r, B, hx, rfl, rfl⟩ := hx
    obtain ⟨h1, h2, h3⟩ := h.fine i B hx
    exact ⟨h1, hval B h1, h3, rfl⟩
  · simp only [Lf.up, Option.map_eq_some_iff, Prod.mk.injEq, Prod.exists] at hx
    obtain ⟨r, B, hx, rfl, rfl⟩ := hx
    obtain ⟨h1, h2, h3, h4⟩ := h.err c B hx
    exact ⟨h1, hval B h1, h3, h4⟩
  · simp only [Lf.up, Option.map_eq_none_iff] at hx
    exact h.no hx
theorem mid_lt {d x : Nat} (hx : x < 2 ^ (d + 2)) : 2 ^ (d + 1) + x < 2 ^ (d + 3) := by
  have h1 := pw2 d
  have h2 : 2 ^ (d + 3) = 2 * 2 ^ (d + 2) := two_pow_succ d
  omega
/-- A node tells what becomes of its middle. -/
theorem entry_of {N : Kn} (hN : N.ok) {A : Ar} {d i j n : Nat} (hn : n ≤ 2 ^ (d + 1)) {C : Plane} {a b : Int} (hi : A.W (d + 1) i C a b) (hj : A.W d j (N.evo n C) (a + (2 ^ (d + 1) : Nat)) (b + (2 ^ (d + 1) : Nat)))
    {C' : Plane} {a' b' : Int} (hi' : A.W (d + 1) i C' a' b') : A.W d j (N.evo n C') (a' + (2 ^ (d + 1) : Nat)) (b' + (2 ^ (d + 1) : Nat)) := by
  refine hj.congr fun x y k hx hy hk => ?_
  refine Kn.evo_congr hN n (fun u v k' h1 h2 h3 h4 hk' => ?_) k hk
  have hx' := mid_lt hx
  have hy' := mid_lt hy
  have hb := pw2 d
  have hb3 : 2 ^ (d + 3) = 2 * 2 ^ (d + 2) := two_pow_succ d
  have e1 := hi.at' ((2 ^ (d + 1) : Nat) + x + u).toNat ((2 ^ (d + 1) : Nat) + y + v).toNat k' (by show _ < 2 ^ (d + 3); omega) (by show _ < 2 ^ (d + 3); omega) hk'
  have e2 := hi'.at' ((2 ^ (d + 1) : Nat) + x + u).toNat ((2 ^ (d + 1) : Nat) + y + v).toNat k' (by show _ < 2 ^ (d + 3); omega) (by show _ < 2 ^ (d + 3); omega) hk'
  rw [Int.toNat_of_nonneg (by omega), Int.toNat_of_nonneg (by omega)] at e1 e2
  rw [show a + (2 ^ (d + 1) : Nat) + x + u = a + ((2 ^ (d + 1) : Nat) + x + u) by omega, show b + (2 ^ (d + 1) : Nat) + y + v = b + ((2 ^ (d + 1) : Nat) + y + v) by omega, ← e1, e2]
  congr 1 <;> omega
/-- Empty stays empty. -/
theorem empty_stays {N : Kn} (hN : N.good) {A : Ar} (hA : A.wf) {d i n : Nat} (hn : n ≤ 2 ^ (d + 1)) {C : Plane} {a b : Int} (hi : A.W (d + 1) i C a b) (hc : A.count i = 0) :
    ∀ (x y k : Nat), x < 2 ^ (d + 2) → y < 2 ^ (d + 2) → k < 2 → N.evo n C (a + (2 ^ (d + 1) : Nat) + x) (b + (2 ^ (d + 1) : Nat) + y) k = false := by
  intro x y k hx hy hk
  refine Kn.evo_none hN n (fun u v k' h1 h2 h3 h4 hk' => ?_) k hk
  have hx' := mid_lt hx
  have hy' := mid_lt hy
  have hb := pw2 d
  have hb3 : 2 ^ (d + 3) = 2 * 2 ^ (d + 2) := two_pow_succ d
  have e1 := (hi.isEmpty hA).1 hc ((2 ^ (d + 1) : Nat) + x + u).toNat ((2 ^ (d + 1) : Nat) + y + v).toNat k' (by show _ < 2 ^ (d + 3); omega) (by show _ < 2 ^ (d + 3); omega) hk'
  rw [Int.toNat_of_nonneg (by omega), Int.toNat_of_nonneg (by omega)] at e1
  rw [← e1]
  congr 1 <;> omega
theorem Lf.goes_head {N : Kn} (hN : N.good) {S : Lf} (hv : S.valid N) {F : Fam} {d i e : Nat} (he : e ≤ d + 1) (h44 : d + 3 ≤ 44) {C : Plane} {a b : Int} (hW : S.A.W (d + 1) i C a b) {x : Option (Except Nat Nat × Lf)}
    (hx : S.goes N x F (fun j T => T.A.W d j (N.evo (2 ^ e) C) (a + (2 ^ (d + 1) : Nat)) (b + (2 ^ (d + 1) : Nat)))) :
    S.goes N (S.head i e (d + 2) x) F (fun j T => T.A.W d j (N.evo (2 ^ e) C) (a + (2 ^ (d + 1) : Nat)) (b + (2 ^ (d + 1) : Nat))) := by
  have hpe : 2 ^ e ≤ 2 ^ (d + 1) := Nat.pow_le_pow_right (by omega) he
  unfold Lf.head
  split
  · rename_i hc
    refine (Lf.goes_up hv (Ar.goes_mt hv.wf (by omega) (by omega))).mono fun j T _ hT st hj => ?_
    exact Ar.W.empty hT.wf hj.1.1 hj.1.2 (empty_stays hN hv.wf hpe hW hc)
  · split
    · rename_i j hj
      obtain ⟨d', h1, h2⟩ := hv.ok _ (lookL_mem hj)
      have hl := hW.lv
      have hd : d' = d := by simp only at h1; omega
      subst hd
      exact goesS.pure (ar := Lf.A) (s := S) hv.wf hv (h2 C a b hW)
    · refine goesS.bind (Q := fun j T => T.A.W d j (N.evo (2 ^ e) C) (a + (2 ^ (d + 1) : Nat)) (b + (2 ^ (d + 1) : Nat))) hx fun out T hT st hj => ?_
      have hT' : Lf.valid N { T with L := putL T.L (i, e) out } := by
        refine ⟨hT.wf, fun p hp => ?_⟩
        rcases putL_mem hp with rfl | hp
        · have hWT := hW.le st.le hv.wf
          exact ⟨d, hWT.lv, fun C' a' b' hW' => entry_of hN.1 hpe hWT hj hW'⟩
        · exact hT.ok p hp
      exact ⟨fun j U hU => by
          simp only [Option.some.injEq, Prod.mk.injEq, Except.ok.injEq] at hU
          obtain ⟨rfl, rfl⟩ := hU
          exact ⟨.refl hT.wf _, hT', hj⟩, fun c U hU => (by cases hU), fun hU => (by cases hU)⟩
end Go.Proofs.YtnkdbpjmepfblaaGreatDoor

/- What Result comes to. -/
namespace Go.Proofs.YtnkdbpjmepfblaaGreatDoor
open Go

theorem Ar.goes_centre {A : Ar} (h : A.wf) {F : Fam} {C : Plane} (hAl : Al F C) {d i : Nat} (h44 : d + 2 ≤ 44) {a b : Int} (ha : ((2 ^ (d + 1) : Nat) : Int) ∣ a) (hb : ((2 ^ (d + 1) : Nat) : Int) ∣ b) (hW : A.W (d + 1) i C a b) :
    A.goes (A.centre i) F (fun j B => B.W d j C (a + (2 ^ (d + 1) : Nat)) (b + (2 ^ (d + 1) : Nat))) := by
  have hl := hW.lv
  have hdv : ∀ x : Int, ((2 ^ (d + 1) : Nat) : Int) ∣ x → ((2 ^ d : Nat) : Int) ∣ x + (2 ^ (d + 1) : Nat) := fun x hx => Int.dvd_add (Int.dvd_trans (dvd_pw1 (by omega)) hx) (dvd_pw1 (by omega))
  unfold Ar.centre
  rw [if_neg (by omega)]
  cases d with
  | zero =>
    rw [if_pos (by omega)]
    refine Ar.goes_leafW h (B8.midS_lt _ 4 (by decide)) (hAl _ _ _ (hdv _ ha) (hdv _ hb)) fun x y k hx hy hk => ?_
    rw [B8.mid_bit _ hx hy hk, ← B8.bit_in _ (by omega) (by omega) hk, hW.quarters (x + 2) (y + 2) k (by omega) (by omega) (by omega) (by omega) hk]
    congr 1
    · simp; omega
    · simp; omega
  | succ d =>
    rw [if_neg (by omega)]
    refine Ar.goes_joinW (d := d) h (by omega) (hAl _ _ _ (hdv _ ha) (hdv _ hb)) fun t ht => ?_
    have hc : t = 0 ∨ t = 1 ∨ t = 2 ∨ t = 3 := by omega
    have e : 2 ^ (d + 1 + 1) = 2 ^ (d + 2) := rfl
    rw [e]
    rcases hc with rfl | rfl | rfl | rfl
    · exact (hW.grid h (x := 1) (y := 1) (by omega) (by omega)).off (by generalize 2 ^ (d + 2) = s at *; simp) (by generalize 2 ^ (d + 2) = s at *; simp)
    · exact (hW.grid h (x := 2) (y := 1) (by omega) (by omega)).off (by generalize 2 ^ (d + 2) = s at *; simp; omega) (by generalize 2 ^ (d + 2) = s at *; simp)
    · exact (hW.grid h (x := 1) (y := 2) (by omega) (by omega)).off (by generalize 2 ^ (d + 2) = s at *; simp) (by generalize 2 ^ (d + 2) = s at *; simp; omega)
    · exact (hW.grid h (x := 2) (y := 2) (by omega) (by omega)).off (by generalize 2 ^ (d + 2) = s at *; simp; omega) (by generalize 2 ^ (d + 2) = s at *; simp; omega)

/-- One of nine, brought on. -/
def Kn.brings (N : Kn) (F : Fam) (d : Nat) (t : Nat) (C : Plane) (f : Nat → Lf → Option (Except Nat Nat × Lf)) : Prop :=
  ∀ (k : Nat) (T : Lf) (a b : Int), T.valid N → ((2 ^ (d + 1) : Nat) : Int) ∣ a → ((2 ^ (d + 1) : Nat) : Int) ∣ b → T.A.W (d + 1) k C a b →
    T.goes N (f k T) F (fun j U => U.A.W d j (N.evo t C) (a + (2 ^ (d + 1) : Nat)) (b + (2 ^ (d + 1) : Nat)))
theorem goes_partsL {N : Kn} {F : Fam} {d t : Nat} {C : Plane} {f : Nat → Lf → Option (Except Nat Nat × Lf)} (hf : N.brings F d t C f) {a b : Int} {s : Nat} (ha : ((2 ^ (d + 1) : Nat) : Int) ∣ a) (hb : ((2 ^ (d + 1) : Nat) : Int) ∣ b) (hs : 2 ^ (d + 1) ∣ s) :
    ∀ (ks acc : List Nat) (S : Lf), S.valid N → acc.length + ks.length = 9 → S.A.nineW d acc acc.length (N.evo t C) (a + (2 ^ (d + 1) : Nat)) (b + (2 ^ (d + 1) : Nat)) s →
      (∀ j, acc.length ≤ j → j < 9 → S.A.W (d + 1) (ks.getD (j - acc.length) 0) C (a + (j % 3 : Nat) * (s : Nat)) (b + (j / 3 : Nat) * (s : Nat))) →
      S.goes N (partsL f ks acc S) F (fun l U => U.A.nineW d l 9 (N.evo t C) (a + (2 ^ (d + 1) : Nat)) (b + (2 ^ (d + 1) : Nat)) s) := by
  intro ks
  induction ks with
  | nil =>
    intro acc S hv hlen hacc _
    have h9 : acc.length = 9 := by simpa using hlen
    rw [h9] at hacc
    exact goesS.pure (ar := Lf.A) hv.wf hv hacc
  | cons k ks ih =>
    intro acc S hv hlen hacc hk
    simp only [partsL]
    have hlen' : acc.length + (ks.length + 1) = 9 := by simpa using hlen
    have hdv : ∀ (x : Int) (k : Nat), ((2 ^ (d + 1) : Nat) : Int) ∣ x → ((2 ^ (d + 1) : Nat) : Int) ∣ x + (k : Nat) * (s : Nat) := fun x k hx =>
      Int.dvd_add hx (Int.dvd_trans (by exact_mod_cast hs) (Int.dvd_mul_left _ _))
    have h0 := hk acc.length (Nat.le_refl _) (by omega)
    simp only [Nat.sub_self, List.getD_cons_zero] at h0
    refine goesS.bind (hf k S _ _ hv (hdv _ _ ha) (hdv _ _ hb) h0) fun j T hT st hj => ?_
    refine ih (acc ++ [j]) T hT (by simp; omega) ?_ ?_
    · have h1 := (hacc.le st.le hv.wf).snoc (j := j) (hj.off (by omega) (by omega))
      rw [List.length_append]
      exact h1
    · intro i h1 h2
      rw [List.length_append] at h1
      simp only [List.length_cons, List.length_nil] at h1
      have h3 := (hk i (by omega) h2).le st.le hv.wf
      rw [show i - acc.length = (i - (acc ++ [j]).length) + 1 by simp; omega, List.getD_cons_succ] at h3
      exact h3
theorem goes_makeL {N : Kn} {F : Fam} {d t : Nat} {C : Plane} (hAl : Al F C) (h44 : d + 2 < 44) {f : Nat → Lf → Option (Except Nat Nat × Lf)} (hf : N.brings F d t C f) {a b : Int} (ha : ((2 ^ (d + 1) : Nat) : Int) ∣ a) (hb : ((2 ^ (d + 1) : Nat) : Int) ∣ b) {nine : List Nat} :
    ∀ (n : Nat) (acc : List Nat) (S : Lf), S.valid N → n ≤ 4 → S.A.nineW d nine 9 C a b (2 ^ (d + 2)) → acc.length = 4 - n →
      (∀ i, i < 4 - n → S.A.W d (acc.getD i 0) (N.evo t C) (a + (2 ^ (d + 1) : Nat) + (i % 2 : Nat) * (2 ^ (d + 2) : Nat)) (b + (2 ^ (d + 1) : Nat) + (i / 2 : Nat) * (2 ^ (d + 2) : Nat))) →
      S.goes N (makeL f nine n acc S) F (fun l U => ∀ i, i < 4 → U.A.W d (l.getD i 0) (N.evo t C) (a + (2 ^ (d + 1) : Nat) + (i % 2 : Nat) * (2 ^ (d + 2) : Nat)) (b + (2 ^ (d + 1) : Nat) + (i / 2 : Nat) * (2 ^ (d + 2) : Nat))) := by
  intro n
  induction n with
  | zero => intro acc S hv _ _ _ hacc; exact goesS.pure (ar := Lf.A) hv.wf hv hacc
  | succ n ih =>
    intro acc S hv hn h9 hlen hacc
    simp only [makeL]
    have hdv : ∀ (x : Int) (k : Nat), ((2 ^ (d + 1) : Nat) : Int) ∣ x → ((2 ^ (d + 1) : Nat) : Int) ∣ x + (k : Nat) * (2 ^ (d + 2) : Nat) := fun x k hx => Int.dvd_add hx (dvd_pw (by omega) _)
    have hi4 : 3 - n < 4 := by omega
    refine goesS.bind (Lf.goes_up hv (Ar.goes_joinW (d := d) (C := C) (a := a + ((3 - n) % 2 : Nat) * (2 ^ (d + 2) : Nat)) (b := b + ((3 - n) / 2 : Nat) * (2 ^ (d + 2) : Nat)) hv.wf h44 (hAl _ _ _ (hdv _ _ ha) (hdv _ _ hb)) fun u hu => ?_)) fun four T hT st h4 => ?_
    · have hq := fun q hq => h9.2 q hq
      generalize 3 - n = i at *
      have hm : i % 2 < 2 := Nat.mod_lt _ (by decide)
      have hd : i / 2 < 2 := by omega
      have hc : u = 0 ∨ u = 1 ∨ u = 2 ∨ u = 3 := by omega
      have hcast : ∀ (x : Nat) (s : Nat) , (((x + 1 : Nat) : Int)) * (s : Nat) = x * s + s := fun x s => by rw [Int.natCast_add, Int.add_mul]; omega
      rcases hc with rfl | rfl | rfl | rfl
      · refine (hq (i / 2 * 3 + i % 2) (by omega)).off ?_ ?_
        · rw [show (i / 2 * 3 + i % 2) % 3 = i % 2 by omega]; simp
        · rw [show (i / 2 * 3 + i % 2) / 3 = i / 2 by omega]; simp
      · refine (hq (i / 2 * 3 + i % 2 + 1) (by omega)).off ?_ ?_
        · rw [show (i / 2 * 3 + i % 2 + 1) % 3 = i % 2 + 1 by omega, hcast, ← Int.add_assoc]; simp
        · rw [show (i / 2 * 3 + i % 2 + 1) / 3 = i / 2 by omega]; simp
      · refine (hq (i / 2 * 3 + i % 2 + 3) (by omega)).off ?_ ?_
        · rw [show (i / 2 * 3 + i % 2 + 3) % 3 = i % 2 by omega]; simp
        · rw [show (i / 2 * 3 + i % 2 + 3) / 3 = i / 2 + 1 by omega, hcast, ← Int.add_assoc]; simp
      · refine (hq (i / 2 * 3 + i % 2 + 4) (by omega)).off ?_ ?_
        · rw [show (i / 2 * 3 + i % 2 + 4) % 3 = i % 2 + 1 by omega, hcast, ← Int.add_assoc]; simp
        · rw [show (i / 2 * 3 + i % 2 + 4) / 3 = i / 2 + 1 by omega, hcast, ← Int.add_assoc]; simp
    · refine goesS.bind (hf four T _ _ hT (hdv _ _ ha) (hdv _ _ hb) h4.1) fun j U hU st2 hj => ?_
      have le2 := st.le.trans st2.le
      refine ih (acc ++ [j]) U hU (by omega) (h9.le le2 hv.wf) (by simp; omega) fun i hi => ?_
      by_cases h1 : i < 4 - (n + 1)
      · rw [show (acc ++ [j]).getD i 0 = acc.getD i 0 by simp [List.getD_eq_getElem?_getD, List.getElem?_append_left (show i < acc.length by omega)]]
        exact (hacc i h1).le le2 hv.wf
      · obtain rfl : i = 3 - n := by omega
        rw [show (acc ++ [j]).getD (3 - n) 0 = j by rw [show 3 - n = acc.length by omega]; simp [List.getD_eq_getElem?_getD]]
        exact hj.off (by omega) (by omega)
theorem Lf.goes_make {N : Kn} {F : Fam} {d t1 t2 : Nat} {C : Plane} {full : Bool} (ht : full = false → t1 = 0) (hAl : Al F C) (hAl1 : Al F (N.evo t1 C)) (hAl2 : Al F (N.evo (t2 + t1) C)) (h44 : d + 4 ≤ 44) {r : Nat → Lf → Option (Except Nat Nat × Lf)}
    (hr1 : full = true → N.brings F d t1 C r) (hr2 : N.brings F d t2 (N.evo t1 C) r) {S : Lf} (hv : S.valid N) {i : Nat} {a b : Int} (ha : ((2 ^ (d + 2) : Nat) : Int) ∣ a) (hb : ((2 ^ (d + 2) : Nat) : Int) ∣ b) (hW : S.A.W (d + 2) i C a b) :
    S.goes N (S.make i full r) F (fun j U => U.A.W (d + 1) j (N.evo (t2 + t1) C) (a + (2 ^ (d + 2) : Nat)) (b + (2 ^ (d + 2) : Nat))) := by
  have e3 : 2 ^ (d + 2) = 2 * 2 ^ (d + 1) := pw2 d
  have hdv1 : ∀ x : Int, ((2 ^ (d + 2) : Nat) : Int) ∣ x → ((2 ^ (d + 1) : Nat) : Int) ∣ x := fun x hx => Int.dvd_trans (dvd_pw1 (by omega)) hx
  have hdv2 : ∀ x : Int, ((2 ^ (d + 2) : Nat) : Int) ∣ x → ((2 ^ (d + 1) : Nat) : Int) ∣ x + (2 ^ (d + 1) : Nat) := fun x hx => Int.dvd_add (hdv1 x hx) (dvd_pw1 (by omega))
  have hp : N.brings F d t1 C (partF full r) := by
    intro k T a' b' hT ha' hb' hk
    unfold partF
    cases full with
    | true => exact hr1 rfl k T a' b' hT ha' hb' hk
    | false =>
      rw [ht rfl]
      exact (Lf.goes_up hT (Ar.goes_centre hT.wf hAl (by omega) ha' hb' hk)).mono fun _ _ _ _ _ h => h.1
  unfold Lf.make Lf.parts
  refine goesS.bind (P := fun l U => U.A.nineW d l 9 (N.evo t1 C) (a + (2 ^ (d + 1) : Nat)) (b + (2 ^ (d + 1) : Nat)) (2 ^ (d + 2))) ?_ fun nine T hT st h9 => ?_
  · refine goesS.bind (Lf.goes_up hv (Ar.goes_nine hv.wf hAl (by omega) ha hb hW)) fun nine T hT st h9 => ?_
    refine goes_partsL hp (hdv1 _ ha) (hdv1 _ hb) ⟨2, by omega⟩ nine [] T hT (by have := h9.1.1; simp; omega) ⟨rfl, fun t ht => by simp at ht⟩ fun j _ hj => ?_
    exact h9.1.2 j hj
  · refine goesS.bind (goes_makeL hAl1 (by omega) hr2 (hdv2 _ ha) (hdv2 _ hb) 4 [] T hT (by omega) h9 rfl (fun i hi => by omega)) fun kids U hU st2 hk => ?_
    refine (Lf.goes_up hU (Ar.goes_joinW (d := d) (C := N.evo (t2 + t1) C) (a := a + (2 ^ (d + 2) : Nat)) (b := b + (2 ^ (d + 2) : Nat)) hU.wf (by omega) (hAl2 _ _ _ (Int.dvd_add (hdv1 _ ha) (dvd_pw1 (by omega))) (Int.dvd_add (hdv1 _ hb) (dvd_pw1 (by omega)))) fun t ht => ?_)).mono fun _ _ _ _ _ h => h.1
    have h1 := hk t ht
    rw [← Kn.evo_add] at h1
    have hc : t = 0 ∨ t = 1 ∨ t = 2 ∨ t = 3 := by omega
    rcases hc with rfl | rfl | rfl | rfl <;> exact h1.off (by rw [e3]; generalize 2 ^ (d + 1) = s at *; omega) (by rw [e3]; generalize 2 ^ (d + 1) = s at *; omega)
theorem resF_goes {N : Kn} (hN : N.good) {F : Fam} : ∀ (d : Nat) {S : Lf} {i e : Nat} {C : Plane} {a b : Int}, S.valid N → S.A.W (d + 1) i C a b → e ≤ d + 1 → d + 3 ≤ 44 →
    ((2 ^ (d + 1) : Nat) : Int) ∣ a → ((2 ^ (d + 1) : Nat) : Int) ∣ b → (∀ t, t ≤ 2 ^ e → Al F (N.evo t C)) →
    S.goes N (resF N d i e S) F (fun j U => U.A.W d j (N.evo (2 ^ e) C) (a + (2 ^ (d + 1) : Nat)) (b + (2 ^ (d + 1) : Nat))) := by
  intro d
  induction d with
  | zero =>
    intro S i e C a b hv hW he h44 ha hb hAl
    refine Lf.goes_head hN hv he (by omega) hW ?_
    have h2 : 2 ^ e ≤ 2 := by
      have hc : e = 0 ∨ e = 1 := by omega
      rcases hc with rfl | rfl <;> decide
    refine (Lf.goes_up hv (Ar.goes_leafW hv.wf (leafRes_lt _ _ _) (hAl _ (Nat.le_refl _) _ _ _ (by simp) (by simp)) fun x y k hx hy hk => ?_)).mono fun _ _ _ _ _ h => h.1
    rw [leafRes_bit hN hW.quarters h2 hx hy hk]
    rfl
  | succ d ih =>
    intro S i e C a b hv hW he h44 ha hb hAl
    refine Lf.goes_head hN hv he (by omega) hW ?_
    have hev : ∀ t m, t + m ≤ 2 ^ e → Al F (N.evo t (N.evo m C)) := fun t m h => by rw [← Kn.evo_add]; exact hAl _ h
    by_cases hfull : e = d + 2
    · have e2 : 2 ^ e = 2 ^ (e - 1) + 2 ^ (e - 1) := by rw [show e = (e - 1) + 1 by omega, Nat.pow_succ]; simp; omega
      have hle : 2 ^ (e - 1) ≤ 2 ^ e := by rw [e2]; exact Nat.le_add_left _ _
      rw [if_pos hfull, decide_eq_true hfull]
      have := Lf.goes_make (N := N) (F := F) (d := d) (t1 := 2 ^ (e - 1)) (t2 := 2 ^ (e - 1)) (C := C) (full := true) (fun h => by cases h) (hAl 0 (Nat.zero_le _)) (hAl (2 ^ (e - 1)) hle) (by rw [← e2]; exact hAl _ (Nat.le_refl _)) h44 (r := fun k T => resF N d k (e - 1) T)
        (fun _ k T a' b' hT ha' hb' hk => ih hT hk (by omega) (by omega) ha' hb' (fun t ht => hAl t (Nat.le_trans ht hle)))
        (fun k T a' b' hT ha' hb' hk => ih hT hk (by omega) (by omega) ha' hb' (fun t ht => hev t (2 ^ (e - 1)) (by rw [e2]; exact Nat.add_le_add_right ht _))) hv ha hb hW
      rw [← e2] at this
      exact this
    · rw [if_neg hfull, decide_eq_false hfull]
      have := Lf.goes_make (N := N) (F := F) (d := d) (t1 := 0) (t2 := 2 ^ e) (C := C) (full := false) (fun _ => rfl) (hAl 0 (Nat.zero_le _)) (hAl 0 (Nat.zero_le _)) (hAl _ (Nat.le_refl _)) h44 (r := fun k T => resF N d k e T)
        (fun h => by cases h)
        (fun k T a' b' hT ha' hb' hk => ih hT hk (by omega) (by omega) ha' hb' (fun t ht => hAl t ht)) hv ha hb hW
      exact this
end Go.Proofs.YtnkdbpjmepfblaaGreatDoor
