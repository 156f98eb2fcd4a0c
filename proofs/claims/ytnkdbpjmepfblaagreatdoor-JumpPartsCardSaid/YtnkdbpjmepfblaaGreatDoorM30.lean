/- Texts of the walk and its plain law, merged: BuF, BuG, BuH, BuI, GsA, AwB, BgA. -/
import Derived.Test.YtnkdbpjmepfblaaGreatDoorM28
import Derived.Test.YtnkdbpjmepfblaaGreatDoorM29
import Derived.Test.YtnkdbpjmepfblaaGreatDoorM26
import Derived.Test.YtnkdbpjmepfblaaGreatDoorM15
/- Build as data: the level, what is trimmed. -/
namespace Go.Proofs.YtnkdbpjmepfblaaGreatDoor
open Go Go.RowKit

theorem foldl_at (S : List Ce) : ∀ (B : Bx), ((S.foldl Bx.add B).la = B.la ∨ ∃ x ∈ S, (S.foldl Bx.add B).la = x.a) ∧ ((S.foldl Bx.add B).lb = B.lb ∨ ∃ x ∈ S, (S.foldl Bx.add B).lb = x.b) ∧
    ((S.foldl Bx.add B).ha = B.ha ∨ ∃ x ∈ S, (S.foldl Bx.add B).ha = x.a) ∧ ((S.foldl Bx.add B).hb = B.hb ∨ ∃ x ∈ S, (S.foldl Bx.add B).hb = x.b) := by
  induction S with
  | nil => intro B; simp
  | cons y S ih =>
    intro B
    obtain ⟨h1, h2, h3, h4⟩ := ih (B.add y)
    simp only [List.foldl_cons]
    refine ⟨?_, ?_, ?_, ?_⟩
    · rcases h1 with h | ⟨x, hx, h⟩
      · rw [h]; unfold Bx.add; simp only
        rcases Int.le_total B.la y.a with hl | hl
        · exact .inl (by omega)
        · exact .inr ⟨y, by simp, by omega⟩
      · exact .inr ⟨x, by simp [hx], h⟩
    · rcases h2 with h | ⟨x, hx, h⟩
      · rw [h]; unfold Bx.add; simp only
        rcases Int.le_total B.lb y.b with hl | hl
        · exact .inl (by omega)
        · exact .inr ⟨y, by simp, by omega⟩
      · exact .inr ⟨x, by simp [hx], h⟩
    · rcases h3 with h | ⟨x, hx, h⟩
      · rw [h]; unfold Bx.add; simp only
        rcases Int.le_total B.ha y.a with hl | hl
        · exact .inr ⟨y, by simp, by omega⟩
        · exact .inl (by omega)
      · exact .inr ⟨x, by simp [hx], h⟩
    · rcases h4 with h | ⟨x, hx, h⟩
      · rw [h]; unfold Bx.add; simp only
        rcases Int.le_total B.hb y.b with hl | hl
        · exact .inr ⟨y, by simp, by omega⟩
        · exact .inl (by omega)
      · exact .inr ⟨x, by simp [hx], h⟩
theorem boxL_at {S : List Ce} (hne : S ≠ []) : (∃ x ∈ S, (boxL S).la = x.a) ∧ (∃ x ∈ S, (boxL S).lb = x.b) ∧ (∃ x ∈ S, (boxL S).ha = x.a) ∧ (∃ x ∈ S, (boxL S).hb = x.b) := by
  cases S with
  | nil => exact absurd rfl hne
  | cons x S =>
    rw [boxL_cons]
    obtain ⟨h1, h2, h3, h4⟩ := foldl_at (x :: S) ⟨x.a, x.b, x.a, x.b⟩
    refine ⟨?_, ?_, ?_, ?_⟩
    · rcases h1 with h | h
      · exact ⟨x, by simp, h⟩
      · exact h
    · rcases h2 with h | h
      · exact ⟨x, by simp, h⟩
      · exact h
    · rcases h3 with h | h
      · exact ⟨x, by simp, h⟩
      · exact h
    · rcases h4 with h | h
      · exact ⟨x, by simp, h⟩
      · exact h
theorem boxL_in {S : List Ce} : ∀ x ∈ S, (boxL S).la ≤ x.a ∧ x.a ≤ (boxL S).ha ∧ (boxL S).lb ≤ x.b ∧ x.b ≤ (boxL S).hb := by
  cases S with
  | nil => intro x hx; cases hx
  | cons x S => rw [boxL_cons]; exact (foldl_box (x :: S) ⟨x.a, x.b, x.a, x.b⟩).2.2.2.2
theorem inB_iff (n : Nat) (a b : Int) : inB n a b = true ↔ -((2 ^ (n - 1) : Nat) : Int) ≤ a ∧ a < ((2 ^ (n - 1) : Nat) : Int) ∧ -((2 ^ (n - 1) : Nat) : Int) ≤ b ∧ b < ((2 ^ (n - 1) : Nat) : Int) := by
  unfold inB
  simp only [Bool.and_eq_true, decide_eq_true_eq]
  exact ⟨fun ⟨⟨⟨h1, h2⟩, h3⟩, h4⟩ => ⟨h1, h2, h3, h4⟩, fun ⟨h1, h2, h3, h4⟩ => ⟨⟨⟨h1, h2⟩, h3⟩, h4⟩⟩
theorem boxB_iff {S : List Ce} (hne : S ≠ []) (n : Nat) : boxB n (boxL S).la (boxL S).lb (boxL S).ha (boxL S).hb = true ↔ ∀ x ∈ S, -((2 ^ (n - 1) : Nat) : Int) ≤ x.a ∧ x.a < ((2 ^ (n - 1) : Nat) : Int) ∧ -((2 ^ (n - 1) : Nat) : Int) ≤ x.b ∧ x.b < ((2 ^ (n - 1) : Nat) : Int) := by
  unfold boxB
  rw [Bool.and_eq_true, inB_iff, inB_iff]
  obtain ⟨⟨x1, m1, e1⟩, ⟨x2, m2, e2⟩, ⟨x3, m3, e3⟩, ⟨x4, m4, e4⟩⟩ := boxL_at hne
  constructor
  · rintro ⟨⟨h1, h2, h3, h4⟩, ⟨h5, h6, h7, h8⟩⟩ x hx
    have := boxL_in x hx
    omega
  · intro h
    have g1 := h x1 m1
    have g2 := h x2 m2
    have g3 := h x3 m3
    have g4 := h x4 m4
    have l1 := boxL_in x1 m1
    have l2 := boxL_in x2 m2
    omega
/-- The root that Build makes. -/
theorem build_root {S : List Ce} (hS : ∀ x ∈ S, 0 ≤ x.h ∧ x.h ≤ 1) (hne : S ≠ []) {lev : Nat} (h3 : 3 ≤ lev) (hlow : ∀ m, 3 ≤ m → m < lev → boxB m (boxL S).la (boxL S).lb (boxL S).ha (boxL S).hb = false)
    (hin : boxB lev (boxL S).la (boxL S).lb (boxL S).ha (boxL S).hb = true) {A : Ar} {j d : Nat} (hd : lev = d + 2) (hW : A.W d j (setPl S) (-((2 ^ (d + 1) : Nat) : Int)) (-((2 ^ (d + 1) : Nat) : Int))) :
    ∃ g, A.R (g + 1) j (setPl S) ∧ Trimmed g (setPl S) := by
  have hin' := (boxB_iff hne lev).1 hin
  rw [hd, show d + 2 - 1 = d + 1 by omega] at hin'
  refine ⟨d - 1, ?_, ?_⟩
  · rw [show d - 1 + 1 = d by omega]
    refine ⟨hW, fun x y k hn => ?_⟩
    cases hc : setPl S x y k with
    | false => rfl
    | true =>
      obtain ⟨c, hc1, rfl, rfl, hc4⟩ := setPl_true.1 hc
      have h1 := hin' c hc1
      have h2 := hS c hc1
      exact absurd ⟨h1.1, h1.2.1, h1.2.2.1, h1.2.2.2, by omega⟩ hn
  · rcases Nat.lt_or_ge 1 d with h1 | h1
    · have hno := hlow (d + 1) (by omega) (by omega)
      have hex : ¬ ∀ x ∈ S, -((2 ^ (d + 1 - 1) : Nat) : Int) ≤ x.a ∧ x.a < ((2 ^ (d + 1 - 1) : Nat) : Int) ∧ -((2 ^ (d + 1 - 1) : Nat) : Int) ≤ x.b ∧ x.b < ((2 ^ (d + 1 - 1) : Nat) : Int) := fun h => by
        rw [(boxB_iff hne (d + 1)).2 h] at hno; cases hno
      refine .inr (Classical.byContradiction fun hcon => hex fun x hx => Classical.byContradiction fun hbad => hcon ⟨x.a, x.b, x.h.toNat, ?_, ?_⟩)
      · rw [show d - 1 + 1 = d + 1 - 1 by omega]
        exact fun h => hbad ⟨h.1, h.2.1, h.2.2.1, h.2.2.2.1⟩
      · exact setPl_true.2 ⟨x, hx, rfl, rfl, by have := hS x hx; omega⟩
    · exact .inl (by omega)
end Go.Proofs.YtnkdbpjmepfblaaGreatDoor

/- Build: the walk. -/
namespace Go.Proofs.YtnkdbpjmepfblaaGreatDoor
open Go Go.RowKit

set_option maxRecDepth 100000 in
set_option maxHeartbeats 800000 in
theorem box_nil (w : World) (ad : Option Addr) (cap : Nat) : Calls Tryz.prog 42 #[.slice ad 0 cap] w fun e w' => e = .returned (.tuple #[.agg #[.int .i64 0, .int .i64 0, .int .i64 0, .int .i64 0], .bool false]) ∧ Fr w [] w' [] := by
  have hm := heap_new w (.cells #[.int .i64 0, .int .i64 0, .int .i64 0, .int .i64 0] 79)
  have HF := Lib.hid ((Fr.nil w).alloc (.cells #[.int .i64 0, .int .i64 0, .int .i64 0, .int .i64 0] 79))
  have y0 : (w.alloc (.cells #[.int .i64 0, .int .i64 0, .int .i64 0, .int .i64 0] 79)).cell? ⟨w.heap.size, 0, none⟩ = some (.int .i64 0) := by rw [cell_of_heap hm]; rfl
  have y1 : (w.alloc (.cells #[.int .i64 0, .int .i64 0, .int .i64 0, .int .i64 0] 79)).cell? ⟨w.heap.size, 1, none⟩ = some (.int .i64 0) := by rw [cell_of_heap hm]; rfl
  have y2 : (w.alloc (.cells #[.int .i64 0, .int .i64 0, .int .i64 0, .int .i64 0] 79)).cell? ⟨w.heap.size, 2, none⟩ = some (.int .i64 0) := by rw [cell_of_heap hm]; rfl
  have y3 : (w.alloc (.cells #[.int .i64 0, .int .i64 0, .int .i64 0, .int .i64 0] 79)).cell? ⟨w.heap.size, 3, none⟩ = some (.int .i64 0) := by rw [cell_of_heap hm]; rfl
  clear hm
  go_enter Tryz.func42, Tryz.ntmps42
  go_wp2_with fail
  exact bodyPost_ret (v := .tuple #[.agg #[.int .i64 0, .int .i64 0, .int .i64 0, .int .i64 0], .bool false]) (by simp [results, Tryz.results42, go_sem, y0, y1, y2, y3]) rfl ⟨rfl, HF.out⟩

/-- What a call of Build comes to. -/
def BuPost (A : Ar) (F : Fam) (C : Plane) (ab : Nat) (w : World) (o : List Nat) (e : Ending) (w' : World) : Prop :=
  ∃ (r : Except Nat Nat) (A' : Ar), e = .returned (encR r) ∧ (∃ o', AW w' ab A' o' ∧ Fr w o w' o') ∧ A'.wf ∧ A.step F A' ∧ (∀ c, r = .error c → c = 8 ∧ A.most ≤ A'.nodes.length) ∧ ∀ j, r = .ok j → ∃ g, A'.R (g + 1) j C ∧ Trimmed g C
theorem setPl_nil (x y : Int) (k : Nat) : setPl [] x y k = false := by unfold setPl; simp
set_option maxRecDepth 100000 in
set_option maxHeartbeats 800000 in
theorem tbuild_nil {w : World} {ab : Nat} {A : Ar} {o : List Nat} (h : AW w ab A o) (hwf : A.wf) (ad : Option Addr) (cap : Nat) {F : Fam} (hno : ∀ B : Ar, A.step F B → B.nodes.length < 4294967295) :
    Calls Tryz.prog 32 #[.pointer (some ⟨ab, 0, none⟩), .slice ad 0 cap] w (BuPost A F (setPl []) ab w o) := by
  have hg := Ar.goes_mt (F := F) hwf (lev := 3) (by omega) (by omega)
  have hj : ∃ r A', A.mt ((3 : Nat) : Int) = some (r, A') := by
    cases hx : A.mt ((3 : Nat) : Int) with
    | none =>
      obtain ⟨B, hB, hl⟩ := hg.no hx
      have := hno B hB
      omega
    | some p => exact ⟨p.1, p.2, rfl⟩
  obtain ⟨r, A', hj⟩ := hj
  have hpos : 0 < A.empty.length := by have := hwf.elo; omega
  have HG := Lib.hid hg
  have HJ := Lib.hid hj
  have HA := Lib.hid h
  have HBX := Lib.hid (box_nil w ad cap)
  have HWF := Lib.hid hwf
  clear hg hno h hj hwf
  go_enter Tryz.func32, Tryz.ntmps32
  go_wp2_with fail
  refine HBX.out.mono ?_
  rintro e w1 ⟨rfl, hf1⟩
  have HMT := Lib.hid (empty_w ((HA.out.ext hf1).alloc (.cells #[.int .i64 0, .int .i64 0, .int .i64 0, .int .i64 0] 79)) hpos 3 (by omega) (by omega) HJ.out)
  have hf2 := hf1.alloc (.cells #[.int .i64 0, .int .i64 0, .int .i64 0, .int .i64 0] 79)
  have HF2 := Lib.hid (show Fr w o (w1.alloc (.cells #[.int .i64 0, .int .i64 0, .int .i64 0, .int .i64 0] 79)) o from ⟨hf2.os, hf2.tape, hf2.output, hf2.size, fun b hb _ => hf2.keep b hb (by simp), fun b hb => .inl hb, fun b hb => Nat.lt_of_lt_of_le (HA.out.lt b hb) hf2.size⟩)
  clear hf1 hf2 HBX
  go_wp2_with fail
  refine HMT.out.mono ?_
  rintro e w2 ⟨rfl, o2, h1, h2⟩
  have H1 := Lib.hid h1
  have H2 := Lib.hid (HF2.out.trans h2)
  clear h1 h2 HMT
  have hpost : BuPost A F (setPl []) ab w o (.returned (encR r)) w2 := by
    refine ⟨r, A', rfl, ⟨o2, H1.out, H2.out⟩, ?_⟩
    cases r with
    | ok j =>
      obtain ⟨g1, g2, g3⟩ := HG.out.fine j A' HJ.out
      refine ⟨g2, g1, fun c hc => (by cases hc), fun k hk => ?_⟩
      injection hk with hk
      subst hk
      refine ⟨0, ⟨Ar.W.empty g2 g3.1 g3.2 fun _ _ _ _ _ _ => setPl_nil _ _ _, fun x y k _ => setPl_nil x y k⟩, .inl rfl⟩
    | error c =>
      obtain ⟨g1, g2, g3⟩ := HG.out.err c A' HJ.out
      exact ⟨g2, g1, fun c' hc => (by injection hc with hc; subst hc; exact g3), fun k hk => (by cases hk)⟩
  have HP := Lib.hid hpost
  clear hpost
  cases r <;> simp only [encR, okV, errV] at HP ⊢
  all_goals
    go_wp2_with fail
    go_ret2
    exact HP.out
end Go.Proofs.YtnkdbpjmepfblaaGreatDoor

/- Build of cells: the walk. -/
namespace Go.Proofs.YtnkdbpjmepfblaaGreatDoor
open Go Go.RowKit

theorem Fr.ownW {w w' : World} {o : List Nat} (h : Fr w [] w' []) (ho : ∀ b ∈ o, b < w.heap.size) : Fr w o w' o :=
  ⟨h.os, h.tape, h.output, h.size, fun b hb _ => h.keep b hb (by simp), fun b hb => .inl hb, fun b hb => Nat.lt_of_lt_of_le (ho b hb) h.size⟩
theorem stepW.fr {w W W' : World} {r : Nat} (h : stepW W W' r) (hf : Fr w [] W []) (hr : w.heap.size ≤ r) : Fr w [] W' [] :=
  ⟨h.1.trans hf.os, h.2.1.trans hf.tape, h.2.2.1.trans hf.output, by rw [h.2.2.2.1]; exact hf.size, fun b hb hn => by rw [h.2.2.2.2 b (by omega)]; exact hf.keep b hb hn, by simp, by simp⟩
theorem putL_len {κ : Type} [DecidableEq κ] (L : List (κ × Nat)) (x : κ) (v : Nat) : (putL L x v).length ≤ L.length + 1 := by
  unfold putL
  split <;> simp
theorem leaves_len : ∀ (S : List Ce) (L : List (Pk × Nat)), (S.foldl leafPut L).length ≤ L.length + S.length
  | [], L => by simp
  | c :: S, L => by
    have h1 := leaves_len S (leafPut L c)
    have h2 : (leafPut L c).length ≤ L.length + 1 := putL_len _ _ _
    simp only [List.foldl_cons, List.length_cons]
    omega
theorem leavesM_len (S : List Ce) : (leavesM S).length ≤ S.length := by
  have := leaves_len S []
  unfold leavesM
  simpa using this
theorem pkVal_inj {p q : Pk} (h : pkVal p = pkVal q) : p = q := by
  unfold pkVal at h
  simp only [Value.agg.injEq] at h
  have := congrArg Array.toList h
  simp at this
  exact Prod.ext this.1 this.2
/-- What Build ran: the level of the box, and the nodes of its leaves. -/
def BuRan (S : List Ce) (A : Ar) (r : Except Nat Nat) (A' : Ar) : Prop := ∃ (d : Nat) (done : List Pk), 1 ≤ d ∧ d + 2 ≤ 44 ∧ (∀ m, 3 ≤ m → m < d + 2 → boxB m (boxL S).la (boxL S).lb (boxL S).ha (boxL S).hb = false) ∧ boxB (d + 2) (boxL S).la (boxL S).lb (boxL S).ha (boxL S).hb = true ∧
  (∀ q, q ∈ done ↔ q ∈ (leavesM S).map Prod.fst) ∧ A.buildF (leavesM S) d (-((2 ^ (d + 1) : Nat) : Int)) (-((2 ^ (d + 1) : Nat) : Int)) done = some (r, A')
def BuPostR (S : List Ce) (A : Ar) (F : Fam) (C : Plane) (ab : Nat) (w : World) (o : List Nat) (e : Ending) (w' : World) : Prop :=
  ∃ (r : Except Nat Nat) (A' : Ar), BuRan S A r A' ∧ e = .returned (encR r) ∧ (∃ o', AW w' ab A' o' ∧ Fr w o w' o') ∧ A'.wf ∧ A.step F A' ∧ (∀ c, r = .error c → c = 8 ∧ A.most ≤ A'.nodes.length) ∧ ∀ j, r = .ok j → ∃ g, A'.R (g + 1) j C ∧ Trimmed g C
set_option maxRecDepth 100000 in
set_option maxHeartbeats 1600000 in
theorem tbuild_ran {w : World} {ab : Nat} {A : Ar} {o : List Nat} (h : AW w ab A o) (hwf : A.wf) {v : Value} {S : List Ce} (hsr : SR w v S) (hne : S ≠ []) (hlen : S.length ≤ 5864062014805)
    (hS : ∀ x ∈ S, 0 ≤ x.h ∧ x.h ≤ 1 ∧ -4398046511104 ≤ x.a ∧ x.a ≤ 4398046511104 ∧ -4398046511104 ≤ x.b ∧ x.b ≤ 4398046511104) {F : Fam} (hAl : Al F (setPl S)) (hno : ∀ B : Ar, A.step F B → B.nodes.length < 4294967295) :
    Calls Tryz.prog 32 #[.pointer (some ⟨ab, 0, none⟩), v] w (BuPostR S A F (setPl S) ab w o) := by
  have HBX := Lib.hid (box_c hsr (by omega) hne)
  obtain ⟨la, lb, ha, hb, hB⟩ : ∃ la lb ha hb, boxL S = ⟨la, lb, ha, hb⟩ := ⟨_, _, _, _, rfl⟩
  rw [hB] at HBX
  unfold Bx.val at HBX
  simp only at HBX
  have HB := Lib.hid hB
  have HS := Lib.hid hS
  have HSR := Lib.hid hsr
  have HA := Lib.hid h
  have HWF := Lib.hid hwf
  have HNE := Lib.hid hne
  have HLEN := Lib.hid hlen
  have HAL := Lib.hid hAl
  have HNO := Lib.hid hno
  have HTL := Lib.hid (tlevel_c la lb ha hb)
  obtain ⟨e144, hu144, hz144⟩ := und144
  have HU := Lib.hid hu144
  obtain ⟨i0, hi0, hz0, hz1, hz2⟩ := info_parts info65
  have HI0 := Lib.hid hi0
  have HI1 := Lib.hid hz0
  have HI2 := Lib.hid hz1
  have HI3 := Lib.hid hz2
  clear hsr hne hlen hS hAl hno h hwf hB hu144 hz144 hi0 hz0 hz1 hz2
  go_enter Tryz.func32, Tryz.ntmps32
  go_wp2_with fail
  refine HBX.out.mono ?_
  rintro e w1 ⟨rfl, hf1⟩
  have HF2 := Lib.hid (hf1.alloc (.cells #[.int .i64 la, .int .i64 lb, .int .i64 ha, .int .i64 hb] 79))
  have HN2 := Lib.hid (heap_new w1 (.cells #[.int .i64 la, .int .i64 lb, .int .i64 ha, .int .i64 hb] 79))
  have c0 : (w1.alloc (.cells #[.int .i64 la, .int .i64 lb, .int .i64 ha, .int .i64 hb] 79)).cell? ⟨w1.heap.size, 0, none⟩ = some (.int .i64 la) := by rw [cell_of_heap HN2.out]; rfl
  have c1 : (w1.alloc (.cells #[.int .i64 la, .int .i64 lb, .int .i64 ha, .int .i64 hb] 79)).cell? ⟨w1.heap.size, 1, none⟩ = some (.int .i64 lb) := by rw [cell_of_heap HN2.out]; rfl
  have c2 : (w1.alloc (.cells #[.int .i64 la, .int .i64 lb, .int .i64 ha, .int .i64 hb] 79)).cell? ⟨w1.heap.size, 2, none⟩ = some (.int .i64 ha) := by rw [cell_of_heap HN2.out]; rfl
  have c3 : (w1.alloc (.cells #[.int .i64 la, .int .i64 lb, .int .i64 ha, .int .i64 hb] 79)).cell? ⟨w1.heap.size, 3, none⟩ = some (.int .i64 hb) := by rw [cell_of_heap HN2.out]; rfl
  clear hf1 HBX
  go_wp2_with fail
  refine (HTL.out _).mono ?_
  rintro e w3 ⟨lev, rfl, h3, h44, hlow, hin, hf3⟩
  have hin' : boxB lev la lb ha hb = true := by
    rcases hin with rfl | h
    · have := (boxB_iff HNE.out 44).2 (fun x hx => by have := HS.out x hx; simp only [Nat.reduceSub, Nat.reducePow]; omega)
      rw [HB.out] at this
      exact this
    · exact h
  have hin1 : inB lev la lb = true ∧ inB lev ha hb = true := by unfold boxB at hin'; simpa using hin'
  have HIN := Lib.hid hin'
  have HLOW := Lib.hid hlow
  have hi1 := inside_c lev (by omega) h44 la lb
  have hi2 := inside_c lev (by omega) h44 ha hb
  rw [hin1.1] at hi1
  rw [hin1.2] at hi2
  have HC1 := Lib.hid hi1
  have HC2 := Lib.hid hi2
  have HF3 := Lib.hid (HF2.out.trans hf3)
  have hh3 : w3.heap[w1.heap.size]? = some (.cells #[.int .i64 la, .int .i64 lb, .int .i64 ha, .int .i64 hb] 79) := by rw [hf3.keep _ (heap_lt HN2.out) (by simp)]; exact HN2.out
  have HH3 := Lib.hid hh3
  have d0 : w3.cell? ⟨w1.heap.size, 0, none⟩ = some (.int .i64 la) := by rw [cell_of_heap hh3]; rfl
  have d1 : w3.cell? ⟨w1.heap.size, 1, none⟩ = some (.int .i64 lb) := by rw [cell_of_heap hh3]; rfl
  clear hin hin' hin1 hlow hi1 hi2 hf3 hh3 c0 c1 c2 c3 HN2 HF2 HTL
  go_wp2_with fail
  refine (HC1.out _).mono ?_
  rintro e w4 ⟨rfl, hf4⟩
  have HF4 := Lib.hid (HF3.out.trans hf4)
  have hh4 : w4.heap[w1.heap.size]? = some (.cells #[.int .i64 la, .int .i64 lb, .int .i64 ha, .int .i64 hb] 79) := by rw [hf4.keep _ (heap_lt HH3.out) (by simp)]; exact HH3.out
  have d2 : w4.cell? ⟨w1.heap.size, 2, none⟩ = some (.int .i64 ha) := by rw [cell_of_heap hh4]; rfl
  have d3 : w4.cell? ⟨w1.heap.size, 3, none⟩ = some (.int .i64 hb) := by rw [cell_of_heap hh4]; rfl
  clear d0 d1 hf4 hh4 HH3 HF3
  go_wp2_with fail
  refine (HC2.out _).mono ?_
  rintro e w5 ⟨rfl, hf5⟩
  have HF5 := Lib.hid (HF4.out.trans hf5)
  have HLV := Lib.hid (leaves_c (HSR.out.ext HF5.out) (by have := HLEN.out; omega) (fun x hx => by have := HS.out x hx; omega))
  clear d2 d3 hf5 HF4
  go_wp2_with fail
  refine HLV.out.mono ?_
  rintro e w6 ⟨rfl, hmp, hf6⟩
  obtain ⟨bm, hbm⟩ : ∃ bm, bm = w5.heap.size := ⟨_, rfl⟩
  rw [← hbm] at hmp ⊢
  have HMP := Lib.hid hmp
  have HF6 := Lib.hid (HF5.out.trans hf6)
  have HBM := Lib.hid (show w.heap.size ≤ bm by rw [hbm]; exact HF5.out.size)
  clear hmp hf6 HLV hbm
  go_wp2_with (first | (at_range; refine wpList_rangeL _ rfl _ _ rfl 65 e144 HU.out bm (leavesM S) rfl HMP.out ?_; intro ob hrg) | fail)
  obtain ⟨rb, hrb⟩ : ∃ rb, rb = w6.heap.size := ⟨_, rfl⟩
  rw [← hrb] at hrg ⊢
  have HBR := Lib.hid (show bm < rb ∧ w.heap.size ≤ rb from ⟨by rw [hrb]; exact HMP.out.lt, by rw [hrb]; exact HF6.out.size⟩)
  have HF7 := Lib.hid (HF6.out.alloc ob)
  have HR := Lib.hid hrg
  have HLL := Lib.hid (leavesM_len S)
  clear hrg hrb
  go_frame
  go_loopw [10] (fun v wr => ∃ (done : List Pk) (cnt : Nat) (s : Option Pk), RngL wr pkVal bm rb (leavesM S) done cnt s ∧ PtRow wr v done ∧ (∀ b, v.ownBlock = some b → rb < b) ∧ Fr w [] wr [] ∧ done.length + cnt ≤ (leavesM S).length) (fun _ wr => iterLeft wr bm rb)
  case atStart => exact ⟨[], _, none, HR.out, PtRow.nil _, fun b hb => (by cases hb), HF7.out, by simp⟩
  case round =>
    clear HR HF7
    obtain ⟨done, cnt, s, hr, hrow, hvb, hF, hdc⟩ := hrel
    obtain ⟨W0, rfl⟩ : ∃ W0, W0 = wr := ⟨_, rfl⟩
    have HR := Lib.hid hr
    have HROW := Lib.hid hrow
    have HVB := Lib.hid hvb
    have HF := Lib.hid hF
    have HDC := Lib.hid hdc
    clear hr hrow hvb hF hdc
    go_wp2_with (first | (at_next; refine wpList_nextL _ rfl _ rfl bm rb cnt (leavesM S) done s rfl HR.out ?_ ?_) | fail)
    · intro hall
      have hmem : ∀ q, q ∈ done ↔ q ∈ (leavesM S).map Prod.fst := fun q => ⟨HR.out.sub q, fun hq => by
        obtain ⟨q', h1, h2⟩ := (hall.out : allSeen pkVal (leavesM S) done) q hq
        rw [pkVal_inj h2]; exact h1⟩
      have HMEM := Lib.hid hmem
      clear hall hmem
      obtain ⟨d, hd⟩ : ∃ d, lev = d + 2 := ⟨lev - 2, by omega⟩
      have hd1 : 1 ≤ d := by omega
      have hcs := (boxB_iff HNE.out lev).1 (by rw [HB.out]; exact HIN.out)
      rw [hd, show d + 2 - 1 = d + 1 by omega] at hcs
      have e2 := pw2 d
      have e4 : 2 ^ (d + 1) = 4 * 2 ^ (d - 1) := by rw [show d + 1 = (d - 1) + 2 by omega, Nat.pow_add]; omega
      have e43 : 2 ^ (d + 1) ≤ 2 ^ 43 := Nat.pow_le_pow_right (by decide) (by omega)
      have hh : ∀ x ∈ S, 0 ≤ x.h ∧ x.h ≤ 1 := fun x hx => by have := HS.out x hx; omega
      have hL : ∀ p ∈ leavesM S, p.2 < 4294967296 := leavesM_lt S hh [] (by simp)
      have hks := keysIn_set (S := S) (d := d) (ps := done) HMEM.out hd1 hcs
      have hla4 : (-((2 ^ (d + 1) : Nat) : Int)) % 4 = 0 := by rw [e4]; omega
      have hpl := planeOf_set hh
      have hg := Ar.goes_build hL (F := F) (by rw [hpl]; exact HAL.out) d HWF.out (by omega) hla4 hla4 (dvd_neg_pw (Nat.le_refl _)) (dvd_neg_pw (Nat.le_refl _)) hks
      have hjx : ∃ r A', A.buildF (leavesM S) d (-((2 ^ (d + 1) : Nat) : Int)) (-((2 ^ (d + 1) : Nat) : Int)) done = some (r, A') := by
        cases hx : A.buildF (leavesM S) d (-((2 ^ (d + 1) : Nat) : Int)) (-((2 ^ (d + 1) : Nat) : Int)) done with
        | none =>
          obtain ⟨B, hB', hl'⟩ := hg.no hx
          have := HNO.out B hB'
          omega
        | some p => exact ⟨p.1, p.2, rfl⟩
      obtain ⟨r, A', hj⟩ := hjx
      have hran : BuRan S A r A' := ⟨d, done, hd1, by omega, by rw [HB.out, ← hd]; exact HLOW.out, by rw [HB.out, ← hd]; exact HIN.out, HMEM.out, hj⟩
      have hdl : done.length ≤ 5864062014805 := by
        have h1 := HDC.out
        have h2 := HLL.out
        have h3 := HLEN.out
        omega
      have hcall : ∀ w8, Fr W0 [] w8 [] → Calls Tryz.prog 94 #[.pointer (some ⟨ab, 0, none⟩), .int .i64 (lev : Int), .agg #[.int .i64 (-((2 ^ (d + 1) : Nat) : Int)), .int .i64 (-((2 ^ (d + 1) : Nat) : Int))], u10, .map (some bm)] w8 fun e w' => e = .returned (encR r) ∧ ∃ o', AW w' ab A' o' ∧ Fr w8 o w' o' := by
        intro w8 hf8
        rw [hd]
        refine build_w hL d (by omega) w8 ab A o _ _ done u10 bm ⟨HA.out.ext (HF.out.trans hf8), HWF.out, HR.out.map.same (hf8.keep _ HR.out.lt.1 (by simp)), fun hm => ?_, HROW.out.fr (by simp) hf8, fun b hb hm => ?_, hla4, hla4, dvd_neg_pw (Nat.le_refl _), dvd_neg_pw (Nat.le_refl _), ?_, ?_, ?_, ?_, hks, hdl⟩ r A' hj
        · have h1 := HA.out.lt _ hm
          have h2 := HBM.out
          omega
        · have h1 := HA.out.lt _ hm
          have h2 := HVB.out b hb
          have h3 := HBR.out
          omega
        · omega
        · rw [e2]; omega
        · omega
        · rw [e2]; omega
      have hpost : ∀ w8 w9, Fr W0 [] w8 [] → (∃ o', AW w9 ab A' o' ∧ Fr w8 o w9 o') → BuPostR S A F (setPl S) ab w o (.returned (encR r)) w9 := by
        rintro w8 w9 hf8 ⟨o', h1, h2⟩
        refine ⟨r, A', hran, rfl, ⟨o', h1, ((HF.out.trans hf8).ownW HA.out.lt).trans h2⟩, ?_⟩
        cases r with
        | ok j =>
          obtain ⟨g1, g2, g3⟩ := hg.fine j A' hj
          rw [hpl] at g3
          refine ⟨g2, g1, fun c hc => (by cases hc), fun k hk => ?_⟩
          injection hk with hk
          subst hk
          exact build_root hh HNE.out h3 (by rw [HB.out]; exact HLOW.out) (by rw [HB.out]; exact HIN.out) hd g3
        | error c =>
          obtain ⟨g1, g2, g3⟩ := hg.err c A' hj
          exact ⟨g2, g1, fun c' hc => (by injection hc with hc; subst hc; exact g3), fun k hk => (by cases hk)⟩
      have HCALL := Lib.hid hcall
      have HPOST := Lib.hid hpost
      have hor := origin_c lev (by omega) h44
      rw [hd, show d + 2 - 1 = d + 1 by omega, ← hd] at hor
      obtain ⟨z, hz⟩ : ∃ z : Int, z = -((2 ^ (d + 1) : Nat) : Int) := ⟨_, rfl⟩
      rw [← hz] at hor HCALL
      have HOR := Lib.hid hor
      clear hcs e2 e4 e43 hh hL hks hla4 hpl hg hj hdl hcall hpost hor hz hd hd1 HMEM hran
      go_wp2_with fail
      refine (HOR.out _).mono ?_
      rintro e w8 ⟨rfl, hf8⟩
      have HF8 := Lib.hid hf8
      clear hf8
      go_wp2_with fail
      refine (HCALL.out w8 HF8.out).mono ?_
      rintro e w9 ⟨rfl, h9⟩
      have HP := Lib.hid (HPOST.out w8 w9 HF8.out h9)
      clear h9 HPOST HCALL
      cases r <;> simp only [encR, okV, errV] at HP ⊢
      all_goals
        go_wp2_with fail
        go_ret2
        exact HP.out
    · intro p1 p2 x w' cnt' hmore
      obtain ⟨hst, hr2, hlt⟩ := hmore.out
      obtain ⟨x', hen⟩ := hr2.entry (P := Tryz.prog)
      unfold pkVal at hen
      have hw1 := hst.fr HF.out HBR.out.2
      have hb1 : ∀ b, b < rb → w'.heap[b]? = W0.heap[b]? := fun b hb => hst.2.2.2.2 b (by omega)
      have hrow2 : PtRow w' u10 done := HROW.out.same (fun b hb => hst.2.2.2.2 b (by have := HVB.out b hb; omega))
      have hfa := ((Fr.nil w').alloc (.cells #[.int .i64 p1, .int .i64 p2] 65)).alloc (.cells #[.int .i64 p1, .int .i64 p2] 65)
      have HROW2 := Lib.hid (show PtRow ((w'.alloc (.cells #[.int .i64 p1, .int .i64 p2] 65)).alloc (.cells #[.int .i64 p1, .int .i64 p2] 65)) u10 done from hrow2.fr (by simp) hfa)
      have HFA := Lib.hid hfa
      have HW1 := Lib.hid hw1
      have HR2 := Lib.hid hr2
      have HLT := Lib.hid hlt
      have HNW := Lib.hid (heap_new (w'.alloc (.cells #[.int .i64 p1, .int .i64 p2] 65)) (.cells #[.int .i64 p1, .int .i64 p2] 65))
      have hdl : done.length + 1 ≤ 5864062014806 := by
        have h1 := HDC.out
        have h2 := HLL.out
        have h3 := HLEN.out
        omega
      have e0 : (w'.alloc (.cells #[.int .i64 p1, .int .i64 p2] 65)).cell? ⟨w'.heap.size, 0, none⟩ = some (.int .i64 p1) := by rw [cell_of_heap (heap_new _ _)]; rfl
      have e1 : (w'.alloc (.cells #[.int .i64 p1, .int .i64 p2] 65)).cell? ⟨w'.heap.size, 1, none⟩ = some (.int .i64 p2) := by rw [cell_of_heap (heap_new _ _)]; rfl
      clear hmore hw1 hrow2 hfa hr2 hlt hb1 hst
      go_wp2_with (at_builtin; refine wpList_append_where _ rfl (.tmp 46) (.tmp 48) 146 rfl 65 i0 _ 2 16 Tryz.underlying146 HI0.out HI1.out HI2.out HI3.out rfl (by decide) u10 _ _ rfl HROW2.out ⟨w'.heap.size + 1, 0, none⟩ 1 1 [.int .i64 p1, .int .i64 p2] rfl rfl ?c2 ?c1 (by decide) ?c3 ?c4 ?_)
      case c1 => exact ⟨rfl, rfl⟩
      case c3 => unfold maxLen; omega
      case c4 => omega
      intro g' cap' w5 hown' hgr hwh hglt
      have hrow5 : PtRow w5 (.slice (some ⟨g', 0, none⟩) (done.length + 1) cap') (done ++ [(p1, p2)]) := by
        unfold PtRow
        rw [List.length_append, pkflat_append]
        exact hown'
      have hrl := HR2.out.lt
      have hne : ∀ b, b ≤ rb → some b ≠ u10.ownBlock := fun b hb e => by have := HVB.out b e.symm; omega
      have hkeep : ∀ b, b ≤ rb → b < w'.heap.size → w5.heap[b]? = w'.heap[b]? := fun b hb hl => by
        rw [hgr.block b (by simp; omega) (hne b hb)]
        exact HFA.out.keep b hl (by simp)
      have HR5 := Lib.hid (HR2.out.same (w' := w5) (hkeep _ (by have := HBR.out; omega) hrl.1) (hkeep _ (Nat.le_refl _) hrl.2))
      have HROW5 := Lib.hid hrow5
      have HF5 := Lib.hid ((HW1.out.trans HFA.out).grown' hgr (fun k hk => by have h1 := HVB.out k hk; have h2 := HBR.out; omega))
      have HV5 := Lib.hid (show ∀ b, (Value.slice (some ⟨g', 0, none⟩) (done.length + 1) cap').ownBlock = some b → rb < b from fun b hb => by
        have hb' : b = g' := by simpa [Value.ownBlock] using hb.symm
        subst hb'
        rcases hwh with h1 | h1
        · exact HVB.out _ h1
        · (try simp at h1); have := hrl.2; omega)
      clear hown' hgr hwh hglt hrow5 hkeep hne hrl
      go_wp2_with fail
      refine ⟨⟨done ++ [(p1, p2)], cnt', _, HR5.out, HROW5.out, HV5.out, HF5.out, ?_⟩, ?_⟩
      · have h1 := HDC.out
        have h2 := HLT.out
        rw [List.length_append]
        show done.length + 1 + cnt' ≤ _
        omega
      · rw [HR5.out.left, HR.out.left]; exact HLT.out
theorem tbuild_ne {w : World} {ab : Nat} {A : Ar} {o : List Nat} (h : AW w ab A o) (hwf : A.wf) {v : Value} {S : List Ce} (hsr : SR w v S) (hne : S ≠ []) (hlen : S.length ≤ 5864062014805)
    (hS : ∀ x ∈ S, 0 ≤ x.h ∧ x.h ≤ 1 ∧ -4398046511104 ≤ x.a ∧ x.a ≤ 4398046511104 ∧ -4398046511104 ≤ x.b ∧ x.b ≤ 4398046511104) {F : Fam} (hAl : Al F (setPl S)) (hno : ∀ B : Ar, A.step F B → B.nodes.length < 4294967295) :
    Calls Tryz.prog 32 #[.pointer (some ⟨ab, 0, none⟩), v] w (BuPost A F (setPl S) ab w o) :=
  (tbuild_ran h hwf hsr hne hlen hS hAl hno).mono fun _ _ ⟨r, A', _, h⟩ => ⟨r, A', h⟩
end Go.Proofs.YtnkdbpjmepfblaaGreatDoor

/- Build: of whatever set. -/
namespace Go.Proofs.YtnkdbpjmepfblaaGreatDoor
open Go Go.RowKit

theorem tbuild_c {w : World} {ab : Nat} {A : Ar} {o : List Nat} (h : AW w ab A o) (hwf : A.wf) {v : Value} {S : List Ce} (hsr : SR w v S) (hlen : S.length ≤ 5864062014805)
    (hS : ∀ x ∈ S, 0 ≤ x.h ∧ x.h ≤ 1 ∧ -4398046511104 ≤ x.a ∧ x.a ≤ 4398046511104 ∧ -4398046511104 ≤ x.b ∧ x.b ≤ 4398046511104) {F : Fam} (hAl : Al F (setPl S)) (hno : ∀ B : Ar, A.step F B → B.nodes.length < 4294967295) :
    Calls Tryz.prog 32 #[.pointer (some ⟨ab, 0, none⟩), v] w (BuPost A F (setPl S) ab w o) := by
  by_cases hne : S = []
  · subst hne
    obtain ⟨ad, cap, rfl⟩ : ∃ ad cap, v = .slice ad 0 cap := by
      rcases hsr with ⟨rfl, _⟩ | ⟨g, o', cap, rfl, _⟩
      · exact ⟨none, 0, rfl⟩
      · exact ⟨_, cap, rfl⟩
    exact tbuild_nil h hwf ad cap hno
  · exact tbuild_ne h hwf hsr hne hlen hS hAl hno
end Go.Proofs.YtnkdbpjmepfblaaGreatDoor

/- A life with room enough: Jump, Build, Expand without errors. -/
namespace Go.Proofs.YtnkdbpjmepfblaaGreatDoor
open Go Go.RowKit

/-- There is room for all windows of the family. -/
structure Room (F : Fam) (M : Nat) : Prop where
  n : ∃ n, Fam.few F n ∧ n + 46 < M ∧ n + 46 < 4294967295
theorem Room.lt {F : Fam} {M : Nat} (h : Room F M) {B : Ar} (hB : (Ar.new M).step F B) : B.nodes.length < M ∧ B.nodes.length < 4294967295 := by
  obtain ⟨n, h1, h2, h3⟩ := h.n
  have := hB.count h1
  have h1 : (Ar.new M).nodes.length = 1 := rfl
  omega
structure GS (w : World) (I : LI) (N : Kn) (F : Fam) (M : Nat) (S : Lf) (oA : List Nat) : Prop where
  lw : LW w I N S oA
  vd : S.valid N
  st : (Ar.new M).step F S.A
theorem GS.most {w : World} {I : LI} {N : Kn} {F : Fam} {M : Nat} {S : Lf} {oA : List Nat} (h : GS w I N F M S oA) : S.A.most = M := by rw [h.st.le.most]; rfl
theorem GS.no {w : World} {I : LI} {N : Kn} {F : Fam} {M : Nat} {S : Lf} {oA : List Nat} (h : GS w I N F M S oA) (hr : Room F M) : ∀ B : Ar, S.A.step F B → B.nodes.length < 4294967295 := fun _B hB => (hr.lt (h.st.trans hB)).2
theorem GS.ext {w w' : World} {I : LI} {N : Kn} {F : Fam} {M : Nat} {S : Lf} {oA : List Nat} (h : GS w I N F M S oA) (hf : Fr w [] w' []) : GS w' I N F M S oA := by
  obtain ⟨h1, h2⟩ := h.lw.arena' (h.lw.arena.ext hf) (hf.ownW h.lw.arena.lt)
  exact ⟨h1, h.vd, h.st⟩
/-- What a set becomes: its box, and the family of its windows. -/
structure Ctx (N : Kn) (F : Fam) (C : Plane) (xa ya : Int) (s T : Nat) : Prop where
  box : inBox C xa ya s
  sm : s + 2 * T ≤ 100000000
  far : -2199023255552 ≤ xa - T ∧ xa + s + T ≤ 2199023255552 ∧ -2199023255552 ≤ ya - T ∧ ya + s + T ≤ 2199023255552
  al : ∀ t, t ≤ T → Al F (N.evo t C)
/-- A root of least level. -/
def Root (A : Ar) (i : Nat) (C : Plane) : Prop := ∃ g, A.R (g + 1) i C ∧ Trimmed g C
theorem Root.eq {A : Ar} (hA : A.wf) {i j : Nat} {C : Plane} (h : Root A i C) (k : Root A j C) : i = j := by
  obtain ⟨g, h1, h2⟩ := h
  obtain ⟨g', k1, k2⟩ := k
  have e := Trimmed.uniq h1 k1 h2 k2
  subst e
  exact h1.inj hA k1
theorem Root.le {A B : Ar} (hle : A.le B) (hA : A.wf) {i : Nat} {C : Plane} (h : Root A i C) : Root B i C := by
  obtain ⟨g, h1, h2⟩ := h
  exact ⟨g, h1.le hle hA, h2⟩
theorem Root.lt {A : Ar} (hA : A.wf) {i : Nat} {C : Plane} (h : Root A i C) : i < 4294967296 := by
  obtain ⟨g, h1, _⟩ := h
  have h2 : i < A.nodes.length := Ar.level_lt (by rw [h1.w.lv]; omega)
  have := hA.len
  omega
/-- What a call comes to: a root. -/
def GPost (w : World) (I : LI) (N : Kn) (F : Fam) (M : Nat) (S : Lf) (oA : List Nat) (C : Plane) (e : Ending) (w' : World) : Prop :=
  ∃ (j : Nat) (S' : Lf) (oA' : List Nat), e = .returned (okV j) ∧ GS w' I N F M S' oA' ∧ Root S'.A j C ∧ S.A.le S'.A ∧ Fr w (I.own oA) w' (I.own oA')
theorem GS.jump {N : Kn} (hN : N.good) {w : World} {I : LI} {F : Fam} {M : Nat} {S : Lf} {oA : List Nat} (h : GS w I N F M S oA) (hr : Room F M) {C : Plane} {xa ya : Int} {s T : Nat} (hc : Ctx N F C xa ya s T) {t n f i : Nat} (ht : n + t ≤ T) (hn : n ≤ 1048576) (hR : S.A.R (f + 1) i (N.evo t C)) :
    Calls Tryz.prog 22 #[.pointer (some ⟨I.lb, 0, none⟩), .int .u32 i, .int .i64 n] w (GPost w I N F M S oA (N.evo (n + t) C)) := by
  have hsm := hc.sm
  have hf := hc.far
  refine (jump_c hN h.lw h.vd (F := F) hn hR (hc.box.evo hN t) (by omega) (by omega) (fun k hk => by rw [← Kn.evo_add]; exact hc.al _ (by omega)) (h.no hr)).mono ?_
  rintro e w' ⟨r, S', rfl, ⟨oA', h1, h2⟩, h3, h4, h5, h6⟩
  have hst := h.st.trans h4
  cases r with
  | error c =>
    have h7 := (h5 c rfl).2
    rw [h.most] at h7
    have := (hr.lt hst).1
    omega
  | ok j =>
    rw [← Kn.evo_add] at h6
    exact ⟨j, S', oA', rfl, ⟨h1, h3, hst⟩, h6 j rfl, h4.le, h2⟩
theorem GS.build {N : Kn} {w : World} {I : LI} {F : Fam} {M : Nat} {S : Lf} {oA : List Nat} (h : GS w I N F M S oA) (hr : Room F M) {v : Value} {L : List Ce} (hsr : SR w v L) (hlen : L.length ≤ 5864062014805)
    (hS : ∀ x ∈ L, 0 ≤ x.h ∧ x.h ≤ 1 ∧ -4398046511104 ≤ x.a ∧ x.a ≤ 4398046511104 ∧ -4398046511104 ≤ x.b ∧ x.b ≤ 4398046511104) (hAl : Al F (setPl L)) :
    Calls Tryz.prog 32 #[.pointer (some ⟨I.ab, 0, none⟩), v] w (GPost w I N F M S oA (setPl L)) := by
  refine (tbuild_c h.lw.arena h.vd.wf hsr hlen hS hAl (h.no hr)).mono ?_
  rintro e w' ⟨r, A', rfl, ⟨oA', h1, h2⟩, h3, h4, h5, h6⟩
  obtain ⟨k1, k2⟩ := h.lw.arena' h1 h2
  have hst := h.st.trans h4
  cases r with
  | error c =>
    have h7 := (h5 c rfl).2
    rw [h.most] at h7
    have := (hr.lt hst).1
    omega
  | ok j => exact ⟨j, ⟨A', S.L⟩, oA', rfl, ⟨k1, ⟨h3, fun p hp => (h.vd.ok p hp).le h4.le h.vd.wf⟩, hst⟩, h6 j rfl, h4.le, k2⟩
/-- Expand: a root, not of least level. -/
theorem GS.expand {N : Kn} {w : World} {I : LI} {F : Fam} {M : Nat} {S : Lf} {oA : List Nat} (h : GS w I N F M S oA) (hr : Room F M) {C : Plane} (hAl : Al F C) {d i : Nat} (hd : d + 4 ≤ 44) (hR : S.A.R (d + 1) i C) :
    Calls Tryz.prog 82 #[.pointer (some ⟨I.ab, 0, none⟩), .int .u32 i] w fun e w' =>
      ∃ (j : Nat) (S' : Lf) (oA' : List Nat), e = .returned (okV j) ∧ GS w' I N F M S' oA' ∧ S'.A.R (d + 2) j C ∧ S.A.le S'.A ∧ Fr w (I.own oA) w' (I.own oA') := by
  have hg := Ar.goes_expand h.vd.wf hAl hd hR
  have hpos : 0 < S.A.empty.length := by have := h.vd.wf.elo; omega
  have hi : i < 4294967296 := by
    have h2 : i < S.A.nodes.length := Ar.level_lt (by rw [hR.w.lv]; omega)
    have := h.vd.wf.len
    omega
  cases hx : S.A.expand i with
  | none =>
    obtain ⟨B, hB, hl⟩ := hg.no hx
    have := h.no hr B hB
    omega
  | some p =>
    obtain ⟨r, A'⟩ := p
    refine (expand_w h.lw.arena hpos i hi (by rw [hR.w.lv]; omega) hx).mono ?_
    rintro e w' ⟨rfl, oA', h1, h2⟩
    obtain ⟨k1, k2⟩ := h.lw.arena' h1 h2
    cases r with
    | error c =>
      obtain ⟨h4, _, h5, h7⟩ := hg.err c A' hx
      have h7' : S.A.most ≤ A'.nodes.length := h7
      rw [h.most] at h7'
      have h8 := (hr.lt (h.st.trans h4)).1
      have h9 : (id A' : Ar).nodes.length = A'.nodes.length := rfl
      omega
    | ok j =>
      obtain ⟨h4, h5, h6⟩ := hg.fine j A' hx
      have h4' : S.A.step F A' := h4
      exact ⟨j, ⟨A', S.L⟩, oA', rfl, ⟨k1, ⟨h5, fun p hp => (h.vd.ok p hp).le h4'.le h.vd.wf⟩, h.st.trans h4'⟩, h6, h4'.le, k2⟩
theorem GS.new {T : Tb} (hT : T.fit) {w : World} (hw : SixW w) (F : Fam) (M : Nat) (h1 : 64 ≤ M) (h2 : M < 9223372036854775808) :
    Calls Tryz.prog 35 #[T.val, .int .i64 (M : Nat)] w fun e w' => ∃ (I : LI) (o : List Nat), e = .returned (.tuple #[.pointer (some ⟨I.lb, 0, none⟩), .bool true]) ∧
      GS w' I (knOf T) F M ⟨Ar.new M, []⟩ o ∧ (∀ b ∈ I.own o, w.heap.size ≤ b) ∧ Fr w [] w' [] := by
  refine (make_c hT hw (M : Nat) (by omega) (by omega)).mono ?_
  rintro e w' ⟨I, o, rfl, h3, h4, h5⟩
  rw [show (max ((M : Nat) : Int) 64).toNat = M by omega] at h3
  exact ⟨I, o, rfl, ⟨h3, ⟨Ar.new_wf M, fun p hp => by cases hp⟩, .refl (Ar.new_wf M) F⟩, h4, h5⟩
end Go.Proofs.YtnkdbpjmepfblaaGreatDoor

/- What the document fixes: one cell, awake. -/
namespace Go.Proofs.YtnkdbpjmepfblaaGreatDoor
open Go Go.RowKit

theorem Fr.dropAll {w w1 w2 : World} {o o2 : List Nat} (h : Fr w [] w1 []) (k : Fr w1 o w2 o2) (ho : ∀ b ∈ o, w.heap.size ≤ b) : Fr w [] w2 [] :=
  ⟨k.os.trans h.os, k.tape.trans h.tape, k.output.trans h.output, Nat.le_trans h.size k.size, fun b hb _ => by
    rw [k.keep b (Nat.lt_of_lt_of_le hb h.size) (fun hm => by have := ho b hm; omega)]; exact h.keep b hb (by simp), by simp, by simp⟩
/-- Worlds in which the life's box stands. -/
structure DX (I : LI) where
  x : World
  h : x.heap[I.lb]? = some I.box
theorem DX.c (I : LI) (z : DX I) : z.x.cell? ⟨I.lb, 0, none⟩ = some (.pointer (some ⟨I.ab, 0, none⟩)) := by rw [cell_of_heap z.h]; rfl
theorem set_one : setL one1 = one1 := (setL_eq [⟨0, 0, 0⟩] (by decide +kernel) (by decide +kernel)).trans (by decide +kernel)
theorem room_one : Room (famN (knOf tb1) (setPl one1) 3) 10000 := ⟨⟨4640, by have := famN_few (knOf_good tb1_fit) one_box 3; rwa [wnT_1_3] at this, by omega, by omega⟩⟩
theorem ctx_one : Ctx (knOf tb1) (famN (knOf tb1) (setPl one1) 3) (setPl one1) 0 0 1 3 := ⟨one_box, by omega, by omega, fun t ht => Al_famN _ _ ht⟩

set_option maxRecDepth 100000 in
set_option maxHeartbeats 1600000 in
theorem awake_c {w : World} (hw : SixW w) : Calls Tryz.prog 19 #[] w fun e w' => e = .returned (.bool true) ∧ Fr w [] w' [] := by
  have hmk : Calls Tryz.prog 35 #[.agg #[.int .i64 1, .int .u64 0, .int .u64 0, .int .u64 1, .int .u64 0], .int .i64 10000] w _ := GS.new tb1_fit hw (famN (knOf tb1) (setPl one1) 3) 10000 (by omega) (by omega)
  have HMK := Lib.hid hmk
  clear hmk hw
  go_enter Tryz.func19, Tryz.ntmps19
  go_wp2_with fail
  refine HMK.out.mono ?_
  rintro e w1 ⟨I, o1, rfl, h1, ho, hf1⟩
  have H1 := Lib.hid h1
  have HO := Lib.hid ho
  have HF1 := Lib.hid hf1
  have hlb := h1.lw.hl
  have z0 := DX.c I
  have hne : Nonempty (DX I) := ⟨⟨w1, hlb⟩⟩
  have HLB := Lib.hid hlb
  clear h1 ho hf1 HMK hlb
  go_wp2_with fail
  refine wp_region_two 1 12 5 [5, 6, 7] [1, 2, 3, 4, 5, 6, 7, 8, 9, 10, 11] (by kernel_rfl) (by kernel_rfl) (fun _ _ d _ _ h => by cases d <;> exact h) (fun w' => ∃ z : DX I, w' = z.x) (fun w' => ∃ z : DX I, w' = z.x) ⟨⟨w1.drew, HLB.out⟩, rfl⟩ ⟨⟨w1.drew, HLB.out⟩, rfl⟩ ?_
  simp only [List.take_succ_cons, List.take_zero, List.drop_succ_cons, List.drop_zero, moved, pickO, List.getElem?_cons_succ, List.getElem?_cons_zero]
  iterate 3 (refine wpStillT_late (by decide) (by kernel_rfl) (fun K hK => ?_); go_simp; (try simp only [z0]); (try go_simp); refine hK _ ?_; clear hK K)
  refine wpStillT_step (by decide) (by kernel_rfl) (fun K hK => ?_); go_simp; refine hK _ ?_; clear hK K
  refine wpStillT_forced (by decide) (fun _ => ⟨⟨w1.drew, HLB.out⟩, rfl⟩) ⟨⟨w1.drew, HLB.out⟩, rfl⟩ ?_
  go_wp2_with fail
  obtain ⟨w2, hw2⟩ : ∃ w2, w2 = (w1.alloc (.cells #[.int .i64 0, .int .i64 0, .int .i64 0] 89)).drew := ⟨_, rfl⟩
  have hf2 : Fr w1 [] w2 [] := by rw [hw2]; exact ((Fr.nil w1).alloc _).drew
  have hsr2 : SR w2 (.slice (some ⟨w1.heap.size, 0, none⟩) 1 1) one1 := by
    refine .inr ⟨w1.heap.size, 0, 1, rfl, fun t u ht => ?_⟩
    have hh : w2.heap[w1.heap.size]? = some (.cells #[.int .i64 0, .int .i64 0, .int .i64 0] 89) := by rw [hw2]; exact heap_new _ _
    rw [cell_of_heap hh]
    have hc : t = 0 ∨ t = 1 ∨ t = 2 := by have := (List.getElem?_eq_some_iff.1 ht).1; simp [one1, cflat, Ce.cells] at this; omega
    rcases hc with rfl | rfl | rfl <;> exact ht
  have HF2 := Lib.hid hf2
  have HOF := Lib.hid (of_c hsr2 (by simp [one1]))
  have HG2 := Lib.hid (H1.out.ext hf2)
  rw [← hw2]
  clear hf2 hsr2 hw2
  refine ⟨⟨⟨w2, HG2.out.lw.hl⟩, rfl⟩, ?_⟩
  refine wpStillT_forced (by decide) (fun h => absurd h (by decide)) ⟨⟨w2, HG2.out.lw.hl⟩, rfl⟩ ?_
  go_wp2_with fail
  refine HOF.out.mono ?_
  rintro e w3 ⟨v', rfl, hsr3, hf3⟩
  rw [set_one] at hsr3
  have HG3 := Lib.hid (HG2.out.ext hf3)
  have HF3 := Lib.hid (HF2.out.trans hf3)
  have HBU := Lib.hid (HG3.out.build room_one hsr3 (by simp [one1]) (fun x hx => by simp [one1] at hx; subst hx; decide) (ctx_one.al 0 (by omega)))
  clear hsr3 hf3 HOF HF2
  go_wp2_with fail
  refine ⟨⟨⟨w3, HG3.out.lw.hl⟩, rfl⟩, ?_⟩
  refine wpStillT_forced (by decide) (fun h => absurd h (by decide)) ⟨⟨w3, HG3.out.lw.hl⟩, rfl⟩ ?_
  go_wp2_with fail
  refine HBU.out.mono ?_
  rintro e w4 ⟨j1, S1, o4, rfl, hg4, hr4, hle4, hf4⟩
  have HG4 := Lib.hid hg4
  have HR4 := Lib.hid hr4
  have HF4 := Lib.hid hf4
  clear hg4 hr4 hle4 hf4 HBU z0
  simp only [okV]
  go_wp2_with fail
  refine ⟨⟨⟨w4, HG4.out.lw.hl⟩, rfl⟩, ?_⟩
  iterate 4 (refine wpStillT_late (by decide) (by kernel_rfl) (fun K hK => ?_); go_simp; refine hK _ ?_; clear hK K)
  refine wpStillT_nil ?_
  clear hne
  obtain ⟨g1, hg1, hg2⟩ := HR4.out
  have HRG := Lib.hid hg1
  have HJ1 := Lib.hid (GS.jump (knOf_good tb1_fit) HG4.out room_one ctx_one (t := 0) (n := 3) (by omega) (by omega) hg1)
  have HG0 := Lib.hid (show g1 + 1 ≤ 1 from hg2.lt (Nat.le_refl 1) (fun x y k hc => by rw [setPl_one] at hc; have := of_decide_eq_true hc; simp only [Nat.reducePow]; omega))
  clear hg1 hg2
  go_wp2_with fail
  refine HJ1.out.mono ?_
  rintro e w5 ⟨j2, S2, o5, rfl, hg5, hr5, hle5, hf5⟩
  rw [one_evo] at hr5
  obtain rfl : j2 = j1 := Root.eq hg5.vd.wf hr5 (HR4.out.le hle5 HG4.out.vd.wf)
  have HG5 := Lib.hid hg5
  have HF5 := Lib.hid (HF4.out.trans hf5)
  have HR5 := Lib.hid (HRG.out.le hle5 HG4.out.vd.wf)
  have hlb5 := hg5.lw.hl
  have c5 : w5.cell? ⟨I.lb, 0, none⟩ = some (.pointer (some ⟨I.ab, 0, none⟩)) := by rw [cell_of_heap hlb5]; rfl
  have HEX := Lib.hid (GS.expand HG5.out room_one (ctx_one.al 0 (by omega)) (d := g1) (by have := HG0.out; omega) HR5.out)
  have HRR := Lib.hid hr5
  clear hg5 hr5 hle5 hf5 hlb5 HJ1 HF4 HRG
  simp only [okV]
  go_wp2_with fail
  refine HEX.out.mono ?_
  rintro e w6 ⟨j3, S3, o6, rfl, hg6, hr6, hle6, hf6⟩
  have HG6 := Lib.hid hg6
  have HF6 := Lib.hid (HF5.out.trans hf6)
  have HJ3 := Lib.hid (GS.jump (knOf_good tb1_fit) HG6.out room_one ctx_one (t := 0) (n := 0) (by omega) (by omega) hr6)
  have HRS := Lib.hid (HRR.out.le hle6 HG5.out.vd.wf)
  clear hg6 hr6 hle6 hf6 HEX HF5 c5
  simp only [okV]
  go_wp2_with fail
  refine HJ3.out.mono ?_
  rintro e w7 ⟨j4, S4, o7, rfl, hg7, hr7, hle7, hf7⟩
  obtain rfl : j4 = j2 := Root.eq hg7.vd.wf hr7 (HRS.out.le hle7 HG6.out.vd.wf)
  have HFIN := Lib.hid ((HF1.out.trans HF3.out).dropAll (HF6.out.trans hf7) HO.out)
  clear hg7 hr7 hle7 hf7 HJ3
  simp only [okV]
  go_wp2_with fail
  go_ret
  exact ⟨rfl, HFIN.out⟩
end Go.Proofs.YtnkdbpjmepfblaaGreatDoor

/- Begin: a life, and the root of a set near the origin. -/
namespace Go.Proofs.YtnkdbpjmepfblaaGreatDoor
open Go Go.RowKit

theorem compL_sub : ∀ (L : List Ce), ∀ x ∈ compL L, x ∈ L
  | [], x, h => by simp [compL] at h
  | [a], x, h => by simpa [compL] using h
  | a :: b :: L, x, h => by
    unfold compL at h
    split at h
    · exact List.mem_cons_of_mem _ (compL_sub (b :: L) x h)
    · rcases List.mem_cons.1 h with rfl | h
      · simp
      · exact List.mem_cons_of_mem _ (compL_sub (b :: L) x h)
theorem setL_sub {L : List Ce} : ∀ x ∈ setL L, x ∈ L := fun x h => by
  have h1 := compL_sub _ x h
  unfold sortL at h1
  exact (List.mergeSort_perm L _).mem_iff.1 h1
/-- The set of Few. -/
def fewS (lat : Int) (L : List Ce) : List Ce := setL (someL lat (fewL L))
theorem fewS_in (lat : Int) (L : List Ce) : ∀ x ∈ fewS lat L, 0 ≤ x.h ∧ x.h ≤ 1 ∧ -6 ≤ x.a ∧ x.a ≤ 6 ∧ -6 ≤ x.b ∧ x.b ≤ 6 := by
  intro x hx
  have h1 := setL_sub x hx
  unfold someL at h1
  obtain ⟨y, hy, rfl⟩ := List.mem_map.1 h1
  have h2 := List.mem_of_mem_take hy
  unfold fewL at h2
  obtain ⟨z, _, rfl⟩ := List.mem_map.1 h2
  unfold someC fewC
  simp only
  have q0 : ∀ u : Int, -6 ≤ u.tmod 7 ∧ u.tmod 7 ≤ 6 := by
    intro u
    rw [Int.tmod_eq_emod]
    split <;> omega
  have q : ∀ u : Int, -6 ≤ (u.tmod 7).tmod 100 ∧ (u.tmod 7).tmod 100 ≤ 6 := by
    intro u
    have := q0 u
    rw [Int.tmod_eq_emod (a := u.tmod 7)]
    split <;> omega
  have q1 := q z.a
  have q2 := q z.b
  refine ⟨?_, ?_, q1.1, q1.2, q2.1, q2.2⟩
  · split <;> omega
  · split <;> omega
theorem fewS_len (lat : Int) (L : List Ce) : (fewS lat L).length ≤ 16 := by
  unfold fewS setL
  refine Nat.le_trans (compL_le _) ?_
  rw [sortL_len]
  unfold someL fewL
  rw [List.length_map, List.length_take, List.length_map, List.length_take]
  omega
theorem fewS_box (lat : Int) (L : List Ce) : inBox (setPl (fewS lat L)) (-6) (-6) 13 := by
  intro x y k h
  obtain ⟨c, hc, rfl, rfl, h3⟩ := setPl_true.1 h
  have := fewS_in lat L c hc
  omega

set_option maxRecDepth 100000 in
set_option maxHeartbeats 1600000 in
theorem begin_c {T : Tb} (hT : T.fit) {w : World} (hw : SixW w) {v : Value} {L : List Ce} (hsr : SR w v L) (hlen : L.length ≤ 9223372036854775807) {F : Fam} {M : Nat} (hM1 : 64 ≤ M) (hM2 : M < 9223372036854775808) (hr : Room F M) (hAl : Al F (setPl (fewS T.lat L))) :
    Calls Tryz.prog 20 #[T.val, v, .int .i64 (M : Nat)] w fun e w' => ∃ (I : LI) (S : Lf) (o : List Nat) (j : Nat) (v' : Value), e = .returned (.tuple #[.pointer (some ⟨I.lb, 0, none⟩), .int .u32 j, v', .bool true]) ∧
      GS w' I (knOf T) F M S o ∧ Root S.A j (setPl (fewS T.lat L)) ∧ Fr w [] w' [] ∧ (∀ b ∈ I.own o, w.heap.size ≤ b) := by
  have HS16 := Lib.hid (fewS_len T.lat L)
  have HSI := Lib.hid (fewS_in T.lat L)
  have HFEW := Lib.hid (fun (W : World) (h : Fr w [] W []) => few_c (hsr.ext h) hlen T.lat)
  have hmk := fun W (h : SixW W) => GS.new hT h F M hM1 hM2
  obtain ⟨S0, hS0⟩ : ∃ S0, S0 = fewS T.lat L := ⟨_, rfl⟩
  rw [show setL (someL T.lat (fewL L)) = S0 from hS0.symm] at HFEW
  rw [← hS0] at hAl HS16 HSI ⊢
  obtain ⟨N, hN⟩ : ∃ N, N = knOf T := ⟨_, rfl⟩
  rw [← hN] at hmk ⊢
  have HAL := Lib.hid hAl
  have HR := Lib.hid hr
  obtain ⟨l, b0, b1, s0, s1⟩ := T
  unfold Tb.val at hmk ⊢
  simp only at HFEW hmk ⊢
  have HMK := Lib.hid hmk
  have HW := Lib.hid hw
  have hnw := heap_new w (.cells #[.int .i64 l, .int .u64 b0, .int .u64 b1, .int .u64 s0, .int .u64 s1] 36)
  have HNW := Lib.hid hnw
  have HF0 := Lib.hid ((Fr.nil w).alloc (.cells #[.int .i64 l, .int .u64 b0, .int .u64 b1, .int .u64 s0, .int .u64 s1] 36))
  have a0 : (w.alloc (.cells #[.int .i64 l, .int .u64 b0, .int .u64 b1, .int .u64 s0, .int .u64 s1] 36)).cell? ⟨w.heap.size, 0, none⟩ = some (.int .i64 l) := by rw [cell_of_heap hnw]; rfl
  have a1 : (w.alloc (.cells #[.int .i64 l, .int .u64 b0, .int .u64 b1, .int .u64 s0, .int .u64 s1] 36)).cell? ⟨w.heap.size, 1, none⟩ = some (.int .u64 b0) := by rw [cell_of_heap hnw]; rfl
  have a2 : (w.alloc (.cells #[.int .i64 l, .int .u64 b0, .int .u64 b1, .int .u64 s0, .int .u64 s1] 36)).cell? ⟨w.heap.size, 2, none⟩ = some (.int .u64 b1) := by rw [cell_of_heap hnw]; rfl
  have a3 : (w.alloc (.cells #[.int .i64 l, .int .u64 b0, .int .u64 b1, .int .u64 s0, .int .u64 s1] 36)).cell? ⟨w.heap.size, 3, none⟩ = some (.int .u64 s0) := by rw [cell_of_heap hnw]; rfl
  have a4 : (w.alloc (.cells #[.int .i64 l, .int .u64 b0, .int .u64 b1, .int .u64 s0, .int .u64 s1] 36)).cell? ⟨w.heap.size, 4, none⟩ = some (.int .u64 s1) := by rw [cell_of_heap hnw]; rfl
  clear hT hw hsr hlen hM1 hM2 hr hAl hS0 hN hmk hnw
  go_enter Tryz.func20, Tryz.ntmps20
  go_wp2_with fail
  refine (HMK.out _ (HW.out.ext HF0.out)).mono ?_
  rintro e w1 ⟨I, o1, rfl, h1, ho, hf1⟩
  have H1 := Lib.hid h1
  have HO := Lib.hid (show ∀ b ∈ I.own o1, w.heap.size ≤ b from fun b hb => by have := ho b hb; have := HF0.out.size; omega)
  have HF1 := Lib.hid (HF0.out.trans hf1)
  have hh1 : w1.heap[w.heap.size]? = some (.cells #[.int .i64 l, .int .u64 b0, .int .u64 b1, .int .u64 s0, .int .u64 s1] 36) := by rw [hf1.keep _ (heap_lt HNW.out) (by simp)]; exact HNW.out
  have c0 : w1.cell? ⟨w.heap.size, 0, none⟩ = some (.int .i64 l) := by rw [cell_of_heap hh1]; rfl
  clear h1 ho hf1 HMK hh1 a0 a1 a2 a3 a4
  go_wp2_with fail
  refine (HFEW.out w1 HF1.out).mono ?_
  rintro e w2 ⟨v2, rfl, hsr2, hf2⟩
  have HG2 := Lib.hid (H1.out.ext hf2)
  have HF2 := Lib.hid (HF1.out.trans hf2)
  have HSR2 := Lib.hid hsr2
  have hlb2 := HG2.out.lw.hl
  have d0 : w2.cell? ⟨I.lb, 0, none⟩ = some (.pointer (some ⟨I.ab, 0, none⟩)) := by rw [cell_of_heap hlb2]; rfl
  have HBU := Lib.hid (HG2.out.build HR.out HSR2.out (by have := HS16.out; omega) (fun x hx => by have := HSI.out x hx; omega) HAL.out)
  clear hsr2 hf2 hlb2 c0 HFEW HF1
  go_wp2_with fail
  refine HBU.out.mono ?_
  rintro e w3 ⟨j, S3, o3, rfl, hg3, hr3, hle3, hf3⟩
  have HG3 := Lib.hid hg3
  have HR3 := Lib.hid hr3
  have HF3 := Lib.hid (HF2.out.dropAll hf3 HO.out)
  have HO3 := Lib.hid (show ∀ b ∈ I.own o3, w.heap.size ≤ b from fun b hb => by
    rcases hf3.own b hb with h | h
    · exact HO.out b h
    · have := HF2.out.size; omega)
  clear hg3 hr3 hle3 hf3 HBU d0
  simp only [okV]
  go_wp2_with fail
  refine wp_region_cw (by kernel_rfl) (by kernel_rfl) (CW w3) Cls.x ⟨⟨_, (Fr.nil w3).drew⟩, rfl⟩ ?_
  repeat (go_big_quiet_step (fail))
  refine wpQuiet_nil ?_
  intro z
  have HZ := Lib.hid (HG3.out.ext z.h)
  have HZF := Lib.hid (HF3.out.trans z.h)
  go_wp2_with fail
  exact bodyPost_ret (v := .tuple #[.pointer (some ⟨I.lb, 0, none⟩), .int .u32 j, v2, .bool true]) (by simp [results, Tryz.results20, go_sem]) rfl ⟨I, S3, o3, j, v2, rfl, HZ.out, HR3.out, HZF.out, HO3.out⟩
end Go.Proofs.YtnkdbpjmepfblaaGreatDoor
