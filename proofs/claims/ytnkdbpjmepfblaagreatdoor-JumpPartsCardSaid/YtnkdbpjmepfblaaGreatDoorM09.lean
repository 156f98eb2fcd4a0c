/- Texts of the walk and its plain law, merged: CeC, CeD. -/
import Derived.Test.YtnkdbpjmepfblaaGreatDoorM08
import Derived.Laws.IdiomCopy
/- Slices of cells: Compact, as data, and what of memory it needs. -/
namespace Go.Proofs.YtnkdbpjmepfblaaGreatDoor
open Go Go.RowKit

def compL : List Ce → List Ce
  | [] => []
  | [x] => [x]
  | x :: y :: l => if x = y then compL (y :: l) else x :: compL (y :: l)
theorem compL_last : ∀ (M : List Ce), (compL M).getLast? = M.getLast? := by
  intro M
  induction M with
  | nil => rfl
  | cons x l ih =>
    cases l with
    | nil => rfl
    | cons y l =>
      simp only [compL]
      split
      · rw [ih]; simp [List.getLast?_cons_cons]
      · rw [List.getLast?_cons_cons, ← ih]
        have hne : compL (y :: l) ≠ [] := by
          intro h
          have h0 : (y :: l).getLast? = none := by rw [← ih, h]; rfl
          rw [List.getLast?_eq_none_iff] at h0
          cases h0
        obtain ⟨z, zs, hz⟩ := List.exists_cons_of_ne_nil hne
        rw [hz, List.getLast?_cons_cons]
theorem compL_snoc (x : Ce) : ∀ (M : List Ce), compL (M ++ [x]) = if M.getLast? = some x then compL M else compL M ++ [x] := by
  intro M
  induction M with
  | nil => simp [compL]
  | cons y l ih =>
    cases l with
    | nil =>
      simp only [List.nil_append, List.cons_append, compL, List.getLast?_singleton, Option.some.injEq]
      split <;> simp_all
    | cons z l =>
      rw [List.getLast?_cons_cons]
      show compL (y :: z :: (l ++ [x])) = _
      simp only [compL]
      have ih' : compL (z :: (l ++ [x])) = _ := ih
      rw [ih']
      by_cases h1 : y = z <;> by_cases h2 : (z :: l).getLast? = some x <;> simp [h1, h2]
theorem compL_take_succ {L : List Ce} {n : Nat} {x y : Ce} (hx : L[n]? = some x) (hy : L[n + 1]? = some y) : compL (L.take (n + 2)) = if x = y then compL (L.take (n + 1)) else compL (L.take (n + 1)) ++ [y] := by
  have h1 : L.take (n + 2) = L.take (n + 1) ++ [y] := by rw [List.take_add_one, hy]; rfl
  have h2 : (L.take (n + 1)).getLast? = some x := by rw [List.take_add_one, hx]; simp
  rw [h1, compL_snoc, h2]
  simp
theorem compL_nodup {L : List Ce} : ∀ (n : Nat), n ≤ L.length → (∀ (p : Nat) (x y : Ce), p + 1 < n → L[p]? = some x → L[p + 1]? = some y → x ≠ y) → compL (L.take n) = L.take n := by
  intro n
  induction n with
  | zero => intro _ _; simp [compL]
  | succ n ih =>
    intro hn h
    have ih' := ih (by omega) (fun p x y hp => h p x y (by omega))
    cases n with
    | zero =>
      cases L with
      | nil => rfl
      | cons x l => rfl
    | succ n =>
      have hx : L[n]? = some L[n] := List.getElem?_eq_getElem (by omega)
      have hy : L[n + 1]? = some L[n + 1] := List.getElem?_eq_getElem (by omega)
      rw [compL_take_succ hx hy, if_neg (h n _ _ (by omega) hx hy), ih', List.take_add_one (i := n + 1), hy]
      rfl
theorem compL_len_pos {L : List Ce} {n : Nat} (h : n < L.length) : 0 < (compL (L.take (n + 1))).length := by
  obtain ⟨x, hx⟩ : ∃ x, L[n]? = some x := ⟨_, List.getElem?_eq_getElem h⟩
  have h1 : (L.take (n + 1)).getLast? = some x := by rw [List.take_add_one, hx]; simp
  rw [← compL_last] at h1
  cases hc : compL (L.take (n + 1)) with
  | nil => rw [hc] at h1; cases h1
  | cons a b => simp
theorem compL_le : ∀ (L : List Ce), (compL L).length ≤ L.length := by
  intro L
  induction L with
  | nil => simp [compL]
  | cons x l ih =>
    cases l with
    | nil => simp [compL]
    | cons y l =>
      simp only [compL]
      split
      · simp only [List.length_cons] at ih ⊢; omega
      · simp only [List.length_cons] at ih ⊢; omega

theorem Fr.setOwn {w w' : World} {o o' : List Nat} (h : Fr w o w' o') {a : Addr} (ha : a.block ∈ o ∨ w.heap.size ≤ a.block) (v : Value) : Fr w o (w'.setCell a v) o' := by
  refine ⟨h.os, h.tape, h.output, by have := h.size; simp; omega, fun b hb hn => ?_, h.own, fun b hb => by have := h.lt b hb; simp; omega⟩
  rw [World.heap_setCell_ne _ _ _ _ (fun e => by
    subst e
    rcases ha with h1 | h1
    · exact hn h1
    · omega)]
  exact h.keep b hb hn
theorem Fr.setCells {w : World} {o o' : List Nat} {b : Nat} (hb : b ∈ o ∨ w.heap.size ≤ b) : ∀ (vs : List Value) (off : Nat) {w' : World}, Fr w o w' o' → Fr w o (w'.setCells b off vs) o'
  | [], _, _, h => h
  | v :: r, off, w', h => by
    rw [World.setCells]
    exact Fr.setCells hb r (off + 1) (h.setOwn (a := ⟨b, off, none⟩) hb v)
/-- clear of a slice of cells. -/
theorem run_clear_ce (w : World) (ty : TypeId) (b o n c : Nat) (hn : 0 < n) (hc : ∀ j, j < n * 3 → (w.cell? ⟨b, o + j, none⟩).isSome = true) (hf : ∀ j, j < n * 3 → w.frozen? ⟨b, o + j, none⟩ = false) :
    ∃ vs : List Value, (Builtin.clear_ #[30] ty #[.slice (some ⟨b, o, none⟩) n c]).run Tryz.prog w = .ok (.tuple #[]) (w.setCells b o vs) := by
  have hlen : (Builtin.zeroCells (Value.agg #[.int .i64 0, .int .i64 0, .int .i64 0]).cells n).toList.length = n * 3 := by simp [Builtin.zeroCells, Value.cells]
  have hone : ∀ v ∈ (Builtin.zeroCells (Value.agg #[.int .i64 0, .int .i64 0, .int .i64 0]).cells n).toList, v.oneCell' = true := by
    intro v hv
    simp only [Builtin.zeroCells, Value.cells] at hv
    simp only [Array.toList_map, List.mem_map] at hv
    obtain ⟨i, _, rfl⟩ := hv
    have hm : i % 3 = 0 ∨ i % 3 = 1 ∨ i % 3 = 2 := by omega
    rcases hm with h | h | h <;> simp [h] <;> rfl
  have hst := run_storeCells_cells (P := Tryz.prog) b o (Builtin.zeroCells (Value.agg #[.int .i64 0, .int .i64 0, .int .i64 0]).cells n).toList 0 w (by rw [hlen]; simpa using hc) (by rw [hlen]; simpa using hf) hone
  simp only [Nat.add_zero] at hst
  obtain ⟨m, rfl⟩ : ∃ m, n = m + 1 := ⟨n - 1, by omega⟩
  have hz : (zeroValue 89).run Tryz.prog w = .ok (.agg #[.int .i64 0, .int .i64 0, .int .i64 0]) w := by kernel_rfl
  refine ⟨(Builtin.zeroCells (Value.agg #[.int .i64 0, .int .i64 0, .int .i64 0]).cells (m + 1)).toList, ?_⟩
  simp [Builtin.clear_, run_underlying Tryz.underlying30, hz, hst]
/-- One element of a row is written. -/
theorem CeRow.set {w : World} {base g n cap : Nat} {e : TypeId} {L : List Ce} (h : CeRow w base e (.slice (some ⟨g, 0, none⟩) n cap) L) {p : Nat} (hp : p < L.length) (x : Ce) :
    CeRow (((w.setCell ⟨g, p * 3, none⟩ (.int .i64 x.a)).setCell ⟨g, p * 3 + 1, none⟩ (.int .i64 x.b)).setCell ⟨g, p * 3 + 2, none⟩ (.int .i64 x.h)) base e (.slice (some ⟨g, 0, none⟩) n cap) (L.set p x) := by
  obtain ⟨h1, h2⟩ := h
  rcases h2 with ⟨h2, _⟩ | ⟨g', cap', cur, h2, hb, hh, hn, hm, hs, ht⟩
  · cases h2
  · simp only [Value.slice.injEq, Option.some.injEq, Addr.mk.injEq] at h2
    obtain ⟨⟨rfl, _, _⟩, rfl, rfl⟩ := h2
    have s1 := heap_setCell_same w g (p * 3) _ _ (.int .i64 x.a) hh
    have s2 := heap_setCell_same _ g (p * 3 + 1) _ _ (.int .i64 x.b) s1
    have s3 := heap_setCell_same _ g (p * 3 + 2) _ _ (.int .i64 x.h) s2
    refine ⟨by rw [cflat_len, List.length_set], .inr ⟨g, cap, _, by rw [List.length_set], hb, s3, by rw [List.length_set]; exact hn, hm, by simpa using hs, ?_⟩⟩
    rw [List.length_set]
    apply List.ext_getElem?
    intro t
    by_cases htl : t < L.length * 3
    · rw [List.getElem?_take_of_lt htl]
      have hq := Nat.div_add_mod t 3
      have hm3 : t % 3 < 3 := Nat.mod_lt _ (by decide)
      have hqt : t / 3 < L.length := by omega
      have hcs : cur.size = cap * 3 := hs
      have hct : t < cur.size := by omega
      by_cases hpq : t / 3 = p
      · have hx : (L.set p x)[p]? = some x := by simp [hp]
        have hg := cflat_get (L.set p x) p x hx (t % 3) hm3
        rw [show p * 3 + t % 3 = t by omega] at hg
        rw [hg]
        simp only [Array.toList_setIfInBounds, List.getElem?_set, List.length_set, Array.length_toList]
        have hcc : t % 3 = 0 ∨ t % 3 = 1 ∨ t % 3 = 2 := by omega
        rcases hcc with h0 | h0 | h0
        · rw [if_neg (by omega), if_neg (by omega), if_pos (by omega), if_pos (by omega), h0]; rfl
        · rw [if_neg (by omega), if_pos (by omega), if_pos (by omega), h0]; rfl
        · rw [if_pos (by omega), if_pos (by omega), h0]; rfl
      · have hx : (L.set p x)[t / 3]? = L[t / 3]? := by rw [List.getElem?_set_ne (fun e => hpq e.symm)]
        have hl : L[t / 3]? = some L[t / 3] := List.getElem?_eq_getElem hqt
        have hg := cflat_get (L.set p x) (t / 3) _ (hx.trans hl) (t % 3) hm3
        have hg2 := cflat_get L (t / 3) _ hl (t % 3) hm3
        rw [show t / 3 * 3 + t % 3 = t by omega] at hg hg2
        rw [hg, ← hg2, ← ht, List.getElem?_take_of_lt htl]
        simp only [Array.toList_setIfInBounds, List.getElem?_set, List.length_set, Array.length_toList]
        rw [if_neg (by omega), if_neg (by omega), if_neg (by omega)]
    · rw [List.getElem?_eq_none (by simp; omega), List.getElem?_eq_none (by rw [cflat_len, List.length_set]; omega)]
end Go.Proofs.YtnkdbpjmepfblaaGreatDoor

/- Slices of cells: Compact. -/
namespace Go.Proofs.YtnkdbpjmepfblaaGreatDoor
open Go Go.RowKit

theorem eqn65 (d : Nat) (a b c e : Int) (w : World) : (Op.equalIn (d + 2) 65 (.agg #[.int .i64 a, .int .i64 b]) (.agg #[.int .i64 c, .int .i64 e])).run Tryz.prog w = .ok (a == c && b == e) w := by
  have f0 : Tryz.prog.stoodInHeld 65 = false := by kernel_rfl
  have hS : Tryz.prog.underlying 65 = some (.struct (Tryz.prog.fieldsOf 65)) := by kernel_rfl
  have u2 := Tryz.underlying2
  have z2 := Tryz.sizeOf2
  have ag2 := Tryz.isAgg2
  rw [show d + 2 = (d + 1) + 1 from rfl, run_equalIn_agg w (d + 1) 65 _ _ hS f0]
  simp only [Program.fieldsOf, Tryz.underlying65]
  go_simp
  by_cases g0 : a = c <;> by_cases g1 : b = e <;> simp [g0, g1]
theorem eqi89 (x y : Ce) (w : World) : (Op.equalIn 10000 89 (.agg #[.int .i64 x.a, .int .i64 x.b, .int .i64 x.h]) (.agg #[.int .i64 y.a, .int .i64 y.b, .int .i64 y.h])).run Tryz.prog w = .ok (decide (x = y)) w := by
  have f0 : Tryz.prog.stoodInHeld 89 = false := by kernel_rfl
  have hS : Tryz.prog.underlying 89 = some (.struct (Tryz.prog.fieldsOf 89)) := by kernel_rfl
  have u3 := Tryz.underlying3
  have z3 := Tryz.sizeOf3
  have ag3 := Tryz.isAgg3
  have z65 := Tryz.sizeOf65
  have a65 := Tryz.isAgg65
  obtain ⟨a, b, h⟩ := x
  obtain ⟨c, e, k⟩ := y
  simp only [Ce.mk.injEq]
  rw [show (10000 : Nat) = 9999 + 1 from rfl, run_equalIn_agg w 9999 89 _ _ hS f0]
  simp only [Program.fieldsOf, Tryz.underlying89]
  have e65 : ∀ w, (Op.equalIn 9999 65 (.agg #[.int .i64 a, .int .i64 b]) (.agg #[.int .i64 c, .int .i64 e])).run Tryz.prog w = .ok (a == c && b == e) w := fun w => eqn65 9997 a b c e w
  by_cases g0 : a = c <;> by_cases g1 : b = e <;> by_cases g2 : h = k <;> simp [g0, g1, g2] at e65 ⊢ <;> go_simp <;> simp [g0, g1, g2]
theorem eql89 (x y : Ce) (w : World) : (binOp .eql 89 (.agg #[.int .i64 x.a, .int .i64 x.b, .int .i64 x.h]) (.agg #[.int .i64 y.a, .int .i64 y.b, .int .i64 y.h])).run Tryz.prog w = .ok (.bool (decide (x = y))) w := by
  rw [run_eql_struct, eqi89]; rfl
theorem neq89 (x y : Ce) (w : World) : (binOp .neq 89 (.agg #[.int .i64 x.a, .int .i64 x.b, .int .i64 x.h]) (.agg #[.int .i64 y.a, .int .i64 y.b, .int .i64 y.h])).run Tryz.prog w = .ok (.bool (!decide (x = y))) w := by
  rw [run_neq_struct, eqi89]; rfl
theorem CeRow.cell {w : World} {base g n cap : Nat} {e : TypeId} {L : List Ce} (h : CeRow w base e (.slice (some ⟨g, 0, none⟩) n cap) L) {p : Nat} {x : Ce} (hp : L[p]? = some x) :
    w.cell? ⟨g, p * 3, none⟩ = some (.int .i64 x.a) ∧ w.cell? ⟨g, p * 3 + 1, none⟩ = some (.int .i64 x.b) ∧ w.cell? ⟨g, p * 3 + 2, none⟩ = some (.int .i64 x.h) := by
  have hk := fun k hk u hu => (by
    have := h.cells (g := g) rfl (p * 3 + k) u (by rw [cflat_get L p x hp k hk]; exact hu)
    rw [addr_add] at this
    simpa using this : w.cell? ⟨g, p * 3 + k, none⟩ = some u)
  exact ⟨hk 0 (by omega) _ rfl, hk 1 (by omega) _ rfl, hk 2 (by omega) _ rfl⟩
theorem CeRow.fz {w : World} {base g n cap : Nat} {e : TypeId} {L : List Ce} (h : CeRow w base e (.slice (some ⟨g, 0, none⟩) n cap) L) (j : Nat) : w.frozen? ⟨g, j, none⟩ = false := by
  rcases h.2 with ⟨h2, _⟩ | ⟨g', cap', cur, h2, hb, hh, _⟩
  · cases h2
  · simp only [Value.slice.injEq, Option.some.injEq, Addr.mk.injEq] at h2
    obtain ⟨⟨rfl, _, _⟩, _⟩ := h2
    exact frozen_of_row w g j _ _ hh
theorem CeRow.caps {w : World} {base g n cap : Nat} {e : TypeId} {L : List Ce} (h : CeRow w base e (.slice (some ⟨g, 0, none⟩) n cap) L) : n = L.length ∧ L.length ≤ cap ∧ cap ≤ 9223372036854775807 ∧ g < w.heap.size := by
  rcases h.2 with ⟨h2, _⟩ | ⟨g', cap', cur, h2, hb, hh, h3, h4, _⟩
  · cases h2
  · simp only [Value.slice.injEq, Option.some.injEq, Addr.mk.injEq] at h2
    obtain ⟨⟨rfl, _, _⟩, rfl, rfl⟩ := h2
    unfold maxLen at h4
    exact ⟨rfl, h3, h4, heap_lt hh⟩
set_option maxRecDepth 100000 in
set_option maxHeartbeats 3200000 in
theorem compact_c {w : World} {base g cap : Nat} {L : List Ce} (h : CeRow w base 89 (.slice (some ⟨g, 0, none⟩) L.length cap) L) :
    Calls Tryz.prog 114 #[.slice (some ⟨g, 0, none⟩) L.length cap] w fun e w' => e = .returned (.slice (some ⟨g, 0, none⟩) (compL L).length cap) ∧ SR w' (.slice (some ⟨g, 0, none⟩) (compL L).length cap) (compL L) ∧ Fr w [g] w' [g] := by
  obtain ⟨_, hcap, hcm, hgl⟩ := h.caps
  have HR := Lib.hid h
  clear h
  by_cases h2 : L.length < 2
  · have hc : compL L = L := by
      match L, h2 with
      | [], _ => rfl
      | [x], _ => rfl
    have HC := Lib.hid hc
    have h2i : (L.length : Int) < 2 := by omega
    clear hc
    go_enter Tryz.func114, Tryz.ntmps114
    go_wp2_with fail
    go_ret
    rw [HC.out]
    exact ⟨rfl, HR.out.sr, Fr.refl w [g] (by simpa using hgl)⟩
  · have h2i : ¬ (L.length : Int) < 2 := by omega
    go_enter Tryz.func114, Tryz.ntmps114
    go_wp2_with fail
    go_loopw [3] (fun v wr => ∃ q : Nat, q + 1 ≤ L.length ∧ v = .int .i64 ((q : Int) + 1) ∧ Fr w [] wr [] ∧ ∀ (p : Nat) (x y : Ce), p < q → L[p]? = some x → L[p + 1]? = some y → x ≠ y) (fun v _ => L.length - (intOf v).toNat)
    case atStart => exact ⟨0, by omega, rfl, Fr.nil w, fun p x y hp => by omega⟩
    case round =>
      obtain ⟨q, hq, rfl, hF, hne⟩ := hrel
      obtain ⟨W0, rfl⟩ : ∃ W0, W0 = wr := ⟨_, rfl⟩
      have HF := Lib.hid hF
      have HNE := Lib.hid hne
      clear hF hne
      by_cases hend : q + 1 < L.length
      · have hei : (q : Int) + 1 < (L.length : Int) := by omega
        obtain ⟨x, hx⟩ : ∃ x, L[q]? = some x := ⟨_, List.getElem?_eq_getElem (by omega)⟩
        obtain ⟨y, hy⟩ : ∃ y, L[q + 1]? = some y := ⟨_, List.getElem?_eq_getElem hend⟩
        have HX := Lib.hid hx
        have HY := Lib.hid hy
        have hrow : ∀ z : CW W0, CeRow z.x base 89 (.slice (some ⟨g, 0, none⟩) L.length cap) L := fun z => HR.out.ext (HF.out.trans z.h)
        have HROW := Lib.hid hrow
        have cx0 : ∀ z : CW W0, z.x.cell? ⟨g, q * 3, none⟩ = some (.int .i64 x.a) := fun z => ((HROW.out z).cell HX.out).1
        have cx1 : ∀ z : CW W0, z.x.cell? ⟨g, q * 3 + 1, none⟩ = some (.int .i64 x.b) := fun z => ((HROW.out z).cell HX.out).2.1
        have cx2 : ∀ z : CW W0, z.x.cell? ⟨g, q * 3 + 2, none⟩ = some (.int .i64 x.h) := fun z => ((HROW.out z).cell HX.out).2.2
        have cy0 : ∀ z : CW W0, z.x.cell? ⟨g, (q + 1) * 3, none⟩ = some (.int .i64 y.a) := fun z => ((HROW.out z).cell HY.out).1
        have cy1 : ∀ z : CW W0, z.x.cell? ⟨g, (q + 1) * 3 + 1, none⟩ = some (.int .i64 y.b) := fun z => ((HROW.out z).cell HY.out).2.1
        have cy2 : ∀ z : CW W0, z.x.cell? ⟨g, (q + 1) * 3 + 2, none⟩ = some (.int .i64 y.h) := fun z => ((HROW.out z).cell HY.out).2.2
        have m1 : 0 ≤ (q : Int) + 1 := by omega
        have m2 : (q : Int) < (L.length : Int) := by omega
        have p1 : IntKind.i64.wrap ((q : Int) + 1 - 1) = (q : Int) := by rw [IntKind.wrap_i64]; omega
        have n1 : ((q : Int) + 1).toNat = q + 1 := by omega
        clear hx hy hrow
        by_cases hxy : x = y
        · have heq := fun w => eql89 y x w
          rw [show decide (y = x) = true by simp [hxy]] at heq
          have HXY := Lib.hid hxy
          clear hxy
          go_wp2_with fail
          refine wp_region_cw (by kernel_rfl) (by kernel_rfl) (CW W0) Cls.x ⟨⟨_, (Fr.nil W0).drew⟩, rfl⟩ ?_
          repeat (go_big_quiet_step (fail))
          refine wpQuiet_nil ?_
          intro z
          go_wp2_with fail
          have hzf : Fr w [] z.x [] := HF.out.trans z.h
          have HZF := Lib.hid hzf
          have hc0 : compL (L.take (q + 2)) = L.take (q + 1) := by
            rw [compL_take_succ HX.out HY.out, if_pos HXY.out]
            exact compL_nodup (q + 1) (by omega) (fun p x y hp => HNE.out p x y (by omega))
          have HC0 := Lib.hid hc0
          generalize z.x = W1 at *
          clear z hzf hc0 cx0 cx1 cx2 cy0 cy1 cy2 heq p1 n1 HROW
          go_loopw [3, 5] (fun v5 v6 wr => ∃ (t p : Nat) (D : List Ce), q + 1 + (t + 1) ≤ L.length ∧ q + 1 ≤ p ∧ p ≤ q + 1 + t ∧ v5 = .int .i64 (p : Int) ∧ v6 = .int .i64 ((t : Int) + 1) ∧ D.length = L.length ∧ D.take p = compL (L.take (q + 2 + t)) ∧
              (∀ s, q + 1 + t ≤ s → D[s]? = L[s]?) ∧ CeRow wr base 89 (.slice (some ⟨g, 0, none⟩) L.length cap) D ∧ Fr w [g] wr [g]) (fun _ v _ => L.length - (intOf v).toNat)
          case atStart =>
            exact ⟨0, q + 1, L, by omega, by omega, by omega, by go_num, rfl, rfl, HC0.out.symm, fun s _ => rfl, HR.out.ext HZF.out, HZF.out.widen (by simpa using hgl)⟩
          case round =>
            clear HF HNE HX HY HXY HC0 HZF hei m1 m2 hq hend
            obtain ⟨t, p, D, ht, hp1, hp2, rfl, rfl, hD, hC, hS, hrow, hF⟩ := hrel
            obtain ⟨W2, rfl⟩ : ∃ W2, W2 = wr := ⟨_, rfl⟩
            have HD := Lib.hid hD
            have HC := Lib.hid hC
            have HS := Lib.hid hS
            have HROW := Lib.hid hrow
            have HF := Lib.hid hF
            clear hD hC hS hrow hF
            have hsub : ((L.length - (q + 1) : Nat) : Int) = (L.length : Int) - (q : Int) - 1 := by omega
            by_cases hend : q + 1 + (t + 1) < L.length
            · have hei : (t : Int) + 1 < ((L.length - (q + 1) : Nat) : Int) := by omega
              obtain ⟨x, hx⟩ : ∃ x, L[q + 1 + t]? = some x := ⟨_, List.getElem?_eq_getElem (by omega)⟩
              obtain ⟨y, hy⟩ : ∃ y, L[q + 1 + (t + 1)]? = some y := ⟨_, List.getElem?_eq_getElem hend⟩
              have HX := Lib.hid hx
              have HY := Lib.hid hy
              have HDX := Lib.hid ((HS.out (q + 1 + t) (Nat.le_refl _)).trans hx)
              have HDY := Lib.hid ((HS.out (q + 1 + (t + 1)) (by omega)).trans hy)
              have hrowz : ∀ z : CW W2, CeRow z.x base 89 (.slice (some ⟨g, 0, none⟩) L.length cap) D := fun z => HROW.out.ext z.h
              have HROWZ := Lib.hid hrowz
              have ex : (q + 1) * 3 + t * 3 = (q + 1 + t) * 3 := by omega
              have ey : (q + 1) * 3 + (t + 1) * 3 = (q + 1 + (t + 1)) * 3 := by omega
              have cx0 : ∀ z : CW W2, z.x.cell? ⟨g, (q + 1) * 3 + t * 3, none⟩ = some (.int .i64 x.a) := fun z => by rw [ex]; exact ((HROWZ.out z).cell HDX.out).1
              have cx1 : ∀ z : CW W2, z.x.cell? ⟨g, (q + 1) * 3 + t * 3 + 1, none⟩ = some (.int .i64 x.b) := fun z => by rw [ex]; exact ((HROWZ.out z).cell HDX.out).2.1
              have cx2 : ∀ z : CW W2, z.x.cell? ⟨g, (q + 1) * 3 + t * 3 + 2, none⟩ = some (.int .i64 x.h) := fun z => by rw [ex]; exact ((HROWZ.out z).cell HDX.out).2.2
              have cy0 : ∀ z : CW W2, z.x.cell? ⟨g, (q + 1) * 3 + (t + 1) * 3, none⟩ = some (.int .i64 y.a) := fun z => by rw [ey]; exact ((HROWZ.out z).cell HDY.out).1
              have cy1 : ∀ z : CW W2, z.x.cell? ⟨g, (q + 1) * 3 + (t + 1) * 3 + 1, none⟩ = some (.int .i64 y.b) := fun z => by rw [ey]; exact ((HROWZ.out z).cell HDY.out).2.1
              have cy2 : ∀ z : CW W2, z.x.cell? ⟨g, (q + 1) * 3 + (t + 1) * 3 + 2, none⟩ = some (.int .i64 y.h) := fun z => by rw [ey]; exact ((HROWZ.out z).cell HDY.out).2.2
              have m1 : 0 ≤ (t : Int) + 1 := by omega
              have m2 : (t : Int) < ((L.length - (q + 1) : Nat) : Int) := by omega
              have p1 : IntKind.i64.wrap ((t : Int) + 1 - 1) = (t : Int) := by rw [IntKind.wrap_i64]; omega
              have n1 : ((t : Int) + 1).toNat = t + 1 := by omega
              clear hx hy hrowz ex ey hsub
              by_cases hxy : x = y
              · have heq := fun w => neq89 y x w
                rw [show decide (y = x) = true by simp [hxy]] at heq
                simp only [Bool.not_true] at heq
                have HXY := Lib.hid hxy
                clear hxy
                go_wp2_with fail
                refine wp_region_cw (by kernel_rfl) (by kernel_rfl) (CW W2) Cls.x ⟨⟨_, (Fr.nil W2).drew⟩, rfl⟩ ?_
                repeat (go_big_quiet_step (fail))
                refine wpQuiet_nil ?_
                intro z
                go_wp2_with fail
                refine ⟨⟨t + 1, p, D, by omega, by omega, by omega, rfl, by go_num, HD.out, ?_, fun s hs => HS.out s (by omega), HROW.out.ext z.h, HF.out.ext z.h⟩, by simp only [intOf]; omega⟩
                rw [show q + 2 + (t + 1) = (q + 1 + t) + 2 by omega, compL_take_succ HX.out (by rw [show q + 1 + t + 1 = q + 1 + (t + 1) by omega]; exact HY.out), if_pos HXY.out, HC.out]
                congr 2; omega
              · have heq := fun w => neq89 y x w
                rw [show decide (y = x) = false by simp; exact fun e => hxy e.symm] at heq
                simp only [Bool.not_false] at heq
                have HXY := Lib.hid hxy
                clear hxy
                go_wp2_with fail
                refine wp_region_cw (by kernel_rfl) (by kernel_rfl) (CW W2) Cls.x ⟨⟨_, (Fr.nil W2).drew⟩, rfl⟩ ?_
                repeat (go_big_quiet_step (fail))
                refine wpQuiet_nil ?_
                intro z
                have d0 := cy0 z
                have d1 := cy1 z
                have d2 := cy2 z
                have hrw := HROWZ.out z
                obtain ⟨xp, hxp⟩ : ∃ xp, D[p]? = some xp := ⟨_, List.getElem?_eq_getElem (by rw [HD.out]; omega)⟩
                have e0 := (hrw.cell hxp).1
                have e1 := (hrw.cell hxp).2.1
                have e2 := (hrw.cell hxp).2.2
                have hfz := hrw.fz
                have hpl : (p : Int) < (L.length : Int) := by omega
                have HRW := Lib.hid hrw
                have HZ := Lib.hid z.h
                clear hxp hrw cx0 cx1 cx2 cy0 cy1 cy2 HROWZ heq
                go_wp2_with fail
                have hgo : g ∈ [g] ∨ w.heap.size ≤ g := .inl (by simp)
                refine ⟨⟨t + 1, p + 1, D.set p y, by omega, by omega, by omega, by go_num, by go_num, by rw [List.length_set]; exact HD.out, ?_, fun s hs => ?_, HRW.out.set (by rw [HD.out]; omega) y,
                  (((HF.out.ext HZ.out).setOwn (a := ⟨g, p * 3, none⟩) hgo _).setOwn (a := ⟨g, p * 3 + 1, none⟩) hgo _).setOwn (a := ⟨g, p * 3 + 2, none⟩) hgo _⟩, by simp only [intOf]; omega⟩
                · rw [show q + 2 + (t + 1) = (q + 1 + t) + 2 by omega, compL_take_succ HX.out (by rw [show q + 1 + t + 1 = q + 1 + (t + 1) by omega]; exact HY.out), if_neg HXY.out, show q + 1 + t + 1 = q + 2 + t by omega, ← HC.out]
                  rw [List.take_add_one, List.take_set_of_le (by omega)]
                  congr 1
                  simp [HD.out, show p < L.length by omega]
                · rw [List.getElem?_set_ne (by omega)]; exact HS.out s (by omega)
            · have hei : ¬ (t : Int) + 1 < ((L.length - (q + 1) : Nat) : Int) := by omega
              have hcl : compL L = D.take p := by rw [HC.out, show q + 2 + t = L.length by omega, List.take_length]
              have hpl : (compL L).length = p := by rw [hcl, List.length_take, HD.out]; omega
              obtain ⟨vs, hclr⟩ := run_clear_ce W2 0 g (p * 3) (L.length - p) (cap - p) (by omega) (fun j hj => by
                obtain ⟨xp, hxp⟩ : ∃ xp, D[p + j / 3]? = some xp := ⟨_, List.getElem?_eq_getElem (by rw [HD.out]; omega)⟩
                have h0 := HROW.out.cell hxp
                have hm : j % 3 = 0 ∨ j % 3 = 1 ∨ j % 3 = 2 := by omega
                rcases hm with h | h | h
                · rw [show p * 3 + j = (p + j / 3) * 3 by omega, h0.1]; rfl
                · rw [show p * 3 + j = (p + j / 3) * 3 + 1 by omega, h0.2.1]; rfl
                · rw [show p * 3 + j = (p + j / 3) * 3 + 2 by omega, h0.2.2]; rfl) (fun j hj => HROW.out.fz _)
              have hsr : SR (W2.setCells g (p * 3) vs) (.slice (some ⟨g, 0, none⟩) (compL L).length cap) (compL L) := by
                refine .inr ⟨g, 0, cap, rfl, fun s u hs => ?_⟩
                have hsl : s < p * 3 := by
                  have := (List.getElem?_eq_some_iff.1 hs).1
                  rw [cflat_len, hpl] at this; exact this
                rw [World.cell?_setCells_out g vs (p * 3) W2 ⟨g, 0 + s, none⟩ (fun _ _ => .inl (by show 0 + s < p * 3; omega))]
                have hx : (D.take p)[s / 3]? = D[s / 3]? := List.getElem?_take_of_lt (by omega)
                obtain ⟨xp, hxp⟩ : ∃ xp, D[s / 3]? = some xp := ⟨_, List.getElem?_eq_getElem (by rw [HD.out]; omega)⟩
                have hg := cflat_get (D.take p) (s / 3) xp (hx.trans hxp) (s % 3) (Nat.mod_lt _ (by decide))
                rw [show s / 3 * 3 + s % 3 = s by omega, ← hcl, hs] at hg
                have h0 := HROW.out.cell hxp
                have hm : s % 3 = 0 ∨ s % 3 = 1 ∨ s % 3 = 2 := by omega
                rcases hm with h | h | h
                · rw [h] at hg; injection hg with hg; rw [hg, show 0 + s = s / 3 * 3 by omega]; exact h0.1
                · rw [h] at hg; injection hg with hg; rw [hg, show 0 + s = s / 3 * 3 + 1 by omega]; exact h0.2.1
                · rw [h] at hg; injection hg with hg; rw [hg, show 0 + s = s / 3 * 3 + 2 by omega]; exact h0.2.2
              have HSR := Lib.hid hsr
              have HPL := Lib.hid hpl
              have HFE := Lib.hid (Fr.setCells (b := g) (.inl (by simp)) vs (p * 3) HF.out)
              clear hcl hpl hsr
              go_wp2_with fail
              go_ret
              rw [HPL.out]
              rw [HPL.out] at HSR
              exact ⟨rfl, HSR.out, HFE.out⟩
        · have heq := fun w => eql89 y x w
          rw [show decide (y = x) = false by simp; exact fun e => hxy e.symm] at heq
          have HXY := Lib.hid hxy
          clear hxy
          go_wp2_with fail
          refine wp_region_cw (by kernel_rfl) (by kernel_rfl) (CW W0) Cls.x ⟨⟨_, (Fr.nil W0).drew⟩, rfl⟩ ?_
          repeat (go_big_quiet_step (fail))
          refine wpQuiet_nil ?_
          intro z
          go_wp2_with fail
          refine ⟨⟨q + 1, by omega, by go_num, HF.out.trans z.h, fun p x' y' hp hx' hy' => ?_⟩, by simp only [intOf]; omega⟩
          rcases Nat.lt_succ_iff_lt_or_eq.1 hp with h1 | rfl
          · exact HNE.out p x' y' h1 hx' hy'
          · have e1 := HX.out.symm.trans hx'
            have e2 := HY.out.symm.trans hy'
            injection e1 with e1
            injection e2 with e2
            rw [← e1, ← e2]
            exact HXY.out
      · have hei : ¬ (q : Int) + 1 < (L.length : Int) := by omega
        have hc : compL L = L := by
          have := compL_nodup L.length (Nat.le_refl _) (fun p x y hp => HNE.out p x y (by omega))
          rwa [List.take_length] at this
        have HC := Lib.hid hc
        clear hc
        go_wp2_with fail
        go_ret
        rw [HC.out]
        exact ⟨rfl, HR.out.sr.ext HF.out, HF.out.widen (by simpa using hgl)⟩
end Go.Proofs.YtnkdbpjmepfblaaGreatDoor
