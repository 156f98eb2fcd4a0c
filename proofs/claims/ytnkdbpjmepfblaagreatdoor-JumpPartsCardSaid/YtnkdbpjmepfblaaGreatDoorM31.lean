/- Texts of the walk and its plain law, merged: OpA, OpB. -/
import Derived.Test.YtnkdbpjmepfblaaGreatDoorChecked
import Derived.Test.YtnkdbpjmepfblaaGreatDoorRows
import Derived.Test.YtnkdbpjmepfblaaGreatDoorM15
import Derived.ProofKit
import Derived.LaidMore
import Derived.OpenShut
import Derived.Stop.Joined
import Derived.Deep.Strs
import Derived.Carry
/- Opening: what the laws are handed (a table, cells, numbers), and the list of the six. -/
namespace Go.Proofs.YtnkdbpjmepfblaaGreatDoor
open Go Go.RowKit Go.WideShapes Go.ChangeShapes

section
variable {H : Type} {enc : TypeId × Value → H} {w : World} {base : Nat} {spare : Nat → Bool} {held : Bool}

theorem c22 : Tryz.prog.cellsOf 22 = 1 := by kernel_rfl
theorem c23 : Tryz.prog.cellsOf 23 = 2 := by kernel_rfl
theorem c25 : Tryz.prog.cellsOf 25 = 5 := by kernel_rfl
theorem c2 : Tryz.prog.cellsOf 2 = 1 := by kernel_rfl
theorem c3 : Tryz.prog.cellsOf 3 = 1 := by kernel_rfl
theorem c92 : Tryz.prog.cellsOf 92 = 3 := by kernel_rfl
theorem c65 : Tryz.prog.cellsOf 65 = 2 := by kernel_rfl

theorem u64_nat {n : Int} (h : (Lit.int .u64 n).wf = true) : ∃ k : Nat, n = k ∧ k < 18446744073709551616 := by
  have := bounds_u64 h
  exact ⟨n.toNat, by omega, by omega⟩

set_option maxRecDepth 100000 in
theorem trod_u2 {fuel : Nat} {cs : List Value} {x : DataW H × List MemPlace} (h : DataW.trod enc Tryz.prog w base spare held fuel 23 cs = some x) :
    ∃ a b : Nat, cs = [.int .u64 (a : Int), .int .u64 (b : Int)] ∧ a < 18446744073709551616 ∧ b < 18446744073709551616 := by
  obtain ⟨xs, m, rfl, _, hl, hn, hx⟩ := DataW.trod_array Tryz.underlying23 h
  rw [c23] at hl
  match xs, hn with
  | [y0, y1], _ =>
    have h0 := hx 0 (by omega)
    have h1 := hx 1 (by omega)
    rw [c22] at h0 h1
    obtain ⟨n0, e0, _, b0⟩ := DataW.trod_int Tryz.underlying22 h0
    obtain ⟨n1, e1, _, b1⟩ := DataW.trod_int Tryz.underlying22 h1
    obtain ⟨k0, rfl, l0⟩ := u64_nat b0
    obtain ⟨k1, rfl, l1⟩ := u64_nat b1
    match cs, hl with
    | [a, b], _ =>
      simp at e0 e1
      exact ⟨k0, k1, by rw [e0, e1], l0, l1⟩

set_option maxRecDepth 100000 in
/-- A table of births and stays. -/
theorem open_table {r : Reach} {b0 : Nat} {v : Value} {d : DataW H} {ps : List MemPlace} (hval : Value.okWide Tryz.prog w r b0 25 v) (hd : DataW.Trod enc Tryz.prog w base spare held 25 v d ps) :
    ∃ (l : Int) (p0 p1 s0 s1 : Nat), v = .agg #[.int .i64 l, .int .u64 (p0 : Int), .int .u64 (p1 : Int), .int .u64 (s0 : Int), .int .u64 (s1 : Int)] ∧ -9223372036854775808 ≤ l ∧ l < 9223372036854775808 ∧
      p0 < 18446744073709551616 ∧ p1 < 18446744073709551616 ∧ s0 < 18446744073709551616 ∧ s1 < 18446744073709551616 := by
  obtain ⟨cs, rfl, hs⟩ := okWide_struct Tryz.underlying25 hval
  obtain ⟨fuel, hf⟩ := hd
  obtain ⟨y0, y1, y2, n, _, hl, h0, h1, h2⟩ := Go.Deep.trod_struct3 Tryz.underlying25 hf
  simp only [c3, c23, c25] at h0 h1 h2 hl
  obtain ⟨l, e0, _, bl⟩ := DataW.trod_int Tryz.underlying3 h0
  obtain ⟨p0, p1, e1, l0, l1⟩ := trod_u2 h1
  obtain ⟨s0, s1, e2, l2, l3⟩ := trod_u2 h2
  have bl := bounds_i64 bl
  obtain ⟨cl⟩ := cs
  simp only [Value.cells] at hl e0 e1 e2
  match cl, hl with
  | [a, b, c, d, e], _ =>
    simp at e0 e1 e2
    exact ⟨l, p0, p1, s0, s1, by rw [e0, e1.1, e1.2, e2.1, e2.2], bl.1, by omega, l0, l1, l2, l3⟩

set_option maxRecDepth 100000 in
theorem trod_cell {fuel : Nat} {cs : List Value} {x : DataW H × List MemPlace} (h : DataW.trod enc Tryz.prog w base spare held fuel 92 cs = some x) : ∃ c : Ce, cs = c.cells := by
  obtain ⟨y0, y1, y2, n, _, hl, h0, h1, h2⟩ := Go.Deep.trod_struct3 Tryz.underlying92 h
  simp only [c2, c3, c92] at h0 h1 h2 hl
  obtain ⟨a, e0, _, _⟩ := DataW.trod_int Tryz.underlying2 h0
  obtain ⟨b, e1, _, _⟩ := DataW.trod_int Tryz.underlying2 h1
  obtain ⟨c, e2, _, _⟩ := DataW.trod_int Tryz.underlying3 h2
  match cs, hl with
  | [x, y, z], _ =>
    simp at e0 e1 e2
    exact ⟨⟨a, b, c⟩, by rw [e0, e1, e2]; rfl⟩

set_option maxRecDepth 100000 in
/-- A row of cells. -/
theorem open_cells {r : Reach} {b0 : Nat} {v : Value} {d : DataW H} {ps : List MemPlace} (hval : Value.okWide Tryz.prog w r b0 26 v) (hd : DataW.Trod enc Tryz.prog w base spare held 26 v d ps) :
    ∃ L : List Ce, SR w v L ∧ L.length ≤ 9223372036854775807 := by
  obtain ⟨sa, sl, sc, rfl⟩ := okWide_slice Tryz.underlying26 hval
  obtain ⟨fuel, hf⟩ := hd
  rcases Go.Deep.open_slice Tryz.underlying26 hf with ⟨hcs, _⟩ | ⟨a, len, cap, m, n, D, Pl, hcs, hb, hl, hm, hmm, _, hx⟩
  · simp only [Value.cells] at hcs
    have : Value.slice sa sl sc = .slice none 0 0 := by simpa using hcs
    exact ⟨[], .inl ⟨this, rfl⟩, by simp⟩
  · have hv : Value.slice sa sl sc = .slice (some a) len cap := by simpa [Value.cells] using hcs
    simp only [Value.slice.injEq] at hv
    obtain ⟨rfl, rfl, rfl⟩ := hv
    have hspot : a.spot = none := by
      simp only [Value.okWide, Tryz.underlying26, Cell.okWide, Cell.ok] at hval
      exact hval.2.2.2.1
    have hlm : sl ≤ m := by rw [hmm]; split <;> omega
    rw [c92] at hx
    obtain ⟨C, hC⟩ := Go.Deep.choose_lt (α := Ce) (p := fun i c => w.cells? base (a.add (i * 3)) 3 = some c.cells) (n := sl) (fun i hi => by
      obtain ⟨cs', h1, h2⟩ := hx i (by omega)
      obtain ⟨c, rfl⟩ := trod_cell h2
      exact ⟨c, h1⟩)
    have hml : maxLen = 9223372036854775807 := rfl
    refine ⟨(List.range sl).map C, .inr ⟨a.block, a.off, sc, ?_, fun t u ht => ?_⟩, by simp; omega⟩
    · obtain ⟨ab, ao, sp⟩ := a
      simp only at hspot
      rw [hspot]
      simp
    · have hlen : (cflat ((List.range sl).map C)).length = sl * 3 := by rw [cflat_len]; simp
      have htl : t < sl * 3 := by
        have := (List.getElem?_eq_some_iff.1 ht).1
        omega
      have hti : t / 3 < sl := by omega
      have hc := hC (t / 3) hti
      obtain ⟨_, _, hcc⟩ := World.cells?_some hc
      have h3 := hcc (t % 3) (Nat.mod_lt _ (by omega))
      have hget : (cflat ((List.range sl).map C))[t]? = ((C (t / 3)).cells)[t % 3]? := by
        have := cflat_get ((List.range sl).map C) (t / 3) (C (t / 3)) (by simp [hti]) (t % 3) (Nat.mod_lt _ (by omega))
        rwa [show t / 3 * 3 + t % 3 = t by omega] at this
      rw [hget, ← h3] at ht
      rw [← ht]
      obtain ⟨ab, ao, sp⟩ := a
      simp only at hspot
      subst hspot
      rw [addr_add, addr_add]
      simp only
      rw [show ao + t / 3 * 3 + t % 3 = ao + t by omega]
end
end Go.Proofs.YtnkdbpjmepfblaaGreatDoor

/- The list of the six, as it is laid; what a frame says of the memory below. -/
namespace Go.Proofs.YtnkdbpjmepfblaaGreatDoor
open Go Go.RowKit Go.WideShapes Go.ChangeShapes

theorem laidOut : laidOutB Tryz.prog = true := by kernel_rfl
theorem gSix : Tryz.prog.globalNamed "honeycomb/axis.six" = some 0 := by kernel_rfl
theorem tSix : (Tryz.prog.globals[0]?).map (·.type) = some 205 := by kernel_rfl

def lsix : List (String × DataW Unit) := [("honeycomb/axis.six", Rows.laid_honeycomb_axis_six)]

theorem Fr.below {w w' : World} (h : Fr w [] w' []) : Below w.heap.size w w' :=
  ⟨h.os, h.tape, h.output, h.size, fun k hk => h.keep k hk (by simp)⟩

/-- Two numbers in a struct of the six. -/
theorem trod_pt {H : Type} {enc : TypeId × Value → H} {w : World} {base : Nat} {spare : Nat → Bool} {held : Bool} {fuel : Nat} {cs : List Value} {x : DataW H × List MemPlace} {a b : Int}
    (h : DataW.trod enc Tryz.prog w base spare held fuel 65 cs = some x) (hx : x.1 = .agg [.lit (.int .i64 a), .lit (.int .i64 b)]) : cs = [.int .i64 a, .int .i64 b] := by
  obtain ⟨y0, y1, n, rfl, hl, h0, h1⟩ := trod_struct2 Tryz.underlying65 h
  simp only [c2, c65] at h0 h1 hl
  obtain ⟨k0, e0, f0, _⟩ := DataW.trod_int Tryz.underlying2 h0
  obtain ⟨k1, e1, f1, _⟩ := DataW.trod_int Tryz.underlying2 h1
  rw [f0, f1] at hx
  simp at hx
  obtain ⟨rfl, rfl⟩ := hx
  match cs, hl with
  | [x, y], _ =>
    simp at e0 e1
    rw [e0, e1]

set_option maxRecDepth 100000 in
theorem six_of_laid {W : World} (h : laidMetH Tryz.prog lsix W) : SixW W := by
  rw [MakeChecks.laidMetH_plain _ _ _ (by kernel_rfl)] at h
  obtain ⟨ps, ⟨g0, t0, cs0, f0, p0, q0, hg0, ht0, hv0, hd0, _⟩, _⟩ := h
  obtain rfl := Option.some.inj (gSix.symm.trans hg0)
  obtain rfl := Option.some.inj (tSix.symm.trans ht0)
  have hc := World.var?_cell hg0 hv0
  obtain ⟨xs, m, rfl, hx1, hlen, hn, hel⟩ := DataW.trod_array Tryz.underlying205 hd0
  have hc205 : Tryz.prog.cellsOf 205 = 12 := by kernel_rfl
  rw [hc205] at hlen
  have hx2 := congrArg Prod.fst hx1
  simp only [Rows.laid_honeycomb_axis_six, DataW.agg.injEq] at hx2
  match xs, hn, hx2, hel with
  | [x0, x1, x2, x3, x4, x5], _, hx2, hel =>
    simp only [List.map_cons, List.map_nil, List.cons.injEq, and_true] at hx2
    obtain ⟨q0, q1, q2, q3, q4, q5⟩ := hx2
    have h0 := trod_pt (hel 0 (by decide)) q0.symm
    have h1 := trod_pt (hel 1 (by decide)) q1.symm
    have h2 := trod_pt (hel 2 (by decide)) q2.symm
    have h3 := trod_pt (hel 3 (by decide)) q3.symm
    have h4 := trod_pt (hel 4 (by decide)) q4.symm
    have h5 := trod_pt (hel 5 (by decide)) q5.symm
    simp only [c65] at h0 h1 h2 h3 h4 h5
    obtain ⟨l⟩ := cs0
    match l, hlen with
    | [v0, v1, v2, v3, v4, v5, v6, v7, v8, v9, v10, v11], _ =>
      simp at h0 h1 h2 h3 h4 h5
      obtain ⟨rfl, rfl⟩ := h0
      obtain ⟨rfl, rfl⟩ := h1
      obtain ⟨rfl, rfl⟩ := h2
      obtain ⟨rfl, rfl⟩ := h3
      obtain ⟨rfl, rfl⟩ := h4
      obtain ⟨rfl, rfl⟩ := h5
      refine ⟨?_, fun i v hv => (hc i).trans hv⟩
      have := hc 0
      unfold World.cell? at this
      by_cases hp : 0 < W.heap.size
      · exact hp
      · have e : W.heap[0]? = none := Array.getElem?_eq_none_iff.2 (by omega)
        simp [e] at this
end Go.Proofs.YtnkdbpjmepfblaaGreatDoor
