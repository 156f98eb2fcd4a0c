/- Texts of the walk and its plain law, merged: MapE. -/
import Derived.Test.YtnkdbpjmepfblaaGreatDoorM27
import Derived.Maps.RangeWalk
import Derived.Lib.Hide
/- Ranging over a map of the program's own: the laws at the operations. -/
namespace Go.Proofs.YtnkdbpjmepfblaaGreatDoor
open Go
section
variable {P : Program} {κ : Type} {val : κ → Value} (w : World) {ops : Array Oper} {rest : List Oper} {o : Oper} {a : Act} {Q : Exit → Act → World → Prop}
/-- How many are left, off the world. -/
def iterLeft (w : World) (bm r : Nat) : Nat := match w.heap[r]?, w.heap[bm]? with
  | some (.mapIter _ _ seen _), some (.map es _) => (leftOf es seen).size
  | _, _ => 0
theorem RngL.left {w : World} {bm r cnt : Nat} {L : List (κ × Nat)} {done : List κ} {s : Option κ} (h : RngL w val bm r L done cnt s) : iterLeft w bm r = cnt := by
  obtain ⟨es, clock, seen, c0, k1, k2, k3, k4, k5, k6, k7, _⟩ := h.ex
  unfold iterLeft
  rw [k4, k1]
  exact k7
theorem wpList_rangeL (hg : o.guard = none) (m : Operand) (t : TypeId) (hop : o.op = Op.range t m) (k e : TypeId) (ht : P.underlying t = some (.map k e)) (bm : Nat) (L : List (κ × Nat)) (hm : a.eval m = .map (some bm)) (h : MapL w val bm L)
    (hK : ∀ ob, RngL (w.alloc ob) val bm w.heap.size L [] L.length none → wpList P ops Q rest (a.put o.dst (.pointer (some ⟨w.heap.size, 0, none⟩))) (w.alloc ob)) : wpList P ops Q (o :: rest) a w := by
  refine wpList_plain hg fun K' hK' => ?_
  obtain ⟨ob, hrun, hr⟩ := h.range (P := P) ht
  unfold Oper.wp
  simp [execOp, hop, hm, hrun, Result.andThen]
  exact hK' _ _ (hK ob hr)
/-- All keys are among these. -/
def allSeen (val : κ → Value) (L : List (κ × Nat)) (done : List κ) : Prop := ∀ p ∈ L.map Prod.fst, ∃ q ∈ done, val p = val q
theorem wpList_nextL (hg : o.guard = none) (it : Operand) (hop : o.op = Op.next it false) (bm r cnt : Nat) (L : List (κ × Nat)) (done : List κ) (s : Option κ) (hit : a.eval it = .pointer (some ⟨r, 0, none⟩)) (h : RngL w val bm r L done cnt s)
    (hDone : RowKit.Hid (allSeen val L done) → wpList P ops Q rest (a.put o.dst (.tuple #[.bool false])) w)
    (hMore : ∀ (p : κ) (v : Nat) (w' : World) (cnt' : Nat), RowKit.Hid (stepW w w' r ∧ RngL w' val bm r L (done ++ [p]) cnt' (some p) ∧ cnt' < cnt) → wpList P ops Q rest (a.put o.dst (.tuple #[.bool true, val p, .int .u32 v])) w') :
    wpList P ops Q (o :: rest) a w := by
  refine wpList_plain hg fun K' hK' => ?_
  unfold Oper.wp
  rcases h.next (P := P) o.type with ⟨h0, hrun, hl⟩ | ⟨p, v, w', cnt', hp, hrun, hst, hr, hlt⟩
  · simp [execOp, hop, hit, hrun, Result.andThen]
    exact hK' _ _ (hDone (Lib.hid hl))
  · simp [execOp, hop, hit, hrun, Result.andThen]
    exact hK' _ _ (hMore p v w' cnt' (Lib.hid ⟨hst, hr, hlt⟩))
end
end Go.Proofs.YtnkdbpjmepfblaaGreatDoor
