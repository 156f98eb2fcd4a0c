/- Texts of the walk and its plain law, merged: BuC, BuD, BuE. -/
import Derived.Test.YtnkdbpjmepfblaaGreatDoorM26
import Derived.Test.YtnkdbpjmepfblaaGreatDoorM14
import Derived.Test.YtnkdbpjmepfblaaGreatDoorM27
/- Slices of points; the memory of build. -/
namespace Go.Proofs.YtnkdbpjmepfblaaGreatDoor
open Go Go.RowKit

def pkCells (p : Pk) : List Value := [.int .i64 p.1, .int .i64 p.2]
def pkflat (L : List Pk) : List Value := L.flatMap pkCells
theorem pkflat_len (L : List Pk) : (pkflat L).length = L.length * 2 := by
  induction L with
  | nil => rfl
  | cons x L ih => unfold pkflat at *; rw [List.flatMap_cons, List.length_append, ih]; show 2 + _ = _; simp; omega
theorem pkflat_append (L M : List Pk) : pkflat (L ++ M) = pkflat L ++ pkflat M := by unfold pkflat; rw [List.flatMap_append]
theorem pkflat_get (L : List Pk) (i : Nat) (x : Pk) (h : L[i]? = some x) (k : Nat) (hk : k < 2) : (pkflat L)[i * 2 + k]? = (pkCells x)[k]? := by
  induction L generalizing i with
  | nil => simp at h
  | cons y L ih =>
    unfold pkflat at *
    rw [List.flatMap_cons]
    have hy : (pkCells y).length = 2 := rfl
    cases i with
    | zero => simp at h; subst h; rw [List.getElem?_append_left (by omega)]; simp
    | succ i =>
      simp at h
      rw [List.getElem?_append_right (by omega), hy, show (i + 1) * 2 + k - 2 = i * 2 + k by omega]
      exact ih i h
def PtRow (w : World) (v : Value) (ps : List Pk) : Prop := w.ownsRow 0 65 2 v ps.length (pkflat ps)
theorem PtRow.nil (w : World) : PtRow w (.slice none 0 0) [] := ⟨rfl, .inl ⟨rfl, rfl⟩⟩
theorem PtRow.shape {w : World} {v : Value} {ps : List Pk} (h : PtRow w v ps) : (v = .slice none 0 0 ∧ ps = []) ∨ ∃ g cap, v = .slice (some ⟨g, 0, none⟩) ps.length cap ∧ g < w.heap.size ∧ v.ownBlock = some g ∧
    ∀ (i : Nat) (p : Pk), ps[i]? = some p → w.cell? ⟨g, i * 2, none⟩ = some (.int .i64 p.1) ∧ w.cell? ⟨g, i * 2 + 1, none⟩ = some (.int .i64 p.2) := by
  have h' := h
  unfold PtRow at h'
  rcases h'.2 with ⟨h1, h2⟩ | ⟨g, cap, cur, hv, hbg, hg, _⟩
  · exact .inl ⟨h1, List.eq_nil_of_length_eq_zero h2⟩
  · refine .inr ⟨g, cap, hv, heap_lt hg, by rw [hv]; rfl, fun i p hp => ?_⟩
    subst hv
    have hk := fun k hk u hu => (by
      have := h'.cells (g := g) rfl (i * 2 + k) u (by rw [pkflat_get ps i p hp k hk]; exact hu)
      rw [addr_add] at this
      simpa using this : w.cell? ⟨g, i * 2 + k, none⟩ = some u)
    exact ⟨hk 0 (by omega) _ rfl, hk 1 (by omega) _ rfl⟩
theorem PtRow.same {w w' : World} {v : Value} {ps : List Pk} (h : PtRow w v ps) (hk : ∀ b, v.ownBlock = some b → w'.heap[b]? = w.heap[b]?) : PtRow w' v ps := ownsRow_same h hk
theorem PtRow.blt {w : World} {v : Value} {ps : List Pk} (h : PtRow w v ps) {b : Nat} (hb : v.ownBlock = some b) : b < w.heap.size := by
  rcases h.shape with ⟨h1, _⟩ | ⟨g, cap, _, h2, h3, _⟩
  · rw [h1] at hb; cases hb
  · rw [h3] at hb; injection hb with hb; omega
theorem PtRow.fr {w w' : World} {v : Value} {ps : List Pk} {o o' : List Nat} (h : PtRow w v ps) (ho : ∀ b, v.ownBlock = some b → b ∉ o) (hf : Fr w o w' o') : PtRow w' v ps :=
  h.same fun b hb => hf.keep b (h.blt hb) (ho b hb)
theorem info65 : (Tryz.prog.info? 65).map (fun i => (i.zero, i.size, i.bytes)) = some (some (.agg #[.int .i64 0, .int .i64 0]), 2, 16) := by kernel_rfl
/-- The least points of the four, i of them laid. -/
def lowsA (la lb a1 b1 : Int) : Nat → Array Value
  | 0 => #[.int .i64 0, .int .i64 0, .int .i64 0, .int .i64 0, .int .i64 0, .int .i64 0, .int .i64 0, .int .i64 0]
  | 1 => #[.int .i64 la, .int .i64 lb, .int .i64 0, .int .i64 0, .int .i64 0, .int .i64 0, .int .i64 0, .int .i64 0]
  | 2 => #[.int .i64 la, .int .i64 lb, .int .i64 a1, .int .i64 lb, .int .i64 0, .int .i64 0, .int .i64 0, .int .i64 0]
  | 3 => #[.int .i64 la, .int .i64 lb, .int .i64 a1, .int .i64 lb, .int .i64 la, .int .i64 b1, .int .i64 0, .int .i64 0]
  | _ => #[.int .i64 la, .int .i64 lb, .int .i64 a1, .int .i64 lb, .int .i64 la, .int .i64 b1, .int .i64 a1, .int .i64 b1]
structure BuM (w : World) (la lb a1 b1 : Int) (i : Nat) (wr : World) : Prop where
  fr : Fr w [] wr []
  sz : w.heap.size + 1 + 1 < wr.heap.size
  h7 : wr.heap[w.heap.size]? = some (.cells #[.int .i64 la, .int .i64 lb] 65)
  h12 : wr.heap[w.heap.size + 1]? = some (.cells #[.slice none 0 0, .slice none 0 0, .slice none 0 0, .slice none 0 0] 226)
  h13 : wr.heap[w.heap.size + 1 + 1]? = some (.cells (lowsA la lb a1 b1 i) 227)
theorem BuM.new (w : World) (la lb a1 b1 : Int) : BuM w la lb a1 b1 0 (((w.alloc (.cells #[.int .i64 la, .int .i64 lb] 65)).alloc (.cells #[.slice none 0 0, .slice none 0 0, .slice none 0 0, .slice none 0 0] 226)).alloc (.cells #[.int .i64 0, .int .i64 0, .int .i64 0, .int .i64 0, .int .i64 0, .int .i64 0, .int .i64 0, .int .i64 0] 227)) := by
  refine ⟨(((Fr.nil w).alloc _).alloc _).alloc _, by simp, ?_, ?_, ?_⟩
  · rw [Below.heap_alloc _ _ _ (by simp; omega), Below.heap_alloc _ _ _ (by simp)]; exact heap_new _ _
  · rw [Below.heap_alloc _ _ _ (by simp)]
    have := heap_new (w.alloc (.cells #[.int .i64 la, .int .i64 lb] 65)) (.cells #[.slice none 0 0, .slice none 0 0, .slice none 0 0, .slice none 0 0] 226)
    rw [World.size_alloc] at this
    exact this
  · have := heap_new ((w.alloc (.cells #[.int .i64 la, .int .i64 lb] 65)).alloc (.cells #[.slice none 0 0, .slice none 0 0, .slice none 0 0, .slice none 0 0] 226)) (.cells #[.int .i64 0, .int .i64 0, .int .i64 0, .int .i64 0, .int .i64 0, .int .i64 0, .int .i64 0, .int .i64 0] 227)
    rw [World.size_alloc, World.size_alloc] at this
    exact this
theorem BuM.set {w wr : World} {la lb a1 b1 : Int} {i : Nat} (h : BuM w la lb a1 b1 i wr) (k : Nat) (x y : Int) (j : Nat) (hA : ((lowsA la lb a1 b1 i).setIfInBounds k (.int .i64 x)).setIfInBounds (k + 1) (.int .i64 y) = lowsA la lb a1 b1 j) :
    BuM w la lb a1 b1 j ((wr.setCell ⟨w.heap.size + 1 + 1, k, none⟩ (.int .i64 x)).setCell ⟨w.heap.size + 1 + 1, k + 1, none⟩ (.int .i64 y)) := by
  have t0 := heap_setCell_same _ (w.heap.size + 1 + 1) k _ _ (.int .i64 x) h.h13
  have t1 := heap_setCell_same _ (w.heap.size + 1 + 1) (k + 1) _ _ (.int .i64 y) t0
  refine ⟨(h.fr.setCell (show w.heap.size ≤ w.heap.size + 1 + 1 by omega) _).setCell (show w.heap.size ≤ w.heap.size + 1 + 1 by omega) _, by rw [World.size_setCell, World.size_setCell]; exact h.sz, ?_, ?_, by rw [t1, hA]⟩
  · rw [heap_setCell_other _ _ _ _ (show w.heap.size ≠ w.heap.size + 1 + 1 by omega), heap_setCell_other _ _ _ _ (show w.heap.size ≠ w.heap.size + 1 + 1 by omega)]; exact h.h7
  · rw [heap_setCell_other _ _ _ _ (show w.heap.size + 1 ≠ w.heap.size + 1 + 1 by omega), heap_setCell_other _ _ _ _ (show w.heap.size + 1 ≠ w.heap.size + 1 + 1 by omega)]; exact h.h12
/-- The memory behind that: the parts, j points told. -/
structure BuN (w : World) (d : Nat) (la lb a1 b1 : Int) (ps : List Pk) (j : Nat) (V : Nat → Value) (wr : World) : Prop where
  fr : Fr w [] wr []
  sz : w.heap.size + 1 + 1 < wr.heap.size
  h7 : wr.heap[w.heap.size]? = some (.cells #[.int .i64 la, .int .i64 lb] 65)
  h12 : wr.heap[w.heap.size + 1]? = some (.cells #[V 0, V 1, V 2, V 3] 226)
  h13 : wr.heap[w.heap.size + 1 + 1]? = some (.cells (lowsA la lb a1 b1 4) 227)
  rows : ∀ t, t < 4 → PtRow wr (V t) (pickQ d la lb (ps.take j) t)
  new : ∀ t, t < 4 → ∀ b, (V t).ownBlock = some b → w.heap.size + 1 + 1 < b
  dis : ∀ t u, t < 4 → u < 4 → t ≠ u → ∀ b, (V t).ownBlock = some b → (V u).ownBlock ≠ some b
theorem BuM.buN {w wr : World} {la lb a1 b1 : Int} (h : BuM w la lb a1 b1 4 wr) (d : Nat) (ps : List Pk) : BuN w d la lb a1 b1 ps 0 (fun _ => .slice none 0 0) wr :=
  ⟨h.fr, h.sz, h.h7, h.h12, h.h13, fun t _ => PtRow.nil wr, fun t _ b hb => (by cases hb), fun t u _ _ _ b hb => (by cases hb)⟩
theorem BuN.same {w wr wz : World} {d : Nat} {la lb a1 b1 : Int} {ps : List Pk} {j : Nat} {V : Nat → Value} (h : BuN w d la lb a1 b1 ps j V wr) (hf : Fr w [] wz []) (hs : wr.heap.size ≤ wz.heap.size) (hk : ∀ b, w.heap.size ≤ b → b < wr.heap.size → wz.heap[b]? = wr.heap[b]?) : BuN w d la lb a1 b1 ps j V wz := by
  have hsz := h.sz
  exact ⟨hf, Nat.lt_of_lt_of_le h.sz hs, by rw [hk _ (by omega) (by omega)]; exact h.h7, by rw [hk _ (by omega) (by omega)]; exact h.h12, by rw [hk _ (by omega) (by omega)]; exact h.h13,
    fun t ht => (h.rows t ht).same (fun b hb => hk b (by have := h.new t ht b hb; omega) ((h.rows t ht).blt hb)), h.new, h.dis⟩
theorem BuN.ext {w wr wz : World} {d : Nat} {la lb a1 b1 : Int} {ps : List Pk} {j : Nat} {V : Nat → Value} (h : BuN w d la lb a1 b1 ps j V wr) (hf : Fr wr [] wz []) : BuN w d la lb a1 b1 ps j V wz :=
  h.same (h.fr.trans hf) hf.size (fun b _ hb => hf.keep b hb (by simp))
theorem pickQ_succ (d : Nat) (la lb : Int) (ps : List Pk) (j : Nat) (p : Pk) (hp : ps[j]? = some p) (u : Nat) :
    pickQ d la lb (ps.take (j + 1)) u = pickQ d la lb (ps.take j) u ++ (if (quart (d + 3) la lb p.1 p.2).1 = u then [p] else []) := by
  unfold pickQ
  rw [List.take_add_one, hp]
  simp only [Option.toList_some, List.filter_append]
  congr 1
  by_cases h : (quart (d + 3) la lb p.1 p.2).1 = u <;> simp [h]
theorem BuN.put {w wr wz : World} {d : Nat} {la lb a1 b1 : Int} {ps : List Pk} {j : Nat} {V : Nat → Value} (h : BuN w d la lb a1 b1 ps j V wr) {p : Pk} (hp : ps[j]? = some p) {t : Nat} (ht : t = (quart (d + 3) la lb p.1 p.2).1) (ht4 : t < 4) {v' : Value}
    (hgr : wr.grownBy wz (V t).ownBlock) (hrow : PtRow wz v' (pickQ d la lb (ps.take j) t ++ [p])) (hv : ∀ b, v'.ownBlock = some b → (V t).ownBlock = some b ∨ wr.heap.size ≤ b) :
    BuN w d la lb a1 b1 ps (j + 1) (fun u => if u = t then v' else V u) (wz.setCell ⟨w.heap.size + 1, t, none⟩ v') := by
  have hsz := h.sz
  have hnb : ∀ b, b < wr.heap.size → (V t).ownBlock ≠ some b → wz.heap[b]? = wr.heap[b]? := fun b hb hne => hgr.block b hb (Ne.symm hne)
  have hlow : ∀ b, b ≤ w.heap.size + 1 + 1 → wz.heap[b]? = wr.heap[b]? := fun b hb => hnb b (by omega) (fun e => by have := h.new t ht4 b e; omega)
  have hnew : ∀ u, u < 4 → ∀ b, (if u = t then v' else V u).ownBlock = some b → w.heap.size + 1 + 1 < b := by
    intro u hu b hb
    by_cases hut : u = t
    · rw [if_pos hut] at hb
      rcases hv b hb with h1 | h1
      · exact h.new t ht4 b h1
      · omega
    · rw [if_neg hut] at hb; exact h.new u hu b hb
  have h12 : wz.heap[w.heap.size + 1]? = some (.cells #[V 0, V 1, V 2, V 3] 226) := by rw [hlow _ (by omega)]; exact h.h12
  have hset : ∀ b, b ≠ w.heap.size + 1 → (wz.setCell ⟨w.heap.size + 1, t, none⟩ v').heap[b]? = wz.heap[b]? := fun b hb => heap_setCell_other _ _ _ _ hb
  refine ⟨(h.fr.grown' hgr (fun k hk => by have := h.new t ht4 k hk; omega)).setCell (show w.heap.size ≤ w.heap.size + 1 by omega) _, by rw [World.size_setCell]; exact Nat.lt_of_lt_of_le h.sz hgr.size, ?_, ?_, ?_, ?_, hnew, ?_⟩
  · rw [hset _ (by omega), hlow _ (by omega)]; exact h.h7
  · rw [heap_setCell_same _ _ _ _ _ _ h12]
    have hc : t = 0 ∨ t = 1 ∨ t = 2 ∨ t = 3 := by omega
    clear ht hrow hv hgr hnb hlow hnew h12 hset
    rcases hc with rfl | rfl | rfl | rfl <;> rfl
  · rw [hset _ (by omega), hlow _ (by omega)]; exact h.h13
  · intro u hu
    rw [pickQ_succ d la lb ps j p hp u, ← ht]
    by_cases hut : u = t
    · subst hut
      simp only [if_true]
      exact hrow.same (fun b hb => hset b (by
        have := hnew u hu b (by simpa using hb); omega))
    · simp only [if_neg hut, if_neg (Ne.symm hut), List.append_nil]
      refine (h.rows u hu).same (fun b hb => ?_)
      rw [hset b (by have := h.new u hu b hb; omega)]
      exact hnb b ((h.rows u hu).blt hb) (h.dis u t hu ht4 hut b hb)
  · intro x y hx hy hxy b hb
    have key : ∀ u, u < 4 → u ≠ t → ∀ b, v'.ownBlock = some b → (V u).ownBlock ≠ some b := by
      intro u hu hut b hb e
      rcases hv b hb with h1 | h1
      · exact h.dis u t hu ht4 hut b e h1
      · have := (h.rows u hu).blt e; omega
    by_cases hxt : x = t
    · rw [if_pos hxt] at hb
      rw [if_neg (fun e => hxy (hxt.trans e.symm))]
      exact key y hy (fun e => hxy (hxt.trans e.symm)) b hb
    · rw [if_neg hxt] at hb
      by_cases hyt : y = t
      · rw [if_pos hyt]
        intro e
        exact key x hx hxt b e hb
      · rw [if_neg hyt]
        exact h.dis x y hx hy hxy b hb
theorem lows_get {d : Nat} {la lb a1 b1 : Int} (h : a1 = la + ((2 ^ (d + 2) : Nat) : Int) ∧ b1 = lb + ((2 ^ (d + 2) : Nat) : Int)) {k : Nat} (hk : k < 4) :
    (lowsA la lb a1 b1 4)[k * 2]? = some (.int .i64 (kidA d la k)) ∧ (lowsA la lb a1 b1 4)[k * 2 + 1]? = some (.int .i64 (kidB d lb k)) := by
  have e0 : kidA d la 0 = la := by unfold kidA; simp
  have e1 : kidA d la 1 = a1 := by unfold kidA; rw [h.1]; simp
  have e2 : kidA d la 2 = la := by unfold kidA; simp
  have e3 : kidA d la 3 = a1 := by unfold kidA; rw [h.1]; simp
  have f0 : kidB d lb 0 = lb := by unfold kidB; simp
  have f1 : kidB d lb 1 = lb := by unfold kidB; simp
  have f2 : kidB d lb 2 = b1 := by unfold kidB; rw [h.2]; simp
  have f3 : kidB d lb 3 = b1 := by unfold kidB; rw [h.2]; simp
  have hc : k = 0 ∨ k = 1 ∨ k = 2 ∨ k = 3 := by omega
  rcases hc with rfl | rfl | rfl | rfl
  · rw [e0, f0]; exact ⟨rfl, rfl⟩
  · rw [e1, f1]; exact ⟨rfl, rfl⟩
  · rw [e2, f2]; exact ⟨rfl, rfl⟩
  · rw [e3, f3]; exact ⟨rfl, rfl⟩
/-- The memory of the last loop: kids in the making. -/
structure BuK (L : List (Pk × Nat)) (w : World) (d : Nat) (la lb a1 b1 : Int) (ps : List Pk) (V : Nat → Value) (kb mb : Nat) (acc : List Nat) (o : List Nat) (wr : World) : Prop where
  h12 : wr.heap[w.heap.size + 1]? = some (.cells #[V 0, V 1, V 2, V 3] 226)
  h13 : wr.heap[w.heap.size + 1 + 1]? = some (.cells (lowsA la lb a1 b1 4) 227)
  rows : ∀ t, t < 4 → PtRow wr (V t) (pickQ d la lb ps t)
  hk : wr.heap[kb]? = some (KBox (k4of acc))
  mp : MapL wr pkVal mb L
  no : w.heap.size + 1 ∉ o ∧ w.heap.size + 1 + 1 ∉ o ∧ kb ∉ o ∧ mb ∉ o
  nr : ∀ t, t < 4 → ∀ b, (V t).ownBlock = some b → b ∉ o
  nk : w.heap.size + 1 ≠ kb ∧ w.heap.size + 1 + 1 ≠ kb ∧ mb ≠ kb ∧ ∀ t, t < 4 → ∀ b, (V t).ownBlock = some b → b ≠ kb
theorem BuK.fr {L : List (Pk × Nat)} {w : World} {d : Nat} {la lb a1 b1 : Int} {ps : List Pk} {V : Nat → Value} {kb mb : Nat} {acc o o' : List Nat} {wr wz : World} (h : BuK L w d la lb a1 b1 ps V kb mb acc o wr) (hf : Fr wr o wz o') : BuK L w d la lb a1 b1 ps V kb mb acc o' wz := by
  have hno : ∀ b, b < wr.heap.size → b ∉ o → b ∉ o' := fun b h1 h2 hm => by
    rcases hf.own b hm with h3 | h3
    · exact h2 h3
    · omega
  have l1 := heap_lt h.h12
  have l2 := heap_lt h.h13
  have l3 := heap_lt h.hk
  have l4 := h.mp.lt
  exact ⟨by rw [hf.keep _ l1 h.no.1]; exact h.h12, by rw [hf.keep _ l2 h.no.2.1]; exact h.h13, fun t ht => (h.rows t ht).fr (h.nr t ht) hf, by rw [hf.keep _ l3 h.no.2.2.1]; exact h.hk, h.mp.same (hf.keep _ l4 h.no.2.2.2),
    ⟨hno _ l1 h.no.1, hno _ l2 h.no.2.1, hno _ l3 h.no.2.2.1, hno _ l4 h.no.2.2.2⟩, fun t ht b hb => hno b ((h.rows t ht).blt hb) (h.nr t ht b hb), h.nk⟩
theorem k4of_set (acc : List Nat) (k j : Nat) (h : acc.length = k) (hk : k < 4) : (#[.int .u32 (k4of acc).a, .int .u32 (k4of acc).b, .int .u32 (k4of acc).c, .int .u32 (k4of acc).d] : Array Value).setIfInBounds k (.int .u32 j) = #[.int .u32 (k4of (acc ++ [j])).a, .int .u32 (k4of (acc ++ [j])).b, .int .u32 (k4of (acc ++ [j])).c, .int .u32 (k4of (acc ++ [j])).d] := by
  match acc, h with
  | [], h => subst h; rfl
  | [_], h => subst h; rfl
  | [_, _], h => subst h; rfl
  | [_, _, _], h => subst h; rfl
  | _ :: _ :: _ :: _ :: _, h => simp at h; omega
theorem BuK.set {L : List (Pk × Nat)} {w : World} {d : Nat} {la lb a1 b1 : Int} {ps : List Pk} {V : Nat → Value} {kb mb : Nat} {acc o : List Nat} {wr : World} (h : BuK L w d la lb a1 b1 ps V kb mb acc o wr) {k j : Nat} (hl : acc.length = k) (hk4 : k < 4) :
    BuK L w d la lb a1 b1 ps V kb mb (acc ++ [j]) o (wr.setCell ⟨kb, k, none⟩ (.int .u32 j)) := by
  have hs : ∀ b, b ≠ kb → (wr.setCell ⟨kb, k, none⟩ (.int .u32 j)).heap[b]? = wr.heap[b]? := fun b hb => heap_setCell_other _ _ _ _ hb
  refine ⟨by rw [hs _ h.nk.1]; exact h.h12, by rw [hs _ h.nk.2.1]; exact h.h13, fun t ht => (h.rows t ht).same (fun b hb => hs b (h.nk.2.2.2 t ht b hb)), ?_, h.mp.same (hs _ h.nk.2.2.1), h.no, h.nr, h.nk⟩
  have := heap_setCell_same wr kb k _ _ (.int .u32 j) h.hk
  rw [this]
  unfold KBox
  rw [k4of_set acc k j hl hk4]
theorem k4of_ok {l : List Nat} (h : ∀ x ∈ l, x < 4294967296) : (k4of l).ok := by
  have hg : ∀ i, l.getD i 0 < 4294967296 := fun i => by
    rw [List.getD_eq_getElem?_getD]
    cases hi : l[i]? with
    | none => simp
    | some x => simpa using h x (List.mem_of_getElem? hi)
  exact ⟨hg 0, hg 1, hg 2, hg 3⟩
end Go.Proofs.YtnkdbpjmepfblaaGreatDoor

/- build: the walk. -/
namespace Go.Proofs.YtnkdbpjmepfblaaGreatDoor
open Go Go.RowKit

/-- What is asked of a call of build. -/
structure BuQ (L : List (Pk × Nat)) (d : Nat) (w : World) (ab : Nat) (A : Ar) (o : List Nat) (la lb : Int) (ps : List Pk) (v : Value) (mb : Nat) : Prop where
  aw : AW w ab A o
  wf : A.wf
  mp : MapL w pkVal mb L
  mo : mb ∉ o
  row : PtRow w v ps
  ro : ∀ b, v.ownBlock = some b → b ∉ o
  la4 : la % 4 = 0
  lb4 : lb % 4 = 0
  lad : ((2 ^ (d + 1) : Nat) : Int) ∣ la
  lbd : ((2 ^ (d + 1) : Nat) : Int) ∣ lb
  la1 : -8796093022208 ≤ la
  la2 : la + (2 ^ (d + 2) : Nat) ≤ 8796093022208
  lb1 : -8796093022208 ≤ lb
  lb2 : lb + (2 ^ (d + 2) : Nat) ≤ 8796093022208
  ks : keysIn L ps la lb (2 ^ (d + 2))
  len : ps.length ≤ 5864062014805
def BuC (L : List (Pk × Nat)) (d : Nat) : Prop := ∀ (w : World) (ab : Nat) (A : Ar) (o : List Nat) (la lb : Int) (ps : List Pk) (v : Value) (mb : Nat), BuQ L d w ab A o la lb ps v mb → ∀ (r : Except Nat Nat) (A' : Ar), A.buildF L d la lb ps = some (r, A') →
  Calls Tryz.prog 94 #[.pointer (some ⟨ab, 0, none⟩), .int .i64 ((d + 2 : Nat) : Int), .agg #[.int .i64 la, .int .i64 lb], v, .map (some mb)] w fun e w' => e = .returned (encR r) ∧ ∃ o', AW w' ab A' o' ∧ Fr w o w' o'
set_option maxRecDepth 100000 in
set_option maxHeartbeats 1600000 in
theorem build_nil {L : List (Pk × Nat)} {d : Nat} (h44 : d + 2 ≤ 44) {w : World} {ab : Nat} {A : Ar} {o : List Nat} {la lb : Int} {v : Value} {mb : Nat} (h : BuQ L d w ab A o la lb [] v mb) {r : Except Nat Nat} {A' : Ar} (hj : A.mt ((d + 2 : Nat) : Int) = some (r, A')) :
    Calls Tryz.prog 94 #[.pointer (some ⟨ab, 0, none⟩), .int .i64 ((d + 2 : Nat) : Int), .agg #[.int .i64 la, .int .i64 lb], v, .map (some mb)] w fun e w' => e = .returned (encR r) ∧ ∃ o', AW w' ab A' o' ∧ Fr w o w' o' := by
  obtain ⟨ad, cap, hv⟩ : ∃ ad cap, v = .slice ad 0 cap := by
    rcases h.row.shape with ⟨h1, _⟩ | ⟨g, cap, h1, _, _, _⟩
    · exact ⟨none, 0, h1⟩
    · exact ⟨_, cap, h1⟩
  subst hv
  have hpos : 0 < A.empty.length := by have := h.wf.elo; omega
  obtain ⟨D, hD⟩ : ∃ D : Nat, D = d + 2 := ⟨_, rfl⟩
  rw [← hD] at hj ⊢
  have HMT := Lib.hid (empty_w (h.aw.alloc (.cells #[.int .i64 la, .int .i64 lb] 65)) hpos (D : Int) (by omega) (by omega) hj)
  have HF0 := Lib.hid (show Fr w o (w.alloc (.cells #[.int .i64 la, .int .i64 lb] 65)) o from (Fr.refl w o h.aw.lt).alloc _)
  clear h hj hD
  go_enter Tryz.func94, Tryz.ntmps94
  go_wp2_with fail
  refine HMT.out.mono ?_
  rintro e w1 ⟨rfl, o1, h1, h2⟩
  have H1 := Lib.hid h1
  have H2 := Lib.hid (HF0.out.trans h2)
  clear h1 h2
  cases r <;> simp only [encR, okV, errV]
  all_goals
    go_wp2_with fail
    go_ret2
    exact ⟨rfl, o1, H1.out, H2.out⟩
set_option maxRecDepth 100000 in
set_option maxHeartbeats 1600000 in
theorem build_leaf {L : List (Pk × Nat)} (hL : ∀ p ∈ L, p.2 < 4294967296) {w : World} {ab : Nat} {A : Ar} {o : List Nat} {la lb : Int} {p : Pk} {ps : List Pk} {v : Value} {mb : Nat} (h : BuQ L 0 w ab A o la lb (p :: ps) v mb) {r : Except Nat Nat} {A' : Ar} (hj : A.leaf ((lookL L p).getD 0) = some (r, A')) :
    Calls Tryz.prog 94 #[.pointer (some ⟨ab, 0, none⟩), .int .i64 2, .agg #[.int .i64 la, .int .i64 lb], v, .map (some mb)] w fun e w' => e = .returned (encR r) ∧ ∃ o', AW w' ab A' o' ∧ Fr w o w' o' := by
  obtain ⟨g, cap, hv, hg, hc⟩ : ∃ g cap, v = .slice (some ⟨g, 0, none⟩) (p :: ps).length cap ∧ g < w.heap.size ∧ w.cell? ⟨g, 0, none⟩ = some (.int .i64 p.1) ∧ w.cell? ⟨g, 1, none⟩ = some (.int .i64 p.2) := by
    rcases h.row.shape with ⟨_, h1⟩ | ⟨g, cap, h1, h2, _, h3⟩
    · cases h1
    · have := h3 0 p rfl
      exact ⟨g, cap, h1, h2, by simpa using this.1, by simpa using this.2⟩
  subst hv
  obtain ⟨n, hn⟩ : ∃ n, n = (p :: ps).length := ⟨_, rfl⟩
  have hn1 : 0 < n := by rw [hn]; simp
  rw [← hn]
  have hlp : (0 : Int) < (n : Int) := by omega
  have hnz : ((n : Int) == 0) = false := by simp; omega
  have hn0 : ¬ (n : Int) = 0 := by omega
  have hm1 : MapL (w.alloc (.cells #[.int .i64 la, .int .i64 lb] 65)) pkVal mb L := h.mp.same (Below.heap_alloc _ _ _ h.mp.lt)
  obtain ⟨e144, hu144, hz144⟩ := und144
  have hlk : (Instr.lookup 144 (.map (some mb)) (.agg #[.int .i64 p.1, .int .i64 p.2]) false).run Tryz.prog (w.alloc (.cells #[.int .i64 la, .int .i64 lb] 65)) = .ok (.int .u32 (((lookL L p).getD 0 : Nat) : Int)) (w.alloc (.cells #[.int .i64 la, .int .i64 lb] 65)) := hm1.look1 pk_keys hu144 hz144 p
  have hf : (lookL L p).getD 0 < 4294967296 := lookL_lt hL p
  obtain ⟨f, hfe⟩ : ∃ f, f = (lookL L p).getD 0 := ⟨_, rfl⟩
  rw [← hfe] at hlk hj hf
  have c0 : (w.alloc (.cells #[.int .i64 la, .int .i64 lb] 65)).cell? ⟨g, 0, none⟩ = some (.int .i64 p.1) := by rw [← hc.1]; simp [World.cell?, Below.heap_alloc _ _ _ hg]
  have c1 : (w.alloc (.cells #[.int .i64 la, .int .i64 lb] 65)).cell? ⟨g, 1, none⟩ = some (.int .i64 p.2) := by rw [← hc.2]; simp [World.cell?, Below.heap_alloc _ _ _ hg]
  have HLF := Lib.hid (leaf_w (h.aw.alloc (.cells #[.int .i64 la, .int .i64 lb] 65)) f hf hj)
  have HF0 := Lib.hid (show Fr w o (w.alloc (.cells #[.int .i64 la, .int .i64 lb] 65)) o from (Fr.refl w o h.aw.lt).alloc _)
  clear h hj hm1 hc hfe hn hL hu144 hz144
  go_enter Tryz.func94, Tryz.ntmps94
  go_wp2_with fail
  refine HLF.out.mono ?_
  rintro e w1 ⟨rfl, o1, h1, h2⟩
  have H1 := Lib.hid h1
  have H2 := Lib.hid (HF0.out.trans h2)
  clear h1 h2
  cases r <;> simp only [encR, okV, errV]
  all_goals
    go_wp2_with fail
    go_ret2
    exact ⟨rfl, o1, H1.out, H2.out⟩
set_option maxRecDepth 100000 in
set_option maxHeartbeats 1600000 in
theorem build_step {L : List (Pk × Nat)} (hL : ∀ p ∈ L, p.2 < 4294967296) {d : Nat} (h44 : d + 3 ≤ 44) (ih : BuC L d) {w : World} {ab : Nat} {A : Ar} {o : List Nat} {la lb : Int} {ps : List Pk} {v : Value} {mb : Nat} (h : BuQ L (d + 1) w ab A o la lb ps v mb) (hne : ps ≠ []) {r : Except Nat Nat} {A' : Ar}
    (hj : mbind (Ar.fourL (fun t B => Ar.buildF L d (kidA d la t) (kidB d lb t) (pickQ d la lb ps t) B) 4 [] A) (fun l B => B.join (k4of l)) = some (r, A')) :
    Calls Tryz.prog 94 #[.pointer (some ⟨ab, 0, none⟩), .int .i64 ((d + 3 : Nat) : Int), .agg #[.int .i64 la, .int .i64 lb], v, .map (some mb)] w fun e w' => e = .returned (encR r) ∧ ∃ o', AW w' ab A' o' ∧ Fr w o w' o' := by
  obtain ⟨g, cap, hv, hg, _, hc⟩ : ∃ g cap, v = .slice (some ⟨g, 0, none⟩) ps.length cap ∧ g < w.heap.size ∧ v.ownBlock = some g ∧ ∀ (i : Nat) (p : Pk), ps[i]? = some p → w.cell? ⟨g, i * 2, none⟩ = some (.int .i64 p.1) ∧ w.cell? ⟨g, i * 2 + 1, none⟩ = some (.int .i64 p.2) := by
    rcases h.row.shape with ⟨_, h1⟩ | h1
    · exact absurd h1 hne
    · exact h1
  subst hv
  have HQ := Lib.hid h
  have HC := Lib.hid hc
  have HJ := Lib.hid hj
  have hlen := h.len
  obtain ⟨n, hn⟩ : ∃ n, n = ps.length := ⟨_, rfl⟩
  have hn1 : 0 < n := by rw [hn]; exact List.length_pos_iff.2 hne
  rw [← hn] at hlen ⊢
  have HN := Lib.hid hn
  have hnz : ((n : Int) == 0) = false := by simp; omega
  have hn0 : ¬ (n : Int) = 0 := by omega
  obtain ⟨D, hD⟩ : ∃ D : Nat, D = d + 3 := ⟨_, rfl⟩
  rw [← hD]
  have hD2 : ((D : Int) == 2) = false := by simp; omega
  have hD20 : ¬ (D : Int) = 2 := by omega
  have hdw : IntKind.i64.wrap ((D : Int) - 1) = (D : Int) - 1 := by rw [IntKind.wrap_i64]; omega
  obtain ⟨s, hs⟩ : ∃ s : Nat, s = 2 ^ (d + 2) := ⟨_, rfl⟩
  have hs43 : 2 ^ (d + 2) ≤ 2 ^ 43 := Nat.pow_le_pow_right (by decide) (by omega)
  have hdc : (D : Int) - 1 = ((d + 2 : Nat) : Int) := by omega
  have hsh : wrap64 (2 ^ (d + 2)) = (s : Int) := by
    rw [show (2 : Int) ^ (d + 2) = ((2 ^ (d + 2) : Nat) : Int) by norm_cast, hs]
    exact wrap64_nat _ (by omega)
  rw [← hs] at hs43
  have e2 : 2 ^ (d + 1 + 2) = 2 * s := by rw [hs]; exact two_pow_succ d
  have hb1 := h.la1
  have hb2 := h.la2
  have hb3 := h.lb1
  have hb4 := h.lb2
  rw [e2] at hb2 hb4
  obtain ⟨a1, ha1⟩ : ∃ a1, a1 = la + (s : Int) := ⟨_, rfl⟩
  obtain ⟨b1, hb1'⟩ : ∃ b1, b1 = lb + (s : Int) := ⟨_, rfl⟩
  have wa0 : wrap64 la = la := by unfold wrap64; omega
  have wb0 : wrap64 lb = lb := by unfold wrap64; omega
  have wa1 : wrap64 (la + wrap64 (s : Int)) = a1 := by unfold wrap64; omega
  have wb1 : wrap64 (lb + wrap64 (s : Int)) = b1 := by unfold wrap64; omega
  have bt0 : bits BinOp.and IntKind.i64 0 1 = 0 := by rfl
  have bt1 : bits BinOp.and IntKind.i64 1 1 = 1 := by rfl
  have bt2 : bits BinOp.and IntKind.i64 2 1 = 0 := by rfl
  have bt3 : bits BinOp.and IntKind.i64 3 1 = 1 := by rfl
  have qa0 : IntKind.i64.wrap la = la := by rw [IntKind.wrap_i64]; omega
  have qb0 : IntKind.i64.wrap lb = lb := by rw [IntKind.wrap_i64]; omega
  have qa1 : IntKind.i64.wrap (la + (s : Int)) = a1 := by rw [IntKind.wrap_i64]; omega
  have qb1 : IntKind.i64.wrap (lb + (s : Int)) = b1 := by rw [IntKind.wrap_i64]; omega
  have HKA := Lib.hid (show a1 = la + (s : Int) ∧ b1 = lb + (s : Int) ∧ s = 2 ^ (d + 2) from ⟨ha1, hb1', hs⟩)
  have HM0 := Lib.hid (BuM.new w la lb a1 b1)
  obtain ⟨i0, hi0, hz0, hz1, hz2⟩ := info_parts info65
  have HI0 := Lib.hid hi0
  have HI1 := Lib.hid hz0
  have HI2 := Lib.hid hz1
  have HI3 := Lib.hid hz2
  clear hi0 hz0 hz1 hz2
  have HD := Lib.hid hD
  clear h hj hc hn hne hs e2 ha1 hb1' hD
  go_enter Tryz.func94, Tryz.ntmps94
  go_wp2_with fail
  go_loopw [42] (fun v wr => ∃ i : Nat, i ≤ 4 ∧ v = .int .i64 i ∧ BuM w la lb a1 b1 i wr) (fun v _ => 4 - (intOf v).toNat)
  case atStart => exact ⟨0, by omega, rfl, HM0.out⟩
  case round =>
    clear HM0
    obtain ⟨i, hi, rfl, hm⟩ := hrel
    obtain ⟨W0, rfl⟩ : ∃ W0, W0 = wr := ⟨_, rfl⟩
    have HM := Lib.hid hm
    have c0 : W0.cell? ⟨w.heap.size, 0, none⟩ = some (.int .i64 la) := by rw [cell_of_heap hm.h7]; rfl
    have c1 : W0.cell? ⟨w.heap.size, 1, none⟩ = some (.int .i64 lb) := by rw [cell_of_heap hm.h7]; rfl
    have fr : ∀ k, W0.frozen? ⟨w.heap.size + 1 + 1, k, none⟩ = false := fun k => frozen_of_row _ _ _ _ _ hm.h13
    have h13 := hm.h13
    clear hm
    have hcase : i = 0 ∨ i = 1 ∨ i = 2 ∨ i = 3 ∨ i = 4 := by omega
    rcases hcase with rfl | rfl | rfl | rfl | rfl
    · have c3 : W0.cell? ⟨w.heap.size + 1 + 1, 0, none⟩ = some (.int .i64 0) := by rw [cell_of_heap h13]; rfl
      have c4 : W0.cell? ⟨w.heap.size + 1 + 1, 1, none⟩ = some (.int .i64 0) := by rw [cell_of_heap h13]; rfl
      have HS := Lib.hid (HM.out.set 0 la lb 1 rfl)
      simp only [show ((0 : Nat) : Int) = 0 from rfl]
      clear h13
      go_wp2_with fail
      exact ⟨⟨1, by omega, by go_num, HS.out⟩, by simp [intOf]⟩
    · have c3 : W0.cell? ⟨w.heap.size + 1 + 1, 2, none⟩ = some (.int .i64 0) := by rw [cell_of_heap h13]; rfl
      have c4 : W0.cell? ⟨w.heap.size + 1 + 1, 3, none⟩ = some (.int .i64 0) := by rw [cell_of_heap h13]; rfl
      have HS := Lib.hid (HM.out.set 2 a1 lb 2 rfl)
      simp only [show ((1 : Nat) : Int) = 1 from rfl]
      clear h13
      go_wp2_with fail
      exact ⟨⟨2, by omega, by go_num, HS.out⟩, by simp [intOf]⟩
    · have c3 : W0.cell? ⟨w.heap.size + 1 + 1, 4, none⟩ = some (.int .i64 0) := by rw [cell_of_heap h13]; rfl
      have c4 : W0.cell? ⟨w.heap.size + 1 + 1, 5, none⟩ = some (.int .i64 0) := by rw [cell_of_heap h13]; rfl
      have HS := Lib.hid (HM.out.set 4 la b1 3 rfl)
      simp only [show ((2 : Nat) : Int) = 2 from rfl]
      clear h13
      go_wp2_with fail
      exact ⟨⟨3, by omega, by go_num, HS.out⟩, by simp [intOf]⟩
    · have c3 : W0.cell? ⟨w.heap.size + 1 + 1, 6, none⟩ = some (.int .i64 0) := by rw [cell_of_heap h13]; rfl
      have c4 : W0.cell? ⟨w.heap.size + 1 + 1, 7, none⟩ = some (.int .i64 0) := by rw [cell_of_heap h13]; rfl
      have HS := Lib.hid (HM.out.set 6 a1 b1 4 rfl)
      simp only [show ((3 : Nat) : Int) = 3 from rfl]
      clear h13
      go_wp2_with fail
      exact ⟨⟨4, by omega, by go_num, HS.out⟩, by simp [intOf]⟩
    · have HN0 := Lib.hid (HM.out.buN d ps)
      simp only [show ((4 : Nat) : Int) = 4 from rfl]
      clear h13 fr c0 c1 HM bt0 bt1 bt2 bt3 wa0 wb0 wa1 wb1
      go_wp2_with fail
      go_loopw [68] (fun v wr => ∃ (j : Nat) (V : Nat → Value), j ≤ n ∧ v = .int .i64 j ∧ BuN w d la lb a1 b1 ps j V wr) (fun v _ => n - (intOf v).toNat)
      case atStart => exact ⟨0, _, by omega, rfl, HN0.out⟩
      case round =>
        clear HN0
        obtain ⟨j, V, hj, rfl, hm⟩ := hrel
        obtain ⟨W0, rfl⟩ : ∃ W0, W0 = wr := ⟨_, rfl⟩
        have HM := Lib.hid hm
        by_cases hgo : j < n
        · have hli : (j : Int) < (n : Int) := by omega
          obtain ⟨p, hp⟩ : ∃ p, ps[j]? = some p := ⟨_, List.getElem?_eq_getElem (by rw [← HN.out]; exact hgo)⟩
          have hgk := hm.fr.keep g hg (by simp)
          have c0 : W0.cell? ⟨g, j * 2, none⟩ = some (.int .i64 p.1) := by rw [← (HC.out j p hp).1]; simp [World.cell?, hgk]
          have c1 : W0.cell? ⟨g, j * 2 + 1, none⟩ = some (.int .i64 p.2) := by rw [← (HC.out j p hp).2]; simp [World.cell?, hgk]
          have HP := Lib.hid hp
          obtain ⟨W1, hW1⟩ : ∃ W1, W1 = W0.alloc (.cells #[.int .i64 p.1, .int .i64 p.2] 65) := ⟨_, rfl⟩
          obtain ⟨b17, hb17⟩ : ∃ b17, b17 = W0.heap.size := ⟨_, rfl⟩
          have HBV := Lib.hid (show ∀ u, u < 4 → ∀ b, (V u).ownBlock = some b → b < b17 from fun u hu b hb => by rw [hb17]; exact (hm.rows u hu).blt hb)
          have hm1 : BuN w d la lb a1 b1 ps j V W1 := by rw [hW1]; exact hm.ext ((Fr.nil W0).alloc _)
          have hh17 : W1.heap[b17]? = some (.cells #[.int .i64 p.1, .int .i64 p.2] 65) := by rw [hW1, hb17]; exact heap_new _ _
          have HM1 := Lib.hid hm1
          have H17 := Lib.hid hh17
          have d0 : (W0.alloc (.cells #[.int .i64 p.1, .int .i64 p.2] 65)).cell? ⟨w.heap.size, 0, none⟩ = some (.int .i64 la) := by rw [← hW1, cell_of_heap hm1.h7]; rfl
          have d1 : (W0.alloc (.cells #[.int .i64 p.1, .int .i64 p.2] 65)).cell? ⟨w.heap.size, 1, none⟩ = some (.int .i64 lb) := by rw [← hW1, cell_of_heap hm1.h7]; rfl
          have d2 : (W0.alloc (.cells #[.int .i64 p.1, .int .i64 p.2] 65)).cell? ⟨W0.heap.size, 0, none⟩ = some (.int .i64 p.1) := by rw [← hW1, ← hb17, cell_of_heap hh17]; rfl
          have d3 : (W0.alloc (.cells #[.int .i64 p.1, .int .i64 p.2] 65)).cell? ⟨W0.heap.size, 1, none⟩ = some (.int .i64 p.2) := by rw [← hW1, ← hb17, cell_of_heap hh17]; rfl
          have hd44 := HD.out
          have hqc := fun W => quarter_c D (by omega) (by omega) la lb p.1 p.2 (by omega) (by omega) (by omega) (by omega) W
          obtain ⟨t, ht⟩ : ∃ t, t = (quart D la lb p.1 p.2).1 := ⟨_, rfl⟩
          obtain ⟨q1, hq1⟩ : ∃ q1, q1 = (quart D la lb p.1 p.2).2.1 := ⟨_, rfl⟩
          obtain ⟨q2, hq2⟩ : ∃ q2, q2 = (quart D la lb p.1 p.2).2.2 := ⟨_, rfl⟩
          rw [← ht, ← hq1, ← hq2] at hqc
          have HQC := Lib.hid hqc
          have ht4 : t < 4 := by rw [ht, hd44]; exact (quart_kid d la lb p.1 p.2).1
          have HT := Lib.hid (show t = (quart (d + 3) la lb p.1 p.2).1 by rw [ht, hd44])
          clear hm hp hgk hm1 hh17 hqc ht hq1 hq2 hd44
          go_wp2_with fail
          rw [← hW1, ← hb17]
          clear d0 d1 d2 d3 c0 c1 hW1 hb17
          refine (HQC.out W1).mono ?_
          rintro e w2 ⟨rfl, hf2⟩
          obtain ⟨W3, hW3⟩ : ∃ W3, W3 = w2.alloc (.cells #[.int .i64 q1, .int .i64 q2] 65) := ⟨_, rfl⟩
          have hm3 : BuN w d la lb a1 b1 ps j V W3 := by rw [hW3]; exact HM1.out.ext (hf2.alloc _)
          have hh3 : W3.heap[b17]? = some (.cells #[.int .i64 p.1, .int .i64 p.2] 65) := by rw [hW3, (hf2.alloc _).keep _ (heap_lt H17.out) (by simp)]; exact H17.out
          have HM3 := Lib.hid hm3
          have hy : ∀ y : CO W3 (V t).ownBlock.toList, y.x.cell? ⟨w.heap.size + 1, t, none⟩ = some (V t) := fun y => by
            have := y.h (w.heap.size + 1) (by have := hm3.sz; omega) (fun hb => by have := hm3.new t ht4 _ (by simpa using hb); omega)
            rw [hm3.h12] at this
            rw [cell_of_heap this]
            have hc : t = 0 ∨ t = 1 ∨ t = 2 ∨ t = 3 := by omega
            rcases hc with h | h | h | h <;> rw [h] <;> rfl
          have hyb : ∀ y : CO W3 (V t).ownBlock.toList, y.x.heap[b17]? = some (.cells #[.int .i64 p.1, .int .i64 p.2] 65) := fun y => by
            have := y.h b17 (heap_lt hh3) (fun hb => by have := HBV.out t ht4 _ (by simpa using hb); omega)
            rw [hh3] at this
            exact this
          have hya : ∀ y : CO W3 (V t).ownBlock.toList, y.x.cell? ⟨b17, 0, none⟩ = some (.int .i64 p.1) := fun y => by rw [cell_of_heap (hyb y)]; rfl
          have hyc : ∀ y : CO W3 (V t).ownBlock.toList, y.x.cell? ⟨b17, 1, none⟩ = some (.int .i64 p.2) := fun y => by rw [cell_of_heap (hyb y)]; rfl
          have HVT := Lib.hid (hm3.rows t ht4)
          have hti : (t : Int) < 4 := by omega
          clear hm3 hh3 hyb hf2
          go_wp2_with fail
          rw [← hW3]
          clear hW3
          refine wp_region_mixed 2 7 [5, 6] (by kernel_rfl) (by kernel_rfl) (fun _ _ d _ _ h => by cases d <;> exact h) (CO W3 (V t).ownBlock.toList) CO.x ⟨W3.drew, fun _ _ _ => rfl⟩ rfl ?_
          simp only [List.take_succ_cons, List.take_zero, List.drop_succ_cons, List.drop_zero, moved]
          repeat (refine wpStillC_step (by decide) (fun K hK => ?_); go_simp; (try simp only [hy, hya, hyc]); (try go_simp); refine hK _ ?_; clear hK K)
          have hak : ∀ b, b < W3.heap.size → b ∉ (V t).ownBlock.toList → (W3.alloc (.cells #[.int .i64 p.1, .int .i64 p.2] 65)).drew.heap[b]? = W3.heap[b]? := fun b hb _ => Below.heap_alloc _ _ _ hb
          have HAK := Lib.hid hak
          have HM4 := Lib.hid (HM3.out.ext (((Fr.nil W3).alloc (.cells #[.int .i64 p.1, .int .i64 p.2] 65)).drew))
          have HNW := Lib.hid (show (W3.alloc (.cells #[.int .i64 p.1, .int .i64 p.2] 65)).drew.heap[W3.heap.size]? = some (.cells #[.int .i64 p.1, .int .i64 p.2] 65) from heap_new _ _)
          clear hak
          refine wpStillC_forced (by decide) ⟨⟨W3.drew, fun _ _ _ => rfl⟩, rfl⟩ ?_
          go_wp2_with fail
          refine ⟨⟨⟨_, HAK.out⟩, rfl⟩, ?_⟩
          refine wpStillC_forced (by decide) ⟨⟨_, HAK.out⟩, rfl⟩ ?_
          clear hy hya hyc
          have hpl : (pickQ d la lb (ps.take j) t).length ≤ j := by
            unfold pickQ
            exact Nat.le_trans (List.length_filter_le _ _) (by rw [List.length_take]; omega)
          refine wpList_append_where _ rfl (.tmp 82) (.tmp 84) 146 rfl 65 i0 _ 2 16 Tryz.underlying146 HI0.out HI1.out HI2.out HI3.out rfl (by decide) (V t) _ _ rfl (HM4.out.rows t ht4) ⟨W3.heap.size, 0, none⟩ 1 1 (pkCells p) rfl rfl ?c2 ?c1 (by decide) ?c3 ?c4 ?_
          case c2 =>
            intro k u hu
            rw [addr_add, cell_of_heap HNW.out]
            have : k = 0 ∨ k = 1 := by have := (List.getElem?_eq_some_iff.1 hu).1; simp [pkCells] at this; omega
            rcases this with rfl | rfl <;> exact hu
          case c1 => intro u hu; simp only [pkCells, List.mem_cons, List.not_mem_nil, or_false] at hu; rcases hu with rfl | rfl <;> rfl
          case c3 => unfold maxLen; omega
          case c4 => omega
          intro g' cap' w5 hown' hgr hwh hglt
          have hrow5 : PtRow w5 (.slice (some ⟨g', 0, none⟩) ((pickQ d la lb (ps.take j) t).length + 1) cap') (pickQ d la lb (ps.take j) t ++ [p]) := by
            unfold PtRow
            rw [List.length_append, pkflat_append]
            exact hown'
          have hput := HM4.out.put HP.out HT.out ht4 hgr hrow5 (fun b hb => by
            have hb' : b = g' := by simpa [Value.ownBlock] using hb.symm
            rw [hb']; exact hwh)
          have HPUT := Lib.hid hput
          have h12 : w5.heap[w.heap.size + 1]? = some (.cells #[V 0, V 1, V 2, V 3] 226) := by
            rw [hgr.block _ (by have := HM4.out.sz; omega) (fun e => by have := HM4.out.new t ht4 _ e.symm; omega)]; exact HM4.out.h12
          have hcw : ∀ b, b < W3.heap.size → b ∉ (V t).ownBlock.toList → w5.heap[b]? = W3.heap[b]? := fun b hb hn => by
            rw [hgr.block b (by show _ < (W3.alloc _).heap.size; rw [World.size_alloc]; omega) (fun e => hn (by simp [← e]))]
            exact HAK.out b hb hn
          have HCW := Lib.hid hcw
          have e0 : w5.cell? ⟨w.heap.size + 1, t, none⟩ = some (V t) := by
            rw [cell_of_heap h12]
            have hc : t = 0 ∨ t = 1 ∨ t = 2 ∨ t = 3 := by omega
            rcases hc with h | h | h | h <;> rw [h] <;> rfl
          have f0 : w5.frozen? ⟨w.heap.size + 1, t, none⟩ = false := frozen_of_row _ _ _ _ _ h12
          clear hown' hgr hwh hglt hrow5 hput h12 hcw hpl
          go_wp2_with fail
          refine ⟨⟨⟨_, HCW.out⟩, rfl⟩, wpStillC_nil ⟨⟨⟨_, HCW.out⟩, rfl⟩, ?_⟩⟩
          go_wp2_with fail
          refine ⟨⟨j + 1, _, by omega, by go_num, HPUT.out⟩, by simp only [intOf]; omega⟩
        · obtain rfl : j = n := by omega
          have hni : ¬ (j : Int) < (j : Int) := by omega
          have htk : ps.take j = ps := List.take_of_length_le (by rw [← HN.out]; omega)
          obtain ⟨kb, hkb⟩ : ∃ kb, kb = W0.heap.size := ⟨_, rfl⟩
          have hfw := hm.fr
          have hown : ∀ b, w.heap.size ≤ b → b ∉ o := fun b hb hm => by have := HQ.out.aw.lt b hm; omega
          have hfa : Fr w [] (W0.alloc (KBox (k4of []))) [] := hfw.alloc _
          have hkk : ∀ b, b < W0.heap.size → (W0.alloc (KBox (k4of []))).heap[b]? = W0.heap[b]? := fun b hb => Below.heap_alloc _ _ _ hb
          have hsz := hm.sz
          have HK0 := Lib.hid (show BuK L w d la lb a1 b1 ps V kb mb [] o (W0.alloc (KBox (k4of []))) from
            ⟨by rw [hkk _ (by omega)]; exact hm.h12, by rw [hkk _ (by omega)]; exact hm.h13, fun t ht => by
              have := hm.rows t ht
              rw [htk] at this
              exact this.same (fun b hb => hkk b (this.blt hb)), by rw [hkb]; exact heap_new _ _, HQ.out.mp.same (hfa.keep _ HQ.out.mp.lt (by simp)),
              ⟨hown _ (by omega), hown _ (by omega), hown _ (by omega), HQ.out.mo⟩, fun t ht b hb => hown b (by have := hm.new t ht b hb; omega),
              ⟨by omega, by omega, by have := HQ.out.mp.lt; omega, fun t ht b hb => by have := (hm.rows t ht).blt hb; omega⟩⟩)
          have HA0 := Lib.hid (show AW (W0.alloc (KBox (k4of []))) ab A o from HQ.out.aw.ext hfa)
          have HF0 := Lib.hid (show Fr w o (W0.alloc (KBox (k4of []))) o from ⟨hfa.os, hfa.tape, hfa.output, hfa.size, fun b hb _ => hfa.keep b hb (by simp), fun b hb => .inl hb, fun b hb => Nat.lt_of_lt_of_le (HQ.out.aw.lt b hb) hfa.size⟩)
          have HKS := Lib.hid (show w.heap.size ≤ kb by rw [hkb]; exact hfw.size)
          have HKB := Lib.hid hkb
          obtain ⟨D1, hD1⟩ : ∃ D1 : Int, D1 = ((d + 2 : Nat) : Int) := ⟨_, rfl⟩
          have hdc2 : (D : Int) - 1 = D1 := by rw [hD1]; exact hdc
          have HD1 := Lib.hid hD1
          have hw1 : wrap64 D1 = D1 := by unfold wrap64; omega
          clear hm hfw hown hfa hkk hsz htk hkb hD1 hdc hsh qa0 qb0 qa1 qb1 HM
          go_wp2_with fail
          rw [← HKB.out]
          go_loopw [88] (fun v wr => ∃ (k : Nat) (acc : List Nat) (A2 : Ar) (o2 : List Nat), k ≤ 4 ∧ v = .int .i64 k ∧ acc.length = k ∧ (∀ x ∈ acc, x < 4294967296) ∧ BuK L w d la lb a1 b1 ps V kb mb acc o2 wr ∧ AW wr ab A2 o2 ∧ A2.wf ∧ Fr w o wr o2 ∧
            mbind (Ar.fourL (fun t B => Ar.buildF L d (kidA d la t) (kidB d lb t) (pickQ d la lb ps t) B) (4 - k) acc A2) (fun l B => B.join (k4of l)) = some (r, A')) (fun v _ => 4 - (intOf v).toNat)
          case atStart => exact ⟨0, [], A, o, by omega, rfl, rfl, by simp, HK0.out, HA0.out, HQ.out.wf, HF0.out, HJ.out⟩
          case round =>
            clear HK0 HA0 HF0 HJ
            obtain ⟨k, acc, A2, o2, hk, rfl, hacc, hlt, hK, hA, hwf, hF, hj⟩ := hrel
            obtain ⟨W5, rfl⟩ : ∃ W5, W5 = wr := ⟨_, rfl⟩
            have HK := Lib.hid hK
            have HA := Lib.hid hA
            have HF := Lib.hid hF
            have HACC := Lib.hid hacc
            have HLT := Lib.hid hlt
            have HWF := Lib.hid hwf
            clear hA hwf hF hacc hlt
            by_cases hgo : k < 4
            · have hki : (k : Int) < 4 := by omega
              obtain ⟨m, hm⟩ : ∃ m, 4 - k = m + 1 := ⟨3 - k, by omega⟩
              rw [hm] at hj
              have HMM := Lib.hid hm
              simp only [Ar.fourL] at hj
              rw [show 3 - m = k by omega] at hj
              have hlows := lows_get (d := d) (la := la) (lb := lb) (a1 := a1) (b1 := b1) ⟨by rw [← HKA.out.2.2]; exact HKA.out.1, by rw [← HKA.out.2.2]; exact HKA.out.2.1⟩ hgo
              have hz : ∀ z : CW W5, BuK L w d la lb a1 b1 ps V kb mb acc o2 z.x := fun z => by
                have := hK
                exact ⟨by rw [z.h.keep _ (heap_lt hK.h12) (by simp)]; exact hK.h12, by rw [z.h.keep _ (heap_lt hK.h13) (by simp)]; exact hK.h13, fun t ht => (hK.rows t ht).fr (by simp) z.h, by rw [z.h.keep _ (heap_lt hK.hk) (by simp)]; exact hK.hk, hK.mp.same (z.h.keep _ hK.mp.lt (by simp)), hK.no, hK.nr, hK.nk⟩
              have z0 : ∀ z : CW W5, z.x.cell? ⟨w.heap.size + 1 + 1, k * 2, none⟩ = some (.int .i64 (kidA d la k)) := fun z => by rw [cell_of_heap (hz z).h13]; exact hlows.1
              have z1 : ∀ z : CW W5, z.x.cell? ⟨w.heap.size + 1 + 1, k * 2 + 1, none⟩ = some (.int .i64 (kidB d lb k)) := fun z => by rw [cell_of_heap (hz z).h13]; exact hlows.2
              have z2 : ∀ z : CW W5, z.x.cell? ⟨w.heap.size + 1, k, none⟩ = some (V k) := fun z => by
                rw [cell_of_heap (hz z).h12]
                have hc : k = 0 ∨ k = 1 ∨ k = 2 ∨ k = 3 := by omega
                rcases hc with h | h | h | h <;> rw [h] <;> rfl
              have HKD := Lib.hid (hz ⟨W5.drew, (Fr.nil W5).drew⟩)
              obtain ⟨x, hx⟩ : ∃ x, x = A2.buildF L d (kidA d la k) (kidB d lb k) (pickQ d la lb ps k) := ⟨_, rfl⟩
              rw [← hx] at hj
              cases x with
              | none => cases hj
              | some ra =>
                obtain ⟨r1, A3⟩ := ra
                have e4 : 2 ^ (d + 2) = 4 * 2 ^ d := by rw [Nat.pow_add]; omega
                have hs := HKA.out.2.2
                have hks := HQ.out.ks.kid hgo
                have ga4 : kidA d la k % 4 = 0 := by
                  have := HQ.out.la4
                  unfold kidA; rw [e4]
                  have hc : k % 2 = 0 ∨ k % 2 = 1 := by omega
                  rcases hc with h | h <;> rw [h] <;> omega
                have gb4 : kidB d lb k % 4 = 0 := by
                  have := HQ.out.lb4
                  unfold kidB; rw [e4]
                  have hc : k / 2 = 0 ∨ k / 2 = 1 := by omega
                  rcases hc with h | h <;> rw [h] <;> omega
                have gad : ((2 ^ (d + 1) : Nat) : Int) ∣ kidA d la k := by
                  unfold kidA
                  exact Int.dvd_add (Int.dvd_trans (dvd_pw1 (by omega)) HQ.out.lad) (dvd_pw (by omega) _)
                have gbd : ((2 ^ (d + 1) : Nat) : Int) ∣ kidB d lb k := by
                  unfold kidB
                  exact Int.dvd_add (Int.dvd_trans (dvd_pw1 (by omega)) HQ.out.lbd) (dvd_pw (by omega) _)
                have gar : -8796093022208 ≤ kidA d la k ∧ kidA d la k + (2 ^ (d + 2) : Nat) ≤ 8796093022208 := by
                  unfold kidA; rw [← hs]
                  have hc : k % 2 = 0 ∨ k % 2 = 1 := by omega
                  rcases hc with h | h <;> rw [h] <;> omega
                have gbr : -8796093022208 ≤ kidB d lb k ∧ kidB d lb k + (2 ^ (d + 2) : Nat) ≤ 8796093022208 := by
                  unfold kidB; rw [← hs]
                  have hc : k / 2 = 0 ∨ k / 2 = 1 := by omega
                  rcases hc with h | h <;> rw [h] <;> omega
                have hpl : (pickQ d la lb ps k).length ≤ 5864062014805 := Nat.le_trans (List.length_filter_le _ _) HQ.out.len
                have hgoes := Ar.goes_build hL (F := FT) (Al.FT _) d HWF.out (by omega) ga4 gb4 gad gbd hks
                have hih := ih W5.drew ab A2 o2 _ _ _ (V k) mb ⟨HA.out.ext (Fr.nil W5).drew, HWF.out, HKD.out.mp, HKD.out.no.2.2.2, HKD.out.rows k hgo, HKD.out.nr k hgo, ga4, gb4, gad, gbd, gar.1, gar.2, gbr.1, gbr.2, hks, hpl⟩ _ _ hx.symm
                rw [← HD1.out] at hih
                have HIH := Lib.hid hih
                have HGO := Lib.hid hgoes
                have HX := Lib.hid hx
                have HJ := Lib.hid hj
                clear hlows hz hx hj hks ga4 gb4 gad gbd gar gbr hpl hgoes hih hs e4 hm hK
                obtain ⟨ka, hka⟩ : ∃ ka, ka = kidA d la k := ⟨_, rfl⟩
                obtain ⟨kc, hkc⟩ : ∃ kc, kc = kidB d lb k := ⟨_, rfl⟩
                rw [← hka] at z0 HIH
                rw [← hkc] at z1 HIH
                clear hka hkc
                have hne : Nonempty World := ⟨w⟩
                go_wp2_with fail
                refine wp_region_two 3 17 11 [11, 16] [3, 4, 5, 6, 7, 8, 9, 10, 11, 12, 13, 14, 15, 16] (by kernel_rfl) (by kernel_rfl) (fun _ _ d _ _ h => by cases d <;> exact h) (fun w' => ∃ z : CW W5, w' = z.x) (fun w' => ∃ z : World, w' = z) ⟨⟨_, (Fr.nil W5).drew⟩, rfl⟩ ⟨_, rfl⟩ ?_
                simp only [List.take_succ_cons, List.take_zero, List.drop_succ_cons, List.drop_zero, moved, pickO, List.getElem?_cons_succ, List.getElem?_cons_zero]
                iterate 8 (refine wpStillT_step (by decide) (by kernel_rfl) (fun K hK => ?_); go_simp; (try simp only [z0, z1, z2, hdw, hdc2]); (try go_simp); refine hK _ ?_; clear hK K)
                refine wpStillT_forced (by decide) (fun _ => ⟨⟨_, (Fr.nil W5).drew⟩, rfl⟩) ⟨_, rfl⟩ ?_
                clear z0 z1 z2
                go_wp2_with fail
                rw [hw1]
                refine HIH.out.mono ?_
                rintro e w6 ⟨rfl, o3, hA3, hF3⟩
                have HK6 := Lib.hid (HKD.out.fr hF3)
                have HA6 := Lib.hid hA3
                have HF6 := Lib.hid ((HF.out.drew).trans hF3)
                have hk6 := HK6.out.hk
                have f0 : w6.frozen? ⟨kb, k, none⟩ = false := frozen_of_row _ _ _ _ _ hk6
                obtain ⟨u0, e0⟩ : ∃ u0, w6.cell? ⟨kb, k, none⟩ = some u0 := by
                  rw [cell_of_heap hk6]
                  have hc : k = 0 ∨ k = 1 ∨ k = 2 ∨ k = 3 := by omega
                  rcases hc with h | h | h | h <;> rw [h] <;> exact ⟨_, rfl⟩
                have hkl := HKS.out
                have hno3 := HK6.out.no.2.2.1
                clear hA3 hF3 hk6
                cases r1 with
                | error c =>
                  have hj := HJ.out
                  simp only [mbind] at hj
                  obtain ⟨rfl, rfl⟩ : Except.error c = r ∧ A3 = A' := by simpa using hj
                  have HA7 := Lib.hid (HA6.out.setNew (a := ⟨kb, k, none⟩) hno3 (.int .u32 0))
                  have HF7 := Lib.hid (HF6.out.setCell (a := ⟨kb, k, none⟩) hkl (.int .u32 0))
                  clear hj
                  simp only [encR, errV]
                  go_wp2_with fail
                  refine ⟨⟨_, rfl⟩, ?_⟩
                  iterate 4 (refine wpStillT_late (by decide) (by kernel_rfl) (fun K hK => ?_); go_simp; refine hK _ ?_; clear hK K)
                  refine wpStillT_forced (by decide) (fun h => absurd h (by decide)) ⟨_, rfl⟩ ?_
                  go_wp2_with fail
                  refine ⟨⟨_, rfl⟩, wpStillT_nil ?_⟩
                  go_wp2_with fail
                  go_ret2
                  exact ⟨rfl, o3, HA7.out, HF7.out⟩
                | ok i =>
                  have hj := HJ.out
                  simp only [mbind] at hj
                  have HJ6 := Lib.hid hj
                  obtain ⟨hst, hwf3, hW3⟩ := HGO.out.fine i A3 HX.out.symm
                  have hil : i < 4294967296 := by
                    have h1 : i < A3.nodes.length := Ar.level_lt (by rw [hW3.lv]; omega)
                    have h2 : A3.nodes.length < 4294967296 := hwf3.len
                    omega
                  have HWF3 := Lib.hid (show A3.wf from hwf3)
                  have HK7 := Lib.hid (HK6.out.set (j := i) HACC.out hgo)
                  have HA7 := Lib.hid (HA6.out.setNew (a := ⟨kb, k, none⟩) hno3 (.int .u32 i))
                  have HF7 := Lib.hid (HF6.out.setCell (a := ⟨kb, k, none⟩) hkl (.int .u32 i))
                  clear hj hst hwf3 hW3
                  simp only [encR, okV]
                  go_wp2_with fail
                  refine ⟨⟨_, rfl⟩, ?_⟩
                  iterate 4 (refine wpStillT_late (by decide) (by kernel_rfl) (fun K hK => ?_); go_simp; refine hK _ ?_; clear hK K)
                  refine wpStillT_forced (by decide) (fun h => absurd h (by decide)) ⟨_, rfl⟩ ?_
                  go_wp2_with fail
                  refine ⟨⟨_, rfl⟩, wpStillT_nil ?_⟩
                  go_wp2_with fail
                  refine ⟨⟨k + 1, acc ++ [i], A3, o3, by omega, by go_num, by rw [List.length_append, HACC.out]; rfl, fun x hx => ?_, HK7.out, HA7.out, HWF3.out, HF7.out, ?_⟩, by simp only [intOf]; omega⟩
                  · rcases List.mem_append.1 hx with h | h
                    · exact HLT.out x h
                    · obtain rfl := List.mem_singleton.1 h; exact hil
                  · have := HJ6.out
                    rwa [show m = 4 - (k + 1) by have := HMM.out; omega] at this
            · obtain rfl : k = 4 := by omega
              simp only [Nat.sub_self, Ar.fourL, mbind] at hj
              have hjw := join_w HA.out (k4of acc) (k4of_ok HLT.out) hj
              have HJW := Lib.hid hjw
              have hkk := HK.out.hk
              unfold KBox at hkk
              have q0 := cell_of_heap hkk 0
              have q1 := cell_of_heap hkk 1
              have q2 := cell_of_heap hkk 2
              have q3 := cell_of_heap hkk 3
              simp only [List.getElem?_toArray, List.getElem?_cons_zero, List.getElem?_cons_succ] at q0 q1 q2 q3
              clear hj hjw hkk hK
              simp only [show ((4 : Nat) : Int) = 4 from rfl]
              go_wp2_with fail
              refine HJW.out.mono ?_
              rintro e w6 ⟨rfl, o3, hA3, hF3⟩
              have hq : ∃ o', AW w6 ab A' o' ∧ Fr w o w6 o' := ⟨o3, hA3, HF.out.trans hF3⟩
              have HQ6 := Lib.hid hq
              clear hA3 hF3 q0 q1 q2 q3 hq
              cases r <;> simp only [encR, okV, errV]
              all_goals
                go_wp2_with fail
                go_ret2
                exact ⟨rfl, HQ6.out⟩
end Go.Proofs.YtnkdbpjmepfblaaGreatDoor

/- build: whatever the level. -/
namespace Go.Proofs.YtnkdbpjmepfblaaGreatDoor
open Go Go.RowKit

theorem build_w {L : List (Pk × Nat)} (hL : ∀ p ∈ L, p.2 < 4294967296) (d : Nat) : d + 2 ≤ 44 → BuC L d := by
  induction d with
  | zero =>
    intro h44 w ab A o la lb ps v mb h r A' hj
    cases ps with
    | nil => exact build_nil h44 h hj
    | cons p ps => exact build_leaf hL h hj
  | succ d ihd =>
    intro h44 w ab A o la lb ps v mb h r A' hj
    by_cases hps : ps = []
    · subst hps
      simp only [Ar.buildF, if_true] at hj
      exact build_nil h44 h hj
    · simp only [Ar.buildF] at hj
      rw [if_neg hps] at hj
      exact build_step hL h44 (ihd (by omega)) h hps hj
end Go.Proofs.YtnkdbpjmepfblaaGreatDoor
