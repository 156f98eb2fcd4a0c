/- Texts of the walk and its plain law, merged: Region, RegionB, RegionC, RegionD. -/
import Derived.Test.YtnkdbpjmepfblaaGreatDoorProg
import Derived.StillTail
import Derived.StillTailTactics
import Derived.Deep.Quiet
import Derived.Deep.QuietTactic
import Derived.BigQuiet
/- Plain: a region that draws its order: pieces of operations that leave the world in a class, and single operations between them that all wait for and that wait for all. -/
namespace Go.Proofs.YtnkdbpjmepfblaaGreatDoor
open Go
section
variable {P : Program} {ops : Array Oper} {md : Region.Mode} {C : World → Prop}

theorem wpQuiet_mono {Q Q' : Act → Prop} (hq : ∀ a, Q a → Q' a) : ∀ {l : List Oper} {a : Act}, wpQuiet P ops C Q l a → wpQuiet P ops C Q' l a
  | [], _, h => hq _ h
  | o :: l, a, h => by
    unfold wpQuiet at *
    split
    · rename_i hw; rw [if_pos hw] at h; exact Oper.quiet_mono (fun a h => wpQuiet_mono hq h) h
    · rename_i hw; rw [if_neg hw] at h; exact wpQuiet_mono hq h
/-- Each operation from k on, below n, is waited for by a later one, up to n; each one behind n waits for an earlier one, from n on. -/
def sinkFrom (md : Region.Mode) (ops : Array Oper) (k n : Nat) : Bool :=
  (List.range n).all fun i => decide (i < k) || ((List.range (n + 1)).any fun j => decide (i < j) && Region.waitsFor md ops j i)
def behind (md : Region.Mode) (ops : Array Oper) (n : Nat) : Bool :=
  (List.range ops.size).all fun t => decide (t ≤ n) || ((List.range t).any fun s => decide (n ≤ s) && Region.waitsFor md ops t s)

theorem tail_waits' {k n : Nat} {listed : Array Bool} (hs : sinkFrom md ops k n = true) (hc : behind md ops n = true) (hn : n < ops.size) (inv : HeadInv md ops n listed) :
    ∀ (d i : Nat), n - i = d → k ≤ i → i < n → listed.getD i true = false → ∀ t, n ≤ t → t ∉ Region.ready md ops listed := by
  intro d
  induction d using Nat.strongRecOn with
  | _ d ih =>
    intro i hd hki hi hun t ht hr
    obtain ⟨_, ot, hot, hall⟩ := mem_ready.1 hr
    have htlt : t < ops.size := (Array.getElem?_eq_some_iff.1 hot).1
    by_cases htn : t = n
    · subst htn
      have h1 := List.all_eq_true.1 hs i (List.mem_range.2 hi)
      simp only [Bool.or_eq_true, decide_eq_true_eq] at h1
      rcases h1 with h1 | h1
      · omega
      obtain ⟨j, hj, hj2⟩ := List.any_eq_true.1 h1
      simp only [Bool.and_eq_true, decide_eq_true_eq] at hj2
      obtain ⟨oj, hoj, e, he, hb, hon⟩ := Region.waitsFor_spec hj2.2
      have hjle : j ≤ t := by have := List.mem_range.1 hj; omega
      by_cases hjt : j = t
      · subst hjt
        have : oj = ot := Option.some.inj (hoj.symm.trans hot)
        subst this
        have h2 := hall e he hb
        rw [hon, getD_both hun] at h2
        cases h2
      · cases hl : listed.getD j false with
        | true =>
          have h2 := inv.closed j oj hoj hl e he hb
          rw [hon, getD_both hun] at h2
          cases h2
        | false =>
          have hjs : j < listed.size := by rw [inv.size]; omega
          exact ih (t - j) (by omega) j rfl (by omega) (by omega) (getD_in hjs hl) t (Nat.le_refl _) hr
    · have h1 := List.all_eq_true.1 hc t (List.mem_range.2 htlt)
      simp only [Bool.or_eq_true, decide_eq_true_eq] at h1
      rcases h1 with h1 | h1
      · omega
      · obtain ⟨s, hs1, hs2⟩ := List.any_eq_true.1 h1
        simp only [Bool.and_eq_true, decide_eq_true_eq] at hs2
        have hst : s < t := List.mem_range.1 hs1
        obtain ⟨o', ho', e, he, hb, hon⟩ := Region.waitsFor_spec hs2.2
        have : o' = ot := Option.some.inj (ho'.symm.trans hot)
        subst this
        have h2 := hall e he hb
        rw [hon, getD_both (inv.tail s (by omega) (by omega))] at h2
        cases h2

def wpAnyQL (P : Program) (md : Region.Mode) (ops : Array Oper) (C : World → Prop) (n : Nat) (L : Array Bool → Act → Prop) : Nat → Array Bool → Act → Prop
  | 0, listed, a => L listed a
  | f + 1, listed, a =>
    Region.ready md ops listed ≠ [] ∧ ∀ i ∈ Region.ready md ops listed, i < n ∧ qOp P ops C i (wpAnyQL P md ops C n L f (listed.setIfInBounds i true)) a

theorem wpAny_of_headQ {n g : Nat} {L : Array Bool → Act → Prop} {Q' : Exit → Act → World → Prop} (hL : ∀ listed a w, C w → L listed a → wpAny P md ops Q' g listed a w) :
    ∀ (f : Nat) (listed : Array Bool) (a : Act) (w : World), C w → wpAnyQL P md ops C n L f listed a → wpAny P md ops Q' (f + g) listed a w
  | 0, listed, a, w, hw, h => by rw [Nat.zero_add]; exact hL _ _ _ hw h
  | f + 1, listed, a, w, hw, h => by
    rw [show f + 1 + g = (f + g) + 1 by omega]
    exact ⟨fun h0 => absurd h0 h.1, fun i hi => wpOp_of_qOp hw (fun a' w' hw' h' => wpAny_of_headQ hL f _ a' w' hw' h') (h.2 i hi).2⟩

theorem wpAnyQL_first {k n i : Nat} {oi : Oper} {v : Value} {L : Array Bool → Act → Prop} (hi : ops[i]? = some oi) (hsel : ∀ (j : Nat) (o : Oper) cs b, ops[j]? = some o → o.op ≠ .select cs b)
    (hs : sinkFrom md ops k n = true) (hc : behind md ops n = true) (hn : n < ops.size) (hki : k ≤ i) (hin : i < n)
    (hdone : ∀ listed a, L listed a → ∀ j ∈ Region.ready md ops listed, n ≤ j) :
    ∀ (f : Nat) (listed : Array Bool) (a : Act), HeadInv md ops n listed →
      (∀ j oj, ops[j]? = some oj → j ≠ i → listed.getD j true = false → (∀ e ∈ oj.after, Region.binds md e = true → e.on ≠ i) → oi.apart ops oj = true) →
      i ∈ Region.ready md ops listed → YieldsIn P ops C oi v a →
      wpAnyQL P md ops C n L f (listed.setIfInBounds i true) (a.put oi.dst v) → wpAnyQL P md ops C n L (f + 1) listed a := by
  intro f
  induction f with
  | zero =>
    intro listed a inv _ hr hy H
    have hun := (mem_ready.1 hr).1
    refine ⟨fun h => (by rw [h] at hr; cases hr), fun j hj => ?_⟩
    have hjn : j < n := by
      rcases Nat.lt_or_ge j n with h | h
      · exact h
      · exact absurd hj (tail_waits' hs hc hn inv _ i rfl hki hin hun j h)
    refine ⟨hjn, ?_⟩
    by_cases hji : j = i
    · subst hji; exact hy.qOp hi H
    · have := hdone _ _ H j (ready_mono hj hji)
      omega
  | succ f ih =>
    intro listed a inv hfree hr hy H
    have hun := (mem_ready.1 hr).1
    refine ⟨fun h => (by rw [h] at hr; cases hr), fun j hj => ?_⟩
    have hjn : j < n := by
      rcases Nat.lt_or_ge j n with h | h
      · exact h
      · exact absurd hj (tail_waits' hs hc hn inv _ i rfl hki hin hun j h)
    refine ⟨hjn, ?_⟩
    by_cases hji : j = i
    · subst hji; exact hy.qOp hi H
    · have h1 := (H.2 j (ready_mono hj hji)).2
      obtain ⟨hjun, oj, hoj, hall⟩ := mem_ready.1 hj
      have hnot : ∀ e ∈ oj.after, Region.binds md e = true → e.on ≠ i := fun e he hb heq => by
        have h1 := hall e he hb
        rw [heq, getD_both hun] at h1
        cases h1
      have h2 := qOp_put hoj (hfree j oj hoj hji hjun hnot) (fun cs b => hsel i oi cs b hi) (fun cs b => hsel j oj cs b hoj) hy h1
      have hfree' : ∀ k ok, ops[k]? = some ok → k ≠ i → (listed.setIfInBounds j true).getD k true = false →
          (∀ e ∈ ok.after, Region.binds md e = true → e.on ≠ i) → oi.apart ops ok = true := fun k ok hk hki hun hno => by
        refine hfree k ok hk hki ?_ hno
        by_cases hjk : j = k
        · subst hjk; exact hjun
        · rw [getD_set_ne true hjk] at hun; exact hun
      refine qOp_mono (fun a' h3 => ih (listed.setIfInBounds j true) a' (inv.set hj hjn) hfree' (ready_mono hr (Ne.symm hji)) h3.1 ?_) h2
      rw [Array.setIfInBounds_comm _ _ hji]
      exact h3.2

/-- The first k are listed. -/
def upTo (size k : Nat) : Array Bool := (Array.range size).map fun i => decide (i < k)
theorem upTo_getD (size k j : Nat) (b : Bool) : (upTo size k).getD j b = if j < size then decide (j < k) else b := by
  unfold upTo
  by_cases h : j < size <;> simp [h]
theorem upTo_set (size k : Nat) (_h : k < size) : (upTo size k).setIfInBounds k true = upTo size (k + 1) := by
  apply Array.ext
  · simp [upTo]
  · intro i h1 h2
    simp only [upTo, Array.size_map, Array.size_range, Array.size_setIfInBounds] at h1 h2
    simp only [upTo]
    rw [Array.getElem_setIfInBounds (by simpa using h1)]
    split
    · simp; omega
    · simp; omega
theorem upTo_zero (size : Nat) : upTo size 0 = Array.replicate size false := by
  apply Array.ext
  · simp [upTo]
  · intro i h1 h2; simp [upTo]
/-- Edges go back. -/
def edgesBack (md : Region.Mode) (ops : Array Oper) : Bool :=
  (List.range ops.size).all fun i => match ops[i]? with | some o => o.after.all fun e => !Region.binds md e || decide (e.on < i) | none => true
theorem upTo_inv (hb : edgesBack md ops = true) (k n : Nat) (hkn : k ≤ n) (_hn : n ≤ ops.size) : HeadInv md ops n (upTo ops.size k) := by
  refine ⟨by simp [upTo], fun j oj hoj hl e he hbd => ?_, fun t ht hts => by rw [upTo_getD]; simp [hts]; omega⟩
  rw [upTo_getD] at hl ⊢
  have hjs : j < ops.size := (Array.getElem?_eq_some_iff.1 hoj).1
  simp only [hjs, if_true, decide_eq_true_eq] at hl
  have h1 := List.all_eq_true.1 hb j (List.mem_range.2 hjs)
  simp only [hoj] at h1
  have h2 := Array.all_eq_true'.1 h1 e he
  simp only [hbd, Bool.not_true, Bool.false_or, decide_eq_true_eq] at h2
  rw [if_pos (by omega)]
  simp; omega

/-- From k to n, one by one: each may come up now, and is free. -/
def lexSeg (md : Region.Mode) (ops : Array Oper) : Nat → Nat → Bool
  | 0, _ => true
  | f + 1, k => (Region.ready md ops (upTo ops.size k)).contains k && Region.free md ops (upTo ops.size k) k && lexSeg md ops f (k + 1)

theorem wpAnyQL_seg {k0 n : Nat} {Lq : Act → Prop} (hsel : Region.noSelect ops = true) (hs : sinkFrom md ops k0 n = true) (hc : behind md ops n = true) (hb : edgesBack md ops = true) (hn : n < ops.size)
    (hlast : ∀ j ∈ Region.ready md ops (upTo ops.size n), n ≤ j) :
    ∀ (l : List Oper) (k : Nat) (a : Act), (∀ j, j < l.length → l[j]? = ops[k + j]?) → k0 ≤ k → k + l.length = n →
    lexSeg md ops l.length k = true → wpQuiet P ops C Lq l a →
    wpAnyQL P md ops C n (fun listed' a' => listed' = upTo ops.size n ∧ Lq a') l.length (upTo ops.size k) a
  | [], k, a, _, _, hk, _, h => by
    have : k = n := by simpa using hk
    subst this
    exact ⟨rfl, h⟩
  | o :: l, k, a, hl, hk0, hk, hB, h => by
    have h0 : ops[k]? = some o := by simpa using (hl 0 (by simp)).symm
    simp only [List.length_cons, lexSeg, Bool.and_eq_true] at hB
    obtain ⟨⟨hr, hf⟩, hB'⟩ := hB
    have hkn : k < n := by simp only [List.length_cons] at hk; omega
    have hr' : k ∈ Region.ready md ops (upTo ops.size k) := by simpa using hr
    have hst : qOp P ops C k (wpQuiet P ops C Lq l) a := by unfold qOp; simp only [h0]; exact h
    obtain ⟨v, hy, hK⟩ := yieldsIn_of_qOp h0 hst
    refine wpAnyQL_first h0 (Region.noSelect_spec hsel) hs hc hn hk0 hkn (fun listed' a' hL => by rw [hL.1]; exact hlast) l.length _ a (upTo_inv hb k n (by omega) (by omega)) (Region.free_spec h0 hf) hr' hy ?_
    rw [upTo_set _ _ (by omega)]
    exact wpAnyQL_seg hsel hs hc hb hn hlast l (k + 1) _ (fun j hj => by have := hl (j + 1) (by simp; omega); simpa [Nat.add_assoc, Nat.add_comm 1 j] using this) (by omega) (by simp only [List.length_cons] at hk; omega) hB' hK

/-- A piece of quiet operations, then operation n alone. -/
def pieceB (md : Region.Mode) (ops : Array Oper) (k n : Nat) : Bool :=
  sinkFrom md ops k n && behind md ops n && decide (n < ops.size) && decide (k ≤ n) && decide (Region.ready md ops (upTo ops.size n) = [n]) && lexSeg md ops (n - k) k

theorem wpAny_piece {k n g : Nat} {Q' : Exit → Act → World → Prop} (hsel : Region.noSelect ops = true) (hb : edgesBack md ops = true) (hB : pieceB md ops k n = true)
    {a : Act} {w : World} (hw : C w) (h : wpQuiet P ops C (fun a' => ∀ w', C w' → wpOp P ops Q' n (wpAny P md ops Q' g (upTo ops.size (n + 1))) a' w') ((ops.toList.drop k).take (n - k)) a) :
    wpAny P md ops Q' ((n - k) + (g + 1)) (upTo ops.size k) a w := by
  simp only [pieceB, Bool.and_eq_true, decide_eq_true_eq] at hB
  obtain ⟨⟨⟨⟨⟨hs, hc⟩, hn⟩, hk⟩, hr⟩, hl⟩ := hB
  have hlen : ((ops.toList.drop k).take (n - k)).length = n - k := by simp; omega
  have H := wpAnyQL_seg (P := P) (C := C) (k0 := k) (n := n) hsel hs hc hb hn (by rw [hr]; intro j hj; simp at hj; omega) ((ops.toList.drop k).take (n - k)) k a
    (fun j hj => by
      rw [hlen] at hj
      rw [List.getElem?_take_of_lt hj, List.getElem?_drop, Array.getElem?_toList]) (Nat.le_refl _) (by rw [hlen]; omega) (by rw [hlen]; exact hl) h
  rw [hlen] at H
  refine wpAny_of_headQ (g := g + 1) ?_ _ _ _ _ hw H
  intro listed a' w' hw' hL
  have hq := hL.2
  have e := hL.1
  subst e
  show (Region.ready md ops (upTo ops.size n) = [] → _) ∧ _
  refine ⟨fun h0 => (by rw [hr] at h0; cases h0), fun i hi => ?_⟩
  rw [hr] at hi
  have hin : i = n := by simpa using hi
  subst hin
  have := hq w' hw'
  rwa [upTo_set _ _ hn]

/-- The last piece: quiet operations to the end. -/
def lastB (md : Region.Mode) (ops : Array Oper) (k : Nat) : Bool := lexSeg md ops (ops.size - k) k && decide (k ≤ ops.size) && (Region.ready md ops (upTo ops.size ops.size)).isEmpty
theorem wpAnyQ_last {Q : Act → Prop} (hs : Region.noSelect ops = true) (he : (Region.ready md ops (upTo ops.size ops.size)).isEmpty = true) : ∀ (l : List Oper) (k : Nat) (a : Act), (∀ j, l[j]? = ops[k + j]?) → k + l.length = ops.size →
    lexSeg md ops l.length k = true → wpQuiet P ops C Q l a → wpAnyQ P md ops C Q l.length (upTo ops.size k) a
  | [], k, a, _, hk, _, h => by
    have : k = ops.size := by simpa using hk
    subst this
    exact ⟨by simpa using he, h⟩
  | o :: l, k, a, hl, hk, hB, h => by
    have h0 : ops[k]? = some o := by simpa using (hl 0).symm
    have hks : k < ops.size := by simp only [List.length_cons] at hk; omega
    simp only [List.length_cons, lexSeg, Bool.and_eq_true] at hB
    obtain ⟨⟨hr, hf⟩, hB'⟩ := hB
    have hst : qOp P ops C k (wpQuiet P ops C Q l) a := by unfold qOp; simp only [h0]; exact h
    obtain ⟨v, hy, hK⟩ := yieldsIn_of_qOp h0 hst
    refine wpAnyQ_first h0 (Region.noSelect_spec hs) l.length _ a (Region.free_spec h0 hf) (by simpa using hr) hy ?_
    rw [upTo_set _ _ hks]
    exact wpAnyQ_last hs he l (k + 1) _ (fun j => by have := hl (j + 1); simpa [Nat.add_assoc, Nat.add_comm 1 j] using this) (by simp only [List.length_cons] at hk; omega) hB' hK
theorem wpAny_last {k : Nat} {Q' : Exit → Act → World → Prop} (hsel : Region.noSelect ops = true) (hB : lastB md ops k = true)
    {a : Act} {w : World} (hw : C w) (h : wpQuiet P ops C (fun a' => ∀ w', C w' → Q' .normal a' w') (ops.toList.drop k) a) :
    wpAny P md ops Q' (ops.size - k) (upTo ops.size k) a w := by
  simp only [lastB, Bool.and_eq_true, decide_eq_true_eq] at hB
  obtain ⟨⟨hl, hk⟩, he⟩ := hB
  have hlen : (ops.toList.drop k).length = ops.size - k := by simp
  refine wpAny_of_quiet (C := C) (Q := fun a' => ∀ w', C w' → Q' .normal a' w') (fun _ w' hw' h => h w' hw') _ _ _ _ hw ?_
  have := wpAnyQ_last (P := P) (C := C) hsel he (ops.toList.drop k) k a (fun j => by rw [List.getElem?_drop, Array.getElem?_toList]) (by rw [hlen]; omega) (by rw [hlen]; exact hl) h
  rwa [hlen] at this

/-- Quiet, one operation n, quiet to the end. -/
theorem wp_region_one {id : Nat} {Q : Exit → Act → World → Prop} {a : Act} {w : World} {l : List Oper} (n : Nat) (hm : P.follows .mixedOrders = true)
    (hB : (Region.noSelect l.toArray && edgesBack .any l.toArray && pieceB .any l.toArray 0 n && lastB .any l.toArray (n + 1)) = true)
    (C : World → Prop) (hC : C { w with drawn := w.drawn + 1 })
    (h : wpQuiet P l.toArray C (fun a' => ∀ w', C w' → wpOp P l.toArray Q n (fun a2 w2 => wpQuiet P l.toArray (fun x => x = w2) (fun a3 => Q .normal a3 w2) (l.drop (n + 1)) a2) a' w') (l.take n) a) :
    (Code.region id l.toArray true).wp P Q a w := by
  simp only [Bool.and_eq_true] at hB
  obtain ⟨⟨⟨hsel, hb⟩, hp⟩, hl⟩ := hB
  have hn : n < l.length := by
    simp only [pieceB, Bool.and_eq_true, decide_eq_true_eq] at hp
    have := hp.1.1.1.2
    simpa using this
  refine wp_region_any hm ?_
  have H := wpAny_piece (P := P) (C := C) (k := 0) (n := n) (g := l.toArray.size - (n + 1)) (Q' := Q) hsel hb hp hC (a := a) (w := { w with drawn := w.drawn + 1 }) (by
    simp only [List.drop_zero, Nat.sub_zero]
    refine wpQuiet_mono (fun a' h' w' hw' => wpOp_mono (fun a2 w2 h2 => ?_) (h' w' hw')) h
    refine wpAny_last (C := fun x => x = w2) hsel hl rfl ?_
    simp only []
    exact wpQuiet_mono (fun a3 h3 w3 hw3 => by subst hw3; exact h3) h2)
  rw [upTo_zero, show n - 0 + (l.toArray.size - (n + 1) + 1) = l.toArray.size by simp; omega] at H
  exact H

/-- A class of worlds as a type. -/
structure Cls (I : World → Prop) where
  x : World
  h : I x

theorem wpOp_of_list {n : Nat} {o : Oper} {N : Act → World → Prop} {Q : Exit → Act → World → Prop} {a : Act} {w : World} (ho : ops[n]? = some o)
    (h : wpList P ops (Exit.then N Q) [o] a w) : wpOp P ops Q n N a w := by
  unfold wpOp
  simp only [ho]
  unfold wpList at h
  split
  · rename_i hw
    rw [if_pos hw] at h
    rcases h with h | ⟨h1, a', w', h2⟩
    · left
      unfold Oper.wp at *
      generalize (execOp a.eval o).run P w = r at *
      cases r with
      | ok n w' =>
        cases n <;> simp only [Oper.upon] at h ⊢ <;> first
          | exact h
          | exact h.elim
      | halt x w' => cases x <;> simp only [Oper.upon] at h ⊢ <;> exact h
    · exact .inr ⟨h1, a', w', h2⟩
  · rename_i hw
    rw [if_neg hw] at h
    exact h

/-- The same, the one operation as a list of one. -/
theorem wp_region_one' {id : Nat} {Q : Exit → Act → World → Prop} {a : Act} {w : World} {l : List Oper} (n : Nat) (hm : P.follows .mixedOrders = true)
    (hB : (Region.noSelect l.toArray && edgesBack .any l.toArray && pieceB .any l.toArray 0 n && lastB .any l.toArray (n + 1)) = true)
    (X : Type) (F : X → World) (hC : ∃ x, { w with drawn := w.drawn + 1 } = F x)
    (h : wpQuiet P l.toArray (fun w' => ∃ x, w' = F x) (fun a' => ∀ x, wpList P l.toArray (Exit.then (fun a2 w2 => wpQuiet P l.toArray (fun x => x = w2) (fun a3 => Q .normal a3 w2) (l.drop (n + 1)) a2) Q)
      ((l.drop n).take 1) a' (F x)) (l.take n) a) :
    (Code.region id l.toArray true).wp P Q a w := by
  have hn : n < l.length := by
    simp only [Bool.and_eq_true, pieceB, decide_eq_true_eq] at hB
    have := hB.1.2.1.1.1.2
    simpa using this
  refine wp_region_one n hm hB _ hC (wpQuiet_mono (fun a' h' w' hw' => ?_) h)
  obtain ⟨x, rfl⟩ := hw'
  have h1 : (l.drop n).take 1 = [l[n]] := by
    rw [List.drop_eq_getElem_cons hn]; rfl
  have := h' x
  rw [h1] at this
  exact wpOp_of_list (by simp [hn]) this

/-- Quiet, then what is left in the order of the text. -/
theorem wp_region_tail {id : Nat} {Q : Exit → Act → World → Prop} {a : Act} {w : World} {l : List Oper} (n : Nat) (hm : P.follows .mixedOrders = true)
    (hB : (Region.noSelect l.toArray && edgesBack .any l.toArray && sinkFrom .any l.toArray 0 n && behind .any l.toArray n && decide (n < l.length) && lexSeg .any l.toArray n 0 &&
      Region.seqB .any l.toArray (l.length - n) n (upTo l.toArray.size n)) = true)
    (X : Type) (F : X → World) (hC : ∃ x, { w with drawn := w.drawn + 1 } = F x)
    (h : wpQuiet P l.toArray (fun w' => ∃ x, w' = F x) (fun a' => ∀ x, wpList P l.toArray Q (l.drop n) a' (F x)) (l.take n) a) :
    (Code.region id l.toArray true).wp P Q a w := by
  simp only [Bool.and_eq_true, decide_eq_true_eq] at hB
  obtain ⟨⟨⟨⟨⟨⟨hsel, hb⟩, hs⟩, hc⟩, hn⟩, hl⟩, hq⟩ := hB
  have hlen : (l.take n).length = n := by simp; omega
  have H := wpAnyQL_seg (P := P) (C := fun w' => ∃ x, w' = F x) (k0 := 0) (n := n) hsel hs hc hb (by simpa using hn) (seqB_ready hq) (l.take n) 0 a
    (fun j hj => by
      rw [hlen] at hj
      rw [List.getElem?_take_of_lt hj]; simp) (Nat.le_refl _) (by rw [hlen]; omega) (by rw [hlen]; exact hl) h
  rw [hlen, upTo_zero] at H
  refine wp_region_any hm ?_
  have := wpAny_of_headQ (P := P) (C := fun w' => ∃ x, w' = F x) (Q' := Q) (g := l.length - n) (L := fun listed' a' => listed' = upTo l.toArray.size n ∧ ∀ x, wpList P l.toArray Q (l.drop n) a' (F x)) (n := n) (fun listed a' w' hw' hL => by
    obtain ⟨e, hL⟩ := hL
    obtain ⟨x, rfl⟩ := hw'
    subst e
    have hd : (l.drop n).length = l.length - n := by simp
    have := wpAny_of_seq (md := .any) (Q' := Q) (l.drop n) n (upTo l.toArray.size n) a' (F x) (fun j => by simp [List.getElem?_drop]) (by rw [hd]; exact hq) (hL x)
    rwa [hd] at this) _ _ _ _ hC H
  rw [show n + (l.length - n) = l.toArray.size by simp; omega] at this
  exact this
/-- Quiet throughout. -/
theorem wp_region_cw {id : Nat} {Q : Exit → Act → World → Prop} {a : Act} {w : World} {l : List Oper} (hm : P.follows .mixedOrders = true) (hB : Region.lexB .any l.toArray = true)
    (X : Type) (F : X → World) (hC : ∃ x, { w with drawn := w.drawn + 1 } = F x)
    (h : wpQuiet P l.toArray (fun w' => ∃ x, w' = F x) (fun a' => ∀ x, Q .normal a' (F x)) l a) :
    (Code.region id l.toArray true).wp P Q a w :=
  wp_region_quiet hm hB hC (by
    simp only []
    exact wpQuiet_mono (fun a' h' w' hw' => by obtain ⟨x, rfl⟩ := hw'; exact h' x) h)
/-- The first operations are mere moves. -/
def movesB (md : Region.Mode) (ops : Array Oper) : Nat → Nat → Bool
  | 0, _ => true
  | f + 1, k => (match ops[k]? with | some ⟨_, .move _, _, _, _, none⟩ => true | _ => false) && (Region.ready md ops (upTo ops.size k)).contains k && Region.free md ops (upTo ops.size k) k && movesB md ops f (k + 1)
def moved (a : Act) : List Oper → Act
  | ⟨d, .move x, _, _, _, _⟩ :: r => moved (a.put d (a.eval x)) r
  | _ => a
theorem wpAny_moves {Q : Exit → Act → World → Prop} (hs : Region.noSelect ops = true) (hQ : ∀ c (a : Act) d v w, Q (.panic c) (a.put d v) w → Q (.panic c) a w) (fuel : Nat) : ∀ (l : List Oper) (k : Nat) (a : Act) (w : World),
    (∀ j, j < l.length → l[j]? = ops[k + j]?) → movesB md ops l.length k = true → k + l.length ≤ ops.size → wpAny P md ops Q fuel (upTo ops.size (k + l.length)) (moved a l) w →
    wpAny P md ops Q (l.length + fuel) (upTo ops.size k) a w
  | [], k, a, w, _, _, _, h => by simpa [moved] using h
  | o :: l, k, a, w, hl, hB, hk, h => by
    have h0 : ops[k]? = some o := by simpa using (hl 0 (by simp)).symm
    simp only [List.length_cons, movesB, Bool.and_eq_true, h0] at hB
    obtain ⟨⟨⟨hm, hr⟩, hf⟩, hB'⟩ := hB
    obtain ⟨d, op, ty, pos, after, g⟩ := o
    split at hm
    · rename_i d' x ty' pos' after' heq
      simp only [Option.some.injEq, Oper.mk.injEq] at heq
      obtain ⟨rfl, rfl, rfl, rfl, rfl, rfl⟩ := heq
      simp only [moved, List.length_cons] at h
      rw [List.length_cons, show l.length + 1 + fuel = (l.length + fuel) + 1 by omega]
      refine wpAny_take (v := a.eval x) h0 hs hf hr (fun c a' w' hq => hQ _ _ _ _ _ hq) (.inl ⟨by simp [Region.wanted], fun w' => ?_⟩) ?_
      · simp [execOp]
      · rw [upTo_set _ _ (by simp only [List.length_cons] at hk; omega)]
        refine wpAny_moves hs hQ fuel l (k + 1) _ w (fun j hj => by have := hl (j + 1) (by simp; omega); simpa [Nat.add_assoc, Nat.add_comm 1 j] using this) hB' (by simp only [List.length_cons] at hk; omega) ?_
        rwa [show k + 1 + l.length = k + (l.length + 1) by omega]
    · cases hm
/-- Moves, then quiet, then what is left in the order of the text. -/
theorem wp_region_mtail {id : Nat} {Q : Exit → Act → World → Prop} {a : Act} {w : World} {l : List Oper} (m n : Nat) (hm : P.follows .mixedOrders = true)
    (hB : (Region.noSelect l.toArray && edgesBack .any l.toArray && movesB .any l.toArray m 0 && decide (m ≤ n) && sinkFrom .any l.toArray m n && behind .any l.toArray n && decide (n < l.length) && lexSeg .any l.toArray (n - m) m &&
      Region.seqB .any l.toArray (l.length - n) n (upTo l.toArray.size n)) = true)
    (hQ : ∀ c (a : Act) d v w, Q (.panic c) (a.put d v) w → Q (.panic c) a w)
    (X : Type) (F : X → World) (hC : ∃ x, { w with drawn := w.drawn + 1 } = F x)
    (h : wpQuiet P l.toArray (fun w' => ∃ x, w' = F x) (fun a' => ∀ x, wpList P l.toArray Q (l.drop n) a' (F x)) ((l.drop m).take (n - m)) (moved a (l.take m))) :
    (Code.region id l.toArray true).wp P Q a w := by
  simp only [Bool.and_eq_true, decide_eq_true_eq] at hB
  obtain ⟨⟨⟨⟨⟨⟨⟨⟨hsel, hb⟩, hmv⟩, hmn⟩, hs⟩, hc⟩, hn⟩, hl⟩, hq⟩ := hB
  have hlen : ((l.drop m).take (n - m)).length = n - m := by simp; omega
  have H := wpAnyQL_seg (P := P) (C := fun w' => ∃ x, w' = F x) (k0 := m) (n := n) hsel hs hc hb (by simpa using hn) (seqB_ready hq) ((l.drop m).take (n - m)) m (moved a (l.take m))
    (fun j hj => by
      rw [hlen] at hj
      rw [List.getElem?_take_of_lt hj, List.getElem?_drop]; simp) (Nat.le_refl _) (by rw [hlen]; omega) (by rw [hlen]; exact hl) h
  rw [hlen] at H
  refine wp_region_any hm ?_
  have := wpAny_of_headQ (P := P) (C := fun w' => ∃ x, w' = F x) (Q' := Q) (g := l.length - n) (L := fun listed' a' => listed' = upTo l.toArray.size n ∧ ∀ x, wpList P l.toArray Q (l.drop n) a' (F x)) (n := n) (fun listed a' w' hw' hL => by
    obtain ⟨e, hL⟩ := hL
    obtain ⟨x, rfl⟩ := hw'
    subst e
    have hd : (l.drop n).length = l.length - n := by simp
    have := wpAny_of_seq (md := .any) (Q' := Q) (l.drop n) n (upTo l.toArray.size n) a' (F x) (fun j => by simp [List.getElem?_drop]) (by rw [hd]; exact hq) (hL x)
    rwa [hd] at this) _ _ _ _ hC H
  have hml : (l.take m).length = m := by simp; omega
  have := wpAny_moves (P := P) (md := .any) (ops := l.toArray) (Q := Q) hsel hQ (n - m + (l.length - n)) (l.take m) 0 a { w with drawn := w.drawn + 1 } (fun j hj => by
      rw [hml] at hj
      rw [List.getElem?_take_of_lt hj]; simp) (by rw [hml]; exact hmv) (by rw [hml]; simp; omega) (by rw [hml, Nat.zero_add]; exact this)
  rw [hml, upTo_zero, show m + (n - m + (l.length - n)) = l.toArray.size by simp; omega] at this
  exact this
end
end Go.Proofs.YtnkdbpjmepfblaaGreatDoor

/- Plain: a region that draws its order: loads that may come up before or behind an operation that leaves their cells alone. -/
namespace Go.Proofs.YtnkdbpjmepfblaaGreatDoor
open Go
section
variable {P : Program} {ops : Array Oper} {md : Region.Mode} {C : World → Prop} {Q : Exit → Act → World → Prop}

/-- In state 'a', in every world of the class, 'o' leaves 'v' in its temporary, and the world. -/
def YieldsC (P : Program) (ops : Array Oper) (C : World → Prop) (o : Oper) (v : Value) (a : Act) : Prop :=
  (Region.wanted o (yielded ops a.tmps) = true ∧ ∀ w, C w → (execOp a.eval o).run P w = .ok (.value v) w) ∨
  (Region.wanted o (yielded ops a.tmps) = false ∧ v = undef)
theorem YieldsC.of_same {o : Oper} {v : Value} {a a' : Act} (hy : YieldsC P ops C o v a) (he : execOp a'.eval o = execOp a.eval o)
    (hw : Region.wanted o (yielded ops a'.tmps) = Region.wanted o (yielded ops a.tmps)) : YieldsC P ops C o v a' := by
  unfold YieldsC at *
  rw [he, hw]
  exact hy
theorem YieldsC.wpOp {i : Nat} {o : Oper} {v : Value} {a : Act} (hi : ops[i]? = some o) (hy : YieldsC P ops C o v a)
    {K : Act → World → Prop} {w : World} (hw : C w) (h : K (a.put o.dst v) w) : wpOp P ops Q i K a w := by
  unfold Go.wpOp
  simp only [hi]
  rcases hy with ⟨h1, h2⟩ | ⟨h1, rfl⟩
  · rw [if_pos h1]
    left
    unfold Oper.wp
    rw [h2 w hw]
    exact h
  · rw [if_neg (by rw [h1]; simp)]
    exact h
theorem wpOp_putC {j : Nat} {oi oj : Oper} {v : Value} (hj : ops[j]? = some oj) (hap : oi.apart ops oj = true)
    (hsi : ∀ cs b, oi.op ≠ .select cs b) (hsj : ∀ cs b, oj.op ≠ .select cs b)
    (hQ : ∀ c (a : Act) d v w, Q (.panic c) (a.put d v) w → Q (.panic c) a w) {K : Act → World → Prop} {a : Act} {w : World}
    (hy : YieldsC P ops C oi v a) (h : wpOp P ops Q j K (a.put oi.dst v) w) :
    wpOp P ops Q j (fun a' w' => YieldsC P ops C oi v a' ∧ K (a'.put oi.dst v) w') a w := by
  obtain ⟨h1, h2, h3⟩ := Oper.apart_spec hap
  have keep : ∀ (a : Act), YieldsC P ops C oi v a → ∀ u, YieldsC P ops C oi v (a.put oj.dst u) := fun a hy u =>
    hy.of_same (execOp_put oi hsi a oj.dst u h3) (wanted_put oi a oj.dst u h3)
  have keepD : ∀ d, YieldsC P ops C oi v { a with defers := d :: a.defers } := fun d => hy.of_same rfl rfl
  unfold wpOp at *
  simp only [hj] at *
  rw [wanted_put oj a oi.dst v h1] at h
  split
  · rename_i hw
    simp only [hw, if_true] at h
    rcases h with h | ⟨hasks, hlets⟩
    case inr => exact .inr ⟨by unfold Oper.asks at *; rw [execOp_put oj hsj a oi.dst v h1] at hasks; exact hasks, hlets⟩
    refine .inl ?_
    unfold Oper.wp at *
    rw [execOp_put oj hsj a oi.dst v h1] at h
    generalize (execOp a.eval oj).run P w = r at *
    cases r with
    | ok n w' =>
      cases n <;> simp only [Oper.upon] at h ⊢
      case value u => exact ⟨keep a hy u, by rw [← Act.put_comm a v u h2]; exact h⟩
      case skip => exact ⟨keep a hy _, by rw [← Act.put_comm a v undef h2]; exact h⟩
      case defer d =>
        refine ⟨keep _ (keepD d) _, ?_⟩
        rw [← Act.put_comm _ v undef h2, ← Act.put_defers]
        exact h
      case enter f args =>
        refine Calls.mono h fun e w'' he => ?_
        cases e with
        | returned u => exact ⟨keep a hy u, by rw [← Act.put_comm a v u h2]; exact he⟩
        | panicked c => exact hQ _ _ _ _ _ he
        | outgrown => exact he
      case row row args => exact Rows.mono h fun u w'' he => ⟨keep a hy u, by rw [← Act.put_comm a v u h2]; exact he⟩
    | halt x w' =>
      cases x <;> simp only [Oper.upon] at h ⊢
      case panic u => exact hQ _ _ _ _ _ h
  · rename_i hw
    simp only [hw] at h
    exact ⟨keep a hy _, by rw [← Act.put_comm a v undef h2]; exact h⟩

def wpAnyD (P : Program) (md : Region.Mode) (ops : Array Oper) (C : World → Prop) (Q : Exit → Act → World → Prop) (n : Nat) (L : Array Bool → Act → World → Prop) : Nat → Array Bool → Act → World → Prop
  | 0, listed, a, w => L listed a w
  | f + 1, listed, a, w =>
    C w ∧ Region.ready md ops listed ≠ [] ∧ ∀ i ∈ Region.ready md ops listed, i < n ∧ wpOp P ops Q i (wpAnyD P md ops C Q n L f (listed.setIfInBounds i true)) a w
theorem wpAny_of_D {n g : Nat} {L : Array Bool → Act → World → Prop} (hL : ∀ listed a w, L listed a w → wpAny P md ops Q g listed a w) :
    ∀ (f : Nat) (listed : Array Bool) (a : Act) (w : World), wpAnyD P md ops C Q n L f listed a w → wpAny P md ops Q (f + g) listed a w
  | 0, listed, a, w, h => by rw [Nat.zero_add]; exact hL _ _ _ h
  | f + 1, listed, a, w, h => by
    rw [show f + 1 + g = (f + g) + 1 by omega]
    exact ⟨fun h0 => absurd h0 h.2.1, fun i hi => wpOp_mono (fun a' w' h' => wpAny_of_D hL f _ a' w' h') (h.2.2 i hi).2⟩
theorem wpAnyD_C {n : Nat} {L : Array Bool → Act → World → Prop} (hLC : ∀ listed a w, L listed a w → C w) {f : Nat} {listed : Array Bool} {a : Act} {w : World} (h : wpAnyD P md ops C Q n L f listed a w) : C w := by
  cases f with
  | zero => exact hLC _ _ _ h
  | succ f => exact h.1
theorem wpAnyD_first {k n i : Nat} {oi : Oper} {v : Value} {L : Array Bool → Act → World → Prop} (hi : ops[i]? = some oi) (hsel : ∀ (j : Nat) (o : Oper) cs b, ops[j]? = some o → o.op ≠ .select cs b)
    (hQ : ∀ c (a : Act) d v w, Q (.panic c) (a.put d v) w → Q (.panic c) a w)
    (hs : sinkFrom md ops k n = true) (hc : behind md ops n = true) (hn : n < ops.size) (hki : k ≤ i) (hin : i < n)
    (hdone : ∀ listed a w, L listed a w → ∀ j ∈ Region.ready md ops listed, n ≤ j) (hLC : ∀ listed a w, L listed a w → C w) :
    ∀ (f : Nat) (listed : Array Bool) (a : Act) (w : World), C w → HeadInv md ops n listed →
      (∀ j oj, ops[j]? = some oj → j ≠ i → listed.getD j true = false → (∀ e ∈ oj.after, Region.binds md e = true → e.on ≠ i) → oi.apart ops oj = true) →
      i ∈ Region.ready md ops listed → YieldsC P ops C oi v a →
      wpAnyD P md ops C Q n L f (listed.setIfInBounds i true) (a.put oi.dst v) w → wpAnyD P md ops C Q n L (f + 1) listed a w := by
  intro f
  induction f with
  | zero =>
    intro listed a w hw inv _ hr hy H
    have hun := (mem_ready.1 hr).1
    refine ⟨hw, fun h => (by rw [h] at hr; cases hr), fun j hj => ?_⟩
    have hjn : j < n := by
      rcases Nat.lt_or_ge j n with h | h
      · exact h
      · exact absurd hj (tail_waits' hs hc hn inv _ i rfl hki hin hun j h)
    refine ⟨hjn, ?_⟩
    by_cases hji : j = i
    · subst hji; exact hy.wpOp hi hw H
    · have := hdone _ _ _ H j (ready_mono hj hji)
      omega
  | succ f ih =>
    intro listed a w hw inv hfree hr hy H
    have hun := (mem_ready.1 hr).1
    refine ⟨hw, fun h => (by rw [h] at hr; cases hr), fun j hj => ?_⟩
    have hjn : j < n := by
      rcases Nat.lt_or_ge j n with h | h
      · exact h
      · exact absurd hj (tail_waits' hs hc hn inv _ i rfl hki hin hun j h)
    refine ⟨hjn, ?_⟩
    by_cases hji : j = i
    · subst hji; exact hy.wpOp hi hw H
    · have h1 := (H.2.2 j (ready_mono hj hji)).2
      obtain ⟨hjun, oj, hoj, hall⟩ := mem_ready.1 hj
      have hnot : ∀ e ∈ oj.after, Region.binds md e = true → e.on ≠ i := fun e he hb heq => by
        have h1 := hall e he hb
        rw [heq, getD_both hun] at h1
        cases h1
      have h2 := wpOp_putC hoj (hfree j oj hoj hji hjun hnot) (fun cs b => hsel i oi cs b hi) (fun cs b => hsel j oj cs b hoj) hQ hy h1
      have hfree' : ∀ k ok, ops[k]? = some ok → k ≠ i → (listed.setIfInBounds j true).getD k true = false →
          (∀ e ∈ ok.after, Region.binds md e = true → e.on ≠ i) → oi.apart ops ok = true := fun k ok hk hki hun hno => by
        refine hfree k ok hk hki ?_ hno
        by_cases hjk : j = k
        · subst hjk; exact hjun
        · rw [getD_set_ne true hjk] at hun; exact hun
      refine wpOp_mono (fun a' w' h3 => ?_) h2
      have hC' : C w' := wpAnyD_C hLC h3.2
      refine ih (listed.setIfInBounds j true) a' w' hC' (inv.set hj hjn) hfree' (ready_mono hr (Ne.symm hji)) h3.1 ?_
      rw [Array.setIfInBounds_comm _ _ hji]
      exact h3.2

/-- One behind the other: mostly such that leave the world alone in every world of the class; those whose number stands in E are carried out when nothing else can come up. -/
def wpStillC (P : Program) (ops : Array Oper) (C : World → Prop) (Q : Exit → Act → World → Prop) (E : List Nat) (Lq : Act → World → Prop) : List Oper → Nat → Act → World → Prop
  | [], _, a, w => Lq a w
  | o :: rest, k, a, w =>
    if E.contains k then (C w ∧ wpList P ops (Exit.then (fun a' w' => C w' ∧ wpStillC P ops C Q E Lq rest (k + 1) a' w') Q) [o] a w)
    else if Region.wanted o (yielded ops a.tmps) then ∃ v, (∀ w, C w → (execOp a.eval o).run P w = .ok (.value v) w) ∧ wpStillC P ops C Q E Lq rest (k + 1) (a.put o.dst v) w
    else wpStillC P ops C Q E Lq rest (k + 1) (a.put o.dst undef) w
def lexSegE (md : Region.Mode) (ops : Array Oper) (E : List Nat) : Nat → Nat → Bool
  | 0, _ => true
  | f + 1, k => (if E.contains k then decide (Region.ready md ops (upTo ops.size k) = [k]) else ((Region.ready md ops (upTo ops.size k)).contains k && Region.free md ops (upTo ops.size k) k)) && lexSegE md ops E f (k + 1)

theorem wpAnyD_seg {k0 n : Nat} {E : List Nat} {Lq : Act → World → Prop} (hsel : Region.noSelect ops = true)
    (hQ : ∀ c (a : Act) d v w, Q (.panic c) (a.put d v) w → Q (.panic c) a w)
    (hs : sinkFrom md ops k0 n = true) (hc : behind md ops n = true) (hb : edgesBack md ops = true) (hn : n < ops.size)
    (hlast : ∀ j ∈ Region.ready md ops (upTo ops.size n), n ≤ j) (hLC : ∀ a w, Lq a w → C w) :
    ∀ (l : List Oper) (k : Nat) (a : Act) (w : World), C w → (∀ j, j < l.length → l[j]? = ops[k + j]?) → k0 ≤ k → k + l.length = n →
    lexSegE md ops E l.length k = true → wpStillC P ops C Q E Lq l k a w →
    wpAnyD P md ops C Q n (fun listed' a' w' => listed' = upTo ops.size n ∧ Lq a' w') l.length (upTo ops.size k) a w
  | [], k, a, w, _, _, _, hk, _, h => by
    have : k = n := by simpa using hk
    subst this
    exact ⟨rfl, h⟩
  | o :: l, k, a, w, hw, hl, hk0, hk, hB, h => by
    have h0 : ops[k]? = some o := by simpa using (hl 0 (by simp)).symm
    have hkn : k < n := by simp only [List.length_cons] at hk; omega
    simp only [List.length_cons, lexSegE, Bool.and_eq_true] at hB
    obtain ⟨hr, hB'⟩ := hB
    have recu := fun a' w' (hw' : C w') (h' : wpStillC P ops C Q E Lq l (k + 1) a' w') => wpAnyD_seg hsel hQ hs hc hb hn hlast hLC l (k + 1) a' w' hw'
      (fun j hj => by have := hl (j + 1) (by simp; omega); simpa [Nat.add_assoc, Nat.add_comm 1 j] using this) (by omega) (by simp only [List.length_cons] at hk; omega) hB' h'
    unfold wpStillC at h
    by_cases hE : E.contains k = true
    · rw [if_pos hE] at h hr
      simp only [decide_eq_true_eq] at hr
      refine ⟨hw, by rw [hr]; simp, fun i hi => ?_⟩
      rw [hr] at hi
      have hik : i = k := by simpa using hi
      subst hik
      refine ⟨hkn, ?_⟩
      have := wpOp_of_list h0 h.2
      refine wpOp_mono (fun a' w' h' => ?_) this
      rw [upTo_set _ _ (by omega)]
      exact recu a' w' h'.1 h'.2
    · rw [if_neg hE] at h hr
      simp only [Bool.and_eq_true] at hr
      have hr' : k ∈ Region.ready md ops (upTo ops.size k) := by simpa using hr.1
      have hex : ∃ v, YieldsC P ops C o v a ∧ wpStillC P ops C Q E Lq l (k + 1) (a.put o.dst v) w := by
        by_cases hwd : Region.wanted o (yielded ops a.tmps) = true
        · rw [if_pos hwd] at h
          obtain ⟨v, h1, h2⟩ := h
          exact ⟨v, .inl ⟨hwd, h1⟩, h2⟩
        · rw [if_neg hwd] at h
          exact ⟨undef, .inr ⟨by simpa using hwd, rfl⟩, h⟩
      obtain ⟨v, hy, hK⟩ := hex
      refine wpAnyD_first h0 (Region.noSelect_spec hsel) hQ hs hc hn hk0 hkn (fun listed' a' w' hL => by rw [hL.1]; exact hlast) (fun _ _ _ hL => hLC _ _ hL.2) l.length _ a w hw (upTo_inv hb k n (by omega) (by omega)) (Region.free_spec h0 hr.2) hr' hy ?_
      rw [upTo_set _ _ (by omega)]
      exact recu _ w hw hK

/-- Moves; then loads and the like, with E between; then what is left in the order of the text. -/
theorem wp_region_mixed {id : Nat} {a : Act} {w : World} {l : List Oper} (m n : Nat) (E : List Nat) (hm : P.follows .mixedOrders = true)
    (hB : (Region.noSelect l.toArray && edgesBack .any l.toArray && movesB .any l.toArray m 0 && decide (m ≤ n) && sinkFrom .any l.toArray m n && behind .any l.toArray n && decide (n < l.length) && lexSegE .any l.toArray E (n - m) m &&
      Region.seqB .any l.toArray (l.length - n) n (upTo l.toArray.size n)) = true)
    (hQ : ∀ c (a : Act) d v w, Q (.panic c) (a.put d v) w → Q (.panic c) a w)
    (X : Type) (F : X → World) (x0 : X) (hC : { w with drawn := w.drawn + 1 } = F x0)
    (h : wpStillC P l.toArray (fun w' => ∃ x, w' = F x) Q E (fun a' w' => (∃ x, w' = F x) ∧ wpList P l.toArray Q (l.drop n) a' w') ((l.drop m).take (n - m)) m (moved a (l.take m)) (F x0)) :
    (Code.region id l.toArray true).wp P Q a w := by
  simp only [Bool.and_eq_true, decide_eq_true_eq] at hB
  obtain ⟨⟨⟨⟨⟨⟨⟨⟨hsel, hb⟩, hmv⟩, hmn⟩, hs⟩, hc⟩, hn⟩, hl⟩, hq⟩ := hB
  have hlen : ((l.drop m).take (n - m)).length = n - m := by simp; omega
  have H := wpAnyD_seg (P := P) (C := fun w' => ∃ x, w' = F x) (k0 := m) (n := n) hsel hQ hs hc hb (by simpa using hn) (seqB_ready hq) (fun a w h => h.1) ((l.drop m).take (n - m)) m (moved a (l.take m)) (F x0) ⟨x0, rfl⟩
    (fun j hj => by
      rw [hlen] at hj
      rw [List.getElem?_take_of_lt hj, List.getElem?_drop]; simp) (Nat.le_refl _) (by rw [hlen]; omega) (by rw [hlen]; exact hl) h
  rw [hlen] at H
  refine wp_region_any hm ?_
  have := wpAny_of_D (P := P) (Q := Q) (g := l.length - n) (fun listed a' w' hL => by
    obtain ⟨e, hx, hL⟩ := hL
    subst e
    have hd : (l.drop n).length = l.length - n := by simp
    have := wpAny_of_seq (md := .any) (Q' := Q) (l.drop n) n (upTo l.toArray.size n) a' w' (fun j => by simp [List.getElem?_drop]) (by rw [hd]; exact hq) hL
    rwa [hd] at this) _ _ _ _ H
  have hml : (l.take m).length = m := by simp; omega
  have := wpAny_moves (P := P) (md := .any) (ops := l.toArray) (Q := Q) hsel hQ (n - m + (l.length - n)) (l.take m) 0 a { w with drawn := w.drawn + 1 } (fun j hj => by
      rw [hml] at hj
      rw [List.getElem?_take_of_lt hj]; simp) (by rw [hml]; exact hmv) (by rw [hml]; simp; omega) (by rw [hml, Nat.zero_add, hC]; exact this)
  rw [hml, upTo_zero, show m + (n - m + (l.length - n)) = l.toArray.size by simp; omega] at this
  exact this
theorem wpStillC_step {E : List Nat} {Lq : Act → World → Prop} {o : Oper} {rest : List Oper} {k : Nat} {a : Act} {w : World} (hE : E.contains k = false)
    (h : ∀ K : Act → Prop, (∀ a, wpStillC P ops C Q E Lq rest (k + 1) a w → K a) → if Region.wanted o (yielded ops a.tmps) then ∃ v, (∀ w, C w → (execOp a.eval o).run P w = .ok (.value v) w) ∧ K (a.put o.dst v) else K (a.put o.dst undef)) :
    wpStillC P ops C Q E Lq (o :: rest) k a w := by
  have := h _ (fun _ h => h)
  unfold wpStillC
  rw [if_neg (by rw [hE]; simp)]
  exact this
theorem wpStillC_forced {E : List Nat} {Lq : Act → World → Prop} {o : Oper} {rest : List Oper} {k : Nat} {a : Act} {w : World} (hE : E.contains k = true) (hw : C w)
    (h : wpList P ops (Exit.then (fun a' w' => C w' ∧ wpStillC P ops C Q E Lq rest (k + 1) a' w') Q) [o] a w) : wpStillC P ops C Q E Lq (o :: rest) k a w := by
  unfold wpStillC
  rw [if_pos hE]
  exact ⟨hw, h⟩
theorem wpStillC_nil {E : List Nat} {Lq : Act → World → Prop} {k : Nat} {a : Act} {w : World} (h : Lq a w) : wpStillC P ops C Q E Lq [] k a w := h
end
end Go.Proofs.YtnkdbpjmepfblaaGreatDoor

/- Regions that draw their order, walked in an order of one's own. -/
namespace Go.Proofs.YtnkdbpjmepfblaaGreatDoor
open Go Go.RowKit
section
variable {P : Program} {md : Region.Mode} {ops : Array Oper} {C : World → Prop} {Q : Exit → Act → World → Prop}

def wpStillO (P : Program) (ops : Array Oper) (C : World → Prop) (Q : Exit → Act → World → Prop) (E : List Nat) (Lq : Act → World → Prop) : List (Nat × Oper) → Act → World → Prop
  | [], a, w => Lq a w
  | (k, o) :: rest, a, w =>
    if E.contains k then (C w ∧ wpList P ops (Exit.then (fun a' w' => C w' ∧ wpStillO P ops C Q E Lq rest a' w') Q) [o] a w)
    else if Region.wanted o (yielded ops a.tmps) then ∃ v, (∀ w, C w → (execOp a.eval o).run P w = .ok (.value v) w) ∧ wpStillO P ops C Q E Lq rest (a.put o.dst v) w
    else wpStillO P ops C Q E Lq rest (a.put o.dst undef) w
/-- Each of these may come up when its turn comes. -/
def ordB (md : Region.Mode) (ops : Array Oper) (E : List Nat) (n : Nat) : List Nat → Array Bool → Bool
  | [], listed => decide (listed = upTo ops.size n)
  | k :: ks, listed => decide (k < n) && (if E.contains k then decide (Region.ready md ops listed = [k]) else ((Region.ready md ops listed).contains k && Region.free md ops listed k)) && ordB md ops E n ks (listed.setIfInBounds k true)
def pickO (l : List Oper) : List Nat → List (Nat × Oper)
  | [] => []
  | k :: ks => match l[k]? with | some o => (k, o) :: pickO l ks | none => pickO l ks

theorem wpAnyD_ord {k0 n : Nat} {E : List Nat} {Lq : Act → World → Prop} (hsel : Region.noSelect ops = true)
    (hQ : ∀ c (a : Act) d v w, Q (.panic c) (a.put d v) w → Q (.panic c) a w)
    (hs : sinkFrom md ops k0 n = true) (hc : behind md ops n = true) (hn : n < ops.size)
    (hlast : ∀ j ∈ Region.ready md ops (upTo ops.size n), n ≤ j) (hLC : ∀ a w, Lq a w → C w) :
    ∀ (ks : List Nat) (listed : Array Bool) (a : Act) (w : World), C w → HeadInv md ops n listed → (∀ k ∈ ks, k0 ≤ k) → ordB md ops E n ks listed = true →
    wpStillO P ops C Q E Lq (pickO ops.toList ks) a w →
    wpAnyD P md ops C Q n (fun listed' a' w' => listed' = upTo ops.size n ∧ Lq a' w') ks.length listed a w
  | [], listed, a, w, _, _, _, hB, h => by
    simp only [ordB, decide_eq_true_eq] at hB
    exact ⟨hB, h⟩
  | k :: ks, listed, a, w, hw, inv, hk0, hB, h => by
    simp only [ordB, Bool.and_eq_true, decide_eq_true_eq] at hB
    obtain ⟨⟨hkn, hr⟩, hB'⟩ := hB
    have h0 : ops[k]? = some ops[k] := Array.getElem?_eq_getElem (by omega)
    have h0' : ops.toList[k]? = some ops[k] := by rw [Array.getElem?_toList]; exact h0
    have hkk : k0 ≤ k := hk0 k (by simp)
    simp only [pickO, h0'] at h
    generalize ops[k] = o at h h0
    have recu := fun a' w' (hinv' : HeadInv md ops n (listed.setIfInBounds k true)) (hw' : C w') (h' : wpStillO P ops C Q E Lq (pickO ops.toList ks) a' w') =>
      wpAnyD_ord hsel hQ hs hc hn hlast hLC ks (listed.setIfInBounds k true) a' w' hw' hinv' (fun k' hk' => hk0 k' (by simp [hk'])) hB' h'
    unfold wpStillO at h
    by_cases hE : E.contains k = true
    · rw [if_pos hE] at h hr
      simp only [decide_eq_true_eq] at hr
      have hinv' := inv.set (i := k) (by rw [hr]; simp) hkn
      refine ⟨hw, by rw [hr]; simp, fun i hi => ?_⟩
      rw [hr] at hi
      have hik : i = k := by simpa using hi
      subst hik
      refine ⟨hkn, ?_⟩
      have := wpOp_of_list h0 h.2
      exact wpOp_mono (fun a' w' h' => recu a' w' hinv' h'.1 h'.2) this
    · rw [if_neg hE] at h hr
      simp only [Bool.and_eq_true] at hr
      have hr' : k ∈ Region.ready md ops listed := by simpa using hr.1
      have hinv' := inv.set (i := k) hr' hkn
      have hex : ∃ v, YieldsC P ops C o v a ∧ wpStillO P ops C Q E Lq (pickO ops.toList ks) (a.put o.dst v) w := by
        by_cases hwd : Region.wanted o (yielded ops a.tmps) = true
        · rw [if_pos hwd] at h
          obtain ⟨v, h1, h2⟩ := h
          exact ⟨v, .inl ⟨hwd, h1⟩, h2⟩
        · rw [if_neg hwd] at h
          exact ⟨undef, .inr ⟨by simpa using hwd, rfl⟩, h⟩
      obtain ⟨v, hy, hK⟩ := hex
      exact wpAnyD_first h0 (Region.noSelect_spec hsel) hQ hs hc hn hkk hkn (fun listed' a' w' hL => by rw [hL.1]; exact hlast) (fun _ _ _ hL => hLC _ _ hL.2) ks.length _ a w hw inv (Region.free_spec h0 hr.2) hr' hy
        (recu _ w hinv' hw hK)
/-- Moves; then in an order of one's own; then what is left in the order of the text. -/
theorem wp_region_ord {id : Nat} {a : Act} {w : World} {l : List Oper} (m n : Nat) (E ord : List Nat) (hm : P.follows .mixedOrders = true)
    (hB : (Region.noSelect l.toArray && edgesBack .any l.toArray && movesB .any l.toArray m 0 && decide (m ≤ n) && decide (ord.length = n - m) && ord.all (fun k => decide (m ≤ k)) && sinkFrom .any l.toArray m n && behind .any l.toArray n && decide (n < l.length) && ordB .any l.toArray E n ord (upTo l.length m) &&
      Region.seqB .any l.toArray (l.length - n) n (upTo l.toArray.size n)) = true)
    (hQ : ∀ c (a : Act) d v w, Q (.panic c) (a.put d v) w → Q (.panic c) a w)
    (X : Type) (F : X → World) (x0 : X) (hC : { w with drawn := w.drawn + 1 } = F x0)
    (h : wpStillO P l.toArray (fun w' => ∃ x, w' = F x) Q E (fun a' w' => (∃ x, w' = F x) ∧ wpList P l.toArray Q (l.drop n) a' w') (pickO l ord) (moved a (l.take m)) (F x0)) :
    (Code.region id l.toArray true).wp P Q a w := by
  simp only [Bool.and_eq_true, decide_eq_true_eq, List.all_eq_true] at hB
  obtain ⟨⟨⟨⟨⟨⟨⟨⟨⟨⟨hsel, hb⟩, hmv⟩, hmn⟩, hlen⟩, hge⟩, hs⟩, hc⟩, hn⟩, hl⟩, hq⟩ := hB
  have hsz : l.toArray.size = l.length := by simp
  have H := wpAnyD_ord (P := P) (C := fun w' => ∃ x, w' = F x) (k0 := m) (n := n) (E := E) (Lq := fun a' w' => (∃ x, w' = F x) ∧ wpList P l.toArray Q (l.drop n) a' w') hsel hQ hs hc (by simpa using hn) (seqB_ready hq) (fun a w h => h.1) ord (upTo l.length m) (moved a (l.take m)) (F x0) ⟨x0, rfl⟩
    (by rw [← hsz]; exact upTo_inv hb m n hmn (by rw [hsz]; omega)) hge hl (by simpa using h)
  rw [hlen] at H
  refine wp_region_any hm ?_
  have := wpAny_of_D (P := P) (Q := Q) (g := l.length - n) (fun listed a' w' hL => by
    obtain ⟨e, hx, hL⟩ := hL
    subst e
    have hd : (l.drop n).length = l.length - n := by simp
    have := wpAny_of_seq (md := .any) (Q' := Q) (l.drop n) n (upTo l.toArray.size n) a' w' (fun j => by simp [List.getElem?_drop]) (by rw [hd]; exact hq) hL
    rwa [hd] at this) _ _ _ _ H
  have hml : (l.take m).length = m := by simp; omega
  have := wpAny_moves (P := P) (md := .any) (ops := l.toArray) (Q := Q) hsel hQ (n - m + (l.length - n)) (l.take m) 0 a { w with drawn := w.drawn + 1 } (fun j hj => by
      rw [hml] at hj
      rw [List.getElem?_take_of_lt hj]; simp) (by rw [hml]; exact hmv) (by rw [hml]; simp; omega) (by rw [hml, Nat.zero_add, hC, hsz]; exact this)
  rw [hml, upTo_zero, show m + (n - m + (l.length - n)) = l.toArray.size by simp; omega] at this
  exact this
theorem wpStillO_step {E : List Nat} {Lq : Act → World → Prop} {o : Oper} {rest : List (Nat × Oper)} {k : Nat} {a : Act} {w : World} (hE : E.contains k = false)
    (h : ∀ K : Act → Prop, (∀ a, wpStillO P ops C Q E Lq rest a w → K a) → if Region.wanted o (yielded ops a.tmps) then ∃ v, (∀ w, C w → (execOp a.eval o).run P w = .ok (.value v) w) ∧ K (a.put o.dst v) else K (a.put o.dst undef)) :
    wpStillO P ops C Q E Lq ((k, o) :: rest) a w := by
  have := h _ (fun _ h => h)
  unfold wpStillO
  rw [if_neg (by rw [hE]; simp)]
  exact this
theorem wpStillO_forced {E : List Nat} {Lq : Act → World → Prop} {o : Oper} {rest : List (Nat × Oper)} {k : Nat} {a : Act} {w : World} (hE : E.contains k = true) (hw : C w)
    (h : wpList P ops (Exit.then (fun a' w' => C w' ∧ wpStillO P ops C Q E Lq rest a' w') Q) [o] a w) : wpStillO P ops C Q E Lq ((k, o) :: rest) a w := by
  unfold wpStillO
  rw [if_pos hE]
  exact ⟨hw, h⟩
theorem wpStillO_nil {E : List Nat} {Lq : Act → World → Prop} {a : Act} {w : World} (h : Lq a w) : wpStillO P ops C Q E Lq [] a w := h
end
end Go.Proofs.YtnkdbpjmepfblaaGreatDoor

/- Regions that draw their order, with one operation that changes the world: what comes ahead of it, and what may come anywhere. -/
namespace Go.Proofs.YtnkdbpjmepfblaaGreatDoor
open Go Go.RowKit
section
variable {P : Program} {md : Region.Mode} {ops : Array Oper} {C D : World → Prop} {Q : Exit → Act → World → Prop}

/-- p waits for i, by some way. -/
def chainB (md : Region.Mode) (ops : Array Oper) (p : Nat) : Nat → Nat → Bool
  | 0, _ => false
  | f + 1, i => (List.range (p + 1)).any fun j => Region.waitsFor md ops j i && (decide (j = p) || chainB md ops p f j)
theorem chainB_not {p n : Nat} {listed : Array Bool} (inv : HeadInv md ops n listed) : ∀ (f i : Nat), chainB md ops p f i = true → listed.getD i true = false → listed.getD p false = false ∧ p ∉ Region.ready md ops listed := by
  intro f
  induction f with
  | zero => intro i h; cases h
  | succ f ih =>
    intro i h hi
    simp only [chainB, List.any_eq_true, Bool.and_eq_true, Bool.or_eq_true, decide_eq_true_eq] at h
    obtain ⟨j, _, hw, hj⟩ := h
    obtain ⟨oj, hoj, e, he, hb, hon⟩ := Region.waitsFor_spec hw
    have hjl : listed.getD j false = false := by
      cases hl : listed.getD j false with
      | false => rfl
      | true =>
        have := inv.closed j oj hoj hl e he hb
        rw [hon, getD_both hi] at this
        cases this
    have hjs : j < listed.size := by
      have := (Array.getElem?_eq_some_iff.1 hoj).1
      rw [inv.size]; exact this
    rcases hj with rfl | hj
    · refine ⟨hjl, fun hr => ?_⟩
      obtain ⟨_, o', ho', hall⟩ := mem_ready.1 hr
      have : oj = o' := Option.some.inj (hoj.symm.trans ho')
      subst this
      have := hall e he hb
      rw [hon, getD_both hi] at this
      cases this
    · exact ih j hj (getD_in hjs hjl)

def wpAnyT (P : Program) (md : Region.Mode) (ops : Array Oper) (C D : World → Prop) (Q : Exit → Act → World → Prop) (n p : Nat) (L : Array Bool → Act → World → Prop) : Nat → Array Bool → Act → World → Prop
  | 0, listed, a, w => L listed a w
  | f + 1, listed, a, w =>
    ((listed.getD p false = false → C w) ∧ D w) ∧ Region.ready md ops listed ≠ [] ∧ ∀ i ∈ Region.ready md ops listed, i < n ∧ wpOp P ops Q i (wpAnyT P md ops C D Q n p L f (listed.setIfInBounds i true)) a w
theorem wpAny_of_T {n p g : Nat} {L : Array Bool → Act → World → Prop} (hL : ∀ listed a w, L listed a w → wpAny P md ops Q g listed a w) :
    ∀ (f : Nat) (listed : Array Bool) (a : Act) (w : World), wpAnyT P md ops C D Q n p L f listed a w → wpAny P md ops Q (f + g) listed a w
  | 0, listed, a, w, h => by rw [Nat.zero_add]; exact hL _ _ _ h
  | f + 1, listed, a, w, h => by
    rw [show f + 1 + g = (f + g) + 1 by omega]
    exact ⟨fun h0 => absurd h0 h.2.1, fun i hi => wpOp_mono (fun a' w' h' => wpAny_of_T hL f _ a' w' h') (h.2.2 i hi).2⟩
theorem wpAnyT_C {n p : Nat} {L : Array Bool → Act → World → Prop} (hLC : ∀ listed a w, L listed a w → (listed.getD p false = false → C w) ∧ D w) {f : Nat} {listed : Array Bool} {a : Act} {w : World} (h : wpAnyT P md ops C D Q n p L f listed a w) : (listed.getD p false = false → C w) ∧ D w := by
  cases f with
  | zero => exact hLC _ _ _ h
  | succ f => exact h.1
theorem wpAnyT_first {k n i p : Nat} {oi : Oper} {v : Value} {Ci : World → Prop} {L : Array Bool → Act → World → Prop} (hi : ops[i]? = some oi) (hip : i ≠ p) (hsel : ∀ (j : Nat) (o : Oper) cs b, ops[j]? = some o → o.op ≠ .select cs b)
    (hQ : ∀ c (a : Act) d v w, Q (.panic c) (a.put d v) w → Q (.panic c) a w)
    (hs : sinkFrom md ops k n = true) (hc : behind md ops n = true) (hn : n < ops.size) (hki : k ≤ i) (hin : i < n)
    (hdone : ∀ listed a w, L listed a w → ∀ j ∈ Region.ready md ops listed, n ≤ j) (hLC : ∀ listed a w, L listed a w → (listed.getD p false = false → C w) ∧ D w)
    (hCi : ∀ listed w, HeadInv md ops n listed → listed.getD i true = false → (listed.getD p false = false → C w) ∧ D w → Ci w) :
    ∀ (f : Nat) (listed : Array Bool) (a : Act) (w : World), (listed.getD p false = false → C w) ∧ D w → HeadInv md ops n listed →
      (∀ j oj, ops[j]? = some oj → j ≠ i → listed.getD j true = false → (∀ e ∈ oj.after, Region.binds md e = true → e.on ≠ i) → oi.apart ops oj = true) →
      i ∈ Region.ready md ops listed → YieldsC P ops Ci oi v a →
      wpAnyT P md ops C D Q n p L f (listed.setIfInBounds i true) (a.put oi.dst v) w → wpAnyT P md ops C D Q n p L (f + 1) listed a w := by
  intro f
  induction f with
  | zero =>
    intro listed a w hw inv _ hr hy H
    have hun := (mem_ready.1 hr).1
    refine ⟨hw, fun h => (by rw [h] at hr; cases hr), fun j hj => ?_⟩
    have hjn : j < n := by
      rcases Nat.lt_or_ge j n with h | h
      · exact h
      · exact absurd hj (tail_waits' hs hc hn inv _ i rfl hki hin hun j h)
    refine ⟨hjn, ?_⟩
    by_cases hji : j = i
    · subst hji; exact hy.wpOp hi (hCi listed w inv hun hw) H
    · have := hdone _ _ _ H j (ready_mono hj hji)
      omega
  | succ f ih =>
    intro listed a w hw inv hfree hr hy H
    have hun := (mem_ready.1 hr).1
    refine ⟨hw, fun h => (by rw [h] at hr; cases hr), fun j hj => ?_⟩
    have hjn : j < n := by
      rcases Nat.lt_or_ge j n with h | h
      · exact h
      · exact absurd hj (tail_waits' hs hc hn inv _ i rfl hki hin hun j h)
    refine ⟨hjn, ?_⟩
    by_cases hji : j = i
    · subst hji; exact hy.wpOp hi (hCi listed w inv hun hw) H
    · have h1 := (H.2.2 j (ready_mono hj hji)).2
      obtain ⟨hjun, oj, hoj, hall⟩ := mem_ready.1 hj
      have hnot : ∀ e ∈ oj.after, Region.binds md e = true → e.on ≠ i := fun e he hb heq => by
        have h1 := hall e he hb
        rw [heq, getD_both hun] at h1
        cases h1
      have h2 := wpOp_putC hoj (hfree j oj hoj hji hjun hnot) (fun cs b => hsel i oi cs b hi) (fun cs b => hsel j oj cs b hoj) hQ hy h1
      have hfree' : ∀ k ok, ops[k]? = some ok → k ≠ i → (listed.setIfInBounds j true).getD k true = false →
          (∀ e ∈ ok.after, Region.binds md e = true → e.on ≠ i) → oi.apart ops ok = true := fun k ok hk hki hun hno => by
        refine hfree k ok hk hki ?_ hno
        by_cases hjk : j = k
        · subst hjk; exact hjun
        · rw [getD_set_ne true hjk] at hun; exact hun
      refine wpOp_mono (fun a' w' h3 => ?_) h2
      have hC0 := wpAnyT_C hLC h3.2
      have hC' : ((listed.setIfInBounds j true).getD p false = false → C w') ∧ D w' := ⟨fun hp => hC0.1 (by
        rw [Array.setIfInBounds_comm _ _ (Ne.symm hji), getD_set_ne false hip]; exact hp), hC0.2⟩
      refine ih (listed.setIfInBounds j true) a' w' hC' (inv.set hj hjn) hfree' (ready_mono hr (Ne.symm hji)) h3.1 ?_
      rw [Array.setIfInBounds_comm _ _ hji]
      exact h3.2

def wpStillT (P : Program) (ops : Array Oper) (C D : World → Prop) (Q : Exit → Act → World → Prop) (p : Nat) (E : List Nat) (early : Nat → Bool) (Lq : Act → World → Prop) : List (Nat × Oper) → Act → World → Prop
  | [], a, w => Lq a w
  | (k, o) :: rest, a, w =>
    if E.contains k then ((k = p → C w) ∧ D w ∧ wpList P ops (Exit.then (fun a' w' => D w' ∧ wpStillT P ops C D Q p E early Lq rest a' w') Q) [o] a w)
    else if Region.wanted o (yielded ops a.tmps) then ∃ v, (∀ w, (if early k = true then C w else D w) → (execOp a.eval o).run P w = .ok (.value v) w) ∧ wpStillT P ops C D Q p E early Lq rest (a.put o.dst v) w
    else wpStillT P ops C D Q p E early Lq rest (a.put o.dst undef) w
/-- Each of these may come up when its turn comes. -/
def ordT (md : Region.Mode) (ops : Array Oper) (p n : Nat) (E : List Nat) : List Nat → Array Bool → Bool
  | [], listed => decide (listed = upTo ops.size n) && decide (p < n)
  | k :: ks, listed => decide (k < n) && (if E.contains k then (decide (Region.ready md ops listed = [k]) && (decide (k = p) || listed.getD p false)) else (decide (k ≠ p) && (Region.ready md ops listed).contains k && Region.free md ops listed k)) && ordT md ops p n E ks (listed.setIfInBounds k true)

theorem wpAnyT_ord {k0 n p F : Nat} {E : List Nat} {Lq : Act → World → Prop} (hsel : Region.noSelect ops = true)
    (hQ : ∀ c (a : Act) d v w, Q (.panic c) (a.put d v) w → Q (.panic c) a w)
    (hs : sinkFrom md ops k0 n = true) (hc : behind md ops n = true) (hn : n < ops.size)
    (hlast : ∀ j ∈ Region.ready md ops (upTo ops.size n), n ≤ j) :
    ∀ (ks : List Nat) (listed : Array Bool) (a : Act) (w : World), (listed.getD p false = false → C w) ∧ D w → HeadInv md ops n listed → (∀ k ∈ ks, k0 ≤ k) → ordT md ops p n E ks listed = true →
    wpStillT P ops C D Q p E (chainB md ops p F) Lq (pickO ops.toList ks) a w →
    wpAnyT P md ops C D Q n p (fun listed' a' w' => (listed' = upTo ops.size n ∧ p < n ∧ D w') ∧ Lq a' w') ks.length listed a w
  | [], listed, a, w, hw, _, _, hB, h => by
    simp only [ordT, Bool.and_eq_true, decide_eq_true_eq] at hB
    exact ⟨⟨hB.1, hB.2, hw.2⟩, h⟩
  | k :: ks, listed, a, w, hw, inv, hk0, hB, h => by
    simp only [ordT, Bool.and_eq_true, decide_eq_true_eq] at hB
    obtain ⟨⟨hkn, hr⟩, hB'⟩ := hB
    have h0 : ops[k]? = some ops[k] := Array.getElem?_eq_getElem (by omega)
    have h0' : ops.toList[k]? = some ops[k] := by rw [Array.getElem?_toList]; exact h0
    have hkk : k0 ≤ k := hk0 k (by simp)
    simp only [pickO, h0'] at h
    generalize ops[k] = o at h h0
    have recu := fun a' w' (hinv' : HeadInv md ops n (listed.setIfInBounds k true)) (hw' : ((listed.setIfInBounds k true).getD p false = false → C w') ∧ D w') (h' : wpStillT P ops C D Q p E (chainB md ops p F) Lq (pickO ops.toList ks) a' w') =>
      wpAnyT_ord hsel hQ hs hc hn hlast ks (listed.setIfInBounds k true) a' w' hw' hinv' (fun k' hk' => hk0 k' (by simp [hk'])) hB' h'
    unfold wpStillT at h
    by_cases hE : E.contains k = true
    · rw [if_pos hE] at h hr
      simp only [Bool.and_eq_true, Bool.or_eq_true, decide_eq_true_eq] at hr
      obtain ⟨hr, hkp⟩ := hr
      have hinv' := inv.set (i := k) (by rw [hr]; simp) hkn
      refine ⟨hw, by rw [hr]; simp, fun i hi => ?_⟩
      rw [hr] at hi
      have hik : i = k := by simpa using hi
      subst hik
      refine ⟨hkn, ?_⟩
      have := wpOp_of_list h0 h.2.2
      refine wpOp_mono (fun a' w' h' => recu a' w' hinv' ⟨fun hp => ?_, h'.1⟩ h'.2) this
      have hks : i < listed.size := by rw [inv.size]; omega
      by_cases hip : i = p
      · subst hip
        simp [Array.getD, hks] at hp
      · rw [getD_set_ne false hip] at hp
        rcases hkp with h1 | h1
        · exact absurd h1 hip
        · rw [h1] at hp; cases hp
    · rw [if_neg hE] at h hr
      simp only [Bool.and_eq_true, decide_eq_true_eq] at hr
      obtain ⟨⟨hkp, hr1⟩, hr2⟩ := hr
      have hr' : k ∈ Region.ready md ops listed := by simpa using hr1
      have hinv' := inv.set (i := k) hr' hkn
      have hex : ∃ v, YieldsC P ops (fun w => if chainB md ops p F k = true then C w else D w) o v a ∧ wpStillT P ops C D Q p E (chainB md ops p F) Lq (pickO ops.toList ks) (a.put o.dst v) w := by
        by_cases hwd : Region.wanted o (yielded ops a.tmps) = true
        · rw [if_pos hwd] at h
          obtain ⟨v, h1, h2⟩ := h
          exact ⟨v, .inl ⟨hwd, h1⟩, h2⟩
        · rw [if_neg hwd] at h
          exact ⟨undef, .inr ⟨by simpa using hwd, rfl⟩, h⟩
      obtain ⟨v, hy, hK⟩ := hex
      refine wpAnyT_first h0 hkp (Region.noSelect_spec hsel) hQ hs hc hn hkk hkn (fun listed' a' w' hL => by rw [hL.1.1]; exact hlast) (fun listed' a' w' hL => ⟨fun hp => ?_, hL.1.2.2⟩) (fun listed' w' inv' hun hw' => by
          split
          · rename_i hch; exact hw'.1 (chainB_not inv' F k hch hun).1
          · exact hw'.2) ks.length _ a w hw inv (Region.free_spec h0 hr2) hr' hy
        (recu _ w hinv' ⟨fun hp => hw.1 (by rw [getD_set_ne false hkp] at hp; exact hp), hw.2⟩ hK)
      rw [hL.1.1, upTo_getD, if_pos (by omega)] at hp
      have := of_decide_eq_false hp
      omega
/-- Moves; then in an order of one's own, with the one operation p that changes the world; then what is left in the order of the text. -/
theorem wp_region_two {id : Nat} {a : Act} {w : World} {l : List Oper} (m n p : Nat) (E ord : List Nat) (hm : P.follows .mixedOrders = true)
    (hB : (Region.noSelect l.toArray && edgesBack .any l.toArray && movesB .any l.toArray m 0 && decide (m ≤ n) && decide (ord.length = n - m) && ord.all (fun k => decide (m ≤ k)) && sinkFrom .any l.toArray m n && behind .any l.toArray n && decide (n < l.length) && ordT .any l.toArray p n E ord (upTo l.length m) &&
      Region.seqB .any l.toArray (l.length - n) n (upTo l.toArray.size n)) = true)
    (hQ : ∀ c (a : Act) d v w, Q (.panic c) (a.put d v) w → Q (.panic c) a w)
    (C D : World → Prop) (hC : C w.drew) (hD : D w.drew)
    (h : wpStillT P l.toArray C D Q p E (chainB .any l.toArray p 20) (fun a' w' => wpList P l.toArray Q (l.drop n) a' w') (pickO l ord) (moved a (l.take m)) w.drew) :
    (Code.region id l.toArray true).wp P Q a w := by
  simp only [Bool.and_eq_true, decide_eq_true_eq, List.all_eq_true] at hB
  obtain ⟨⟨⟨⟨⟨⟨⟨⟨⟨⟨hsel, hb⟩, hmv⟩, hmn⟩, hlen⟩, hge⟩, hs⟩, hc⟩, hn⟩, hl⟩, hq⟩ := hB
  have hsz : l.toArray.size = l.length := by simp
  have H := wpAnyT_ord (P := P) (C := C) (D := D) (k0 := m) (n := n) (p := p) (E := E) (F := 20) (Lq := fun a' w' => wpList P l.toArray Q (l.drop n) a' w') hsel hQ hs hc (by simpa using hn) (seqB_ready hq) ord (upTo l.length m) (moved a (l.take m)) _ ⟨fun _ => hC, hD⟩
    (by rw [← hsz]; exact upTo_inv hb m n hmn (by rw [hsz]; omega)) hge hl (by simpa using h)
  rw [hlen] at H
  refine wp_region_any hm ?_
  have := wpAny_of_T (P := P) (Q := Q) (g := l.length - n) (fun listed a' w' hL => by
    obtain ⟨⟨e, _, _⟩, hL⟩ := hL
    subst e
    have hd : (l.drop n).length = l.length - n := by simp
    have := wpAny_of_seq (md := .any) (Q' := Q) (l.drop n) n (upTo l.toArray.size n) a' w' (fun j => by simp [List.getElem?_drop]) (by rw [hd]; exact hq) hL
    rwa [hd] at this) _ _ _ _ H
  have hml : (l.take m).length = m := by simp; omega
  have := wpAny_moves (P := P) (md := .any) (ops := l.toArray) (Q := Q) hsel hQ (n - m + (l.length - n)) (l.take m) 0 a { w with drawn := w.drawn + 1 } (fun j hj => by
      rw [hml] at hj
      rw [List.getElem?_take_of_lt hj]; simp) (by rw [hml]; exact hmv) (by rw [hml]; simp; omega) (by rw [hml, Nat.zero_add, hsz]; exact this)
  rw [hml, upTo_zero, show m + (n - m + (l.length - n)) = l.toArray.size by simp; omega] at this
  exact this
theorem wpStillT_step {p k : Nat} {E : List Nat} {early : Nat → Bool} {Lq : Act → World → Prop} {o : Oper} {rest : List (Nat × Oper)} {a : Act} {w : World} (hk : E.contains k = false) (hE : early k = true)
    (h : ∀ K : Act → Prop, (∀ a, wpStillT P ops C D Q p E early Lq rest a w → K a) → if Region.wanted o (yielded ops a.tmps) then ∃ v, (∀ w, C w → (execOp a.eval o).run P w = .ok (.value v) w) ∧ K (a.put o.dst v) else K (a.put o.dst undef)) :
    wpStillT P ops C D Q p E early Lq ((k, o) :: rest) a w := by
  have := h _ (fun _ h => h)
  unfold wpStillT
  rw [if_neg (by rw [hk]; simp), hE]
  exact this
/-- One that may come up behind p, too. -/
theorem wpStillT_late {p k : Nat} {E : List Nat} {early : Nat → Bool} {Lq : Act → World → Prop} {o : Oper} {rest : List (Nat × Oper)} {a : Act} {w : World} (hk : E.contains k = false) (hE : early k = false)
    (h : ∀ K : Act → Prop, (∀ a, wpStillT P ops C D Q p E early Lq rest a w → K a) → if Region.wanted o (yielded ops a.tmps) then ∃ v, (∀ w, D w → (execOp a.eval o).run P w = .ok (.value v) w) ∧ K (a.put o.dst v) else K (a.put o.dst undef)) :
    wpStillT P ops C D Q p E early Lq ((k, o) :: rest) a w := by
  have := h _ (fun _ h => h)
  unfold wpStillT
  rw [if_neg (by rw [hk]; simp), hE]
  exact this
theorem wpStillT_forced {p k : Nat} {E : List Nat} {early : Nat → Bool} {Lq : Act → World → Prop} {o : Oper} {rest : List (Nat × Oper)} {a : Act} {w : World} (hk : E.contains k = true) (hw : k = p → C w) (hd : D w)
    (h : wpList P ops (Exit.then (fun a' w' => D w' ∧ wpStillT P ops C D Q p E early Lq rest a' w') Q) [o] a w) : wpStillT P ops C D Q p E early Lq ((k, o) :: rest) a w := by
  unfold wpStillT
  rw [if_pos hk]
  exact ⟨hw, hd, h⟩
theorem wpStillT_nil {p : Nat} {E : List Nat} {early : Nat → Bool} {Lq : Act → World → Prop} {a : Act} {w : World} (h : Lq a w) : wpStillT P ops C D Q p E early Lq [] a w := h
end
end Go.Proofs.YtnkdbpjmepfblaaGreatDoor
