/- Texts of the walk and its plain law, merged: MapD. -/
import Derived.Test.YtnkdbpjmepfblaaGreatDoorM20
import Derived.Maps.RangeRun
/- Ranging over a map of the program's own, whatever the order. -/
namespace Go.Proofs.YtnkdbpjmepfblaaGreatDoor
open Go
section
variable {P : Program} {κ : Type} {val : κ → Value}
/-- Block r ranges over the map; what is seen is among these. -/
structure RngL (w : World) (val : κ → Value) (bm r : Nat) (L : List (κ × Nat)) (done : List κ) (cnt : Nat) (stepped : Option κ) : Prop where
  ex : ∃ es clock seen c0, w.heap[bm]? = some (.map es clock) ∧ entsAre val es.toList L ∧ bornOk es clock ∧ w.heap[r]? = some (.mapIter (some bm) clock seen c0) ∧ clock ≤ c0 ∧
    (∀ e ∈ es.toList, seen.contains e.born = true → ∃ p ∈ done, e.key = val p) ∧ (leftOf es seen).size = cnt ∧ (∀ p ∈ done, p ∈ L.map Prod.fst) ∧ r ≠ bm ∧
    (∀ p, stepped = some p → c0 = clock ∧ ∃ e ∈ es.toList, e.key = val p ∧ ∃ s : Array Nat, seen = s.push e.born)
theorem entsAre.key {es : List MapEntry} {L : List (κ × Nat)} (h : entsAre val es L) {e : MapEntry} (he : e ∈ es) : ∃ p ∈ L, e.key = val p.1 ∧ e.val = .int .u32 (p.2 : Int) := by
  have h1 : (e.key, e.val) ∈ L.map (fun p => (val p.1, Value.int .u32 (p.2 : Int))) := by
    unfold entsAre at h
    rw [← h]
    exact List.mem_map.2 ⟨e, he, rfl⟩
  obtain ⟨p, hp, hq⟩ := List.mem_map.1 h1
  simp only [Prod.mk.injEq] at hq
  exact ⟨p, hp, hq.1.symm, hq.2.symm⟩
theorem entsAre.ent {es : List MapEntry} {L : List (κ × Nat)} (h : entsAre val es L) {p : κ × Nat} (hp : p ∈ L) : ∃ e ∈ es, e.key = val p.1 := by
  have h1 : (val p.1, Value.int .u32 (p.2 : Int)) ∈ es.map (fun e => (e.key, e.val)) := by
    unfold entsAre at h
    rw [h]
    exact List.mem_map.2 ⟨p, hp, rfl⟩
  obtain ⟨e, he, hq⟩ := List.mem_map.1 h1
  simp only [Prod.mk.injEq] at hq
  exact ⟨e, he, hq.1⟩
theorem MapL.range {w : World} {bm : Nat} {L : List (κ × Nat)} (h : MapL w val bm L) {t k e : TypeId} (ht : P.underlying t = some (.map k e)) :
    ∃ o, (Instr.range t (.map (some bm))).run P w = .ok (.pointer (some ⟨w.heap.size, 0, none⟩)) (w.alloc o) ∧ RngL (w.alloc o) val bm w.heap.size L [] L.length none := by
  have hlt := h.lt
  obtain ⟨es, clock, h1, h2, h3⟩ := h
  refine ⟨_, run_range_map w t k e bm es clock ht h1, ⟨es, clock, #[], clock, ?_, h2, h3, heap_alloc_new _ _, Nat.le_refl _, fun e _ he => by simp at he, ?_, by simp, by omega, fun p hp => by cases hp⟩⟩
  · rw [heap_alloc_old _ _ hlt]; exact h1
  · have hl : es.size = L.length := by
      have := congrArg List.length h2
      simpa using this
    unfold leftOf
    rw [Array.filter_eq_self.2 (by simp)]
    exact hl
theorem RngL.same {w w' : World} {bm r cnt : Nat} {L : List (κ × Nat)} {done : List κ} {s : Option κ} (h : RngL w val bm r L done cnt s) (h1 : w'.heap[bm]? = w.heap[bm]?) (h2 : w'.heap[r]? = w.heap[r]?) : RngL w' val bm r L done cnt s := by
  obtain ⟨es, clock, seen, c0, k1, k2, k3, k4, k5⟩ := h.ex
  exact ⟨es, clock, seen, c0, by rw [h1]; exact k1, k2, k3, by rw [h2]; exact k4, k5⟩
theorem RngL.lt {w : World} {bm r cnt : Nat} {L : List (κ × Nat)} {done : List κ} {s : Option κ} (h : RngL w val bm r L done cnt s) : bm < w.heap.size ∧ r < w.heap.size := by
  obtain ⟨es, clock, seen, c0, k1, k2, k3, k4, k5⟩ := h.ex
  constructor
  · rcases Nat.lt_or_ge bm w.heap.size with h' | h'
    · exact h'
    · rw [Array.getElem?_eq_none h'] at k1; cases k1
  · rcases Nat.lt_or_ge r w.heap.size with h' | h'
    · exact h'
    · rw [Array.getElem?_eq_none h'] at k4; cases k4
theorem RngL.map {w : World} {bm r cnt : Nat} {L : List (κ × Nat)} {done : List κ} {s : Option κ} (h : RngL w val bm r L done cnt s) : MapL w val bm L := by
  obtain ⟨es, clock, seen, c0, k1, k2, k3, _⟩ := h.ex
  exact ⟨es, clock, k1, k2, k3⟩
theorem RngL.sub {w : World} {bm r cnt : Nat} {L : List (κ × Nat)} {done : List κ} {s : Option κ} (h : RngL w val bm r L done cnt s) : ∀ p ∈ done, p ∈ L.map Prod.fst := by
  obtain ⟨es, clock, seen, c0, k1, k2, k3, k4, k5, k6, k7, k8, _⟩ := h.ex
  exact k8
/-- The world behind a step. -/
def stepW (w w' : World) (r : Nat) : Prop := w'.os = w.os ∧ w'.tape = w.tape ∧ w'.output = w.output ∧ w'.heap.size = w.heap.size ∧ ∀ b, b ≠ r → w'.heap[b]? = w.heap[b]?
/-- A step: nothing is left, or one more is seen. -/
theorem RngL.next {w : World} {bm r cnt : Nat} {L : List (κ × Nat)} {done : List κ} {s : Option κ} (h : RngL w val bm r L done cnt s) (ty : TypeId) :
    (cnt = 0 ∧ (Instr.next (.pointer (some ⟨r, 0, none⟩)) false ty).run P w = .ok (.tuple #[.bool false]) w ∧ ∀ p ∈ L.map Prod.fst, ∃ q ∈ done, val p = val q) ∨
    ∃ (p : κ) (v : Nat) (w' : World) (cnt' : Nat), p ∈ L.map Prod.fst ∧ (Instr.next (.pointer (some ⟨r, 0, none⟩)) false ty).run P w = .ok (.tuple #[.bool true, val p, .int .u32 v]) w' ∧ stepW w w' r ∧ RngL w' val bm r L (done ++ [p]) cnt' (some p) ∧ cnt' < cnt := by
  obtain ⟨es, clock, seen, c0, k1, k2, k3, k4, k5, k6, k7, k8, k9, k10⟩ := h.ex
  rcases run_next_at (P := P) w ty r bm clock c0 seen es clock k4 k1 k3.1 k5 with ⟨h0, hrun⟩ | ⟨e, he, w1, hw1, hrun⟩
  · refine .inl ⟨by omega, hrun, fun p hp => ?_⟩
    obtain ⟨q, hq, rfl⟩ := List.mem_map.1 hp
    obtain ⟨e, he, hk⟩ := k2.ent hq
    have hs : seen.contains e.born = true := by
      unfold leftOf at h0
      have h1 : Array.filter (fun e => !seen.contains e.born) es = #[] := Array.eq_empty_of_size_eq_zero h0
      rw [Array.filter_eq_empty_iff] at h1
      have := h1 e (by simpa using he)
      simpa using this
    obtain ⟨z, hz, hzk⟩ := k6 e he hs
    exact ⟨z, hz, by rw [← hk, hzk]⟩
  · right
    have he' : e ∈ es.toList ∧ seen.contains e.born = false := by
      unfold leftOf at he
      simp at he
      exact ⟨by simpa using he.1, by simpa using he.2⟩
    obtain ⟨p, hp, hpk, hpv⟩ := k2.key he'.1
    rw [hpk, hpv] at hrun
    have hh : w1.heap = w.heap ∧ w1.os = w.os ∧ w1.tape = w.tape ∧ w1.output = w.output := by rcases hw1 with rfl | rfl <;> exact ⟨rfl, rfl, rfl, rfl⟩
    have hr : r < w1.heap.size := by
      rw [hh.1]
      exact h.lt.2
    have hcnt : (leftOf es (seen.push e.born)).size < cnt := by
      rw [← k7]
      unfold leftOf
      have hsub : (es.toList.filter (fun x => !(seen.push e.born).contains x.born)) = (es.toList.filter (fun x => !seen.contains x.born)).filter (fun x => !(x.born == e.born)) := by
        rw [List.filter_filter]
        apply List.filter_congr
        intro x _
        simp only [Array.contains_push]
        cases h1 : x.born == e.born <;> cases h2 : seen.contains x.born <;> simp_all
      have h1 : (Array.filter (fun x => !(seen.push e.born).contains x.born) es).size = ((es.toList.filter (fun x => !seen.contains x.born)).filter (fun x => !(x.born == e.born))).length := by
        rw [← hsub, ← Array.length_toList, Array.toList_filter]
      have h2 : (Array.filter (fun x => !seen.contains x.born) es).size = (es.toList.filter (fun x => !seen.contains x.born)).length := by
        rw [← Array.length_toList, Array.toList_filter]
      rw [h1, h2]
      refine List.length_filter_lt_length_iff_exists.2 ⟨e, ?_, by simp⟩
      exact List.mem_filter.2 ⟨he'.1, by simpa using he'.2⟩
    refine ⟨p.1, p.2, _, (leftOf es (seen.push e.born)).size, List.mem_map.2 ⟨p, hp, rfl⟩, hrun, ?_, ⟨es, clock, seen.push e.born, clock, ?_, k2, k3, ?_, Nat.le_refl _, ?_, rfl, ?_, k9, ?_⟩, hcnt⟩
    · refine ⟨hh.2.1, hh.2.2.1, hh.2.2.2, ?_, fun b hb => ?_⟩
      · simp [Go.ChangeMaps.setBlock, hh.1]
      · simp only [Go.ChangeMaps.setBlock, hh.1]
        rw [Array.getElem?_setIfInBounds_ne (Ne.symm hb)]
    · simp only [Go.ChangeMaps.setBlock, hh.1]
      rw [Array.getElem?_setIfInBounds_ne k9]; exact k1
    · simp only [Go.ChangeMaps.setBlock]
      simp [hr]
    · intro x hx hs
      simp only [Array.contains_push, Bool.or_eq_true] at hs
      by_cases hxe : x.born = e.born
      · have : x = e := by
          have h1 := find_born x es.toList k3.2 hx
          have h2 := find_born e es.toList k3.2 he'.1
          rw [hxe] at h1
          exact Option.some.inj (h1.symm.trans h2)
        subst this
        exact ⟨p.1, by simp, hpk⟩
      · rcases hs with hs | hs
        · obtain ⟨q, hq, hqk⟩ := k6 x hx hs
          exact ⟨q, by simp [hq], hqk⟩
        · exact absurd (by simpa using hs) (by first | exact hxe | exact Ne.symm hxe)
    · intro q hq
      rcases List.mem_append.1 hq with h1 | h1
      · exact k8 q h1
      · obtain rfl := List.mem_singleton.1 h1
        exact List.mem_map.2 ⟨p, hp, rfl⟩
    · intro q hq
      injection hq with hq
      subst hq
      exact ⟨rfl, e, he'.1, hpk, seen, rfl⟩
/-- The round's key, read behind the step. -/
theorem RngL.entry {w : World} {bm r cnt : Nat} {L : List (κ × Nat)} {done : List κ} {p : κ} (h : RngL w val bm r L done cnt (some p)) :
    ∃ v : Nat, (Instr.entry (.pointer (some ⟨r, 0, none⟩))).run P w = .ok (.tuple #[val p, .int .u32 v]) w := by
  obtain ⟨es, clock, seen, c0, k1, k2, k3, k4, k5, k6, k7, k8, k9, k10⟩ := h.ex
  obtain ⟨rfl, e, he, hek, s, rfl⟩ := k10 p rfl
  obtain ⟨q, hq, hqk, hqv⟩ := k2.key he
  refine ⟨q.2, ?_⟩
  have := run_entry_at (P := P) w r bm c0 s es c0 e k4 k1 he k3.2
  rw [hek, hqv] at this
  exact this
end
end Go.Proofs.YtnkdbpjmepfblaaGreatDoor
