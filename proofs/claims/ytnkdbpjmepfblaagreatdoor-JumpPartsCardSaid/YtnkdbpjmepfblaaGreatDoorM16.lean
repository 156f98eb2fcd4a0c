/- Texts of the walk and its plain law, merged: MapA, MapB, MemA, MemB, SqE, SqF. -/
import Derived.Test.YtnkdbpjmepfblaaGreatDoorM13
import Derived.MapKept
import Derived.ChangeMaps4
/- Maps of the program's own: a list of keys with numbers. -/
namespace Go.Proofs.YtnkdbpjmepfblaaGreatDoor
open Go

/-- A type of keys that the machine compares whole. -/
structure KeyL (P : Program) (kT : TypeId) (κ : Type) [DecidableEq κ] (val : κ → Value) : Prop where
  now : ∃ d, P.underlying kT = some d ∧ ∀ (x y : κ), Instr.sameNow d (val x) (val y) = none
  eq : ∀ (w : World) (x y : κ), (Op.equal kT (val x) (val y)).run P w = .ok (decide (x = y)) w
  chk : ∀ (w : World) (em : Bool) (x : κ), (Instr.checkKey em 10000 kT (val x)).run P w = .ok () w
  stays : ∀ (w : World) (x : κ), (Instr.keyThatStays (val x) (val x)).run P w = .ok (val x) w
section
variable {P : Program} {kT : TypeId} {κ : Type} [DecidableEq κ] {val : κ → Value}
/-- A block is written anew. -/
def putObj (w : World) (b : Nat) (o : Obj) : World := { w with heap := w.heap.setIfInBounds b o }
def entsAre (val : κ → Value) (es : List MapEntry) (L : List (κ × Nat)) : Prop :=
  es.map (fun e => (e.key, e.val)) = L.map (fun p => (val p.1, Value.int .u32 (p.2 : Int)))
def lookL (L : List (κ × Nat)) (x : κ) : Option Nat := (L.find? (fun p => decide (x = p.1))).map Prod.snd
theorem findAsking_run (K : KeyL P kT κ val) (w : World) (x : κ) : ∀ (es : List MapEntry) (L : List (κ × Nat)) (i : Nat), entsAre val es L →
    ∃ r, (Instr.findAsking kT (val x) es i).run P w = .ok r w ∧
      ((r = none ∧ lookL L x = none ∧ ∀ p ∈ L, p.1 ≠ x) ∨ ∃ (j v : Nat), r = some (i + j, .int .u32 (v : Int)) ∧ lookL L x = some v ∧ (∃ e, es[j]? = some e ∧ e.key = val x) ∧ L[j]? = some (x, v)) := by
  intro es
  induction es with
  | nil =>
    intro L i h
    cases L with
    | nil => exact ⟨none, by simp [Instr.findAsking], .inl ⟨rfl, rfl, by simp⟩⟩
    | cons p L => simp [entsAre] at h
  | cons e es ih =>
    intro L i h
    cases L with
    | nil => simp [entsAre] at h
    | cons p L =>
      simp only [entsAre, List.map_cons, List.cons.injEq, Prod.mk.injEq] at h
      obtain ⟨⟨h1, h2⟩, h3⟩ := h
      by_cases hp : x = p.1
      · refine ⟨some (i, e.val), ?_, .inr ⟨0, p.2, by rw [h2]; rfl, by simp [lookL, hp], ⟨e, rfl, by rw [h1, hp]⟩, by simp [hp]⟩⟩
        simp [Instr.findAsking, h1, K.eq, hp, Sem.run_bind]
      · obtain ⟨r, hr, hc⟩ := ih L (i + 1) h3
        refine ⟨r, ?_, ?_⟩
        · rw [← hr]
          simp [Instr.findAsking, h1, K.eq, hp, Sem.run_bind]
        · rcases hc with ⟨a1, a2, a3⟩ | ⟨j, v, a1, a2, a3, a4⟩
          · refine .inl ⟨a1, by simp only [lookL, List.find?_cons, decide_eq_false hp] at a2 ⊢; exact a2, ?_⟩
            intro q hq
            rcases List.mem_cons.1 hq with rfl | hq
            · exact fun e => hp e.symm
            · exact a3 q hq
          · refine .inr ⟨j + 1, v, by rw [a1]; congr 2; omega, by simp only [lookL, List.find?_cons, decide_eq_false hp] at a2 ⊢; exact a2, by simpa using a3, by simpa using a4⟩
theorem findKey_run (K : KeyL P kT κ val) (w : World) (x : κ) (es : List MapEntry) (L : List (κ × Nat)) (h : entsAre val es L) :
    ∃ r, (Instr.findKey kT (val x) es).run P w = .ok r w ∧
      ((r = none ∧ lookL L x = none ∧ ∀ p ∈ L, p.1 ≠ x) ∨ ∃ (j v : Nat), r = some (j, .int .u32 (v : Int)) ∧ lookL L x = some v ∧ (∃ e, es[j]? = some e ∧ e.key = val x) ∧ L[j]? = some (x, v)) := by
  obtain ⟨d, hd, hn⟩ := K.now
  cases es with
  | nil =>
    cases L with
    | nil => exact ⟨none, by simp [Instr.findKey, run_underlying hd, Instr.findNow], .inl ⟨rfl, rfl, by simp⟩⟩
    | cons p L => simp [entsAre] at h
  | cons e es =>
    cases L with
    | nil => simp [entsAre] at h
    | cons p L =>
      have h' := h
      simp only [entsAre, List.map_cons, List.cons.injEq, Prod.mk.injEq] at h'
      obtain ⟨r, hr, hc⟩ := findAsking_run K w x (e :: es) (p :: L) 0 h
      refine ⟨r, ?_, ?_⟩
      · rw [← hr]
        simp [Instr.findKey, run_underlying hd, Instr.findNow, h'.1.1, hn]
      · simpa using hc
/-- Block B is a map with these entries. -/
def bornOk (es : Array MapEntry) (clock : Nat) : Prop := (∀ e ∈ es.toList, e.born < clock) ∧ (es.toList.map (·.born)).Nodup
def MapL (w : World) (val : κ → Value) (B : Nat) (L : List (κ × Nat)) : Prop := ∃ es clock, w.heap[B]? = some (.map es clock) ∧ entsAre val es.toList L ∧ bornOk es clock
omit [DecidableEq κ] in
theorem MapL.same {w w' : World} {B : Nat} {L : List (κ × Nat)} (h : MapL w val B L) (hk : w'.heap[B]? = w.heap[B]?) : MapL w' val B L := by
  obtain ⟨es, clock, h1, h2, h3⟩ := h
  exact ⟨es, clock, by rw [hk]; exact h1, h2, h3⟩
omit [DecidableEq κ] in
theorem MapL.lt {w : World} {B : Nat} {L : List (κ × Nat)} (h : MapL w val B L) : B < w.heap.size := by
  obtain ⟨es, clock, h1, _⟩ := h
  rcases Nat.lt_or_ge B w.heap.size with h' | h'
  · exact h'
  · rw [Array.getElem?_eq_none h'] at h1; cases h1
omit [DecidableEq κ] in
theorem MapL.new (w : World) : MapL (w.alloc (.map #[] 0)) val w.heap.size ([] : List (κ × Nat)) :=
  ⟨#[], 0, by unfold World.alloc; exact Array.getElem?_push_size, rfl, by simp [bornOk]⟩
theorem MapL.look {w : World} {B : Nat} {L : List (κ × Nat)} (h : MapL w val B L) (K : KeyL P kT κ val) {t e : TypeId} (ht : P.underlying t = some (.map kT e)) (hz : ∀ w, (zeroValue e).run P w = .ok (.int .u32 0) w) (x : κ) :
    (Instr.lookup t (.map (some B)) (val x) true).run P w = .ok (.tuple #[.int .u32 (((lookL L x).getD 0 : Nat) : Int), .bool (lookL L x).isSome]) w := by
  obtain ⟨es, clock, h1, h2, _⟩ := h
  obtain ⟨r, hr, hc⟩ := findKey_run K w x es.toList L h2
  rcases hc with ⟨rfl, a2, _⟩ | ⟨j, v, rfl, a2, _⟩
  · simp [Instr.lookup, run_underlying ht, MapKept.run_getObj_map h1, K.chk, hr, hz, a2, Sem.run_bind, Result.andThen]
  · simp [Instr.lookup, run_underlying ht, MapKept.run_getObj_map h1, K.chk, hr, a2, Sem.run_bind, Result.andThen]
def putL (L : List (κ × Nat)) (x : κ) (v : Nat) : List (κ × Nat) :=
  match L.findIdx? (fun p => decide (x = p.1)) with
  | some j => L.set j (x, v)
  | none => L ++ [(x, v)]
theorem putL_mem {L : List (κ × Nat)} {x : κ} {v : Nat} {p : κ × Nat} (h : p ∈ putL L x v) : p = (x, v) ∨ p ∈ L := by
  unfold putL at h
  split at h
  · rcases List.mem_or_eq_of_mem_set h with h | h
    · exact .inr h
    · exact .inl h
  · rcases List.mem_append.1 h with h | h
    · exact .inr h
    · exact .inl (by simpa using h)
theorem findAsking_idx (K : KeyL P kT κ val) (w : World) (x : κ) : ∀ (es : List MapEntry) (L : List (κ × Nat)) (i : Nat), entsAre val es L →
    ∃ r, (Instr.findAsking kT (val x) es i).run P w = .ok r w ∧
      ((r = none ∧ L.findIdx? (fun p => decide (x = p.1)) = none) ∨ ∃ (j v : Nat), r = some (i + j, .int .u32 (v : Int)) ∧ (∃ e, es[j]? = some e ∧ e.key = val x) ∧ L.findIdx? (fun p => decide (x = p.1)) = some j) := by
  intro es
  induction es with
  | nil =>
    intro L i h
    cases L with
    | nil => exact ⟨none, by simp [Instr.findAsking], .inl ⟨rfl, rfl⟩⟩
    | cons p L => simp [entsAre] at h
  | cons e es ih =>
    intro L i h
    cases L with
    | nil => simp [entsAre] at h
    | cons p L =>
      simp only [entsAre, List.map_cons, List.cons.injEq, Prod.mk.injEq] at h
      obtain ⟨⟨h1, h2⟩, h3⟩ := h
      by_cases hp : x = p.1
      · refine ⟨some (i, e.val), ?_, .inr ⟨0, p.2, by rw [h2]; rfl, ⟨e, rfl, by rw [h1, hp]⟩, by simp [List.findIdx?_cons, hp]⟩⟩
        simp [Instr.findAsking, h1, K.eq, hp, Sem.run_bind]
      · obtain ⟨r, hr, hc⟩ := ih L (i + 1) h3
        refine ⟨r, ?_, ?_⟩
        · rw [← hr]
          simp [Instr.findAsking, h1, K.eq, hp, Sem.run_bind]
        · rcases hc with ⟨a1, a2⟩ | ⟨j, v, a1, a3, a4⟩
          · exact .inl ⟨a1, by simp [List.findIdx?_cons, hp, a2]⟩
          · exact .inr ⟨j + 1, v, by rw [a1]; congr 2; omega, by simpa using a3, by simp [List.findIdx?_cons, hp, a4]⟩
theorem findKey_idx (K : KeyL P kT κ val) (w : World) (x : κ) (es : List MapEntry) (L : List (κ × Nat)) (h : entsAre val es L) :
    ∃ r, (Instr.findKey kT (val x) es).run P w = .ok r w ∧
      ((r = none ∧ L.findIdx? (fun p => decide (x = p.1)) = none) ∨ ∃ (j v : Nat), r = some (j, .int .u32 (v : Int)) ∧ (∃ e, es[j]? = some e ∧ e.key = val x) ∧ L.findIdx? (fun p => decide (x = p.1)) = some j) := by
  obtain ⟨d, hd, hn⟩ := K.now
  cases es with
  | nil =>
    cases L with
    | nil => exact ⟨none, by simp [Instr.findKey, run_underlying hd, Instr.findNow], .inl ⟨rfl, rfl⟩⟩
    | cons p L => simp [entsAre] at h
  | cons e es =>
    cases L with
    | nil => simp [entsAre] at h
    | cons p L =>
      have h' := h
      simp only [entsAre, List.map_cons, List.cons.injEq, Prod.mk.injEq] at h'
      obtain ⟨r, hr, hc⟩ := findAsking_idx K w x (e :: es) (p :: L) 0 h
      refine ⟨r, ?_, ?_⟩
      · rw [← hr]
        simp [Instr.findKey, run_underlying hd, Instr.findNow, h'.1.1, hn]
      · simpa using hc
theorem MapL.putF {w : World} {B : Nat} {L : List (κ × Nat)} (h : MapL w val B L) (K : KeyL P kT κ val) {t e : TypeId} (ht : P.underlying t = some (.map kT e)) (x : κ) (v : Nat) :
    ∃ o, (Instr.mapUpdate t (.map (some B)) (val x) (.int .u32 v)).run P w = .ok () (putObj w B o) ∧ MapL (putObj w B o) val B (putL L x v) := by
  have hlt := h.lt
  obtain ⟨es, clock, h1, h2, hbn⟩ := h
  obtain ⟨r, hr, hc⟩ := findKey_idx K w x es.toList L h2
  have hat : ∀ o, (putObj w B o).heap[B]? = some o := fun o => by simp [putObj, hlt]
  unfold putL
  rcases hc with ⟨rfl, a2⟩ | ⟨j, u, rfl, ⟨e0, he0, hk0⟩, a4⟩
  · refine ⟨.map (es.push ⟨val x, .int .u32 v, clock⟩) (clock + 1), ?_, ⟨_, _, hat _, ?_, ?_⟩⟩
    · simp [Instr.mapUpdate, run_underlying ht, MapKept.run_getObj_map h1, K.chk, hr, MapKept.run_setObj_map _ h1, Result.andThen, putObj]
    · rw [a2]; simp [entsAre] at h2 ⊢; exact h2
    · refine ⟨fun e he => ?_, ?_⟩
      · rcases List.mem_append.1 (by simpa using he : e ∈ es.toList ++ [⟨val x, .int .u32 v, clock⟩]) with h | h
        · exact Nat.lt_succ_of_lt (hbn.1 e h)
        · obtain rfl := List.mem_singleton.1 h; exact Nat.lt_succ_self _
      · rw [Array.toList_push, List.map_append, List.nodup_append]
        refine ⟨hbn.2, by simp, fun a ha b hb => ?_⟩
        obtain ⟨e, he, rfl⟩ := List.mem_map.1 ha
        have := hbn.1 e he
        simp at hb
        omega
  · have hj : es[j]? = some e0 := by simpa using he0
    rw [a4]
    have hl : (es.modify j (fun e => { e with key := val x, val := .int .u32 v })).toList = es.toList.set j { e0 with key := val x, val := .int .u32 v } := by
      rw [Array.toList_modify]
      apply List.ext_getElem?
      intro i
      rw [List.getElem?_modify, List.getElem?_set]
      by_cases hij : j = i
      · subst hij
        have hjl : j < es.toList.length := (List.getElem?_eq_some_iff.1 he0).1
        have hjs : j < es.size := by simpa using hjl
        have hje : es[j] = e0 := by rw [Array.getElem?_eq_getElem hjs] at hj; exact Option.some.inj hj
        simp [hjs, hje]
      · simp [hij]
    refine ⟨.map (es.modify j fun e => { e with key := val x, val := .int .u32 v }) clock, ?_, ⟨_, _, hat _, ?_, ?_⟩⟩
    · simp [Instr.mapUpdate, run_underlying ht, MapKept.run_getObj_map h1, K.chk, hr, hj, hk0, K.stays, MapKept.run_setObj_map _ h1, Result.andThen, putObj]
    · unfold entsAre at h2 ⊢
      show List.map _ (es.modify j fun e => { e with key := val x, val := .int .u32 v }).toList = List.map _ (L.set j (x, v))
      rw [hl, List.map_set, List.map_set, h2]
    · have hbo : (es.modify j fun e => { e with key := val x, val := .int .u32 v }).toList.map (·.born) = es.toList.map (·.born) := by
        rw [hl, List.map_set]
        apply List.ext_getElem?
        intro i
        rw [List.getElem?_set]
        by_cases hij : j = i
        · subst hij
          have hjl : j < es.toList.length := (List.getElem?_eq_some_iff.1 he0).1
          have hg : (es.toList.map (·.born))[j]? = some e0.born := by rw [List.getElem?_map, he0]; rfl
          rw [hg]
          simp
          simpa using hjl
        · simp [hij]
      refine ⟨fun e he => ?_, by rw [hbo]; exact hbn.2⟩
      have h1 : e.born ∈ es.toList.map (·.born) := by rw [← hbo]; exact List.mem_map.2 ⟨e, he, rfl⟩
      obtain ⟨e', he', hee⟩ := List.mem_map.1 h1
      rw [← hee]
      exact hbn.1 e' he'
theorem MapL.put {w : World} {B : Nat} {L : List (κ × Nat)} (h : MapL w val B L) (K : KeyL P kT κ val) {t e : TypeId} (ht : P.underlying t = some (.map kT e)) (x : κ) (v : Nat) :
    ∃ o L', (Instr.mapUpdate t (.map (some B)) (val x) (.int .u32 v)).run P w = .ok () (putObj w B o) ∧ MapL (putObj w B o) val B L' ∧ ∀ p ∈ L', p = (x, v) ∨ p ∈ L := by
  obtain ⟨o, h1, h2⟩ := h.putF K ht x v
  exact ⟨o, _, h1, h2, fun p hp => putL_mem hp⟩
omit [DecidableEq κ] in
theorem MapL.clear {w : World} {B : Nat} {L : List (κ × Nat)} (h : MapL w val B L) {t e : TypeId} (ht : P.underlying t = some (.map kT e)) (ty : TypeId) :
    ∃ o, (Builtin.clear_ #[t] ty #[.map (some B)]).run P w = .ok (.tuple #[]) (putObj w B o) ∧ MapL (putObj w B o) val B ([] : List (κ × Nat)) := by
  have hlt := h.lt
  obtain ⟨es, clock, h1, _, _⟩ := h
  refine ⟨.map #[] clock, ?_, ⟨#[], clock, by simp [putObj, hlt], rfl, by simp [bornOk]⟩⟩
  simp [Builtin.clear_, run_underlying ht, MapKept.run_getObj_map h1, MapKept.run_setObj_map _ h1, Result.andThen, putObj, Sem.run_bind]
omit [DecidableEq κ] in
theorem MapL.len {w : World} {B : Nat} {L : List (κ × Nat)} (h : MapL w val B L) {t e : TypeId} (ht : P.underlying t = some (.map kT e)) (ty : TypeId) :
    (Builtin.len_ #[t] ty #[.map (some B)]).run P w = .ok (.int .i64 (L.length : Int)) w := by
  obtain ⟨es, clock, h1, h2, _⟩ := h
  have hl : es.size = L.length := by
    have := congrArg List.length h2
    simpa using this
  simp [Builtin.len_, run_underlying ht, MapKept.run_getObj_map h1, Result.andThen, Sem.run_bind, hl, goInt]
end
end Go.Proofs.YtnkdbpjmepfblaaGreatDoor

/- The keys of the memo and of what is known. -/
namespace Go.Proofs.YtnkdbpjmepfblaaGreatDoor
open Go

deriving instance DecidableEq for K4
def rkVal (p : Nat × Nat) : Value := .agg #[.int .u32 (p.1 : Int), .int .i64 (p.2 : Int)]
def lkVal (p : K4 × Nat) : Value := .agg #[.int .u32 (p.1.a : Int), .int .u32 (p.1.b : Int), .int .u32 (p.1.c : Int), .int .u32 (p.1.d : Int), .int .i64 (p.2 : Int)]
theorem zero29 (w : World) : (zeroValue 29).run Tryz.prog w = .ok (.int .u32 0) w := by kernel_rfl
theorem zero150 (w : World) : (zeroValue 150).run Tryz.prog w = .ok (.int .u32 0) w := by kernel_rfl
theorem rk_keys : KeyL Tryz.prog 220 (Nat × Nat) rkVal where
  now := ⟨_, by exact show Tryz.prog.underlying 220 = some (.struct (Tryz.prog.fieldsOf 220)) by kernel_rfl, fun x y => rfl⟩
  eq := fun w x y => by
    have f0 : Tryz.prog.stoodInHeld 220 = false := by kernel_rfl
    have hS : Tryz.prog.underlying 220 = some (.struct (Tryz.prog.fieldsOf 220)) := by kernel_rfl
    have u3 := Tryz.underlying3
    have u29 := Tryz.underlying29
    have z3 := Tryz.sizeOf3
    have ag3 := Tryz.isAgg3
    have z29 := Tryz.sizeOf29
    have a29 := Tryz.isAgg29
    show (Op.equalIn (9999 + 1) 220 (rkVal x) (rkVal y)).run Tryz.prog w = _
    unfold rkVal
    rw [run_equalIn_agg w 9999 220 _ _ hS f0]
    simp only [Program.fieldsOf, Tryz.underlying220]
    obtain ⟨x1, x2⟩ := x
    obtain ⟨y1, y2⟩ := y
    go_simp
    by_cases g0 : x1 = y1 <;> by_cases g1 : x2 = y2 <;> simp [g0, g1] <;> omega
  chk := fun w em x => by
    unfold rkVal
    have c29 : ∀ (w : World) (a : Int), (Instr.checkKey em 9999 29 (.int .u32 a)).run Tryz.prog w = .ok () w := fun w a => MapKept.run_checkKey Tryz.underlying29 (by simp [MapKept.IsKey]) em 9998
    have c3 : ∀ (w : World) (a : Int), (Instr.checkKey em 9999 3 (.int .i64 a)).run Tryz.prog w = .ok () w := fun w a => MapKept.run_checkKey Tryz.underlying3 (by simp [MapKept.IsKey]) em 9998
    rw [show (10000 : Nat) = 9999 + 1 from rfl, Instr.checkKey]
    have z3 := Tryz.sizeOf3
    have ag3 := Tryz.isAgg3
    have z29 := Tryz.sizeOf29
    have a29 := Tryz.isAgg29
    simp [run_underlying Tryz.underlying220, Sem.run_bind, Result.andThen, part, c29, c3, ag3, a29]
  stays := fun w x => by
    have : Instr.sameBits 10000 (rkVal x) (rkVal x) = true := by
      rw [show (10000 : Nat) = 9999 + 1 from rfl]
      simp [rkVal, Instr.sameBits]
    simp [Instr.keyThatStays, this]
theorem eqArr4' (d : Nat) (a0 a1 a2 a3 b0 b1 b2 b3 : Int) (w : World) :
    (Op.equalIn (d + 2) 271 (.agg #[.int .u32 a0, .int .u32 a1, .int .u32 a2, .int .u32 a3]) (.agg #[.int .u32 b0, .int .u32 b1, .int .u32 b2, .int .u32 b3])).run Tryz.prog w =
      .ok (a0 == b0 && (a1 == b1 && (a2 == b2 && a3 == b3))) w := by
  have hs : ∀ w, (sizeOf 150).run Tryz.prog w = .ok 1 w := fun w => by kernel_rfl
  have hp : ∀ w (x0 x1 x2 x3 : Value), (part 150 #[x0, x1, x2, x3] 0).run Tryz.prog w = .ok x0 w := fun w _ _ _ _ => by kernel_rfl
  have hp1 : ∀ w (x0 x1 x2 x3 : Value), (part 150 #[x0, x1, x2, x3] 1).run Tryz.prog w = .ok x1 w := fun w _ _ _ _ => by kernel_rfl
  have hp2 : ∀ w (x0 x1 x2 x3 : Value), (part 150 #[x0, x1, x2, x3] 2).run Tryz.prog w = .ok x2 w := fun w _ _ _ _ => by kernel_rfl
  have hp3 : ∀ w (x0 x1 x2 x3 : Value), (part 150 #[x0, x1, x2, x3] 3).run Tryz.prog w = .ok x3 w := fun w _ _ _ _ => by kernel_rfl
  have he : ∀ w d (a b : Int), (Op.equalIn (d + 1) 150 (.int .u32 a) (.int .u32 b)).run Tryz.prog w = .ok (a == b) w := fun w d a b => run_equalIn_int w d 150 .u32 .u32 a b Tryz.underlying150
  rw [Op.equalIn]
  simp only [Sem.run_bind, run_underlying Tryz.underlying271, Result.andThen_ok, hs]
  simp [List.range', hp, hp1, hp2, hp3, he, Sem.run_bind]
  by_cases h0 : a0 = b0 <;> by_cases h1 : a1 = b1 <;> by_cases h2 : a2 = b2 <;> by_cases h3 : a3 = b3 <;> simp [h0, h1, h2, h3]
theorem chk271 (em : Bool) (a0 a1 a2 a3 : Int) (w : World) : (Instr.checkKey em 9999 271 (.agg #[.int .u32 a0, .int .u32 a1, .int .u32 a2, .int .u32 a3])).run Tryz.prog w = .ok () w := by
  have hs : ∀ w, (sizeOf 150).run Tryz.prog w = .ok 1 w := fun w => by kernel_rfl
  have hp : ∀ w (x0 x1 x2 x3 : Value), (part 150 #[x0, x1, x2, x3] 0).run Tryz.prog w = .ok x0 w := fun w _ _ _ _ => by kernel_rfl
  have hp1 : ∀ w (x0 x1 x2 x3 : Value), (part 150 #[x0, x1, x2, x3] 1).run Tryz.prog w = .ok x1 w := fun w _ _ _ _ => by kernel_rfl
  have hp2 : ∀ w (x0 x1 x2 x3 : Value), (part 150 #[x0, x1, x2, x3] 2).run Tryz.prog w = .ok x2 w := fun w _ _ _ _ => by kernel_rfl
  have hp3 : ∀ w (x0 x1 x2 x3 : Value), (part 150 #[x0, x1, x2, x3] 3).run Tryz.prog w = .ok x3 w := fun w _ _ _ _ => by kernel_rfl
  have c150 : ∀ (w : World) (a : Int), (Instr.checkKey em 9998 150 (.int .u32 a)).run Tryz.prog w = .ok () w := fun w a => MapKept.run_checkKey Tryz.underlying150 (by simp [MapKept.IsKey]) em 9997
  rw [show (9999 : Nat) = 9998 + 1 from rfl, Instr.checkKey]
  simp [run_underlying Tryz.underlying271, Sem.run_bind, Result.andThen, List.range', hs, hp, hp1, hp2, hp3, c150]
theorem lk_keys : KeyL Tryz.prog 313 (K4 × Nat) lkVal where
  now := ⟨_, by exact show Tryz.prog.underlying 313 = some (.struct (Tryz.prog.fieldsOf 313)) by kernel_rfl, fun x y => rfl⟩
  eq := fun w x y => by
    have f0 : Tryz.prog.stoodInHeld 313 = false := by kernel_rfl
    have hS : Tryz.prog.underlying 313 = some (.struct (Tryz.prog.fieldsOf 313)) := by kernel_rfl
    have u3 := Tryz.underlying3
    have z3 := Tryz.sizeOf3
    have ag3 := Tryz.isAgg3
    have z271 := Tryz.sizeOf271
    have a271 := Tryz.isAgg271
    obtain ⟨⟨x1, x2, x3, x4⟩, x5⟩ := x
    obtain ⟨⟨y1, y2, y3, y4⟩, y5⟩ := y
    show (Op.equalIn (9999 + 1) 313 (lkVal _) (lkVal _)).run Tryz.prog w = _
    unfold lkVal
    rw [run_equalIn_agg w 9999 313 _ _ hS f0]
    simp only [Program.fieldsOf, Tryz.underlying313]
    have e4 : ∀ w, (Op.equalIn 9999 271 (.agg #[.int .u32 (x1 : Int), .int .u32 (x2 : Int), .int .u32 (x3 : Int), .int .u32 (x4 : Int)]) (.agg #[.int .u32 (y1 : Int), .int .u32 (y2 : Int), .int .u32 (y3 : Int), .int .u32 (y4 : Int)])).run Tryz.prog w =
        .ok ((x1 : Int) == y1 && ((x2 : Int) == y2 && ((x3 : Int) == y3 && (x4 : Int) == y4))) w := fun w => eqArr4' 9997 _ _ _ _ _ _ _ _ w
    have hq : ((x1 : Int) == y1 && ((x2 : Int) == y2 && ((x3 : Int) == y3 && (x4 : Int) == y4))) = decide ((⟨x1, x2, x3, x4⟩ : K4) = ⟨y1, y2, y3, y4⟩) := by
      rw [Bool.eq_iff_iff]
      simp only [Bool.and_eq_true, beq_iff_eq, decide_eq_true_eq, K4.mk.injEq]
      omega
    rw [hq] at e4
    have hfin : decide (((⟨x1, x2, x3, x4⟩ : K4), x5) = (⟨y1, y2, y3, y4⟩, y5)) = (decide ((⟨x1, x2, x3, x4⟩ : K4) = ⟨y1, y2, y3, y4⟩) && decide (x5 = y5)) := by
      rw [Bool.eq_iff_iff]; simp
    rw [hfin]
    clear hq hfin
    generalize decide ((⟨x1, x2, x3, x4⟩ : K4) = ⟨y1, y2, y3, y4⟩) = q at e4 ⊢
    go_simp
    by_cases g1 : x5 = y5 <;> cases q <;> simp [g1] <;> omega
  chk := fun w em x => by
    unfold lkVal
    have c3 : ∀ (w : World) (a : Int), (Instr.checkKey em 9999 3 (.int .i64 a)).run Tryz.prog w = .ok () w := fun w a => MapKept.run_checkKey Tryz.underlying3 (by simp [MapKept.IsKey]) em 9998
    have c271 := chk271 em
    rw [show (10000 : Nat) = 9999 + 1 from rfl, Instr.checkKey]
    have z3 := Tryz.sizeOf3
    have ag3 := Tryz.isAgg3
    have z271 := Tryz.sizeOf271
    have a271 := Tryz.isAgg271
    simp [run_underlying Tryz.underlying313, Sem.run_bind, Result.andThen, part, c271, c3, ag3, z271, a271]
  stays := fun w x => by
    have : Instr.sameBits 10000 (lkVal x) (lkVal x) = true := by
      rw [show (10000 : Nat) = 9999 + 1 from rfl]
      simp [lkVal, Instr.sameBits]
    simp [Instr.keyThatStays, this]
end Go.Proofs.YtnkdbpjmepfblaaGreatDoor

/- The memo of leaves: Clear, Result. -/
namespace Go.Proofs.YtnkdbpjmepfblaaGreatDoor
open Go Go.RowKit

def B8.stepN (N : Kn) : Nat → B8 → B8
  | 0, B => B
  | n + 1, B => B8.stepN N n (B.step N)
theorem B8.stepN_ok (N : Kn) : ∀ (n : Nat) {B : B8}, B.ok → (B8.stepN N n B).ok := by
  intro n
  induction n with
  | zero => intro B h; exact h
  | succ n ih => intro B _; exact ih (B.step_ok N)
/-- What becomes of four leaves. -/
def leafRes (N : Kn) (K : K4) (n : Nat) : Nat := if K.block.isNone then K.block.midS 4 else (B8.stepN N n K.block).midS 4
structure MemoW (w : World) (mb mm kb : Nat) (N : Kn) : Prop where
  cells : ∃ made : Int, w.heap[mb]? = some (.cells #[.pointer (some ⟨kb, 0, none⟩), .int .i64 16384, .map (some mm), .int .i64 made] 264)
  map : ∃ L : List ((K4 × Nat) × Nat), MapL w lkVal mm L ∧ ∀ p ∈ L, p.2 = leafRes N p.1.1 p.1.2 ∧ p.1.1.block.isNone = false
  ne : mb ≠ mm
theorem MemoW.same {w w' : World} {mb mm kb : Nat} {N : Kn} (h : MemoW w mb mm kb N) (h1 : w'.heap[mb]? = w.heap[mb]?) (h2 : w'.heap[mm]? = w.heap[mm]?) : MemoW w' mb mm kb N := by
  obtain ⟨made, hc⟩ := h.cells
  obtain ⟨L, hL, hp⟩ := h.map
  exact ⟨⟨made, by rw [h1]; exact hc⟩, ⟨L, hL.same h2, hp⟩, h.ne⟩
theorem MemoW.lt {w : World} {mb mm kb : Nat} {N : Kn} (h : MemoW w mb mm kb N) : mb < w.heap.size ∧ mm < w.heap.size := by
  obtain ⟨made, hc⟩ := h.cells
  obtain ⟨L, hL, _⟩ := h.map
  exact ⟨heap_lt hc, hL.lt⟩
theorem MemoW.ext {w w' : World} {mb mm kb : Nat} {N : Kn} (h : MemoW w mb mm kb N) (hf : Fr w [] w' []) : MemoW w' mb mm kb N :=
  h.same (hf.keep _ h.lt.1 (by simp)) (hf.keep _ h.lt.2 (by simp))
theorem putObj_ne (w : World) {b c : Nat} (o : Obj) (h : c ≠ b) : (putObj w b o).heap[c]? = w.heap[c]? := by
  simp only [putObj]
  rw [Array.getElem?_setIfInBounds]
  rw [if_neg (fun e => h e.symm)]
theorem putObj_size (w : World) (b : Nat) (o : Obj) : (putObj w b o).heap.size = w.heap.size := by simp [putObj]
theorem Fr.put {w w' : World} {o o' : List Nat} (h : Fr w o w' o') {b : Nat} (hb : b ∈ o ∨ w.heap.size ≤ b) (x : Obj) : Fr w o (putObj w' b x) o' := by
  refine ⟨h.os, h.tape, h.output, by rw [putObj_size]; exact h.size, fun c hc hn => ?_, h.own, fun c hc => by rw [putObj_size]; exact h.lt c hc⟩
  rw [putObj_ne _ _ (fun e => ?_)]
  · exact h.keep c hc hn
  · subst e
    rcases hb with hb | hb
    · exact hn hb
    · omega

set_option maxRecDepth 100000 in
set_option maxHeartbeats 800000 in
theorem clear_c {w : World} {mb mm kb : Nat} {N : Kn} (h : MemoW w mb mm kb N) :
    Calls Tryz.prog 225 #[.pointer (some ⟨mb, 0, none⟩)] w fun e w' => e = .returned (.tuple #[]) ∧ MemoW w' mb mm kb N ∧ Fr w [mb, mm] w' [mb, mm] := by
  obtain ⟨made, hc⟩ := h.cells
  obtain ⟨L, hL, _⟩ := h.map
  have hlt := h.lt
  have hne := h.ne
  have hc2 : w.cell? ⟨mb, 2, none⟩ = some (.map (some mm)) := by rw [cell_of_heap hc]; rfl
  obtain ⟨o, hr, hm⟩ := hL.clear Tryz.underlying262 0
  have HC := Lib.hid hc
  have HM := Lib.hid hm
  have HL := Lib.hid hL
  clear hc hm hL h
  go_enter Tryz.func225, Tryz.ntmps225
  go_wp2_with fail
  go_end0
  refine ⟨rfl, ⟨⟨made, ?_⟩, ⟨[], HM.out, by simp⟩, hne⟩, (Fr.refl w [mb, mm] (by simp; exact hlt)).put (.inl (by simp)) o⟩
  rw [putObj_ne _ _ hne]; exact HC.out
end Go.Proofs.YtnkdbpjmepfblaaGreatDoor

/- The memo of leaves: Result. -/
namespace Go.Proofs.YtnkdbpjmepfblaaGreatDoor
open Go Go.RowKit

theorem lookL_mem {κ : Type} [DecidableEq κ] {L : List (κ × Nat)} {x : κ} {v : Nat} (h : lookL L x = some v) : (x, v) ∈ L := by
  unfold lookL at h
  cases hf : L.find? (fun p => decide (x = p.1)) with
  | none => rw [hf] at h; cases h
  | some p =>
    rw [hf] at h
    simp only [Option.map_some, Option.some.injEq] at h
    have h1 := List.find?_some hf
    have h2 := List.mem_of_find?_eq_some hf
    simp only [decide_eq_true_eq] at h1
    obtain ⟨a, b⟩ := p
    simp only at h1 h
    subst h1; subst h
    exact h2
theorem B8.stepN_succ (N : Kn) : ∀ (n : Nat) (B : B8), B8.stepN N (n + 1) B = (B8.stepN N n B).step N := by
  intro n
  induction n with
  | zero => intro B; rfl
  | succ n ih => intro B; show B8.stepN N (n + 1) (B.step N) = _; rw [ih]; rfl
/-- The memory of Result while it steps. -/
structure MemM (w : World) (mb mm kb : Nat) (N : Kn) (L : List ((K4 × Nat) × Nat)) (xb yb : Nat) (KB : Obj) (B : B8) (wr : World) : Prop where
  fr : Fr w [mb, mm] wr [mb, mm]
  memo : MemoW wr mb mm kb N
  map : MapL wr lkVal mm L
  hB : wr.heap[xb]? = some B.box
  hK : wr.heap[yb]? = some KB
theorem MemM.ext {w : World} {mb mm kb : Nat} {N : Kn} {L : List ((K4 × Nat) × Nat)} {xb yb : Nat} {KB : Obj} {B : B8} {wr wz : World} (h : MemM w mb mm kb N L xb yb KB B wr) (hf : Fr wr [] wz []) :
    MemM w mb mm kb N L xb yb KB B wz :=
  ⟨h.fr.ext hf, h.memo.ext hf, h.map.same (hf.keep _ h.map.lt (by simp)), by rw [hf.keep _ (heap_lt h.hB) (by simp)]; exact h.hB, by rw [hf.keep _ (heap_lt h.hK) (by simp)]; exact h.hK⟩
def set8 (w : World) (b : Nat) (C : B8) : World := ((((((((w.setCell ⟨b, 0, none⟩ (.int .u16 (C.r 0 : Nat))).setCell ⟨b, 1, none⟩ (.int .u16 (C.r 1 : Nat))).setCell ⟨b, 2, none⟩ (.int .u16 (C.r 2 : Nat))).setCell ⟨b, 3, none⟩ (.int .u16 (C.r 3 : Nat))).setCell ⟨b, 4, none⟩ (.int .u16 (C.r 4 : Nat))).setCell ⟨b, 5, none⟩ (.int .u16 (C.r 5 : Nat))).setCell ⟨b, 6, none⟩ (.int .u16 (C.r 6 : Nat))).setCell ⟨b, 7, none⟩ (.int .u16 (C.r 7 : Nat)))
theorem set8_ne (w : World) (b : Nat) (C : B8) (c : Nat) (h : c ≠ b) : (set8 w b C).heap[c]? = w.heap[c]? := by
  unfold set8
  rw [World.heap_setCell_ne _ _ _ _ h, World.heap_setCell_ne _ _ _ _ h, World.heap_setCell_ne _ _ _ _ h, World.heap_setCell_ne _ _ _ _ h, World.heap_setCell_ne _ _ _ _ h, World.heap_setCell_ne _ _ _ _ h, World.heap_setCell_ne _ _ _ _ h, World.heap_setCell_ne _ _ _ _ h]
theorem set8_box {w : World} {b : Nat} {B : B8} (h : w.heap[b]? = some B.box) (C : B8) : (set8 w b C).heap[b]? = some C.box := by
  have s0 := B8.setCell h 0 (by decide) (C.r 0)
  have s1 := B8.setCell s0 1 (by decide) (C.r 1)
  have s2 := B8.setCell s1 2 (by decide) (C.r 2)
  have s3 := B8.setCell s2 3 (by decide) (C.r 3)
  have s4 := B8.setCell s3 4 (by decide) (C.r 4)
  have s5 := B8.setCell s4 5 (by decide) (C.r 5)
  have s6 := B8.setCell s5 6 (by decide) (C.r 6)
  have s7 := B8.setCell s6 7 (by decide) (C.r 7)
  unfold set8
  rw [s7]
  congr 1
theorem set8_size (w : World) (b : Nat) (C : B8) : (set8 w b C).heap.size = w.heap.size := by unfold set8; simp
theorem Fr.set8 {w w' : World} {o o' : List Nat} (h : Fr w o w' o') {b : Nat} (hb : w.heap.size ≤ b) (C : B8) : Fr w o (set8 w' b C) o' := by
  have f0 := h.setCell (a := ⟨b, 0, none⟩) hb (.int .u16 (C.r 0 : Nat))
  have f1 := f0.setCell (a := ⟨b, 1, none⟩) hb (.int .u16 (C.r 1 : Nat))
  have f2 := f1.setCell (a := ⟨b, 2, none⟩) hb (.int .u16 (C.r 2 : Nat))
  have f3 := f2.setCell (a := ⟨b, 3, none⟩) hb (.int .u16 (C.r 3 : Nat))
  have f4 := f3.setCell (a := ⟨b, 4, none⟩) hb (.int .u16 (C.r 4 : Nat))
  have f5 := f4.setCell (a := ⟨b, 5, none⟩) hb (.int .u16 (C.r 5 : Nat))
  have f6 := f5.setCell (a := ⟨b, 6, none⟩) hb (.int .u16 (C.r 6 : Nat))
  have f7 := f6.setCell (a := ⟨b, 7, none⟩) hb (.int .u16 (C.r 7 : Nat))
  exact f7
theorem MemM.set {w : World} {mb mm kb : Nat} {N : Kn} {L : List ((K4 × Nat) × Nat)} {xb yb : Nat} {KB : Obj} {B : B8} {wr : World} (h : MemM w mb mm kb N L xb yb KB B wr) (hx : w.heap.size ≤ xb) (hy : xb ≠ yb)
    (hlt : mb < w.heap.size ∧ mm < w.heap.size) (C : B8) : MemM w mb mm kb N L xb yb KB C (set8 wr xb C) := by
  refine ⟨h.fr.set8 hx C, ?_, ?_, set8_box h.hB C, ?_⟩
  · exact h.memo.same (set8_ne _ _ _ _ (by omega)) (set8_ne _ _ _ _ (by omega))
  · exact h.map.same (set8_ne _ _ _ _ (by omega))
  · rw [set8_ne _ _ _ _ (fun e => hy e.symm)]; exact h.hK
set_option maxRecDepth 100000 in
set_option maxHeartbeats 3200000 in
theorem memo_c {w : World} {mb mm kb : Nat} {N : Kn} {ko : List Nat} (h : MemoW w mb mm kb N) (hk : KW w kb N ko) (hd : mb ∉ ko ∧ mm ∉ ko) (K : K4) (hK : K.ok) (n : Nat) (hn1 : 1 ≤ n) (hn2 : n ≤ 2) :
    Calls Tryz.prog 186 #[.pointer (some ⟨mb, 0, none⟩), K.val, .int .i64 n] w fun e w' => e = .returned (.int .u32 (leafRes N K n)) ∧ MemoW w' mb mm kb N ∧ Fr w [mb, mm] w' [mb, mm] := by
  have HM := Lib.hid h
  have HKW := Lib.hid hk
  have HK := Lib.hid hK
  have HD := Lib.hid hd
  have hlt := h.lt
  have hne := h.ne
  clear h hk hK hd
  unfold K4.val
  go_enter Tryz.func186, Tryz.ntmps186
  have hn0 : ((n : Int) == 0) = false := by simp; omega
  go_wp2_with fail
  refine (of8_c (w.alloc K.qbox) K HK.out).mono ?_
  rintro e w1 ⟨rfl, hF1⟩
  have HF1 := Lib.hid (((Fr.nil w).alloc K.qbox).trans hF1)
  have HQ1 := Lib.hid (show w1.heap[w.heap.size]? = some K.qbox by rw [hF1.keep _ (by simp) (by simp)]; exact heap_new _ _)
  clear hF1
  unfold B8.val
  go_wp2_with fail
  refine (empty8_c (w1.alloc K.block.box) K.block).mono ?_
  rintro e w2 ⟨rfl, hF2⟩
  have HF2 := Lib.hid ((HF1.out.alloc K.block.box).trans hF2)
  have hs1 := HF1.out.size
  have HB2 := Lib.hid (show w2.heap[w1.heap.size]? = some K.block.box by rw [hF2.keep _ (by simp) (by simp)]; exact heap_new _ _)
  have hq1 := heap_lt HQ1.out
  have HQ2 := Lib.hid (show w2.heap[w.heap.size]? = some K.qbox by rw [hF2.keep _ (by simp; omega) (by simp), Below.heap_alloc _ _ _ hq1]; exact HQ1.out)
  have hs2 : w1.heap.size < w2.heap.size := heap_lt HB2.out
  clear hF2
  rcases Bool.eq_false_or_eq_true K.block.isNone with hno | hno
  · rw [hno]
    have c0 : w2.cell? ⟨w1.heap.size, 0, none⟩ = some (.int .u16 (K.block.r 0 : Nat)) := B8.cell HB2.out 0 (by decide)
    have c1 : w2.cell? ⟨w1.heap.size, 1, none⟩ = some (.int .u16 (K.block.r 1 : Nat)) := B8.cell HB2.out 1 (by decide)
    have c2 : w2.cell? ⟨w1.heap.size, 2, none⟩ = some (.int .u16 (K.block.r 2 : Nat)) := B8.cell HB2.out 2 (by decide)
    have c3 : w2.cell? ⟨w1.heap.size, 3, none⟩ = some (.int .u16 (K.block.r 3 : Nat)) := B8.cell HB2.out 3 (by decide)
    have c4 : w2.cell? ⟨w1.heap.size, 4, none⟩ = some (.int .u16 (K.block.r 4 : Nat)) := B8.cell HB2.out 4 (by decide)
    have c5 : w2.cell? ⟨w1.heap.size, 5, none⟩ = some (.int .u16 (K.block.r 5 : Nat)) := B8.cell HB2.out 5 (by decide)
    have c6 : w2.cell? ⟨w1.heap.size, 6, none⟩ = some (.int .u16 (K.block.r 6 : Nat)) := B8.cell HB2.out 6 (by decide)
    have c7 : w2.cell? ⟨w1.heap.size, 7, none⟩ = some (.int .u16 (K.block.r 7 : Nat)) := B8.cell HB2.out 7 (by decide)
    go_wp2_with fail
    refine (middle8_c w2 K.block K.block_ok).mono ?_
    rintro e w3 ⟨rfl, hF3⟩
    go_wp2_with fail
    go_ret
    have hF := HF2.out.trans hF3
    have hM := HM.out.ext hF
    refine ⟨?_, hM, hF.widen (by simp; exact hlt)⟩
    unfold leafRes
    rw [if_pos hno]
    rfl
  · rw [hno]
    have HNO := Lib.hid hno
    clear hno
    have q0 : w2.cell? ⟨w.heap.size, 0, none⟩ = some (.int .u32 (K.a : Nat)) := K4.qcell HQ2.out 0 (by decide)
    have q1 : w2.cell? ⟨w.heap.size, 1, none⟩ = some (.int .u32 (K.b : Nat)) := K4.qcell HQ2.out 1 (by decide)
    have q2 : w2.cell? ⟨w.heap.size, 2, none⟩ = some (.int .u32 (K.c : Nat)) := K4.qcell HQ2.out 2 (by decide)
    have q3 : w2.cell? ⟨w.heap.size, 3, none⟩ = some (.int .u32 (K.d : Nat)) := K4.qcell HQ2.out 3 (by decide)
    obtain ⟨L, hL, hLp⟩ := HM.out.map
    obtain ⟨made, hmade⟩ := HM.out.cells
    have HF3 := Lib.hid (HF2.out.alloc (.cells #[.int .u32 K.a, .int .u32 K.b, .int .u32 K.c, .int .u32 K.d, .int .i64 n] 313))
    have HL := Lib.hid hL
    have HLP := Lib.hid hLp
    have HMD := Lib.hid hmade
    clear hL hLp hmade
    have hws := HF2.out.size
    have HFY := Lib.hid (fun y : CW (w2.alloc (.cells #[.int .u32 K.a, .int .u32 K.b, .int .u32 K.c, .int .u32 K.d, .int .i64 n] 313)) => HF3.out.trans y.h)
    have hc2 : ∀ y : CW (w2.alloc (.cells #[.int .u32 K.a, .int .u32 K.b, .int .u32 K.c, .int .u32 K.d, .int .i64 n] 313)), y.x.cell? ⟨mb, 2, none⟩ = some (.map (some mm)) := fun y => by
      rw [cell_of_heap (by rw [(HFY.out y).keep _ hlt.1 (by simp)]; exact HMD.out)]; rfl
    have hlook : ∀ y : CW (w2.alloc (.cells #[.int .u32 K.a, .int .u32 K.b, .int .u32 K.c, .int .u32 K.d, .int .i64 n] 313)), (Instr.lookup 262 (.map (some mm)) (.agg #[.int .u32 K.a, .int .u32 K.b, .int .u32 K.c, .int .u32 K.d, .int .i64 n]) true).run Tryz.prog y.x = .ok (.tuple #[.int .u32 (((lookL L (K, n)).getD 0 : Nat) : Int), .bool (lookL L (K, n)).isSome]) y.x := fun y =>
      MapL.look (HL.out.same ((HFY.out y).keep _ hlt.2 (by simp))) lk_keys Tryz.underlying262 zero150 (K, n)
    have HKY := Lib.hid (fun y : CW (w2.alloc (.cells #[.int .u32 K.a, .int .u32 K.b, .int .u32 K.c, .int .u32 K.d, .int .i64 n] 313)) => show y.x.heap[w2.heap.size]? = some (.cells #[.int .u32 K.a, .int .u32 K.b, .int .u32 K.c, .int .u32 K.d, .int .i64 n] 313) by rw [y.h.keep _ (by simp) (by simp)]; exact heap_new _ _)
    have k0 : ∀ y : CW (w2.alloc (.cells #[.int .u32 K.a, .int .u32 K.b, .int .u32 K.c, .int .u32 K.d, .int .i64 n] 313)), y.x.cell? ⟨w2.heap.size, 0, none⟩ = some (.int .u32 K.a) := fun y => by rw [cell_of_heap (HKY.out y)]; rfl
    have k1 : ∀ y : CW (w2.alloc (.cells #[.int .u32 K.a, .int .u32 K.b, .int .u32 K.c, .int .u32 K.d, .int .i64 n] 313)), y.x.cell? ⟨w2.heap.size, 1, none⟩ = some (.int .u32 K.b) := fun y => by rw [cell_of_heap (HKY.out y)]; rfl
    have k2 : ∀ y : CW (w2.alloc (.cells #[.int .u32 K.a, .int .u32 K.b, .int .u32 K.c, .int .u32 K.d, .int .i64 n] 313)), y.x.cell? ⟨w2.heap.size, 2, none⟩ = some (.int .u32 K.c) := fun y => by rw [cell_of_heap (HKY.out y)]; rfl
    have k3 : ∀ y : CW (w2.alloc (.cells #[.int .u32 K.a, .int .u32 K.b, .int .u32 K.c, .int .u32 K.d, .int .i64 n] 313)), y.x.cell? ⟨w2.heap.size, 3, none⟩ = some (.int .u32 K.d) := fun y => by rw [cell_of_heap (HKY.out y)]; rfl
    have k4 : ∀ y : CW (w2.alloc (.cells #[.int .u32 K.a, .int .u32 K.b, .int .u32 K.c, .int .u32 K.d, .int .i64 n] 313)), y.x.cell? ⟨w2.heap.size, 4, none⟩ = some (.int .i64 n) := fun y => by rw [cell_of_heap (HKY.out y)]; rfl
    go_wp2_with fail
    refine wp_region_cw (by kernel_rfl) (by kernel_rfl) (CW (w2.alloc (.cells #[.int .u32 K.a, .int .u32 K.b, .int .u32 K.c, .int .u32 K.d, .int .i64 n] 313))) Cls.x ⟨⟨_, (Fr.nil _).drew⟩, rfl⟩ ?_
    repeat (go_big_quiet_step (fail))
    refine wpQuiet_nil ?_
    intro y
    have hMM : MemM w mb mm kb N L w1.heap.size w2.heap.size (.cells #[.int .u32 K.a, .int .u32 K.b, .int .u32 K.c, .int .u32 K.d, .int .i64 n] 313) K.block y.x := by
      have hf := HFY.out y
      refine ⟨hf.widen (by simp; exact hlt), HM.out.ext hf, HL.out.same (hf.keep _ hlt.2 (by simp)), ?_, HKY.out y⟩
      rw [y.h.keep _ (by simp; omega) (by simp), Below.heap_alloc _ _ _ hs2]; exact HB2.out
    have hmd : y.x.heap[mb]? = _ := ((HFY.out y).keep _ hlt.1 (by simp)).trans HMD.out
    have HMM := Lib.hid hMM
    have HMD2 := Lib.hid hmd
    generalize y.x = W4 at *
    clear y hMM hmd hlook hc2 k0 k1 k2 k3 k4 HKY HFY HF3 q0 q1 q2 q3 HQ2 HB2
    cases hl : lookL L (K, n) with
    | some v =>
      have hv := HLP.out _ (lookL_mem hl)
      have HV := Lib.hid hv.1
      clear hv
      simp only [Option.getD_some, Option.isSome_some]
      go_wp2_with fail
      go_ret
      exact ⟨by rw [← HV.out]; rfl, HMM.out.memo, HMM.out.fr⟩
    | none =>
      simp only [Option.getD_none, Option.isSome_none, show ((0 : Nat) : Int) = 0 from rfl]
      have hcm : W4.cell? ⟨mb, 3, none⟩ = some (.int .i64 made) := by rw [cell_of_heap HMD2.out]; rfl
      have hfz : W4.frozen? ⟨mb, 3, none⟩ = false := frozen_of_row W4 mb 3 _ _ HMD2.out
      go_wp2_with fail
      have hM5 : ∀ x : Int, MemM w mb mm kb N L w1.heap.size w2.heap.size (.cells #[.int .u32 K.a, .int .u32 K.b, .int .u32 K.c, .int .u32 K.d, .int .i64 n] 313) K.block (W4.setCell ⟨mb, 3, none⟩ (.int .i64 x)) := by
        intro x
        have hM := HMM.out
        have hkeep : ∀ b, b ≠ mb → (W4.setCell ⟨mb, 3, none⟩ (.int .i64 x)).heap[b]? = W4.heap[b]? := fun b hb => World.heap_setCell_ne _ _ _ _ hb
        have hcl : (W4.setCell ⟨mb, 3, none⟩ (.int .i64 x)).heap[mb]? = some (.cells #[.pointer (some ⟨kb, 0, none⟩), .int .i64 16384, .map (some mm), .int .i64 x] 264) := by
          rw [heap_setCell_same _ _ _ _ _ _ HMD2.out]; rfl
        refine ⟨⟨hM.fr.os, hM.fr.tape, hM.fr.output, by simpa using hM.fr.size, fun b hb hn => ?_, hM.fr.own, fun b hb => by simpa using hM.fr.lt b hb⟩, ⟨⟨x, hcl⟩, ⟨L, ?_, HLP.out⟩, hne⟩, ?_, ?_, ?_⟩
        · rw [hkeep b (fun e => hn (by simp [e]))]; exact hM.fr.keep b hb hn
        · exact hM.map.same (hkeep mm (fun e => hne e.symm))
        · exact hM.map.same (hkeep mm (fun e => hne e.symm))
        · rw [hkeep _ (by omega)]; exact hM.hB
        · rw [hkeep _ (by omega)]; exact hM.hK
      go_loopw [46] (fun v wr => ∃ j : Nat, j ≤ n ∧ v = .int .i64 j ∧ MemM w mb mm kb N L w1.heap.size w2.heap.size (.cells #[.int .u32 K.a, .int .u32 K.b, .int .u32 K.c, .int .u32 K.d, .int .i64 n] 313) (B8.stepN N j K.block) wr) (fun v _ => n - (intOf v).toNat)
      case atStart => exact ⟨0, by omega, rfl, hM5 _⟩
      case round =>
        clear hM5 HMM HMD2 hcm hfz
        obtain ⟨j, hj, rfl, hM⟩ := hrel
        obtain ⟨W5, rfl⟩ : ∃ W5, W5 = wr := ⟨_, rfl⟩
        have HM5 := Lib.hid hM
        have hok : (B8.stepN N j K.block).ok := B8.stepN_ok N j K.block_ok
        have HOK := Lib.hid hok
        obtain ⟨B, hB⟩ : ∃ B, B = B8.stepN N j K.block := ⟨_, rfl⟩
        have HB := Lib.hid hB
        clear hM hok
        by_cases hjn : j < n
        · have hjni : (j : Int) < n := by omega
          have hkp : ∀ y : CW W5, y.x.cell? ⟨mb, 0, none⟩ = some (.pointer (some ⟨kb, 0, none⟩)) := fun y => by
            obtain ⟨md, hmd⟩ := (HM5.out.memo.ext y.h).cells
            rw [cell_of_heap hmd]; rfl
          have HKX := Lib.hid (fun y : CW W5 => (HKW.out.fr HM5.out.fr (fun b hb => by simp only [List.mem_cons, List.not_mem_nil, or_false, not_or]; exact ⟨fun e => HD.out.1 (e ▸ hb), fun e => HD.out.2 (e ▸ hb)⟩)).ext y.h)
          have HST := Lib.hid (fun y : CW W5 => step8_c y.x (HKX.out y) B (by rw [HB.out]; exact HOK.out))
          have HBX := Lib.hid (fun y : CW W5 => show y.x.heap[w1.heap.size]? = some B.box by rw [HB.out]; exact (HM5.out.ext y.h).hB)
          have b0 : ∀ y : CW W5, y.x.cell? ⟨w1.heap.size, 0, none⟩ = some (.int .u16 (B.r 0 : Nat)) := fun y => B8.cell (HBX.out y) 0 (by decide)
          have b1 : ∀ y : CW W5, y.x.cell? ⟨w1.heap.size, 1, none⟩ = some (.int .u16 (B.r 1 : Nat)) := fun y => B8.cell (HBX.out y) 1 (by decide)
          have b2 : ∀ y : CW W5, y.x.cell? ⟨w1.heap.size, 2, none⟩ = some (.int .u16 (B.r 2 : Nat)) := fun y => B8.cell (HBX.out y) 2 (by decide)
          have b3 : ∀ y : CW W5, y.x.cell? ⟨w1.heap.size, 3, none⟩ = some (.int .u16 (B.r 3 : Nat)) := fun y => B8.cell (HBX.out y) 3 (by decide)
          have b4 : ∀ y : CW W5, y.x.cell? ⟨w1.heap.size, 4, none⟩ = some (.int .u16 (B.r 4 : Nat)) := fun y => B8.cell (HBX.out y) 4 (by decide)
          have b5 : ∀ y : CW W5, y.x.cell? ⟨w1.heap.size, 5, none⟩ = some (.int .u16 (B.r 5 : Nat)) := fun y => B8.cell (HBX.out y) 5 (by decide)
          have b6 : ∀ y : CW W5, y.x.cell? ⟨w1.heap.size, 6, none⟩ = some (.int .u16 (B.r 6 : Nat)) := fun y => B8.cell (HBX.out y) 6 (by decide)
          have b7 : ∀ y : CW W5, y.x.cell? ⟨w1.heap.size, 7, none⟩ = some (.int .u16 (B.r 7 : Nat)) := fun y => B8.cell (HBX.out y) 7 (by decide)
          clear hB
          go_wp2_with fail
          refine wp_region_tail 6 (by kernel_rfl) (by kernel_rfl) (CW W5) Cls.x ⟨⟨_, (Fr.nil W5).drew⟩, rfl⟩ ?_
          simp only [List.take_succ_cons, List.take_zero, List.drop_succ_cons, List.drop_zero]
          repeat (go_big_quiet_step (((go_at_call 224; exact Calls.cls (HST.out _)))))
          refine wpQuiet_nil ?_
          intro y
          have hz : ∀ j, y.x.frozen? ⟨w1.heap.size, j, none⟩ = false := fun j => B8.fz (HBX.out y) j
          have d0 := b0 y
          have d1 := b1 y
          have d2 := b2 y
          have d3 := b3 y
          have d4 := b4 y
          have d5 := b5 y
          have d6 := b6 y
          have d7 := b7 y
          clear b0 b1 b2 b3 b4 b5 b6 b7
          unfold B8.val
          go_wp2_with fail
          refine ⟨⟨j + 1, by omega, rfl, ?_⟩, by simp only [intOf]; omega⟩
          have hM6 := (HM5.out.ext y.h).set (by omega) (by omega) hlt (B.step N)
          rw [B8.stepN_succ, ← HB.out]
          exact hM6
        · have hje : j = n := by omega
          subst hje
          have hjj : ¬ (j : Int) < j := by omega
          have hlen : ∀ y : CW W5, (Builtin.len_ #[262] 3 #[.map (some mm)]).run Tryz.prog y.x = .ok (.int .i64 (L.length : Int)) y.x := fun y => (HM5.out.ext y.h).map.len Tryz.underlying262 3
          have hc1 : ∀ y : CW W5, y.x.cell? ⟨mb, 1, none⟩ = some (.int .i64 16384) := fun y => by
            obtain ⟨md, hmd⟩ := (HM5.out.memo.ext y.h).cells
            rw [cell_of_heap hmd]; rfl
          have hc2 : ∀ y : CW W5, y.x.cell? ⟨mb, 2, none⟩ = some (.map (some mm)) := fun y => by
            obtain ⟨md, hmd⟩ := (HM5.out.memo.ext y.h).cells
            rw [cell_of_heap hmd]; rfl
          clear hB
          go_wp2_with fail
          refine wp_region_cw (by kernel_rfl) (by kernel_rfl) (CW W5) Cls.x ⟨⟨_, (Fr.nil W5).drew⟩, rfl⟩ ?_
          repeat (go_big_quiet_step (fail))
          refine wpQuiet_nil ?_
          intro y
          have HM6 := Lib.hid (HM5.out.ext y.h)
          generalize y.x = W6 at *
          clear hlen hc1 hc2 y HM5
          by_cases hfull : 16384 ≤ L.length
          · have hfi : (16384 : Int) ≤ (L.length : Int) := by omega
            go_wp2_with fail
            refine (clear_c HM6.out.memo).mono ?_
            rintro e W7 ⟨rfl, hM7, hF7⟩
            obtain ⟨L7, hL7, hq7⟩ := hM7.map
            have HLQ := Lib.hid hq7
            have HMF : Hid (MemM w mb mm kb N L7 w1.heap.size w2.heap.size (.cells #[.int .u32 K.a, .int .u32 K.b, .int .u32 K.c, .int .u32 K.d, .int .i64 j] 313) (B8.stepN N j K.block) W7) := Lib.hid ⟨HM6.out.fr.trans hF7, hM7, hL7, by
              rw [hF7.keep _ (heap_lt HM6.out.hB) (by simp; omega)]; exact HM6.out.hB, by rw [hF7.keep _ (heap_lt HM6.out.hK) (by simp; omega)]; exact HM6.out.hK⟩
            clear hM7 hF7 hL7 hq7
            have hok := B8.stepN_ok N j K.block_ok
            rw [← HB.out] at hok
            have HOK2 := Lib.hid hok
            clear hok
            have hc1 : W7.cell? ⟨mb, 1, none⟩ = some (.int .i64 16384) := by
              obtain ⟨md, hmd⟩ := HMF.out.memo.cells
              rw [cell_of_heap hmd]; rfl
            have hc2 : ∀ y : CW W7, y.x.cell? ⟨mb, 2, none⟩ = some (.map (some mm)) := fun y => by
              obtain ⟨md, hmd⟩ := (HMF.out.memo.ext y.h).cells
              rw [cell_of_heap hmd]; rfl
            have HMX := Lib.hid (fun y : CW W7 => HMF.out.ext y.h)
            have HMID := Lib.hid (fun y : CW W7 => middle8_c y.x B HOK2.out)
            have b0 : ∀ y : CW W7, y.x.cell? ⟨w1.heap.size, 0, none⟩ = some (.int .u16 (B.r 0 : Nat)) := fun y => B8.cell (by rw [HB.out]; exact (HMX.out y).hB) 0 (by decide)
            have b1 : ∀ y : CW W7, y.x.cell? ⟨w1.heap.size, 1, none⟩ = some (.int .u16 (B.r 1 : Nat)) := fun y => B8.cell (by rw [HB.out]; exact (HMX.out y).hB) 1 (by decide)
            have b2 : ∀ y : CW W7, y.x.cell? ⟨w1.heap.size, 2, none⟩ = some (.int .u16 (B.r 2 : Nat)) := fun y => B8.cell (by rw [HB.out]; exact (HMX.out y).hB) 2 (by decide)
            have b3 : ∀ y : CW W7, y.x.cell? ⟨w1.heap.size, 3, none⟩ = some (.int .u16 (B.r 3 : Nat)) := fun y => B8.cell (by rw [HB.out]; exact (HMX.out y).hB) 3 (by decide)
            have b4 : ∀ y : CW W7, y.x.cell? ⟨w1.heap.size, 4, none⟩ = some (.int .u16 (B.r 4 : Nat)) := fun y => B8.cell (by rw [HB.out]; exact (HMX.out y).hB) 4 (by decide)
            have b5 : ∀ y : CW W7, y.x.cell? ⟨w1.heap.size, 5, none⟩ = some (.int .u16 (B.r 5 : Nat)) := fun y => B8.cell (by rw [HB.out]; exact (HMX.out y).hB) 5 (by decide)
            have b6 : ∀ y : CW W7, y.x.cell? ⟨w1.heap.size, 6, none⟩ = some (.int .u16 (B.r 6 : Nat)) := fun y => B8.cell (by rw [HB.out]; exact (HMX.out y).hB) 6 (by decide)
            have b7 : ∀ y : CW W7, y.x.cell? ⟨w1.heap.size, 7, none⟩ = some (.int .u16 (B.r 7 : Nat)) := fun y => B8.cell (by rw [HB.out]; exact (HMX.out y).hB) 7 (by decide)
            have k0 : ∀ y : CW W7, y.x.cell? ⟨w2.heap.size, 0, none⟩ = some (.int .u32 K.a) := fun y => by rw [cell_of_heap (HMX.out y).hK]; rfl
            have k1 : ∀ y : CW W7, y.x.cell? ⟨w2.heap.size, 1, none⟩ = some (.int .u32 K.b) := fun y => by rw [cell_of_heap (HMX.out y).hK]; rfl
            have k2 : ∀ y : CW W7, y.x.cell? ⟨w2.heap.size, 2, none⟩ = some (.int .u32 K.c) := fun y => by rw [cell_of_heap (HMX.out y).hK]; rfl
            have k3 : ∀ y : CW W7, y.x.cell? ⟨w2.heap.size, 3, none⟩ = some (.int .u32 K.d) := fun y => by rw [cell_of_heap (HMX.out y).hK]; rfl
            have k4 : ∀ y : CW W7, y.x.cell? ⟨w2.heap.size, 4, none⟩ = some (.int .i64 j) := fun y => by rw [cell_of_heap (HMX.out y).hK]; rfl
            go_wp2_with fail
            refine wp_region_tail 7 (by kernel_rfl) (by kernel_rfl) (CW W7) Cls.x ⟨⟨_, (Fr.nil W7).drew⟩, rfl⟩ ?_
            simp only [List.take_succ_cons, List.take_zero, List.drop_succ_cons, List.drop_zero]
            repeat (go_big_quiet_step (((go_at_call 223; exact Calls.cls (HMID.out _)))))
            refine wpQuiet_nil ?_
            intro y
            obtain ⟨ob, L3, hput, hL3, hmem⟩ := (HMX.out y).map.put lk_keys Tryz.underlying262 (K, j) (B.midS 4)
            have hput' : (Instr.mapUpdate 262 (.map (some mm)) (.agg #[.int .u32 K.a, .int .u32 K.b, .int .u32 K.c, .int .u32 K.d, .int .i64 j]) (.int .u32 (B.midS 4 : Nat))).run Tryz.prog y.x = .ok () (putObj y.x mm ob) := hput
            have HL3 := Lib.hid hL3
            have HMEM := Lib.hid hmem
            have HMY := Lib.hid (HMX.out y)
            have HYL := Lib.hid (show w.heap.size ≤ w1.heap.size by omega)
            clear hput hL3 hmem
            have e0 : (putObj y.x mm ob).cell? ⟨w1.heap.size, 0, none⟩ = some (.int .u16 (B.r 0 : Nat)) := B8.cell (by rw [putObj_ne _ _ (by omega), HB.out]; exact HMY.out.hB) 0 (by decide)
            have e1 : (putObj y.x mm ob).cell? ⟨w1.heap.size, 1, none⟩ = some (.int .u16 (B.r 1 : Nat)) := B8.cell (by rw [putObj_ne _ _ (by omega), HB.out]; exact HMY.out.hB) 1 (by decide)
            have e2 : (putObj y.x mm ob).cell? ⟨w1.heap.size, 2, none⟩ = some (.int .u16 (B.r 2 : Nat)) := B8.cell (by rw [putObj_ne _ _ (by omega), HB.out]; exact HMY.out.hB) 2 (by decide)
            have e3 : (putObj y.x mm ob).cell? ⟨w1.heap.size, 3, none⟩ = some (.int .u16 (B.r 3 : Nat)) := B8.cell (by rw [putObj_ne _ _ (by omega), HB.out]; exact HMY.out.hB) 3 (by decide)
            have e4 : (putObj y.x mm ob).cell? ⟨w1.heap.size, 4, none⟩ = some (.int .u16 (B.r 4 : Nat)) := B8.cell (by rw [putObj_ne _ _ (by omega), HB.out]; exact HMY.out.hB) 4 (by decide)
            have e5 : (putObj y.x mm ob).cell? ⟨w1.heap.size, 5, none⟩ = some (.int .u16 (B.r 5 : Nat)) := B8.cell (by rw [putObj_ne _ _ (by omega), HB.out]; exact HMY.out.hB) 5 (by decide)
            have e6 : (putObj y.x mm ob).cell? ⟨w1.heap.size, 6, none⟩ = some (.int .u16 (B.r 6 : Nat)) := B8.cell (by rw [putObj_ne _ _ (by omega), HB.out]; exact HMY.out.hB) 6 (by decide)
            have e7 : (putObj y.x mm ob).cell? ⟨w1.heap.size, 7, none⟩ = some (.int .u16 (B.r 7 : Nat)) := B8.cell (by rw [putObj_ne _ _ (by omega), HB.out]; exact HMY.out.hB) 7 (by decide)
            clear b0 b1 b2 b3 b4 b5 b6 b7 k0 k1 k2 k3 k4 hc2 hc1
            go_wp2_with fail
            refine (middle8_c (putObj y.x mm ob) B HOK2.out).mono ?_
            rintro e W9 ⟨rfl, hF9⟩
            go_wp2_with fail
            go_ret
            have hres : leafRes N K j = B.midS 4 := by
              unfold leafRes
              rw [HNO.out, HB.out]; rfl
            have hput : MemoW (putObj y.x mm ob) mb mm kb N := by
              obtain ⟨md, hmd⟩ := HMY.out.memo.cells
              refine ⟨⟨md, by rw [putObj_ne _ _ hne]; exact hmd⟩, ⟨L3, HL3.out, fun p hp => ?_⟩, hne⟩
              rcases HMEM.out p hp with rfl | hp
              · exact ⟨hres.symm, HNO.out⟩
              · exact HLQ.out p hp
            exact ⟨by rw [hres]; rfl, hput.ext hF9, (HMY.out.fr.put (.inl (by simp)) ob).ext hF9⟩
          · have hfi : ¬ (16384 : Int) ≤ (L.length : Int) := by omega
            have HLQ := HLP
            have HMF := HM6
            have hok := B8.stepN_ok N j K.block_ok
            rw [← HB.out] at hok
            have HOK2 := Lib.hid hok
            clear hok
            have hc1 : W6.cell? ⟨mb, 1, none⟩ = some (.int .i64 16384) := by
              obtain ⟨md, hmd⟩ := HMF.out.memo.cells
              rw [cell_of_heap hmd]; rfl
            have hc2 : ∀ y : CW W6, y.x.cell? ⟨mb, 2, none⟩ = some (.map (some mm)) := fun y => by
              obtain ⟨md, hmd⟩ := (HMF.out.memo.ext y.h).cells
              rw [cell_of_heap hmd]; rfl
            have HMX := Lib.hid (fun y : CW W6 => HMF.out.ext y.h)
            have HMID := Lib.hid (fun y : CW W6 => middle8_c y.x B HOK2.out)
            have b0 : ∀ y : CW W6, y.x.cell? ⟨w1.heap.size, 0, none⟩ = some (.int .u16 (B.r 0 : Nat)) := fun y => B8.cell (by rw [HB.out]; exact (HMX.out y).hB) 0 (by decide)
            have b1 : ∀ y : CW W6, y.x.cell? ⟨w1.heap.size, 1, none⟩ = some (.int .u16 (B.r 1 : Nat)) := fun y => B8.cell (by rw [HB.out]; exact (HMX.out y).hB) 1 (by decide)
            have b2 : ∀ y : CW W6, y.x.cell? ⟨w1.heap.size, 2, none⟩ = some (.int .u16 (B.r 2 : Nat)) := fun y => B8.cell (by rw [HB.out]; exact (HMX.out y).hB) 2 (by decide)
            have b3 : ∀ y : CW W6, y.x.cell? ⟨w1.heap.size, 3, none⟩ = some (.int .u16 (B.r 3 : Nat)) := fun y => B8.cell (by rw [HB.out]; exact (HMX.out y).hB) 3 (by decide)
            have b4 : ∀ y : CW W6, y.x.cell? ⟨w1.heap.size, 4, none⟩ = some (.int .u16 (B.r 4 : Nat)) := fun y => B8.cell (by rw [HB.out]; exact (HMX.out y).hB) 4 (by decide)
            have b5 : ∀ y : CW W6, y.x.cell? ⟨w1.heap.size, 5, none⟩ = some (.int .u16 (B.r 5 : Nat)) := fun y => B8.cell (by rw [HB.out]; exact (HMX.out y).hB) 5 (by decide)
            have b6 : ∀ y : CW W6, y.x.cell? ⟨w1.heap.size, 6, none⟩ = some (.int .u16 (B.r 6 : Nat)) := fun y => B8.cell (by rw [HB.out]; exact (HMX.out y).hB) 6 (by decide)
            have b7 : ∀ y : CW W6, y.x.cell? ⟨w1.heap.size, 7, none⟩ = some (.int .u16 (B.r 7 : Nat)) := fun y => B8.cell (by rw [HB.out]; exact (HMX.out y).hB) 7 (by decide)
            have k0 : ∀ y : CW W6, y.x.cell? ⟨w2.heap.size, 0, none⟩ = some (.int .u32 K.a) := fun y => by rw [cell_of_heap (HMX.out y).hK]; rfl
            have k1 : ∀ y : CW W6, y.x.cell? ⟨w2.heap.size, 1, none⟩ = some (.int .u32 K.b) := fun y => by rw [cell_of_heap (HMX.out y).hK]; rfl
            have k2 : ∀ y : CW W6, y.x.cell? ⟨w2.heap.size, 2, none⟩ = some (.int .u32 K.c) := fun y => by rw [cell_of_heap (HMX.out y).hK]; rfl
            have k3 : ∀ y : CW W6, y.x.cell? ⟨w2.heap.size, 3, none⟩ = some (.int .u32 K.d) := fun y => by rw [cell_of_heap (HMX.out y).hK]; rfl
            have k4 : ∀ y : CW W6, y.x.cell? ⟨w2.heap.size, 4, none⟩ = some (.int .i64 j) := fun y => by rw [cell_of_heap (HMX.out y).hK]; rfl
            go_wp2_with fail
            refine wp_region_tail 7 (by kernel_rfl) (by kernel_rfl) (CW W6) Cls.x ⟨⟨_, (Fr.nil W6).drew⟩, rfl⟩ ?_
            simp only [List.take_succ_cons, List.take_zero, List.drop_succ_cons, List.drop_zero]
            repeat (go_big_quiet_step (((go_at_call 223; exact Calls.cls (HMID.out _)))))
            refine wpQuiet_nil ?_
            intro y
            obtain ⟨ob, L3, hput, hL3, hmem⟩ := (HMX.out y).map.put lk_keys Tryz.underlying262 (K, j) (B.midS 4)
            have hput' : (Instr.mapUpdate 262 (.map (some mm)) (.agg #[.int .u32 K.a, .int .u32 K.b, .int .u32 K.c, .int .u32 K.d, .int .i64 j]) (.int .u32 (B.midS 4 : Nat))).run Tryz.prog y.x = .ok () (putObj y.x mm ob) := hput
            have HL3 := Lib.hid hL3
            have HMEM := Lib.hid hmem
            have HMY := Lib.hid (HMX.out y)
            have HYL := Lib.hid (show w.heap.size ≤ w1.heap.size by omega)
            clear hput hL3 hmem
            have e0 : (putObj y.x mm ob).cell? ⟨w1.heap.size, 0, none⟩ = some (.int .u16 (B.r 0 : Nat)) := B8.cell (by rw [putObj_ne _ _ (by omega), HB.out]; exact HMY.out.hB) 0 (by decide)
            have e1 : (putObj y.x mm ob).cell? ⟨w1.heap.size, 1, none⟩ = some (.int .u16 (B.r 1 : Nat)) := B8.cell (by rw [putObj_ne _ _ (by omega), HB.out]; exact HMY.out.hB) 1 (by decide)
            have e2 : (putObj y.x mm ob).cell? ⟨w1.heap.size, 2, none⟩ = some (.int .u16 (B.r 2 : Nat)) := B8.cell (by rw [putObj_ne _ _ (by omega), HB.out]; exact HMY.out.hB) 2 (by decide)
            have e3 : (putObj y.x mm ob).cell? ⟨w1.heap.size, 3, none⟩ = some (.int .u16 (B.r 3 : Nat)) := B8.cell (by rw [putObj_ne _ _ (by omega), HB.out]; exact HMY.out.hB) 3 (by decide)
            have e4 : (putObj y.x mm ob).cell? ⟨w1.heap.size, 4, none⟩ = some (.int .u16 (B.r 4 : Nat)) := B8.cell (by rw [putObj_ne _ _ (by omega), HB.out]; exact HMY.out.hB) 4 (by decide)
            have e5 : (putObj y.x mm ob).cell? ⟨w1.heap.size, 5, none⟩ = some (.int .u16 (B.r 5 : Nat)) := B8.cell (by rw [putObj_ne _ _ (by omega), HB.out]; exact HMY.out.hB) 5 (by decide)
            have e6 : (putObj y.x mm ob).cell? ⟨w1.heap.size, 6, none⟩ = some (.int .u16 (B.r 6 : Nat)) := B8.cell (by rw [putObj_ne _ _ (by omega), HB.out]; exact HMY.out.hB) 6 (by decide)
            have e7 : (putObj y.x mm ob).cell? ⟨w1.heap.size, 7, none⟩ = some (.int .u16 (B.r 7 : Nat)) := B8.cell (by rw [putObj_ne _ _ (by omega), HB.out]; exact HMY.out.hB) 7 (by decide)
            clear b0 b1 b2 b3 b4 b5 b6 b7 k0 k1 k2 k3 k4 hc2 hc1
            go_wp2_with fail
            refine (middle8_c (putObj y.x mm ob) B HOK2.out).mono ?_
            rintro e W9 ⟨rfl, hF9⟩
            go_wp2_with fail
            go_ret
            have hres : leafRes N K j = B.midS 4 := by
              unfold leafRes
              rw [HNO.out, HB.out]; rfl
            have hput : MemoW (putObj y.x mm ob) mb mm kb N := by
              obtain ⟨md, hmd⟩ := HMY.out.memo.cells
              refine ⟨⟨md, by rw [putObj_ne _ _ hne]; exact hmd⟩, ⟨L3, HL3.out, fun p hp => ?_⟩, hne⟩
              rcases HMEM.out p hp with rfl | hp
              · exact ⟨hres.symm, HNO.out⟩
              · exact HLQ.out p hp
            exact ⟨by rw [hres]; rfl, hput.ext hF9, (HMY.out.fr.put (.inl (by simp)) ob).ext hF9⟩
end Go.Proofs.YtnkdbpjmepfblaaGreatDoor

/- Squares: Leaves. -/
namespace Go.Proofs.YtnkdbpjmepfblaaGreatDoor
open Go Go.RowKit

theorem K4.setq {w : World} {b : Nat} {K : K4} (h : w.heap[b]? = some K.qbox) (k : Nat) (hk : k < 4) (v : Nat) :
    (w.setCell ⟨b, k, none⟩ (.int .u32 v)).heap[b]? = some (K.set k v).qbox := by
  have hc : k = 0 ∨ k = 1 ∨ k = 2 ∨ k = 3 := by omega
  unfold K4.qbox at h
  rw [heap_setCell_same _ _ _ _ _ _ h]
  rcases hc with rfl | rfl | rfl | rfl <;> rfl
theorem K4.qfz {w : World} {b : Nat} {K : K4} (h : w.heap[b]? = some K.qbox) (k : Nat) : w.frozen? ⟨b, k, none⟩ = false := frozen_of_row w b k _ _ h
def K4.upto (K : K4) (n : Nat) : K4 := ⟨if 0 < n then K.a else 0, if 1 < n then K.b else 0, if 2 < n then K.c else 0, if 3 < n then K.d else 0⟩
theorem K4.upto_set (K : K4) (n : Nat) (hn : n < 4) : (K.upto n).set n (K.k n) = K.upto (n + 1) := by
  have hc : n = 0 ∨ n = 1 ∨ n = 2 ∨ n = 3 := by omega
  rcases hc with rfl | rfl | rfl | rfl <;> rfl
/-- The bits of the four leaves of a node. -/
def Ar.quarters (A : Ar) (n : Nat) : K4 := ⟨A.bits (A.kid n 0), A.bits (A.kid n 1), A.bits (A.kid n 2), A.bits (A.kid n 3)⟩
theorem Ar.bits_lt {A : Ar} (h : A.good) (i : Nat) : A.bits i < 4294967296 := by
  unfold Ar.bits
  split
  · rename_i n hn; exact (h n (List.mem_of_getElem? hn)).2.1
  · decide
theorem Ar.quarters_ok {A : Ar} (h : A.good) (n : Nat) : (A.quarters n).ok := ⟨A.bits_lt h _, A.bits_lt h _, A.bits_lt h _, A.bits_lt h _⟩
theorem Ar.quarters_k (A : Ar) (n k : Nat) (hk : k < 4) : (A.quarters n).k k = A.bits (A.kid n k) := by
  have hc : k = 0 ∨ k = 1 ∨ k = 2 ∨ k = 3 := by omega
  rcases hc with rfl | rfl | rfl | rfl <;> rfl
structure QM (w : World) (R : K4) (wr : World) : Prop where
  fr : Fr w [] wr []
  sz : w.heap.size + 1 < wr.heap.size
  hZ : wr.heap[w.heap.size]? = some (K4.qbox ⟨0, 0, 0, 0⟩)
  hR : wr.heap[w.heap.size + 1]? = some R.qbox

set_option maxRecDepth 100000 in
set_option maxHeartbeats 1600000 in
theorem leaves_w {w : World} {ab : Nat} {A : Ar} {o : List Nat} (h : AW w ab A o) (n : Nat) (hn : n < 4294967296) (hl : A.level n = 3) :
    Calls Tryz.prog 187 #[.pointer (some ⟨ab, 0, none⟩), .int .u32 n] w fun e w' => e = .returned (A.quarters n).val ∧ Fr w [] w' [] := by
  have HAW := Lib.hid h
  have HG := Lib.hid h.good
  have HL := Lib.hid hl
  have hM0 : QM w ⟨0, 0, 0, 0⟩ ((w.alloc (K4.qbox ⟨0, 0, 0, 0⟩)).alloc (K4.qbox ⟨0, 0, 0, 0⟩)) := by
    refine ⟨((Fr.nil w).alloc _).alloc _, by simp, ?_, ?_⟩
    · rw [Below.heap_alloc _ _ _ (by simp)]; exact heap_new _ _
    · have := heap_new (w.alloc (K4.qbox ⟨0, 0, 0, 0⟩)) (K4.qbox ⟨0, 0, 0, 0⟩)
      rw [World.size_alloc] at this
      exact this
  have HM0 := Lib.hid hM0
  have hlv := level_w (HAW.out.ext hM0.fr) n hn
  rw [hl] at hlv
  have HLV := Lib.hid hlv
  clear h hl hM0 hlv
  go_enter Tryz.func187, Tryz.ntmps187
  go_wp2_with fail
  refine HLV.out.mono ?_
  rintro e w' ⟨rfl, rfl⟩
  go_wp2_with fail
  refine (kids_w (HAW.out.ext HM0.out.fr) n hn).mono ?_
  rintro e w2 ⟨rfl, hF2⟩
  have hM : QM w ⟨0, 0, 0, 0⟩ w2 := ⟨HM0.out.fr.trans hF2, Nat.lt_of_lt_of_le HM0.out.sz hF2.size, by rw [hF2.keep _ (by have := HM0.out.sz; omega) (by simp)]; exact HM0.out.hZ, by rw [hF2.keep _ HM0.out.sz (by simp)]; exact HM0.out.hR⟩
  have HM := Lib.hid hM
  clear hM hF2 HM0 HLV
  go_wp2_with fail
  go_loopw [16] (fun v wr => ∃ k : Nat, k ≤ 4 ∧ v = .int .i64 k ∧ QM w ((A.quarters n).upto k) wr) (fun v _ => 4 - (intOf v).toNat)
  case atStart => exact ⟨0, by omega, rfl, HM.out⟩
  case round =>
    clear HM
    obtain ⟨k, hk, rfl, hM⟩ := hrel
    obtain ⟨W0, rfl⟩ : ∃ W0, W0 = wr := ⟨_, rfl⟩
    have HM := Lib.hid hM
    clear hM
    by_cases hk4 : k < 4
    · have hk4i : (k : Int) < 4 := by omega
      have hi := fun w => idxKid A n k hk4 w
      have hbw := bits_w (HAW.out.ext HM.out.fr) (A.kid n k) (A.kid_lt HG.out n k)
      have HBW := Lib.hid hbw
      have hfz := K4.qfz HM.out.hR k
      have hcl := K4.qcell HM.out.hR k hk4
      clear hbw
      go_wp2_with fail
      refine HBW.out.mono ?_
      rintro e w' ⟨rfl, rfl⟩
      go_wp2_with fail
      have hM := HM.out
      refine ⟨⟨k + 1, by omega, rfl, hM.fr.setCell (by show w.heap.size ≤ w.heap.size + 1; omega) _, by simpa using hM.sz, ?_, ?_⟩, by simp only [intOf]; omega⟩
      · rw [World.heap_setCell_ne _ _ _ _ (by show w.heap.size ≠ w.heap.size + 1; omega)]; exact hM.hZ
      · have := K4.setq hM.hR k hk4 ((A.quarters n).k k)
        rw [K4.upto_set _ _ hk4, A.quarters_k n k hk4] at this
        exact this
    · have hk4' : k = 4 := by omega
      subst hk4'
      have c0 : W0.cell? ⟨w.heap.size + 1, 0, none⟩ = some (.int .u32 (A.bits (A.kid n 0))) := K4.qcell HM.out.hR 0 (by decide)
      have c1 : W0.cell? ⟨w.heap.size + 1, 1, none⟩ = some (.int .u32 (A.bits (A.kid n 1))) := K4.qcell HM.out.hR 1 (by decide)
      have c2 : W0.cell? ⟨w.heap.size + 1, 2, none⟩ = some (.int .u32 (A.bits (A.kid n 2))) := K4.qcell HM.out.hR 2 (by decide)
      have c3 : W0.cell? ⟨w.heap.size + 1, 3, none⟩ = some (.int .u32 (A.bits (A.kid n 3))) := K4.qcell HM.out.hR 3 (by decide)
      have hz : ∀ j, W0.frozen? ⟨w.heap.size, j, none⟩ = false := fun j => K4.qfz HM.out.hZ j
      have d0 : W0.cell? ⟨w.heap.size, 0, none⟩ = some (.int .u32 (0 : Int)) := K4.qcell HM.out.hZ 0 (by decide)
      have d1 : W0.cell? ⟨w.heap.size, 1, none⟩ = some (.int .u32 (0 : Int)) := K4.qcell HM.out.hZ 1 (by decide)
      have d2 : W0.cell? ⟨w.heap.size, 2, none⟩ = some (.int .u32 (0 : Int)) := K4.qcell HM.out.hZ 2 (by decide)
      have d3 : W0.cell? ⟨w.heap.size, 3, none⟩ = some (.int .u32 (0 : Int)) := K4.qcell HM.out.hZ 3 (by decide)
      go_wp2_with fail
      have s0 := K4.setq HM.out.hZ 0 (by decide) (A.bits (A.kid n 0))
      have s1 := K4.setq s0 1 (by decide) (A.bits (A.kid n 1))
      have s2 := K4.setq s1 2 (by decide) (A.bits (A.kid n 2))
      have s3 := K4.setq s2 3 (by decide) (A.bits (A.kid n 3))
      have f0 := HM.out.fr.setCell (a := ⟨w.heap.size, 0, none⟩) (Nat.le_refl _) (.int .u32 (A.bits (A.kid n 0)))
      have f1 := f0.setCell (a := ⟨w.heap.size, 1, none⟩) (Nat.le_refl _) (.int .u32 (A.bits (A.kid n 1)))
      have f2 := f1.setCell (a := ⟨w.heap.size, 2, none⟩) (Nat.le_refl _) (.int .u32 (A.bits (A.kid n 2)))
      have f3 := f2.setCell (a := ⟨w.heap.size, 3, none⟩) (Nat.le_refl _) (.int .u32 (A.bits (A.kid n 3)))
      clear s0 s1 s2 f0 f1 f2 c0 c1 c2 c3 d0 d1 d2 d3 hz
      revert s3 f3
      generalize ((((W0.setCell ⟨w.heap.size, 0, none⟩ (.int .u32 (A.bits (A.kid n 0)))).setCell ⟨w.heap.size, 1, none⟩ (.int .u32 (A.bits (A.kid n 1)))).setCell ⟨w.heap.size, 2, none⟩ (.int .u32 (A.bits (A.kid n 2)))).setCell ⟨w.heap.size, 3, none⟩ (.int .u32 (A.bits (A.kid n 3)))) = W9
      intro s3 f3
      have e0 : W9.cell? ⟨w.heap.size, 0, none⟩ = some (.int .u32 (A.bits (A.kid n 0))) := K4.qcell s3 0 (by decide)
      have e1 : W9.cell? ⟨w.heap.size, 1, none⟩ = some (.int .u32 (A.bits (A.kid n 1))) := K4.qcell s3 1 (by decide)
      have e2 : W9.cell? ⟨w.heap.size, 2, none⟩ = some (.int .u32 (A.bits (A.kid n 2))) := K4.qcell s3 2 (by decide)
      have e3 : W9.cell? ⟨w.heap.size, 3, none⟩ = some (.int .u32 (A.bits (A.kid n 3))) := K4.qcell s3 3 (by decide)
      refine bodyPost_ret (v := (A.quarters n).val) (by
        unfold K4.val Ar.quarters
        simp [results, Tryz.results187, go_sem, e0, e1, e2, e3]) rfl ⟨rfl, f3⟩
end Go.Proofs.YtnkdbpjmepfblaaGreatDoor

/- Squares: Centre. -/
namespace Go.Proofs.YtnkdbpjmepfblaaGreatDoor
open Go Go.RowKit

def Ar.centre (A : Ar) (n : Nat) : Option (Except Nat Nat × Ar) :=
  if A.level n < 3 then some (.error 4, A) else if A.level n = 3 then A.leaf ((A.quarters n).block.midS 4) else A.middle n
set_option maxRecDepth 100000 in
set_option maxHeartbeats 1600000 in
theorem centre_w {w : World} {ab : Nat} {A : Ar} {o : List Nat} (h : AW w ab A o) (n : Nat) (hn : n < 4294967296) {r : Except Nat Nat} {A' : Ar} (hj : A.centre n = some (r, A')) :
    Calls Tryz.prog 227 #[.pointer (some ⟨ab, 0, none⟩), .int .u32 n] w fun e w' => e = .returned (encR r) ∧ ∃ o', AW w' ab A' o' ∧ Fr w o w' o' := by
  have HAW := Lib.hid h
  have HG := Lib.hid h.good
  have HJ := Lib.hid hj
  clear h hj
  by_cases hl3 : A.level n < 3
  · have hj := HJ.out
    unfold Ar.centre at hj
    rw [if_pos hl3] at hj
    obtain ⟨rfl, rfl⟩ : Except.error 4 = r ∧ A = A' := by simpa using hj
    go_enter Tryz.func227, Tryz.ntmps227
    go_wp2_with fail
    refine (level_w HAW.out n hn).mono ?_
    rintro e w' ⟨rfl, rfl⟩
    go_wp2_with fail
    go_ret2
    exact ⟨rfl, o, HAW.out, Fr.refl w o HAW.out.lt⟩
  by_cases he3 : A.level n = 3
  · have hj := HJ.out
    unfold Ar.centre at hj
    rw [if_neg hl3, if_pos he3] at hj
    have hlv := level_w HAW.out n hn
    rw [he3] at hlv
    have HLV := Lib.hid hlv
    have HE := Lib.hid he3
    have HJ2 := Lib.hid hj
    clear hlv he3 hj HJ hl3
    go_enter Tryz.func227, Tryz.ntmps227
    go_wp2_with fail
    refine HLV.out.mono ?_
    rintro e w' ⟨rfl, rfl⟩
    go_wp2_with fail
    refine (leaves_w HAW.out n hn HE.out).mono ?_
    rintro e w1 ⟨rfl, hF1⟩
    go_wp2_with fail
    refine (of8_c w1 (A.quarters n) (A.quarters_ok HG.out n)).mono ?_
    rintro e w2 ⟨rfl, hF2⟩
    go_wp2_with fail
    refine (middle8_c w2 (A.quarters n).block (A.quarters n).block_ok).mono ?_
    rintro e w3 ⟨rfl, hF3⟩
    have hF := (hF1.trans hF2).trans hF3
    have hml : (A.quarters n).block.midS 4 < 4294967296 := B8.midS_lt _ 4 (by decide)
    go_wp2_with fail
    refine (leaf_w (HAW.out.ext hF) _ hml HJ2.out).mono ?_
    rintro e w5 ⟨rfl, o', h1, h2⟩
    have hq : ∃ o', AW w5 ab A' o' ∧ Fr w o w5 o' := ⟨o', h1, (hF.widen HAW.out.lt).trans h2⟩
    clear h1 h2
    cases r with
    | ok i =>
      simp only [encR, okV]
      go_wp2_with fail
      go_ret2
      exact ⟨rfl, hq⟩
    | error c =>
      simp only [encR, errV]
      go_wp2_with fail
      go_ret2
      exact ⟨rfl, hq⟩
  · have hj := HJ.out
    unfold Ar.centre at hj
    rw [if_neg hl3, if_neg he3] at hj
    have hb : (A.level n == 3) = false := by simpa using he3
    have HMW := Lib.hid (middle_w HAW.out n hn hj)
    clear hj HJ he3
    go_enter Tryz.func227, Tryz.ntmps227
    go_wp2_with fail
    refine (level_w HAW.out n hn).mono ?_
    rintro e w' ⟨rfl, rfl⟩
    go_wp2_with fail
    refine HMW.out.mono ?_
    rintro e w5 ⟨rfl, hq⟩
    cases r with
    | ok i =>
      simp only [encR, okV]
      go_wp2_with fail
      go_ret2
      exact ⟨rfl, hq⟩
    | error c =>
      simp only [encR, errV]
      go_wp2_with fail
      go_ret2
      exact ⟨rfl, hq⟩
end Go.Proofs.YtnkdbpjmepfblaaGreatDoor
