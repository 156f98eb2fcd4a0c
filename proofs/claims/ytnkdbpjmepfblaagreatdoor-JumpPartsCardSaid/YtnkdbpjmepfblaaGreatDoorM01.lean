/- Texts of the walk and its plain law, merged: Mem, ArA, ArB, Slots, App. -/
import Derived.Test.YtnkdbpjmepfblaaGreatDoorProg
import Derived.WalkKit
import Derived.WalkSpells
import Derived.WalkLawsBesides
import Derived.Deep.QuietTactic
import Derived.BigQuiet
import Derived.Lib.Hide
/- Memory predicates: what of a world's heap is the arena, and the frame of a call. -/
namespace Go.Proofs.YtnkdbpjmepfblaaGreatDoor
open Go Go.RowKit

/-- A node of the arena. -/
structure Nd where
  lv : Nat
  bits : Nat
  k0 : Nat
  k1 : Nat
  k2 : Nat
  k3 : Nat
  cnt : Nat
  deriving DecidableEq, Inhabited

def Nd.cells (n : Nd) : List Value :=
  [.int .i64 n.lv, .int .u32 n.bits, .int .u32 n.k0, .int .u32 n.k1, .int .u32 n.k2, .int .u32 n.k3, .int .u64 n.cnt]

def Nd.ok (n : Nd) : Prop :=
  n.lv < 100 ∧ n.bits < 4294967296 ∧ n.k0 < 4294967296 ∧ n.k1 < 4294967296 ∧ n.k2 < 4294967296 ∧ n.k3 < 4294967296 ∧ n.cnt < 4611686018427387905

/-- The frame of a call: what is not owned stays. -/
structure Fr (w : World) (own : List Nat) (w' : World) (own' : List Nat) : Prop where
  os : w'.os = w.os
  tape : w'.tape = w.tape
  output : w'.output = w.output
  size : w.heap.size ≤ w'.heap.size
  keep : ∀ b, b < w.heap.size → b ∉ own → w'.heap[b]? = w.heap[b]?
  own : ∀ b, b ∈ own' → b ∈ own ∨ w.heap.size ≤ b
  lt : ∀ b, b ∈ own' → b < w'.heap.size


/-- The arena's own bookkeeping. -/
structure ArM where
  nodes : List Nd
  empty : List Nat
  most : Nat
  slots : List Nat
  na : Option Nat
  sb : Nat
  ea : Option Nat
  ncap : Nat
  ecap : Nat

def ArM.own (S : ArM) (ab : Nat) : List Nat := ab :: S.sb :: (S.na.toList ++ S.ea.toList)
def ArM.nb (S : ArM) : Nat := S.na.getD 0
def ArM.eb (S : ArM) : Nat := S.ea.getD 0
def at0 (b : Nat) : Addr := ⟨b, 0, none⟩
def ArM.nv (S : ArM) : Value := .slice (S.na.map at0) S.nodes.length S.ncap
def ArM.ev (S : ArM) : Value := .slice (S.ea.map at0) S.empty.length S.ecap
def u32 (s : Nat) : Value := .int .u32 (s : Int)

structure AR (w : World) (ab : Nat) (S : ArM) : Prop where
  hs : w.heap[ab]? = some (.cells #[S.nv, .slice (some ⟨S.sb, 0, none⟩) S.slots.length S.slots.length, S.ev, .int .i64 S.most] 160 (0, 0))
  hn : w.ownsRow 0 157 7 S.nv S.nodes.length (S.nodes.flatMap Nd.cells)
  hsl : w.heap[S.sb]? = some (.cells (S.slots.map u32).toArray 29 (0, 0))
  he : w.ownsRow 0 29 1 S.ev S.empty.length (S.empty.map u32)
  nd : (S.own ab).Nodup
  nok : ∀ n ∈ S.nodes, n.ok
  sok : ∀ s ∈ S.slots, s < 4294967296
  eok : ∀ s ∈ S.empty, s < 4294967296
  nlen : S.nodes.length < 4294967296
  elen : S.empty.length < 4294967296
  slen : S.slots.length ≤ 17179869184
  mlen : S.most < 9223372036854775808

theorem cell_of_heap {w : World} {b : Nat} {C : Array Value} {T : TypeId} {f : Nat × Nat} (h : w.heap[b]? = some (.cells C T f)) (o : Nat) :
    w.cell? ⟨b, o, none⟩ = C[o]? := by
  simp [World.cell?, h]
theorem heap_lt {w : World} {b : Nat} {o : Obj} (h : w.heap[b]? = some o) : b < w.heap.size := by
  rcases Nat.lt_or_ge b w.heap.size with h' | h'
  · exact h'
  · rw [Array.getElem?_eq_none h'] at h; cases h

theorem flat_get (l : List Nd) (i : Nat) (n : Nd) (h : l[i]? = some n) (k : Nat) (hk : k < 7) : (l.flatMap Nd.cells)[i * 7 + k]? = n.cells[k]? := by
  induction l generalizing i with
  | nil => simp at h
  | cons x l ih =>
    rw [List.flatMap_cons]
    have hx : x.cells.length = 7 := rfl
    cases i with
    | zero =>
      simp at h; subst h
      rw [List.getElem?_append_left (by omega)]; simp
    | succ i =>
      simp at h
      rw [List.getElem?_append_right (by omega), hx, show (i + 1) * 7 + k - 7 = i * 7 + k by omega]
      exact ih i h
theorem flat_len (l : List Nd) : (l.flatMap Nd.cells).length = l.length * 7 := by
  induction l with
  | nil => rfl
  | cons x l ih => rw [List.flatMap_cons, List.length_append, ih]; show 7 + _ = _; simp; omega
theorem own_cell {w : World} {e : TypeId} {size n cap : Nat} {b : Option Nat} {xs : List Value} (h : w.ownsRow 0 e size (.slice (b.map at0) n cap) n xs) (j : Nat) (u : Value) (hj : xs[j]? = some u) :
    w.cell? ⟨b.getD 0, j, none⟩ = some u := by
  cases b with
  | none =>
    rcases h.2 with ⟨_, h0⟩ | ⟨g, c, cur, hv, _⟩
    · have := h.1; rw [h0] at this; simp at this; rw [this] at hj; simp at hj
    · simp at hv
  | some g =>
    have := h.cells (g := g) rfl j u hj
    have hadd : (⟨g, 0, none⟩ : Addr).add j = ⟨g, j, none⟩ := by unfold Addr.add; split <;> simp_all
    rw [hadd] at this
    exact this

section
variable {w : World} {ab : Nat} {S : ArM} (h : AR w ab S)
include h
theorem AR.c0 : w.cell? ⟨ab, 0, none⟩ = some (.slice (S.na.map at0) S.nodes.length S.ncap) := by rw [cell_of_heap h.hs]; rfl
theorem AR.c1 : w.cell? ⟨ab, 1, none⟩ = some (.slice (some ⟨S.sb, 0, none⟩) S.slots.length S.slots.length) := by rw [cell_of_heap h.hs]; rfl
theorem AR.c2 : w.cell? ⟨ab, 2, none⟩ = some (.slice (S.ea.map at0) S.empty.length S.ecap) := by rw [cell_of_heap h.hs]; rfl
theorem AR.c3 : w.cell? ⟨ab, 3, none⟩ = some (.int .i64 S.most) := by rw [cell_of_heap h.hs]; rfl
theorem AR.naSome (hn : 0 < S.nodes.length) : S.na = some S.nb := by
  rcases h.hn.2 with ⟨_, h0⟩ | ⟨g, c, cur, hv, _⟩
  · omega
  · cases hna : S.na with
    | none => simp [ArM.nv, hna] at hv
    | some b => simp [ArM.nb, hna]
theorem AR.eaSome (hn : 0 < S.empty.length) : S.ea = some S.eb := by
  rcases h.he.2 with ⟨_, h0⟩ | ⟨g, c, cur, hv, _⟩
  · omega
  · cases hna : S.ea with
    | none => simp [ArM.ev, hna] at hv
    | some b => simp [ArM.eb, hna]
theorem AR.c0' (hn : 0 < S.nodes.length) : w.cell? ⟨ab, 0, none⟩ = some (.slice (some ⟨S.nb, 0, none⟩) S.nodes.length S.ncap) := by rw [h.c0, h.naSome hn]; rfl
theorem AR.c2' (hn : 0 < S.empty.length) : w.cell? ⟨ab, 2, none⟩ = some (.slice (some ⟨S.eb, 0, none⟩) S.empty.length S.ecap) := by rw [h.c2, h.eaSome hn]; rfl
theorem AR.node {i : Nat} {n : Nd} (hi : S.nodes[i]? = some n) :
    w.cell? ⟨S.nb, i * 7, none⟩ = some (.int .i64 n.lv) ∧ w.cell? ⟨S.nb, i * 7 + 1, none⟩ = some (.int .u32 n.bits) ∧
    w.cell? ⟨S.nb, i * 7 + 2, none⟩ = some (.int .u32 n.k0) ∧ w.cell? ⟨S.nb, i * 7 + 3, none⟩ = some (.int .u32 n.k1) ∧
    w.cell? ⟨S.nb, i * 7 + 4, none⟩ = some (.int .u32 n.k2) ∧ w.cell? ⟨S.nb, i * 7 + 5, none⟩ = some (.int .u32 n.k3) ∧
    w.cell? ⟨S.nb, i * 7 + 6, none⟩ = some (.int .u64 n.cnt) := by
  have hk := fun k (hk : k < 7) (u : Value) (hu : n.cells[k]? = some u) => own_cell h.hn (i * 7 + k) u (by rw [flat_get _ _ _ hi _ hk]; exact hu)
  exact ⟨hk 0 (by omega) _ rfl, hk 1 (by omega) _ rfl, hk 2 (by omega) _ rfl, hk 3 (by omega) _ rfl, hk 4 (by omega) _ rfl, hk 5 (by omega) _ rfl, hk 6 (by omega) _ rfl⟩
theorem AR.slot {i s : Nat} (hi : S.slots[i]? = some s) : w.cell? ⟨S.sb, i, none⟩ = some (.int .u32 s) := by
  rw [cell_of_heap h.hsl]; simp [hi, u32]
theorem AR.emp {i s : Nat} (hi : S.empty[i]? = some s) : w.cell? ⟨S.eb, i, none⟩ = some (.int .u32 s) :=
  own_cell h.he i _ (by simp [hi, u32])
theorem AR.nodeOk {i : Nat} {n : Nd} (hi : S.nodes[i]? = some n) : n.ok := h.nok n (List.mem_of_getElem? hi)
theorem AR.ownLt : ∀ b, b ∈ S.own ab → b < w.heap.size := by
  intro b hb
  simp only [ArM.own, List.mem_cons, List.mem_append, Option.mem_toList] at hb
  rcases hb with rfl | rfl | hb | hb
  · exact heap_lt h.hs
  · exact heap_lt h.hsl
  · exact (h.hn.lt b (by simp [ArM.nv, hb, Value.ownBlock, at0])).2
  · exact (h.he.lt b (by simp [ArM.ev, hb, Value.ownBlock, at0])).2
theorem AR.abLt : ab < w.heap.size := heap_lt h.hs
theorem AR.sbLt : S.sb < w.heap.size := heap_lt h.hsl
theorem AR.nbLt (hn : 0 < S.nodes.length) : S.nb < w.heap.size := h.ownLt _ (by simp [ArM.own, h.naSome hn])
theorem AR.ebLt (hn : 0 < S.empty.length) : S.eb < w.heap.size := h.ownLt _ (by simp [ArM.own, h.eaSome hn])
end

theorem World.heap_setCell_ne (w : World) (a : Addr) (u : Value) (k : Nat) (h : k ≠ a.block) : (w.setCell a u).heap[k]? = w.heap[k]? := Below.heap_setCell w a u k h


theorem ownsRow_same {w w' : World} {base : Nat} {e : TypeId} {size n : Nat} {v : Value} {xs : List Value} (h : w.ownsRow base e size v n xs)
    (hk : ∀ b, v.ownBlock = some b → w'.heap[b]? = w.heap[b]?) : w'.ownsRow base e size v n xs := by
  refine ⟨h.1, ?_⟩
  rcases h.2 with h2 | ⟨g, cap, cur, hv, hg, hh, r⟩
  · exact .inl h2
  · exact .inr ⟨g, cap, cur, hv, hg, by rw [hk g (by rw [hv]; rfl)]; exact hh, r⟩
section
variable {w w' : World} {ab : Nat} {S : ArM}
theorem AR.same (h : AR w ab S) (hk : ∀ b, b ∈ S.own ab → w'.heap[b]? = w.heap[b]?) : AR w' ab S := by
  have k1 := hk ab (by simp [ArM.own])
  have k3 := hk S.sb (by simp [ArM.own])
  have k2 : ∀ b, S.nv.ownBlock = some b → w'.heap[b]? = w.heap[b]? := fun b hb => hk b (by
    cases hna : S.na <;> simp [ArM.nv, hna, Value.ownBlock, at0] at hb
    subst hb; simp [ArM.own, hna])
  have k4 : ∀ b, S.ev.ownBlock = some b → w'.heap[b]? = w.heap[b]? := fun b hb => hk b (by
    cases hna : S.ea <;> simp [ArM.ev, hna, Value.ownBlock, at0] at hb
    subst hb; simp [ArM.own, hna])
  exact ⟨by rw [k1]; exact h.hs, ownsRow_same h.hn k2, by rw [k3]; exact h.hsl, ownsRow_same h.he k4, h.nd, h.nok, h.sok, h.eok, h.nlen, h.elen, h.slen, h.mlen⟩
theorem AR.alloc (h : AR w ab S) (o : Obj) : AR (w.alloc o) ab S :=
  h.same fun b hb => Below.heap_alloc w o b (h.ownLt b hb)
theorem AR.drew (h : AR w ab S) : AR w.drew ab S := h.same fun _ _ => rfl
theorem AR.drewN (h : AR w ab S) (n : Nat) : AR (w.drewN n) ab S := h.same fun _ _ => rfl
theorem AR.setCell (h : AR w ab S) {a : Addr} (ha : a.block ∉ S.own ab) (v : Value) : AR (w.setCell a v) ab S :=
  h.same fun b hb => World.heap_setCell_ne w a v b (fun e => ha (e ▸ hb))
/-- A local block is none of the arena's. -/
theorem AR.notOwn (h : AR w ab S) {b : Nat} (hb : w.heap.size ≤ b) : b ∉ S.own ab := fun hm => by have := h.ownLt b hm; omega
theorem AR.setNew (h : AR w ab S) {a : Addr} (ha : ∀ b, b ∈ S.own ab → b ≠ a.block) (v : Value) : AR (w.setCell a v) ab S :=
  h.same fun b hb => World.heap_setCell_ne w a v b (ha b hb)

theorem Fr.refl (w : World) (o : List Nat) (h : ∀ b, b ∈ o → b < w.heap.size) : Fr w o w o := ⟨rfl, rfl, rfl, Nat.le_refl _, fun _ _ _ => rfl, fun _ h => .inl h, h⟩
theorem Fr.nil (w : World) : Fr w [] w [] := Fr.refl w [] (by simp)
theorem Fr.trans {a b c : World} {o o1 o2 : List Nat} (h : Fr a o b o1) (k : Fr b o1 c o2) : Fr a o c o2 where
  os := k.os.trans h.os
  tape := k.tape.trans h.tape
  output := k.output.trans h.output
  size := Nat.le_trans h.size k.size
  keep := fun x hx hn => by
    have hn1 : x ∉ o1 := fun hm => by
      rcases h.own x hm with h1 | h1
      · exact hn h1
      · omega
    rw [k.keep x (Nat.lt_of_lt_of_le hx h.size) hn1, h.keep x hx hn]
  own := fun x hx => by
    rcases k.own x hx with h1 | h1
    · exact h.own x h1
    · exact .inr (Nat.le_trans h.size h1)
  lt := k.lt
variable {o o' : List Nat}
theorem Fr.alloc (h : Fr w o w' o') (x : Obj) : Fr w o (w'.alloc x) o' where
  os := h.os
  tape := h.tape
  output := h.output
  size := by have := h.size; simp; omega
  keep := fun b hb hn => by rw [Below.heap_alloc _ _ _ (Nat.lt_of_lt_of_le hb h.size)]; exact h.keep b hb hn
  own := h.own
  lt := fun b hb => by have := h.lt b hb; simp; omega
theorem Fr.drewN (h : Fr w o w' o') (n : Nat) : Fr w o (w'.drewN n) o' := ⟨h.os, h.tape, h.output, h.size, h.keep, h.own, h.lt⟩
theorem Fr.drew (h : Fr w o w' o') : Fr w o w'.drew o' := ⟨h.os, h.tape, h.output, h.size, h.keep, h.own, h.lt⟩
theorem Fr.setCell (h : Fr w o w' o') {a : Addr} (ha : w.heap.size ≤ a.block) (v : Value) : Fr w o (w'.setCell a v) o' where
  os := h.os
  tape := h.tape
  output := h.output
  size := by have := h.size; simp; omega
  keep := fun b hb hn => by rw [World.heap_setCell_ne _ _ _ _ (by omega)]; exact h.keep b hb hn
  own := h.own
  lt := fun b hb => by have := h.lt b hb; simp; omega
theorem AR.ext (h : AR w ab S) (e : Fr w [] w' []) : AR w' ab S := h.same fun b hb => e.keep b (h.ownLt b hb) (by simp)
theorem Fr.ext {a : World} (h : Fr a o w o') (e : Fr w [] w' []) : Fr a o w' o' where
  os := e.os.trans h.os
  tape := e.tape.trans h.tape
  output := e.output.trans h.output
  size := Nat.le_trans h.size e.size
  keep := fun x hx hn => by rw [e.keep x (Nat.lt_of_lt_of_le hx h.size) (by simp), h.keep x hx hn]
  own := h.own
  lt := fun b hb => Nat.lt_of_lt_of_le (h.lt b hb) e.size
end
theorem ret_int {k : IntKind} {a b : Int} (h : a = b) : Ending.returned (.int k a) = .returned (.int k b) := by rw [h]
theorem ret_of {a b : Value} (h : a = b) : Ending.returned a = .returned b := by rw [h]
/-- What a read of a node that may not be there gives. -/
def ArM.nd? (S : ArM) (i : Int) : Option Nd := if 0 ≤ i then S.nodes[i.toNat]? else none
end Go.Proofs.YtnkdbpjmepfblaaGreatDoor

/- The arena's readers: has, Len, Most, Level, Bits, Kids, Count, mix. -/
namespace Go.Proofs.YtnkdbpjmepfblaaGreatDoor
open Go Go.RowKit

def ArM.level (S : ArM) (i : Nat) : Int := match S.nodes[i]? with | some n => n.lv | none => -1
def ArM.bits (S : ArM) (i : Nat) : Nat := match S.nodes[i]? with | some n => n.bits | none => 0
def ArM.count (S : ArM) (i : Nat) : Nat := match S.nodes[i]? with | some n => n.cnt | none => 0
def ArM.kid (S : ArM) (i j : Nat) : Nat :=
  match S.nodes[i]? with
  | some n => (match j with | 0 => n.k0 | 1 => n.k1 | 2 => n.k2 | _ => n.k3)
  | none => 0

section
variable {w : World} {ab : Nat} {S : ArM}

theorem has_c (h : AR w ab S) (i : Nat) (hi : i < 4294967296) :
    Calls Tryz.prog 101 #[.pointer (some ⟨ab, 0, none⟩), .int .u32 i] w fun e w' => e = .returned (.bool (decide (i < S.nodes.length))) ∧ w = w' := by
  have h0 := h.c0
  have hl := h.nlen
  go_enter Tryz.func101, Tryz.ntmps101
  go_wp2_with fail
  go_ret
  exact ⟨rfl, rfl⟩
theorem has_t (h : AR w ab S) (i : Nat) (hi : i < S.nodes.length) :
    Calls Tryz.prog 101 #[.pointer (some ⟨ab, 0, none⟩), .int .u32 i] w fun e w' => e = .returned (.bool true) ∧ w = w' := by
  have := has_c h i (by have := h.nlen; omega)
  rwa [show decide (i < S.nodes.length) = true by simp; omega] at this
theorem has_f (h : AR w ab S) (i : Nat) (hi : i < 4294967296) (hi : ¬ i < S.nodes.length) :
    Calls Tryz.prog 101 #[.pointer (some ⟨ab, 0, none⟩), .int .u32 i] w fun e w' => e = .returned (.bool false) ∧ w = w' := by
  have := has_c h i (by omega)
  rwa [show decide (i < S.nodes.length) = false by simp; omega] at this
theorem len_c (h : AR w ab S) :
    Calls Tryz.prog 46 #[.pointer (some ⟨ab, 0, none⟩)] w fun e w' => e = .returned (.int .i64 S.nodes.length) ∧ w = w' := by
  have h0 := h.c0
  have hl := h.nlen
  go_enter Tryz.func46, Tryz.ntmps46
  go_wp2_with fail
  go_ret
  exact ⟨rfl, rfl⟩
theorem most_c (h : AR w ab S) :
    Calls Tryz.prog 136 #[.pointer (some ⟨ab, 0, none⟩)] w fun e w' => e = .returned (.int .i64 S.most) ∧ w = w' := by
  have h0 := h.c3
  go_enter Tryz.func136, Tryz.ntmps136
  go_wp2_with fail
  go_ret
  exact ⟨rfl, rfl⟩
theorem level_c (h : AR w ab S) (i : Nat) (hi : i < 4294967296) :
    Calls Tryz.prog 47 #[.pointer (some ⟨ab, 0, none⟩), .int .u32 i] w fun e w' => e = .returned (.int .i64 (S.level i)) ∧ w = w' := by
  have hl := h.nlen
  by_cases hin : i < S.nodes.length
  · have h0 := h.c0' (by omega)
    have hn := List.getElem?_eq_getElem hin
    obtain ⟨c0, c1, c2, c3, c4, c5, c6⟩ := h.node hn
    have hlev : S.level i = (S.nodes[i].lv : Int) := by simp [ArM.level, hn]
    have HL := Lib.hid hlev
    clear hlev hn
    go_enter Tryz.func47, Tryz.ntmps47
    go_wp2_with (go_at_call 101; refine (has_t h i hin).mono ?_; rintro e w' ⟨rfl, rfl⟩)
    go_ret
    exact ⟨ret_int (by rw [HL.out]), rfl⟩
  · have hlev : S.level i = -1 := by simp [ArM.level, hin]
    have HL := Lib.hid hlev
    clear hlev
    go_enter Tryz.func47, Tryz.ntmps47
    go_wp2_with (go_at_call 101; refine (has_f h i hi hin).mono ?_; rintro e w' ⟨rfl, rfl⟩)
    go_ret
    exact ⟨ret_int (by rw [HL.out]), rfl⟩
theorem bits_c (h : AR w ab S) (i : Nat) (hi : i < 4294967296) :
    Calls Tryz.prog 162 #[.pointer (some ⟨ab, 0, none⟩), .int .u32 i] w fun e w' => e = .returned (.int .u32 (S.bits i)) ∧ w = w' := by
  have hl := h.nlen
  by_cases hin : i < S.nodes.length
  · have h0 := h.c0' (by omega)
    have hn := List.getElem?_eq_getElem hin
    obtain ⟨c0, c1, c2, c3, c4, c5, c6⟩ := h.node hn
    have hlev : S.bits i = S.nodes[i].bits := by simp [ArM.bits, hn]
    have HL := Lib.hid hlev
    clear hlev hn
    go_enter Tryz.func162, Tryz.ntmps162
    go_wp2_with (go_at_call 101; refine (has_t h i hin).mono ?_; rintro e w' ⟨rfl, rfl⟩)
    go_ret
    exact ⟨ret_int (by rw [HL.out]), rfl⟩
  · have hlev : S.bits i = 0 := by simp [ArM.bits, hin]
    have HL := Lib.hid hlev
    clear hlev
    go_enter Tryz.func162, Tryz.ntmps162
    go_wp2_with (go_at_call 101; refine (has_f h i hi hin).mono ?_; rintro e w' ⟨rfl, rfl⟩)
    go_ret
    exact ⟨ret_int (by rw [HL.out]; rfl), rfl⟩
theorem count_c (h : AR w ab S) (i : Nat) (hi : i < 4294967296) :
    Calls Tryz.prog 38 #[.pointer (some ⟨ab, 0, none⟩), .int .u32 i] w fun e w' => e = .returned (.int .u64 (S.count i)) ∧ w = w' := by
  have hl := h.nlen
  by_cases hin : i < S.nodes.length
  · have h0 := h.c0' (by omega)
    have hn := List.getElem?_eq_getElem hin
    obtain ⟨c0, c1, c2, c3, c4, c5, c6⟩ := h.node hn
    have hlev : S.count i = S.nodes[i].cnt := by simp [ArM.count, hn]
    have HL := Lib.hid hlev
    clear hlev hn
    go_enter Tryz.func38, Tryz.ntmps38
    go_wp2_with (go_at_call 101; refine (has_t h i hin).mono ?_; rintro e w' ⟨rfl, rfl⟩)
    go_ret
    exact ⟨ret_int (by rw [HL.out]), rfl⟩
  · have hlev : S.count i = 0 := by simp [ArM.count, hin]
    have HL := Lib.hid hlev
    clear hlev
    go_enter Tryz.func38, Tryz.ntmps38
    go_wp2_with (go_at_call 101; refine (has_f h i hi hin).mono ?_; rintro e w' ⟨rfl, rfl⟩)
    go_ret
    exact ⟨ret_int (by rw [HL.out]; rfl), rfl⟩
theorem kids_c (h : AR w ab S) (i : Nat) (hi : i < 4294967296) :
    Calls Tryz.prog 150 #[.pointer (some ⟨ab, 0, none⟩), .int .u32 i] w fun e w' =>
      e = .returned (.agg #[.int .u32 (S.kid i 0), .int .u32 (S.kid i 1), .int .u32 (S.kid i 2), .int .u32 (S.kid i 3)]) ∧ Fr w [] w' [] := by
  have hl := h.nlen
  have hlt := h.abLt
  by_cases hin : i < S.nodes.length
  · have h0 := h.c0' (by omega)
    have hlt2 := h.nbLt (by omega)
    have hn := List.getElem?_eq_getElem hin
    obtain ⟨c0, c1, c2, c3, c4, c5, c6⟩ := h.node hn
    have hlev : S.kid i 0 = S.nodes[i].k0 ∧ S.kid i 1 = S.nodes[i].k1 ∧ S.kid i 2 = S.nodes[i].k2 ∧ S.kid i 3 = S.nodes[i].k3 := by simp [ArM.kid, hn]
    have HL := Lib.hid hlev
    clear hlev hn
    go_enter Tryz.func150, Tryz.ntmps150
    go_wp2_with (go_at_call 101; refine (has_t (h.alloc _) i hin).mono ?_; rintro e w' ⟨rfl, rfl⟩)
    refine bodyPost_ret (v := .agg #[.int .u32 S.nodes[i].k0, .int .u32 S.nodes[i].k1, .int .u32 S.nodes[i].k2, .int .u32 S.nodes[i].k3]) (by simp [results, Tryz.results150, go_sem]) rfl ⟨by rw [HL.out.1, HL.out.2.1, HL.out.2.2.1, HL.out.2.2.2], ?_⟩
    exact (Fr.nil w).alloc _
  · have hlev : S.kid i 0 = 0 ∧ S.kid i 1 = 0 ∧ S.kid i 2 = 0 ∧ S.kid i 3 = 0 := by simp [ArM.kid, hin]
    have HL := Lib.hid hlev
    clear hlev
    go_enter Tryz.func150, Tryz.ntmps150
    go_wp2_with (go_at_call 101; refine (has_f (h.alloc _) i hi hin).mono ?_; rintro e w' ⟨rfl, rfl⟩)
    refine bodyPost_ret (v := .agg #[.int .u32 0, .int .u32 0, .int .u32 0, .int .u32 0]) (by simp [results, Tryz.results150, go_sem]) rfl ⟨by rw [HL.out.1, HL.out.2.1, HL.out.2.2.1, HL.out.2.2.2]; rfl, ?_⟩
    exact (Fr.nil w).alloc _
end
end Go.Proofs.YtnkdbpjmepfblaaGreatDoor

/- The arena: mix, slot. -/
namespace Go.Proofs.YtnkdbpjmepfblaaGreatDoor
open Go Go.RowKit
def mixI (h x : Int) : Int :=
  bits BinOp.xor IntKind.u64 (IntKind.u64.wrap (bits BinOp.xor IntKind.u64 h x * 11400714819323198485))
    (IntKind.u64.wrap (bits BinOp.xor IntKind.u64 h x * 11400714819323198485) / 536870912)
theorem mixI_rng (h x : Int) : 0 ≤ mixI h x ∧ mixI h x < 18446744073709551616 := by
  unfold mixI
  rw [IntKind.wrap_u64]
  generalize bits BinOp.xor IntKind.u64 h x * 11400714819323198485 = y
  obtain ⟨n, hn⟩ : ∃ n : Nat, y % 18446744073709551616 = (n : Int) := ⟨(y % 18446744073709551616).toNat, by omega⟩
  have hlt : n < 18446744073709551616 := by omega
  rw [hn, show ((n : Int) / 536870912) = ((n : Int) / ((536870912 : Nat) : Int)) from rfl, xorShift_u64 n 536870912 hlt]
  refine ⟨by omega, ?_⟩
  have h2 : (2 : Nat) ^ 64 = 18446744073709551616 := by decide
  have : n ^^^ n / 536870912 < 2 ^ 64 := Nat.xor_lt_two_pow (by rw [h2]; exact hlt) (by rw [h2]; have := Nat.div_le_self n 536870912; exact Nat.lt_of_le_of_lt this hlt)
  rw [h2] at this
  omega
theorem mix_ex : ∃ f : Int → Int → Nat, ∀ h x, f h x < 18446744073709551616 ∧ ∀ w : World,
    Calls Tryz.prog 241 #[.int .u64 h, .int .u64 x] w fun e w' => e = .returned (.int .u64 (f h x)) ∧ w = w' := by
  refine ⟨fun h x => (mixI h x).toNat, fun h x => ⟨by have := mixI_rng h x; show (mixI h x).toNat < _; omega, fun w => ?_⟩⟩
  go_enter Tryz.func241, Tryz.ntmps241
  go_wp2_with fail
  go_ret
  have e : ((mixI h x).toNat : Int) = mixI h x := by have := mixI_rng h x; omega
  exact ⟨ret_int (by rw [e]; rfl), rfl⟩
noncomputable def mixN (h x : Int) : Nat := Classical.choose mix_ex h x
theorem mixN_lt (h x : Int) : mixN h x < 18446744073709551616 := (Classical.choose_spec mix_ex h x).1
theorem mix_c (h x : Int) (w : World) :
    Calls Tryz.prog 241 #[.int .u64 h, .int .u64 x] w fun e w' => e = .returned (.int .u64 (mixN h x)) ∧ w = w' := (Classical.choose_spec mix_ex h x).2 w

theorem eqArr4 (d : Nat) (a0 a1 a2 a3 b0 b1 b2 b3 : Int) (w : World) :
    (Op.equalIn (d + 2) 155 (.agg #[.int .u32 a0, .int .u32 a1, .int .u32 a2, .int .u32 a3]) (.agg #[.int .u32 b0, .int .u32 b1, .int .u32 b2, .int .u32 b3])).run Tryz.prog w =
      .ok (a0 == b0 && (a1 == b1 && (a2 == b2 && a3 == b3))) w := by
  have hs : ∀ w, (sizeOf 29).run Tryz.prog w = .ok 1 w := fun w => by kernel_rfl
  have hp : ∀ w (x0 x1 x2 x3 : Value), (part 29 #[x0, x1, x2, x3] 0).run Tryz.prog w = .ok x0 w := fun w _ _ _ _ => by kernel_rfl
  have hp1 : ∀ w (x0 x1 x2 x3 : Value), (part 29 #[x0, x1, x2, x3] 1).run Tryz.prog w = .ok x1 w := fun w _ _ _ _ => by kernel_rfl
  have hp2 : ∀ w (x0 x1 x2 x3 : Value), (part 29 #[x0, x1, x2, x3] 2).run Tryz.prog w = .ok x2 w := fun w _ _ _ _ => by kernel_rfl
  have hp3 : ∀ w (x0 x1 x2 x3 : Value), (part 29 #[x0, x1, x2, x3] 3).run Tryz.prog w = .ok x3 w := fun w _ _ _ _ => by kernel_rfl
  have he : ∀ w d (a b : Int), (Op.equalIn (d + 1) 29 (.int .u32 a) (.int .u32 b)).run Tryz.prog w = .ok (a == b) w := fun w d a b => run_equalIn_int w d 29 .u32 .u32 a b Tryz.underlying29
  rw [Op.equalIn]
  simp only [Sem.run_bind, run_underlying Tryz.underlying155, Result.andThen_ok, hs]
  simp [List.range', hp, hp1, hp2, hp3, he, Sem.run_bind]
  by_cases h0 : a0 = b0 <;> by_cases h1 : a1 = b1 <;> by_cases h2 : a2 = b2 <;> by_cases h3 : a3 = b3 <;> simp [h0, h1, h2, h3]
theorem eql255 (l0 l1 b0 b1 a0 a1 a2 a3 c0 c1 c2 c3 : Int) (w : World) :
    (binOp .eql 255 (.agg #[.int .i64 l0, .int .u32 b0, .int .u32 a0, .int .u32 a1, .int .u32 a2, .int .u32 a3]) (.agg #[.int .i64 l1, .int .u32 b1, .int .u32 c0, .int .u32 c1, .int .u32 c2, .int .u32 c3])).run Tryz.prog w =
      .ok (.bool (l0 == l1 && (b0 == b1 && (a0 == c0 && (a1 == c1 && (a2 == c2 && a3 == c3)))))) w := by
  have f0 : Tryz.prog.stoodInHeld 255 = false := by kernel_rfl
  have hS : Tryz.prog.underlying 255 = some (.struct (Tryz.prog.fieldsOf 255)) := by kernel_rfl
  have u3 := Tryz.underlying3
  have u150 := Tryz.underlying150
  have z3 := Tryz.sizeOf3
  have ag3 := Tryz.isAgg3
  have z150 := Tryz.sizeOf150
  have a150 := Tryz.isAgg150
  have z155 := Tryz.sizeOf155
  have a155 := Tryz.isAgg155
  rw [run_eql_struct, show (10000 : Nat) = 9999 + 1 from rfl, run_equalIn_agg w 9999 255 _ _ hS f0]
  simp only [Program.fieldsOf, Tryz.underlying255]
  have e4 : ∀ w, (Op.equalIn 9999 155 (.agg #[.int .u32 a0, .int .u32 a1, .int .u32 a2, .int .u32 a3]) (.agg #[.int .u32 c0, .int .u32 c1, .int .u32 c2, .int .u32 c3])).run Tryz.prog w =
      .ok (a0 == c0 && (a1 == c1 && (a2 == c2 && a3 == c3))) w := fun w => eqArr4 9997 a0 a1 a2 a3 c0 c1 c2 c3 w
  generalize (a0 == c0 && (a1 == c1 && (a2 == c2 && a3 == c3))) = q at e4 ⊢
  go_simp
  by_cases g0 : l0 = l1 <;> by_cases g1 : b0 = b1 <;> cases q <;> simp [g0, g1]
/-- A key: what a node is found by. -/
structure Ky where
  lv : Nat
  bits : Nat
  k0 : Nat
  k1 : Nat
  k2 : Nat
  k3 : Nat
  deriving DecidableEq
def Nd.key (n : Nd) : Ky := ⟨n.lv, n.bits, n.k0, n.k1, n.k2, n.k3⟩
def Ky.ok (k : Ky) : Prop := k.lv < 100 ∧ k.bits < 4294967296 ∧ k.k0 < 4294967296 ∧ k.k1 < 4294967296 ∧ k.k2 < 4294967296 ∧ k.k3 < 4294967296
def Ky.val (k : Ky) : Value := .agg #[.int .i64 k.lv, .int .u32 k.bits, .int .u32 k.k0, .int .u32 k.k1, .int .u32 k.k2, .int .u32 k.k3]
noncomputable def Ky.h0 (k : Ky) : Nat := mixN k.lv k.bits
noncomputable def Ky.h1 (k : Ky) : Nat := mixN k.h0 k.k0
noncomputable def Ky.h2 (k : Ky) : Nat := mixN k.h1 k.k1
noncomputable def Ky.h3 (k : Ky) : Nat := mixN k.h2 k.k2
noncomputable def Ky.h4 (k : Ky) : Nat := mixN k.h3 k.k3
noncomputable def Ky.hn (k : Ky) : Nat → Nat | 0 => k.h0 | 1 => k.h1 | 2 => k.h2 | 3 => k.h3 | _ => k.h4
noncomputable def Ky.home (k : Ky) (m : Nat) : Nat := k.h4 % m

/-- What stops the search at a place. -/
def stopAt (nodes : List Nd) (slots : List Nat) (key : Ky) (p : Nat) : Prop :=
  slots[p]? = some 0 ∨ ∃ s n, slots[p]? = some (s + 1) ∧ nodes[s]? = some n ∧ n.key = key
def goesOn (nodes : List Nd) (slots : List Nat) (key : Ky) (p : Nat) : Prop :=
  ∃ s n, slots[p]? = some (s + 1) ∧ nodes[s]? = some n ∧ n.key ≠ key

theorem idx0 (a b c d : Value) (w : World) : (Instr.index 155 (.agg #[a, b, c, d]) (.int .i64 0)).run Tryz.prog w = .ok a w := by kernel_rfl
theorem idx1 (a b c d : Value) (w : World) : (Instr.index 155 (.agg #[a, b, c, d]) (.int .i64 1)).run Tryz.prog w = .ok b w := by kernel_rfl
theorem idx2 (a b c d : Value) (w : World) : (Instr.index 155 (.agg #[a, b, c, d]) (.int .i64 2)).run Tryz.prog w = .ok c w := by kernel_rfl
theorem idx3 (a b c d : Value) (w : World) : (Instr.index 155 (.agg #[a, b, c, d]) (.int .i64 3)).run Tryz.prog w = .ok d w := by kernel_rfl
theorem idx155 (f : Nat → Int) (k : Nat) (hk : k < 4) (w : World) :
    (Instr.index 155 (.agg #[.int .u32 (f 0), .int .u32 (f 1), .int .u32 (f 2), .int .u32 (f 3)]) (.int .i64 (k : Int))).run Tryz.prog w = .ok (.int .u32 (f k)) w := by
  have hc : k = 0 ∨ k = 1 ∨ k = 2 ∨ k = 3 := by omega
  rcases hc with rfl | rfl | rfl | rfl
  · exact idx0 _ _ _ _ w
  · exact idx1 _ _ _ _ w
  · exact idx2 _ _ _ _ w
  · exact idx3 _ _ _ _ w
def Ky.kk (K : Ky) : Nat → Nat | 0 => K.k0 | 1 => K.k1 | 2 => K.k2 | _ => K.k3
theorem Ky.hn_succ (K : Ky) (k : Nat) (hk : k < 4) : K.hn (k + 1) = mixN (K.hn k) (K.kk k) := by
  have hc : k = 0 ∨ k = 1 ∨ k = 2 ∨ k = 3 := by omega
  rcases hc with rfl | rfl | rfl | rfl <;> simp only [Ky.hn, Ky.kk, Ky.h1, Ky.h2, Ky.h3, Ky.h4]
theorem Ky.hn_zero (a b c d e f : Nat) : Ky.hn ⟨a, b, c, d, e, f⟩ 0 = mixN a b := by simp only [Ky.hn, Ky.h0]
theorem Nd.key_eql (n : Nd) (key : Ky) (r : Bool) (hr : decide (n.key = key) = r) (w : World) :
    (binOp .eql 255 (.agg #[.int .i64 n.lv, .int .u32 n.bits, .int .u32 n.k0, .int .u32 n.k1, .int .u32 n.k2, .int .u32 n.k3])
      (.agg #[.int .i64 key.lv, .int .u32 key.bits, .int .u32 key.k0, .int .u32 key.k1, .int .u32 key.k2, .int .u32 key.k3])).run Tryz.prog w = .ok (.bool r) w := by
  rw [eql255, ← hr]
  obtain ⟨l, b, a0, a1, a2, a3⟩ := key
  simp only [Nd.key, Ky.mk.injEq, Result.ok.injEq, Value.bool.injEq, and_true]
  rw [Bool.eq_iff_iff]
  simp only [Bool.and_eq_true, beq_iff_eq, decide_eq_true_eq]
  omega
theorem dist_eq (h j m : Nat) (hh : h < m) (hj : j < m) : ((h + j) % m + m - h) % m = j := by
  rcases Nat.lt_or_ge (h + j) m with h1 | h1
  · rw [Nat.mod_eq_of_lt h1, show h + j + m - h = j + m by omega, Nat.add_mod_right, Nat.mod_eq_of_lt hj]
  · rw [Nat.mod_eq_sub_mod h1, Nat.mod_eq_of_lt (by omega : h + j - m < m), show h + j - m + m - h = j by omega, Nat.mod_eq_of_lt hj]
theorem heap_new (w : World) (o : Obj) : (w.alloc o).heap[w.heap.size]? = some o := by unfold World.alloc; exact Array.getElem?_push_size
set_option maxRecDepth 100000 in
set_option maxHeartbeats 400000 in
theorem slot_c {w : World} {ab : Nat} {S : ArM} (h : AR w ab S) (key : Ky) (hk : key.ok) (d : Nat) (hm : 0 < S.slots.length) (hd : d < S.slots.length)
    (hp : ∀ j, j < d → goesOn S.nodes S.slots key ((key.home S.slots.length + j) % S.slots.length))
    (hs : stopAt S.nodes S.slots key ((key.home S.slots.length + d) % S.slots.length)) :
    Calls Tryz.prog 216 #[.pointer (some ⟨ab, 0, none⟩), key.val] w fun e w' =>
      e = .returned (.int .i64 ((key.home S.slots.length + d) % S.slots.length : Nat)) ∧ Fr w [] w' [] := by
  obtain ⟨o1, o2, o3, o4, o5, o6⟩ := hk
  have h1 := h.c1
  have hl := h.nlen
  have hlt := h.abLt
  have hlt3 := h.sbLt
  have hsl := h.slen
  have HP := Lib.hid hp
  have HS := Lib.hid hs
  clear hp hs
  unfold Ky.val
  go_enter Tryz.func216, Tryz.ntmps216
  go_wp2_with (go_at_call 241; refine (mix_c _ _ _).mono ?_; rintro e w' ⟨rfl, rfl⟩)
  go_loop [5, 19] (fun hv n => ∃ k : Nat, k ≤ 4 ∧ n = .int .i64 k ∧ hv = .int .u64 (key.hn k)) (fun _ n => 4 - (intOf n).toNat)
  case atStart => exact ⟨0, by omega, rfl, by simp only [Ky.hn, Ky.h0]⟩
  case round =>
    obtain ⟨k, hk, rfl, rfl⟩ := hrel
    by_cases hlt : k < 4
    · have ik : ∀ w, (Instr.index 155 (.agg #[.int .u32 key.k0, .int .u32 key.k1, .int .u32 key.k2, .int .u32 key.k3]) (.int .i64 (k : Int))).run Tryz.prog w = .ok (.int .u32 (key.kk k)) w :=
        fun w => idx155 (fun k => (key.kk k : Int)) k hlt w
      have hkk : key.kk k < 4294967296 := by
        have hc : k = 0 ∨ k = 1 ∨ k = 2 ∨ k = 3 := by omega
        rcases hc with rfl | rfl | rfl | rfl <;> simpa only [Ky.kk]
      go_wp2_with (go_at_call 241; refine (mix_c _ _ _).mono ?_; rintro e w' ⟨rfl, rfl⟩)
      go_round
      case rel => exact ⟨k + 1, by omega, by go_num, by rw [Ky.hn_succ _ _ hlt]⟩
      case measure => simp [intOf]; omega
    · have h4 : k = 4 := by omega
      subst h4
      go_wp2_with fail
      have hat : wrap64 (((key.hn 4 : Nat) : Int) % (S.slots.length : Int)) = (((key.home S.slots.length + 0) % S.slots.length : Nat) : Int) := by
        have e : (((key.hn 4 : Nat) : Int) % (S.slots.length : Int)) = ((key.home S.slots.length : Nat) : Int) := by
          simp only [Ky.home, Ky.hn, Int.natCast_emod]
        have hh : key.home S.slots.length < S.slots.length := Nat.mod_lt _ hm
        rw [e, Nat.add_zero, Nat.mod_eq_of_lt hh]
        unfold wrap64; omega
      have HAT := Lib.hid hat
      clear hat
      have hfr : Fr w [] (w.alloc (.cells #[.int .i64 key.lv, .int .u32 key.bits, .int .u32 key.k0, .int .u32 key.k1, .int .u32 key.k2, .int .u32 key.k3] 255)) [] := (Fr.nil w).alloc _
      have HBX := Lib.hid (heap_new w (.cells #[.int .i64 key.lv, .int .u32 key.bits, .int .u32 key.k0, .int .u32 key.k1, .int .u32 key.k2, .int .u32 key.k3] 255))
      go_loopw [8] (fun at_ wr => ∃ j : Nat, j ≤ d ∧ at_ = .int .i64 (((key.home S.slots.length + j) % S.slots.length : Nat) : Int) ∧ Fr w [] wr [] ∧
          wr.heap[w.heap.size]? = some (.cells #[.int .i64 key.lv, .int .u32 key.bits, .int .u32 key.k0, .int .u32 key.k1, .int .u32 key.k2, .int .u32 key.k3] 255)) (fun at_ _ => d - ((intOf at_).toNat + S.slots.length - key.home S.slots.length) % S.slots.length)
      case atStart => exact ⟨0, by omega, by rw [HAT.out], hfr, HBX.out⟩
      case round =>
        clear hfr HBX HAT h1
        obtain ⟨j, hj, rfl, hfr, hbx⟩ := hrel
        have hA := h.ext hfr
        have h1 := hA.c1
        have hbc := fun o => cell_of_heap hbx o
        have b0 := hbc 0; have b1 := hbc 1; have b2 := hbc 2; have b3 := hbc 3; have b4 := hbc 4; have b5 := hbc 5
        simp at b0 b1 b2 b3 b4 b5
        have hsz := hfr.size
        have hszb := heap_lt hbx
        have hpm : (key.home S.slots.length + j) % S.slots.length < S.slots.length := Nat.mod_lt _ hm
        by_cases hjd : j < d
        · obtain ⟨s, n, hs1, hn1, hne⟩ := HP.out j hjd
          have cs := hA.slot hs1
          obtain ⟨c0, c1, c2, c3, c4, c5, c6⟩ := hA.node hn1
          have hnl := (List.getElem?_eq_some_iff.1 hn1).1
          have hs32 : s < 4294967296 := by omega
          have hw1 := hA.abLt
          have hw2 := hA.nbLt (by omega)
          have hw3 := hA.sbLt
          have h0 := hA.c0' (by omega)
          generalize hpp : (key.home S.slots.length + j) % S.slots.length = p at *
          have HPP := Lib.hid hpp
          clear hpp
          have HBX := Lib.hid hbx
          have HS1 := Lib.hid hs1
          have HN1 := Lib.hid hn1
          clear hbx hs1 hn1 hbc
          go_wp2_with fail
          have hEq := Nd.key_eql n key false (by simpa using hne)
          clear hne
          go_region
          go_wp2_with fail
          refine ⟨⟨j + 1, by omega, ?_, ?_, ?_⟩, ?_⟩
          · rw [show ((p : Int) + 1) % (S.slots.length : Int) = (((p + 1) % S.slots.length : Nat) : Int) by simp, ← HPP.out]
            simp only [Nat.mod_add_mod, Nat.add_assoc]
          · exact (hfr.alloc _).drew
          · show (wr.alloc _).heap[w.heap.size]? = _
            rw [Below.heap_alloc _ _ _ hszb]; exact HBX.out
          · have hh : key.home S.slots.length < S.slots.length := Nat.mod_lt _ hm
            simp only [intOf]
            rw [show ((p : Int) + 1) % (S.slots.length : Int) = (((p + 1) % S.slots.length : Nat) : Int) by simp, ← HPP.out]
            simp only [Nat.mod_add_mod, Nat.add_assoc, Int.toNat_natCast]
            have e1 := dist_eq (key.home S.slots.length) j S.slots.length hh (by omega)
            have e2 := dist_eq (key.home S.slots.length) (j + 1) S.slots.length hh (by omega)
            rw [e1, e2]; omega
        · have hjj : j = d := by omega
          subst hjj
          rcases HS.out with hz | ⟨s, n, hs1, hn1, hne⟩
          · have cs := hA.slot hz
            generalize hpp : (key.home S.slots.length + j) % S.slots.length = p at *
            have HZ := Lib.hid hz
            have HPP := Lib.hid hpp
            have HBX := Lib.hid hbx
            clear hbx hz hpp
            go_wp2_with fail
            go_ret
            exact ⟨ret_int (by rw [← HPP.out]), hfr⟩
          · have cs := hA.slot hs1
            obtain ⟨c0, c1, c2, c3, c4, c5, c6⟩ := hA.node hn1
            have hnl := (List.getElem?_eq_some_iff.1 hn1).1
            have hs32 : s < 4294967296 := by omega
            have hw1 := hA.abLt
            have hw2 := hA.nbLt (by omega)
            have hw3 := hA.sbLt
            have h0 := hA.c0' (by omega)
            generalize hpp : (key.home S.slots.length + j) % S.slots.length = p at *
            have HPP := Lib.hid hpp
            clear hpp
            have HBX := Lib.hid hbx
            have HS1 := Lib.hid hs1
            have HN1 := Lib.hid hn1
            have hEq := Nd.key_eql n key true (by simpa using hne)
            clear hbx hs1 hn1 hbc hne
            go_wp2_with fail
            go_region
            go_wp2_with fail
            go_ret
            exact ⟨ret_int (by rw [← HPP.out]), (hfr.alloc _).drew⟩
end Go.Proofs.YtnkdbpjmepfblaaGreatDoor

/- Plain: the table of slots. Every node is found by its key; nothing else is. -/
namespace Go.Proofs.YtnkdbpjmepfblaaGreatDoor
open Go

def NodupK (nodes : List Nd) : Prop := ∀ (i j : Nat) (a b : Nd), nodes[i]? = some a → nodes[j]? = some b → a.key = b.key → i = j

/-- The slots bear just the first c nodes. -/
structure SOK (nodes : List Nd) (slots : List Nat) (c : Nat) : Prop where
  pos : 0 < slots.length
  cle : c ≤ nodes.length
  nz : ∀ (p s : Nat), slots[p]? = some (s + 1) → s < c
  cnt : slots.countP (· != 0) ≤ c
  room : c < slots.length
  cover : ∀ (i : Nat) (n : Nd), i < c → nodes[i]? = some n → ∃ j, j < slots.length ∧ slots[(n.key.home slots.length + j) % slots.length]? = some (i + 1) ∧
    ∀ j', j' < j → slots[(n.key.home slots.length + j') % slots.length]? ≠ some 0

theorem exists_least (P : Nat → Prop) (d : Nat) (h : P d) : ∃ m, m ≤ d ∧ P m ∧ ∀ j, j < m → ¬ P j := by
  induction d using Nat.strongRecOn with
  | _ d ih =>
    by_cases hx : ∃ j, j < d ∧ P j
    · obtain ⟨j, hj, hp⟩ := hx
      obtain ⟨m, hm, hp', hl⟩ := ih j hj hp
      exact ⟨m, by omega, hp', hl⟩
    · exact ⟨d, Nat.le_refl _, h, fun j hj hp => hx ⟨j, hj, hp⟩⟩

theorem exists_zero (l : List Nat) (h : l.countP (· != 0) < l.length) : ∃ p : Nat, l[p]? = some 0 := by
  induction l with
  | nil => simp at h
  | cons x l ih =>
    by_cases hx : x = 0
    · exact ⟨0, by simp [hx]⟩
    · have : l.countP (· != 0) < l.length := by
        simp [hx] at h; omega
      obtain ⟨p, hp⟩ := ih this
      exact ⟨p + 1, by simpa using hp⟩

/-- Where the search for a key ends. -/
theorem probe_ex {nodes : List Nd} {slots : List Nat} {c : Nat} (h : SOK nodes slots c) (key : Ky) :
    ∃ d, d < slots.length ∧ (∀ j, j < d → goesOn nodes slots key ((key.home slots.length + j) % slots.length)) ∧ stopAt nodes slots key ((key.home slots.length + d) % slots.length) := by
  obtain ⟨q, hq⟩ := exists_zero slots (Nat.lt_of_le_of_lt h.cnt h.room)
  have hql : q < slots.length := (List.getElem?_eq_some_iff.1 hq).1
  have hh : key.home slots.length < slots.length := Nat.mod_lt _ h.pos
  have h1 : stopAt nodes slots key ((key.home slots.length + (q + slots.length - key.home slots.length) % slots.length) % slots.length) := by
    left
    have e : (key.home slots.length + (q + slots.length - key.home slots.length) % slots.length) % slots.length = q := by
      rw [Nat.add_mod_mod, show key.home slots.length + (q + slots.length - key.home slots.length) = q + slots.length by omega, Nat.add_mod_right, Nat.mod_eq_of_lt hql]
    rw [e]; exact hq
  obtain ⟨m, hm, hp, hl⟩ := exists_least (fun d => stopAt nodes slots key ((key.home slots.length + d) % slots.length)) _ h1
  refine ⟨m, Nat.lt_of_le_of_lt hm (Nat.mod_lt _ h.pos), fun j hj => ?_, hp⟩
  have hn := hl j hj
  have hpl : (key.home slots.length + j) % slots.length < slots.length := Nat.mod_lt _ h.pos
  have hs := List.getElem?_eq_getElem hpl
  generalize hv : slots[(key.home slots.length + j) % slots.length] = v at hs
  cases v with
  | zero => exact absurd (Or.inl hs) hn
  | succ s =>
    have hsc := h.nz _ _ hs
    have hsn : s < nodes.length := Nat.lt_of_lt_of_le hsc h.cle
    refine ⟨s, nodes[s], hs, List.getElem?_eq_getElem hsn, fun he => hn (Or.inr ⟨s, nodes[s], hs, List.getElem?_eq_getElem hsn, he⟩)⟩

/-- A search that ends at a free slot: no node has the key. -/
theorem no_key {nodes : List Nd} {slots : List Nat} {c : Nat} (h : SOK nodes slots c) (key : Ky) (d : Nat)
    (hp : ∀ j, j < d → goesOn nodes slots key ((key.home slots.length + j) % slots.length)) (hs : slots[(key.home slots.length + d) % slots.length]? = some 0) :
    ∀ (i : Nat) (n : Nd), i < c → nodes[i]? = some n → n.key ≠ key := by
  intro i n hi hn he
  obtain ⟨j, hj, hc, hb⟩ := h.cover i n hi hn
  rw [he] at hc hb
  rcases Nat.lt_trichotomy j d with hlt | rfl | hgt
  · obtain ⟨s, m, h1, h2, h3⟩ := hp j hlt
    rw [hc] at h1
    simp at h1
    subst h1
    rw [hn] at h2
    simp at h2
    subst h2
    exact h3 he
  · rw [hc] at hs; simp at hs
  · exact hb d hgt hs

theorem countP_set (l : List Nat) (p v : Nat) (hp : l[p]? = some 0) : (l.set p (v + 1)).countP (· != 0) = l.countP (· != 0) + 1 := by
  induction l generalizing p with
  | nil => simp at hp
  | cons x l ih =>
    cases p with
    | zero => simp at hp; simp [hp]
    | succ p => simp at hp; simp [List.countP_cons, ih p hp]; omega

/-- A node more in a free slot at the end of its own search. -/
theorem SOK.insert {nodes : List Nd} {slots : List Nat} {c : Nat} (h : SOK nodes slots c) (n : Nd) (hn : nodes[c]? = some n) (d : Nat) (hd : d < slots.length)
    (hp : ∀ j, j < d → goesOn nodes slots n.key ((n.key.home slots.length + j) % slots.length)) (hs : slots[(n.key.home slots.length + d) % slots.length]? = some 0)
    (hroom : c + 1 < slots.length) : SOK nodes (slots.set ((n.key.home slots.length + d) % slots.length) (c + 1)) (c + 1) := by
  have hcl : c < nodes.length := (List.getElem?_eq_some_iff.1 hn).1
  generalize hq : (n.key.home slots.length + d) % slots.length = q at *
  have hql : q < slots.length := (List.getElem?_eq_some_iff.1 hs).1
  refine ⟨by simpa using h.pos, hcl, ?_, by rw [countP_set _ _ _ hs]; have := h.cnt; omega, by simpa using hroom, ?_⟩
  · intro p s hps
    by_cases hpq : q = p
    · subst hpq
      rw [List.getElem?_set_self hql] at hps
      simp at hps; omega
    · rw [List.getElem?_set_ne hpq] at hps
      have := h.nz p s hps; omega
  · intro i m hi hm
    simp only [List.length_set]
    by_cases hic : i = c
    · subst hic
      rw [hn] at hm
      simp at hm
      subst hm
      refine ⟨d, hd, by rw [hq, List.getElem?_set_self hql], fun j' hj' => ?_⟩
      obtain ⟨s, m, h1, h2, h3⟩ := hp j' hj'
      by_cases hpq : q = (n.key.home slots.length + j') % slots.length
      · rw [← hpq, List.getElem?_set_self hql]; simp
      · rw [List.getElem?_set_ne hpq, h1]; simp
    · obtain ⟨j, hj, hc, hb⟩ := h.cover i m (by omega) hm
      have hne : q ≠ (m.key.home slots.length + j) % slots.length := fun e => by rw [← e, hs] at hc; simp at hc
      refine ⟨j, hj, by rw [List.getElem?_set_ne hne]; exact hc, fun j' hj' => ?_⟩
      by_cases hpq : q = (m.key.home slots.length + j') % slots.length
      · rw [← hpq, List.getElem?_set_self hql]; simp
      · rw [List.getElem?_set_ne hpq]; exact hb j' hj'

/-- All slots free. -/
theorem SOK.zero (nodes : List Nd) (m : Nat) (hm : 0 < m) : SOK nodes (List.replicate m 0) 0 := by
  refine ⟨by simpa using hm, by omega, ?_, by simp [List.countP_replicate], by simpa using hm, by intro i n hi; omega⟩
  intro p s hp
  rw [List.getElem?_replicate] at hp
  split at hp <;> simp at hp

/-- More nodes behind: the first c are as they were. -/
theorem SOK.append {nodes : List Nd} {slots : List Nat} {c : Nat} (h : SOK nodes slots c) (l : List Nd) : SOK (nodes ++ l) slots c := by
  refine ⟨h.pos, by have := h.cle; simp; omega, h.nz, h.cnt, h.room, fun i n hi hn => h.cover i n hi ?_⟩
  rwa [List.getElem?_append_left (by have := h.cle; omega)] at hn
end Go.Proofs.YtnkdbpjmepfblaaGreatDoor

/- An append on a slice of the program's own: where the new row lies. -/
namespace Go.Proofs.YtnkdbpjmepfblaaGreatDoor
open Go Go.RowKit
section
variable {P : Program} (w : World)
theorem run_append_where (t ty e : TypeId) (i : TypeInfo) (z : Value) (size bytes : Nat) (ht : P.underlying t = some (.slice e)) (hi : P.info? e = some i) (hz : i.zero = some z)
    (hsize : i.size = size) (hby : i.bytes = bytes) (hzs : z.cells.size = size) (hsz : 0 < size)
    (v : Value) (n : Nat) (xs : List Value) (hown : w.ownsRow 0 e size v n xs)
    (a : Addr) (m c : Nat) (news : List Value) (hl : news.length = m * size) (hnews : ∀ (j : Nat) (u : Value), news[j]? = some u → w.cell? (a.add j) = some u) (h1 : ∀ u ∈ news, u.oneCell' = true)
    (hm : 0 < m) (h63 : n + m ≤ maxLen) (hbytes : (n + m) * bytes ≤ 140737488355328) :
    ∃ g cap w', (Builtin.append_ #[t, t] ty #[v, .slice (some a) m c]).run P w = .ok (.slice (some ⟨g, 0, none⟩) (n + m) cap) w' ∧
      w'.ownsRow 0 e size (.slice (some ⟨g, 0, none⟩) (n + m) cap) (n + m) (xs ++ news) ∧ w.grownBy w' v.ownBlock ∧ (v.ownBlock = some g ∨ w.heap.size ≤ g) ∧ g < w'.heap.size := by
  obtain ⟨v', w', hr, h2, h3, h4⟩ := run_append_own (P := P) w 0 t ty e i z size bytes ht hi hz hsize hby hzs hsz v n xs hown a m c news hl hnews h1 h63 hbytes (Nat.zero_le _)
  have hsmall : n + m ≤ 9223372036854775807 := by simp only [maxLen] at h63; omega
  subst hsize
  subst hby
  rcases h2.2 with ⟨hv, h0⟩ | ⟨g, cap, cur, hv, _, hh, _⟩
  · omega
  · subst hv
    refine ⟨g, cap, w', hr, h2, h3, ?_, heap_lt hh⟩
    rcases hown.2 with ⟨rfl, rfl⟩ | ⟨g0, cap0, cur0, rfl, hbg, hg, hnc, hcm, hcs, htake⟩
    · have := run_append_nil (P := P) w t ty e i z ht hi hz a m c news hl hnews hm (by omega) (by have hb := hbytes; simp only [Nat.zero_add] at hb; omega)
      rw [this] at hr
      injection hr with e1 e2
      simp only [Value.slice.injEq, Option.some.injEq, Addr.mk.injEq] at e1
      right; omega
    · by_cases hroom : n + m ≤ cap0
      · have hfit : n * i.size + news.length ≤ cur0.size := by rw [hl, hcs, ← Nat.add_mul]; exact Nat.mul_le_mul_right _ hroom
        have := run_append_room (P := P) w t ty e i ht hi g0 n cap0 cur0 hg a m c news hl hnews h1 hroom hfit
        rw [this] at hr
        injection hr with e1 e2
        simp only [Value.slice.injEq, Option.some.injEq, Addr.mk.injEq] at e1
        left; simp [Value.ownBlock]; exact e1.1.1
      · have holds : ∀ (j : Nat) (u : Value), xs[j]? = some u → w.cell? ((⟨g0, 0, none⟩ : Addr).add j) = some u := hown.cells (g := g0) rfl
        have := run_append_grow (P := P) w t ty e i z ht hi hz ⟨g0, 0, none⟩ n cap0 xs hown.1 holds a m c news hl hnews (by omega) (by omega) (growslice_fits (by omega) hbytes)
        rw [this] at hr
        injection hr with e1 e2
        simp only [Value.slice.injEq, Option.some.injEq, Addr.mk.injEq] at e1
        right; omega
theorem wpList_append_where {ops : Array Oper} {rest : List Oper} {o : Oper} {a : Act} {Q : Exit → Act → World → Prop} (hgd : o.guard = none) (s x : Operand) (t : TypeId)
    (ho : o.op = .call { callee := .builtin .append, args := #[s, x], argTypes := #[t, t] })
    (e : TypeId) (i : TypeInfo) (z : Value) (size bytes : Nat) (ht : P.underlying t = some (.slice e)) (hi : P.info? e = some i) (hz : i.zero = some z)
    (hsize : i.size = size) (hby : i.bytes = bytes) (hzs : z.cells.size = size) (hsz : 0 < size)
    (v : Value) (n : Nat) (xs : List Value) (hs : a.eval s = v) (hown : w.ownsRow 0 e size v n xs)
    (ad : Addr) (m c : Nat) (news : List Value) (hx : a.eval x = .slice (some ad) m c) (hl : news.length = m * size) (hnews : ∀ (j : Nat) (u : Value), news[j]? = some u → w.cell? (ad.add j) = some u) (h1 : ∀ u ∈ news, u.oneCell' = true)
    (hm : 0 < m) (h63 : n + m ≤ maxLen) (hbytes : (n + m) * bytes ≤ 140737488355328)
    (h : ∀ g cap w', w'.ownsRow 0 e size (.slice (some ⟨g, 0, none⟩) (n + m) cap) (n + m) (xs ++ news) → w.grownBy w' v.ownBlock → (v.ownBlock = some g ∨ w.heap.size ≤ g) → g < w'.heap.size →
      wpList P ops Q rest (a.put o.dst (.slice (some ⟨g, 0, none⟩) (n + m) cap)) w') : wpList P ops Q (o :: rest) a w := by
  obtain ⟨g, cap, w', hr, h2, h3, h4, h5⟩ := run_append_where (P := P) w t o.type e i z size bytes ht hi hz hsize hby hzs hsz v n xs hown ad m c news hl hnews h1 hm h63 hbytes
  refine wpList_plain hgd fun K hK => ?_
  unfold Oper.wp execOp
  simp only [ho, resolve, invoke, builtin, Sem.run_bind, Sem.run_pure, Result.andThen_ok, List.map_toArray, List.map_cons, List.map_nil, hs, hx, hr]
  exact hK _ _ (h g cap w' h2 h3 h4 h5)
theorem step_append_where {ops : Array Oper} {o : Oper} {a : Act} {K : Act → World → Prop} {Q : Exit → Act → World → Prop} {E : Prop} (hgd : o.guard = none) (s x : Operand) (t : TypeId)
    (ho : o.op = .call { callee := .builtin .append, args := #[s, x], argTypes := #[t, t] })
    (e : TypeId) (i : TypeInfo) (z : Value) (size bytes : Nat) (ht : P.underlying t = some (.slice e)) (hi : P.info? e = some i) (hz : i.zero = some z)
    (hsize : i.size = size) (hby : i.bytes = bytes) (hzs : z.cells.size = size) (hsz : 0 < size)
    (v : Value) (n : Nat) (xs : List Value) (hs : a.eval s = v) (hown : w.ownsRow 0 e size v n xs)
    (ad : Addr) (m c : Nat) (news : List Value) (hx : a.eval x = .slice (some ad) m c) (hl : news.length = m * size) (hnews : ∀ (j : Nat) (u : Value), news[j]? = some u → w.cell? (ad.add j) = some u) (h1 : ∀ u ∈ news, u.oneCell' = true)
    (hm : 0 < m) (h63 : n + m ≤ maxLen) (hbytes : (n + m) * bytes ≤ 140737488355328) (R : Nat → Nat → World → Prop)
    (hR : ∀ g cap w', w'.ownsRow 0 e size (.slice (some ⟨g, 0, none⟩) (n + m) cap) (n + m) (xs ++ news) → w.grownBy w' v.ownBlock → (v.ownBlock = some g ∨ w.heap.size ≤ g) → g < w'.heap.size → R g cap w')
    (h : ∀ g cap w', R g cap w' → K (a.put o.dst (.slice (some ⟨g, 0, none⟩) (n + m) cap)) w') : if Region.wanted o (yielded ops a.tmps) = true then Oper.wp P o a w K Q else E := by
  obtain ⟨g, cap, w', hr, h2, h3, h4, h5⟩ := run_append_where (P := P) w t o.type e i z size bytes ht hi hz hsize hby hzs hsz v n xs hown ad m c news hl hnews h1 hm h63 hbytes
  have hw : Region.wanted o (yielded ops a.tmps) = true := by simp [Region.wanted, hgd]
  rw [if_pos hw]
  unfold Oper.wp execOp
  simp only [ho, resolve, invoke, builtin, Sem.run_bind, Sem.run_pure, Result.andThen_ok, List.map_toArray, List.map_cons, List.map_nil, hs, hx, hr]
  exact h g cap w' (hR g cap w' h2 h3 h4 h5)
end
end Go.Proofs.YtnkdbpjmepfblaaGreatDoor
