/- Texts of the walk and its plain law, merged: ArD, ArE, ArF, ArG. -/
import Derived.Test.YtnkdbpjmepfblaaGreatDoorM03
import Derived.Test.YtnkdbpjmepfblaaGreatDoorM01
import Derived.Test.YtnkdbpjmepfblaaGreatDoorM02
import Derived.Deep.DeepMust
/- The arena: find. -/
namespace Go.Proofs.YtnkdbpjmepfblaaGreatDoor
open Go Go.RowKit

/-- The pair that is answered: a node's number and no error, or 0 and a code. -/
def okV (i : Nat) : Value := .tuple #[.int .u32 (i : Int), .nilIface]
def errV (c : Nat) : Value := .tuple #[.int .u32 0, .iface 42 (.int .i64 (c : Int))]

section
variable {w : World} {ab : Nat} {S : ArM}

set_option maxRecDepth 100000 in
set_option maxHeartbeats 800000 in
theorem find_hit (h : AR w ab S) (hs : SOK S.nodes S.slots S.nodes.length) (hnd : NodupK S.nodes) (key : Ky) (hk : key.ok) (c : Int) (i : Nat) (n : Nd) (hi : S.nodes[i]? = some n) (hn : n.key = key) :
    Calls Tryz.prog 176 #[.pointer (some ⟨ab, 0, none⟩), key.val, .int .u64 c] w fun e w' => e = .returned (okV i) ∧ Fr w [] w' [] := by
  obtain ⟨d, hd, hp, hst⟩ := probe_ex hs key
  have hz : S.slots[(key.home S.slots.length + d) % S.slots.length]? = some (i + 1) := by
    rcases hst with h0 | ⟨s, m, hs1, hs2, hs3⟩
    · exact absurd hn (no_key hs key d hp h0 i n (List.getElem?_eq_some_iff.1 hi).1 hi)
    · have := hnd s i m n hs2 hi (hs3.trans hn.symm)
      rw [← this]; exact hs1
  have hpm : (key.home S.slots.length + d) % S.slots.length < S.slots.length := Nat.mod_lt _ hs.pos
  have hsl := h.slen
  have hlt := h.abLt
  have hil : i < 4294967296 := by have := (List.getElem?_eq_some_iff.1 hi).1; have := h.nlen; omega
  have hA1 := h.alloc (.cells #[.int .i64 key.lv, .int .u32 key.bits, .int .u32 key.k0, .int .u32 key.k1, .int .u32 key.k2, .int .u32 key.k3] 255)
  have hslot := slot_c hA1 key hk d hs.pos hd hp hst
  clear hp hst hnd hs hn hi
  generalize hpp : (key.home S.slots.length + d) % S.slots.length = p at *
  have HZ := Lib.hid hz
  have HPP := Lib.hid hpp
  have HSLOT := Lib.hid hslot
  clear hz hpp hslot
  unfold Ky.val
  go_enter Tryz.func176, Tryz.ntmps176
  go_wp2_with fail
  refine HSLOT.out.mono ?_
  rintro e w1 ⟨rfl, hf⟩
  have hA2 := hA1.ext hf
  have h1 := hA2.c1
  have hcell := hA2.slot HZ.out
  have hw1 := hA2.abLt
  go_wp2_with fail
  go_ret2
  exact ⟨rfl, (Fr.nil w).alloc _ |>.trans hf⟩
set_option maxRecDepth 100000 in
set_option maxHeartbeats 800000 in
theorem find_full (h : AR w ab S) (hs : SOK S.nodes S.slots S.nodes.length) (key : Ky) (hk : key.ok) (c : Int) (hno : ∀ (i : Nat) (n : Nd), S.nodes[i]? = some n → n.key ≠ key)
    (hfull : S.most ≤ S.nodes.length) :
    Calls Tryz.prog 176 #[.pointer (some ⟨ab, 0, none⟩), key.val, .int .u64 c] w fun e w' => e = .returned (errV 8) ∧ Fr w [] w' [] := by
  obtain ⟨d, hd, hp, hst⟩ := probe_ex hs key
  have hz : S.slots[(key.home S.slots.length + d) % S.slots.length]? = some 0 := by
    rcases hst with h0 | ⟨s, m, hs1, hs2, hs3⟩
    · exact h0
    · exact absurd hs3 (hno s m hs2)
  have hpm : (key.home S.slots.length + d) % S.slots.length < S.slots.length := Nat.mod_lt _ hs.pos
  have hsl := h.slen
  have hlt := h.abLt
  have hml := h.mlen
  have hnl := h.nlen
  have hA1 := h.alloc (.cells #[.int .i64 key.lv, .int .u32 key.bits, .int .u32 key.k0, .int .u32 key.k1, .int .u32 key.k2, .int .u32 key.k3] 255)
  have hslot := slot_c hA1 key hk d hs.pos hd hp hst
  clear hp hst hs hno
  generalize hpp : (key.home S.slots.length + d) % S.slots.length = p at *
  have HZ := Lib.hid hz
  have HPP := Lib.hid hpp
  have HSLOT := Lib.hid hslot
  clear hz hpp hslot
  unfold Ky.val
  go_enter Tryz.func176, Tryz.ntmps176
  go_wp2_with fail
  refine HSLOT.out.mono ?_
  rintro e w1 ⟨rfl, hf⟩
  have hA2 := hA1.ext hf
  have h1 := hA2.c1
  have hcell : w1.cell? ⟨S.sb, p, none⟩ = some (.int .u32 (0 : Int)) := hA2.slot HZ.out
  have hw1 := hA2.abLt
  go_wp2_with fail
  have hAx : ∀ x : CW w1, AR x.x ab S := fun x => hA2.ext x.h
  have hc3 : ∀ x : CW w1, x.x.cell? ⟨ab, 3, none⟩ = some (.int .i64 S.most) := fun x => (hAx x).c3
  have HAX := Lib.hid hAx
  clear hAx
  refine wp_region_cw (by kernel_rfl) (by kernel_rfl) (CW w1) Cls.x ⟨⟨_, (Fr.nil w1).drew⟩, rfl⟩ ?_
  repeat (go_big_quiet_step (((go_at_call 46; exact Calls.cls_same (len_c (HAX.out _))))))
  refine wpQuiet_nil ?_
  intro y
  go_wp2_with fail
  go_ret2
  exact ⟨rfl, ((Fr.nil w).alloc _ |>.trans hf).trans y.h⟩

def ArM.push (S : ArM) (n : Nd) (g cap : Nat) : ArM := { S with nodes := S.nodes ++ [n], na := some g, ncap := cap }
theorem AR.push (h : AR w ab S) {w1 : World} {n : Nd} {g cap : Nat} (hok : n.ok) (hlen : S.nodes.length + 1 < 4294967296)
    (hown : w1.ownsRow 0 157 7 (.slice (some ⟨g, 0, none⟩) (S.nodes.length + 1) cap) (S.nodes.length + 1) (S.nodes.flatMap Nd.cells ++ n.cells))
    (hgr : w.grownBy w1 S.nv.ownBlock) (hg : S.nv.ownBlock = some g ∨ w.heap.size ≤ g) (hgl : g < w1.heap.size) :
    AR (w1.setCell ⟨ab, 0, none⟩ (.slice (some ⟨g, 0, none⟩) (S.nodes.length + 1) cap)) ab (S.push n g cap) ∧
      Fr w (S.own ab) (w1.setCell ⟨ab, 0, none⟩ (.slice (some ⟨g, 0, none⟩) (S.nodes.length + 1) cap)) ((S.push n g cap).own ab) := by
  rw [ArM.nvOwn] at hgr hg
  have hd := h.nd
  simp only [ArM.own, List.nodup_cons, List.mem_cons, not_or] at hd
  obtain ⟨⟨d1, d2⟩, d3, d4⟩ := hd
  have keep : ∀ b, b < w.heap.size → S.na ≠ some b → w1.heap[b]? = w.heap[b]? := fun b hb hn => hgr.block b hb (fun e => hn e.symm)
  have hab : S.na ≠ some ab := fun e => d2 (by simp [e])
  have hsb : S.na ≠ some S.sb := fun e => d3 (by simp [e])
  have hgab : g ≠ ab := by
    rcases hg with hg | hg
    · intro e; subst e; exact hab hg
    · have := h.abLt; omega
  have hgsb : g ≠ S.sb := by
    rcases hg with hg | hg
    · intro e; subst e; exact hsb hg
    · have := h.sbLt; omega
  have hgea : g ∉ S.ea.toList := by
    rcases hg with hg | hg
    · intro e
      rw [hg] at d4
      simp only [Option.toList_some, List.singleton_append, List.nodup_cons] at d4
      exact d4.1 e
    · intro e
      have := h.ownLt g (by simp only [ArM.own, List.mem_cons, List.mem_append]; exact .inr (.inr (.inr e)))
      omega
  have hne : ∀ b, b ≠ ab → (w1.setCell ⟨ab, 0, none⟩ (.slice (some ⟨g, 0, none⟩) (S.nodes.length + 1) cap)).heap[b]? = w1.heap[b]? := fun b hb => World.heap_setCell_ne _ _ _ _ hb
  have hA : AR (w1.setCell ⟨ab, 0, none⟩ (.slice (some ⟨g, 0, none⟩) (S.nodes.length + 1) cap)) ab (S.push n g cap) := by
    refine ⟨?_, ?_, ?_, ?_, ?_, ?_, h.sok, h.eok, by simp [ArM.push]; omega, h.elen, h.slen, h.mlen⟩
    · rw [heap_setCell_same _ _ _ _ _ _ (by rw [keep ab h.abLt hab]; exact h.hs)]
      simp [ArM.push, ArM.nv, ArM.ev, at0]
    · have := ownsRow_same hown (w' := w1.setCell ⟨ab, 0, none⟩ (.slice (some ⟨g, 0, none⟩) (S.nodes.length + 1) cap)) (fun b hb => by
        simp only [Value.ownBlock, Option.some.injEq] at hb
        exact hne b (by omega))
      simpa [ArM.push, ArM.nv, at0, List.flatMap_append] using this
    · show (w1.setCell _ _).heap[S.sb]? = some (.cells (S.slots.map u32).toArray 29 (0, 0))
      rw [hne _ (fun e => d1 e.symm), keep _ h.sbLt hsb]; exact h.hsl
    · refine ownsRow_same h.he fun b hb => ?_
      have hb' : S.ev.ownBlock = some b := hb
      rw [ArM.evOwn] at hb'
      have hbm : b ∈ S.ea.toList := by simp [hb']
      rw [hne b (fun e => d2 (by simp [← e, hb'])), keep b (h.ownLt b (by simp [ArM.own, hb']))]
      intro e
      rw [e, hb'] at d4
      simp at d4
    · show (ab :: S.sb :: ((some g).toList ++ S.ea.toList)).Nodup
      have hea : S.ea.toList.Nodup := (List.nodup_append.1 d4).2.1
      simp only [Option.toList_some, List.singleton_append, List.nodup_cons, List.mem_cons, not_or]
      refine ⟨⟨d1, fun e => hgab e.symm, fun e => d2 (by simp [List.mem_append, e])⟩, ⟨fun e => hgsb e.symm, fun e => d3 (by simp [List.mem_append, e])⟩, hgea, hea⟩
    · intro m hm
      simp only [ArM.push, List.mem_append, List.mem_singleton] at hm
      rcases hm with hm | rfl
      · exact h.nok m hm
      · exact hok
  refine ⟨hA, ⟨hgr.os, hgr.tape, hgr.output, by simpa using hgr.size, ?_, ?_, hA.ownLt⟩⟩
  · intro b hb hn
    simp only [ArM.own, List.mem_cons, List.mem_append, not_or] at hn
    rw [hne b hn.1, keep b hb (fun e => hn.2.2.1 (by simp [e]))]
  · intro b hb
    simp only [ArM.own, ArM.push, List.mem_cons, List.mem_append, Option.toList_some, List.not_mem_nil, or_false] at hb ⊢
    rcases hb with rfl | rfl | rfl | hb
    · exact .inl (.inl rfl)
    · exact .inl (.inr (.inl rfl))
    · rcases hg with hg | hg
      · exact .inl (.inr (.inr (.inl (by simp [hg]))))
      · exact .inr hg
    · exact .inl (.inr (.inr (.inr hb)))

theorem AR.keepAb (h : AR w ab S) {w1 : World} (hgr : w.grownBy w1 S.nv.ownBlock) : w1.heap[ab]? = w.heap[ab]? := by
  rw [ArM.nvOwn] at hgr
  refine hgr.block ab h.abLt fun e => ?_
  have hd := h.nd
  simp only [ArM.own, List.nodup_cons, List.mem_cons, not_or] at hd
  exact hd.1.2 (by simp [← e])
structure GoodS (S : ArM) : Prop where
  sok : SOK S.nodes S.slots S.nodes.length
  nd : NodupK S.nodes
  half : 2 * S.nodes.length ≤ S.slots.length
  big : 128 ≤ S.slots.length
theorem goesOn.append {nodes l : List Nd} {slots : List Nat} {key : Ky} {p : Nat} (h : goesOn nodes slots key p) : goesOn (nodes ++ l) slots key p := by
  obtain ⟨s, n, h1, h2, h3⟩ := h
  exact ⟨s, n, h1, by rw [List.getElem?_append_left (List.getElem?_eq_some_iff.1 h2).1]; exact h2, h3⟩
theorem NodupK.push {nodes : List Nd} (h : NodupK nodes) {n : Nd} (hno : ∀ (i : Nat) (m : Nd), nodes[i]? = some m → m.key ≠ n.key) : NodupK (nodes ++ [n]) := by
  intro i j a b hi hj hk
  have hil : i ≤ nodes.length := by have := (List.getElem?_eq_some_iff.1 hi).1; simp at this; omega
  have hjl : j ≤ nodes.length := by have := (List.getElem?_eq_some_iff.1 hj).1; simp at this; omega
  rcases Nat.lt_or_ge i nodes.length with h1 | h1 <;> rcases Nat.lt_or_ge j nodes.length with h2 | h2
  · rw [List.getElem?_append_left h1] at hi
    rw [List.getElem?_append_left h2] at hj
    exact h i j a b hi hj hk
  · have e : j = nodes.length := by omega
    subst e
    rw [List.getElem?_append_left h1] at hi
    simp at hj
    subst hj
    exact absurd hk (hno i a hi)
  · have e : i = nodes.length := by omega
    subst e
    rw [List.getElem?_append_left h2] at hj
    simp at hi
    subst hi
    exact absurd hk.symm (hno j b hj)
  · omega
def mkNd (key : Ky) (c : Nat) : Nd := ⟨key.lv, key.bits, key.k0, key.k1, key.k2, key.k3, c⟩
set_option maxRecDepth 100000 in
set_option maxHeartbeats 1600000 in
theorem find_new (hA0 : AR w ab S) (hG : GoodS S) (key : Ky) (hk : key.ok) (c : Nat) (hcc : c ≤ 4611686018427387904)
    (hno : ∀ (i : Nat) (n : Nd), S.nodes[i]? = some n → n.key ≠ key)
    (hfull : S.nodes.length < S.most) (hlen : S.nodes.length + 1 < 4294967296) :
    Calls Tryz.prog 176 #[.pointer (some ⟨ab, 0, none⟩), key.val, .int .u64 c] w fun e w' => e = .returned (okV S.nodes.length) ∧ ∃ S' : ArM, S'.nodes = S.nodes ++ [mkNd key c] ∧ S'.empty = S.empty ∧ S'.most = S.most ∧ GoodS S' ∧ AR w' ab S' ∧ Fr w (S.own ab) w' (S'.own ab) := by
  have hs := hG.sok
  have hkk := hk
  obtain ⟨d, hd, hp, hst⟩ := probe_ex hs key
  have hz : S.slots[(key.home S.slots.length + d) % S.slots.length]? = some 0 := by
    rcases hst with h0 | ⟨s, m, hs1, hs2, hs3⟩
    · exact h0
    · exact absurd hs3 (hno s m hs2)
  have hpm : (key.home S.slots.length + d) % S.slots.length < S.slots.length := Nat.mod_lt _ hs.pos
  have hsl := hA0.slen
  have hlt := hA0.abLt
  have hml := hA0.mlen
  have hnl := hA0.nlen
  have hA1 := hA0.alloc (.cells #[.int .i64 key.lv, .int .u32 key.bits, .int .u32 key.k0, .int .u32 key.k1, .int .u32 key.k2, .int .u32 key.k3] 255)
  have hslot := slot_c hA1 key hk d hs.pos hd hp hst
  have hbx := heap_new w (.cells #[.int .i64 key.lv, .int .u32 key.bits, .int .u32 key.k0, .int .u32 key.k1, .int .u32 key.k2, .int .u32 key.k3] 255)
  obtain ⟨k1, k2, k3, k4, k5, k6⟩ := hk
  have HP := Lib.hid hp
  have HNO := Lib.hid hno
  have HG := Lib.hid hG
  have HKK := Lib.hid hkk
  clear hp hst hno hG hkk
  generalize hpp : (key.home S.slots.length + d) % S.slots.length = p at *
  have HZ := Lib.hid hz
  have HPP := Lib.hid hpp
  have HSLOT := Lib.hid hslot
  have HBX := Lib.hid hbx
  clear hz hpp hslot hbx
  unfold Ky.val
  go_enter Tryz.func176, Tryz.ntmps176
  go_wp2_with fail
  refine HSLOT.out.mono ?_
  rintro e w1 ⟨rfl, hf⟩
  have hA2 := hA1.ext hf
  have h1 := hA2.c1
  have hcell : w1.cell? ⟨S.sb, p, none⟩ = some (.int .u32 (0 : Int)) := hA2.slot HZ.out
  have hw1 := hA2.abLt
  go_wp2_with fail
  have hAx : ∀ x : CW w1, AR x.x ab S := fun x => hA2.ext x.h
  have hc3 : ∀ x : CW w1, x.x.cell? ⟨ab, 3, none⟩ = some (.int .i64 S.most) := fun x => (hAx x).c3
  have HAX := Lib.hid hAx
  clear hAx
  refine wp_region_cw (by kernel_rfl) (by kernel_rfl) (CW w1) Cls.x ⟨⟨_, (Fr.nil w1).drew⟩, rfl⟩ ?_
  repeat (go_big_quiet_step (((go_at_call 46; exact Calls.cls_same (len_c (HAX.out _))))))
  refine wpQuiet_nil ?_
  intro y
  clear hc3
  have hyw : Fr w1 [] y.x [] := y.h
  have hA3 : AR y.x ab S := HAX.out y
  generalize y.x = W at *
  clear y
  have hFW : Fr w [] W [] := ((Fr.nil w).alloc _ |>.trans hf).trans hyw
  have hbx3 : W.heap[w.heap.size]? = some (.cells #[.int .i64 key.lv, .int .u32 key.bits, .int .u32 key.k0, .int .u32 key.k1, .int .u32 key.k2, .int .u32 key.k3] 255) := by
    rw [(Fr.trans hf hyw).keep _ (by simp) (by simp)]; exact HBX.out
  clear HAX HBX hA1 hA2 hf hyw HSLOT hw1
  go_wp2_with fail
  have hAx : ∀ x : CW W, AR x.x ab S := fun x => hA3.ext x.h
  have hbl := heap_lt hbx3
  have hbxx : ∀ x : CW W, x.x.heap[w.heap.size]? = some (.cells #[.int .i64 key.lv, .int .u32 key.bits, .int .u32 key.k0, .int .u32 key.k1, .int .u32 key.k2, .int .u32 key.k3] 255) :=
    fun x => by rw [x.h.keep _ hbl (by simp)]; exact hbx3
  have b0 : ∀ x : CW W, x.x.cell? ⟨w.heap.size, 0, none⟩ = some (.int .i64 key.lv) := fun x => cell_of_heap (hbxx x) 0
  have b1 : ∀ x : CW W, x.x.cell? ⟨w.heap.size, 1, none⟩ = some (.int .u32 key.bits) := fun x => cell_of_heap (hbxx x) 1
  have b2 : ∀ x : CW W, x.x.cell? ⟨w.heap.size, 2, none⟩ = some (.int .u32 key.k0) := fun x => cell_of_heap (hbxx x) 2
  have b3 : ∀ x : CW W, x.x.cell? ⟨w.heap.size, 3, none⟩ = some (.int .u32 key.k1) := fun x => cell_of_heap (hbxx x) 3
  have b4 : ∀ x : CW W, x.x.cell? ⟨w.heap.size, 4, none⟩ = some (.int .u32 key.k2) := fun x => cell_of_heap (hbxx x) 4
  have b5 : ∀ x : CW W, x.x.cell? ⟨w.heap.size, 5, none⟩ = some (.int .u32 key.k3) := fun x => cell_of_heap (hbxx x) 5
  have hc0 : ∀ x : CW W, x.x.cell? ⟨ab, 0, none⟩ = some (.slice (S.na.map at0) S.nodes.length S.ncap) := fun x => (hAx x).c0
  have HAX := Lib.hid hAx
  have HBX := Lib.hid hbx3
  clear hAx hbxx hbx3
  refine wp_region_mixed 1 15 [14] (by kernel_rfl) (by kernel_rfl) (fun _ _ d _ _ h => by cases d <;> exact h) (CW W) Cls.x ⟨_, (Fr.nil W).drew⟩ rfl ?_
  simp only [List.take_succ_cons, List.take_zero, List.drop_succ_cons, List.drop_zero, moved]
  repeat (refine wpStillC_step (by decide) (fun K hK => ?_); go_simp; refine hK _ ?_; clear hK K)
  refine wpStillC_forced (by decide) ⟨⟨_, (Fr.nil W).drew⟩, rfl⟩ ?_
  go_wp2_with fail
  refine ⟨⟨⟨_, ((Fr.nil W).alloc _).drew⟩, rfl⟩, wpStillC_nil ⟨⟨⟨_, ((Fr.nil W).alloc _).drew⟩, rfl⟩, ?_⟩⟩
  clear hc0 b0 b1 b2 b3 b4 b5 hbl HBX
  have hAz := (hA3.alloc (.cells #[.int .i64 key.lv, .int .u32 key.bits, .int .u32 key.k0, .int .u32 key.k1, .int .u32 key.k2, .int .u32 key.k3, .int .u64 c] 157)).drew
  have hFz : Fr w [] ((W.alloc (.cells #[.int .i64 key.lv, .int .u32 key.bits, .int .u32 key.k0, .int .u32 key.k1, .int .u32 key.k2, .int .u32 key.k3, .int .u64 c] 157)).drew) [] := (hFW.alloc _).drew
  have hnew := heap_new W (.cells #[.int .i64 key.lv, .int .u32 key.bits, .int .u32 key.k0, .int .u32 key.k1, .int .u32 key.k2, .int .u32 key.k3, .int .u64 c] 157)
  have hnew' : ((W.alloc (.cells #[.int .i64 key.lv, .int .u32 key.bits, .int .u32 key.k0, .int .u32 key.k1, .int .u32 key.k2, .int .u32 key.k3, .int .u64 c] 157)).drew).heap[W.heap.size]? = some (.cells #[.int .i64 key.lv, .int .u32 key.bits, .int .u32 key.k0, .int .u32 key.k1, .int .u32 key.k2, .int .u32 key.k3, .int .u64 c] 157) := hnew
  generalize (W.alloc (.cells #[.int .i64 key.lv, .int .u32 key.bits, .int .u32 key.k0, .int .u32 key.k1, .int .u32 key.k2, .int .u32 key.k3, .int .u64 c] 157)).drew = W4 at *
  clear hnew hA3 hFW HAX
  obtain ⟨i0, hi0, hz0, hz1, hz2⟩ := info_parts info157
  refine wpList_append_where _ rfl (.tmp 41) (.tmp 51) 158 rfl 157 i0 _ 7 40 Tryz.underlying158 hi0 hz0 hz1 hz2 rfl (by decide) _ _ _ rfl hAz.hn ⟨W.heap.size, 0, none⟩ 1 1 (Nd.cells (mkNd key c)) rfl rfl ?c1 ?c2 (by decide) ?c3 ?c4 ?_
  case c1 =>
    intro j u hu
    have hj : j < 7 := (List.getElem?_eq_some_iff.1 hu).1
    have ha : (({ block := W.heap.size, off := 0 } : Addr).add j) = ⟨W.heap.size, j, none⟩ := by unfold Addr.add; split <;> simp_all
    rw [ha, cell_of_heap hnew']
    show (List.toArray (mkNd key c).cells)[j]? = some u
    rw [List.getElem?_toArray]; exact hu
  case c2 => intro u hu; simp only [Nd.cells, List.mem_cons, List.not_mem_nil, or_false] at hu; rcases hu with rfl | rfl | rfl | rfl | rfl | rfl | rfl <;> rfl
  case c3 => unfold maxLen; omega
  case c4 => omega
  intro g cap w4 hown hgr hg hgl
  have hP := hAz.push (n := mkNd key c) ⟨k1, k2, k3, k4, k5, k6, by show c < _; omega⟩ hlen hown hgr hg hgl
  have hkab : w4.heap[ab]? = _ := (hAz.keepAb hgr).trans hAz.hs
  have hcab : w4.cell? ⟨ab, 0, none⟩ = some S.nv := by rw [cell_of_heap hkab]; rfl
  have hfab : w4.frozen? ⟨ab, 0, none⟩ = false := frozen_of_row w4 ab 0 _ _ hkab
  have hPA := hP.1
  have hPF := hP.2
  have HFz : Fr w (S.own ab) W4 (S.own ab) := (Fr.own_of hA0).ext hFz
  clear hkab hP hown hgr hg hgl hAz hnew' hFz
  have hFall : Fr w (S.own ab) (w4.setCell ⟨ab, 0, none⟩ (.slice (some ⟨g, 0, none⟩) (S.nodes.length + 1) cap)) ((S.push (mkNd key c) g cap).own ab) := HFz.trans hPF
  go_wp2_with fail
  generalize w4.setCell ⟨ab, 0, none⟩ (.slice (some ⟨g, 0, none⟩) (S.nodes.length + 1) cap) = W5 at *
  clear hPF HFz hcab hfab h1 hcell
  obtain ⟨S2, hS2⟩ : ∃ S2, S2 = S.push (mkNd key c) g cap := ⟨_, rfl⟩
  have e1 : S2.nodes = S.nodes ++ [mkNd key c] := by rw [hS2]; rfl
  have e2 : S2.slots = S.slots := by rw [hS2]; rfl
  have e3 : S2.sb = S.sb := by rw [hS2]; rfl
  have e4 : S2.empty = S.empty := by rw [hS2]; rfl
  have e5 : S2.most = S.most := by rw [hS2]; rfl
  rw [← hS2] at hPA hFall
  have hG2 : SOK S2.nodes (S2.slots.set p (S.nodes.length + 1)) (S.nodes.length + 1) ∧ S2.slots[p]? = some 0 := by
    rw [e1, e2]
    have hin := (HG.out.sok.append [mkNd key c]).insert (mkNd key c) (by simp) d hd (fun j hj => (HP.out j hj).append) (by show S.slots[(key.home S.slots.length + d) % S.slots.length]? = some 0; rw [HPP.out]; exact HZ.out) (by have := HG.out.half; have := HG.out.big; omega)
    have hin' : SOK (S.nodes ++ [mkNd key c]) (S.slots.set ((key.home S.slots.length + d) % S.slots.length) (S.nodes.length + 1)) (S.nodes.length + 1) := hin
    rw [HPP.out] at hin'
    exact ⟨hin', HZ.out⟩
  have hN2 : NodupK S2.nodes := by rw [e1]; exact HG.out.nd.push HNO.out
  have hl2 : S2.nodes.length = S.nodes.length + 1 := by rw [e1]; simp
  have hs2 : S2.slots.length = S.slots.length := by rw [e2]
  have HG2 := Lib.hid hG2
  have HN2 := Lib.hid hN2
  have HE := Lib.hid (And.intro e1 (And.intro e4 e5))
  have HL2 := Lib.hid hl2
  have HS2 := Lib.hid hs2
  have hb2 : S2.nodes.length ≤ S.nodes.length + 1 := by omega
  have hb3 : S.nodes.length + 1 ≤ S2.nodes.length := by omega
  have hpm2 : p < S2.slots.length := by omega
  have hsl2 := hPA.slen
  clear hS2 e1 e2 e4 e5 hG2 hN2 hl2 hs2 HP HZ HPP HNO hd hs
  have hAx : ∀ x : CW W5, AR x.x ab S2 := fun x => hPA.ext x.h
  have hc1 : ∀ x : CW W5, x.x.cell? ⟨ab, 1, none⟩ = some (.slice (some ⟨S2.sb, 0, none⟩) S2.slots.length S2.slots.length) := fun x => (hAx x).c1
  have HAX := Lib.hid hAx
  have HE3 := Lib.hid e3
  clear hAx e3
  refine wp_region_tail 9 (by kernel_rfl) (by kernel_rfl) (CW W5) Cls.x ⟨⟨_, (Fr.nil W5).drew⟩, rfl⟩ ?_
  simp only [List.take_succ_cons, List.take_zero, List.drop_succ_cons, List.drop_zero]
  repeat (go_big_quiet_step (((go_at_call 46; exact Calls.cls_same (len_c (HAX.out _))))))
  refine wpQuiet_nil ?_
  intro y
  have hAy := HAX.out y
  have hcell : y.x.cell? ⟨S2.sb, p, none⟩ = some (.int .u32 (0 : Int)) := hAy.slot HG2.out.2
  have hfz : y.x.frozen? ⟨S2.sb, p, none⟩ = false := hAy.fzS p
  go_wp2_with fail
  have hnl2 := hPA.nlen
  have hA6 := hAy.setSlot p S2.nodes.length hnl2
  have hF6 : Fr w (S.own ab) (y.x.setCell ⟨S2.sb, p, none⟩ (.int .u32 S2.nodes.length)) ((S2.grown (S2.slots.set p S2.nodes.length) S2.sb).own ab) := by
    refine Fr.trans (hFall.ext y.h) ⟨rfl, rfl, rfl, by simp, fun b hb hn => ?_, fun b hb => .inl hb, hA6.ownLt⟩
    exact World.heap_setCell_ne _ _ _ _ (fun e => hn (by have e' : b = S2.sb := e; rw [e']; simp [ArM.own]))
  generalize y.x.setCell ⟨S2.sb, p, none⟩ (.int .u32 S2.nodes.length) = W6 at *
  clear hcell hfz hc1 hAy hFall HAX y hPA
  have hG3 : SOK (S2.grown (S2.slots.set p S2.nodes.length) S2.sb).nodes (S2.grown (S2.slots.set p S2.nodes.length) S2.sb).slots (S2.grown (S2.slots.set p S2.nodes.length) S2.sb).nodes.length := by
    have := HG2.out.1
    rw [← HL2.out] at this
    exact this
  have hE3 : (S2.grown (S2.slots.set p S2.nodes.length) S2.sb).nodes = S.nodes ++ [mkNd key c] ∧ (S2.grown (S2.slots.set p S2.nodes.length) S2.sb).empty = S.empty ∧ (S2.grown (S2.slots.set p S2.nodes.length) S2.sb).most = S.most := HE.out
  have hN3 : NodupK (S2.grown (S2.slots.set p S2.nodes.length) S2.sb).nodes := HN2.out
  have hl3 : (S2.grown (S2.slots.set p S2.nodes.length) S2.sb).nodes.length = S.nodes.length + 1 := HL2.out
  have hs3 : (S2.grown (S2.slots.set p S2.nodes.length) S2.sb).slots.length = S.slots.length := by rw [grown_slots, List.length_set]; exact HS2.out
  generalize S2.grown (S2.slots.set p S2.nodes.length) S2.sb = S3 at *
  clear HG2 HN2 HE HL2 HS2 HE3 hb2 hb3 hpm2 hsl2 hnl2
  have HG3 := Lib.hid hG3
  have HE3 := Lib.hid hE3
  have HN3 := Lib.hid hN3
  have HL3 := Lib.hid hl3
  have HS3 := Lib.hid hs3
  have hb2 : S3.nodes.length ≤ S.nodes.length + 1 := by omega
  have hb3 : S.nodes.length + 1 ≤ S3.nodes.length := by omega
  have hsl3 := hA6.slen
  have hnl3 := hA6.nlen
  clear hG3 hE3 hN3 hl3 hs3
  refine (len_c hA6).mono ?_
  rintro e w' ⟨rfl, rfl⟩
  go_wp2_with fail
  have hAx : ∀ x : CW W6, AR x.x ab S3 := fun x => hA6.ext x.h
  have hc1 : ∀ x : CW W6, x.x.cell? ⟨ab, 1, none⟩ = some (.slice (some ⟨S3.sb, 0, none⟩) S3.slots.length S3.slots.length) := fun x => (hAx x).c1
  have HAX := Lib.hid hAx
  clear hAx
  refine wp_region_cw (by kernel_rfl) (by kernel_rfl) (CW W6) Cls.x ⟨⟨_, (Fr.nil W6).drew⟩, rfl⟩ ?_
  repeat (go_big_quiet_step (((go_at_call 46; exact Calls.cls_same (len_c (HAX.out _))))))
  refine wpQuiet_nil ?_
  intro y
  have hAy := HAX.out y
  have hFy := hF6.ext y.h
  clear hc1 hA6 hF6 HAX
  have hret : Value.tuple #[.int .u32 ((S3.nodes.length : Int) - 1), .nilIface] = okV S.nodes.length := by
    unfold okV
    rw [show ((S3.nodes.length : Int) - 1) = (S.nodes.length : Int) by omega]
  have HRET := Lib.hid hret
  clear hret
  by_cases hgrow : S3.slots.length < 2 * S3.nodes.length
  · go_wp2_with fail
    refine (grow_c hAy hgrow (by have := HS3.out; have := HG.out.half; have := HG.out.big; omega) HN3.out).mono ?_
    rintro e w7 ⟨rfl, slots, sb, hsok, hslen, hA7, hF7⟩
    have HSL := Lib.hid hslen
    clear hslen
    go_wp2_with fail
    go_ret2
    refine ⟨by rw [← HRET.out]; rfl, S3.grown slots sb, HE3.out.1, HE3.out.2.1, HE3.out.2.2, ⟨hsok, HN3.out, ?_, ?_⟩, hA7, hFy.trans hF7⟩
    · have := HSL.out; have := HS3.out; have := HG.out.half; have := HG.out.big; rw [grown_slots, grown_nodes]; omega
    · have := HSL.out; have := HS3.out; have := HG.out.big; rw [grown_slots]; omega
  · go_wp2_with fail
    go_ret2
    refine ⟨by rw [← HRET.out]; rfl, S3, HE3.out.1, HE3.out.2.1, HE3.out.2.2, ⟨HG3.out, HN3.out, by omega, ?_⟩, hAy, hFy⟩
    have := HS3.out; have := HG.out.big; omega
end
end Go.Proofs.YtnkdbpjmepfblaaGreatDoor

/- The arena as a list of nodes: find, Leaf, Count of a leaf. -/
namespace Go.Proofs.YtnkdbpjmepfblaaGreatDoor
open Go Go.RowKit

structure Ar where
  nodes : List Nd
  empty : List Nat
  most : Nat
/-- The arena at ab, as data; o: the blocks that it owns. -/
def AW (w : World) (ab : Nat) (A : Ar) (o : List Nat) : Prop :=
  ∃ S : ArM, S.nodes = A.nodes ∧ S.empty = A.empty ∧ S.most = A.most ∧ GoodS S ∧ AR w ab S ∧ o = S.own ab
def encR : Except Nat Nat → Value
  | .ok i => okV i
  | .error c => errV c
def Ar.find (A : Ar) (key : Ky) (c : Nat) : Option (Except Nat Nat × Ar) :=
  match A.nodes.findIdx? (fun n => decide (n.key = key)) with
  | some i => some (.ok i, A)
  | none => if A.most ≤ A.nodes.length then some (.error 8, A) else
    if A.nodes.length + 1 < 4294967296 then some (.ok A.nodes.length, { A with nodes := A.nodes ++ [mkNd key c] }) else none

theorem Fr.widen {w w' : World} {o : List Nat} (h : Fr w [] w' []) (hl : ∀ b, b ∈ o → b < w.heap.size) : Fr w o w' o :=
  (Fr.refl w o hl).ext h
section
variable {w w' : World} {ab : Nat} {A : Ar} {o : List Nat}
theorem AW.lt (h : AW w ab A o) : ∀ b, b ∈ o → b < w.heap.size := by
  obtain ⟨S, _, _, _, _, hA, rfl⟩ := h
  exact hA.ownLt
theorem AW.ext (h : AW w ab A o) (e : Fr w [] w' []) : AW w' ab A o := by
  obtain ⟨S, h1, h2, h3, h4, hA, h5⟩ := h
  exact ⟨S, h1, h2, h3, h4, hA.ext e, h5⟩
theorem AW.same (h : AW w ab A o) (hk : ∀ b, b ∈ o → w'.heap[b]? = w.heap[b]?) : AW w' ab A o := by
  obtain ⟨S, h1, h2, h3, h4, hA, h5⟩ := h
  exact ⟨S, h1, h2, h3, h4, hA.same (by rw [← h5]; exact hk), h5⟩
theorem AW.alloc (h : AW w ab A o) (x : Obj) : AW (w.alloc x) ab A o := h.ext ((Fr.nil w).alloc x)
theorem AW.setNew (h : AW w ab A o) {a : Addr} (ha : a.block ∉ o) (v : Value) : AW (w.setCell a v) ab A o :=
  h.same fun b hb => World.heap_setCell_ne w a v b (fun e => ha (e ▸ hb))
theorem find_w (h : AW w ab A o) (key : Ky) (hk : key.ok) (c : Nat) (hc : c ≤ 4611686018427387904) {r : Except Nat Nat} {A' : Ar} (hf : A.find key c = some (r, A')) :
    Calls Tryz.prog 176 #[.pointer (some ⟨ab, 0, none⟩), key.val, .int .u64 c] w fun e w' => e = .returned (encR r) ∧ ∃ o', AW w' ab A' o' ∧ Fr w o w' o' := by
  obtain ⟨S, h1, h2, h3, hG, hA, rfl⟩ := h
  unfold Ar.find at hf
  cases hi : A.nodes.findIdx? (fun n => decide (n.key = key)) with
  | some i =>
    rw [hi] at hf
    simp only [Option.some.injEq, Prod.mk.injEq] at hf
    obtain ⟨rfl, rfl⟩ := hf
    have hlt : ∃ n, A.nodes[i]? = some n ∧ n.key = key := by
      rw [List.findIdx?_eq_some_iff_getElem] at hi
      obtain ⟨hl, hp, _⟩ := hi
      exact ⟨A.nodes[i], List.getElem?_eq_getElem hl, by simpa using hp⟩
    obtain ⟨n, hn, hk'⟩ := hlt
    refine (find_hit hA hG.sok hG.nd key hk c i n (by rw [h1]; exact hn) hk').mono ?_
    rintro e w' ⟨rfl, hf⟩
    exact ⟨rfl, _, ⟨S, h1, h2, h3, hG, hA.ext hf, rfl⟩, hf.widen hA.ownLt⟩
  | none =>
    rw [hi] at hf
    have hno : ∀ (i : Nat) (n : Nd), S.nodes[i]? = some n → n.key ≠ key := by
      intro i n hn
      rw [List.findIdx?_eq_none_iff] at hi
      have := hi n (by rw [← h1]; exact List.mem_of_getElem? hn)
      simpa using this
    simp only at hf
    split at hf
    · rename_i hm
      simp only [Option.some.injEq, Prod.mk.injEq] at hf
      obtain ⟨rfl, rfl⟩ := hf
      refine (find_full hA hG.sok key hk c hno (by rw [h1, h3]; exact hm)).mono ?_
      rintro e w' ⟨rfl, hf⟩
      exact ⟨rfl, _, ⟨S, h1, h2, h3, hG, hA.ext hf, rfl⟩, hf.widen hA.ownLt⟩
    · rename_i hm
      split at hf
      · rename_i hl
        simp only [Option.some.injEq, Prod.mk.injEq] at hf
        obtain ⟨rfl, rfl⟩ := hf
        refine (find_new hA hG key hk c hc hno (by rw [h1, h3]; omega) (by rw [h1]; exact hl)).mono ?_
        rintro e w' ⟨rfl, S', e1, e2, e3, hG', hA', hF⟩
        exact ⟨by rw [h1]; rfl, _, ⟨S', by rw [e1, h1], by rw [e2, h2], by rw [e3, h3], hG', hA', rfl⟩, hF⟩
      · cases hf
end

/-- How many bits are 1, as the loop counts them. -/
def popc (x : Nat) : Nat := if h : x = 0 then 0 else 1 + popc (x &&& (x - 1))
termination_by x
decreasing_by exact Nat.lt_of_le_of_lt Nat.and_le_right (by omega)

theorem and_even (y : Nat) (h : 0 < y) : (2 * y) &&& (2 * y - 1) = 2 * (y &&& (y - 1)) := by
  apply Nat.eq_of_testBit_eq
  intro i
  cases i with
  | zero => simp [Nat.testBit_zero]
  | succ i =>
    rw [Nat.testBit_and, Nat.testBit_succ, Nat.testBit_succ, Nat.testBit_succ, show 2 * y / 2 = y by omega, show (2 * y - 1) / 2 = y - 1 by omega,
      show 2 * (y &&& (y - 1)) / 2 = y &&& (y - 1) by omega, Nat.testBit_and]
theorem and_odd (y : Nat) : (2 * y + 1) &&& (2 * y) = 2 * y := by
  apply Nat.eq_of_testBit_eq
  intro i
  cases i with
  | zero => simp [Nat.testBit_zero]
  | succ i => rw [Nat.testBit_and, Nat.testBit_succ, Nat.testBit_succ, show (2 * y + 1) / 2 = y by omega, show 2 * y / 2 = y by omega, Bool.and_self]
theorem popc_zero : popc 0 = 0 := by rw [popc, dif_pos rfl]
theorem popc_even (y : Nat) : popc (2 * y) = popc y := by
  induction y using Nat.strongRecOn with
  | _ y ih =>
    by_cases h : y = 0
    · rw [h]
    · rw [popc, dif_neg (by omega), and_even y (by omega), ih _ (Nat.lt_of_le_of_lt Nat.and_le_right (by omega))]
      conv => rhs; rw [popc, dif_neg h]
theorem popc_odd (y : Nat) : popc (2 * y + 1) = 1 + popc y := by
  rw [popc, dif_neg (by omega), show 2 * y + 1 - 1 = 2 * y by omega, and_odd, popc_even]
theorem popc_le (n : Nat) : ∀ x, x < 2 ^ n → popc x ≤ n := by
  induction n with
  | zero => intro x hx; have : x = 0 := by simpa using hx
            rw [this, popc_zero]; omega
  | succ n ih =>
    intro x hx
    rw [Nat.pow_succ] at hx
    have h := ih (x / 2) (by omega)
    rcases Nat.mod_two_eq_zero_or_one x with h2 | h2
    · rw [show x = 2 * (x / 2) by omega, popc_even]; omega
    · rw [show x = 2 * (x / 2) + 1 by omega, popc_odd]; omega

set_option maxHeartbeats 400000 in
theorem leafCount_c (f : Nat) (hf : f < 4294967296) (w : World) :
    Calls Tryz.prog 190 #[.int .u32 f] w fun e w' => e = .returned (.int .i64 (popc f)) ∧ w = w' := by
  have hp : popc f ≤ 32 := popc_le 32 f (by simpa using hf)
  go_enter Tryz.func190, Tryz.ntmps190
  go_wp2_with fail
  go_loop [0, 3] (fun x n => ∃ g k : Nat, g ≤ f ∧ x = .int .u32 g ∧ n = .int .i64 k ∧ k + popc g = popc f) (fun x _ => (intOf x).toNat)
  case atStart => exact ⟨f, 0, Nat.le_refl _, rfl, rfl, by omega⟩
  case round =>
    obtain ⟨g, k, hg, rfl, rfl, hk⟩ := hrel
    have HK := Lib.hid hk
    clear hk
    by_cases h0 : g = 0
    · subst h0
      go_wp2_with fail
      go_ret
      have := HK.out
      rw [popc, dif_pos rfl] at this
      exact ⟨ret_int (by omega), rfl⟩
    · have hb : ((g : Int) != 0) = true := by simp; omega
      have he : bits .and .u32 (g : Int) ((g : Int) - 1) = ((g &&& (g - 1) : Nat) : Int) := by
        rw [show ((g : Int) - 1) = ((g - 1 : Nat) : Int) by omega]
        exact u32_and_nat g (g - 1) (by omega) (by omega)
      have hlt : g &&& (g - 1) < g := Nat.lt_of_le_of_lt Nat.and_le_right (by omega)
      have hk32 : k ≤ 32 := by have := HK.out; omega
      go_wp2_with fail
      go_round
      case rel => exact ⟨g &&& (g - 1), k + 1, by omega, by rw [← he], by go_num, by have := HK.out; rw [popc, dif_neg h0] at this; omega⟩
      case measure => simp only [intOf, Int.toNat_natCast]; exact hlt

def Ar.leaf (A : Ar) (f : Nat) : Option (Except Nat Nat × Ar) := A.find ⟨2, f, 0, 0, 0, 0⟩ (popc f)
theorem encR_cases (r : Except Nat Nat) : ∃ a b, encR r = .tuple #[a, b] ∧ encR r = .tuple #[a, b] := by cases r <;> exact ⟨_, _, rfl, rfl⟩
set_option maxHeartbeats 400000 in
theorem leaf_w {w : World} {ab : Nat} {A : Ar} {o : List Nat} (h : AW w ab A o) (f : Nat) (hf : f < 4294967296) {r : Except Nat Nat} {A' : Ar} (hl : A.leaf f = some (r, A')) :
    Calls Tryz.prog 160 #[.pointer (some ⟨ab, 0, none⟩), .int .u32 f] w fun e w' => e = .returned (encR r) ∧ ∃ o', AW w' ab A' o' ∧ Fr w o w' o' := by
  have hp : popc f ≤ 32 := popc_le 32 f (by simpa using hf)
  have hfw := find_w h ⟨2, f, 0, 0, 0, 0⟩ ⟨show (2 : Nat) < 100 by decide, hf, show (0 : Nat) < 4294967296 by decide, show (0 : Nat) < 4294967296 by decide, show (0 : Nat) < 4294967296 by decide, show (0 : Nat) < 4294967296 by decide⟩ (popc f) (by omega) hl
  have HFW := Lib.hid hfw
  clear hfw
  go_enter Tryz.func160, Tryz.ntmps160
  go_wp2_with (go_at_call 190; refine (leafCount_c f hf _).mono ?_; rintro e w' ⟨rfl, rfl⟩)
  refine HFW.out.mono ?_
  rintro e w1 ⟨rfl, hq⟩
  cases r with
  | ok i =>
    simp only [encR, okV]
    go_wp2_with fail
    go_ret2
    exact ⟨rfl, hq⟩
  | error c =>
    simp only [encR, errV]
    go_wp2_with fail
    go_ret2
    exact ⟨rfl, hq⟩
end Go.Proofs.YtnkdbpjmepfblaaGreatDoor

/- The arena: Join. -/
namespace Go.Proofs.YtnkdbpjmepfblaaGreatDoor
open Go Go.RowKit

def Ar.level (A : Ar) (i : Nat) : Int := match A.nodes[i]? with | some n => n.lv | none => -1
def Ar.bits (A : Ar) (i : Nat) : Nat := match A.nodes[i]? with | some n => n.bits | none => 0
def Ar.count (A : Ar) (i : Nat) : Nat := match A.nodes[i]? with | some n => n.cnt | none => 0
def Ar.kid (A : Ar) (i j : Nat) : Nat :=
  match A.nodes[i]? with
  | some n => (match j with | 0 => n.k0 | 1 => n.k1 | 2 => n.k2 | _ => n.k3)
  | none => 0

section
variable {w w' : World} {ab : Nat} {A : Ar} {o : List Nat}
theorem AW.len (h : AW w ab A o) : A.nodes.length < 4294967296 := by
  obtain ⟨S, h1, _, _, _, hA, _⟩ := h
  rw [← h1]; exact hA.nlen
theorem AW.nok (h : AW w ab A o) : ∀ n ∈ A.nodes, n.ok := by
  obtain ⟨S, h1, _, _, _, hA, _⟩ := h
  rw [← h1]; exact hA.nok
theorem has_w (h : AW w ab A o) (i : Nat) (hi : i < 4294967296) :
    Calls Tryz.prog 101 #[.pointer (some ⟨ab, 0, none⟩), .int .u32 i] w fun e w' => e = .returned (.bool (decide (i < A.nodes.length))) ∧ w = w' := by
  obtain ⟨S, h1, _, _, _, hA, _⟩ := h
  rw [← h1]; exact has_c hA i hi
theorem len_w (h : AW w ab A o) :
    Calls Tryz.prog 46 #[.pointer (some ⟨ab, 0, none⟩)] w fun e w' => e = .returned (.int .i64 A.nodes.length) ∧ w = w' := by
  obtain ⟨S, h1, _, _, _, hA, _⟩ := h
  rw [← h1]; exact len_c hA
theorem most_w (h : AW w ab A o) :
    Calls Tryz.prog 136 #[.pointer (some ⟨ab, 0, none⟩)] w fun e w' => e = .returned (.int .i64 A.most) ∧ w = w' := by
  obtain ⟨S, _, _, h1, _, hA, _⟩ := h
  rw [← h1]; exact most_c hA
theorem level_w (h : AW w ab A o) (i : Nat) (hi : i < 4294967296) :
    Calls Tryz.prog 47 #[.pointer (some ⟨ab, 0, none⟩), .int .u32 i] w fun e w' => e = .returned (.int .i64 (A.level i)) ∧ w = w' := by
  obtain ⟨S, h1, _, _, _, hA, _⟩ := h
  unfold Ar.level; rw [← h1]; exact level_c hA i hi
theorem bits_w (h : AW w ab A o) (i : Nat) (hi : i < 4294967296) :
    Calls Tryz.prog 162 #[.pointer (some ⟨ab, 0, none⟩), .int .u32 i] w fun e w' => e = .returned (.int .u32 (A.bits i)) ∧ w = w' := by
  obtain ⟨S, h1, _, _, _, hA, _⟩ := h
  unfold Ar.bits; rw [← h1]; exact bits_c hA i hi
theorem count_w (h : AW w ab A o) (i : Nat) (hi : i < 4294967296) :
    Calls Tryz.prog 38 #[.pointer (some ⟨ab, 0, none⟩), .int .u32 i] w fun e w' => e = .returned (.int .u64 (A.count i)) ∧ w = w' := by
  obtain ⟨S, h1, _, _, _, hA, _⟩ := h
  unfold Ar.count; rw [← h1]; exact count_c hA i hi
theorem kids_w (h : AW w ab A o) (i : Nat) (hi : i < 4294967296) :
    Calls Tryz.prog 150 #[.pointer (some ⟨ab, 0, none⟩), .int .u32 i] w fun e w' =>
      e = .returned (.agg #[.int .u32 (A.kid i 0), .int .u32 (A.kid i 1), .int .u32 (A.kid i 2), .int .u32 (A.kid i 3)]) ∧ Fr w [] w' [] := by
  obtain ⟨S, h1, _, _, _, hA, _⟩ := h
  unfold Ar.kid; rw [← h1]; exact kids_c hA i hi
end

/-- The kids of a key, by number. -/
structure K4 where
  a : Nat
  b : Nat
  c : Nat
  d : Nat
def K4.k (K : K4) : Nat → Nat | 0 => K.a | 1 => K.b | 2 => K.c | _ => K.d
def K4.ok (K : K4) : Prop := K.a < 4294967296 ∧ K.b < 4294967296 ∧ K.c < 4294967296 ∧ K.d < 4294967296
def K4.val (K : K4) : Value := .agg #[.int .u32 K.a, .int .u32 K.b, .int .u32 K.c, .int .u32 K.d]
def cap62 (n : Nat) : Nat := min n 4611686018427387904
/-- The first n kids are there, of one level; how many cells are below them. -/
def Ar.sum (A : Ar) (K : K4) : Nat → Nat
  | 0 => 0
  | n + 1 => cap62 (A.sum K n + A.count (K.k n))
def Ar.fits (A : Ar) (K : K4) (n : Nat) : Prop := K.k n < A.nodes.length ∧ A.level (K.k n) = A.level K.a
instance (A : Ar) (K : K4) (n : Nat) : Decidable (A.fits K n) := by unfold Ar.fits; infer_instance
def Ar.join (A : Ar) (K : K4) : Option (Except Nat Nat × Ar) :=
  if A.fits K 0 ∧ A.fits K 1 ∧ A.fits K 2 ∧ A.fits K 3 then
    if A.level K.a + 1 > 44 then some (.error 7, A) else A.find ⟨(A.level K.a + 1).toNat, 0, K.a, K.b, K.c, K.d⟩ (A.sum K 4)
  else some (.error 4, A)
theorem cap62_le (n : Nat) : cap62 n ≤ 4611686018427387904 := Nat.min_le_right _ _
theorem Ar.sum_le (A : Ar) (K : K4) (n : Nat) : A.sum K n ≤ 4611686018427387904 := by
  cases n with
  | zero => simp [Ar.sum]
  | succ n => exact cap62_le _
theorem idxK4 (K : K4) (k : Nat) (hk : k < 4) (w : World) :
    (Instr.index 155 (.agg #[.int .u32 K.a, .int .u32 K.b, .int .u32 K.c, .int .u32 K.d]) (.int .i64 (k : Int))).run Tryz.prog w = .ok (.int .u32 (K.k k)) w := by
  have := idx155 (fun k => (K.k k : Int)) k hk w
  exact this
theorem K4.kLt {K : K4} (h : K.ok) (k : Nat) (hk : k < 4) : K.k k < 4294967296 := by
  obtain ⟨h1, h2, h3, h4⟩ := h
  have hc : k = 0 ∨ k = 1 ∨ k = 2 ∨ k = 3 := by omega
  rcases hc with rfl | rfl | rfl | rfl <;> assumption
def KBox (K : K4) : Obj := .cells #[.int .u32 K.a, .int .u32 K.b, .int .u32 K.c, .int .u32 K.d] 155
theorem sum_fits {A : Ar} {K : K4} {n : Nat} (h : ∀ j, j < n → A.fits K j) (hn : ¬ A.fits K n) (hlt : n < 4) : A.join K = some (.error 4, A) := by
  unfold Ar.join
  rw [if_neg]
  rintro ⟨h0, h1, h2, h3⟩
  have hc : n = 0 ∨ n = 1 ∨ n = 2 ∨ n = 3 := by omega
  rcases hc with rfl | rfl | rfl | rfl <;> exact hn (by assumption)

set_option maxRecDepth 100000 in
set_option maxHeartbeats 1600000 in
theorem join_w {w : World} {ab : Nat} {A : Ar} {o : List Nat} (h : AW w ab A o) (K : K4) (hK : K.ok) {r : Except Nat Nat} {A' : Ar} (hj : A.join K = some (r, A')) :
    Calls Tryz.prog 125 #[.pointer (some ⟨ab, 0, none⟩), K.val] w fun e w' => e = .returned (encR r) ∧ ∃ o', AW w' ab A' o' ∧ Fr w o w' o' := by
  have hAW := h
  obtain ⟨S, e1, e2, e3, hG, hA, eo⟩ := h
  have HJ := Lib.hid hj
  have HK := Lib.hid hK
  have HAW := Lib.hid hAW
  have HE := Lib.hid e1
  have HEO := Lib.hid eo
  clear hj hK hAW e1 e2 e3 hG eo
  have hab := hA.abLt
  unfold K4.val
  go_enter Tryz.func125, Tryz.ntmps125
  go_wp2_with fail
  have hfr : Fr w [] (w.alloc (KBox K)) [] := (Fr.nil w).alloc _
  have HBX := Lib.hid (heap_new w (KBox K))
  unfold KBox at hfr HBX
  go_loopw [6, 11] (fun cv n wr => ∃ k : Nat, k ≤ 4 ∧ n = .int .i64 k ∧ cv = .int .u64 (A.sum K k) ∧ (∀ j, j < k → A.fits K j) ∧ Fr w [] wr [] ∧ wr.heap[w.heap.size]? = some (KBox K)) (fun _ n _ => 4 - (intOf n).toNat)
  case atStart => exact ⟨0, by omega, rfl, rfl, fun j hj => by omega, hfr, HBX.out⟩
  case round =>
    clear hfr HBX
    obtain ⟨k, hk, rfl, rfl, hfit, hfr, hbx⟩ := hrel
    have hA' := hA.ext hfr
    have HFIT := Lib.hid hfit
    clear hfit
    by_cases hk4 : k < 4
    · have ik : ∀ w, (Instr.index 155 (.agg #[.int .u32 K.a, .int .u32 K.b, .int .u32 K.c, .int .u32 K.d]) (.int .i64 (k : Int))).run Tryz.prog w = .ok (.int .u32 (K.k k)) w := fun w => idxK4 K k hk4 w
      have hkk := K4.kLt HK.out k hk4
      have hka : K.a < 4294967296 := HK.out.1
      go_wp2_with fail
      clear ik
      have hAx : ∀ x : CW wr, AR x.x ab S := fun x => hA'.ext x.h
      have hbxx : ∀ x : CW wr, x.x.heap[w.heap.size]? = some (KBox K) := fun x => by rw [x.h.keep _ (heap_lt hbx) (by simp)]; exact hbx
      have b0 : ∀ x : CW wr, x.x.cell? ⟨w.heap.size, 0, none⟩ = some (.int .u32 K.a) := fun x => cell_of_heap (hbxx x) 0
      by_cases hhas : K.k k < A.nodes.length
      · have hS : K.k k < S.nodes.length := by rw [HE.out]; exact hhas
        have hSa : K.a < S.nodes.length := by
          rcases Nat.eq_zero_or_pos k with h0 | h0
          · subst h0; exact hS
          · rw [HE.out]; exact (HFIT.out 0 h0).1
        obtain ⟨n, hn⟩ : ∃ n, S.nodes[K.k k]? = some n := ⟨_, List.getElem?_eq_getElem hS⟩
        obtain ⟨m, hm⟩ : ∃ m, S.nodes[K.a]? = some m := ⟨_, List.getElem?_eq_getElem hSa⟩
        have hc0 : ∀ x : CW wr, x.x.cell? ⟨ab, 0, none⟩ = some (.slice (some ⟨S.nb, 0, none⟩) S.nodes.length S.ncap) := fun x => (hAx x).c0' (by omega)
        have hn0 : ∀ x : CW wr, x.x.cell? ⟨S.nb, K.k k * 7, none⟩ = some (.int .i64 n.lv) := fun x => ((hAx x).node hn).1
        have hm0 : ∀ x : CW wr, x.x.cell? ⟨S.nb, K.a * 7, none⟩ = some (.int .i64 m.lv) := fun x => ((hAx x).node hm).1
        have hlev : A.level (K.k k) = n.lv ∧ A.level K.a = m.lv ∧ A.count (K.k k) = n.cnt := by
          unfold Ar.level Ar.count; rw [← HE.out, hn, hm]; exact ⟨rfl, rfl, rfl⟩
        have hnok := hA.nodeOk hn
        have hncnt : n.cnt < 4611686018427387905 := hnok.2.2.2.2.2.2
        have HLEV := Lib.hid hlev
        have HHAS : ∀ x : CW wr, Calls Tryz.prog 101 #[.pointer (some ⟨ab, 0, none⟩), .int .u32 (K.k k)] x.x fun e w' => e = .returned (.bool true) ∧ x.x = w' := fun x => has_t (hAx x) _ hS
        have HH := Lib.hid HHAS
        have HAX := Lib.hid hAx
        have HBXX := Lib.hid hbxx
        have HNN := Lib.hid (And.intro hn hm)
        clear hlev HHAS hAx hbxx hn hm hnok
        by_cases hfl : n.lv = m.lv
        · have hne : ((n.lv : Int) != (m.lv : Int)) = false := by simp [hfl]
          have HFL := Lib.hid hfl
          clear hfl
          refine wp_region_cw (by kernel_rfl) (by kernel_rfl) (CW wr) Cls.x ⟨⟨_, (Fr.nil wr).drew⟩, rfl⟩ ?_
          repeat (go_big_quiet_step (((go_at_call 101; exact Calls.cls_same (HH.out _)))))
          refine wpQuiet_nil ?_
          intro y
          have hc3 : ∀ x : CW wr, x.x.cell? ⟨S.nb, K.k k * 7 + 6, none⟩ = some (.int .u64 n.cnt) := fun x => ((HAX.out x).node HNN.out.1).2.2.2.2.2.2
          have hsl := A.sum_le K k
          go_wp2_with fail
          refine ⟨⟨k + 1, by omega, rfl, ?_, ?_, hfr.trans y.h, HBXX.out y⟩, by simp only [intOf]; omega⟩
          · simp only [Ar.sum, cap62, HLEV.out.2.2]
            congr 1; split <;> omega
          · intro j hj
            rcases Nat.lt_succ_iff_lt_or_eq.mp hj with h1 | rfl
            · exact HFIT.out j h1
            · exact ⟨hhas, by rw [HLEV.out.1, HLEV.out.2.1, HFL.out]⟩
        · have hne : ((n.lv : Int) != (m.lv : Int)) = true := by simp; omega
          have HFL := Lib.hid hfl
          clear hfl
          refine wp_region_cw (by kernel_rfl) (by kernel_rfl) (CW wr) Cls.x ⟨⟨_, (Fr.nil wr).drew⟩, rfl⟩ ?_
          repeat (go_big_quiet_step (((go_at_call 101; exact Calls.cls_same (HH.out _)))))
          refine wpQuiet_nil ?_
          intro y
          go_wp2_with fail
          have hno : A.join K = some (.error 4, A) := sum_fits HFIT.out (fun hf => HFL.out (by have := hf.2; rw [HLEV.out.1, HLEV.out.2.1] at this; exact_mod_cast this)) hk4
          have hj := HJ.out
          rw [hno] at hj
          obtain ⟨rfl, rfl⟩ : Except.error 4 = r ∧ A = A' := by simpa using hj
          have hf2 := hfr.trans y.h
          go_ret2
          exact ⟨rfl, o, HAW.out.ext hf2, hf2.widen HAW.out.lt⟩
      · have HH : ∀ x : CW wr, Calls Tryz.prog 101 #[.pointer (some ⟨ab, 0, none⟩), .int .u32 (K.k k)] x.x fun e w' => e = .returned (.bool false) ∧ x.x = w' := fun x => has_f (hAx x) _ hkk (by rw [HE.out]; omega)
        have HH := Lib.hid HH
        have HAX := Lib.hid hAx
        clear hAx hbxx
        refine wp_region_cw (by kernel_rfl) (by kernel_rfl) (CW wr) Cls.x ⟨⟨_, (Fr.nil wr).drew⟩, rfl⟩ ?_
        repeat (go_big_quiet_step (((go_at_call 101; exact Calls.cls_same (HH.out _)))))
        refine wpQuiet_nil ?_
        intro y
        go_wp2_with fail
        have hno : A.join K = some (.error 4, A) := sum_fits HFIT.out (fun hf => hhas hf.1) hk4
        have hj := HJ.out
        rw [hno] at hj
        obtain ⟨rfl, rfl⟩ : Except.error 4 = r ∧ A = A' := by simpa using hj
        have hf2 := hfr.trans y.h
        go_ret2
        exact ⟨rfl, o, HAW.out.ext hf2, hf2.widen HAW.out.lt⟩
    · have h4 : k = 4 := by omega
      subst h4
      have hSa : K.a < S.nodes.length := by rw [HE.out]; exact (HFIT.out 0 (by omega)).1
      obtain ⟨m, hm⟩ : ∃ m, S.nodes[K.a]? = some m := ⟨_, List.getElem?_eq_getElem hSa⟩
      have hml : A.level K.a = m.lv := by unfold Ar.level; rw [← HE.out, hm]
      have HML := Lib.hid hml
      have HM := Lib.hid hm
      have hka : K.a < 4294967296 := HK.out.1
      have hmok := hA.nodeOk hm
      have hmlv := hmok.1
      have HAX : ∀ x : CW wr, AR x.x ab S := fun x => hA'.ext x.h
      have HBXX : ∀ x : CW wr, x.x.heap[w.heap.size]? = some (KBox K) := fun x => by rw [x.h.keep _ (heap_lt hbx) (by simp)]; exact hbx
      have b0 : ∀ x : CW wr, x.x.cell? ⟨w.heap.size, 0, none⟩ = some (.int .u32 K.a) := fun x => cell_of_heap (HBXX x) 0
      have hc0 : ∀ x : CW wr, x.x.cell? ⟨ab, 0, none⟩ = some (.slice (some ⟨S.nb, 0, none⟩) S.nodes.length S.ncap) := fun x => (HAX x).c0' (by omega)
      have hm0 : ∀ x : CW wr, x.x.cell? ⟨S.nb, K.a * 7, none⟩ = some (.int .i64 m.lv) := fun x => ((HAX x).node hm).1
      have HAX' := Lib.hid HAX
      have HBXX' := Lib.hid HBXX
      clear hml hm hmok HAX HBXX
      go_wp2_with fail
      refine wp_region_cw (by kernel_rfl) (by kernel_rfl) (CW wr) Cls.x ⟨⟨_, (Fr.nil wr).drew⟩, rfl⟩ ?_
      repeat (go_big_quiet_step (fail))
      refine wpQuiet_nil ?_
      intro y
      have hall : A.fits K 0 ∧ A.fits K 1 ∧ A.fits K 2 ∧ A.fits K 3 := ⟨HFIT.out 0 (by omega), HFIT.out 1 (by omega), HFIT.out 2 (by omega), HFIT.out 3 (by omega)⟩
      have hf2 := hfr.trans y.h
      by_cases hbig : 44 < m.lv + 1
      · have hbi : (44 : Int) < (m.lv : Int) + 1 := by omega
        go_wp2_with fail
        have hj := HJ.out
        unfold Ar.join at hj
        rw [if_pos hall, if_pos (by rw [HML.out]; omega)] at hj
        obtain ⟨rfl, rfl⟩ : Except.error 7 = r ∧ A = A' := by simpa using hj
        go_ret2
        exact ⟨rfl, o, HAW.out.ext hf2, hf2.widen HAW.out.lt⟩
      · have hbi : ¬ (44 : Int) < (m.lv : Int) + 1 := by omega
        have hj := HJ.out
        unfold Ar.join at hj
        rw [if_pos hall, if_neg (by rw [HML.out]; omega)] at hj
        have hfw := find_w (HAW.out.ext hf2) ⟨(A.level K.a + 1).toNat, 0, K.a, K.b, K.c, K.d⟩ ⟨show (A.level K.a + 1).toNat < 100 by rw [HML.out]; omega, show (0 : Nat) < 4294967296 by decide, HK.out.1, HK.out.2.1, HK.out.2.2.1, HK.out.2.2.2⟩ (A.sum K 4) (A.sum_le K 4) hj
        rw [show (A.level K.a + 1).toNat = m.lv + 1 by rw [HML.out]; omega] at hfw
        have HFW := Lib.hid hfw
        have HJ2 := Lib.hid hj
        have HALL := Lib.hid hall
        clear hfw hj hall
        have b1 := cell_of_heap (HBXX'.out y) 1
        have b2 := cell_of_heap (HBXX'.out y) 2
        have b3 := cell_of_heap (HBXX'.out y) 3
        simp only [List.getElem?_toArray, List.getElem?_cons_zero, List.getElem?_cons_succ] at b1 b2 b3
        go_wp2_with fail
        refine HFW.out.mono ?_
        rintro e w1 ⟨rfl, o', h1, h2⟩
        have hq : ∃ o', AW w1 ab A' o' ∧ Fr w o w1 o' := ⟨o', h1, (hf2.widen HAW.out.lt).trans h2⟩
        clear b1 b2 b3 h1 h2
        cases r with
        | ok i =>
          simp only [encR, okV]
          go_wp2_with fail
          go_ret2
          exact ⟨rfl, hq⟩
        | error c =>
          simp only [encR, errV]
          go_wp2_with fail
          go_ret2
          exact ⟨rfl, hq⟩
end Go.Proofs.YtnkdbpjmepfblaaGreatDoor

/- The arena: Empty. -/
namespace Go.Proofs.YtnkdbpjmepfblaaGreatDoor
open Go Go.RowKit

def ArM.pushE (S : ArM) (x : Nat) (g cap : Nat) : ArM := { S with empty := S.empty ++ [x], ea := some g, ecap := cap }
section
variable {w w' : World} {ab : Nat} {S : ArM}
theorem AR.pushE (h : AR w ab S) {w1 : World} {x : Nat} {g cap : Nat} (hok : x < 4294967296) (hlen : S.empty.length + 1 < 4294967296)
    (hown : w1.ownsRow 0 29 1 (.slice (some ⟨g, 0, none⟩) (S.empty.length + 1) cap) (S.empty.length + 1) (S.empty.map u32 ++ [u32 x]))
    (hgr : w.grownBy w1 S.ev.ownBlock) (hg : S.ev.ownBlock = some g ∨ w.heap.size ≤ g) (hgl : g < w1.heap.size) :
    AR (w1.setCell ⟨ab, 2, none⟩ (.slice (some ⟨g, 0, none⟩) (S.empty.length + 1) cap)) ab (S.pushE x g cap) ∧
      Fr w (S.own ab) (w1.setCell ⟨ab, 2, none⟩ (.slice (some ⟨g, 0, none⟩) (S.empty.length + 1) cap)) ((S.pushE x g cap).own ab) := by
  rw [ArM.evOwn] at hgr hg
  have hd := h.nd
  simp only [ArM.own, List.nodup_cons, List.mem_cons, not_or] at hd
  obtain ⟨⟨d1, d2⟩, d3, d4⟩ := hd
  have keep : ∀ b, b < w.heap.size → S.ea ≠ some b → w1.heap[b]? = w.heap[b]? := fun b hb hn => hgr.block b hb (fun e => hn e.symm)
  have hab : S.ea ≠ some ab := fun e => d2 (by simp [e])
  have hsb : S.ea ≠ some S.sb := fun e => d3 (by simp [e])
  have hgab : g ≠ ab := by
    rcases hg with hg | hg
    · intro e; subst e; exact hab hg
    · have := h.abLt; omega
  have hgsb : g ≠ S.sb := by
    rcases hg with hg | hg
    · intro e; subst e; exact hsb hg
    · have := h.sbLt; omega
  have hgna : g ∉ S.na.toList := by
    rcases hg with hg | hg
    · intro e
      rw [hg] at d4
      have := (List.nodup_append.1 d4).2.2 g e g (by simp)
      exact this rfl
    · intro e
      have := h.ownLt g (by simp only [ArM.own, List.mem_cons, List.mem_append]; exact .inr (.inr (.inl e)))
      omega
  have hne : ∀ b, b ≠ ab → (w1.setCell ⟨ab, 2, none⟩ (.slice (some ⟨g, 0, none⟩) (S.empty.length + 1) cap)).heap[b]? = w1.heap[b]? := fun b hb => World.heap_setCell_ne _ _ _ _ hb
  have hA : AR (w1.setCell ⟨ab, 2, none⟩ (.slice (some ⟨g, 0, none⟩) (S.empty.length + 1) cap)) ab (S.pushE x g cap) := by
    refine ⟨?_, ?_, ?_, ?_, ?_, h.nok, h.sok, ?_, h.nlen, by simp [ArM.pushE]; omega, h.slen, h.mlen⟩
    · rw [heap_setCell_same _ _ _ _ _ _ (by rw [keep ab h.abLt hab]; exact h.hs)]
      simp [ArM.pushE, ArM.nv, ArM.ev, at0]
    · refine ownsRow_same h.hn fun b hb => ?_
      have hb' : S.nv.ownBlock = some b := hb
      rw [ArM.nvOwn] at hb'
      rw [hne b (fun e => d2 (by simp [← e, hb'])), keep b (h.ownLt b (by simp [ArM.own, hb']))]
      intro e
      rw [e, hb'] at d4
      simp at d4
    · show (w1.setCell _ _).heap[S.sb]? = some (.cells (S.slots.map u32).toArray 29 (0, 0))
      rw [hne _ (fun e => d1 e.symm), keep _ h.sbLt hsb]; exact h.hsl
    · have := ownsRow_same hown (w' := w1.setCell ⟨ab, 2, none⟩ (.slice (some ⟨g, 0, none⟩) (S.empty.length + 1) cap)) (fun b hb => by
        simp only [Value.ownBlock, Option.some.injEq] at hb
        exact hne b (by omega))
      simpa [ArM.pushE, ArM.ev, at0] using this
    · show (ab :: S.sb :: (S.na.toList ++ (some g).toList)).Nodup
      have hna : S.na.toList.Nodup := (List.nodup_append.1 d4).1
      simp only [Option.toList_some, List.nodup_cons, List.mem_cons, List.mem_append, List.not_mem_nil, or_false, not_or]
      refine ⟨⟨d1, fun e => d2 (by simp [List.mem_append, e]), fun e => hgab e.symm⟩, ⟨fun e => d3 (by simp [List.mem_append, e]), fun e => hgsb e.symm⟩, ?_⟩
      rw [List.nodup_append]
      refine ⟨hna, by simp, fun a ha b hb => ?_⟩
      simp only [List.mem_singleton] at hb
      subst hb
      intro e; subst e; exact hgna ha
    · intro m hm
      simp only [ArM.pushE, List.mem_append, List.mem_singleton] at hm
      rcases hm with hm | rfl
      · exact h.eok m hm
      · exact hok
  refine ⟨hA, ⟨hgr.os, hgr.tape, hgr.output, by simpa using hgr.size, ?_, ?_, hA.ownLt⟩⟩
  · intro b hb hn
    simp only [ArM.own, List.mem_cons, List.mem_append, not_or] at hn
    rw [hne b hn.1, keep b hb (fun e => hn.2.2.2 (by simp [e]))]
  · intro b hb
    simp only [ArM.own, ArM.pushE, List.mem_cons, List.mem_append, Option.toList_some, List.not_mem_nil, or_false] at hb ⊢
    rcases hb with rfl | rfl | hb | rfl
    · exact .inl (.inl rfl)
    · exact .inl (.inr (.inl rfl))
    · exact .inl (.inr (.inr (.inl hb)))
    · rcases hg with hg | hg
      · exact .inl (.inr (.inr (.inr (by simp [hg]))))
      · exact .inr hg
theorem AR.keepAbE (h : AR w ab S) {w1 : World} (hgr : w.grownBy w1 S.ev.ownBlock) : w1.heap[ab]? = w.heap[ab]? := by
  rw [ArM.evOwn] at hgr
  refine hgr.block ab h.abLt fun e => ?_
  have hd := h.nd
  simp only [ArM.own, List.nodup_cons, List.mem_cons, not_or] at hd
  exact hd.1.2 (by simp [← e])
end

def Ar.last (A : Ar) : Nat := A.empty[A.empty.length - 1]?.getD 0
def Ar.fillE (lev : Nat) : Nat → Ar → Option (Except Nat Nat × Ar)
  | 0, A => some (.ok (A.empty[lev]?.getD 0), A)
  | n + 1, A => match A.join ⟨A.last, A.last, A.last, A.last⟩ with
    | some (.ok j, A') => fillE lev n { A' with empty := A'.empty ++ [j] }
    | r => r
def Ar.mt (A : Ar) (lev : Int) : Option (Except Nat Nat × Ar) :=
  if lev < 2 then some (.error 4, A) else if 44 < lev then some (.error 7, A) else A.fillE lev.toNat (lev.toNat + 1 - A.empty.length)
/-- How many empties there are, in memory. -/
def emLen (w : World) (ab : Nat) : Nat := match w.cell? ⟨ab, 2, none⟩ with | some (.slice _ n _) => n | _ => 0
theorem AW.em {w : World} {ab : Nat} {A : Ar} {o : List Nat} (h : AW w ab A o) : emLen w ab = A.empty.length := by
  obtain ⟨S, _, h2, _, _, hA, _⟩ := h
  unfold emLen
  rw [hA.c2, ← h2]; first | done | rfl
theorem find_empty {A A' : Ar} {key : Ky} {c : Nat} {r : Except Nat Nat} (h : A.find key c = some (r, A')) : A'.empty = A.empty ∧ A'.most = A.most ∧ (∀ i, r = .ok i → i < 4294967296 ∨ A.nodes.length = A'.nodes.length) := by
  unfold Ar.find at h
  split at h
  · simp only [Option.some.injEq, Prod.mk.injEq] at h; obtain ⟨rfl, rfl⟩ := h; exact ⟨rfl, rfl, fun _ _ => .inr rfl⟩
  · split at h
    · simp only [Option.some.injEq, Prod.mk.injEq] at h; obtain ⟨rfl, rfl⟩ := h; exact ⟨rfl, rfl, fun _ _ => .inr rfl⟩
    · split at h
      · simp only [Option.some.injEq, Prod.mk.injEq] at h; obtain ⟨rfl, rfl⟩ := h
        exact ⟨rfl, rfl, fun i hi => .inl (by injection hi; omega)⟩
      · cases h
/-- What find finds is there. -/
theorem find_lt {A A' : Ar} {key : Ky} {c i : Nat} (h : A.find key c = some (.ok i, A')) : i < A'.nodes.length := by
  unfold Ar.find at h
  split at h
  · rename_i j hj
    simp only [Option.some.injEq, Prod.mk.injEq, Except.ok.injEq] at h; obtain ⟨rfl, rfl⟩ := h
    rw [List.findIdx?_eq_some_iff_getElem] at hj
    exact hj.1
  · split at h
    · simp at h
    · split at h
      · simp only [Option.some.injEq, Prod.mk.injEq, Except.ok.injEq] at h; obtain ⟨rfl, rfl⟩ := h; simp
      · cases h
theorem join_empty {A A' : Ar} {K : K4} {r : Except Nat Nat} (h : A.join K = some (r, A')) : A'.empty = A.empty ∧ A'.most = A.most := by
  unfold Ar.join at h
  split at h
  · split at h
    · simp only [Option.some.injEq, Prod.mk.injEq] at h; obtain ⟨rfl, rfl⟩ := h; exact ⟨rfl, rfl⟩
    · exact ⟨(find_empty h).1, (find_empty h).2.1⟩
  · simp only [Option.some.injEq, Prod.mk.injEq] at h; obtain ⟨rfl, rfl⟩ := h; exact ⟨rfl, rfl⟩
theorem join_lt {A A' : Ar} {K : K4} {i : Nat} (h : A.join K = some (.ok i, A')) : i < A'.nodes.length := by
  unfold Ar.join at h
  split at h
  · split at h
    · simp at h
    · exact find_lt h
  · simp at h

set_option maxRecDepth 100000 in
set_option maxHeartbeats 1600000 in
theorem empty_w {w : World} {ab : Nat} {A : Ar} {o : List Nat} (h : AW w ab A o) (hpos : 0 < A.empty.length) (lev : Int) (hlo : -9223372036854775808 ≤ lev) (hhi : lev < 9223372036854775808) {r : Except Nat Nat} {A' : Ar} (hj : A.mt lev = some (r, A')) :
    Calls Tryz.prog 63 #[.pointer (some ⟨ab, 0, none⟩), .int .i64 lev] w fun e w' => e = .returned (encR r) ∧ ∃ o', AW w' ab A' o' ∧ Fr w o w' o' := by
  have hAW := h
  obtain ⟨S, e1, e2, e3, hG, hA, eo⟩ := h
  have HJ := Lib.hid hj
  have HAW := Lib.hid hAW
  clear hj hAW e1 e2 e3 hG eo
  have hab := hA.abLt
  go_enter Tryz.func63, Tryz.ntmps63
  by_cases hl2 : lev < 2
  · go_wp2_with fail
    have hj := HJ.out
    unfold Ar.mt at hj
    rw [if_pos hl2] at hj
    obtain ⟨rfl, rfl⟩ : Except.error 4 = r ∧ A = A' := by simpa using hj
    go_ret2
    exact ⟨rfl, o, HAW.out, Fr.refl w o HAW.out.lt⟩
  by_cases hl4 : 44 < lev
  · go_wp2_with fail
    have hj := HJ.out
    unfold Ar.mt at hj
    rw [if_neg (by omega), if_pos hl4] at hj
    obtain ⟨rfl, rfl⟩ : Except.error 7 = r ∧ A = A' := by simpa using hj
    go_ret2
    exact ⟨rfl, o, HAW.out, Fr.refl w o HAW.out.lt⟩
  have hj := HJ.out
  unfold Ar.mt at hj
  rw [if_neg (by omega), if_neg (by omega)] at hj
  clear HJ hA
  obtain ⟨L, rfl⟩ : ∃ L : Nat, lev = L := ⟨lev.toNat, by omega⟩
  simp only [Int.toNat_natCast] at hj
  have HJ := Lib.hid hj
  clear hj
  go_wp2_with fail
  go_loopw [7] (fun _ wr => ∃ (A1 : Ar) (o1 : List Nat) (n : Nat), AW wr ab A1 o1 ∧ Fr w o wr o1 ∧ 0 < A1.empty.length ∧ n = L + 1 - A1.empty.length ∧ A1.fillE L n = some (r, A')) (fun _ w => L + 1 - emLen w ab)
  case atStart => exact ⟨A, o, _, HAW.out, Fr.refl w o HAW.out.lt, hpos, rfl, HJ.out⟩
  case round =>
    clear HJ HAW
    obtain ⟨A1, o1, n, hAW, hF, hpos, hn, hj⟩ := hrel
    have hAW1 := hAW
    obtain ⟨S, e1, e2, e3, hG, hA, eo⟩ := hAW
    have hposS : 0 < S.empty.length := by rw [e2]; exact hpos
    have HJ := Lib.hid hj
    have HN := Lib.hid hn
    have HAW := Lib.hid hAW1
    have HE2 := Lib.hid e2
    have HEO := Lib.hid eo
    have HE1 := Lib.hid e1
    have HE3 := Lib.hid e3
    have HG := Lib.hid hG
    clear hj hn hAW1 e2 eo e1 e3 hG
    have hel := hA.elen
    have hc2 := hA.c2' hposS
    by_cases hc : S.empty.length ≤ L
    · go_wp2_with fail
      obtain ⟨x, hx⟩ : ∃ x, S.empty[S.empty.length - 1]? = some x := ⟨_, List.getElem?_eq_getElem (by omega)⟩
      have hxl : x < 4294967296 := hA.eok x (List.mem_of_getElem? hx)
      have hlast : A1.last = x := by unfold Ar.last; rw [← HE2.out, hx]; rfl
      have HLAST := Lib.hid hlast
      have hA' : ∀ y : CW wr, AR y.x ab S := fun y => hA.ext y.h
      have hc2x : ∀ y : CW wr, y.x.cell? ⟨ab, 2, none⟩ = some (.slice (some ⟨S.eb, 0, none⟩) S.empty.length S.ecap) := fun y => (hA' y).c2' hposS
      have hx2 : ∀ y : CW wr, y.x.cell? ⟨S.eb, S.empty.length - 1, none⟩ = some (.int .u32 x) := fun y => (hA' y).emp hx
      have HAX := Lib.hid hA'
      have HX := Lib.hid hx
      clear hlast hA' hx hc2
      refine wp_region_cw (by kernel_rfl) (by kernel_rfl) (CW wr) Cls.x ⟨⟨_, (Fr.nil wr).drew⟩, rfl⟩ ?_
      repeat (go_big_quiet_step (fail))
      refine wpQuiet_nil ?_
      intro y
      go_wp2_with fail
      have hyw : Fr wr [] y.x [] := y.h
      have hA3 : AR y.x ab S := HAX.out y
      generalize y.x = W at *
      clear y HAX hx2 hc2x
      have hFW := hF.ext hyw
      have hAW3 := HAW.out.ext hyw
      clear hF hyw hA
      -- the call of Join
      obtain ⟨m, hm⟩ : ∃ m, n = m + 1 := ⟨n - 1, by
        have h1 := HN.out
        have h2 := congrArg List.length HE2.out
        omega⟩
      have hj := HJ.out
      rw [hm] at hj
      unfold Ar.fillE at hj
      rw [HLAST.out] at hj
      obtain ⟨q, hq⟩ : ∃ q, q = A1.join ⟨x, x, x, x⟩ := ⟨_, rfl⟩
      rw [← hq] at hj
      cases q with
      | none => cases hj
      | some ra =>
        obtain ⟨r1, A2⟩ := ra
        have hjw := join_w hAW3 ⟨x, x, x, x⟩ ⟨hxl, hxl, hxl, hxl⟩ hq.symm
        have hem := join_empty hq.symm
        have HM := Lib.hid hm
        have HEM := Lib.hid hem
        have HQ := Lib.hid hq
        have HJW := Lib.hid hjw
        clear hm hem hjw hq
        refine HJW.out.mono ?_
        rintro e w2 ⟨rfl, o2, hAW2, hF2⟩
        cases r1 with
        | error c =>
          simp only at hj
          obtain ⟨rfl, rfl⟩ : Except.error c = r ∧ A2 = A' := by simpa using hj
          simp only [encR, errV]
          go_wp2_with fail
          go_ret2
          exact ⟨rfl, o2, hAW2, hFW.trans hF2⟩
        | ok j =>
          simp only at hj
          simp only [encR, okV]
          have HJ2 := Lib.hid hj
          clear hj
          obtain ⟨S2, e1, e2, e3, hG, hA, eo⟩ := hAW2
          have hel2 := hA.elen
          have e22 : S2.empty.length = S.empty.length := by rw [e2, HEM.out.1, HE2.out]
          have HE22 := Lib.hid e22
          have HEE2 := Lib.hid e2
          have HEE1 := Lib.hid e1
          have HEE3 := Lib.hid e3
          have HEO2 := Lib.hid eo
          have HG2 := Lib.hid hG
          have hpos2 : 0 < S2.empty.length := by omega
          clear e1 e2 e3 eo e22 hG
          have hc2 := hA.c2
          have hjl : j < 4294967296 := Nat.lt_trans (join_lt HQ.out.symm) (by have := HEE1.out; rw [← this]; exact hA.nlen)
          have hAz := hA.alloc (.cells #[.int .u32 j] 29)
          have hnew := heap_new w2 (.cells #[.int .u32 j] 29)
          obtain ⟨i0, hi0, hz0, hz1, hz2⟩ := info_parts info29
          go_wp2_with (at_builtin; refine wpList_append_where _ rfl (.tmp 53) (.tmp 55) 116 rfl 29 i0 _ 1 4 Tryz.underlying116 hi0 hz0 hz1 hz2 rfl (by decide) _ _ _ rfl hAz.he ⟨w2.heap.size, 0, none⟩ 1 1 [Value.int .u32 (j : Int)] rfl rfl ?c1 ?c2 (by decide) ?c3 ?c4 ?_)
          case c1 =>
            intro i u hu
            have hj : i < 1 := (List.getElem?_eq_some_iff.1 hu).1
            have ha : (({ block := w2.heap.size, off := 0 } : Addr).add i) = ⟨w2.heap.size, i, none⟩ := by unfold Addr.add; split <;> simp_all
            rw [ha, cell_of_heap hnew]
            show (List.toArray [Value.int .u32 (j : Int)])[i]? = some u
            rw [List.getElem?_toArray]; exact hu
          case c2 => intro u hu; simp only [List.mem_cons, List.not_mem_nil, or_false] at hu; subst hu; rfl
          case c3 => unfold maxLen; omega
          case c4 => omega
          intro g cap w4 hown hgr hg hgl
          have hP := hAz.pushE (x := j) hjl (by have := HE22.out; omega) hown hgr (hg.imp id (fun h => by simpa using h)) hgl
          have hkab : w4.heap[ab]? = _ := (hAz.keepAbE hgr).trans hAz.hs
          have hcab : w4.cell? ⟨ab, 2, none⟩ = some S2.ev := by rw [cell_of_heap hkab]; rfl
          have hfab : w4.frozen? ⟨ab, 2, none⟩ = false := frozen_of_row w4 ab 2 _ _ hkab
          have hPA := hP.1
          have hPF := hP.2
          have HFz : Fr w2 (S2.own ab) (w2.alloc (.cells #[.int .u32 j] 29)) (S2.own ab) := (Fr.own_of hA).ext ((Fr.nil w2).alloc _)
          clear hkab hP hown hgr hg hgl hAz hnew hA
          go_wp2_with fail
          refine ⟨⟨{ A2 with empty := A2.empty ++ [j] }, _, m, ⟨S2.pushE j g cap, HEE1.out, by simp only [ArM.pushE, HEE2.out], HEE3.out, ⟨HG2.out.sok, HG2.out.nd, HG2.out.half, HG2.out.big⟩, hPA, rfl⟩, ?_, by simp, ?_, HJ2.out⟩, ?_⟩
          · exact (hFW.trans hF2).trans (by rw [HEO2.out]; exact HFz.trans hPF)
          · have h1 := HN.out
            have h2 := HM.out
            have h3 := congrArg List.length HEM.out.1
            have h4 := congrArg List.length HE2.out
            simp only [List.length_append, List.length_cons, List.length_nil]
            omega
          · have h5 : emLen wr ab = S.empty.length := by rw [HAW.out.em, HE2.out]
            have h6 : emLen (w4.setCell ⟨ab, 2, none⟩ (.slice (some ⟨g, 0, none⟩) (S2.empty.length + 1) cap)) ab = S2.empty.length + 1 := by
              unfold emLen
              rw [hPA.c2]
              simp [ArM.pushE]
            rw [h5, h6, HE22.out]
            omega
    · obtain ⟨x, hx⟩ : ∃ x, S.empty[L]? = some x := ⟨_, List.getElem?_eq_getElem (by omega)⟩
      have hx2 := hA.emp hx
      have HX := Lib.hid hx
      clear hx
      have hlt : L < S.empty.length := by omega
      go_wp2_with fail
      have hj := HJ.out
      have hn0 : n = 0 := by have := HN.out; have := congrArg List.length HE2.out; omega
      rw [hn0] at hj
      unfold Ar.fillE at hj
      rw [← HE2.out, HX.out] at hj
      obtain ⟨rfl, rfl⟩ : Except.ok x = r ∧ A1 = A' := by simpa using hj
      go_ret2
      exact ⟨rfl, o1, HAW.out, hF⟩
end Go.Proofs.YtnkdbpjmepfblaaGreatDoor
