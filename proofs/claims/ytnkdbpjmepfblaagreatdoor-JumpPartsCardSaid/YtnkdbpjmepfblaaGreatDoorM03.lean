/- Texts of the walk and its plain law, merged: ArC. -/
import Derived.Test.YtnkdbpjmepfblaaGreatDoorM01
import Derived.Test.YtnkdbpjmepfblaaGreatDoorM02
/- The arena: grow. -/
namespace Go.Proofs.YtnkdbpjmepfblaaGreatDoor
open Go Go.RowKit
theorem info29 : (Tryz.prog.info? 29).map (fun i => (i.zero, i.size, i.bytes)) = some (some (.int .u32 0), 1, 4) := by kernel_rfl
theorem info157 : (Tryz.prog.info? 157).map (fun i => (i.zero, i.size, i.bytes)) = some (some (.agg #[.int .i64 0, .int .u32 0, .int .u32 0, .int .u32 0, .int .u32 0, .int .u32 0, .int .u64 0]), 7, 40) := by kernel_rfl
theorem madeCells_one (z : Value) (n : Nat) : madeCells #[z] n = (List.replicate n z).toArray := by
  apply Array.ext
  · simp [madeCells]
  · intro i h1 h2; simp [madeCells, Nat.mod_one]
theorem make116 (n : Nat) (hn : n ≤ 17179869184) (w : World) : (Instr.makeSlice 116 (.int .i64 (n : Int)) (.int .i64 (n : Int))).run Tryz.prog w =
    .ok (.slice (some ⟨w.heap.size, 0, none⟩) n n) (w.alloc (.cells (((List.replicate n 0).map u32).toArray) 29)) := by
  obtain ⟨i, hi, h1, h2, h3⟩ := info_parts info29
  have := run_make w 116 29 i _ Tryz.underlying116 hi h1 .i64 .i64 (n : Int) (n : Int) (by omega) (Int.le_refl _) (by rw [h3]; omega) (by omega)
  rw [this, h2]
  simp only [Int.toNat_natCast, Value.cells, Nat.mul_one, madeCells_one, List.map_replicate]
  rfl

abbrev CW (W : World) : Type := Cls (fun x => Fr W [] x [])
theorem Calls.cls {P : Program} {f : FuncId} {args : Array Value} {W : World} {y : CW W} {v : Value} (h : Calls P f args y.x fun e w' => e = .returned v ∧ Fr y.x [] w' []) :
    Calls P f args y.x fun e w' => e = .returned v ∧ ∃ z : CW W, w' = z.x :=
  h.mono fun _ w' ⟨he, hf⟩ => ⟨he, ⟨w', Fr.trans y.h hf⟩, rfl⟩
theorem Calls.cls_same {P : Program} {f : FuncId} {args : Array Value} {W : World} {y : CW W} {v : Value} (h : Calls P f args y.x fun e w' => e = .returned v ∧ y.x = w') :
    Calls P f args y.x fun e w' => e = .returned v ∧ ∃ z : CW W, w' = z.x :=
  h.mono fun _ _w' ⟨he, hf⟩ => ⟨he, y, hf.symm⟩
instance (W : World) : Nonempty (CW W) := ⟨⟨W, Fr.nil W⟩⟩
def ArM.grown (S : ArM) (slots : List Nat) (sb : Nat) : ArM := { S with slots := slots, sb := sb }
theorem grown_nb (S : ArM) (l : List Nat) (b : Nat) : (S.grown l b).nb = S.nb := rfl
theorem grown_eb (S : ArM) (l : List Nat) (b : Nat) : (S.grown l b).eb = S.eb := rfl
theorem grown_sb (S : ArM) (l : List Nat) (b : Nat) : (S.grown l b).sb = b := rfl
theorem grown_slots (S : ArM) (l : List Nat) (b : Nat) : (S.grown l b).slots = l := rfl
theorem grown_nodes (S : ArM) (l : List Nat) (b : Nat) : (S.grown l b).nodes = S.nodes := rfl
theorem grown_grown (S : ArM) (l l' : List Nat) (b b' : Nat) : (S.grown l b).grown l' b' = S.grown l' b' := rfl
def zeroSlots (n : Nat) : Array Value := ((List.replicate n 0).map u32).toArray
theorem make116' (n : Nat) (hn : n ≤ 17179869184) (w : World) : (Instr.makeSlice 116 (.int .i64 (n : Int)) (.int .i64 (n : Int))).run Tryz.prog w =
    .ok (.slice (some ⟨w.heap.size, 0, none⟩) n n) (w.alloc (.cells (zeroSlots n) 29)) := make116 n hn w

theorem ArM.nvOwn (S : ArM) : S.nv.ownBlock = S.na := by unfold ArM.nv; cases S.na <;> rfl
theorem ArM.evOwn (S : ArM) : S.ev.ownBlock = S.ea := by unfold ArM.ev; cases S.ea <;> rfl
section
variable {w w' : World} {ab : Nat} {S : ArM}
theorem AR.upd (h : AR w ab S) {slots : List Nat} {sb : Nat}
    (hs : w'.heap[ab]? = some (.cells #[S.nv, .slice (some ⟨sb, 0, none⟩) slots.length slots.length, S.ev, .int .i64 S.most] 160 (0, 0)))
    (hsl : w'.heap[sb]? = some (.cells (slots.map u32).toArray 29 (0, 0)))
    (hk : ∀ b, b ∈ S.na.toList ++ S.ea.toList → w'.heap[b]? = w.heap[b]?) (hnew : sb ∉ ab :: (S.na.toList ++ S.ea.toList))
    (sok : ∀ s ∈ slots, s < 4294967296) (slen : slots.length ≤ 17179869184) : AR w' ab (S.grown slots sb) := by
  refine ⟨hs, ownsRow_same h.hn fun b hb => hk b ?_, hsl, ownsRow_same h.he fun b hb => hk b ?_, ?_, h.nok, sok, h.eok, h.nlen, h.elen, slen, h.mlen⟩
  · have hb' : S.nv.ownBlock = some b := hb
    rw [ArM.nvOwn] at hb'; simp [hb']
  · have hb' : S.ev.ownBlock = some b := hb
    rw [ArM.evOwn] at hb'; simp [hb']
  · have hd := h.nd
    simp only [ArM.own, ArM.grown, List.nodup_cons, List.mem_cons, not_or] at hd hnew ⊢
    exact ⟨⟨fun e => hnew.1 e.symm, hd.1.2⟩, hnew.2, hd.2.2⟩
theorem AR.setSlot (h : AR w ab S) (p v : Nat) (hv : v < 4294967296) : AR (w.setCell ⟨S.sb, p, none⟩ (.int .u32 v)) ab (S.grown (S.slots.set p v) S.sb) := by
  have hd := h.nd
  simp only [ArM.own, List.nodup_cons, List.mem_cons, not_or] at hd
  have hsz := h.slen
  refine h.upd ?_ ?_ ?_ ?_ ?_ (by simpa using hsz)
  · rw [World.heap_setCell_ne _ _ _ _ (fun e => hd.1.1 e)]
    simp only [List.length_set]; exact h.hs
  · rw [heap_setCell_same _ _ _ _ _ _ h.hsl]
    simp [List.map_set, u32]
  · intro b hb
    exact World.heap_setCell_ne _ _ _ _ (fun e => hd.2.1 (by have e' : b = S.sb := e; rw [← e']; exact hb))
  · simp only [List.mem_cons, not_or]; exact ⟨fun e => hd.1.1 e.symm, hd.2.1⟩
  · intro s hs
    rcases List.mem_or_eq_of_mem_set hs with h1 | h1
    · exact h.sok s h1
    · omega
theorem AR.fzA (h : AR w ab S) (k : Nat) : w.frozen? ⟨ab, k, none⟩ = false := frozen_of_row w ab k _ _ h.hs
theorem AR.fzS (h : AR w ab S) (k : Nat) : w.frozen? ⟨S.sb, k, none⟩ = false := frozen_of_row w S.sb k _ _ h.hsl
theorem Fr.own_of (h : AR w ab S) : Fr w (S.own ab) w (S.own ab) := Fr.refl w _ h.ownLt
end

set_option maxRecDepth 100000 in
set_option maxHeartbeats 800000 in
theorem grow_c {w : World} {ab : Nat} {S : ArM} (h : AR w ab S) (hlen : S.slots.length < 2 * S.nodes.length) (hroom : S.nodes.length < 2 * S.slots.length) (hnd : NodupK S.nodes) :
    Calls Tryz.prog 217 #[.pointer (some ⟨ab, 0, none⟩)] w fun e w' => e = .returned (.tuple #[]) ∧ ∃ slots sb, SOK S.nodes slots S.nodes.length ∧ slots.length = 2 * S.slots.length ∧
      AR w' ab (S.grown slots sb) ∧ Fr w (S.own ab) w' ((S.grown slots sb).own ab) := by
  have h0 := h.c0' (by omega)
  have h1 := h.c1
  have hl := h.nlen
  have hlt := h.abLt
  have hfz := h.fzA 1
  have hmk := make116' (2 * S.slots.length) (by omega)
  have e2 : ((2 * S.slots.length : Nat) : Int) = 2 * (S.slots.length : Int) := by omega
  rw [e2] at hmk
  clear e2
  have HN := Lib.hid hnd
  clear hnd
  go_enter Tryz.func217, Tryz.ntmps217
  go_wp2_with fail
  have hgoal : AR ((w.setCell ⟨ab, 1, none⟩ (.slice (some ⟨w.heap.size, 0, none⟩) (2 * S.slots.length) (2 * S.slots.length))).alloc (.cells (zeroSlots (2 * S.slots.length)) 29)) ab
      (S.grown (List.replicate (2 * S.slots.length) 0) w.heap.size) := by
    have hd := h.nd
    have hno := h.notOwn (Nat.le_refl w.heap.size)
    simp only [ArM.own, List.nodup_cons, List.mem_cons, not_or] at hd hno
    refine h.upd ?_ ?_ ?_ ?_ ?_ (by simp; omega)
    · rw [Below.heap_alloc _ _ _ (by simpa using hlt), heap_setCell_same _ _ _ _ _ _ h.hs]
      simp
    · have := heap_new (w.setCell ⟨ab, 1, none⟩ (.slice (some ⟨w.heap.size, 0, none⟩) (2 * S.slots.length) (2 * S.slots.length))) (.cells (zeroSlots (2 * S.slots.length)) 29)
      simp only [World.size_setCell] at this
      exact this
    · intro b hb
      have hbl : b < w.heap.size := h.ownLt b (by simp only [ArM.own, List.mem_cons]; exact .inr (.inr hb))
      rw [Below.heap_alloc _ _ _ (by simpa using hbl)]
      exact World.heap_setCell_ne _ _ _ _ (fun e => hd.1.2 (by have e' : b = ab := e; rw [← e']; exact hb))
    · simp only [List.mem_cons, not_or]; exact ⟨hno.1, hno.2.2⟩
    · intro s hs; have := List.eq_of_mem_replicate hs; omega
  have hfr : Fr w (S.own ab) ((w.setCell ⟨ab, 1, none⟩ (.slice (some ⟨w.heap.size, 0, none⟩) (2 * S.slots.length) (2 * S.slots.length))).alloc (.cells (zeroSlots (2 * S.slots.length)) 29))
      ((S.grown (List.replicate (2 * S.slots.length) 0) w.heap.size).own ab) := by
    refine ⟨rfl, rfl, rfl, by simp, ?_, ?_, hgoal.ownLt⟩
    · intro b hb hn
      rw [Below.heap_alloc _ _ _ (by simpa using hb)]
      exact World.heap_setCell_ne _ _ _ _ (fun e => hn (by have e' : b = ab := e; rw [e']; simp [ArM.own]))
    · intro b hb
      simp only [ArM.own, ArM.grown, List.mem_cons] at hb ⊢
      rcases hb with rfl | rfl | hb
      · exact .inl (.inl rfl)
      · exact .inr (Nat.le_refl _)
      · exact .inl (.inr (.inr hb))
  have hsok : SOK S.nodes (List.replicate (2 * S.slots.length) 0) 0 := SOK.zero _ _ (by omega)
  go_loopw [19] (fun ix wr => ∃ (k : Nat) (slots : List Nat) (sb : Nat), k ≤ S.nodes.length ∧ ix = .int .i64 k ∧ SOK S.nodes slots k ∧ slots.length = 2 * S.slots.length ∧
    AR wr ab (S.grown slots sb) ∧ Fr w (S.own ab) wr ((S.grown slots sb).own ab)) (fun ix _ => S.nodes.length - (intOf ix).toNat)
  case atStart => exact ⟨0, _, _, by omega, rfl, hsok, by simp, hgoal, hfr⟩
  case round =>
    clear hgoal hfr hsok h0 h1 hmk hfz
    obtain ⟨k, slots, sb, hk, rfl, hsok, hsl, hA, hF⟩ := hrel
    by_cases hkn : k < S.nodes.length
    · have hn := List.getElem?_eq_getElem hkn
      obtain ⟨c0, c1, c2, c3, c4, c5, c6⟩ := hA.node (S := S.grown slots sb) hn
      have hnok := hA.nodeOk (S := S.grown slots sb) hn
      generalize S.nodes[k] = n at *
      have HN1 := Lib.hid hn
      have HSL := Lib.hid hsl
      clear hn hsl
      have hw1 := hA.abLt
      have hw2 := hA.nbLt (by show 0 < S.nodes.length; omega)
      simp only [grown_nb] at c0 c1 c2 c3 c4 c5 c6 hw2
      obtain ⟨n1, n2, n3, n4, n5, n6, n7⟩ := hnok
      obtain ⟨d, hd, hp, hs⟩ := probe_ex hsok n.key
      have hz : slots[(n.key.home slots.length + d) % slots.length]? = some 0 := by
        rcases hs with hs | ⟨s, m, hs1, hs2, hs3⟩
        · exact hs
        · have := hsok.nz _ _ hs1
          have := HN.out s k m n hs2 HN1.out hs3
          omega
      have hpm : (n.key.home slots.length + d) % slots.length < slots.length := Nat.mod_lt _ hsok.pos
      have hslen := hA.slen
      simp only [grown_slots] at hslen
      have HZ := Lib.hid hz
      have HS := Lib.hid hs
      have HP := Lib.hid hp
      clear hz hs hp
      go_wp2_with fail
      obtain ⟨W, hW⟩ : ∃ W, W = wr.alloc (Obj.cells #[.int .i64 n.lv, .int .u32 n.bits, .int .u32 n.k0, .int .u32 n.k1, .int .u32 n.k2, .int .u32 n.k3, .int .u64 n.cnt] 157) := ⟨_, rfl⟩
      have hAW : AR W ab (S.grown slots sb) := hW ▸ hA.alloc _
      have hFW : Fr w (S.own ab) W ((S.grown slots sb).own ab) := hW ▸ hF.alloc _
      have hbx : W.heap[wr.heap.size]? = some (.cells #[.int .i64 n.lv, .int .u32 n.bits, .int .u32 n.k0, .int .u32 n.k1, .int .u32 n.k2, .int .u32 n.k3, .int .u64 n.cnt] 157) := hW ▸ heap_new _ _
      rw [← hW]
      clear hW hA hF c0 c1 c2 c3 c4 c5 c6
      have hAx : ∀ x : CW W, AR x.x ab (S.grown slots sb) := fun x => hAW.ext x.h
      have hc1 : ∀ x : CW W, x.x.cell? ⟨ab, 1, none⟩ = some (.slice (some ⟨sb, 0, none⟩) slots.length slots.length) := fun x => (hAx x).c1
      have hbl := heap_lt hbx
      have hbxx : ∀ x : CW W, x.x.heap[wr.heap.size]? = some (.cells #[.int .i64 n.lv, .int .u32 n.bits, .int .u32 n.k0, .int .u32 n.k1, .int .u32 n.k2, .int .u32 n.k3, .int .u64 n.cnt] 157) :=
        fun x => by rw [x.h.keep _ hbl (by simp)]; exact hbx
      have b0 : ∀ x : CW W, x.x.cell? ⟨wr.heap.size, 0, none⟩ = some (.int .i64 n.lv) := fun x => cell_of_heap (hbxx x) 0
      have b1 : ∀ x : CW W, x.x.cell? ⟨wr.heap.size, 1, none⟩ = some (.int .u32 n.bits) := fun x => cell_of_heap (hbxx x) 1
      have b2 : ∀ x : CW W, x.x.cell? ⟨wr.heap.size, 2, none⟩ = some (.int .u32 n.k0) := fun x => cell_of_heap (hbxx x) 2
      have b3 : ∀ x : CW W, x.x.cell? ⟨wr.heap.size, 3, none⟩ = some (.int .u32 n.k1) := fun x => cell_of_heap (hbxx x) 3
      have b4 : ∀ x : CW W, x.x.cell? ⟨wr.heap.size, 4, none⟩ = some (.int .u32 n.k2) := fun x => cell_of_heap (hbxx x) 4
      have b5 : ∀ x : CW W, x.x.cell? ⟨wr.heap.size, 5, none⟩ = some (.int .u32 n.k3) := fun x => cell_of_heap (hbxx x) 5
      have hslot := fun x : CW W => slot_c (hAx x) n.key ⟨n1, n2, n3, n4, n5, n6⟩ d hsok.pos hd HP.out HS.out
      simp only [grown_slots] at hslot
      generalize hpp : (n.key.home slots.length + d) % slots.length = p at *
      have HPP := Lib.hid hpp
      have HBX := Lib.hid hbx
      have HBXX := Lib.hid hbxx
      have HSLOT := Lib.hid hslot
      clear hpp hbx hbxx hslot
      refine wp_region_tail 17 (by kernel_rfl) (by kernel_rfl) (CW W) Cls.x ⟨⟨_, (Fr.nil W).drew⟩, rfl⟩ ?_
      simp only [List.take_succ_cons, List.take_zero, List.drop_succ_cons, List.drop_zero]
      repeat (go_big_quiet_step (((go_at_call 216; exact Calls.cls (HSLOT.out _)))))
      refine wpQuiet_nil ?_
      intro y
      have hAy := hAx y
      have hcell : y.x.cell? ⟨sb, p, none⟩ = some (.int .u32 (0 : Int)) := hAy.slot (S := S.grown slots sb) HZ.out
      have hfz : y.x.frozen? ⟨sb, p, none⟩ = false := hAy.fzS p
      go_wp2_with fail
      have hAn := hAy.setSlot p (k + 1) (by omega)
      have hF1 : Fr w (S.own ab) y.x ((S.grown slots sb).own ab) := hFW.ext y.h
      refine ⟨⟨k + 1, slots.set p (k + 1), sb, by omega, by simp, ?_, by rw [List.length_set]; exact HSL.out, hAn, ?_⟩, by simp only [intOf]; omega⟩
      · have := hsok.insert n HN1.out d hd HP.out (by rw [HPP.out]; exact HZ.out) (by have := HSL.out; omega)
        rwa [HPP.out] at this
      · refine Fr.trans hF1 ⟨rfl, rfl, rfl, by simp, fun b hb hn => ?_, fun b hb => .inl hb, fun b hb => ?_⟩
        · exact World.heap_setCell_ne _ _ _ _ (fun e => hn (by have e' : b = sb := e; rw [e']; simp [ArM.own, ArM.grown]))
        · have := hAy.ownLt b hb; simpa using this
    · have hkk : k = S.nodes.length := by omega
      subst hkk
      go_wp2_with fail
      go_end0
      exact ⟨rfl, slots, sb, hsok, hsl, hA, hF⟩
end Go.Proofs.YtnkdbpjmepfblaaGreatDoor
