/- Texts of the walk and its plain law, merged: CeB, TrI. -/
import Derived.Test.YtnkdbpjmepfblaaGreatDoorM07
import Derived.OwnWalk
/- Slices of cells: Clone. -/
namespace Go.Proofs.YtnkdbpjmepfblaaGreatDoor
open Go Go.RowKit

def cflat (L : List Ce) : List Value := L.flatMap Ce.cells
theorem cflat_len (L : List Ce) : (cflat L).length = L.length * 3 := by
  induction L with
  | nil => rfl
  | cons x l ih => unfold cflat at ih ⊢; rw [List.flatMap_cons, List.length_append, ih]; show 3 + _ = _; simp; omega
theorem cflat_append (L M : List Ce) : cflat (L ++ M) = cflat L ++ cflat M := by unfold cflat; rw [List.flatMap_append]
theorem cflat_get (L : List Ce) (i : Nat) (x : Ce) (h : L[i]? = some x) (k : Nat) (hk : k < 3) : (cflat L)[i * 3 + k]? = x.cells[k]? := by
  unfold cflat
  induction L generalizing i with
  | nil => simp at h
  | cons y l ih =>
    rw [List.flatMap_cons]
    have hx : y.cells.length = 3 := rfl
    cases i with
    | zero =>
      simp at h; subst h
      rw [List.getElem?_append_left (by omega)]; simp
    | succ i =>
      simp at h
      rw [List.getElem?_append_right (by omega), hx, show (i + 1) * 3 + k - 3 = i * 3 + k by omega]
      exact ih i h
theorem cflat_one (L : List Ce) : ∀ u ∈ cflat L, u.oneCell' = true := by
  intro u hu
  unfold cflat at hu
  rw [List.mem_flatMap] at hu
  obtain ⟨x, _, hx⟩ := hu
  simp only [Ce.cells, List.mem_cons, List.not_mem_nil, or_false] at hx
  rcases hx with rfl | rfl | rfl <;> rfl
/-- A slice that reads as these cells. -/
def SR (w : World) (v : Value) (L : List Ce) : Prop :=
  (v = .slice none 0 0 ∧ L = []) ∨ ∃ g o cap, v = .slice (some ⟨g, o, none⟩) L.length cap ∧ ∀ (t : Nat) (u : Value), (cflat L)[t]? = some u → w.cell? ⟨g, o + t, none⟩ = some u
theorem addr_add (g o t : Nat) : (({ block := g, off := o } : Addr).add t) = ⟨g, o + t, none⟩ := by unfold Addr.add; split <;> simp_all
/-- A row of cells that is the program's own, in a block from base on. -/
def CeRow (w : World) (base : Nat) (e : TypeId) (v : Value) (L : List Ce) : Prop := w.ownsRow base e 3 v L.length (cflat L)
theorem CeRow.sr {w : World} {base : Nat} {e : TypeId} {v : Value} {L : List Ce} (h : CeRow w base e v L) : SR w v L := by
  rcases h.2 with ⟨hv, h0⟩ | ⟨g, cap, cur, hv, _⟩
  · exact .inl ⟨hv, List.length_eq_zero_iff.1 h0⟩
  · refine .inr ⟨g, 0, cap, hv, fun t u ht => ?_⟩
    have := h.cells (g := g) (by rw [hv]; rfl) t u ht
    rwa [addr_add] at this
theorem CeRow.lt {w : World} {base : Nat} {e : TypeId} {v : Value} {L : List Ce} (h : CeRow w base e v L) {g : Nat} (hg : v.ownBlock = some g) : g < w.heap.size ∧ base ≤ g := by
  rcases h.2 with ⟨hv, h0⟩ | ⟨g', cap, cur, hv, hb, hh, _⟩
  · rw [hv] at hg; cases hg
  · rw [hv] at hg
    simp only [Value.ownBlock, Option.some.injEq] at hg
    subst hg
    exact ⟨heap_lt hh, hb⟩
theorem CeRow.len {w : World} {base : Nat} {e : TypeId} {v : Value} {L : List Ce} (h : CeRow w base e v L) : L.length ≤ 9223372036854775807 := by
  rcases h.2 with ⟨hv, h0⟩ | ⟨g', cap, cur, hv, hb, hh, h1, h2, _⟩
  · omega
  · unfold maxLen at h2; omega
theorem ownsRow_same' {w w' : World} {base : Nat} {e : TypeId} {size n : Nat} {v : Value} {xs : List Value} (h : w.ownsRow base e size v n xs) (hf : Fr w [] w' []) : w'.ownsRow base e size v n xs := by
  refine ownsRow_same h fun b hb => ?_
  rcases h.2 with ⟨hv, _⟩ | ⟨g, cap, cur, hv, _, hg, _⟩
  · rw [hv] at hb; cases hb
  · rw [hv] at hb
    simp only [Value.ownBlock, Option.some.injEq] at hb
    subst hb
    exact hf.keep _ (heap_lt hg) (by simp)
theorem CeRow.ext {w w' : World} {base : Nat} {e : TypeId} {v : Value} {L : List Ce} (h : CeRow w base e v L) (hf : Fr w [] w' []) : CeRow w' base e v L := ownsRow_same' h hf
theorem SR.ext {w w' : World} {v : Value} {L : List Ce} (h : SR w v L) (hf : Fr w [] w' []) : SR w' v L := by
  rcases h with h | ⟨g, o, cap, hv, hc⟩
  · exact .inl h
  · refine .inr ⟨g, o, cap, hv, fun t u ht => ?_⟩
    have h1 := hc t u ht
    have hg : g < w.heap.size := by
      rcases Nat.lt_or_ge g w.heap.size with h' | h'
      · exact h'
      · simp [World.cell?, Array.getElem?_eq_none h'] at h1
    rw [← h1]
    simp only [World.cell?]
    rw [hf.keep g hg (by simp)]
theorem Fr.grown {w wA w' : World} {o o' : List Nat} {row : Option Nat} (hf : Fr w o wA o') (hg : wA.grownBy w' row) (hr : ∀ k, row = some k → w.heap.size ≤ k ∨ k ∈ o) : Fr w o w' o' :=
  ⟨hg.os.trans hf.os, hg.tape.trans hf.tape, hg.output.trans hf.output, Nat.le_trans hf.size hg.size, fun b hb hn => by
    rw [hg.block b (Nat.lt_of_lt_of_le hb hf.size) (fun e => by
      rcases hr b e.symm with h1 | h1
      · omega
      · exact hn h1)]
    exact hf.keep b hb hn, hf.own, fun b hb => Nat.lt_of_lt_of_le (hf.lt b hb) hg.size⟩
theorem Fr.grown' {w wA w' : World} {row : Option Nat} (hf : Fr w [] wA []) (hg : wA.grownBy w' row) (hr : ∀ k, row = some k → w.heap.size ≤ k) : Fr w [] w' [] := Fr.grown hf hg fun k hk => .inl (hr k hk)
theorem info89 : (Tryz.prog.info? 89).map (fun i => (i.zero, i.size, i.bytes)) = some (some (.agg #[.int .i64 0, .int .i64 0, .int .i64 0]), 3, 24) := by kernel_rfl
theorem info92 : (Tryz.prog.info? 92).map (fun i => (i.zero, i.size, i.bytes)) = some (some (.agg #[.int .i64 0, .int .i64 0, .int .i64 0]), 3, 24) := by kernel_rfl
set_option maxRecDepth 100000 in
set_option maxHeartbeats 800000 in
theorem clone_c {w : World} {v : Value} {L : List Ce} (h : SR w v L) (hL : L.length ≤ 5864062014805) :
    Calls Tryz.prog 111 #[v] w fun e w' => ∃ v', e = .returned v' ∧ CeRow w' w.heap.size 89 v' L ∧ Fr w [] w' [] ∧ (v' = .slice none 0 0 ∨ ∃ g cap, v' = .slice (some ⟨g, 0, none⟩) L.length cap) := by
  rcases h with ⟨rfl, rfl⟩ | ⟨g, o, cap, rfl, hc⟩
  · have hn := fun w => Lib.run_eql_slice_nil (P := Tryz.prog) w 30 89 none 0 0 0 0 Tryz.underlying30
    simp only [Option.isNone_none] at hn
    go_enter Tryz.func111, Tryz.ntmps111
    go_wp2_with fail
    go_ret
    exact ⟨_, rfl, ⟨rfl, .inl ⟨rfl, rfl⟩⟩, Fr.nil w, .inl rfl⟩
  · have HC := Lib.hid hc
    clear hc
    have hn := fun w => Lib.run_eql_slice_nil (P := Tryz.prog) w 30 89 (some ⟨g, o, none⟩) L.length cap 0 0 Tryz.underlying30
    simp only [Option.isNone_some] at hn
    go_enter Tryz.func111, Tryz.ntmps111
    have hown : (w.alloc (.cells #[] 89)).ownsRow w.heap.size 89 3 (.slice (some ⟨w.heap.size, 0, none⟩) 0 0) 0 [] :=
      ⟨rfl, .inr ⟨w.heap.size, 0, #[], rfl, Nat.le_refl _, heap_new _ _, Nat.le_refl _, Nat.zero_le _, rfl, rfl⟩⟩
    have HOWN := Lib.hid hown
    obtain ⟨i0, hi0, hz0, hz1, hz2⟩ := info_parts info89
    have HI0 := Lib.hid hi0
    have HI1 := Lib.hid hz0
    have HI2 := Lib.hid hz1
    have HI3 := Lib.hid hz2
    clear hown hi0 hz0 hz1 hz2
    go_wp2_with (at_builtin; refine wpList_append_own _ rfl (.tmp 5) (.tmp 6) 30 rfl w.heap.size 89 i0 _ 3 24 Tryz.underlying30 HI0.out HI1.out HI2.out HI3.out rfl (by decide) _ _ _ rfl HOWN.out ⟨g, o, none⟩ L.length cap (cflat L) rfl ?c1 ?c2 (cflat_one L) ?c3 ?c4 ?c5 ?_)
    case c1 => exact cflat_len L
    case c2 =>
      intro t u ht
      rw [addr_add]
      have h1 := HC.out t u ht
      exact Lib.cell?_alloc_some _ h1
    case c3 => unfold maxLen; omega
    case c4 => omega
    case c5 => simp
    intro v' w' hown' hgr hnil
    have hO := Lib.hid hown'
    have hG := Lib.hid hgr
    have hN := Lib.hid hnil
    clear hown' hgr hnil
    go_wp2_with fail
    go_ret
    have h1 : w'.ownsRow w.heap.size 89 3 v' L.length (cflat L) := hO.out
    refine ⟨v', rfl, h1, ((Fr.nil w).alloc _).grown hG.out (fun k hk => ?_), ?_⟩
    · simp only [Value.ownBlock, Option.some.injEq] at hk
      exact .inl (by omega)
    · rcases h1.2 with ⟨h2, _⟩ | ⟨g', cap', cur', h2, _⟩
      · exact .inl h2
      · exact .inr ⟨g', cap', h2⟩
end Go.Proofs.YtnkdbpjmepfblaaGreatDoor

/- The box of a set. -/
namespace Go.Proofs.YtnkdbpjmepfblaaGreatDoor
open Go Go.RowKit

structure Bx where
  la : Int
  lb : Int
  ha : Int
  hb : Int
def Bx.add (B : Bx) (x : Ce) : Bx := ⟨min B.la x.a, min B.lb x.b, max B.ha x.a, max B.hb x.b⟩
def boxL (S : List Ce) : Bx := match S with | [] => ⟨0, 0, 0, 0⟩ | x :: S => (x :: S).foldl Bx.add ⟨x.a, x.b, x.a, x.b⟩
def Bx.val (B : Bx) : Value := .agg #[.int .i64 B.la, .int .i64 B.lb, .int .i64 B.ha, .int .i64 B.hb]
theorem Bx.add_le (B : Bx) (x : Ce) : (B.add x).la ≤ B.la ∧ (B.add x).lb ≤ B.lb ∧ B.ha ≤ (B.add x).ha ∧ B.hb ≤ (B.add x).hb ∧ (B.add x).la ≤ x.a ∧ x.a ≤ (B.add x).ha ∧ (B.add x).lb ≤ x.b ∧ x.b ≤ (B.add x).hb := by
  unfold Bx.add; simp only; omega
theorem foldl_box (S : List Ce) : ∀ (B : Bx), (S.foldl Bx.add B).la ≤ B.la ∧ (S.foldl Bx.add B).lb ≤ B.lb ∧ B.ha ≤ (S.foldl Bx.add B).ha ∧ B.hb ≤ (S.foldl Bx.add B).hb ∧
    ∀ x ∈ S, (S.foldl Bx.add B).la ≤ x.a ∧ x.a ≤ (S.foldl Bx.add B).ha ∧ (S.foldl Bx.add B).lb ≤ x.b ∧ x.b ≤ (S.foldl Bx.add B).hb := by
  induction S with
  | nil => intro B; simp
  | cons y S ih =>
    intro B
    have h1 := B.add_le y
    have h2 := ih (B.add y)
    simp only [List.foldl_cons]
    refine ⟨by omega, by omega, by omega, by omega, fun x hx => ?_⟩
    rcases List.mem_cons.1 hx with rfl | hx
    · omega
    · exact h2.2.2.2.2 x hx
end Go.Proofs.YtnkdbpjmepfblaaGreatDoor
