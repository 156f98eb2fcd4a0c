/- Texts of the walk and its plain law, merged: CeA. -/
import Derived.Test.YtnkdbpjmepfblaaGreatDoorM06
import Derived.Sort.Grow
/- Cells: Less, Compare. -/
namespace Go.Proofs.YtnkdbpjmepfblaaGreatDoor
open Go Go.RowKit

structure Ce where
  a : Int
  b : Int
  h : Int
  deriving DecidableEq, Inhabited
def Ce.cells (x : Ce) : List Value := [.int .i64 x.a, .int .i64 x.b, .int .i64 x.h]
def Ce.val (x : Ce) : Value := .agg #[.int .i64 x.a, .int .i64 x.b, .int .i64 x.h]
def lessP (a b a' b' : Int) : Bool := if b < b' then true else if b = b' then decide (a < a') else false
def Ce.lt (x y : Ce) : Bool := if x.b < y.b then true else if x.b = y.b then (if x.a < y.a then true else if x.a = y.a then decide (x.h < y.h) else false) else false
def Ce.cmp (x y : Ce) : Int := if x.lt y then -1 else if x = y then 0 else 1
set_option maxRecDepth 100000 in
set_option maxHeartbeats 800000 in
theorem less_c (a b a' b' : Int) (w : World) :
    Calls Tryz.prog 170 #[.agg #[.int .i64 a, .int .i64 b], .agg #[.int .i64 a', .int .i64 b']] w fun e w' => e = .returned (.bool (lessP a b a' b')) ∧ w' = (w.alloc (.cells #[.int .i64 a, .int .i64 b] 65)).alloc (.cells #[.int .i64 a', .int .i64 b'] 65) := by
  unfold lessP
  by_cases h1 : b < b'
  · rw [if_pos h1]
    go_enter Tryz.func170, Tryz.ntmps170
    go_wp2_with fail
    go_ret
    exact ⟨rfl, rfl⟩
  · rw [if_neg h1]
    by_cases h2 : b = b'
    · rw [if_pos h2]
      subst h2
      by_cases h3 : a < a'
      · rw [decide_eq_true h3]
        go_enter Tryz.func170, Tryz.ntmps170
        go_wp2_with fail
        go_ret
        exact ⟨rfl, rfl⟩
      · rw [decide_eq_false h3]
        go_enter Tryz.func170, Tryz.ntmps170
        go_wp2_with fail
        go_ret
        exact ⟨rfl, rfl⟩
    · rw [if_neg h2]
      have hb : (b == b') = false := by simpa using h2
      go_enter Tryz.func170, Tryz.ntmps170
      go_wp2_with fail
      go_ret
      exact ⟨rfl, rfl⟩
set_option maxRecDepth 100000 in
set_option maxHeartbeats 800000 in
theorem compare_c (x y : Ce) (w : World) :
    Calls Tryz.prog 113 #[x.val, y.val] w fun e w' => e = .returned (.int .i64 (x.cmp y)) ∧ ∃ os, w' = Go.Sort.grow w os := by
  obtain ⟨xa, xb, xh⟩ := x
  obtain ⟨ya, yb, yh⟩ := y
  unfold Ce.val
  have hend : ∀ (o1 o2 o3 o4 : Obj), ∃ os, ((((w.alloc o1).alloc o2).alloc o3).alloc o4) = Go.Sort.grow w os := fun o1 o2 o3 o4 => ⟨#[o1, o2, o3, o4], by
    show _ = _
    simp only [Go.Sort.grow, World.alloc]
    congr 1⟩
  by_cases hL : lessP xa xb ya yb = true
  · have hlt : (⟨xa, xb, xh⟩ : Ce).cmp ⟨ya, yb, yh⟩ = -1 := by
      unfold Ce.cmp
      rw [if_pos]
      unfold lessP at hL; unfold Ce.lt
      simp only
      split at hL
      · rename_i h; rw [if_pos h]
      · rename_i h
        rw [if_neg h]
        split at hL
        · rename_i h2; rw [if_pos h2, if_pos (by simpa using hL)]
        · cases hL
    have HLT := Lib.hid hlt
    have hlc := less_c xa xb ya yb
    rw [hL] at hlc
    have HLC := Lib.hid hlc
    have HE := Lib.hid hend
    clear hL hlt hlc hend
    go_enter Tryz.func113, Tryz.ntmps113
    go_wp2_with fail
    refine (HLC.out _).mono ?_
    rintro e w1 ⟨rfl, rfl⟩
    go_wp2_with fail
    go_ret
    exact ⟨ret_int HLT.out.symm, HE.out _ _ _ _⟩
  · have hL' : lessP xa xb ya yb = false := by simpa using hL
    have hlc := less_c xa xb ya yb
    rw [hL'] at hlc
    have HLC := Lib.hid hlc
    have HE := Lib.hid hend
    have HL := Lib.hid hL'
    clear hL hL' hlc hend
    go_enter Tryz.func113, Tryz.ntmps113
    go_wp2_with fail
    refine (HLC.out _).mono ?_
    rintro e w1 ⟨rfl, rfl⟩
    go_wp2_with fail
    all_goals
      go_ret
      refine ⟨ret_int ?_, HE.out _ _ _ _⟩
      have hL := HL.out
      clear HL HE HLC
      unfold Ce.cmp Ce.lt
      unfold lessP at hL
      simp only [Ce.mk.injEq]
      grind
end Go.Proofs.YtnkdbpjmepfblaaGreatDoor
