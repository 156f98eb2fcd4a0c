/- Texts of the walk and its plain law, merged: TrF, TrG, BuA, BuB, TrH, AwA. -/
import Derived.Test.YtnkdbpjmepfblaaGreatDoorM25
import Derived.Test.YtnkdbpjmepfblaaGreatDoorM20
import Derived.Test.YtnkdbpjmepfblaaGreatDoorM23
/- Leaves: With. -/
namespace Go.Proofs.YtnkdbpjmepfblaaGreatDoor
open Go Go.RowKit

/-- A leaf with a cell more. -/
def withF (f x y h : Nat) : Nat := putN f (2 * (4 * y + x)) (f / 2 ^ (2 * (4 * y + x)) % 4 ||| 2 ^ h)
theorem withSt (s h : Nat) (hs : s < 4) (hh : h < 2) : bits .or .i64 (bits .andNot .i64 (s : Int) (2 ^ h)) (2 ^ h) = ((s ||| 2 ^ h : Nat) : Int) ∧ (s ||| 2 ^ h) < 4 := by
  have h1 : s = 0 ∨ s = 1 ∨ s = 2 ∨ s = 3 := by omega
  have h2 : h = 0 ∨ h = 1 := by omega
  rcases h1 with rfl | rfl | rfl | rfl <;> rcases h2 with rfl | rfl <;> exact ⟨by rfl, by decide⟩
set_option maxRecDepth 100000 in
set_option maxHeartbeats 800000 in
theorem lwith_c (f h : Nat) (x y : Int) (hf : f < 4294967296) (hh : h < 2) (x1 : -1000000000000000 ≤ x) (x2 : x ≤ 1000000000000000) (y1 : -1000000000000000 ≤ y) (y2 : y ≤ 1000000000000000) (w : World) :
    Calls Tryz.prog 159 #[.int .u32 f, .agg #[.int .i64 x, .int .i64 y, .int .i64 h], .bool true] w fun e w' => e = .returned (.int .u32 (withF f (x % 4).toNat (y % 4).toNat h : Nat)) ∧ Fr w [] w' [] := by
  have HL := Lib.hid (low_c x y (by omega) (by omega) (by omega) (by omega))
  obtain ⟨a, ha⟩ : ∃ a, a = (x % 4).toNat := ⟨_, rfl⟩
  obtain ⟨b, hb⟩ : ∃ b, b = (y % 4).toNat := ⟨_, rfl⟩
  obtain ⟨lx, hlx⟩ : ∃ lx, lx = x - x % 4 := ⟨_, rfl⟩
  obtain ⟨ly, hly⟩ : ∃ ly, ly = y - y % 4 := ⟨_, rfl⟩
  have q1 : IntKind.i64.wrap (x - lx) = (a : Int) := by rw [IntKind.wrap_i64]; omega
  have q2 : IntKind.i64.wrap (y - ly) = (b : Int) := by rw [IntKind.wrap_i64]; omega
  have ha4 : a < 4 := by omega
  have hb4 : b < 4 := by omega
  rw [← ha, ← hb]
  rw [← hlx, ← hly] at HL
  have HST := Lib.hid (lstate_c f a b hf ha4 hb4)
  obtain ⟨s, hs⟩ : ∃ s, s = f / 2 ^ (2 * (4 * b + a)) % 4 := ⟨_, rfl⟩
  have hs4 : s < 4 := by omega
  obtain ⟨hw1, hw2⟩ := withSt s h hs4 hh
  have HPU := Lib.hid (lput_c f a b (s ||| 2 ^ h) hf ha4 hb4 hw2)
  have HWF := Lib.hid (show withF f a b h = putN f (2 * (4 * b + a)) (s ||| 2 ^ h) by unfold withF; rw [hs])
  rw [← hs] at HST
  have HF0 := Lib.hid ((Fr.nil w).alloc (.cells #[.int .i64 x, .int .i64 y, .int .i64 h] 89))
  have HB0 := Lib.hid (heap_new w (.cells #[.int .i64 x, .int .i64 y, .int .i64 h] 89))
  have HLT := Lib.hid (show w.heap.size < (w.alloc (.cells #[.int .i64 x, .int .i64 y, .int .i64 h] 89)).heap.size by simp)
  have c0 : (w.alloc (.cells #[.int .i64 x, .int .i64 y, .int .i64 h] 89)).cell? ⟨w.heap.size, 0, none⟩ = some (.int .i64 x) := by rw [cell_of_heap (heap_new _ _)]; rfl
  have c1 : (w.alloc (.cells #[.int .i64 x, .int .i64 y, .int .i64 h] 89)).cell? ⟨w.heap.size, 1, none⟩ = some (.int .i64 y) := by rw [cell_of_heap (heap_new _ _)]; rfl
  have hp2 : wrap64 ((2 : Int) ^ h) = (2 : Int) ^ h := by
    have h2 : h = 0 ∨ h = 1 := by omega
    rcases h2 with rfl | rfl <;> simp [wrap64]
  clear ha hb hlx hly hs hs4 hw2 x1 x2 y1 y2 ha4 hb4
  go_enter Tryz.func159, Tryz.ntmps159
  go_wp2_with fail
  refine (HL.out _).mono ?_
  rintro e w1 ⟨rfl, hf1⟩
  have hk := hf1.keep _ HLT.out (by simp)
  rw [HB0.out] at hk
  have hsz : w.heap.size < w1.heap.size := Nat.lt_of_lt_of_le HLT.out hf1.size
  have hcw : ∀ z : CW (w1.alloc (.cells #[.int .i64 lx, .int .i64 ly] 65)), z.x.heap[w.heap.size]? = some (.cells #[.int .i64 x, .int .i64 y, .int .i64 h] 89) ∧ z.x.heap[w1.heap.size]? = some (.cells #[.int .i64 lx, .int .i64 ly] 65) := fun z =>
    ⟨by rw [z.h.keep _ (by simp; omega) (by simp), Below.heap_alloc _ _ _ hsz]; exact hk, by rw [z.h.keep _ (by simp) (by simp)]; exact heap_new _ _⟩
  have HCW := Lib.hid hcw
  have HF1 := Lib.hid ((HF0.out.trans hf1).alloc (.cells #[.int .i64 lx, .int .i64 ly] 65))
  have HSZ := Lib.hid (show w.heap.size < (w1.alloc (.cells #[.int .i64 lx, .int .i64 ly] 65)).heap.size by simp; omega)
  have z0 : ∀ z : CW (w1.alloc (.cells #[.int .i64 lx, .int .i64 ly] 65)), z.x.cell? ⟨w.heap.size, 0, none⟩ = some (.int .i64 x) := fun z => by rw [cell_of_heap (hcw z).1]; rfl
  have z1 : ∀ z : CW (w1.alloc (.cells #[.int .i64 lx, .int .i64 ly] 65)), z.x.cell? ⟨w.heap.size, 1, none⟩ = some (.int .i64 y) := fun z => by rw [cell_of_heap (hcw z).1]; rfl
  have z2 : ∀ z : CW (w1.alloc (.cells #[.int .i64 lx, .int .i64 ly] 65)), z.x.cell? ⟨w1.heap.size, 0, none⟩ = some (.int .i64 lx) := fun z => by rw [cell_of_heap (hcw z).2]; rfl
  have z3 : ∀ z : CW (w1.alloc (.cells #[.int .i64 lx, .int .i64 ly] 65)), z.x.cell? ⟨w1.heap.size, 1, none⟩ = some (.int .i64 ly) := fun z => by rw [cell_of_heap (hcw z).2]; rfl
  clear hf1 hk hsz hcw c0 c1
  go_wp2_with fail
  refine wp_region_cw (by kernel_rfl) (by kernel_rfl) (CW (w1.alloc (.cells #[.int .i64 lx, .int .i64 ly] 65))) Cls.x ⟨⟨_, (Fr.nil _).drew⟩, rfl⟩ ?_
  repeat (go_big_quiet_step (fail))
  refine wpQuiet_nil ?_
  intro z
  have hz := (HCW.out z).1
  have HFZ := Lib.hid (HF1.out.trans z.h)
  have hszz : w.heap.size < z.x.heap.size := Nat.lt_of_lt_of_le HSZ.out z.h.size
  have hc3 : ∀ y : CW z.x, y.x.cell? ⟨w.heap.size, 2, none⟩ = some (.int .i64 h) := fun y => by rw [cell_of_heap (show y.x.heap[w.heap.size]? = _ by rw [y.h.keep _ hszz (by simp)]; exact hz)]; rfl
  have HC3 := Lib.hid hc3
  clear z0 z1 z2 z3 hz hszz
  go_wp2_with fail
  refine wp_region_cw (by kernel_rfl) (by kernel_rfl) (CW z.x) Cls.x ⟨⟨_, (Fr.nil _).drew⟩, rfl⟩ ?_
  repeat (go_big_quiet_step (((go_at_call 163; exact Calls.cls (((HST.out _).mono (fun e w' he => by rcases he with ⟨rfl, rfl⟩; exact ⟨rfl, Fr.nil _⟩)))))))
  refine wpQuiet_nil ?_
  intro u
  have HFU := Lib.hid (HFZ.out.trans u.h)
  have d0 := HC3.out u
  go_wp2_with fail
  try rw [hp2]
  try rw [hw1]
  refine (HPU.out _).mono ?_
  rintro e w9 ⟨rfl, hf9⟩
  have HF9 := Lib.hid (HFU.out.trans hf9)
  clear hf9
  go_wp2_with fail
  go_ret
  exact ⟨by rw [HWF.out]; rfl, HF9.out⟩
end Go.Proofs.YtnkdbpjmepfblaaGreatDoor

/- Leaves of a set. -/
namespace Go.Proofs.YtnkdbpjmepfblaaGreatDoor
open Go Go.RowKit

def lowP (x : Ce) : Int × Int := (x.a - x.a % 4, x.b - x.b % 4)
def leafPut (L : List ((Int × Int) × Nat)) (x : Ce) : List ((Int × Int) × Nat) := putL L (lowP x) (withF ((lookL L (lowP x)).getD 0) (x.a % 4).toNat (x.b % 4).toNat x.h.toNat)
def leavesM (S : List Ce) : List ((Int × Int) × Nat) := S.foldl leafPut []
theorem leavesM_succ (S : List Ce) (i : Nat) (x : Ce) (h : S[i]? = some x) : leavesM (S.take (i + 1)) = leafPut (leavesM (S.take i)) x := by
  unfold leavesM
  rw [List.take_add_one, h]
  simp [List.foldl_append]
theorem putN_lt (f n s : Nat) (hf : f < 4294967296) (hn : n ≤ 30) (hs : s < 4) : putN f n s < 4294967296 := by
  have hp : 2 ^ n ≤ 2 ^ 30 := Nat.pow_le_pow_right (by decide) hn
  have hsp : s * 2 ^ n < 2 ^ 32 := by
    have : s * 2 ^ n ≤ 3 * 2 ^ n := Nat.mul_le_mul_right _ (by omega)
    omega
  unfold putN
  exact Nat.or_lt_two_pow (n := 32) (Nat.lt_of_le_of_lt Nat.and_le_left hf) hsp
theorem withF_lt (f x y h : Nat) (hf : f < 4294967296) (hx : x < 4) (hy : y < 4) (hh : h < 2) : withF f x y h < 4294967296 :=
  putN_lt _ _ _ hf (by omega) (withSt _ h (by omega) hh).2
theorem lookL_lt {L : List ((Int × Int) × Nat)} (h : ∀ p ∈ L, p.2 < 4294967296) (x : Int × Int) : (lookL L x).getD 0 < 4294967296 := by
  unfold lookL
  cases hf : L.find? (fun p => decide (x = p.1)) with
  | none => simp
  | some p => simpa using h p (List.mem_of_find?_eq_some hf)
theorem leavesM_lt : ∀ (S : List Ce), (∀ x ∈ S, 0 ≤ x.h ∧ x.h ≤ 1) → ∀ (L : List ((Int × Int) × Nat)), (∀ p ∈ L, p.2 < 4294967296) → ∀ p ∈ S.foldl leafPut L, p.2 < 4294967296
  | [], _, L, hL => hL
  | x :: S, hS, L, hL => by
    refine leavesM_lt S (fun y hy => hS y (by simp [hy])) _ (fun p hp => ?_)
    have hx := hS x (by simp)
    rcases putL_mem hp with rfl | hp
    · exact withF_lt _ _ _ _ (lookL_lt hL _) (by omega) (by omega) (by omega)
    · exact hL p hp
end Go.Proofs.YtnkdbpjmepfblaaGreatDoor

/- Build as data: leaves by their least points. -/
namespace Go.Proofs.YtnkdbpjmepfblaaGreatDoor
open Go Go.RowKit

abbrev Pk := Int × Int
def pickQ (d : Nat) (la lb : Int) (ps : List Pk) (t : Nat) : List Pk := ps.filter fun p => decide ((quart (d + 3) la lb p.1 p.2).1 = t)
def Ar.fourL (g : Nat → Ar → Option (Except Nat Nat × Ar)) : Nat → List Nat → Ar → Option (Except Nat (List Nat) × Ar)
  | 0, acc, A => some (.ok acc, A)
  | n + 1, acc, A => mbind (g (3 - n) A) fun j B => Ar.fourL g n (acc ++ [j]) B
def kidA (d : Nat) (la : Int) (t : Nat) : Int := la + (t % 2 : Nat) * (2 ^ (d + 2) : Nat)
def kidB (d : Nat) (lb : Int) (t : Nat) : Int := lb + (t / 2 : Nat) * (2 ^ (d + 2) : Nat)
def Ar.buildF (L : List (Pk × Nat)) : Nat → Int → Int → List Pk → Ar → Option (Except Nat Nat × Ar)
  | 0, _, _, ps, A => match ps with | [] => A.mt (2 : Nat) | p :: _ => A.leaf ((lookL L p).getD 0)
  | d + 1, la, lb, ps, A => if ps = [] then A.mt ((d + 3 : Nat) : Int) else
      mbind (Ar.fourL (fun t B => Ar.buildF L d (kidA d la t) (kidB d lb t) (pickQ d la lb ps t) B) 4 [] A) fun l B => B.join (k4of l)
/-- What leaves show. -/
def planeOf (L : List (Pk × Nat)) : Plane := fun x y k => decide (k < 2) && ((lookL L (x - x % 4, y - y % 4)).getD 0).testBit (2 * (4 * (y % 4).toNat + (x % 4).toNat) + k)
/-- Just the leaves within a square. -/
def keysIn (L : List (Pk × Nat)) (ps : List Pk) (la lb : Int) (s : Nat) : Prop :=
  (∀ p ∈ ps, la ≤ p.1 ∧ p.1 < la + s ∧ lb ≤ p.2 ∧ p.2 < lb + s ∧ p.1 % 4 = 0 ∧ p.2 % 4 = 0) ∧
  ∀ p v, lookL L p = some v → la ≤ p.1 → p.1 < la + s → lb ≤ p.2 → p.2 < lb + s → p ∈ ps
theorem quart_kid (d : Nat) (la lb a b : Int) : (quart (d + 3) la lb a b).1 < 4 ∧ (la ≤ a → a < la + (2 ^ (d + 3) : Nat) → lb ≤ b → b < lb + (2 ^ (d + 3) : Nat) →
    kidA d la (quart (d + 3) la lb a b).1 ≤ a ∧ a < kidA d la (quart (d + 3) la lb a b).1 + (2 ^ (d + 2) : Nat) ∧ kidB d lb (quart (d + 3) la lb a b).1 ≤ b ∧ b < kidB d lb (quart (d + 3) la lb a b).1 + (2 ^ (d + 2) : Nat)) := by
  have e : 2 ^ (d + 3) = 2 * 2 ^ (d + 2) := two_pow_succ d
  rw [e]
  unfold quart kidA kidB
  simp only [show d + 3 - 1 = d + 2 by omega]
  generalize 2 ^ (d + 2) = h
  by_cases h1 : la + (h : Int) ≤ a <;> by_cases h2 : lb + (h : Int) ≤ b <;> simp only [h1, h2, if_true, if_false, Nat.reduceAdd, Nat.reduceMod, Nat.reduceDiv, Nat.zero_mod, Nat.zero_div, Nat.one_mod] <;> refine ⟨by omega, fun _ _ _ _ => ⟨by omega, by omega, by omega, by omega⟩⟩
theorem kid_quart (d : Nat) (la lb a b : Int) (t : Nat) (ht : t < 4) (h1 : kidA d la t ≤ a) (h2 : a < kidA d la t + (2 ^ (d + 2) : Nat)) (h3 : kidB d lb t ≤ b) (h4 : b < kidB d lb t + (2 ^ (d + 2) : Nat)) : (quart (d + 3) la lb a b).1 = t := by
  unfold quart
  unfold kidA kidB at *
  simp only [show d + 3 - 1 = d + 2 by omega]
  generalize 2 ^ (d + 2) = h at *
  have hc : t = 0 ∨ t = 1 ∨ t = 2 ∨ t = 3 := by omega
  rcases hc with rfl | rfl | rfl | rfl <;> simp only [Nat.reduceMod, Nat.reduceDiv, Nat.zero_mod, Nat.zero_div, Nat.one_mod] at h1 h2 h3 h4 <;> (repeat' split) <;> omega
theorem kid_in (d : Nat) (la a : Int) (u : Nat) (hu : u < 2) (h1 : la + (u : Nat) * (2 ^ (d + 2) : Nat) ≤ a) (h2 : a < la + (u : Nat) * (2 ^ (d + 2) : Nat) + (2 ^ (d + 2) : Nat)) : la ≤ a ∧ a < la + (2 ^ (d + 3) : Nat) := by
  have e : 2 ^ (d + 3) = 2 * 2 ^ (d + 2) := two_pow_succ d
  rw [e]
  generalize 2 ^ (d + 2) = h at *
  have hc : u = 0 ∨ u = 1 := by omega
  rcases hc with rfl | rfl <;> simp at h1 h2 <;> omega
theorem keysIn.kid {L : List (Pk × Nat)} {ps : List Pk} {la lb : Int} {d : Nat} (h : keysIn L ps la lb (2 ^ (d + 3))) {t : Nat} (ht : t < 4) : keysIn L (pickQ d la lb ps t) (kidA d la t) (kidB d lb t) (2 ^ (d + 2)) := by
  refine ⟨fun p hp => ?_, fun p v hv h1 h2 h3 h4 => ?_⟩
  · obtain ⟨hp, hq⟩ := List.mem_filter.1 hp
    have hq := of_decide_eq_true hq
    obtain ⟨g1, g2, g3, g4, g5⟩ := h.1 p hp
    have := (quart_kid d la lb p.1 p.2).2 g1 g2 g3 g4
    rw [hq] at this
    exact ⟨this.1, this.2.1, this.2.2.1, this.2.2.2, g5⟩
  · have k1 := kid_in d la p.1 (t % 2) (by omega) h1 h2
    have k2 := kid_in d lb p.2 (t / 2) (by omega) h3 h4
    exact List.mem_filter.2 ⟨h.2 p v hv k1.1 k1.2 k2.1 k2.2, decide_eq_true (kid_quart d la lb p.1 p.2 t ht h1 h2 h3 h4)⟩
/-- The order of the points does not matter. -/
theorem Ar.buildF_perm {L : List (Pk × Nat)} : ∀ (d : Nat) {la lb : Int} {ps qs : List Pk}, la % 4 = 0 → lb % 4 = 0 → (∀ p, p ∈ ps ↔ p ∈ qs) → (∀ p ∈ ps, la ≤ p.1 ∧ p.1 < la + (2 ^ (d + 2) : Nat) ∧ lb ≤ p.2 ∧ p.2 < lb + (2 ^ (d + 2) : Nat) ∧ p.1 % 4 = 0 ∧ p.2 % 4 = 0) → ∀ A : Ar, A.buildF L d la lb ps = A.buildF L d la lb qs := by
  intro d
  induction d with
  | zero =>
    intro la lb ps qs hla hlb hpq hps A
    have hone : ∀ p ∈ ps, p = (la, lb) := fun p hp => by
      have := hps p hp
      simp only [Nat.reduceAdd, Nat.reducePow] at this
      exact Prod.ext (by simp; omega) (by simp; omega)
    match ps, qs with
    | [], [] => rfl
    | [], q :: _ => exact absurd ((hpq q).2 (by simp)) (by simp)
    | p :: _, [] => exact absurd ((hpq p).1 (by simp)) (by simp)
    | p :: _, q :: _ =>
      simp only [Ar.buildF]
      rw [hone p (by simp), hone q ((hpq q).2 (by simp))]
  | succ d ih =>
    intro la lb ps qs hla hlb hpq hps A
    have he : ps = [] ↔ qs = [] := by
      constructor
      · intro h; subst h
        exact List.eq_nil_iff_forall_not_mem.2 fun p hp => by simpa using (hpq p).2 hp
      · intro h; subst h
        exact List.eq_nil_iff_forall_not_mem.2 fun p hp => by simpa using (hpq p).1 hp
    simp only [Ar.buildF]
    by_cases h0 : ps = []
    · rw [if_pos h0, if_pos (he.1 h0)]
    · rw [if_neg h0, if_neg (fun h => h0 (he.2 h))]
      congr 1
      have hg : ∀ (t : Nat) (B : Ar), t < 4 → B.buildF L d (kidA d la t) (kidB d lb t) (pickQ d la lb ps t) = B.buildF L d (kidA d la t) (kidB d lb t) (pickQ d la lb qs t) := by
        intro t B ht
        have e4 : 2 ^ (d + 2) = 4 * 2 ^ d := by rw [Nat.pow_add]; omega
        refine ih ?_ ?_ (fun p => ?_) (fun p hp => ?_) B
        · unfold kidA; rw [e4]
          have hc : t % 2 = 0 ∨ t % 2 = 1 := by omega
          rcases hc with h | h <;> rw [h] <;> omega
        · unfold kidB; rw [e4]
          have hc : t / 2 = 0 ∨ t / 2 = 1 := by omega
          rcases hc with h | h <;> rw [h] <;> omega
        · unfold pickQ; rw [List.mem_filter, List.mem_filter, hpq p]
        · obtain ⟨hp, hq⟩ := List.mem_filter.1 hp
          have hq := of_decide_eq_true hq
          obtain ⟨g1, g2, g3, g4, g5⟩ := hps p hp
          have := (quart_kid d la lb p.1 p.2).2 g1 g2 g3 g4
          rw [hq] at this
          exact ⟨this.1, this.2.1, this.2.2.1, this.2.2.2, g5⟩
      have hfour : ∀ (n : Nat) (acc : List Nat) (B : Ar), n ≤ 4 → Ar.fourL (fun t B => Ar.buildF L d (kidA d la t) (kidB d lb t) (pickQ d la lb ps t) B) n acc B = Ar.fourL (fun t B => Ar.buildF L d (kidA d la t) (kidB d lb t) (pickQ d la lb qs t) B) n acc B := by
        intro n
        induction n with
        | zero => intro acc B _; rfl
        | succ n ihn =>
          intro acc B hn
          simp only [Ar.fourL]
          rw [hg _ _ (by omega)]
          congr 1
          funext j B'
          exact ihn _ _ (by omega)
      exact hfour 4 [] A (Nat.le_refl _)
theorem planeOf_in {L : List (Pk × Nat)} {ps : List Pk} {la lb : Int} {s : Nat} (h : keysIn L ps la lb s) (hla : la % 4 = 0) (hlb : lb % 4 = 0) (h0 : ps = []) {x y : Int} (h1 : la ≤ x) (h2 : x < la + s) (h3 : lb ≤ y) (h4 : y < lb + s) (k : Nat) : planeOf L x y k = false := by
  unfold planeOf
  have hno : lookL L (x - x % 4, y - y % 4) = none := by
    cases hl : lookL L (x - x % 4, y - y % 4) with
    | none => rfl
    | some v =>
      have := h.2 _ v hl (by simp; omega) (by simp; omega) (by simp; omega) (by simp; omega)
      rw [h0] at this
      cases this
  rw [hno]
  simp
theorem Ar.goes_build {L : List (Pk × Nat)} (hL : ∀ p ∈ L, p.2 < 4294967296) {F : Fam} (hAl : Al F (planeOf L)) : ∀ (d : Nat) {la lb : Int} {ps : List Pk} {A : Ar}, A.wf → d + 2 ≤ 44 → la % 4 = 0 → lb % 4 = 0 → ((2 ^ (d + 1) : Nat) : Int) ∣ la → ((2 ^ (d + 1) : Nat) : Int) ∣ lb →
    keysIn L ps la lb (2 ^ (d + 2)) → A.goes (A.buildF L d la lb ps) F (fun j B => B.W d j (planeOf L) la lb) := by
  intro d
  induction d with
  | zero =>
    intro la lb ps A hA h44 hla hlb hda hdb hk
    match ps, hk with
    | [], hk =>
      simp only [Ar.buildF]
      refine goesS.mono (Ar.goes_mt hA (by omega) (by omega)) fun j B _ hB _ hj => ?_
      exact Ar.W.empty hB hj.1 hj.2 fun x y k hx hy hk' => planeOf_in hk hla hlb rfl (by omega) (by omega) (by omega) (by omega) k
    | p :: ps, hk =>
      simp only [Ar.buildF]
      have hp := hk.1 p (by simp)
      simp only [Nat.reduceAdd, Nat.reducePow] at hp
      have e : p = (la, lb) := Prod.ext (by simp; omega) (by simp; omega)
      rw [e]
      refine Ar.goes_leafW hA (lookL_lt hL _) (hAl 0 la lb (by simp) (by simp)) fun x y k hx hy hk' => ?_
      unfold planeOf
      rw [decide_eq_true hk', Bool.true_and, show la + (x : Int) - (la + (x : Int)) % 4 = la by omega, show lb + (y : Int) - (lb + (y : Int)) % 4 = lb by omega, show ((la + (x : Int)) % 4).toNat = x by omega, show ((lb + (y : Int)) % 4).toNat = y by omega]
  | succ d ih =>
    intro la lb ps A hA h44 hla hlb hda hdb hk
    simp only [Ar.buildF]
    split
    · rename_i h0
      refine goesS.mono (Ar.goes_mt hA (lev := d + 3) (by omega) (by omega)) fun j B _ hB _ hj => ?_
      exact Ar.W.empty hB hj.1 hj.2 fun x y k hx hy hk' => planeOf_in hk hla hlb h0 (by omega) (by omega) (by omega) (by omega) k
    · have e4 : 2 ^ (d + 2) = 4 * 2 ^ d := by rw [Nat.pow_add]; omega
      have hkid : ∀ (t : Nat) {B : Ar}, t < 4 → B.wf → B.goes (B.buildF L d (kidA d la t) (kidB d lb t) (pickQ d la lb ps t)) F (fun j B' => B'.W d j (planeOf L) (kidA d la t) (kidB d lb t)) := by
        intro t B ht hB
        refine ih hB (by omega) ?_ ?_ ?_ ?_ (hk.kid ht)
        · unfold kidA; rw [e4]
          have hc : t % 2 = 0 ∨ t % 2 = 1 := by omega
          rcases hc with h | h <;> rw [h] <;> omega
        · unfold kidB; rw [e4]
          have hc : t / 2 = 0 ∨ t / 2 = 1 := by omega
          rcases hc with h | h <;> rw [h] <;> omega
        · unfold kidA
          exact Int.dvd_add (Int.dvd_trans (dvd_pw1 (by omega)) hda) (dvd_pw (by omega) _)
        · unfold kidB
          exact Int.dvd_add (Int.dvd_trans (dvd_pw1 (by omega)) hdb) (dvd_pw (by omega) _)
      -- the four, one behind the other
      show A.goes (mbind (mbind (A.buildF L d (kidA d la 0) (kidB d lb 0) (pickQ d la lb ps 0)) _) _) F _
      refine Ar.goes.mbind (P := fun l B => ∃ j0 j1 j2 j3, l = [j0, j1, j2, j3] ∧ B.W d j0 (planeOf L) (kidA d la 0) (kidB d lb 0) ∧ B.W d j1 (planeOf L) (kidA d la 1) (kidB d lb 1) ∧ B.W d j2 (planeOf L) (kidA d la 2) (kidB d lb 2) ∧ B.W d j3 (planeOf L) (kidA d la 3) (kidB d lb 3)) ?_ ?_
      · refine Ar.goes.mbind (hkid 0 (by omega) hA) fun j0 B0 w0 st0 h0 => ?_
        show B0.goes (mbind (B0.buildF L d (kidA d la 1) (kidB d lb 1) (pickQ d la lb ps 1)) _) F _
        refine Ar.goes.mbind (hkid 1 (by omega) w0) fun j1 B1 w1 st1 h1 => ?_
        show B1.goes (mbind (B1.buildF L d (kidA d la 2) (kidB d lb 2) (pickQ d la lb ps 2)) _) F _
        refine Ar.goes.mbind (hkid 2 (by omega) w1) fun j2 B2 w2 st2 h2 => ?_
        show B2.goes (mbind (B2.buildF L d (kidA d la 3) (kidB d lb 3) (pickQ d la lb ps 3)) _) F _
        refine Ar.goes.mbind (hkid 3 (by omega) w2) fun j3 B3 w3 st3 h3 => ?_
        refine goesS.pure (ar := id) w3 w3 ⟨j0, j1, j2, j3, rfl, ?_, ?_, ?_, h3⟩
        · exact h0.le ((st1.le.trans st2.le).trans st3.le) w0
        · exact h1.le (st2.le.trans st3.le) w1
        · exact h2.le st3.le w2
      · rintro l B hB st ⟨j0, j1, j2, j3, rfl, h0, h1, h2, h3⟩
        refine Ar.goes_joinW hB (by omega) (hAl _ _ _ (Int.dvd_trans (dvd_pw1 (by omega)) hda) (Int.dvd_trans (dvd_pw1 (by omega)) hdb)) fun t ht => ?_
        have hc : t = 0 ∨ t = 1 ∨ t = 2 ∨ t = 3 := by omega
        rcases hc with rfl | rfl | rfl | rfl
        · exact h0
        · exact h1
        · exact h2
        · exact h3
end Go.Proofs.YtnkdbpjmepfblaaGreatDoor

/- The leaves of a set show just its cells. -/
namespace Go.Proofs.YtnkdbpjmepfblaaGreatDoor
open Go Go.RowKit

theorem lookL_putL {κ : Type} [DecidableEq κ] (x : κ) (v : Nat) (y : κ) : ∀ (L : List (κ × Nat)), lookL (putL L x v) y = if y = x then some v else lookL L y
  | [] => by
    unfold putL lookL
    by_cases h : y = x <;> simp [h]
  | p :: L => by
    have ih := lookL_putL x v y L
    unfold putL lookL at ih ⊢
    rw [List.findIdx?_cons]
    by_cases hp : x = p.1
    · rw [decide_eq_true hp]
      simp only [if_true, List.set_cons_zero, List.find?_cons]
      by_cases hy : y = x
      · simp [hy]
      · rw [decide_eq_false hy, decide_eq_false (fun h => hy (h.trans hp.symm)), if_neg hy]
    · rw [decide_eq_false hp]
      simp only [Bool.false_eq_true, if_false]
      cases hf : L.findIdx? (fun q => decide (x = q.1)) with
      | none =>
        rw [hf] at ih
        simp only [Option.map_none, List.cons_append, List.find?_cons] at ih ⊢
        by_cases hy : y = p.1
        · rw [decide_eq_true hy, if_neg (fun h => hp (h.symm.trans hy))]
        · rw [decide_eq_false hy]; exact ih
      | some j =>
        rw [hf] at ih
        simp only [Option.map_some, List.set_cons_succ, List.find?_cons] at ih ⊢
        by_cases hy : y = p.1
        · rw [decide_eq_true hy, if_neg (fun h => hp (h.symm.trans hy))]
        · rw [decide_eq_false hy]; exact ih
theorem putN_bit (f n s t : Nat) (_hf : f < 4294967296) (hn : n ≤ 30) (hs : s < 4) (ht : t < 32) : (putN f n s).testBit t = if t = n then s.testBit 0 else if t = n + 1 then s.testBit 1 else f.testBit t := by
  have h3 : 3 * 2 ^ n < 2 ^ 32 := by
    have hp : 2 ^ n ≤ 2 ^ 30 := Nat.pow_le_pow_right (by decide) hn
    omega
  unfold putN
  rw [Nat.testBit_or, Nat.testBit_and, show 4294967295 - 3 * 2 ^ n = 2 ^ 32 - (3 * 2 ^ n + 1) by omega, Nat.testBit_two_pow_sub_succ h3, Nat.testBit_mul_two_pow, Nat.testBit_mul_two_pow, decide_eq_true ht]
  have hs2 : ∀ j, 2 ≤ j → s.testBit j = false := fun j hj => Nat.testBit_lt_two_pow (Nat.lt_of_lt_of_le hs (by
    have : 2 ^ 2 ≤ 2 ^ j := Nat.pow_le_pow_right (by omega) hj
    simpa using this))
  have h32 : ∀ j, 2 ≤ j → (3 : Nat).testBit j = false := fun j hj => Nat.testBit_lt_two_pow (Nat.lt_of_lt_of_le (by decide : 3 < 4) (by
    have : 2 ^ 2 ≤ 2 ^ j := Nat.pow_le_pow_right (by omega) hj
    simpa using this))
  by_cases h0 : t = n
  · subst h0
    rw [if_pos rfl, Nat.sub_self, decide_eq_true (Nat.le_refl t)]
    simp
  · rw [if_neg h0]
    by_cases h1 : t = n + 1
    · subst h1
      rw [if_pos rfl, show n + 1 - n = 1 by omega, decide_eq_true (show n ≤ n + 1 by omega)]
      simp [show (3 : Nat).testBit 1 = true by decide]
    · rw [if_neg h1]
      by_cases hle : n ≤ t
      · rw [decide_eq_true hle, h32 (t - n) (by omega), hs2 (t - n) (by omega)]
        simp
      · rw [decide_eq_false hle]
        simp
theorem withF_bit (f x y h u v k : Nat) (hf : f < 4294967296) (hx : x < 4) (hy : y < 4) (hh : h < 2) (hu : u < 4) (hv : v < 4) (hk : k < 2) :
    (withF f x y h).testBit (2 * (4 * v + u) + k) = (decide (u = x ∧ v = y ∧ k = h) || f.testBit (2 * (4 * v + u) + k)) := by
  unfold withF
  obtain ⟨n, hn⟩ : ∃ n, n = 2 * (4 * y + x) := ⟨_, rfl⟩
  rw [← hn]
  have hs4 : (f / 2 ^ n % 4 ||| 2 ^ h) < 4 := (withSt _ h (by omega) hh).2
  have hb : ∀ j, j < 2 → (f / 2 ^ n % 4).testBit j = f.testBit (n + j) := by
    intro j hj
    rw [show (4 : Nat) = 2 ^ 2 by decide, Nat.testBit_mod_two_pow, decide_eq_true hj, Bool.true_and, Nat.testBit_div_two_pow]
    congr 1; omega
  have hp : ∀ j, (2 ^ h).testBit j = decide (h = j) := fun j => by rw [Nat.testBit_two_pow]
  rw [putN_bit f n _ _ hf (by omega) hs4 (by omega), Nat.testBit_or, Nat.testBit_or, hb 0 (by omega), hb 1 (by omega), hp, hp]
  by_cases h0 : 2 * (4 * v + u) + k = n
  · have e1 : u = x := by omega
    have e2 : v = y := by omega
    have e3 : k = 0 := by omega
    rw [if_pos h0, h0]
    subst e1 e2 e3
    by_cases hh0 : h = 0
    · subst hh0; simp
    · simp [hh0, Ne.symm hh0]
  · rw [if_neg h0]
    by_cases h1 : 2 * (4 * v + u) + k = n + 1
    · have e1 : u = x := by omega
      have e2 : v = y := by omega
      have e3 : k = 1 := by omega
      rw [if_pos h1, h1]
      subst e1 e2 e3
      by_cases hh0 : h = 1
      · subst hh0; simp
      · simp [hh0, Ne.symm hh0]
    · rw [if_neg h1, decide_eq_false (by omega)]
      simp
/-- The cells of a set. -/
def setPl (S : List Ce) : Plane := fun x y k => decide (∃ c ∈ S, c.a = x ∧ c.b = y ∧ c.h = (k : Int))
theorem planeOf_leafPut {L : List (Pk × Nat)} (hL : ∀ p ∈ L, p.2 < 4294967296) (c : Ce) (h0 : 0 ≤ c.h) (h1 : c.h ≤ 1) (x y : Int) (k : Nat) :
    planeOf (leafPut L c) x y k = (decide (c.a = x ∧ c.b = y ∧ c.h = (k : Int)) || planeOf L x y k) := by
  unfold planeOf leafPut
  rw [lookL_putL]
  by_cases hk : k < 2
  · rw [decide_eq_true hk, Bool.true_and, Bool.true_and]
    by_cases hp : (x - x % 4, y - y % 4) = lowP c
    · rw [if_pos hp, ← hp]
      unfold lowP at hp
      simp only [Prod.mk.injEq] at hp
      simp only [Option.getD_some]
      rw [withF_bit _ _ _ _ _ _ _ (lookL_lt hL _) (by omega) (by omega) (by omega) (by omega) (by omega) hk]
      congr 1
      rw [decide_eq_decide]
      omega
    · rw [if_neg hp, decide_eq_false (p := c.a = x ∧ c.b = y ∧ c.h = (k : Int))]
      · simp
      · rintro ⟨rfl, rfl, _⟩
        exact hp rfl
  · rw [decide_eq_false hk, decide_eq_false (by omega)]
    simp
theorem planeOf_leaves : ∀ (S : List Ce) (L : List (Pk × Nat)), (∀ x ∈ S, 0 ≤ x.h ∧ x.h ≤ 1) → (∀ p ∈ L, p.2 < 4294967296) → ∀ x y k, planeOf (S.foldl leafPut L) x y k = (decide (∃ c ∈ S, c.a = x ∧ c.b = y ∧ c.h = (k : Int)) || planeOf L x y k)
  | [], L, _, _, x, y, k => by simp
  | c :: S, L, hS, hL, x, y, k => by
    have hc := hS c (by simp)
    have hL' : ∀ p ∈ leafPut L c, p.2 < 4294967296 := leavesM_lt [c] (fun y hy => by simp at hy; subst hy; exact hc) L hL
    rw [List.foldl_cons, planeOf_leaves S (leafPut L c) (fun y hy => hS y (by simp [hy])) hL', planeOf_leafPut hL c hc.1 hc.2]
    have : decide (∃ d ∈ c :: S, d.a = x ∧ d.b = y ∧ d.h = (k : Int)) = (decide (c.a = x ∧ c.b = y ∧ c.h = (k : Int)) || decide (∃ d ∈ S, d.a = x ∧ d.b = y ∧ d.h = (k : Int))) := by
      rw [← Bool.decide_or, decide_eq_decide]
      simp
    rw [this]
    cases decide (c.a = x ∧ c.b = y ∧ c.h = (k : Int)) <;> cases decide (∃ d ∈ S, d.a = x ∧ d.b = y ∧ d.h = (k : Int)) <;> rfl
theorem planeOf_set {S : List Ce} (hS : ∀ x ∈ S, 0 ≤ x.h ∧ x.h ≤ 1) : planeOf (leavesM S) = setPl S := by
  funext x y k
  unfold leavesM setPl
  rw [planeOf_leaves S [] hS (by simp)]
  have : planeOf [] x y k = false := by unfold planeOf lookL; simp
  rw [this, Bool.or_false]
theorem setPl_true {S : List Ce} {x y : Int} {k : Nat} : setPl S x y k = true ↔ ∃ c ∈ S, c.a = x ∧ c.b = y ∧ c.h = (k : Int) := decide_eq_true_iff
/-- The keys of the leaves. -/
theorem putL_keys {κ : Type} [DecidableEq κ] (L : List (κ × Nat)) (x : κ) (v : Nat) (y : κ) : y ∈ (putL L x v).map Prod.fst ↔ y = x ∨ y ∈ L.map Prod.fst := by
  unfold putL
  split
  · rename_i j hj
    rw [List.findIdx?_eq_some_iff_getElem] at hj
    obtain ⟨hl, hp, _⟩ := hj
    have hp := of_decide_eq_true hp
    rw [List.map_set]
    have hg : (L.map Prod.fst).set j x = L.map Prod.fst := by
      apply List.ext_getElem?
      intro i
      rw [List.getElem?_set]
      by_cases hij : j = i
      · subst hij
        simp [hl, hp]
      · simp [hij]
    rw [hg]
    constructor
    · exact .inr
    · rintro (rfl | h)
      · rw [hp]; exact List.mem_map.2 ⟨_, List.getElem_mem hl, rfl⟩
      · exact h
  · simp [List.map_append, or_comm]
theorem lookL_keys {κ : Type} [DecidableEq κ] (L : List (κ × Nat)) (x : κ) {v : Nat} (h : lookL L x = some v) : x ∈ L.map Prod.fst := by
  unfold lookL at h
  cases hf : L.find? (fun p => decide (x = p.1)) with
  | none => rw [hf] at h; cases h
  | some p =>
    have h1 := List.mem_of_find?_eq_some hf
    have h2 : x = p.1 := of_decide_eq_true (List.find?_some (p := fun (p : κ × Nat) => decide (x = p.1)) hf)
    exact List.mem_map.2 ⟨p, h1, h2.symm⟩
theorem leaves_keys : ∀ (S : List Ce) (L : List (Pk × Nat)) (p : Pk), p ∈ (S.foldl leafPut L).map Prod.fst ↔ (∃ c ∈ S, p = lowP c) ∨ p ∈ L.map Prod.fst
  | [], L, p => by simp
  | c :: S, L, p => by
    rw [List.foldl_cons, leaves_keys S (leafPut L c) p]
    unfold leafPut
    rw [putL_keys]
    constructor
    · rintro (⟨d, hd, rfl⟩ | rfl | h)
      · exact .inl ⟨d, by simp [hd], rfl⟩
      · exact .inl ⟨c, by simp, rfl⟩
      · exact .inr h
    · rintro (⟨d, hd, rfl⟩ | h)
      · rcases List.mem_cons.1 hd with rfl | hd
        · exact .inr (.inl rfl)
        · exact .inl ⟨d, hd, rfl⟩
      · exact .inr (.inr h)
theorem leavesM_keys (S : List Ce) (p : Pk) : p ∈ (leavesM S).map Prod.fst ↔ ∃ c ∈ S, p = lowP c := by
  unfold leavesM
  rw [leaves_keys]
  simp
/-- The leaves of a set within a root. -/
theorem keysIn_set {S : List Ce} {d : Nat} {ps : List Pk} (hps : ∀ p, p ∈ ps ↔ p ∈ (leavesM S).map Prod.fst) (hd : 1 ≤ d) (hS : ∀ c ∈ S, -((2 ^ (d + 1) : Nat) : Int) ≤ c.a ∧ c.a < ((2 ^ (d + 1) : Nat) : Int) ∧ -((2 ^ (d + 1) : Nat) : Int) ≤ c.b ∧ c.b < ((2 ^ (d + 1) : Nat) : Int)) :
    keysIn (leavesM S) ps (-((2 ^ (d + 1) : Nat) : Int)) (-((2 ^ (d + 1) : Nat) : Int)) (2 ^ (d + 2)) := by
  have e2 := pw2 d
  have e4 : 2 ^ (d + 1) = 4 * 2 ^ (d - 1) := by rw [show d + 1 = (d - 1) + 2 by omega, Nat.pow_add]; omega
  refine ⟨fun p hp => ?_, fun p v hv _ _ _ _ => (hps p).2 (lookL_keys _ _ hv)⟩
  obtain ⟨c, hc, rfl⟩ := (leavesM_keys S p).1 ((hps p).1 hp)
  have := hS c hc
  unfold lowP
  simp only
  rw [e2]
  omega
end Go.Proofs.YtnkdbpjmepfblaaGreatDoor

/- Leaves of a set: the walk. -/
namespace Go.Proofs.YtnkdbpjmepfblaaGreatDoor
open Go Go.RowKit

set_option maxRecDepth 100000 in
set_option maxHeartbeats 1600000 in
theorem leaves_c {w : World} {v : Value} {S : List Ce} (h : SR w v S) (hlen : S.length ≤ 9223372036854775806) (hS : ∀ x ∈ S, 0 ≤ x.h ∧ x.h ≤ 1 ∧ -1000000000000000 ≤ x.a ∧ x.a ≤ 1000000000000000 ∧ -1000000000000000 ≤ x.b ∧ x.b ≤ 1000000000000000) :
    Calls Tryz.prog 93 #[v] w fun e w' => e = .returned (.map (some w.heap.size)) ∧ MapL w' pkVal w.heap.size (leavesM S) ∧ Fr w [] w' [] := by
  have HSR := Lib.hid h
  have HS := Lib.hid hS
  have HLEN := Lib.hid hlen
  obtain ⟨ad, cap, hvs⟩ : ∃ ad cap, v = .slice ad S.length cap := by
    rcases h with ⟨h1, h2⟩ | ⟨g, o, cap, h1, _⟩
    · exact ⟨none, 0, by rw [h1, h2]; rfl⟩
    · exact ⟨_, cap, h1⟩
  subst hvs
  have hmk : (Instr.makeMap 144 none).run Tryz.prog w = .ok (.map (some w.heap.size)) (w.alloc (.map #[] 0)) := rfl
  have HM0 := Lib.hid (MapL.new (val := pkVal) w)
  have HF0 := Lib.hid ((Fr.nil w).alloc (.map #[] 0))
  obtain ⟨e144, hu144, hz144⟩ := und144
  have HU := Lib.hid hu144
  have HZ0 := Lib.hid hz144
  clear h hS hlen hu144 hz144
  go_enter Tryz.func93, Tryz.ntmps93
  go_wp2_with fail
  go_loopw [10] (fun v6 wr => ∃ i : Nat, i ≤ S.length ∧ v6 = .int .i64 i ∧ MapL wr pkVal w.heap.size (leavesM (S.take i)) ∧ Fr w [] wr []) (fun v _ => S.length - (intOf v).toNat)
  case atStart => exact ⟨0, by omega, rfl, HM0.out, HF0.out⟩
  case round =>
    clear HM0 HF0 hmk
    obtain ⟨i, hi, rfl, hm, hF⟩ := hrel
    obtain ⟨W0, rfl⟩ : ∃ W0, W0 = wr := ⟨_, rfl⟩
    have HM := Lib.hid hm
    have HF := Lib.hid hF
    clear hm hF
    have hlen := HLEN.out
    by_cases hgo : i < S.length
    · have hli : (i : Int) < (S.length : Int) := by omega
      obtain ⟨x, hx⟩ : ∃ x, S[i]? = some x := ⟨_, List.getElem?_eq_getElem hgo⟩
      rcases HSR.out with ⟨h1, h2⟩ | ⟨g, o, cap', h1, hcells⟩
      · rw [h2] at hgo; simp at hgo
      simp only [Value.slice.injEq, true_and] at h1
      obtain ⟨rfl, rfl⟩ := h1
      have hsr : SR w (.slice (some ⟨g, o, none⟩) S.length cap) S := .inr ⟨g, o, cap, rfl, hcells⟩
      have hcw : ∀ (t : Nat) (u : Value), (cflat S)[t]? = some u → W0.cell? ⟨g, o + t, none⟩ = some u := by
        rcases hsr.ext HF.out with ⟨h3, _⟩ | ⟨g', o', c', h3, h4⟩
        · cases h3
        · simp only [Value.slice.injEq, Option.some.injEq, Addr.mk.injEq, true_and, and_true] at h3
          obtain ⟨⟨rfl, rfl⟩, _⟩ := h3
          exact h4
      have c0 : W0.cell? ⟨g, o + i * 3, none⟩ = some (.int .i64 x.a) := (SR.cellsAt hcw hx).1
      have c1 : W0.cell? ⟨g, o + i * 3 + 1, none⟩ = some (.int .i64 x.b) := (SR.cellsAt hcw hx).2.1
      have c2 : W0.cell? ⟨g, o + i * 3 + 2, none⟩ = some (.int .i64 x.h) := (SR.cellsAt hcw hx).2.2
      have HXM := Lib.hid (HS.out x (List.mem_of_getElem? hx))
      have HML := Lib.hid (leavesM_succ S i x hx)
      have hval := leavesM_lt (S.take i) (fun y hy => ⟨(HS.out y (List.mem_of_mem_take hy)).1, (HS.out y (List.mem_of_mem_take hy)).2.1⟩) [] (by simp)
      have HVL := Lib.hid (show (lookL (leavesM (S.take i)) (lowP x)).getD 0 < 4294967296 from lookL_lt hval _)
      have HLOW := Lib.hid (low_c x.a x.b (by have := HXM.out; omega) (by have := HXM.out; omega) (by have := HXM.out; omega) (by have := HXM.out; omega))
      have hb0 := heap_new W0 (.cells #[.int .i64 x.a, .int .i64 x.b, .int .i64 x.h] 89)
      have e0 : (W0.alloc (.cells #[.int .i64 x.a, .int .i64 x.b, .int .i64 x.h] 89)).cell? ⟨W0.heap.size, 0, none⟩ = some (.int .i64 x.a) := by rw [cell_of_heap hb0]; rfl
      have e1 : (W0.alloc (.cells #[.int .i64 x.a, .int .i64 x.b, .int .i64 x.h] 89)).cell? ⟨W0.heap.size, 1, none⟩ = some (.int .i64 x.b) := by rw [cell_of_heap hb0]; rfl
      have HB0 := Lib.hid hb0
      clear hx hcells hcw hsr hval hb0
      go_wp2_with fail
      refine (HLOW.out _).mono ?_
      rintro e w1 ⟨rfl, hf1⟩
      have HF1 := Lib.hid hf1
      clear hf1 e0 e1 c0 c1 c2
      go_wp2_with fail
      obtain ⟨f, hf⟩ : ∃ f, f = (lookL (leavesM (S.take i)) (lowP x)).getD 0 := ⟨_, rfl⟩
      have HFE := Lib.hid hf
      have hfa := ((Fr.nil W0).alloc (.cells #[.int .i64 x.a, .int .i64 x.b, .int .i64 x.h] 89)).trans HF1.out
      have hsz1 : W0.heap.size < w1.heap.size := Nat.lt_of_lt_of_le (by simp) HF1.out.size
      have hk1 := HF1.out.keep W0.heap.size (by simp) (by simp)
      rw [HB0.out] at hk1
      have hml : ∀ z : CW (w1.alloc (.cells #[.int .i64 (x.a - x.a % 4), .int .i64 (x.b - x.b % 4)] 65)), MapL z.x pkVal w.heap.size (leavesM (S.take i)) := fun z =>
        HM.out.same (((hfa.alloc _).trans z.h).keep _ HM.out.lt (by simp))
      have HMZ := Lib.hid hml
      have hxx : ∀ z : CW (w1.alloc (.cells #[.int .i64 (x.a - x.a % 4), .int .i64 (x.b - x.b % 4)] 65)), z.x.heap[W0.heap.size]? = some (.cells #[.int .i64 x.a, .int .i64 x.b, .int .i64 x.h] 89) ∧ z.x.heap[w1.heap.size]? = some (.cells #[.int .i64 (x.a - x.a % 4), .int .i64 (x.b - x.b % 4)] 65) := fun z =>
        ⟨by rw [z.h.keep _ (by simp; omega) (by simp), Below.heap_alloc _ _ _ hsz1]; exact hk1, by rw [z.h.keep _ (by simp) (by simp)]; exact heap_new _ _⟩
      have z0 : ∀ z : CW (w1.alloc (.cells #[.int .i64 (x.a - x.a % 4), .int .i64 (x.b - x.b % 4)] 65)), z.x.cell? ⟨W0.heap.size, 0, none⟩ = some (.int .i64 x.a) := fun z => by rw [cell_of_heap (hxx z).1]; rfl
      have z1 : ∀ z : CW (w1.alloc (.cells #[.int .i64 (x.a - x.a % 4), .int .i64 (x.b - x.b % 4)] 65)), z.x.cell? ⟨W0.heap.size, 1, none⟩ = some (.int .i64 x.b) := fun z => by rw [cell_of_heap (hxx z).1]; rfl
      have z2 : ∀ z : CW (w1.alloc (.cells #[.int .i64 (x.a - x.a % 4), .int .i64 (x.b - x.b % 4)] 65)), z.x.cell? ⟨W0.heap.size, 2, none⟩ = some (.int .i64 x.h) := fun z => by rw [cell_of_heap (hxx z).1]; rfl
      have z3 : ∀ z : CW (w1.alloc (.cells #[.int .i64 (x.a - x.a % 4), .int .i64 (x.b - x.b % 4)] 65)), z.x.cell? ⟨w1.heap.size, 0, none⟩ = some (.int .i64 (x.a - x.a % 4)) := fun z => by rw [cell_of_heap (hxx z).2]; rfl
      have z4 : ∀ z : CW (w1.alloc (.cells #[.int .i64 (x.a - x.a % 4), .int .i64 (x.b - x.b % 4)] 65)), z.x.cell? ⟨w1.heap.size, 1, none⟩ = some (.int .i64 (x.b - x.b % 4)) := fun z => by rw [cell_of_heap (hxx z).2]; rfl
      have hlk : ∀ z : CW (w1.alloc (.cells #[.int .i64 (x.a - x.a % 4), .int .i64 (x.b - x.b % 4)] 65)), (Instr.lookup 144 (.map (some w.heap.size)) (.agg #[.int .i64 (x.a - x.a % 4), .int .i64 (x.b - x.b % 4)]) false).run Tryz.prog z.x = .ok (.int .u32 f) z.x := fun z => by
        rw [hf]; exact (hml z).look1 pk_keys HU.out HZ0.out (lowP x)
      have HF2 := Lib.hid (hfa.alloc (.cells #[.int .i64 (x.a - x.a % 4), .int .i64 (x.b - x.b % 4)] 65))
      obtain ⟨hn, hnh⟩ : ∃ hn : Nat, x.h = hn := ⟨x.h.toNat, by have := HXM.out; omega⟩
      have HHN := Lib.hid hnh
      have HWI := Lib.hid (lwith_c f hn x.a x.b (by rw [hf]; exact HVL.out) (by have := HXM.out; omega) (by have := HXM.out; omega) (by have := HXM.out; omega) (by have := HXM.out; omega) (by have := HXM.out; omega))
      simp only [hnh] at z2
      clear hf hml hxx hk1 hsz1 hfa hnh
      refine wp_region_tail 7 (by kernel_rfl) (by kernel_rfl) (CW (w1.alloc (.cells #[.int .i64 (x.a - x.a % 4), .int .i64 (x.b - x.b % 4)] 65))) Cls.x ⟨⟨_, (Fr.nil _).drew⟩, rfl⟩ ?_
      simp only [List.take_succ_cons, List.take_zero, List.drop_succ_cons, List.drop_zero]
      repeat (go_big_quiet_step (((go_at_call 159; exact Calls.cls (HWI.out _)))))
      refine wpQuiet_nil ?_
      intro y
      obtain ⟨ob, hrun, hmap⟩ := (HMZ.out y).putF pk_keys HU.out (lowP x) (withF f (x.a % 4).toNat (x.b % 4).toNat hn)
      have hrun' : (Instr.mapUpdate 144 (.map (some w.heap.size)) (.agg #[.int .i64 (x.a - x.a % 4), .int .i64 (x.b - x.b % 4)]) (.int .u32 (withF f (x.a % 4).toNat (x.b % 4).toNat hn : Nat))).run Tryz.prog y.x = .ok () (putObj y.x w.heap.size ob) := hrun
      have hmap' : MapL (putObj y.x w.heap.size ob) pkVal w.heap.size (leavesM (S.take (i + 1))) := by
        rw [HML.out]
        unfold leafPut
        rw [← HFE.out, show x.h.toNat = hn by rw [HHN.out]; rfl]
        exact hmap
      have HMP := Lib.hid hmap'
      have hfy := (HF.out.trans HF2.out).trans y.h
      have HFP := Lib.hid (show Fr w [] (putObj y.x w.heap.size ob) [] from
        ⟨hfy.os, hfy.tape, hfy.output, by simpa [putObj] using hfy.size, fun b hb hn => by rw [putObj_ne _ _ (by omega)]; exact hfy.keep b hb hn, by simp, by simp⟩)
      clear hrun hmap hmap' hfy hlk z0 z1 z2 z3 z4
      go_wp2_with fail
      refine ⟨⟨i + 1, by omega, by go_num, HMP.out, HFP.out⟩, by simp only [intOf]; omega⟩
    · have hni : ¬ (i : Int) < (S.length : Int) := by omega
      have hm := HM.out
      rw [List.take_of_length_le (by omega)] at hm
      have HM9 := Lib.hid hm
      clear hm
      go_wp2_with fail
      go_ret
      exact ⟨rfl, HM9.out, HF.out⟩
end Go.Proofs.YtnkdbpjmepfblaaGreatDoor

/- One cell alone. -/
namespace Go.Proofs.YtnkdbpjmepfblaaGreatDoor
open Go Go.RowKit

def tb1 : Tb := ⟨1, 0, 0, 1, 0⟩
def one1 : List Ce := [⟨0, 0, 0⟩]
theorem tb1_fit : tb1.fit := fit_of1 0 1 (by decide) (by decide) (by decide)
theorem setPl_one (x y : Int) (k : Nat) : setPl one1 x y k = decide (x = 0 ∧ y = 0 ∧ k = 0) := by
  unfold setPl one1
  rw [decide_eq_decide]
  simp
  omega
theorem one_stays : (knOf tb1).next (setPl one1) = setPl one1 := by
  funext x y k
  unfold Kn.next
  rw [setPl_one]
  by_cases hk : k = 0
  · subst hk
    by_cases hxy : x = 0 ∧ y = 0
    · obtain ⟨rfl, rfl⟩ := hxy
      have hn : nbrs (setPl one1) ((knOf tb1).p 0) 0 0 = 0 := by
        unfold nbrs
        have : ((knOf tb1).p 0).map (fun q => if setPl one1 (0 + q.a) (0 + q.b) q.h then q.w else 0) = ((knOf tb1).p 0).map (fun _ => 0) := by
          apply List.map_congr_left
          intro q hq
          have hne : ¬ (q.a = 0 ∧ q.b = 0) := by
            have : ∀ q ∈ (knOf tb1).p 0, ¬ (q.a = 0 ∧ q.b = 0) := by decide
            exact this q hq
          rw [setPl_one, if_neg]
          simp
          omega
        rw [this]
        decide
      rw [hn]
      simp [Tb.next, Tb.row, knOf, tb1, Tb.halves]
    · have hf : decide (x = 0 ∧ y = 0 ∧ 0 = 0) = false := decide_eq_false (fun h => hxy ⟨h.1, h.2.1⟩)
      rw [hf]
      simp [Tb.next, Tb.row, knOf, tb1]
  · rw [decide_eq_false (show ¬ k < (knOf tb1).T.halves by simp [knOf, tb1, Tb.halves]; omega), decide_eq_false (fun h => hk h.2.2)]
    rfl
theorem one_evo : ∀ n, (knOf tb1).evo n (setPl one1) = setPl one1
  | 0 => rfl
  | n + 1 => by
    show (knOf tb1).next _ = _
    rw [one_evo n, one_stays]
theorem one_box : inBox (setPl one1) 0 0 1 := by
  intro x y k h
  rw [setPl_one] at h
  have := of_decide_eq_true h
  omega
theorem wnT_1_3 : wnT 1 3 = 4640 := by decide +kernel
theorem wnT_13_80 : wnT 13 80 ≤ 1500000 := by decide +kernel
end Go.Proofs.YtnkdbpjmepfblaaGreatDoor
