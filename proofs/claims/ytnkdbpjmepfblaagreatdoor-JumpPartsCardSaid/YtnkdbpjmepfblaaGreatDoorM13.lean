/- Texts of the walk and its plain law, merged: BlA, BlB, BlC, BlD, BlE. -/
import Derived.Test.YtnkdbpjmepfblaaGreatDoorM06
import Derived.Laws.BitsAllLaws
/- Blocks: State, Middle, Empty, Of. -/
namespace Go.Proofs.YtnkdbpjmepfblaaGreatDoor
open Go Go.RowKit

/-- The rows of a block. -/
structure B8 where
  r : Nat → Nat
def B8.ok (B : B8) : Prop := ∀ b, B.r b < 65536
def B8.val (B : B8) : Value := .agg #[.int .u16 (B.r 0), .int .u16 (B.r 1), .int .u16 (B.r 2), .int .u16 (B.r 3), .int .u16 (B.r 4), .int .u16 (B.r 5), .int .u16 (B.r 6), .int .u16 (B.r 7)]
def B8.box (B : B8) : Obj := .cells #[.int .u16 (B.r 0), .int .u16 (B.r 1), .int .u16 (B.r 2), .int .u16 (B.r 3), .int .u16 (B.r 4), .int .u16 (B.r 5), .int .u16 (B.r 6), .int .u16 (B.r 7)] 309
theorem B8.cell {w : World} {b : Nat} {B : B8} (h : w.heap[b]? = some B.box) (j : Nat) (hj : j < 8) : w.cell? ⟨b, j, none⟩ = some (.int .u16 (B.r j)) := by
  unfold B8.box at h
  rw [cell_of_heap h]
  have hc : j = 0 ∨ j = 1 ∨ j = 2 ∨ j = 3 ∨ j = 4 ∨ j = 5 ∨ j = 6 ∨ j = 7 := by omega
  rcases hc with rfl | rfl | rfl | rfl | rfl | rfl | rfl | rfl <;> rfl
def B8.state (B : B8) (a b : Int) : Nat := if 0 ≤ a ∧ a < 8 ∧ 0 ≤ b ∧ b < 8 then (B.r b.toNat) / 2 ^ (2 * a.toNat) % 4 else 0

theorem i64_and_mask (k m : Nat) (hk : k ≤ 62) (hm : m = 2 ^ k - 1) (n : Int) : bits .and .i64 n (m : Int) = n % ((2 ^ k : Nat) : Int) := by
  have hp : 2 ^ k ≤ 2 ^ 62 := Nat.pow_le_pow_right (by decide) hk
  have hpos := Nat.two_pow_pos k
  have h127 : (BitVec.ofInt 64 (m : Int)).toNat = 2 ^ k - 1 := by
    rw [BitVec.ofInt_natCast, BitVec.toNat_ofNat, hm]; exact Nat.mod_eq_of_lt (by omega)
  have key : (BitVec.ofInt 64 n &&& BitVec.ofInt 64 (m : Int)).toNat = (n % ((2 ^ 64 : Nat) : Int)).toNat % 2 ^ k := by
    rw [BitVec.toNat_and, BitVec.toNat_ofInt, h127, Nat.and_two_pow_sub_one_eq_mod]
  show IntKind.i64.wrap ((BitVec.ofInt 64 n &&& BitVec.ofInt 64 (m : Int)).toNat : Nat) = _
  rw [key, IntKind.wrap_i64]
  have hd : (2 ^ 64 : Nat) = 2 ^ k * 2 ^ (64 - k) := by rw [← Nat.pow_add]; congr 1; omega
  have e1 : (((n % ((2 ^ 64 : Nat) : Int)).toNat % 2 ^ k : Nat) : Int) = n % ((2 ^ k : Nat) : Int) := by
    rw [Int.natCast_emod, Int.toNat_of_nonneg (Int.emod_nonneg _ (by decide)), hd, Int.natCast_mul]
    exact Int.emod_emod_of_dvd n ⟨_, rfl⟩
  rw [e1]
  have h1 : 0 ≤ n % ((2 ^ k : Nat) : Int) := Int.emod_nonneg _ (by omega)
  have h2 : n % ((2 ^ k : Nat) : Int) < ((2 ^ k : Nat) : Int) := Int.emod_lt_of_pos _ (by omega)
  omega
theorem i64_and1 (n : Int) : bits .and .i64 n 1 = n % 2 := i64_and_mask 1 1 (by decide) rfl n
theorem i64_and3 (n : Int) : bits .and .i64 n 3 = n % 4 := i64_and_mask 2 3 (by decide) rfl n
theorem wrap64_nat (n : Nat) (h : n < 9223372036854775808) : wrap64 (n : Int) = n := by unfold wrap64; omega

set_option maxRecDepth 100000 in
set_option maxHeartbeats 800000 in
theorem state_c (w : World) (B : B8) (hB : B.ok) (a b : Int) (ha : -1000 < a) (ha' : a < 1000) (hb : -1000 < b) (hb' : b < 1000) :
    Calls Tryz.prog 242 #[B.val, .int .i64 a, .int .i64 b] w fun e w' => e = .returned (.int .i64 (B.state a b)) ∧ Fr w [] w' [] := by
  have hf : Fr w [] (w.alloc B.box) [] := (Fr.nil w).alloc _
  have HF := Lib.hid hf
  have HBX := Lib.hid (heap_new w B.box)
  clear hf
  by_cases hin : 0 ≤ a ∧ a < 8 ∧ 0 ≤ b ∧ b < 8
  · have HIN := Lib.hid hin
    obtain ⟨h1, h2, h3, h4⟩ := hin
    obtain ⟨a, rfl⟩ : ∃ n : Nat, a = n := ⟨a.toNat, by omega⟩
    obtain ⟨b, rfl⟩ : ∃ n : Nat, b = n := ⟨b.toNat, by omega⟩
    have hcl := B8.cell HBX.out b (by omega)
    have hr := hB b
    have HB := Lib.hid hB
    clear hB
    unfold B8.val
    unfold B8.box at hcl
    go_enter Tryz.func242, Tryz.ntmps242
    go_wp2_with fail
    go_ret
    refine ⟨ret_int ?_, HF.out⟩
    unfold B8.state
    rw [if_pos HIN.out, i64_and3, show ((B.r b : Nat) : Int) / 2 ^ (2 * a) = ((B.r b / 2 ^ (2 * a) : Nat) : Int) by norm_cast]
    have hle : B.r b / 2 ^ (2 * a) ≤ B.r b := Nat.div_le_self _ _
    rw [wrap64_nat _ (by omega)]
    simp
  · have hst : B.state a b = 0 := by unfold B8.state; rw [if_neg hin]
    rw [hst]
    have hor : a < 0 ∨ (0 ≤ a ∧ 8 ≤ a) ∨ (0 ≤ a ∧ a < 8 ∧ b < 0) ∨ (0 ≤ a ∧ a < 8 ∧ 0 ≤ b ∧ 8 ≤ b) := by omega
    clear hin hst
    unfold B8.val
    rcases hor with h1 | ⟨h1, h2⟩ | ⟨h1, h2, h3⟩ | ⟨h1, h2, h3, h4⟩ <;>
    · go_enter Tryz.func242, Tryz.ntmps242
      go_wp2_with fail
      go_ret
      exact ⟨rfl, HF.out⟩
end Go.Proofs.YtnkdbpjmepfblaaGreatDoor

/- Blocks: Middle, Empty. -/
namespace Go.Proofs.YtnkdbpjmepfblaaGreatDoor
open Go Go.RowKit

def B8.midS (B : B8) : Nat → Nat
  | 0 => 0
  | k + 1 => B.midS k ||| (B.r (k + 2) / 16 % 256) * 2 ^ (8 * k)
theorem B8.midS_lt (B : B8) : ∀ k, k ≤ 4 → B.midS k < 2 ^ (8 * k) := by
  intro k
  induction k with
  | zero => intro _; show (0 : Nat) < 2 ^ 0; decide
  | succ k ih =>
    intro hk
    have h1 := ih (by omega)
    have hp := Nat.two_pow_pos (8 * k)
    have e : 2 ^ (8 * (k + 1)) = 256 * 2 ^ (8 * k) := by rw [show 8 * (k + 1) = 8 * k + 8 by omega, Nat.pow_add]; omega
    refine Nat.or_lt_two_pow ?_ ?_
    · rw [e]; omega
    · rw [e]; exact Nat.mul_lt_mul_of_pos_right (Nat.mod_lt _ (by decide)) hp
theorem u16_and255 (n : Nat) (h : n < 65536) : bits .and .u16 (n : Int) 255 = ((n % 256 : Nat) : Int) := by
  have := u16_and_nat n 255 h (by decide)
  rw [nat_mask8] at this
  exact this
set_option maxRecDepth 100000 in
set_option maxHeartbeats 800000 in
theorem middle8_c (w : World) (B : B8) (hB : B.ok) :
    Calls Tryz.prog 223 #[B.val] w fun e w' => e = .returned (.int .u32 (B.midS 4)) ∧ Fr w [] w' [] := by
  have hf : Fr w [] (w.alloc B.box) [] := (Fr.nil w).alloc _
  have HF := Lib.hid hf
  have HBX := Lib.hid (heap_new w B.box)
  clear hf
  unfold B8.val
  go_enter Tryz.func223, Tryz.ntmps223
  go_wp2_with fail
  go_loop [3, 5] (fun f n => ∃ k : Nat, k ≤ 4 ∧ n = .int .i64 k ∧ f = .int .u32 (B.midS k)) (fun _ n => 4 - (intOf n).toNat)
  case atStart => exact ⟨0, by omega, rfl, rfl⟩
  case round =>
    obtain ⟨k, hk, rfl, rfl⟩ := hrel
    by_cases hk4 : k < 4
    · have hcl := B8.cell HBX.out (k + 2) (by omega)
      have hr := hB (k + 2)
      have hm := B.midS_lt k hk
      have HM := Lib.hid hm
      have HB := Lib.hid hB
      unfold B8.box at hcl
      clear hB hm
      go_wp2_with fail
      refine ⟨⟨k + 1, by omega, rfl, ?_⟩, by simp only [intOf]; omega⟩
      congr 1
      rw [show ((B.r (k + 2) : Nat) : Int) / 16 = ((B.r (k + 2) / 16 : Nat) : Int) by norm_cast, u16_and255 _ (by omega)]
      have hp : 2 ^ (8 * k) ≤ 2 ^ 24 := Nat.pow_le_pow_right (by decide) (by omega)
      have hx : B.r (k + 2) / 16 % 256 < 256 := Nat.mod_lt _ (by decide)
      have hmul : (B.r (k + 2) / 16 % 256) * 2 ^ (8 * k) < 4294967296 := by
        have : (B.r (k + 2) / 16 % 256) * 2 ^ (8 * k) ≤ 255 * 2 ^ 24 := Nat.mul_le_mul (by omega) hp
        omega
      have hml : B.midS k < 4294967296 := by have := HM.out; have hp2 : 2 ^ (8 * k) ≤ 2 ^ 24 := hp; omega
      have e : ((B.r (k + 2) / 16 % 256 : Nat) : Int) % 4294967296 * 2 ^ (8 * k) % 4294967296 = (((B.r (k + 2) / 16 % 256) * 2 ^ (8 * k) : Nat) : Int) := by
        have h1 : ((B.r (k + 2) / 16 % 256 : Nat) : Int) % 4294967296 = ((B.r (k + 2) / 16 % 256 : Nat) : Int) := by omega
        rw [h1, show ((B.r (k + 2) / 16 % 256 : Nat) : Int) * 2 ^ (8 * k) = (((B.r (k + 2) / 16 % 256) * 2 ^ (8 * k) : Nat) : Int) by norm_cast]
        omega
      rw [e, u32_or_nat _ _ hml hmul]
      rfl
    · have h4 : k = 4 := by omega
      subst h4
      go_wp2_with fail
      go_ret
      exact ⟨rfl, HF.out⟩

theorem nat_or_testBit_shift (v s t : Nat) : (v * 2 ^ s).testBit t = (decide (s ≤ t) && v.testBit (t - s)) := by
  rw [Nat.testBit_mul_two_pow]
/-- The bits of the middle leaf. -/
theorem B8.mid_bit (B : B8) {x y h : Nat} (hx : x < 4) (hy : y < 4) (hh : h < 2) : (B.midS 4).testBit (2 * (4 * y + x) + h) = (B.r (y + 2)).testBit (2 * (x + 2) + h) := by
  have hw : ∀ (v k : Nat), (v / 16 % 256 * 2 ^ (8 * k)).testBit (2 * (4 * y + x) + h) = (decide (k = y) && v.testBit (2 * (x + 2) + h)) := by
    intro v k
    rw [Nat.testBit_mul_two_pow]
    by_cases hk : k = y
    · subst hk
      have e : 2 * (4 * k + x) + h - 8 * k = 2 * x + h := by omega
      rw [e, show (256 : Nat) = 2 ^ 8 by decide, Nat.testBit_mod_two_pow, show (16 : Nat) = 2 ^ 4 by decide, Nat.testBit_div_two_pow]
      have h1 : decide (8 * k ≤ 2 * (4 * k + x) + h) = true := decide_eq_true (by omega)
      have h2 : decide (2 * x + h < 8) = true := decide_eq_true (by omega)
      rw [h1, h2, show 2 * x + h + 4 = 2 * (x + 2) + h by omega]
      simp
    · rw [show decide (k = y) = false from decide_eq_false hk]
      by_cases hlt : 8 * k ≤ 2 * (4 * y + x) + h
      · have h2 : ¬ (2 * (4 * y + x) + h - 8 * k < 8) := by omega
        rw [show (256 : Nat) = 2 ^ 8 by decide, Nat.testBit_mod_two_pow, decide_eq_false h2]
        simp
      · rw [decide_eq_false hlt]; simp
  simp only [B8.midS, Nat.testBit_or, hw, Nat.zero_testBit]
  have hc : y = 0 ∨ y = 1 ∨ y = 2 ∨ y = 3 := by omega
  rcases hc with rfl | rfl | rfl | rfl <;> simp
def B8.isNone (B : B8) : Bool := B.r 0 == 0 && (B.r 1 == 0 && (B.r 2 == 0 && (B.r 3 == 0 && (B.r 4 == 0 && (B.r 5 == 0 && (B.r 6 == 0 && B.r 7 == 0))))))
theorem eqArr8 (B : B8) (w : World) : (Op.equalIn 10000 309 B.val (.agg #[.int .u16 0, .int .u16 0, .int .u16 0, .int .u16 0, .int .u16 0, .int .u16 0, .int .u16 0, .int .u16 0])).run Tryz.prog w = .ok B.isNone w := by
  have hs : ∀ w, (sizeOf 307).run Tryz.prog w = .ok 1 w := fun w => by kernel_rfl
  have hp0 : ∀ w (x0 x1 x2 x3 x4 x5 x6 x7 : Value), (part 307 #[x0, x1, x2, x3, x4, x5, x6, x7] 0).run Tryz.prog w = .ok x0 w := fun w _ _ _ _ _ _ _ _ => by kernel_rfl
  have hp1 : ∀ w (x0 x1 x2 x3 x4 x5 x6 x7 : Value), (part 307 #[x0, x1, x2, x3, x4, x5, x6, x7] 1).run Tryz.prog w = .ok x1 w := fun w _ _ _ _ _ _ _ _ => by kernel_rfl
  have hp2 : ∀ w (x0 x1 x2 x3 x4 x5 x6 x7 : Value), (part 307 #[x0, x1, x2, x3, x4, x5, x6, x7] 2).run Tryz.prog w = .ok x2 w := fun w _ _ _ _ _ _ _ _ => by kernel_rfl
  have hp3 : ∀ w (x0 x1 x2 x3 x4 x5 x6 x7 : Value), (part 307 #[x0, x1, x2, x3, x4, x5, x6, x7] 3).run Tryz.prog w = .ok x3 w := fun w _ _ _ _ _ _ _ _ => by kernel_rfl
  have hp4 : ∀ w (x0 x1 x2 x3 x4 x5 x6 x7 : Value), (part 307 #[x0, x1, x2, x3, x4, x5, x6, x7] 4).run Tryz.prog w = .ok x4 w := fun w _ _ _ _ _ _ _ _ => by kernel_rfl
  have hp5 : ∀ w (x0 x1 x2 x3 x4 x5 x6 x7 : Value), (part 307 #[x0, x1, x2, x3, x4, x5, x6, x7] 5).run Tryz.prog w = .ok x5 w := fun w _ _ _ _ _ _ _ _ => by kernel_rfl
  have hp6 : ∀ w (x0 x1 x2 x3 x4 x5 x6 x7 : Value), (part 307 #[x0, x1, x2, x3, x4, x5, x6, x7] 6).run Tryz.prog w = .ok x6 w := fun w _ _ _ _ _ _ _ _ => by kernel_rfl
  have hp7 : ∀ w (x0 x1 x2 x3 x4 x5 x6 x7 : Value), (part 307 #[x0, x1, x2, x3, x4, x5, x6, x7] 7).run Tryz.prog w = .ok x7 w := fun w _ _ _ _ _ _ _ _ => by kernel_rfl
  have he : ∀ w d (a b : Int), (Op.equalIn (d + 1) 307 (.int .u16 a) (.int .u16 b)).run Tryz.prog w = .ok (a == b) w := fun w d a b => run_equalIn_int w d 307 .u16 .u16 a b Tryz.underlying307
  unfold B8.val B8.isNone
  have hc : ∀ n : Nat, ((n : Int) == 0) = (n == 0) := fun n => by rw [Bool.eq_iff_iff]; simp
  rw [show (10000 : Nat) = 9998 + 2 from rfl, Op.equalIn]
  simp only [Sem.run_bind, run_underlying Tryz.underlying309, Result.andThen_ok, hs]
  simp [List.range', hp0, hp1, hp2, hp3, hp4, hp5, hp6, hp7, he, hc, Sem.run_bind]
  by_cases h0 : B.r 0 = 0
  case neg => simp [h0]
  by_cases h1 : B.r 1 = 0
  case neg => simp [h0, h1]
  by_cases h2 : B.r 2 = 0
  case neg => simp [h0, h1, h2]
  by_cases h3 : B.r 3 = 0
  case neg => simp [h0, h1, h2, h3]
  by_cases h4 : B.r 4 = 0
  case neg => simp [h0, h1, h2, h3, h4]
  by_cases h5 : B.r 5 = 0
  case neg => simp [h0, h1, h2, h3, h4, h5]
  by_cases h6 : B.r 6 = 0
  case neg => simp [h0, h1, h2, h3, h4, h5, h6]
  by_cases h7 : B.r 7 = 0
  case neg => simp [h0, h1, h2, h3, h4, h5, h6, h7]
  simp [h0, h1, h2, h3, h4, h5, h6, h7]
set_option maxRecDepth 100000 in
set_option maxHeartbeats 800000 in
theorem empty8_c (w : World) (B : B8) :
    Calls Tryz.prog 222 #[B.val] w fun e w' => e = .returned (.bool B.isNone) ∧ Fr w [] w' [] := by
  have hf : Fr w [] (w.alloc B.box) [] := (Fr.nil w).alloc _
  have HF := Lib.hid hf
  have hq := eqArr8 B
  clear hf
  unfold B8.val at hq ⊢
  go_enter Tryz.func222, Tryz.ntmps222
  go_wp2_with fail
  go_ret
  exact ⟨rfl, HF.out⟩
end Go.Proofs.YtnkdbpjmepfblaaGreatDoor

/- Blocks: Of. -/
namespace Go.Proofs.YtnkdbpjmepfblaaGreatDoor
open Go Go.RowKit

def B8.upd (B : B8) (k v : Nat) : B8 := ⟨fun j => if j = k then v else B.r j⟩
theorem B8.setCell {w : World} {b : Nat} {B : B8} (h : w.heap[b]? = some B.box) (k : Nat) (hk : k < 8) (v : Nat) :
    (w.setCell ⟨b, k, none⟩ (.int .u16 v)).heap[b]? = some (B.upd k v).box := by
  have hc : k = 0 ∨ k = 1 ∨ k = 2 ∨ k = 3 ∨ k = 4 ∨ k = 5 ∨ k = 6 ∨ k = 7 := by omega
  unfold B8.box at h
  rw [heap_setCell_same _ _ _ _ _ _ h]
  rcases hc with rfl | rfl | rfl | rfl | rfl | rfl | rfl | rfl <;> rfl
theorem B8.fz {w : World} {b : Nat} {B : B8} (h : w.heap[b]? = some B.box) (k : Nat) : w.frozen? ⟨b, k, none⟩ = false := frozen_of_row w b k _ _ h
def K4.row (K : K4) (b : Nat) : Nat := (K.k (b / 4 * 2) / 2 ^ (b % 4 * 8) % 256) ||| (K.k (b / 4 * 2 + 1) / 2 ^ (b % 4 * 8) % 256) * 256
theorem K4.row_lt (K : K4) (b : Nat) : K.row b < 65536 := by
  have h1 : K.k (b / 4 * 2) / 2 ^ (b % 4 * 8) % 256 < 256 := Nat.mod_lt _ (by decide)
  have h2 : K.k (b / 4 * 2 + 1) / 2 ^ (b % 4 * 8) % 256 < 256 := Nat.mod_lt _ (by decide)
  exact Nat.or_lt_two_pow (n := 16) (by omega) (by omega)
def K4.part (K : K4) (n : Nat) : B8 := ⟨fun j => if j < n then K.row j else 0⟩
def K4.block (K : K4) : B8 := ⟨fun j => if j < 8 then K.row j else 0⟩
theorem K4.block_ok (K : K4) : K.block.ok := by
  intro b
  show (if b < 8 then K.row b else 0) < 65536
  split
  · exact K.row_lt b
  · decide
theorem K4.part_upd (K : K4) (n : Nat) : (K.part n).upd n (K.row n) = K.part (n + 1) := by
  unfold B8.upd K4.part
  congr 1
  funext j
  simp only
  by_cases h : j = n
  · subst h; simp
  · rw [if_neg h]
    by_cases h2 : j < n
    · rw [if_pos h2, if_pos (by omega)]
    · rw [if_neg h2, if_neg (by omega)]
def K4.qbox (K : K4) : Obj := .cells #[.int .u32 K.a, .int .u32 K.b, .int .u32 K.c, .int .u32 K.d] 271
theorem K4.qcell {w : World} {b : Nat} {K : K4} (h : w.heap[b]? = some K.qbox) (j : Nat) (hj : j < 4) : w.cell? ⟨b, j, none⟩ = some (.int .u32 (K.k j)) := by
  unfold K4.qbox at h
  rw [cell_of_heap h]
  have hc : j = 0 ∨ j = 1 ∨ j = 2 ∨ j = 3 := by omega
  rcases hc with rfl | rfl | rfl | rfl <;> rfl

theorem row_eq (p q s : Nat) (hp : p < 4294967296) (hq : q < 4294967296) :
    bits .or .u16 (IntKind.u16.wrap (bits .and .u32 ((p : Int) / 2 ^ s) 255)) (IntKind.u16.wrap (IntKind.u16.wrap (bits .and .u32 ((q : Int) / 2 ^ s) 255) * 256)) =
      (((p / 2 ^ s % 256) ||| (q / 2 ^ s % 256) * 256 : Nat) : Int) := by
  have h : ∀ p : Nat, p < 4294967296 → IntKind.u16.wrap (bits .and .u32 ((p : Int) / 2 ^ s) 255) = ((p / 2 ^ s % 256 : Nat) : Int) := by
    intro p hp
    have hle : p / 2 ^ s ≤ p := Nat.div_le_self _ _
    have h1 := u32_and_nat (p / 2 ^ s) 255 (by omega) (by decide)
    rw [nat_mask8] at h1
    rw [show (p : Int) / 2 ^ s = ((p / 2 ^ s : Nat) : Int) by norm_cast, show (255 : Int) = ((255 : Nat) : Int) from rfl, h1, IntKind.wrap_u16]
    omega
  rw [h p hp, h q hq]
  have e : IntKind.u16.wrap (((q / 2 ^ s % 256 : Nat) : Int) * 256) = (((q / 2 ^ s % 256) * 256 : Nat) : Int) := by rw [IntKind.wrap_u16]; omega
  rw [e, u16_or_nat _ _ (by omega) (by omega)]
set_option maxRecDepth 100000 in
set_option maxHeartbeats 1600000 in
theorem of8_c (w : World) (K : K4) (hK : K.ok) :
    Calls Tryz.prog 221 #[K.val] w fun e w' => e = .returned K.block.val ∧ Fr w [] w' [] := by
  have hq := heap_new w K.qbox
  have HQ := Lib.hid hq
  have HK := Lib.hid hK
  clear hq hK
  unfold K4.val
  go_enter Tryz.func221, Tryz.ntmps221
  go_wp2_with fail
  go_loopw [7] (fun n wr => ∃ k : Nat, k ≤ 8 ∧ n = .int .i64 k ∧ Fr w [] wr [] ∧ w.heap.size + 1 + 1 < wr.heap.size ∧ wr.heap[w.heap.size]? = some K.qbox ∧ wr.heap[w.heap.size + 1]? = some (K.part 0).box ∧ wr.heap[w.heap.size + 1 + 1]? = some (K.part k).box) (fun n _ => 8 - (intOf n).toNat)
  case atStart =>
    refine ⟨0, by omega, rfl, (((Fr.nil w).alloc _).alloc _).alloc _, by simp, ?_, ?_, ?_⟩
    · rw [Below.heap_alloc _ _ _ (by simp; omega), Below.heap_alloc _ _ _ (by simp)]; exact HQ.out
    · rw [Below.heap_alloc _ _ _ (by simp)]
      have := heap_new (w.alloc K.qbox) (K.part 0).box
      rw [World.size_alloc] at this
      exact this
    · have := heap_new ((w.alloc K.qbox).alloc (K.part 0).box) (K.part 0).box
      rw [World.size_alloc, World.size_alloc] at this
      exact this
  case round =>
    clear HQ
    obtain ⟨k, hk, rfl, hF, hsz, hq, hr, hb⟩ := hrel
    obtain ⟨W0, rfl⟩ : ∃ W0, W0 = wr := ⟨_, rfl⟩
    have HF := Lib.hid hF
    have HR := Lib.hid hr
    have HQ := Lib.hid hq
    have HB := Lib.hid hb
    clear hF hr hq hb
    by_cases hk8 : k < 8
    · go_wp2_with fail
      have hqx : ∀ y : CW W0, y.x.heap[w.heap.size]? = some K.qbox := fun y => by rw [y.h.keep _ (by omega) (by simp)]; exact HQ.out
      have hc0 : ∀ y : CW W0, y.x.cell? ⟨w.heap.size, k / 4 * 2, none⟩ = some (.int .u32 (K.k (k / 4 * 2))) := fun y => K4.qcell (hqx y) _ (by omega)
      have hc1 : ∀ y : CW W0, y.x.cell? ⟨w.heap.size, k / 4 * 2 + 1, none⟩ = some (.int .u32 (K.k (k / 4 * 2 + 1))) := fun y => K4.qcell (hqx y) _ (by omega)
      have HQX := Lib.hid hqx
      clear hqx
      refine wp_region_tail 19 (by kernel_rfl) (by kernel_rfl) (CW W0) Cls.x ⟨⟨_, (Fr.nil W0).drew⟩, rfl⟩ ?_
      simp only [List.take_succ_cons, List.take_zero, List.drop_succ_cons, List.drop_zero]
      repeat (go_big_quiet_step (fail))
      refine wpQuiet_nil ?_
      intro y
      have hy : Fr W0 [] y.x [] := y.h
      have hby : y.x.heap[w.heap.size + 1 + 1]? = some (K.part k).box := by rw [hy.keep _ hsz (by simp)]; exact HB.out
      have hry : y.x.heap[w.heap.size + 1]? = some (K.part 0).box := by rw [hy.keep _ (by omega) (by simp)]; exact HR.out
      have hqy := HQX.out y
      have hfz := B8.fz hby k
      have hcl := B8.cell hby k hk8
      have hFy := HF.out.trans hy
      have hszy : w.heap.size + 1 + 1 < y.x.heap.size := Nat.lt_of_lt_of_le hsz hy.size
      generalize y.x = W1 at *
      clear y hc0 hc1 HQX HF HR HQ HB hy
      have HBY := Lib.hid hby
      have HRY := Lib.hid hry
      have HQY := Lib.hid hqy
      have HFY := Lib.hid hFy
      clear hby hry hqy hFy
      go_wp2_with fail
      have hrow := row_eq (K.k (k / 4 * 2)) (K.k (k / 4 * 2 + 1)) (k % 4 * 8) (K4.kLt HK.out _ (by omega)) (K4.kLt HK.out _ (by omega))
      rw [hrow]
      refine ⟨⟨k + 1, by omega, rfl, HFY.out.setCell (by show w.heap.size ≤ w.heap.size + 1 + 1; omega) _, by simpa using hszy, ?_, ?_, ?_⟩, by simp only [intOf]; omega⟩
      · rw [World.heap_setCell_ne _ _ _ _ (by show w.heap.size ≠ w.heap.size + 1 + 1; omega)]; exact HQY.out
      · rw [World.heap_setCell_ne _ _ _ _ (by show w.heap.size + 1 ≠ w.heap.size + 1 + 1; omega)]; exact HRY.out
      · have := B8.setCell HBY.out k hk8 (K.row k)
        rw [K.part_upd] at this
        exact this
    · have h8 : k = 8 := by omega
      subst h8
      have hz : ∀ j, W0.frozen? ⟨w.heap.size + 1, j, none⟩ = false := fun j => B8.fz HR.out j
      have c0 : W0.cell? ⟨w.heap.size + 1 + 1, 0, none⟩ = some (.int .u16 (K.row 0)) := B8.cell HB.out 0 (by decide)
      have d0 : W0.cell? ⟨w.heap.size + 1, 0, none⟩ = some (.int .u16 (0 : Int)) := B8.cell HR.out 0 (by decide)
      have c1 : W0.cell? ⟨w.heap.size + 1 + 1, 1, none⟩ = some (.int .u16 (K.row 1)) := B8.cell HB.out 1 (by decide)
      have d1 : W0.cell? ⟨w.heap.size + 1, 1, none⟩ = some (.int .u16 (0 : Int)) := B8.cell HR.out 1 (by decide)
      have c2 : W0.cell? ⟨w.heap.size + 1 + 1, 2, none⟩ = some (.int .u16 (K.row 2)) := B8.cell HB.out 2 (by decide)
      have d2 : W0.cell? ⟨w.heap.size + 1, 2, none⟩ = some (.int .u16 (0 : Int)) := B8.cell HR.out 2 (by decide)
      have c3 : W0.cell? ⟨w.heap.size + 1 + 1, 3, none⟩ = some (.int .u16 (K.row 3)) := B8.cell HB.out 3 (by decide)
      have d3 : W0.cell? ⟨w.heap.size + 1, 3, none⟩ = some (.int .u16 (0 : Int)) := B8.cell HR.out 3 (by decide)
      have c4 : W0.cell? ⟨w.heap.size + 1 + 1, 4, none⟩ = some (.int .u16 (K.row 4)) := B8.cell HB.out 4 (by decide)
      have d4 : W0.cell? ⟨w.heap.size + 1, 4, none⟩ = some (.int .u16 (0 : Int)) := B8.cell HR.out 4 (by decide)
      have c5 : W0.cell? ⟨w.heap.size + 1 + 1, 5, none⟩ = some (.int .u16 (K.row 5)) := B8.cell HB.out 5 (by decide)
      have d5 : W0.cell? ⟨w.heap.size + 1, 5, none⟩ = some (.int .u16 (0 : Int)) := B8.cell HR.out 5 (by decide)
      have c6 : W0.cell? ⟨w.heap.size + 1 + 1, 6, none⟩ = some (.int .u16 (K.row 6)) := B8.cell HB.out 6 (by decide)
      have d6 : W0.cell? ⟨w.heap.size + 1, 6, none⟩ = some (.int .u16 (0 : Int)) := B8.cell HR.out 6 (by decide)
      have c7 : W0.cell? ⟨w.heap.size + 1 + 1, 7, none⟩ = some (.int .u16 (K.row 7)) := B8.cell HB.out 7 (by decide)
      have d7 : W0.cell? ⟨w.heap.size + 1, 7, none⟩ = some (.int .u16 (0 : Int)) := B8.cell HR.out 7 (by decide)
      go_wp2_with fail
      have s0 := B8.setCell HR.out 0 (by decide) (K.row 0)
      have s1 := B8.setCell s0 1 (by decide) (K.row 1)
      have s2 := B8.setCell s1 2 (by decide) (K.row 2)
      have s3 := B8.setCell s2 3 (by decide) (K.row 3)
      have s4 := B8.setCell s3 4 (by decide) (K.row 4)
      have s5 := B8.setCell s4 5 (by decide) (K.row 5)
      have s6 := B8.setCell s5 6 (by decide) (K.row 6)
      have s7 := B8.setCell s6 7 (by decide) (K.row 7)
      have f0 := Fr.setCell HF.out (a := ⟨w.heap.size + 1, 0, none⟩) (by show w.heap.size ≤ w.heap.size + 1; omega) (.int .u16 (K.row 0))
      have f1 := Fr.setCell f0 (a := ⟨w.heap.size + 1, 1, none⟩) (by show w.heap.size ≤ w.heap.size + 1; omega) (.int .u16 (K.row 1))
      have f2 := Fr.setCell f1 (a := ⟨w.heap.size + 1, 2, none⟩) (by show w.heap.size ≤ w.heap.size + 1; omega) (.int .u16 (K.row 2))
      have f3 := Fr.setCell f2 (a := ⟨w.heap.size + 1, 3, none⟩) (by show w.heap.size ≤ w.heap.size + 1; omega) (.int .u16 (K.row 3))
      have f4 := Fr.setCell f3 (a := ⟨w.heap.size + 1, 4, none⟩) (by show w.heap.size ≤ w.heap.size + 1; omega) (.int .u16 (K.row 4))
      have f5 := Fr.setCell f4 (a := ⟨w.heap.size + 1, 5, none⟩) (by show w.heap.size ≤ w.heap.size + 1; omega) (.int .u16 (K.row 5))
      have f6 := Fr.setCell f5 (a := ⟨w.heap.size + 1, 6, none⟩) (by show w.heap.size ≤ w.heap.size + 1; omega) (.int .u16 (K.row 6))
      have f7 := Fr.setCell f6 (a := ⟨w.heap.size + 1, 7, none⟩) (by show w.heap.size ≤ w.heap.size + 1; omega) (.int .u16 (K.row 7))
      clear s0 s1 s2 s3 s4 s5 s6 f0 f1 f2 f3 f4 f5 f6 c0 c1 c2 c3 c4 c5 c6 c7 d0 d1 d2 d3 d4 d5 d6 d7
      revert s7 f7
      generalize ((((((((W0.setCell ⟨w.heap.size + 1, 0, none⟩ (.int .u16 (K.row 0))).setCell ⟨w.heap.size + 1, 1, none⟩ (.int .u16 (K.row 1))).setCell ⟨w.heap.size + 1, 2, none⟩ (.int .u16 (K.row 2))).setCell ⟨w.heap.size + 1, 3, none⟩ (.int .u16 (K.row 3))).setCell ⟨w.heap.size + 1, 4, none⟩ (.int .u16 (K.row 4))).setCell ⟨w.heap.size + 1, 5, none⟩ (.int .u16 (K.row 5))).setCell ⟨w.heap.size + 1, 6, none⟩ (.int .u16 (K.row 6))).setCell ⟨w.heap.size + 1, 7, none⟩ (.int .u16 (K.row 7))) = W9
      intro s7 f7
      have e0 : W9.cell? ⟨w.heap.size + 1, 0, none⟩ = some (.int .u16 (K.row 0)) := B8.cell s7 0 (by decide)
      have e1 : W9.cell? ⟨w.heap.size + 1, 1, none⟩ = some (.int .u16 (K.row 1)) := B8.cell s7 1 (by decide)
      have e2 : W9.cell? ⟨w.heap.size + 1, 2, none⟩ = some (.int .u16 (K.row 2)) := B8.cell s7 2 (by decide)
      have e3 : W9.cell? ⟨w.heap.size + 1, 3, none⟩ = some (.int .u16 (K.row 3)) := B8.cell s7 3 (by decide)
      have e4 : W9.cell? ⟨w.heap.size + 1, 4, none⟩ = some (.int .u16 (K.row 4)) := B8.cell s7 4 (by decide)
      have e5 : W9.cell? ⟨w.heap.size + 1, 5, none⟩ = some (.int .u16 (K.row 5)) := B8.cell s7 5 (by decide)
      have e6 : W9.cell? ⟨w.heap.size + 1, 6, none⟩ = some (.int .u16 (K.row 6)) := B8.cell s7 6 (by decide)
      have e7 : W9.cell? ⟨w.heap.size + 1, 7, none⟩ = some (.int .u16 (K.row 7)) := B8.cell s7 7 (by decide)
      refine bodyPost_ret (v := K.block.val) (by
        unfold B8.val
        simp [results, Tryz.results221, go_sem, e0, e1, e2, e3, e4, e5, e6, e7, K4.block]) rfl ⟨rfl, f7⟩
end Go.Proofs.YtnkdbpjmepfblaaGreatDoor

/- The kernel in memory: Next, around. -/
namespace Go.Proofs.YtnkdbpjmepfblaaGreatDoor
open Go Go.RowKit

structure Part where
  a : Int
  b : Int
  h : Nat
  w : Nat
  deriving DecidableEq
def Part.cells (p : Part) : List Value := [.int .i64 p.a, .int .i64 p.b, .int .i64 p.h, .int .i64 p.w]
def Part.ok (p : Part) : Prop := -2 < p.a ∧ p.a < 2 ∧ -2 < p.b ∧ p.b < 2 ∧ p.h < 2 ∧ p.w ≤ 32
/-- A table. -/
structure Tb where
  lat : Nat
  b0 : Nat
  b1 : Nat
  s0 : Nat
  s1 : Nat
def Tb.ok (T : Tb) : Prop := 1 ≤ T.lat ∧ T.lat ≤ 3 ∧ T.b0 < 18446744073709551616 ∧ T.b1 < 18446744073709551616 ∧ T.s0 < 18446744073709551616 ∧ T.s1 < 18446744073709551616
def Tb.val (T : Tb) : Value := .agg #[.int .i64 T.lat, .int .u64 T.b0, .int .u64 T.b1, .int .u64 T.s0, .int .u64 T.s1]
def Tb.row (T : Tb) (h : Nat) (live : Bool) : Nat := match h, live with | 0, false => T.b0 | 0, true => T.s0 | _, false => T.b1 | _, true => T.s1
def Tb.next (T : Tb) (h : Nat) (live : Bool) (n : Nat) : Bool := T.row h live / 2 ^ n % 2 == 1

/-- The kernel, with the parts of each half. -/
structure Kn where
  T : Tb
  p : Nat → List Part
def Kn.ok (N : Kn) : Prop := N.T.ok ∧ ∀ h, h < 2 → (N.p h).length ≤ 12 ∧ (∀ q ∈ N.p h, q.ok) ∧ ((N.p h).map Part.w).sum ≤ 63
structure KW (w : World) (kb : Nat) (N : Kn) (ko : List Nat) : Prop where
  ex : ∃ v0 v1 : Value, w.heap[kb]? = some (.cells #[.int .i64 N.T.lat, .int .u64 N.T.b0, .int .u64 N.T.b1, .int .u64 N.T.s0, .int .u64 N.T.s1, v0, v1] 204) ∧
    w.ownsRow 0 208 4 v0 (N.p 0).length ((N.p 0).flatMap Part.cells) ∧ w.ownsRow 0 208 4 v1 (N.p 1).length ((N.p 1).flatMap Part.cells) ∧
    kb ∈ ko ∧ (∀ b, v0.ownBlock = some b → b ∈ ko) ∧ (∀ b, v1.ownBlock = some b → b ∈ ko)
  ok : N.ok
  lt : ∀ b ∈ ko, b < w.heap.size
theorem KW.keep {w w' : World} {kb : Nat} {N : Kn} {ko : List Nat} (h : KW w kb N ko) (hs : w.heap.size ≤ w'.heap.size) (hk : ∀ b ∈ ko, w'.heap[b]? = w.heap[b]?) : KW w' kb N ko := by
  obtain ⟨v0, v1, h1, h2, h3, h4, h5, h6⟩ := h.ex
  exact ⟨⟨v0, v1, by rw [hk kb h4]; exact h1, ownsRow_same h2 (fun b hb => hk b (h5 b hb)), ownsRow_same h3 (fun b hb => hk b (h6 b hb)), h4, h5, h6⟩, h.ok, fun b hb => Nat.lt_of_lt_of_le (h.lt b hb) hs⟩
theorem KW.fr {w w' : World} {kb : Nat} {N : Kn} {ko o o' : List Nat} (h : KW w kb N ko) (hf : Fr w o w' o') (hd : ∀ b ∈ ko, b ∉ o) : KW w' kb N ko :=
  h.keep hf.size fun b hb => hf.keep b (h.lt b hb) (hd b hb)
theorem KW.ext {w w' : World} {kb : Nat} {N : Kn} {ko : List Nat} (h : KW w kb N ko) (hf : Fr w [] w' []) : KW w' kb N ko := h.fr hf (by simp)

theorem u64_shr_bit (x n : Nat) (hx : x < 18446744073709551616) : (bits .and .u64 ((x : Int) / 2 ^ n) 1 == 1) = (x / 2 ^ n % 2 == 1) := by
  have hle : x / 2 ^ n ≤ x := Nat.div_le_self _ _
  have h1 := u64_and_nat (x / 2 ^ n) 1 (by omega) (by decide)
  rw [nat_mask1] at h1
  rw [show (x : Int) / 2 ^ n = ((x / 2 ^ n : Nat) : Int) by norm_cast, show (1 : Int) = ((1 : Nat) : Int) from rfl, h1, Bool.eq_iff_iff]
  simp only [beq_iff_eq]
  omega
set_option maxRecDepth 100000 in
set_option maxHeartbeats 800000 in
theorem next_c (w : World) (T : Tb) (hT : T.ok) (h : Nat) (hh : h < 2) (live : Bool) (n : Nat) (hn : n < 64) :
    Calls Tryz.prog 135 #[T.val, .int .i64 h, .bool live, .int .i64 n] w fun e w' => e = .returned (.bool (T.next h live n)) ∧ Fr w [] w' [] := by
  have hf : Fr w [] (w.alloc (.cells #[.int .i64 T.lat, .int .u64 T.b0, .int .u64 T.b1, .int .u64 T.s0, .int .u64 T.s1] 36)) [] := (Fr.nil w).alloc _
  have HF := Lib.hid hf
  obtain ⟨_, _, t0, t1, t2, t3⟩ := hT
  clear hf
  unfold Tb.val
  have hc : h = 0 ∨ h = 1 := by omega
  rcases hc with rfl | rfl <;> cases live <;>
  · go_enter Tryz.func135, Tryz.ntmps135
    go_wp2_with fail
    go_ret
    first
    | exact ⟨congrArg (fun b => Ending.returned (.bool b)) (u64_shr_bit T.b0 n t0), HF.out⟩
    | exact ⟨congrArg (fun b => Ending.returned (.bool b)) (u64_shr_bit T.s0 n t2), HF.out⟩
    | exact ⟨congrArg (fun b => Ending.returned (.bool b)) (u64_shr_bit T.b1 n t1), HF.out⟩
    | exact ⟨congrArg (fun b => Ending.returned (.bool b)) (u64_shr_bit T.s1 n t3), HF.out⟩

def B8.bit (B : B8) (a b : Int) (h : Nat) : Bool := B.state a b / 2 ^ h % 2 == 1
theorem B8.bit_eq (B : B8) (a b : Int) (h : Nat) : (bits .and .i64 (((B.state a b : Nat) : Int) / 2 ^ h) 1 == 1) = B.bit a b h := by
  rw [i64_and1, show ((B.state a b : Nat) : Int) / 2 ^ h = ((B.state a b / 2 ^ h : Nat) : Int) by norm_cast, Bool.eq_iff_iff]
  simp only [B8.bit, beq_iff_eq]
  omega
/-- How many live around, of the first k parts. -/
def B8.aroundS (B : B8) (l : List Part) (a b : Int) : Nat → Nat
  | 0 => 0
  | k + 1 => B.aroundS l a b k + (match l[k]? with | some q => if B.bit (a + q.a) (b + q.b) q.h then q.w else 0 | none => 0)
theorem B8.aroundS_le (B : B8) {l : List Part} (hl : ∀ q ∈ l, q.ok) (a b : Int) : ∀ k, B.aroundS l a b k ≤ 32 * k := by
  intro k
  induction k with
  | zero => simp [B8.aroundS]
  | succ k ih =>
    simp only [B8.aroundS]
    cases hq : l[k]? with
    | none => simp only; omega
    | some q =>
      have := (hl q (List.mem_of_getElem? hq)).2.2.2.2.2
      simp only
      split <;> omega
theorem B8.aroundS_sum (B : B8) (l : List Part) (a b : Int) : ∀ k, B.aroundS l a b k ≤ ((l.take k).map Part.w).sum := by
  intro k
  induction k with
  | zero => simp [B8.aroundS]
  | succ k ih =>
    simp only [B8.aroundS]
    cases hq : l[k]? with
    | none =>
      rw [List.getElem?_eq_none_iff] at hq
      rw [List.take_of_length_le hq] at ih
      rw [List.take_of_length_le (by omega)]
      simpa using ih
    | some q =>
      rw [List.take_add_one, hq]
      simp only [Option.toList_some, List.map_append, List.map_cons, List.map_nil, List.sum_append, List.sum_cons, List.sum_nil]
      split <;> omega
theorem B8.state_lt (B : B8) (a b : Int) : B.state a b < 4 := by
  unfold B8.state; split
  · exact Nat.mod_lt _ (by decide)
  · decide
theorem flat4_get (l : List Part) (j i : Nat) (q : Part) (hj : l[j]? = some q) (hi : i < 4) : (l.flatMap Part.cells)[j * 4 + i]? = q.cells[i]? := by
  induction l generalizing j with
  | nil => simp at hj
  | cons x l ih =>
    rw [List.flatMap_cons]
    cases j with
    | zero =>
      simp only [List.getElem?_cons_zero, Option.some.injEq] at hj
      subst hj
      rw [List.getElem?_append_left (by simp [Part.cells]; omega)]
      simp
    | succ j =>
      simp only [List.getElem?_cons_succ] at hj
      rw [List.getElem?_append_right (by simp [Part.cells]; omega), ← ih j hj]
      congr 1
      simp [Part.cells]; omega
theorem KW.parts {w : World} {kb : Nat} {N : Kn} {ko : List Nat} (h : KW w kb N ko) {t : Nat} (ht : t < 2) : ∃ (ad : Option Addr) (g cap : Nat), w.cell? ⟨kb, 5 + t, none⟩ = some (.slice ad (N.p t).length cap) ∧
    (0 < (N.p t).length → ad = some ⟨g, 0, none⟩) ∧ (0 < (N.p t).length → g < w.heap.size) ∧
    (∀ (j i : Nat) (q : Part) (u : Value), (N.p t)[j]? = some q → q.cells[i]? = some u → w.cell? ⟨g, j * 4 + i, none⟩ = some u) := by
  obtain ⟨v0, v1, h1, h2, h3, _⟩ := h.ex
  have key : ∀ v : Value, w.ownsRow 0 208 4 v (N.p t).length ((N.p t).flatMap Part.cells) → w.cell? ⟨kb, 5 + t, none⟩ = some v → ∃ (ad : Option Addr) (g cap : Nat), w.cell? ⟨kb, 5 + t, none⟩ = some (.slice ad (N.p t).length cap) ∧
    (0 < (N.p t).length → ad = some ⟨g, 0, none⟩) ∧ (0 < (N.p t).length → g < w.heap.size) ∧
    (∀ (j i : Nat) (q : Part) (u : Value), (N.p t)[j]? = some q → q.cells[i]? = some u → w.cell? ⟨g, j * 4 + i, none⟩ = some u) := by
    intro v ho hv
    rcases ho.2 with ⟨rfl, h0⟩ | ⟨g, cap, cur, rfl, _, hg, _⟩
    · refine ⟨Option.none, 0, 0, by rw [hv, h0], by omega, by omega, fun j i q u hj _ => ?_⟩
      have := (List.getElem?_eq_some_iff.1 hj).1
      omega
    · refine ⟨some ⟨g, 0, Option.none⟩, g, cap, hv, fun _ => rfl, fun _ => heap_lt hg, fun j i q u hj hi => ?_⟩
      have hi4 : i < 4 := by have := (List.getElem?_eq_some_iff.1 hi).1; simpa [Part.cells] using this
      have hc := ho.cells (g := g) rfl (j * 4 + i) u (by rw [flat4_get _ j i q hj hi4]; exact hi)
      have ha : (({ block := g, off := 0 } : Addr).add (j * 4 + i)) = ⟨g, j * 4 + i, Option.none⟩ := by unfold Addr.add; split <;> simp_all
      rw [ha] at hc
      exact hc
  have hc : t = 0 ∨ t = 1 := by omega
  rcases hc with rfl | rfl
  · exact key v0 h2 (by rw [cell_of_heap h1]; rfl)
  · exact key v1 h3 (by rw [cell_of_heap h1]; rfl)

set_option maxRecDepth 100000 in
set_option maxHeartbeats 1600000 in
theorem around_c (w : World) {kb : Nat} {N : Kn} {ko : List Nat} (hK : KW w kb N ko) (B : B8) (hB : B.ok) (a b : Nat) (ha : a < 8) (hb : b < 8) (t : Nat) (ht : t < 2) :
    Calls Tryz.prog 243 #[.pointer (some ⟨kb, 0, none⟩), B.val, .int .i64 a, .int .i64 b, .int .i64 t] w fun e w' =>
      e = .returned (.int .i64 (B.aroundS (N.p t) a b (N.p t).length)) ∧ Fr w [] w' [] := by
  obtain ⟨ad, g, cap, hv, hp, hg, hcells⟩ := hK.parts ht
  have hlen := (hK.ok.2 t ht).1
  have hok := (hK.ok.2 t ht).2.1
  have hkl := hK.lt kb (by obtain ⟨_, _, _, _, _, h4, _⟩ := hK.ex; exact h4)
  generalize N.p t = l at *
  have HP := Lib.hid hp
  have HG := Lib.hid hg
  have HC := Lib.hid hcells
  have HOK := Lib.hid hok
  have HB := Lib.hid hB
  have HBX := Lib.hid (heap_new w B.box)
  have hvx : (w.alloc B.box).cell? ⟨kb, 5 + t, none⟩ = some (.slice ad l.length cap) := by
    have : (w.alloc B.box).heap[kb]? = w.heap[kb]? := Below.heap_alloc _ _ _ hkl
    simp only [World.cell?, this]; exact hv
  have HF := Lib.hid ((Fr.nil w).alloc B.box)
  clear hv hp hg hcells hok hB
  have hc : t = 0 ∨ t = 1 := by omega
  unfold B8.val
  rcases hc with rfl | rfl <;>
  · unfold B8.box at hvx
    simp only [show ((0 : Nat) : Int) = 0 from rfl, show ((1 : Nat) : Int) = 1 from rfl]
    go_enter Tryz.func243, Tryz.ntmps243
    go_wp2_with fail
    go_loopw [11, 21] (fun n k wr => ∃ i : Nat, i ≤ l.length ∧ k = .int .i64 i ∧ n = .int .i64 (B.aroundS l a b i) ∧ Fr (w.alloc B.box) [] wr []) (fun _ k _ => l.length - (intOf k).toNat)
    case atStart => exact ⟨0, by omega, rfl, rfl, Fr.nil _⟩
    case round =>
      obtain ⟨i, hi, rfl, rfl, hF⟩ := hrel
      obtain ⟨W0, rfl⟩ : ∃ W0, W0 = wr := ⟨_, rfl⟩
      clear hvx
      by_cases hil : i < l.length
      · obtain ⟨q, hq⟩ : ∃ q, l[i]? = some q := ⟨_, List.getElem?_eq_getElem hil⟩
        have hqo := HOK.out q (List.mem_of_getElem? hq)
        obtain rfl := HP.out (by omega)
        have hgl := HG.out (by omega)
        have hgx : W0.heap[g]? = w.heap[g]? := by rw [hF.keep g (by simp; omega) (by simp), Below.heap_alloc _ _ _ hgl]
        have hcc : ∀ (j : Nat) (u : Value), q.cells[j]? = some u → W0.cell? ⟨g, i * 4 + j, none⟩ = some u := fun j u hu => by
          have := HC.out i j q u hq hu
          simp only [World.cell?, hgx] at this ⊢; exact this
        have q0 : W0.cell? ⟨g, i * 4, none⟩ = some (.int .i64 q.a) := hcc 0 _ rfl
        have q1 : W0.cell? ⟨g, i * 4 + 1, none⟩ = some (.int .i64 q.b) := hcc 1 _ rfl
        have q2 : W0.cell? ⟨g, i * 4 + 2, none⟩ = some (.int .i64 q.h) := hcc 2 _ rfl
        have q3 : W0.cell? ⟨g, i * 4 + 3, none⟩ = some (.int .i64 q.w) := hcc 3 _ rfl
        obtain ⟨o1, o2, o3, o4, o5, o6⟩ := hqo
        have HQ := Lib.hid hq
        have HF1 := Lib.hid hF
        clear hcc hgx hq hF
        have hsz : w.heap.size < W0.heap.size := Nat.lt_of_lt_of_le (by simp) HF1.out.size
        have HF2 := Lib.hid (HF1.out.alloc (.cells #[.int .i64 q.a, .int .i64 q.b, .int .i64 q.h, .int .i64 q.w] 208))
        have HBY := Lib.hid (fun y : CW (W0.alloc (.cells #[.int .i64 q.a, .int .i64 q.b, .int .i64 q.h, .int .i64 q.w] 208)) => show y.x.heap[w.heap.size]? = some B.box by
          rw [y.h.keep _ (by simp; omega) (by simp), HF2.out.keep _ (by simp) (by simp)]; exact HBX.out)
        have HPY := Lib.hid (fun y : CW (W0.alloc (.cells #[.int .i64 q.a, .int .i64 q.b, .int .i64 q.h, .int .i64 q.w] 208)) => show y.x.heap[W0.heap.size]? = some (.cells #[.int .i64 q.a, .int .i64 q.b, .int .i64 q.h, .int .i64 q.w] 208) by
          rw [y.h.keep _ (by simp) (by simp)]; exact heap_new _ _)
        go_wp2_with fail
        have b0 : ∀ y : CW (W0.alloc (.cells #[.int .i64 q.a, .int .i64 q.b, .int .i64 q.h, .int .i64 q.w] 208)), y.x.cell? ⟨w.heap.size, 0, none⟩ = some (.int .u16 (B.r 0)) := fun y => B8.cell (HBY.out y) 0 (by decide)
        have b1 : ∀ y : CW (W0.alloc (.cells #[.int .i64 q.a, .int .i64 q.b, .int .i64 q.h, .int .i64 q.w] 208)), y.x.cell? ⟨w.heap.size, 1, none⟩ = some (.int .u16 (B.r 1)) := fun y => B8.cell (HBY.out y) 1 (by decide)
        have b2 : ∀ y : CW (W0.alloc (.cells #[.int .i64 q.a, .int .i64 q.b, .int .i64 q.h, .int .i64 q.w] 208)), y.x.cell? ⟨w.heap.size, 2, none⟩ = some (.int .u16 (B.r 2)) := fun y => B8.cell (HBY.out y) 2 (by decide)
        have b3 : ∀ y : CW (W0.alloc (.cells #[.int .i64 q.a, .int .i64 q.b, .int .i64 q.h, .int .i64 q.w] 208)), y.x.cell? ⟨w.heap.size, 3, none⟩ = some (.int .u16 (B.r 3)) := fun y => B8.cell (HBY.out y) 3 (by decide)
        have b4 : ∀ y : CW (W0.alloc (.cells #[.int .i64 q.a, .int .i64 q.b, .int .i64 q.h, .int .i64 q.w] 208)), y.x.cell? ⟨w.heap.size, 4, none⟩ = some (.int .u16 (B.r 4)) := fun y => B8.cell (HBY.out y) 4 (by decide)
        have b5 : ∀ y : CW (W0.alloc (.cells #[.int .i64 q.a, .int .i64 q.b, .int .i64 q.h, .int .i64 q.w] 208)), y.x.cell? ⟨w.heap.size, 5, none⟩ = some (.int .u16 (B.r 5)) := fun y => B8.cell (HBY.out y) 5 (by decide)
        have b6 : ∀ y : CW (W0.alloc (.cells #[.int .i64 q.a, .int .i64 q.b, .int .i64 q.h, .int .i64 q.w] 208)), y.x.cell? ⟨w.heap.size, 6, none⟩ = some (.int .u16 (B.r 6)) := fun y => B8.cell (HBY.out y) 6 (by decide)
        have b7 : ∀ y : CW (W0.alloc (.cells #[.int .i64 q.a, .int .i64 q.b, .int .i64 q.h, .int .i64 q.w] 208)), y.x.cell? ⟨w.heap.size, 7, none⟩ = some (.int .u16 (B.r 7)) := fun y => B8.cell (HBY.out y) 7 (by decide)
        have p0 : ∀ y : CW (W0.alloc (.cells #[.int .i64 q.a, .int .i64 q.b, .int .i64 q.h, .int .i64 q.w] 208)), y.x.cell? ⟨W0.heap.size, 0, none⟩ = some (.int .i64 q.a) := fun y => by rw [cell_of_heap (HPY.out y)]; rfl
        have p1 : ∀ y : CW (W0.alloc (.cells #[.int .i64 q.a, .int .i64 q.b, .int .i64 q.h, .int .i64 q.w] 208)), y.x.cell? ⟨W0.heap.size, 1, none⟩ = some (.int .i64 q.b) := fun y => by rw [cell_of_heap (HPY.out y)]; rfl
        have p2 : ∀ y : CW (W0.alloc (.cells #[.int .i64 q.a, .int .i64 q.b, .int .i64 q.h, .int .i64 q.w] 208)), y.x.cell? ⟨W0.heap.size, 2, none⟩ = some (.int .i64 q.h) := fun y => by rw [cell_of_heap (HPY.out y)]; rfl
        have p3 : ∀ y : CW (W0.alloc (.cells #[.int .i64 q.a, .int .i64 q.b, .int .i64 q.h, .int .i64 q.w] 208)), y.x.cell? ⟨W0.heap.size, 3, none⟩ = some (.int .i64 q.w) := fun y => by rw [cell_of_heap (HPY.out y)]; rfl
        refine wp_region_cw (by kernel_rfl) (by kernel_rfl) (CW (W0.alloc (.cells #[.int .i64 q.a, .int .i64 q.b, .int .i64 q.h, .int .i64 q.w] 208))) Cls.x ⟨⟨_, (Fr.nil _).drew⟩, rfl⟩ ?_
        repeat (go_big_quiet_step (((go_at_call 242; exact Calls.cls (state_c _ B HB.out _ _ (by omega) (by omega) (by omega) (by omega))))))
        refine wpQuiet_nil ?_
        intro y
        have hsum := B.aroundS_le HOK.out a b i
        have hpw := p3 y
        have hnext : B.aroundS l a b (i + 1) = B.aroundS l a b i + (if B.bit (a + q.a) (b + q.b) q.h then q.w else 0) := by simp only [B8.aroundS, HQ.out]
        have HNX := Lib.hid hnext
        have HFY := Lib.hid (HF2.out.trans y.h)
        clear hnext
        rw [B.bit_eq]
        cases hbit : B.bit (a + q.a) (b + q.b) q.h
        · go_wp2_with fail
          refine ⟨⟨i + 1, by omega, rfl, by rw [HNX.out, hbit]; simp, HFY.out⟩, by simp only [intOf]; omega⟩
        · go_wp2_with fail
          refine ⟨⟨i + 1, by omega, rfl, by rw [HNX.out, hbit]; simp, HFY.out⟩, by simp only [intOf]; omega⟩
      · have hie : i = l.length := by omega
        subst hie
        go_wp2_with fail
        go_ret
        exact ⟨rfl, HF.out.trans hF⟩
end Go.Proofs.YtnkdbpjmepfblaaGreatDoor

/- The kernel: Step. -/
namespace Go.Proofs.YtnkdbpjmepfblaaGreatDoor
open Go Go.RowKit

def Tb.halves (T : Tb) : Nat := if T.lat = 1 then 1 else 2
theorem halves_c (w : World) (lat : Nat) : Calls Tryz.prog 50 #[.int .i64 lat] w fun e w' => e = .returned (.int .i64 ((if lat = 1 then 1 else 2 : Nat) : Int)) ∧ w = w' := by
  by_cases h : lat = 1
  · subst h
    simp only [show ((1 : Nat) : Int) = 1 from rfl]
    go_enter Tryz.func50, Tryz.ntmps50
    go_wp2_with fail
    go_ret
    exact ⟨rfl, rfl⟩
  · have hb : ((lat : Int) == 1) = false := by simp; omega
    go_enter Tryz.func50, Tryz.ntmps50
    go_wp2_with fail
    go_ret
    exact ⟨rfl, rfl⟩

/-- Does the cell at bit m of row b live next? -/
def B8.nb (B : B8) (N : Kn) (b m : Nat) : Bool :=
  decide (m % 2 < N.T.halves) && N.T.next (m % 2) (B.bit (m / 2 : Nat) b (m % 2)) (B.aroundS (N.p (m % 2)) (m / 2 : Nat) b (N.p (m % 2)).length)
def accB (f : Nat → Bool) : Nat → Nat
  | 0 => 0
  | n + 1 => accB f n ||| (if f n then 2 ^ n else 0)
theorem accB_lt (f : Nat → Bool) : ∀ n, accB f n < 2 ^ n := by
  intro n
  induction n with
  | zero => show (0 : Nat) < 2 ^ 0; decide
  | succ n ih =>
    have hp : 2 ^ (n + 1) = 2 * 2 ^ n := by rw [Nat.pow_succ]; omega
    refine Nat.or_lt_two_pow (by omega) ?_
    split
    · omega
    · omega
theorem accB_bit (f : Nat → Bool) (m : Nat) : ∀ n, (accB f n).testBit m = (decide (m < n) && f m) := by
  intro n
  induction n with
  | zero => simp [accB]
  | succ n ih =>
    simp only [accB, Nat.testBit_or, ih]
    by_cases h : m = n
    · subst h
      cases hf : f m <;> simp [Nat.testBit_two_pow_self]
    · have h1 : (if f n then 2 ^ n else 0 : Nat).testBit m = false := by
        split
        · rw [Nat.testBit_two_pow]; simp; omega
        · simp
      rw [h1, show decide (m < n + 1) = decide (m < n) by rw [decide_eq_decide]; omega]
      simp
def B8.stepP (B : B8) (N : Kn) (k n : Nat) : B8 := ⟨fun j => if j < k then accB (B.nb N j) 16 else if j = k then accB (B.nb N k) n else 0⟩
def B8.step (B : B8) (N : Kn) : B8 := ⟨fun j => if j < 8 then accB (B.nb N j) 16 else 0⟩
theorem B8.step_ok (B : B8) (N : Kn) : (B.step N).ok := by
  intro b
  show (if b < 8 then accB (B.nb N b) 16 else 0) < 65536
  split
  · exact accB_lt _ 16
  · decide
theorem B8.stepP_upd (B : B8) (N : Kn) (k n : Nat) (h : B.nb N k n = true) : (B.stepP N k n).upd k (accB (B.nb N k) n ||| 2 ^ n) = B.stepP N k (n + 1) := by
  unfold B8.upd B8.stepP
  congr 1
  funext j
  simp only
  by_cases h1 : j = k
  · subst h1; simp [accB, h]
  · simp [h1]
theorem B8.stepP_same (B : B8) (N : Kn) (k n : Nat) (h : B.nb N k n = false) : B.stepP N k n = B.stepP N k (n + 1) := by
  unfold B8.stepP
  simp [accB, h]
theorem B8.stepP_row (B : B8) (N : Kn) (k : Nat) : B.stepP N k 16 = B.stepP N (k + 1) 0 := by
  unfold B8.stepP
  congr 1
  funext j
  by_cases h1 : j < k
  · rw [if_pos h1, if_pos (by omega)]
  · by_cases h2 : j = k
    · subst h2; rw [if_neg h1, if_pos rfl, if_pos (by omega)]
    · rw [if_neg h1, if_neg h2, if_neg (by omega)]; split <;> rfl
def zero8 : B8 := ⟨fun _ => 0⟩
theorem B8.stepP_zero (B : B8) (N : Kn) : B.stepP N 0 0 = zero8 := by
  unfold B8.stepP zero8
  simp [accB]
theorem KW.lat {w : World} {kb : Nat} {N : Kn} {ko : List Nat} (h : KW w kb N ko) : w.cell? ⟨kb, 0, none⟩ = some (.int .i64 N.T.lat) ∧ w.cell? ⟨kb, 1, none⟩ = some (.int .u64 N.T.b0) ∧
    w.cell? ⟨kb, 2, none⟩ = some (.int .u64 N.T.b1) ∧ w.cell? ⟨kb, 3, none⟩ = some (.int .u64 N.T.s0) ∧ w.cell? ⟨kb, 4, none⟩ = some (.int .u64 N.T.s1) := by
  obtain ⟨v0, v1, h1, _⟩ := h.ex
  refine ⟨?_, ?_, ?_, ?_, ?_⟩ <;> rw [cell_of_heap h1] <;> rfl
/-- The memory of Step: the block, the answer's cell, the rows so far. -/
structure StepM (w : World) (B R : B8) (wr : World) : Prop where
  fr : Fr w [] wr []
  sz : w.heap.size + 1 + 1 < wr.heap.size
  hB : wr.heap[w.heap.size]? = some B.box
  hZ : wr.heap[w.heap.size + 1]? = some zero8.box
  hR : wr.heap[w.heap.size + 1 + 1]? = some R.box
theorem StepM.ext {w : World} {B R : B8} {wr wz : World} (h : StepM w B R wr) (hf : Fr wr [] wz []) : StepM w B R wz :=
  ⟨h.fr.trans hf, Nat.lt_of_lt_of_le h.sz hf.size, by rw [hf.keep _ (by have := h.sz; omega) (by simp)]; exact h.hB, by rw [hf.keep _ (by have := h.sz; omega) (by simp)]; exact h.hZ, by rw [hf.keep _ h.sz (by simp)]; exact h.hR⟩

set_option maxRecDepth 100000 in
set_option maxHeartbeats 3200000 in
theorem step8_c (w : World) {kb : Nat} {N : Kn} {ko : List Nat} (hK : KW w kb N ko) (B : B8) (hB : B.ok) :
    Calls Tryz.prog 224 #[.pointer (some ⟨kb, 0, none⟩), B.val] w fun e w' => e = .returned (B.step N).val ∧ Fr w [] w' [] := by
  have hM0 : StepM w B (B.stepP N 0 0) (((w.alloc B.box).alloc zero8.box).alloc zero8.box) := by
    refine ⟨(((Fr.nil w).alloc _).alloc _).alloc _, by simp, ?_, ?_, ?_⟩
    · rw [Below.heap_alloc _ _ _ (by simp; omega), Below.heap_alloc _ _ _ (by simp)]; exact heap_new _ _
    · rw [Below.heap_alloc _ _ _ (by simp)]
      have := heap_new (w.alloc B.box) zero8.box
      rw [World.size_alloc] at this
      exact this
    · rw [B.stepP_zero]
      have := heap_new ((w.alloc B.box).alloc zero8.box) zero8.box
      rw [World.size_alloc, World.size_alloc] at this
      exact this
  have HM0 := Lib.hid hM0
  have HK := Lib.hid hK
  have HB := Lib.hid hB
  have hkl := hK.lt kb (by obtain ⟨_, _, _, _, _, h4, _⟩ := hK.ex; exact h4)
  have hlat1 := hK.ok.1.1
  have hlat3 := hK.ok.1.2.1
  clear hM0 hK hB
  unfold B8.val
  go_enter Tryz.func224, Tryz.ntmps224
  go_wp2_with fail
  go_loopw [10] (fun n wr => ∃ k : Nat, k ≤ 8 ∧ n = .int .i64 k ∧ StepM w B (B.stepP N k 0) wr) (fun n _ => 8 - (intOf n).toNat)
  case atStart => exact ⟨0, by omega, rfl, HM0.out⟩
  case round =>
    clear HM0
    obtain ⟨k, hk, rfl, hM⟩ := hrel
    obtain ⟨W0, rfl⟩ : ∃ W0, W0 = wr := ⟨_, rfl⟩
    have HM := Lib.hid hM
    clear hM
    by_cases hk8 : k < 8
    · have hk8i : (k : Int) < 8 := by omega
      go_wp2_with fail
      go_loopw [13] (fun n wr => ∃ a : Nat, a ≤ 8 ∧ n = .int .i64 a ∧ StepM w B (B.stepP N k (2 * a)) wr) (fun n _ => 8 - (intOf n).toNat)
      case atStart => exact ⟨0, by omega, rfl, HM.out⟩
      case round =>
        clear HM
        obtain ⟨a, ha, rfl, hM⟩ := hrel
        obtain ⟨W1, rfl⟩ : ∃ W1, W1 = wr := ⟨_, rfl⟩
        have HM := Lib.hid hM
        clear hM
        by_cases ha8 : a < 8
        · have ha8i : (a : Int) < 8 := by omega
          have hlat := (HK.out.ext HM.out.fr).lat.1
          go_wp2_with fail
          refine (halves_c _ _).mono ?_
          rintro e w' ⟨rfl, rfl⟩
          clear hlat
          obtain ⟨hv, hhv⟩ : ∃ hv, hv = (if N.T.lat = 1 then 1 else 2 : Nat) := ⟨_, rfl⟩
          have hv2 : hv ≤ 2 := by rw [hhv]; split <;> omega
          have hv1 : 1 ≤ hv := by rw [hhv]; split <;> omega
          have HHV := Lib.hid hhv
          rw [← hhv]
          clear hhv
          go_wp2_with fail
          go_loopw [22] (fun n wr => ∃ h : Nat, h ≤ hv ∧ n = .int .i64 h ∧ StepM w B (B.stepP N k (2 * a + h)) wr) (fun n _ => 2 - (intOf n).toNat)
          case atStart => exact ⟨0, by omega, rfl, HM.out⟩
          case round =>
            clear HM
            obtain ⟨h, hh, rfl, hM⟩ := hrel
            obtain ⟨W2, rfl⟩ : ∃ W2, W2 = wr := ⟨_, rfl⟩
            have HM := Lib.hid hM
            clear hM
            by_cases hhv : h < hv
            ·
              have hhi : (h : Int) < hv := by omega
              have hcB := HM.out.hB
              have b0 : W2.cell? ⟨w.heap.size, 0, none⟩ = some (.int .u16 (B.r 0)) := B8.cell HM.out.hB 0 (by decide)
              have b1 : W2.cell? ⟨w.heap.size, 1, none⟩ = some (.int .u16 (B.r 1)) := B8.cell HM.out.hB 1 (by decide)
              have b2 : W2.cell? ⟨w.heap.size, 2, none⟩ = some (.int .u16 (B.r 2)) := B8.cell HM.out.hB 2 (by decide)
              have b3 : W2.cell? ⟨w.heap.size, 3, none⟩ = some (.int .u16 (B.r 3)) := B8.cell HM.out.hB 3 (by decide)
              have b4 : W2.cell? ⟨w.heap.size, 4, none⟩ = some (.int .u16 (B.r 4)) := B8.cell HM.out.hB 4 (by decide)
              have b5 : W2.cell? ⟨w.heap.size, 5, none⟩ = some (.int .u16 (B.r 5)) := B8.cell HM.out.hB 5 (by decide)
              have b6 : W2.cell? ⟨w.heap.size, 6, none⟩ = some (.int .u16 (B.r 6)) := B8.cell HM.out.hB 6 (by decide)
              have b7 : W2.cell? ⟨w.heap.size, 7, none⟩ = some (.int .u16 (B.r 7)) := B8.cell HM.out.hB 7 (by decide)
              clear hcB
              go_wp2_with fail
              refine (state_c W2 B HB.out a k (by omega) (by omega) (by omega) (by omega)).mono ?_
              rintro e w' ⟨rfl, hFs⟩
              have HM3 := Lib.hid (HM.out.ext hFs)
              obtain ⟨W3, rfl⟩ : ∃ W3, W3 = w' := ⟨_, rfl⟩
              clear hFs HM b0 b1 b2 b3 b4 b5 b6 b7
              go_wp2_with fail
              rw [B.bit_eq]
              obtain ⟨live, hlive⟩ : ∃ l, l = B.bit a k h := ⟨_, rfl⟩
              rw [← hlive]
              have HLV := Lib.hid hlive
              clear hlive
              have HKX := Lib.hid (fun y : CW W3 => (HK.out.ext HM3.out.fr).ext y.h)
              have HBX := Lib.hid (fun y : CW W3 => (HM3.out.ext y.h).hB)
              have b0 : ∀ y : CW W3, y.x.cell? ⟨w.heap.size, 0, none⟩ = some (.int .u16 (B.r 0)) := fun y => B8.cell (HBX.out y) 0 (by decide)
              have b1 : ∀ y : CW W3, y.x.cell? ⟨w.heap.size, 1, none⟩ = some (.int .u16 (B.r 1)) := fun y => B8.cell (HBX.out y) 1 (by decide)
              have b2 : ∀ y : CW W3, y.x.cell? ⟨w.heap.size, 2, none⟩ = some (.int .u16 (B.r 2)) := fun y => B8.cell (HBX.out y) 2 (by decide)
              have b3 : ∀ y : CW W3, y.x.cell? ⟨w.heap.size, 3, none⟩ = some (.int .u16 (B.r 3)) := fun y => B8.cell (HBX.out y) 3 (by decide)
              have b4 : ∀ y : CW W3, y.x.cell? ⟨w.heap.size, 4, none⟩ = some (.int .u16 (B.r 4)) := fun y => B8.cell (HBX.out y) 4 (by decide)
              have b5 : ∀ y : CW W3, y.x.cell? ⟨w.heap.size, 5, none⟩ = some (.int .u16 (B.r 5)) := fun y => B8.cell (HBX.out y) 5 (by decide)
              have b6 : ∀ y : CW W3, y.x.cell? ⟨w.heap.size, 6, none⟩ = some (.int .u16 (B.r 6)) := fun y => B8.cell (HBX.out y) 6 (by decide)
              have b7 : ∀ y : CW W3, y.x.cell? ⟨w.heap.size, 7, none⟩ = some (.int .u16 (B.r 7)) := fun y => B8.cell (HBX.out y) 7 (by decide)
              have t0 : ∀ y : CW W3, y.x.cell? ⟨kb, 0, none⟩ = some (.int .i64 N.T.lat) := fun y => (HKX.out y).lat.1
              have t1 : ∀ y : CW W3, y.x.cell? ⟨kb, 1, none⟩ = some (.int .u64 N.T.b0) := fun y => (HKX.out y).lat.2.1
              have t2 : ∀ y : CW W3, y.x.cell? ⟨kb, 2, none⟩ = some (.int .u64 N.T.b1) := fun y => (HKX.out y).lat.2.2.1
              have t3 : ∀ y : CW W3, y.x.cell? ⟨kb, 3, none⟩ = some (.int .u64 N.T.s0) := fun y => (HKX.out y).lat.2.2.2.1
              have t4 : ∀ y : CW W3, y.x.cell? ⟨kb, 4, none⟩ = some (.int .u64 N.T.s1) := fun y => (HKX.out y).lat.2.2.2.2
              obtain ⟨ar, har⟩ : ∃ ar, ar = B.aroundS (N.p h) a k (N.p h).length := ⟨_, rfl⟩
              have har64 : ar < 64 := by
                have h1 := B.aroundS_sum (N.p h) a k (N.p h).length
                rw [List.take_length] at h1
                have h2 := (HK.out.ok.2 h (by omega)).2.2
                omega
              have HAC := Lib.hid (fun y : CW W3 => show Calls Tryz.prog 243 #[.pointer (some ⟨kb, 0, none⟩), B.val, .int .i64 a, .int .i64 k, .int .i64 h] y.x fun e w' => e = .returned (.int .i64 ar) ∧ Fr y.x [] w' [] by
                rw [har]; exact around_c y.x (HKX.out y) B HB.out a k (by omega) (by omega) h (by omega))
              have HNC := Lib.hid (fun y : CW W3 => next_c y.x N.T HK.out.ok.1 h (by omega) live ar har64)
              have HAR := Lib.hid har
              clear har
              refine wp_region_cw (by kernel_rfl) (by kernel_rfl) (CW W3) Cls.x ⟨⟨_, (Fr.nil _).drew⟩, rfl⟩ ?_
              repeat (go_big_quiet_step (first | (go_at_call 243; exact Calls.cls (HAC.out _)) | (go_at_call 135; exact Calls.cls (HNC.out _))))
              refine wpQuiet_nil ?_
              intro y
              have hnb : B.nb N k (2 * a + h) = N.T.next h live ar := by
                unfold B8.nb
                rw [show (2 * a + h) % 2 = h by omega, show (2 * a + h) / 2 = a by omega, ← HLV.out, ← HAR.out, decide_eq_true (show h < N.T.halves by unfold Tb.halves; rw [← HHV.out]; exact hhv), Bool.true_and]
              have HNB := Lib.hid hnb
              have HM4 := Lib.hid (HM3.out.ext y.h)
              generalize y.x = W4 at *
              clear hnb HAC HNC HBX HKX b0 b1 b2 b3 b4 b5 b6 b7 t0 t1 t2 t3 t4 y HM3
              cases hnx : N.T.next h live ar
              · have hst := B.stepP_same N k (2 * a + h) (by rw [HNB.out]; exact hnx)
                have HST := Lib.hid hst
                clear hst
                go_wp2_with fail
                refine ⟨⟨h + 1, by omega, rfl, ?_⟩, by simp only [intOf]; omega⟩
                have := HM4.out
                rw [HST.out] at this
                exact this
              · go_wp2_with fail
                have HRX := Lib.hid (fun y : CW W4 => (HM4.out.ext y.h).hR)
                have hrow : ∀ y : CW W4, y.x.cell? ⟨w.heap.size + 1 + 1, k, none⟩ = some (.int .u16 (accB (B.nb N k) (2 * a + h))) := fun y => by
                  have := B8.cell (HRX.out y) k hk8
                  simpa [B8.stepP] using this
                refine wp_region_tail 10 (by kernel_rfl) (by kernel_rfl) (CW W4) Cls.x ⟨⟨_, (Fr.nil W4).drew⟩, rfl⟩ ?_
                simp only [List.take_succ_cons, List.take_zero, List.drop_succ_cons, List.drop_zero]
                repeat (go_big_quiet_step (fail))
                refine wpQuiet_nil ?_
                intro y
                have hfz := B8.fz (HRX.out y) k
                have hcl := hrow y
                have HM5 := Lib.hid (HM4.out.ext y.h)
                generalize y.x = W5 at *
                clear hrow HRX y HM4
                go_wp2_with fail
                have hacc := accB_lt (B.nb N k) (2 * a + h)
                have hp16 : 2 ^ (2 * a + h) ≤ 2 ^ 15 := Nat.pow_le_pow_right (by decide) (by omega)
                have hval : bits .or .u16 ((accB (B.nb N k) (2 * a + h) : Nat) : Int) (IntKind.u16.wrap (2 ^ (2 * a + h))) = ((accB (B.nb N k) (2 * a + h) ||| 2 ^ (2 * a + h) : Nat) : Int) := by
                  have e : IntKind.u16.wrap (2 ^ (2 * a + h)) = ((2 ^ (2 * a + h) : Nat) : Int) := by
                    rw [show (2 : Int) ^ (2 * a + h) = ((2 ^ (2 * a + h) : Nat) : Int) by norm_cast, IntKind.wrap_u16]; omega
                  rw [e, u16_or_nat _ _ (by omega) (by omega)]
                rw [hval]
                refine ⟨⟨h + 1, by omega, rfl, ?_⟩, by simp only [intOf]; omega⟩
                have hup := B.stepP_upd N k (2 * a + h) (by rw [HNB.out]; exact hnx)
                have hM := HM5.out
                refine ⟨hM.fr.setCell (by show w.heap.size ≤ w.heap.size + 1 + 1; omega) _, by simpa using hM.sz, ?_, ?_, ?_⟩
                · rw [World.heap_setCell_ne _ _ _ _ (by show w.heap.size ≠ w.heap.size + 1 + 1; omega)]; exact hM.hB
                · rw [World.heap_setCell_ne _ _ _ _ (by show w.heap.size + 1 ≠ w.heap.size + 1 + 1; omega)]; exact hM.hZ
                · have := B8.setCell hM.hR k hk8 (accB (B.nb N k) (2 * a + h) ||| 2 ^ (2 * a + h))
                  rw [hup] at this
                  exact this
            · have hhe : h = hv := by omega
              subst hhe
              have hge : ¬ (h : Int) < h := by omega
              go_wp2_with fail
              refine ⟨⟨a + 1, by omega, rfl, ?_⟩, by simp only [intOf]; omega⟩
              have hM := HM.out
              have hc : h = 1 ∨ h = 2 := by omega
              rcases hc with rfl | rfl
              · rw [B.stepP_same N k (2 * a + 1) (by
                  unfold B8.nb
                  rw [decide_eq_false (by unfold Tb.halves; rw [← HHV.out]; omega), Bool.false_and])] at hM
                exact hM
              · exact hM
        · have ha8' : a = 8 := by omega
          subst ha8'
          go_wp2_with fail
          refine ⟨⟨k + 1, by omega, rfl, ?_⟩, by simp only [intOf]; omega⟩
          have hM := HM.out
          rw [B.stepP_row] at hM
          exact hM
    · have hk8' : k = 8 := by omega
      subst hk8'
      have hRR : W0.heap[w.heap.size + 1 + 1]? = some (B.step N).box := HM.out.hR
      have hz : ∀ j, W0.frozen? ⟨w.heap.size + 1, j, none⟩ = false := fun j => B8.fz HM.out.hZ j
      have c0 : W0.cell? ⟨w.heap.size + 1 + 1, 0, none⟩ = some (.int .u16 ((B.step N).r 0 : Nat)) := B8.cell hRR 0 (by decide)
      have d0 : W0.cell? ⟨w.heap.size + 1, 0, none⟩ = some (.int .u16 (0 : Int)) := B8.cell HM.out.hZ 0 (by decide)
      have c1 : W0.cell? ⟨w.heap.size + 1 + 1, 1, none⟩ = some (.int .u16 ((B.step N).r 1 : Nat)) := B8.cell hRR 1 (by decide)
      have d1 : W0.cell? ⟨w.heap.size + 1, 1, none⟩ = some (.int .u16 (0 : Int)) := B8.cell HM.out.hZ 1 (by decide)
      have c2 : W0.cell? ⟨w.heap.size + 1 + 1, 2, none⟩ = some (.int .u16 ((B.step N).r 2 : Nat)) := B8.cell hRR 2 (by decide)
      have d2 : W0.cell? ⟨w.heap.size + 1, 2, none⟩ = some (.int .u16 (0 : Int)) := B8.cell HM.out.hZ 2 (by decide)
      have c3 : W0.cell? ⟨w.heap.size + 1 + 1, 3, none⟩ = some (.int .u16 ((B.step N).r 3 : Nat)) := B8.cell hRR 3 (by decide)
      have d3 : W0.cell? ⟨w.heap.size + 1, 3, none⟩ = some (.int .u16 (0 : Int)) := B8.cell HM.out.hZ 3 (by decide)
      have c4 : W0.cell? ⟨w.heap.size + 1 + 1, 4, none⟩ = some (.int .u16 ((B.step N).r 4 : Nat)) := B8.cell hRR 4 (by decide)
      have d4 : W0.cell? ⟨w.heap.size + 1, 4, none⟩ = some (.int .u16 (0 : Int)) := B8.cell HM.out.hZ 4 (by decide)
      have c5 : W0.cell? ⟨w.heap.size + 1 + 1, 5, none⟩ = some (.int .u16 ((B.step N).r 5 : Nat)) := B8.cell hRR 5 (by decide)
      have d5 : W0.cell? ⟨w.heap.size + 1, 5, none⟩ = some (.int .u16 (0 : Int)) := B8.cell HM.out.hZ 5 (by decide)
      have c6 : W0.cell? ⟨w.heap.size + 1 + 1, 6, none⟩ = some (.int .u16 ((B.step N).r 6 : Nat)) := B8.cell hRR 6 (by decide)
      have d6 : W0.cell? ⟨w.heap.size + 1, 6, none⟩ = some (.int .u16 (0 : Int)) := B8.cell HM.out.hZ 6 (by decide)
      have c7 : W0.cell? ⟨w.heap.size + 1 + 1, 7, none⟩ = some (.int .u16 ((B.step N).r 7 : Nat)) := B8.cell hRR 7 (by decide)
      have d7 : W0.cell? ⟨w.heap.size + 1, 7, none⟩ = some (.int .u16 (0 : Int)) := B8.cell HM.out.hZ 7 (by decide)
      have HRR := Lib.hid hRR
      clear hRR
      go_wp2_with fail
      have s0 := B8.setCell HM.out.hZ 0 (by decide) ((B.step N).r 0)
      have s1 := B8.setCell s0 1 (by decide) ((B.step N).r 1)
      have s2 := B8.setCell s1 2 (by decide) ((B.step N).r 2)
      have s3 := B8.setCell s2 3 (by decide) ((B.step N).r 3)
      have s4 := B8.setCell s3 4 (by decide) ((B.step N).r 4)
      have s5 := B8.setCell s4 5 (by decide) ((B.step N).r 5)
      have s6 := B8.setCell s5 6 (by decide) ((B.step N).r 6)
      have s7 := B8.setCell s6 7 (by decide) ((B.step N).r 7)
      have f0 := Fr.setCell HM.out.fr (a := ⟨w.heap.size + 1, 0, none⟩) (by show w.heap.size ≤ w.heap.size + 1; omega) (.int .u16 ((B.step N).r 0 : Nat))
      have f1 := Fr.setCell f0 (a := ⟨w.heap.size + 1, 1, none⟩) (by show w.heap.size ≤ w.heap.size + 1; omega) (.int .u16 ((B.step N).r 1 : Nat))
      have f2 := Fr.setCell f1 (a := ⟨w.heap.size + 1, 2, none⟩) (by show w.heap.size ≤ w.heap.size + 1; omega) (.int .u16 ((B.step N).r 2 : Nat))
      have f3 := Fr.setCell f2 (a := ⟨w.heap.size + 1, 3, none⟩) (by show w.heap.size ≤ w.heap.size + 1; omega) (.int .u16 ((B.step N).r 3 : Nat))
      have f4 := Fr.setCell f3 (a := ⟨w.heap.size + 1, 4, none⟩) (by show w.heap.size ≤ w.heap.size + 1; omega) (.int .u16 ((B.step N).r 4 : Nat))
      have f5 := Fr.setCell f4 (a := ⟨w.heap.size + 1, 5, none⟩) (by show w.heap.size ≤ w.heap.size + 1; omega) (.int .u16 ((B.step N).r 5 : Nat))
      have f6 := Fr.setCell f5 (a := ⟨w.heap.size + 1, 6, none⟩) (by show w.heap.size ≤ w.heap.size + 1; omega) (.int .u16 ((B.step N).r 6 : Nat))
      have f7 := Fr.setCell f6 (a := ⟨w.heap.size + 1, 7, none⟩) (by show w.heap.size ≤ w.heap.size + 1; omega) (.int .u16 ((B.step N).r 7 : Nat))
      clear s0 s1 s2 s3 s4 s5 s6 f0 f1 f2 f3 f4 f5 f6 c0 c1 c2 c3 c4 c5 c6 c7 d0 d1 d2 d3 d4 d5 d6 d7
      revert s7 f7
      generalize ((((((((W0.setCell ⟨w.heap.size + 1, 0, none⟩ (.int .u16 ((B.step N).r 0 : Nat))).setCell ⟨w.heap.size + 1, 1, none⟩ (.int .u16 ((B.step N).r 1 : Nat))).setCell ⟨w.heap.size + 1, 2, none⟩ (.int .u16 ((B.step N).r 2 : Nat))).setCell ⟨w.heap.size + 1, 3, none⟩ (.int .u16 ((B.step N).r 3 : Nat))).setCell ⟨w.heap.size + 1, 4, none⟩ (.int .u16 ((B.step N).r 4 : Nat))).setCell ⟨w.heap.size + 1, 5, none⟩ (.int .u16 ((B.step N).r 5 : Nat))).setCell ⟨w.heap.size + 1, 6, none⟩ (.int .u16 ((B.step N).r 6 : Nat))).setCell ⟨w.heap.size + 1, 7, none⟩ (.int .u16 ((B.step N).r 7 : Nat))) = W9
      intro s7 f7
      have e0 : W9.cell? ⟨w.heap.size + 1, 0, none⟩ = some (.int .u16 ((B.step N).r 0 : Nat)) := B8.cell s7 0 (by decide)
      have e1 : W9.cell? ⟨w.heap.size + 1, 1, none⟩ = some (.int .u16 ((B.step N).r 1 : Nat)) := B8.cell s7 1 (by decide)
      have e2 : W9.cell? ⟨w.heap.size + 1, 2, none⟩ = some (.int .u16 ((B.step N).r 2 : Nat)) := B8.cell s7 2 (by decide)
      have e3 : W9.cell? ⟨w.heap.size + 1, 3, none⟩ = some (.int .u16 ((B.step N).r 3 : Nat)) := B8.cell s7 3 (by decide)
      have e4 : W9.cell? ⟨w.heap.size + 1, 4, none⟩ = some (.int .u16 ((B.step N).r 4 : Nat)) := B8.cell s7 4 (by decide)
      have e5 : W9.cell? ⟨w.heap.size + 1, 5, none⟩ = some (.int .u16 ((B.step N).r 5 : Nat)) := B8.cell s7 5 (by decide)
      have e6 : W9.cell? ⟨w.heap.size + 1, 6, none⟩ = some (.int .u16 ((B.step N).r 6 : Nat)) := B8.cell s7 6 (by decide)
      have e7 : W9.cell? ⟨w.heap.size + 1, 7, none⟩ = some (.int .u16 ((B.step N).r 7 : Nat)) := B8.cell s7 7 (by decide)
      refine bodyPost_ret (v := (B.step N).val) (by
        unfold B8.val
        simp [results, Tryz.results224, go_sem, e0, e1, e2, e3, e4, e5, e6, e7]) rfl ⟨rfl, f7⟩
end Go.Proofs.YtnkdbpjmepfblaaGreatDoor
