/- Texts of the walk and its plain law, merged: ArH, SqA, PureA, SqB. -/
import Derived.Test.YtnkdbpjmepfblaaGreatDoorM04
/- The arena: New. -/
namespace Go.Proofs.YtnkdbpjmepfblaaGreatDoor
open Go Go.RowKit

def Ar.new (m : Nat) : Ar := ⟨[⟨2, 0, 0, 0, 0, 0, 0⟩], [0, 0, 0], m⟩
def ArM.zero (m sb : Nat) : ArM := ⟨[], [], m, List.replicate 128 0, none, sb, none, 0, 0⟩
theorem ArM.zero_AR (w : World) (m : Nat) (hm : m < 9223372036854775808) (n : Nat) (hn : w.heap[n]? = some (.cells (zeroSlots 128) 29)) :
    AR (w.alloc (.cells #[.slice none 0 0, .slice (some ⟨n, 0, none⟩) 128 128, .slice none 0 0, .int .i64 m] 160)) w.heap.size (ArM.zero m n) := by
  have hlt := heap_lt hn
  refine ⟨?_, ⟨rfl, .inl ⟨rfl, rfl⟩⟩, ?_, ⟨rfl, .inl ⟨rfl, rfl⟩⟩, ?_, ?_, ?_, ?_, by simp [ArM.zero], by simp [ArM.zero], by simp [ArM.zero], hm⟩
  · rw [heap_new]; rfl
  · show (w.alloc _).heap[n]? = some (.cells (zeroSlots 128) 29)
    rw [Below.heap_alloc _ _ _ hlt]; exact hn
  · simp only [ArM.own, ArM.zero, Option.toList_none, List.append_nil, List.nodup_cons, List.mem_cons, List.not_mem_nil, or_false, not_false_iff, List.nodup_nil, and_true]; omega
  · intro n hn; simp [ArM.zero] at hn
  · intro s hs; simp [ArM.zero] at hs; omega
  · intro s hs; simp [ArM.zero] at hs
theorem ArM.zero_good (m sb : Nat) : GoodS (ArM.zero m sb) := by
  refine ⟨SOK.zero [] 128 (by decide), ?_, by simp [ArM.zero], by simp [ArM.zero]⟩
  intro i j a b hi; simp [ArM.zero] at hi

/-- The empties are put anew. -/
theorem AR.setE {w : World} {ab : Nat} {S : ArM} (h : AR w ab S) {g : Nat} {l : List Nat} (hl : ∀ s ∈ l, s < 4294967296) (hn : l.length < 4294967296) (hp : 0 < l.length)
    (hg : w.heap[g]? = some (.cells (l.map u32).toArray 29)) (hno : g ∉ S.own ab) :
    AR (w.setCell ⟨ab, 2, none⟩ (.slice (some ⟨g, 0, none⟩) l.length l.length)) ab { S with empty := l, ea := some g, ecap := l.length } := by
  have hd := h.nd
  simp only [ArM.own, List.nodup_cons, List.mem_cons, not_or] at hd hno
  obtain ⟨⟨d1, d2⟩, d3, d4⟩ := hd
  have hne : ∀ b, b ≠ ab → (w.setCell ⟨ab, 2, none⟩ (.slice (some ⟨g, 0, none⟩) l.length l.length)).heap[b]? = w.heap[b]? := fun b hb => World.heap_setCell_ne _ _ _ _ hb
  refine ⟨?_, ?_, ?_, ?_, ?_, h.nok, h.sok, hl, h.nlen, hn, h.slen, h.mlen⟩
  · rw [heap_setCell_same _ _ _ _ _ _ h.hs]
    simp [ArM.nv, ArM.ev, at0]
  · refine ownsRow_same h.hn fun b hb => ?_
    have hb' : S.nv.ownBlock = some b := hb
    rw [ArM.nvOwn] at hb'
    exact hne b (fun e => d2 (by simp [← e, hb']))
  · show (w.setCell _ _).heap[S.sb]? = some (.cells (S.slots.map u32).toArray 29 (0, 0))
    rw [hne _ (fun e => d1 e.symm)]; exact h.hsl
  · refine ⟨by simp, .inr ⟨g, l.length, (l.map u32).toArray, rfl, by omega, ?_, ?_, ?_, ?_, ?_⟩⟩
    · rw [hne g hno.1]; exact hg
    · exact Nat.le_refl _
    · first | rfl | (unfold maxLen; omega) | simp
    · first | rfl | (unfold maxLen; omega) | simp
    · rw [Nat.mul_one]; exact List.take_of_length_le (by simp)
  · show (ab :: S.sb :: (S.na.toList ++ (some g).toList)).Nodup
    have hna : S.na.toList.Nodup := (List.nodup_append.1 d4).1
    simp only [List.mem_append, not_or] at hno d2 d3
    simp only [Option.toList_some, List.nodup_cons, List.mem_cons, List.mem_append, List.not_mem_nil, or_false, not_or]
    refine ⟨⟨d1, d2.1, fun e => hno.1 e.symm⟩, ⟨d3.1, fun e => hno.2.1 e.symm⟩, ?_⟩
    rw [List.nodup_append]
    refine ⟨hna, by simp, fun a ha b hb => ?_⟩
    simp only [List.mem_singleton] at hb
    subst hb
    intro e; subst e; exact hno.2.2.1 ha

set_option maxRecDepth 100000 in
set_option maxHeartbeats 1600000 in
theorem new_w (w : World) (m : Int) (hlo : -9223372036854775808 ≤ m) (hhi : m < 9223372036854775808) :
    Calls Tryz.prog 100 #[.int .i64 m] w fun e w' => ∃ ab o, e = .returned (.pointer (some ⟨ab, 0, none⟩)) ∧ AW w' ab (Ar.new (max m 64).toNat) o ∧ Fr w [] w' o := by
  have hmk := make116' 128 (by decide)
  have e2 : ((128 : Nat) : Int) = 128 := rfl
  rw [e2] at hmk
  rcases Int.lt_or_le m 64 with h64 | h64
  · have hM : (max m 64).toNat = 64 := by omega
    have hM' : 64 < 9223372036854775808 := by omega
    have h0 := ArM.zero_AR (w.alloc (.cells (zeroSlots 128) 29)) 64 hM' w.heap.size (heap_new w _)
    have hAW : AW _ _ ⟨[], [], 64⟩ _ := ⟨_, rfl, rfl, rfl, ArM.zero_good _ _, h0, rfl⟩
    simp only [World.size_alloc] at hAW
    have hlf := leaf_w hAW 0 (by decide) (r := .ok 0) (A' := ⟨[⟨2, 0, 0, 0, 0, 0, 0⟩], [], 64⟩) (by
      unfold Ar.leaf Ar.find
      simp only [List.findIdx?_nil]
      rw [if_neg (by simp; try omega), popc_zero]
      rfl)
    have HLF := Lib.hid hlf
    have HM := Lib.hid hM
    clear hlf hM hAW h0
    go_enter Tryz.func100, Tryz.ntmps100
    go_wp2_with fail
    refine HLF.out.mono ?_
    rintro e w1 ⟨rfl, o1, ⟨S, e1, e2, e3, hG, hA, eo⟩, hF⟩
    have HE := Lib.hid (And.intro e1 (And.intro e2 e3))
    have HG := Lib.hid hG
    have HEO := Lib.hid eo
    clear e1 e2 e3 hG eo HLF
    have hc2 : (w1.alloc (.cells #[.int .u32 0, .int .u32 0, .int .u32 0] 29)).cell? ⟨w.heap.size + 1, 2, none⟩ = some S.ev := (hA.alloc _).c2
    have hfz : (w1.alloc (.cells #[.int .u32 0, .int .u32 0, .int .u32 0] 29)).frozen? ⟨w.heap.size + 1, 2, none⟩ = false := (hA.alloc _).fzA 2
    have hS := (hA.alloc (.cells #[.int .u32 0, .int .u32 0, .int .u32 0] 29)).setE (g := w1.heap.size) (l := [0, 0, 0]) (by decide) (by decide) (by decide) (heap_new _ _) (fun hm => Nat.lt_irrefl _ (hA.ownLt _ hm))
    simp only [encR, okV]
    go_wp2_with fail
    have hF3 : Fr w1 o1 ((w1.alloc (.cells #[.int .u32 0, .int .u32 0, .int .u32 0] 29)).setCell ⟨w.heap.size + 1, 2, none⟩ (.slice (some ⟨w1.heap.size, 0, none⟩) 3 3)) (ArM.own { S with empty := [0, 0, 0], ea := some w1.heap.size, ecap := 3 } (w.heap.size + 1)) := by
      refine ⟨rfl, rfl, rfl, by simp, fun b hb hn => ?_, fun b hb => ?_, hS.ownLt⟩
      · rw [World.heap_setCell_ne _ _ _ _ (fun e => hn (by have e' : b = w.heap.size + 1 := e; rw [e', HEO.out]; simp [ArM.own])), Below.heap_alloc _ _ _ hb]
      · rw [HEO.out]
        simp only [ArM.own, List.mem_cons, List.mem_append, Option.toList_some, List.not_mem_nil, or_false] at hb ⊢
        rcases hb with rfl | rfl | hb | rfl
        · exact .inl (.inl rfl)
        · exact .inl (.inr (.inl rfl))
        · exact .inl (.inr (.inr (.inl hb)))
        · exact .inr (Nat.le_refl _)
    have hF0 : Fr w [] ((w.alloc (.cells (zeroSlots 128) 29)).alloc (.cells #[.slice none 0 0, .slice (some ⟨w.heap.size, 0, none⟩) 128 128, .slice none 0 0, .int .i64 (64 : Nat)] 160)) ((ArM.zero 64 w.heap.size).own (w.heap.size + 1)) := by
      refine ⟨rfl, rfl, rfl, by simp; omega, fun b hb hn => ?_, fun b hb => ?_, fun b hb => ?_⟩
      · rw [Below.heap_alloc _ _ _ (by simp; omega), Below.heap_alloc _ _ _ hb]
      · simp only [ArM.own, ArM.zero, Option.toList_none, List.append_nil, List.mem_cons, List.not_mem_nil, or_false] at hb
        right; omega
      · simp only [ArM.own, ArM.zero, Option.toList_none, List.append_nil, List.mem_cons, List.not_mem_nil, or_false] at hb
        simp; omega
    go_ret
    refine ⟨_, rfl, _, ⟨{ S with empty := [0, 0, 0], ea := some w1.heap.size, ecap := 3 }, ?_, rfl, ?_, ⟨HG.out.sok, HG.out.nd, HG.out.half, HG.out.big⟩, hS, rfl⟩, (hF0.trans hF).trans hF3⟩
    · exact HE.out.1
    · show S.most = (max _ _ : Int).toNat
      rw [HM.out]; exact HE.out.2.2
  · have hM : (max m 64).toNat = m.toNat := by omega
    obtain ⟨M, rfl⟩ : ∃ M : Nat, m = M := ⟨m.toNat, by omega⟩
    simp only [Int.toNat_natCast] at hM
    have hM' : M < 9223372036854775808 := by omega
    have h0 := ArM.zero_AR (w.alloc (.cells (zeroSlots 128) 29)) M hM' w.heap.size (heap_new w _)
    have hAW : AW _ _ ⟨[], [], M⟩ _ := ⟨_, rfl, rfl, rfl, ArM.zero_good _ _, h0, rfl⟩
    simp only [World.size_alloc] at hAW
    have hlf := leaf_w hAW 0 (by decide) (r := .ok 0) (A' := ⟨[⟨2, 0, 0, 0, 0, 0, 0⟩], [], M⟩) (by
      unfold Ar.leaf Ar.find
      simp only [List.findIdx?_nil]
      rw [if_neg (by simp; try omega), popc_zero]
      rfl)
    have HLF := Lib.hid hlf
    have HM := Lib.hid hM
    clear hlf hM hAW h0
    go_enter Tryz.func100, Tryz.ntmps100
    go_wp2_with fail
    refine HLF.out.mono ?_
    rintro e w1 ⟨rfl, o1, ⟨S, e1, e2, e3, hG, hA, eo⟩, hF⟩
    have HE := Lib.hid (And.intro e1 (And.intro e2 e3))
    have HG := Lib.hid hG
    have HEO := Lib.hid eo
    clear e1 e2 e3 hG eo HLF
    have hc2 : (w1.alloc (.cells #[.int .u32 0, .int .u32 0, .int .u32 0] 29)).cell? ⟨w.heap.size + 1, 2, none⟩ = some S.ev := (hA.alloc _).c2
    have hfz : (w1.alloc (.cells #[.int .u32 0, .int .u32 0, .int .u32 0] 29)).frozen? ⟨w.heap.size + 1, 2, none⟩ = false := (hA.alloc _).fzA 2
    have hS := (hA.alloc (.cells #[.int .u32 0, .int .u32 0, .int .u32 0] 29)).setE (g := w1.heap.size) (l := [0, 0, 0]) (by decide) (by decide) (by decide) (heap_new _ _) (fun hm => Nat.lt_irrefl _ (hA.ownLt _ hm))
    simp only [encR, okV]
    go_wp2_with fail
    have hF3 : Fr w1 o1 ((w1.alloc (.cells #[.int .u32 0, .int .u32 0, .int .u32 0] 29)).setCell ⟨w.heap.size + 1, 2, none⟩ (.slice (some ⟨w1.heap.size, 0, none⟩) 3 3)) (ArM.own { S with empty := [0, 0, 0], ea := some w1.heap.size, ecap := 3 } (w.heap.size + 1)) := by
      refine ⟨rfl, rfl, rfl, by simp, fun b hb hn => ?_, fun b hb => ?_, hS.ownLt⟩
      · rw [World.heap_setCell_ne _ _ _ _ (fun e => hn (by have e' : b = w.heap.size + 1 := e; rw [e', HEO.out]; simp [ArM.own])), Below.heap_alloc _ _ _ hb]
      · rw [HEO.out]
        simp only [ArM.own, List.mem_cons, List.mem_append, Option.toList_some, List.not_mem_nil, or_false] at hb ⊢
        rcases hb with rfl | rfl | hb | rfl
        · exact .inl (.inl rfl)
        · exact .inl (.inr (.inl rfl))
        · exact .inl (.inr (.inr (.inl hb)))
        · exact .inr (Nat.le_refl _)
    have hF0 : Fr w [] ((w.alloc (.cells (zeroSlots 128) 29)).alloc (.cells #[.slice none 0 0, .slice (some ⟨w.heap.size, 0, none⟩) 128 128, .slice none 0 0, .int .i64 M] 160)) ((ArM.zero M w.heap.size).own (w.heap.size + 1)) := by
      refine ⟨rfl, rfl, rfl, by simp; omega, fun b hb hn => ?_, fun b hb => ?_, fun b hb => ?_⟩
      · rw [Below.heap_alloc _ _ _ (by simp; omega), Below.heap_alloc _ _ _ hb]
      · simp only [ArM.own, ArM.zero, Option.toList_none, List.append_nil, List.mem_cons, List.not_mem_nil, or_false] at hb
        right; omega
      · simp only [ArM.own, ArM.zero, Option.toList_none, List.append_nil, List.mem_cons, List.not_mem_nil, or_false] at hb
        simp; omega
    go_ret
    refine ⟨_, rfl, _, ⟨{ S with empty := [0, 0, 0], ea := some w1.heap.size, ecap := 3 }, ?_, rfl, ?_, ⟨HG.out.sok, HG.out.nd, HG.out.half, HG.out.big⟩, hS, rfl⟩, (hF0.trans hF).trans hF3⟩
    · exact HE.out.1
    · show S.most = (max _ _ : Int).toNat
      rw [HM.out]; exact HE.out.2.2
end Go.Proofs.YtnkdbpjmepfblaaGreatDoor

/- Squares: grand, middle, Trim, Expand, Fit. -/
namespace Go.Proofs.YtnkdbpjmepfblaaGreatDoor
open Go Go.RowKit

def Ar.good (A : Ar) : Prop := ∀ n ∈ A.nodes, n.ok
theorem Ar.kid_lt {A : Ar} (h : A.good) (i j : Nat) : A.kid i j < 4294967296 := by
  unfold Ar.kid
  cases hn : A.nodes[i]? with
  | none => show (0 : Nat) < _; omega
  | some n =>
    have hk := h n (List.mem_of_getElem? hn)
    obtain ⟨_, _, h0, h1, h2, h3, _⟩ := hk
    match j with
    | 0 => exact h0
    | 1 => exact h1
    | 2 => exact h2
    | _ + 3 => exact h3
theorem AW.good {w : World} {ab : Nat} {A : Ar} {o : List Nat} (h : AW w ab A o) : A.good := h.nok
def Ar.grand (A : Ar) (at' i k : Nat) : Nat := A.kid (A.kid at' i) k
def Ar.kids (A : Ar) (i : Nat) : K4 := ⟨A.kid i 0, A.kid i 1, A.kid i 2, A.kid i 3⟩
theorem Ar.kids_k (A : Ar) (i k : Nat) (hk : k < 4) : (A.kids i).k k = A.kid i k := by
  have hc : k = 0 ∨ k = 1 ∨ k = 2 ∨ k = 3 := by omega
  rcases hc with rfl | rfl | rfl | rfl <;> rfl
theorem Ar.kids_ok {A : Ar} (h : A.good) (i : Nat) : (A.kids i).ok := ⟨A.kid_lt h i 0, A.kid_lt h i 1, A.kid_lt h i 2, A.kid_lt h i 3⟩
theorem idxKid (A : Ar) (i k : Nat) (hk : k < 4) (w : World) :
    (Instr.index 155 (.agg #[.int .u32 (A.kid i 0), .int .u32 (A.kid i 1), .int .u32 (A.kid i 2), .int .u32 (A.kid i 3)]) (.int .i64 (k : Int))).run Tryz.prog w = .ok (.int .u32 (A.kid i k)) w := by
  have := idxK4 (A.kids i) k hk w
  rw [A.kids_k i k hk] at this
  exact this

set_option maxRecDepth 100000 in
set_option maxHeartbeats 800000 in
theorem grand_w {w : World} {ab : Nat} {A : Ar} {o : List Nat} (h : AW w ab A o) (n : Nat) (hn : n < 4294967296) (i k : Nat) (hi : i < 4) (hk : k < 4) :
    Calls Tryz.prog 151 #[.pointer (some ⟨ab, 0, none⟩), .int .u32 n, .int .i64 (i : Int), .int .i64 (k : Int)] w fun e w' => e = .returned (.int .u32 (A.grand n i k)) ∧ Fr w [] w' [] := by
  have HAW := Lib.hid h
  have HG := Lib.hid h.good
  clear h
  have i1 := fun w => idxKid A n i hi w
  have i2 := fun w => idxKid A (A.kid n i) k hk w
  go_enter Tryz.func151, Tryz.ntmps151
  go_wp2_with fail
  refine (kids_w HAW.out n hn).mono ?_
  rintro e w1 ⟨rfl, hF⟩
  go_wp2_with fail
  refine (kids_w (HAW.out.ext hF) _ (A.kid_lt HG.out n i)).mono ?_
  rintro e w2 ⟨rfl, hF2⟩
  go_wp2_with fail
  go_ret
  exact ⟨rfl, hF.trans hF2⟩

def Ar.mid (A : Ar) (n : Nat) : K4 := ⟨A.grand n 0 3, A.grand n 1 2, A.grand n 2 1, A.grand n 3 0⟩
theorem Ar.mid_ok {A : Ar} (h : A.good) (n : Nat) : (A.mid n).ok := ⟨A.kid_lt h (A.kid n 0) 3, A.kid_lt h (A.kid n 1) 2, A.kid_lt h (A.kid n 2) 1, A.kid_lt h (A.kid n 3) 0⟩
def Ar.middle (A : Ar) (n : Nat) : Option (Except Nat Nat × Ar) := A.join (A.mid n)

set_option maxRecDepth 100000 in
set_option maxHeartbeats 1600000 in
theorem middle_w {w : World} {ab : Nat} {A : Ar} {o : List Nat} (h : AW w ab A o) (n : Nat) (hn : n < 4294967296) {r : Except Nat Nat} {A' : Ar} (hj : A.middle n = some (r, A')) :
    Calls Tryz.prog 152 #[.pointer (some ⟨ab, 0, none⟩), .int .u32 n] w fun e w' => e = .returned (encR r) ∧ ∃ o', AW w' ab A' o' ∧ Fr w o w' o' := by
  have HAW := Lib.hid h
  have HJ := Lib.hid hj
  clear h hj
  have g0 := fun (w1 : World) (hF : Fr w [] w1 []) => grand_w (HAW.out.ext hF) n hn 0 3 (by decide) (by decide)
  have g1 := fun (w1 : World) (hF : Fr w [] w1 []) => grand_w (HAW.out.ext hF) n hn 1 2 (by decide) (by decide)
  have g2 := fun (w1 : World) (hF : Fr w [] w1 []) => grand_w (HAW.out.ext hF) n hn 2 1 (by decide) (by decide)
  have g3 := fun (w1 : World) (hF : Fr w [] w1 []) => grand_w (HAW.out.ext hF) n hn 3 0 (by decide) (by decide)
  have G0 := Lib.hid g0
  have G1 := Lib.hid g1
  have G2 := Lib.hid g2
  have G3 := Lib.hid g3
  clear g0 g1 g2 g3
  go_enter Tryz.func152, Tryz.ntmps152
  go_wp2_with fail
  refine (G0.out _ (Fr.nil w)).mono ?_
  rintro e w1 ⟨rfl, hF1⟩
  go_wp2_with fail
  refine (G1.out _ hF1).mono ?_
  rintro e w2 ⟨rfl, hF2⟩
  have hF2 := hF1.trans hF2
  clear hF1
  go_wp2_with fail
  refine (G2.out _ hF2).mono ?_
  rintro e w3 ⟨rfl, hF3⟩
  have hF3 := hF2.trans hF3
  clear hF2
  go_wp2_with fail
  refine (G3.out _ hF3).mono ?_
  rintro e w4 ⟨rfl, hF4⟩
  have hF4 := hF3.trans hF4
  clear hF3
  go_wp2_with fail
  refine (join_w (HAW.out.ext hF4) (A.mid n) (A.mid_ok HAW.out.good n) HJ.out).mono ?_
  rintro e w5 ⟨rfl, o', h1, h2⟩
  have hq : ∃ o', AW w5 ab A' o' ∧ Fr w o w5 o' := ⟨o', h1, (hF4.widen HAW.out.lt).trans h2⟩
  clear h1 h2
  cases r with
  | ok i =>
    simp only [encR, okV]
    go_wp2_with fail
    go_ret2
    exact ⟨rfl, hq⟩
  | error c =>
    simp only [encR, errV]
    go_wp2_with fail
    go_ret2
    exact ⟨rfl, hq⟩
end Go.Proofs.YtnkdbpjmepfblaaGreatDoor

/- The arena as data: what is true of each that was made by New, Leaf and Join. -/
namespace Go.Proofs.YtnkdbpjmepfblaaGreatDoor
open Go

def Nd.K (n : Nd) : K4 := ⟨n.k0, n.k1, n.k2, n.k3⟩
/-- A node at i is a leaf, or has four kids ahead of it. -/
def Ar.nodeOk (A : Ar) (i : Nat) (n : Nd) : Prop :=
  n.ok ∧ ((n.lv = 2 ∧ n.K = ⟨0, 0, 0, 0⟩ ∧ n.cnt = popc n.bits) ∨
    (3 ≤ n.lv ∧ n.lv ≤ 44 ∧ n.bits = 0 ∧ (∀ j, j < 4 → n.K.k j < i ∧ A.level (n.K.k j) = (n.lv : Int) - 1) ∧ n.cnt = A.sum n.K 4))
structure Ar.wf (A : Ar) : Prop where
  len : A.nodes.length < 4294967296
  nodes : ∀ (i : Nat) (n : Nd), A.nodes[i]? = some n → A.nodeOk i n
  keys : NodupK A.nodes
  elo : 3 ≤ A.empty.length
  ehi : A.empty.length ≤ 45
  emp : ∀ (l e : Nat), A.empty[l]? = some e → e < A.nodes.length ∧ (2 ≤ l → A.level e = l ∧ A.count e = 0)
structure Ar.le (A B : Ar) : Prop where
  nodes : A.nodes <+: B.nodes
  empty : A.empty <+: B.empty
  most : B.most = A.most
theorem Ar.le.refl (A : Ar) : A.le A := ⟨List.prefix_refl _, List.prefix_refl _, rfl⟩
theorem Ar.le.trans {A B C : Ar} (h : A.le B) (k : B.le C) : A.le C := ⟨h.nodes.trans k.nodes, h.empty.trans k.empty, k.most.trans h.most⟩
theorem Ar.le.len {A B : Ar} (h : A.le B) : A.nodes.length ≤ B.nodes.length := h.nodes.length_le
theorem Ar.le.get {A B : Ar} (h : A.le B) {i : Nat} (hi : i < A.nodes.length) : B.nodes[i]? = A.nodes[i]? := by
  obtain ⟨l, hl⟩ := h.nodes
  rw [← hl, List.getElem?_append_left hi]
theorem Ar.le.get' {A B : Ar} (h : A.le B) {i : Nat} {n : Nd} (hi : A.nodes[i]? = some n) : B.nodes[i]? = some n := by
  rw [h.get (List.getElem?_eq_some_iff.1 hi).1, hi]
theorem Ar.le.level {A B : Ar} (h : A.le B) {i : Nat} (hi : i < A.nodes.length) : B.level i = A.level i := by unfold Ar.level; rw [h.get hi]
theorem Ar.le.bits {A B : Ar} (h : A.le B) {i : Nat} (hi : i < A.nodes.length) : B.bits i = A.bits i := by unfold Ar.bits; rw [h.get hi]
theorem Ar.le.count {A B : Ar} (h : A.le B) {i : Nat} (hi : i < A.nodes.length) : B.count i = A.count i := by unfold Ar.count; rw [h.get hi]
theorem Ar.le.kid {A B : Ar} (h : A.le B) {i : Nat} (hi : i < A.nodes.length) (j : Nat) : B.kid i j = A.kid i j := by unfold Ar.kid; rw [h.get hi]
theorem Ar.le.sum {A B : Ar} (h : A.le B) (K : K4) : ∀ n, (∀ j, j < n → K.k j < A.nodes.length) → B.sum K n = A.sum K n := by
  intro n
  induction n with
  | zero => intro _; rfl
  | succ n ih => intro hk; simp only [Ar.sum]; rw [ih (fun j hj => hk j (by omega)), h.count (hk n (by omega))]
theorem Ar.level_lt {A : Ar} {i : Nat} (h : 0 ≤ A.level i) : i < A.nodes.length := by
  unfold Ar.level at h
  split at h
  · rename_i n hn; exact (List.getElem?_eq_some_iff.1 hn).1
  · omega
theorem Ar.level_get {A : Ar} {i : Nat} {n : Nd} (h : A.nodes[i]? = some n) : A.level i = n.lv := by unfold Ar.level; rw [h]
theorem Ar.bits_get {A : Ar} {i : Nat} {n : Nd} (h : A.nodes[i]? = some n) : A.bits i = n.bits := by unfold Ar.bits; rw [h]
theorem Ar.count_get {A : Ar} {i : Nat} {n : Nd} (h : A.nodes[i]? = some n) : A.count i = n.cnt := by unfold Ar.count; rw [h]
theorem Ar.kid_get {A : Ar} {i : Nat} {n : Nd} (h : A.nodes[i]? = some n) (j : Nat) : A.kid i j = n.K.k j := by
  unfold Ar.kid; rw [h]
  match j with
  | 0 => rfl
  | 1 => rfl
  | 2 => rfl
  | _ + 3 => rfl
theorem Ar.nodeOk.le {A B : Ar} (hle : A.le B) {i : Nat} {n : Nd} (hi : i ≤ A.nodes.length) (h : A.nodeOk i n) : B.nodeOk i n := by
  obtain ⟨h0, h⟩ := h
  refine ⟨h0, ?_⟩
  rcases h with h | ⟨h1, h2, h3, h4, h5⟩
  · exact .inl h
  · refine .inr ⟨h1, h2, h3, fun j hj => ⟨(h4 j hj).1, ?_⟩, ?_⟩
    · rw [hle.level (by have := (h4 j hj).1; omega)]; exact (h4 j hj).2
    · rw [hle.sum n.K 4 (fun j hj => by have := (h4 j hj).1; omega)]; exact h5
theorem K4.ext4 {K L : K4} (h : ∀ j, j < 4 → K.k j = L.k j) : K = L := by
  have h0 := h 0 (by omega)
  have h1 := h 1 (by omega)
  have h2 := h 2 (by omega)
  have h3 := h 3 (by omega)
  cases K; cases L
  simp only [K4.k] at h0 h1 h2 h3
  simp [h0, h1, h2, h3]
theorem Ar.sum_congr {A : Ar} {K : K4} {n : Nat} : A.sum K n = A.sum K n := rfl

def Ar.push (A : Ar) (n : Nd) : Ar := { A with nodes := A.nodes ++ [n] }
theorem Ar.le_push (A : Ar) (n : Nd) : A.le (A.push n) := ⟨List.prefix_append _ _, List.prefix_refl _, rfl⟩
theorem Ar.wf.push {A : Ar} (h : A.wf) {n : Nd} (hl : A.nodes.length + 1 < 4294967296) (hn : A.nodeOk A.nodes.length n) (hno : ∀ (i : Nat) (m : Nd), A.nodes[i]? = some m → m.key ≠ n.key) : (A.push n).wf := by
  have hle := A.le_push n
  refine ⟨by simpa [Ar.push] using hl, fun i m hi => ?_, h.keys.push hno, h.elo, h.ehi, fun l e he => ?_⟩
  · rcases Nat.lt_or_ge i A.nodes.length with h1 | h1
    · rw [hle.get h1] at hi
      exact (h.nodes i m hi).le hle (by omega)
    · have e : i = A.nodes.length := by have := (List.getElem?_eq_some_iff.1 hi).1; simp [Ar.push] at this; omega
      subst e
      simp only [Ar.push, List.getElem?_append_right (Nat.le_refl _), Nat.sub_self, List.getElem?_cons_zero, Option.some.injEq] at hi
      subst hi
      exact hn.le hle (Nat.le_refl _)
  · have := h.emp l e he
    refine ⟨by have := this.1; have := hle.len; omega, fun h2 => ?_⟩
    rw [hle.level this.1, hle.count this.1]
    exact this.2 h2
/-- The key tells the count. -/
theorem Ar.wf.cnt {A : Ar} (h : A.wf) {i : Nat} {m n : Nd} (hi : A.nodes[i]? = some m) (hn : A.nodeOk A.nodes.length n) (hk : m.key = n.key) : m = n := by
  have hm := h.nodes i m hi
  have e1 : m.lv = n.lv := congrArg Ky.lv hk
  have e2 : m.bits = n.bits := congrArg Ky.bits hk
  have e3 : m.k0 = n.k0 := congrArg Ky.k0 hk
  have e4 : m.k1 = n.k1 := congrArg Ky.k1 hk
  have e5 : m.k2 = n.k2 := congrArg Ky.k2 hk
  have e6 : m.k3 = n.k3 := congrArg Ky.k3 hk
  have eK : m.K = n.K := by simp [Nd.K, e3, e4, e5, e6]
  have e7 : m.cnt = n.cnt := by
    rcases hm.2 with ⟨a1, a2, a3⟩ | ⟨a1, a2, a3, a4, a5⟩ <;> rcases hn.2 with ⟨b1, b2, b3⟩ | ⟨b1, b2, b3, b4, b5⟩
    · rw [a3, b3, e2]
    · omega
    · omega
    · rw [a5, b5, eK]
  cases m; cases n
  simp only at e1 e2 e3 e4 e5 e6 e7
  simp [e1, e2, e3, e4, e5, e6, e7]
structure Ar.made (A : Ar) (n : Nd) (r : Except Nat Nat) (B : Ar) : Prop where
  wf : B.wf
  le : A.le B
  len : B.nodes.length ≤ A.nodes.length + 1
  emp : B.empty = A.empty
  ok : ∀ i, r = .ok i → B.nodes[i]? = some n
  err : ∀ c, r = .error c → c = 8 ∧ B = A ∧ A.most ≤ A.nodes.length
theorem mkNd_key (key : Ky) (c : Nat) : (mkNd key c).key = key := by cases key; rfl
theorem Ar.find_spec {A : Ar} (h : A.wf) {key : Ky} {c : Nat} (hn : A.nodeOk A.nodes.length (mkNd key c)) {r : Except Nat Nat} {B : Ar} (hf : A.find key c = some (r, B)) :
    A.made (mkNd key c) r B := by
  unfold Ar.find at hf
  split at hf
  · rename_i j hj
    simp only [Option.some.injEq, Prod.mk.injEq] at hf
    obtain ⟨rfl, rfl⟩ := hf
    rw [List.findIdx?_eq_some_iff_getElem] at hj
    obtain ⟨hl, hp, _⟩ := hj
    refine ⟨h, .refl _, by omega, rfl, fun i hi => ?_, fun c hc => by cases hc⟩
    injection hi with hi
    subst hi
    have hg : A.nodes[j]? = some A.nodes[j] := List.getElem?_eq_getElem hl
    rw [hg, h.cnt hg hn (by rw [mkNd_key]; simpa using hp)]
  · rename_i hj
    split at hf
    · rename_i hm
      simp only [Option.some.injEq, Prod.mk.injEq] at hf
      obtain ⟨rfl, rfl⟩ := hf
      exact ⟨h, .refl _, by omega, rfl, fun i hi => (by cases hi), fun c hc => by injection hc with hc; exact ⟨hc.symm, rfl, hm⟩⟩
    · split at hf
      · rename_i hlen
        simp only [Option.some.injEq, Prod.mk.injEq] at hf
        obtain ⟨rfl, rfl⟩ := hf
        refine ⟨h.push hlen hn ?_, A.le_push _, by simp, rfl, fun i hi => ?_, fun c hc => by cases hc⟩
        · intro i m hi
          rw [List.findIdx?_eq_none_iff] at hj
          have := hj m (List.mem_of_getElem? hi)
          rw [mkNd_key]; simpa using this
        · injection hi with hi
          subst hi
          simp
      · cases hf
/-- Behind find only a lack of room, or 2^32 nodes. -/
theorem Ar.find_none {A : Ar} {key : Ky} {c : Nat} (h : A.find key c = none) : A.nodes.length < A.most ∧ 4294967295 ≤ A.nodes.length := by
  unfold Ar.find at h
  split at h
  · cases h
  · split at h
    · cases h
    · split at h
      · cases h
      · omega

theorem Ar.wf.good {A : Ar} (h : A.wf) (n : Nd) (hn : n ∈ A.nodes) : n.ok := by
  obtain ⟨i, hi⟩ := List.getElem?_of_mem hn
  exact (h.nodes i n hi).1
theorem Ar.wf.nodesLt {A : Ar} (h : A.wf) {i : Nat} {n : Nd} (hi : A.nodes[i]? = some n) (h3 : 3 ≤ n.lv) (j : Nat) (hj : j < 4) : n.K.k j < i := by
  rcases (h.nodes i n hi).2 with ⟨h1, _⟩ | ⟨_, _, _, h4, _⟩
  · omega
  · exact (h4 j hj).1
theorem Ar.leafOk (A : Ar) {f : Nat} (hf : f < 4294967296) : A.nodeOk A.nodes.length (mkNd ⟨2, f, 0, 0, 0, 0⟩ (popc f)) := by
  have hp : popc f ≤ 32 := popc_le 32 f (by simpa using hf)
  refine ⟨⟨show (2 : Nat) < 100 by decide, hf, show (0 : Nat) < 4294967296 by decide, show (0 : Nat) < 4294967296 by decide, show (0 : Nat) < 4294967296 by decide, show (0 : Nat) < 4294967296 by decide, show popc f < _ by omega⟩, .inl ⟨rfl, rfl, rfl⟩⟩
theorem Ar.leaf_spec {A : Ar} (h : A.wf) {f : Nat} (hf : f < 4294967296) {r : Except Nat Nat} {B : Ar} (hl : A.leaf f = some (r, B)) : A.made ⟨2, f, 0, 0, 0, 0, popc f⟩ r B :=
  A.find_spec h (A.leafOk hf) hl
def Ar.joinNd (A : Ar) (K : K4) (l : Nat) : Nd := ⟨l + 1, 0, K.a, K.b, K.c, K.d, A.sum K 4⟩
/-- A join of four of one level below the greatest. -/
theorem Ar.joinOk {A : Ar} (hlen : A.nodes.length ≤ 4294967296) {K : K4} {l : Nat} (h2 : 2 ≤ l) (h44 : l < 44) (hK : ∀ j, j < 4 → A.level (K.k j) = l) : A.nodeOk A.nodes.length (A.joinNd K l) := by
  have hlt : ∀ j, j < 4 → K.k j < A.nodes.length := fun j hj => Ar.level_lt (by rw [hK j hj]; omega)
  have a := hlt 0 (by omega)
  have b := hlt 1 (by omega)
  have c := hlt 2 (by omega)
  have d := hlt 3 (by omega)
  simp only [K4.k] at a b c d
  refine ⟨⟨show l + 1 < 100 by omega, show (0 : Nat) < 4294967296 by decide, show K.a < _ by omega, show K.b < _ by omega, show K.c < _ by omega, show K.d < _ by omega, show A.sum K 4 < _ by have := A.sum_le K 4; omega⟩, .inr ⟨show 3 ≤ l + 1 by omega, show l + 1 ≤ 44 by omega, rfl, fun j hj => ⟨?_, ?_⟩, rfl⟩⟩
  · exact hlt j hj
  · show A.level (K.k j) = ((l + 1 : Nat) : Int) - 1
    rw [hK j hj]; omega
theorem Ar.join_eq {A : Ar} {K : K4} {l : Nat} (h44 : l < 44) (hK : ∀ j, j < 4 → A.level (K.k j) = l) : A.join K = A.find ⟨l + 1, 0, K.a, K.b, K.c, K.d⟩ (A.sum K 4) := by
  have hlt : ∀ j, j < 4 → K.k j < A.nodes.length := fun j hj => Ar.level_lt (by rw [hK j hj]; omega)
  have hf : ∀ j, j < 4 → A.fits K j := fun j hj => ⟨hlt j hj, by rw [hK j hj]; exact (hK 0 (by omega)).symm⟩
  have h0 := hK 0 (by omega)
  simp only [K4.k] at h0
  unfold Ar.join
  rw [if_pos ⟨hf 0 (by omega), hf 1 (by omega), hf 2 (by omega), hf 3 (by omega)⟩, h0, if_neg (by omega)]
  congr 1
theorem Ar.join_spec {A : Ar} (h : A.wf) {K : K4} {l : Nat} (h2 : 2 ≤ l) (h44 : l < 44) (hK : ∀ j, j < 4 → A.level (K.k j) = l) {r : Except Nat Nat} {B : Ar} (hj : A.join K = some (r, B)) :
    A.made (A.joinNd K l) r B := by
  rw [Ar.join_eq h44 hK] at hj
  exact A.find_spec (key := ⟨l + 1, 0, K.a, K.b, K.c, K.d⟩) (c := A.sum K 4) h (Ar.joinOk (Nat.le_of_lt h.len) h2 h44 hK) hj

/-- What an operation comes to: at most N nodes more. -/
structure Ar.out {α : Type} (A : Ar) (N : Nat) (P : α → Ar → Prop) (r : Except Nat α) (B : Ar) : Prop where
  wf : B.wf
  le : A.le B
  len : B.nodes.length ≤ A.nodes.length + N
  ok : ∀ i, r = .ok i → P i B
  err : ∀ c, r = .error c → c = 8 ∧ A.most ≤ B.nodes.length
def Ar.room (A : Ar) (N : Nat) : Prop := A.most ≤ 4294967295 ∨ A.nodes.length + N ≤ 4294967295
def Ar.does {α : Type} (A : Ar) (x : Option (Except Nat α × Ar)) (N : Nat) (P : α → Ar → Prop) : Prop :=
  (∀ r B, x = some (r, B) → A.out N P r B) ∧ (A.room N → ∃ r B, x = some (r, B))
def mbind {α β : Type} (x : Option (Except Nat α × Ar)) (f : α → Ar → Option (Except Nat β × Ar)) : Option (Except Nat β × Ar) :=
  match x with
  | some (.ok j, A) => f j A
  | some (.error c, A) => some (.error c, A)
  | none => none
theorem Ar.does.bind {α β : Type} {A : Ar} {x : Option (Except Nat α × Ar)} {N M : Nat} {P : α → Ar → Prop} {Q : β → Ar → Prop} {f : α → Ar → Option (Except Nat β × Ar)}
    (h : A.does x N P) (hf : ∀ i B, B.wf → A.le B → P i B → B.does (f i B) M Q) : A.does (mbind x f) (N + M) Q := by
  constructor
  · intro r B hb
    match x, h, hb with
    | none, _, hb => cases hb
    | some (.error c, A1), h, hb =>
      have ho := h.1 _ _ rfl
      simp only [mbind, Option.some.injEq, Prod.mk.injEq] at hb
      obtain ⟨rfl, rfl⟩ := hb
      exact ⟨ho.wf, ho.le, by have := ho.len; omega, fun i hi => (by cases hi), fun c' hc => by injection hc with hc; exact hc ▸ ho.err c rfl⟩
    | some (.ok j, A1), h, hb =>
      have ho := h.1 _ _ rfl
      have h2 := (hf j A1 ho.wf ho.le (ho.ok j rfl)).1 r B hb
      exact ⟨h2.wf, ho.le.trans h2.le, by have := ho.len; have := h2.len; omega, h2.ok, fun c hc => ⟨(h2.err c hc).1, by rw [← ho.le.most]; exact (h2.err c hc).2⟩⟩
  · intro hr
    have hN : A.room N := by rcases hr with hr | hr
                             · exact .inl hr
                             · exact .inr (by omega)
    obtain ⟨r1, A1, hx⟩ := h.2 hN
    have ho := h.1 _ _ hx
    subst hx
    cases r1 with
    | error c => exact ⟨_, _, rfl⟩
    | ok j =>
      refine (hf j A1 ho.wf ho.le (ho.ok j rfl)).2 ?_
      rcases hr with hr | hr
      · exact .inl (by rw [ho.le.most]; exact hr)
      · exact .inr (by have := ho.len; omega)
theorem Ar.does.mono {α : Type} {A : Ar} {x : Option (Except Nat α × Ar)} {N M : Nat} {P Q : α → Ar → Prop} (h : A.does x N P) (hNM : N ≤ M) (hPQ : ∀ i B, B.wf → A.le B → P i B → Q i B) : A.does x M Q := by
  refine ⟨fun r B hx => ?_, fun hr => h.2 ?_⟩
  · have ho := h.1 r B hx
    exact ⟨ho.wf, ho.le, by have := ho.len; omega, fun i hi => hPQ i B ho.wf ho.le (ho.ok i hi), ho.err⟩
  · rcases hr with hr | hr
    · exact .inl hr
    · exact .inr (by omega)
theorem Ar.does.pure {α : Type} {A : Ar} {i : α} {N : Nat} {P : α → Ar → Prop} (h : A.wf) (hp : P i A) : A.does (some (.ok i, A)) N P := by
  refine ⟨fun r B hx => ?_, fun _ => ⟨_, _, rfl⟩⟩
  simp only [Option.some.injEq, Prod.mk.injEq] at hx
  obtain ⟨rfl, rfl⟩ := hx
  exact ⟨h, .refl _, by omega, fun j hj => by injection hj with hj; exact hj ▸ hp, fun c hc => by cases hc⟩
theorem Ar.does_find {A : Ar} (h : A.wf) {key : Ky} {c : Nat} (hn : A.nodeOk A.nodes.length (mkNd key c)) : A.does (A.find key c) 1 (fun i B => B.nodes[i]? = some (mkNd key c)) := by
  constructor
  · intro r B hx
    have hm := A.find_spec h hn hx
    exact ⟨hm.wf, hm.le, hm.len, hm.ok, fun c hc => ⟨(hm.err c hc).1, by rw [(hm.err c hc).2.1]; exact (hm.err c hc).2.2⟩⟩
  · intro hr
    cases hx : A.find key c with
    | some x => exact ⟨x.1, x.2, rfl⟩
    | none =>
      have := Ar.find_none hx
      rcases hr with hr | hr <;> omega
theorem Ar.does_leaf {A : Ar} (h : A.wf) {f : Nat} (hf : f < 4294967296) : A.does (A.leaf f) 1 (fun i B => B.nodes[i]? = some ⟨2, f, 0, 0, 0, 0, popc f⟩) :=
  Ar.does_find h (A.leafOk hf)
theorem Ar.does_join {A : Ar} (h : A.wf) {K : K4} {l : Nat} (h2 : 2 ≤ l) (h44 : l < 44) (hK : ∀ j, j < 4 → A.level (K.k j) = l) :
    A.does (A.join K) 1 (fun i B => B.nodes[i]? = some (A.joinNd K l)) := by
  rw [Ar.join_eq h44 hK]
  exact Ar.does_find (key := ⟨l + 1, 0, K.a, K.b, K.c, K.d⟩) (c := A.sum K 4) h (Ar.joinOk (Nat.le_of_lt h.len) h2 h44 hK)

theorem Ar.wf.last {A : Ar} (h : A.wf) : A.empty[A.empty.length - 1]? = some A.last := by
  have := h.elo
  unfold Ar.last
  rw [List.getElem?_eq_getElem (show A.empty.length - 1 < A.empty.length by omega)]; rfl
theorem Ar.wf.addE {A : Ar} (h : A.wf) {j : Nat} (hl : A.level j = A.empty.length) (hc : A.count j = 0) (h44 : A.empty.length ≤ 44) : Ar.wf { A with empty := A.empty ++ [j] } := by
  have hj : j < A.nodes.length := Ar.level_lt (by omega)
  refine ⟨h.len, h.nodes, h.keys, by have := h.elo; simp; omega, by simp; omega, fun l e he => ?_⟩
  rcases Nat.lt_or_ge l A.empty.length with h1 | h1
  · rw [List.getElem?_append_left h1] at he
    exact h.emp l e he
  · have e1 : l = A.empty.length := by have := (List.getElem?_eq_some_iff.1 he).1; simp at this; omega
    subst e1
    simp only [List.getElem?_append_right (Nat.le_refl _), Nat.sub_self, List.getElem?_cons_zero, Option.some.injEq] at he
    subst he
    exact ⟨hj, fun _ => ⟨hl, hc⟩⟩
theorem Ar.sum_zero {A : Ar} {i : Nat} (h : A.count i = 0) : ∀ n, A.sum ⟨i, i, i, i⟩ n = 0 := by
  intro n
  induction n with
  | zero => rfl
  | succ n ih =>
    simp only [Ar.sum, ih]
    have : A.count ((⟨i, i, i, i⟩ : K4).k n) = 0 := by
      match n with
      | 0 => exact h
      | 1 => exact h
      | 2 => exact h
      | _ + 3 => exact h
    rw [this]; rfl
theorem fillE_eq (lev n : Nat) (A : Ar) : A.fillE lev (n + 1) = mbind (A.join ⟨A.last, A.last, A.last, A.last⟩) (fun j B => Ar.fillE lev n { B with empty := B.empty ++ [j] }) := by
  simp only [Ar.fillE, mbind]
  rcases A.join ⟨A.last, A.last, A.last, A.last⟩ with _ | ⟨_ | _, _⟩ <;> rfl
theorem Ar.does_fillE {lev : Nat} (h2 : 2 ≤ lev) (h44 : lev ≤ 44) : ∀ (n : Nat) {A : Ar}, A.wf → n = lev + 1 - A.empty.length → A.does (A.fillE lev n) n (fun i B => B.level i = lev ∧ B.count i = 0) := by
  intro n
  induction n with
  | zero =>
    intro A h hn
    obtain ⟨e, he⟩ : ∃ e, A.empty[lev]? = some e := ⟨_, List.getElem?_eq_getElem (by omega)⟩
    simp only [Ar.fillE]
    refine .pure h ?_
    rw [he]
    exact (h.emp lev e he).2 h2
  | succ n ih =>
    intro A h hn
    rw [fillE_eq]
    have hlast := h.emp _ _ h.last
    have hel := h.elo
    have hl2 := hlast.2 (by omega)
    have hj := Ar.does_join h (K := ⟨A.last, A.last, A.last, A.last⟩) (l := A.empty.length - 1) (by omega) (by omega) (fun j hj => by
      have hc : j = 0 ∨ j = 1 ∨ j = 2 ∨ j = 3 := by omega
      rcases hc with rfl | rfl | rfl | rfl <;> exact hl2.1)
    rw [Nat.add_comm n 1]
    have hle : ∀ B : Ar, A.le B → ∀ j, A.le { B with empty := B.empty ++ [j] } := fun B hB j => ⟨hB.nodes, hB.empty.trans (List.prefix_append _ _), hB.most⟩
    -- the bind, with the length of the empties kept
    constructor
    · intro r B hx
      match hm : A.join ⟨A.last, A.last, A.last, A.last⟩, hx with
      | none, hx => cases hx
      | some (.error c, A1), hx =>
        have ho := hj.1 _ _ hm
        simp only [mbind, Option.some.injEq, Prod.mk.injEq] at hx
        obtain ⟨rfl, rfl⟩ := hx
        exact ⟨ho.wf, ho.le, by have := ho.len; omega, fun i hi => (by cases hi), fun c' hc => by injection hc with hc; exact hc ▸ ho.err c rfl⟩
      | some (.ok j, A1), hx =>
        have ho := hj.1 _ _ hm
        have hg := ho.ok j rfl
        have he := (join_empty hm).1
        have hw : Ar.wf { A1 with empty := A1.empty ++ [j] } := ho.wf.addE (by rw [Ar.level_get hg, he]; show ((A.empty.length - 1 + 1 : Nat) : Int) = _; omega) (by rw [Ar.count_get hg]; exact Ar.sum_zero hl2.2 4) (by rw [he]; omega)
        have h3 := (ih hw (by show n = lev + 1 - (A1.empty ++ [j]).length; rw [he, List.length_append]; simp; omega)).1 r B hx
        exact ⟨h3.wf, (hle A1 ho.le j).trans h3.le, by have h4 := ho.len; have h5 : B.nodes.length ≤ A1.nodes.length + n := h3.len; omega, h3.ok, fun c hc => ⟨(h3.err c hc).1, by have h6 : A1.most ≤ B.nodes.length := (h3.err c hc).2; rw [ho.le.most] at h6; exact h6⟩⟩
    · intro hr
      obtain ⟨r1, A1, hx⟩ := hj.2 (by rcases hr with hr | hr
                                      · exact .inl hr
                                      · exact .inr (by omega))
      have ho := hj.1 _ _ hx
      rw [hx]
      cases r1 with
      | error c => exact ⟨_, _, rfl⟩
      | ok j =>
        have hg := ho.ok j rfl
        have he := (join_empty hx).1
        have hw : Ar.wf { A1 with empty := A1.empty ++ [j] } := ho.wf.addE (by rw [Ar.level_get hg, he]; show ((A.empty.length - 1 + 1 : Nat) : Int) = _; omega) (by rw [Ar.count_get hg]; exact Ar.sum_zero hl2.2 4) (by rw [he]; omega)
        refine (ih hw (by show n = lev + 1 - (A1.empty ++ [j]).length; rw [he, List.length_append]; simp; omega)).2 ?_
        rcases hr with hr | hr
        · exact .inl (by show A1.most ≤ _; rw [ho.le.most]; exact hr)
        · exact .inr (by show A1.nodes.length + n ≤ _; have := ho.len; omega)
theorem Ar.does_mt {A : Ar} (h : A.wf) {lev : Nat} (h2 : 2 ≤ lev) (h44 : lev ≤ 44) : A.does (A.mt lev) 45 (fun i B => B.level i = lev ∧ B.count i = 0) := by
  unfold Ar.mt
  rw [if_neg (by omega), if_neg (by omega)]
  refine (Ar.does_fillE h2 h44 _ h rfl).mono (by simp; omega) (fun _ _ _ _ hp => hp)
theorem Ar.new_wf (m : Nat) : (Ar.new m).wf := by
  refine ⟨by simp [Ar.new], fun i n hi => ?_, fun i j a b hi hj _ => ?_, by simp [Ar.new], by simp [Ar.new], fun l e he => ?_⟩
  · have h0 : i = 0 := by have := (List.getElem?_eq_some_iff.1 hi).1; simp [Ar.new] at this; omega
    subst h0
    simp only [Ar.new, List.getElem?_cons_zero, Option.some.injEq] at hi
    subst hi
    refine ⟨by simp [Nd.ok], .inl ⟨rfl, rfl, by rw [popc_zero]⟩⟩
  · have h0 := (List.getElem?_eq_some_iff.1 hi).1
    have h1 := (List.getElem?_eq_some_iff.1 hj).1
    simp [Ar.new] at h0 h1
    omega
  · have hl : l < 3 := (List.getElem?_eq_some_iff.1 he).1
    have h0 : e = 0 := by
      have hc : l = 0 ∨ l = 1 ∨ l = 2 := by omega
      rcases hc with rfl | rfl | rfl <;> simpa [Ar.new] using he.symm
    subst h0
    refine ⟨by simp [Ar.new], fun h2 => ?_⟩
    have h3 : l = 2 := by omega
    subst h3
    exact ⟨rfl, rfl⟩
end Go.Proofs.YtnkdbpjmepfblaaGreatDoor

/- Squares: Trim. -/
namespace Go.Proofs.YtnkdbpjmepfblaaGreatDoor
open Go Go.RowKit

/-- The level of a node, in memory. -/
def lvOf (w : World) (ab i : Nat) : Nat :=
  match w.cell? ⟨ab, 0, none⟩ with
  | some (.slice (some a) n _) => if i < n then (match w.cell? ⟨a.block, i * 7, none⟩ with | some (.int _ l) => l.toNat | _ => 0) else 0
  | _ => 0
theorem AW.lv {w : World} {ab : Nat} {A : Ar} {o : List Nat} (h : AW w ab A o) (i : Nat) : lvOf w ab i = (A.level i).toNat := by
  obtain ⟨S, h1, _, _, _, hA, _⟩ := h
  unfold lvOf Ar.level
  rw [← h1]
  by_cases hi : i < S.nodes.length
  · rw [hA.c0' (by omega), List.getElem?_eq_getElem hi]
    simp only [if_pos hi]
    rw [(hA.node (List.getElem?_eq_getElem hi)).1]
    first | done | simp
  · rw [hA.c0, List.getElem?_eq_none (by omega)]
    cases S.na with
    | none => rfl
    | some b => simp only [Option.map_some, if_neg hi]; rfl
def Ar.innerS (A : Ar) (n : Nat) : Nat → Nat
  | 0 => 0
  | k + 1 => A.innerS n k + A.count (A.grand n k (3 - k))
def Ar.trimL : Nat → Nat → Ar → Option (Except Nat Nat × Ar)
  | 0, n, A => some (.ok n, A)
  | f + 1, n, A => if A.innerS n 4 ≠ A.count n then some (.ok n, A) else mbind (A.middle n) (trimL f)
def Ar.trim (A : Ar) (n : Nat) : Option (Except Nat Nat × Ar) :=
  if A.level n < 3 then some (.error 4, A) else A.trimL ((A.level n).toNat - 3) n

theorem Ar.sum_get_le {A : Ar} {K : K4} {n j : Nat} (hj : j < n) (hs : A.sum K n < 4611686018427387904) : A.count (K.k j) ≤ A.sum K n := by
  induction n with
  | zero => omega
  | succ n ih =>
    simp only [Ar.sum, cap62] at hs ⊢
    rcases Nat.lt_succ_iff_lt_or_eq.mp hj with h | rfl
    · have := ih h (by omega)
      omega
    · omega
/-- A kid has no more cells. -/
theorem Ar.wf.count_kid {A : Ar} (h : A.wf) {n j : Nat} (hj : j < 4) (hl : 3 ≤ A.level n) (hc : A.count n < 4611686018427387904) :
    A.count (A.kid n j) ≤ A.count n := by
  obtain ⟨d, hd⟩ : ∃ d, A.nodes[n]? = some d := ⟨_, List.getElem?_eq_getElem (Ar.level_lt (by omega))⟩
  rw [Ar.kid_get hd, Ar.count_get hd]
  rw [Ar.count_get hd] at hc
  rw [Ar.level_get hd] at hl
  rcases (h.nodes n d hd).2 with ⟨h1, _⟩ | ⟨_, _, _, _, h5⟩
  · omega
  · rw [h5] at hc ⊢
    exact Ar.sum_get_le hj hc
theorem Ar.wf.level_kid {A : Ar} (h : A.wf) {n j : Nat} (hj : j < 4) (hl : 3 ≤ A.level n) : A.level (A.kid n j) = A.level n - 1 := by
  obtain ⟨d, hd⟩ : ∃ d, A.nodes[n]? = some d := ⟨_, List.getElem?_eq_getElem (Ar.level_lt (by omega))⟩
  rw [Ar.kid_get hd, Ar.level_get hd]
  rw [Ar.level_get hd] at hl
  rcases (h.nodes n d hd).2 with ⟨h1, _⟩ | ⟨_, _, _, h4, _⟩
  · omega
  · exact (h4 j hj).2
theorem Ar.wf.level_le {A : Ar} (h : A.wf) (n : Nat) : A.level n ≤ 44 := by
  unfold Ar.level
  split
  · rename_i d hd
    rcases (h.nodes n d hd).2 with ⟨h1, _⟩ | ⟨_, h2, _⟩ <;> omega
  · omega
theorem Ar.wf.level_lo {A : Ar} (h : A.wf) (n : Nat) : A.level n = -1 ∨ 2 ≤ A.level n := by
  unfold Ar.level
  split
  · rename_i d hd
    rcases (h.nodes n d hd).2 with ⟨h1, _⟩ | ⟨h2, _⟩ <;> omega
  · exact .inl rfl
theorem Ar.wf.level_grand {A : Ar} (h : A.wf) {n i k : Nat} (hi : i < 4) (hk : k < 4) (hl : 4 ≤ A.level n) : A.level (A.grand n i k) = A.level n - 2 := by
  unfold Ar.grand
  have h1 := h.level_kid hi (by omega : 3 ≤ A.level n)
  rw [h.level_kid hk (by omega), h1]; omega
theorem Ar.wf.count_grand {A : Ar} (h : A.wf) {n i k : Nat} (hi : i < 4) (hk : k < 4) (hl : 4 ≤ A.level n) (hc : A.count n < 4611686018427387904) : A.count (A.grand n i k) ≤ A.count n := by
  unfold Ar.grand
  have h1 := h.level_kid hi (by omega : 3 ≤ A.level n)
  have h2 := h.count_kid hi (by omega) hc
  have h3 := h.count_kid (n := A.kid n i) hk (by omega) (by omega)
  omega
theorem Ar.wf.innerS_le {A : Ar} (h : A.wf) {n : Nat} (hl : 4 ≤ A.level n) (hc : A.count n < 4611686018427387904) : ∀ k, k ≤ 4 → A.innerS n k ≤ k * A.count n := by
  intro k
  induction k with
  | zero => intro _; simp [Ar.innerS]
  | succ k ih =>
    intro hk
    have := ih (by omega)
    have := h.count_grand (n := n) (i := k) (k := 3 - k) (by omega) (by omega) hl hc
    simp only [Ar.innerS, Nat.succ_mul]
    omega
theorem Ar.mid_level {A : Ar} (h : A.wf) {n : Nat} {l : Nat} (hl : A.level n = l + 2) (h2 : 2 ≤ l) : ∀ j, j < 4 → A.level ((A.mid n).k j) = l := by
  intro j hj
  have hg := fun i k (hi : i < 4) (hk : k < 4) => h.level_grand (n := n) hi hk (by omega)
  have hc : j = 0 ∨ j = 1 ∨ j = 2 ∨ j = 3 := by omega
  rcases hc with rfl | rfl | rfl | rfl
  · show A.level (A.grand n 0 3) = _; rw [hg 0 3 (by omega) (by omega)]; omega
  · show A.level (A.grand n 1 2) = _; rw [hg 1 2 (by omega) (by omega)]; omega
  · show A.level (A.grand n 2 1) = _; rw [hg 2 1 (by omega) (by omega)]; omega
  · show A.level (A.grand n 3 0) = _; rw [hg 3 0 (by omega) (by omega)]; omega
theorem Ar.sum_small {A : Ar} {K : K4} (n : Nat) (hs : (List.range n).foldl (fun s j => s + A.count (K.k j)) 0 < 4611686018427387904) : A.sum K n = (List.range n).foldl (fun s j => s + A.count (K.k j)) 0 := by
  induction n with
  | zero => rfl
  | succ n ih =>
    rw [List.range_succ, List.foldl_append] at hs ⊢
    simp only [List.foldl_cons, List.foldl_nil] at hs ⊢
    simp only [Ar.sum, cap62]
    rw [ih (by omega)]
    omega
theorem Ar.mid_sum {A : Ar} {n : Nat} (hs : A.innerS n 4 < 4611686018427387904) : A.sum (A.mid n) 4 = A.innerS n 4 := by
  simp only [Ar.sum, Ar.innerS, cap62, K4.k, Ar.mid, Nat.sub_zero, Nat.sub_self, Nat.reduceSub] at hs ⊢
  omega

set_option maxRecDepth 100000 in
set_option maxHeartbeats 1600000 in
theorem trim_w {w : World} {ab : Nat} {A : Ar} {o : List Nat} (h : AW w ab A o) (hwf : A.wf) (n : Nat) (hn : n < 4294967296) (hcnt : A.count n < 1152921504606846976) {r : Except Nat Nat} {A' : Ar} (hj : A.trim n = some (r, A')) :
    Calls Tryz.prog 84 #[.pointer (some ⟨ab, 0, none⟩), .int .u32 n] w fun e w' => e = .returned (encR r) ∧ ∃ o', AW w' ab A' o' ∧ Fr w o w' o' := by
  have HAW := Lib.hid h
  have HJ := Lib.hid hj
  have HWF := Lib.hid hwf
  clear h hj hwf
  have hlv := HWF.out.level_le n
  have hlo := HWF.out.level_lo n
  go_enter Tryz.func84, Tryz.ntmps84
  go_wp2_with fail
  refine (level_w HAW.out n hn).mono ?_
  rintro e w' ⟨rfl, rfl⟩
  by_cases hl3 : A.level n < 3
  · go_wp2_with fail
    have hj := HJ.out
    unfold Ar.trim at hj
    rw [if_pos hl3] at hj
    obtain ⟨rfl, rfl⟩ : Except.error 4 = r ∧ A = A' := by simpa using hj
    go_ret2
    exact ⟨rfl, o, HAW.out, Fr.refl w o HAW.out.lt⟩
  have hj := HJ.out
  unfold Ar.trim at hj
  rw [if_neg hl3] at hj
  clear HJ
  have HJ := Lib.hid hj
  clear hj
  go_wp2_with fail
  go_loopw [1] (fun v wr => ∃ (A1 : Ar) (o1 : List Nat) (m f : Nat), v = .int .u32 m ∧ m < 4294967296 ∧ AW wr ab A1 o1 ∧ Fr w o wr o1 ∧ A1.wf ∧ A1.level m = 3 + f ∧ A1.count m < 1152921504606846976 ∧ A1.trimL f m = some (r, A')) (fun v w => lvOf w ab (intOf v).toNat)
  case atStart =>
    refine ⟨A, o, n, (A.level n).toNat - 3, rfl, hn, HAW.out, Fr.refl w o HAW.out.lt, HWF.out, by omega, hcnt, HJ.out⟩
  case round =>
    clear HJ HAW HWF hlv hlo hl3 hcnt hn
    obtain ⟨A1, o1, m, f, rfl, hm, hAW, hF, hwf, hl, hcnt, hj⟩ := hrel
    have HAW := Lib.hid hAW
    have HWF := Lib.hid hwf
    have HL := Lib.hid hl
    have HJ := Lib.hid hj
    have hlv := hwf.level_le m
    have hf41 : f ≤ 41 := by omega
    clear hAW hwf hl hj
    obtain ⟨W0, rfl⟩ : ∃ W0, W0 = wr := ⟨_, rfl⟩
    go_wp2_with fail
    refine (level_w HAW.out m hm).mono ?_
    rintro e w' ⟨rfl, rfl⟩
    by_cases h0 : f = 0
    · have hle : ¬ (3 : Int) < A1.level m := by rw [HL.out]; omega
      go_wp2_with fail
      have hj := HJ.out
      rw [h0] at hj
      unfold Ar.trimL at hj
      obtain ⟨rfl, rfl⟩ : Except.ok m = r ∧ A1 = A' := by simpa using hj
      go_ret2
      exact ⟨rfl, o1, HAW.out, hF⟩
    · have hgt : (3 : Int) < A1.level m := by rw [HL.out]; omega
      obtain ⟨f, rfl⟩ : ∃ g, f = g + 1 := ⟨f - 1, by omega⟩
      have hbs : ∀ k, k ≤ 4 → A1.innerS m k ≤ 4 * 1152921504606846975 := fun k hk => by
        have h1 := HWF.out.innerS_le (n := m) (by rw [HL.out]; omega) (by omega) k hk
        have h2 : k * A1.count m ≤ 4 * 1152921504606846975 := Nat.mul_le_mul hk (by omega)
        omega
      have HBS := Lib.hid hbs
      clear hbs
      go_wp2_with fail
      go_loopw [6, 19] (fun s k wz => ∃ q : Nat, q ≤ 4 ∧ k = .int .i64 q ∧ s = .int .u64 (A1.innerS m q) ∧ Fr W0 [] wz []) (fun _ k _ => 4 - (intOf k).toNat)
      case atStart => exact ⟨0, by omega, rfl, rfl, Fr.nil W0⟩
      case round =>
        obtain ⟨q, hq, rfl, rfl, hFz⟩ := hrel
        by_cases hq4 : q < 4
        · have hg := fun (wz : World) (hF : Fr W0 [] wz []) => grand_w (HAW.out.ext hF) m hm q (3 - q) hq4 (by omega)
          have e3 : ((3 - q : Nat) : Int) = 3 - (q : Int) := by omega
          rw [e3] at hg
          have HGW := Lib.hid hg
          have hb1 := HBS.out q hq
          have hb2 := HBS.out (q + 1) (by omega)
          have hb3 : A1.count (A1.grand m q (3 - q)) ≤ 4 * 1152921504606846975 := by simp only [Ar.innerS] at hb2; omega
          clear hg e3
          go_wp2_with fail
          refine (HGW.out _ hFz).mono ?_
          rintro e wy ⟨rfl, hFy⟩
          go_wp2_with fail
          refine (count_w (HAW.out.ext (hFz.trans hFy)) (A1.grand m q (3 - q)) (A1.kid_lt HWF.out.good _ _)).mono ?_
          rintro e wx ⟨rfl, rfl⟩
          go_wp2_with fail
          refine ⟨⟨q + 1, by omega, rfl, ?_, hFz.trans hFy⟩, by simp only [intOf]; omega⟩
          simp only [Ar.innerS]
          congr 1
        · have h4 : q = 4 := by omega
          subst h4
          clear hq hq4
          obtain ⟨W1, rfl⟩ : ∃ W1, W1 = wr := ⟨_, rfl⟩
          have HA1 := Lib.hid (HAW.out.ext hFz)
          have hb4 := HBS.out 4 (by omega)
          have hin : A1.innerS m 4 < 4611686018427387904 := by omega
          obtain ⟨s, hs⟩ : ∃ s, A1.innerS m 4 = s := ⟨_, rfl⟩
          have HS := Lib.hid hs
          rw [hs] at hb4 hin ⊢
          obtain ⟨c, hc⟩ : ∃ c, A1.count m = c := ⟨_, rfl⟩
          have HC := Lib.hid hc
          have hcw := count_w HA1.out m hm
          rw [hc] at hcnt hcw
          have HCW := Lib.hid hcw
          clear hs hc hcw
          go_wp2_with fail
          refine HCW.out.mono ?_
          rintro e wx ⟨rfl, rfl⟩
          by_cases hne : s = c
          · subst hne
            have hng : decide ((4611686018427387904 : Int) ≤ (s : Int)) = false := decide_eq_false (by omega)
            have hj := HJ.out
            unfold Ar.trimL at hj
            rw [if_neg (by rw [HS.out, HC.out]; simp)] at hj
            obtain ⟨x, hx⟩ : ∃ x, x = A1.middle m := ⟨_, rfl⟩
            rw [← hx] at hj
            cases x with
            | none => cases hj
            | some ra =>
              obtain ⟨r1, A2⟩ := ra
              have hmw := middle_w HA1.out m hm hx.symm
              have HMW := Lib.hid hmw
              have HX := Lib.hid hx
              have HJ2 := Lib.hid hj
              clear hmw hx hj
              go_wp2_with fail
              refine HMW.out.mono ?_
              rintro e w2 ⟨rfl, o2, hAW2, hF2⟩
              have hF3 : Fr w o w2 o2 := (hF.ext hFz).trans hF2
              cases r1 with
              | error c =>
                have hj := HJ2.out
                simp only [mbind] at hj
                obtain ⟨rfl, rfl⟩ : Except.error c = r ∧ A2 = A' := by simpa using hj
                simp only [encR, errV]
                go_wp2_with fail
                go_ret2
                exact ⟨rfl, o2, hAW2, hF3⟩
              | ok j =>
                have hml := A1.mid_level HWF.out (n := m) (l := f + 2) (by rw [HL.out]; omega) (by omega)
                have hmd := A1.join_spec HWF.out (K := A1.mid m) (by omega) (by omega) hml HX.out.symm
                have HMD := Lib.hid hmd
                clear hml hmd
                have HAW2 := Lib.hid hAW2
                have HF3 := Lib.hid hF3
                clear hAW2 hF3 hF2
                simp only [encR, okV]
                go_wp2_with fail
                have hg := HMD.out.ok j rfl
                have hl2 : A2.level j = 3 + (f : Int) := by rw [Ar.level_get hg]; show ((f + 2 + 1 : Nat) : Int) = _; omega
                have hc2 : A2.count j = s := by
                  rw [Ar.count_get hg]
                  show A1.sum (A1.mid m) 4 = s
                  rw [A1.mid_sum (by rw [HS.out]; omega), HS.out]
                refine ⟨⟨A2, o2, j, f, rfl, ?_, HAW2.out, HF3.out, HMD.out.wf, hl2, by rw [hc2]; exact hcnt, HJ2.out⟩, ?_⟩
                · have := HAW2.out.len; have := Ar.level_lt (A := A2) (i := j) (by omega); omega
                · simp only [intOf, Int.toNat_natCast]
                  rw [HAW2.out.lv, HAW.out.lv, hl2, HL.out]; omega
          · have hnb : ((s : Int) != (c : Int)) = true := by simp; omega
            have HNE := Lib.hid hne
            clear hne
            go_wp2_with fail
            have hj := HJ.out
            unfold Ar.trimL at hj
            rw [if_pos (by rw [HS.out, HC.out]; exact HNE.out)] at hj
            obtain ⟨rfl, rfl⟩ : Except.ok m = r ∧ A1 = A' := by simpa using hj
            go_ret2
            exact ⟨rfl, o1, HA1.out, hF.ext hFz⟩
end Go.Proofs.YtnkdbpjmepfblaaGreatDoor
