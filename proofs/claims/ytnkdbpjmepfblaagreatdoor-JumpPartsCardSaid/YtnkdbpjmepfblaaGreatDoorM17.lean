/- Texts of the walk and its plain law, merged: PureF, PureG, Nine. -/
import Derived.Test.YtnkdbpjmepfblaaGreatDoorM06
/- What operations come to: each node more is empty or a window of a family. -/
namespace Go.Proofs.YtnkdbpjmepfblaaGreatDoor
open Go

def gbind {σ α β : Type} (x : Option (Except Nat α × σ)) (f : α → σ → Option (Except Nat β × σ)) : Option (Except Nat β × σ) :=
  match x with
  | some (.ok j, A) => f j A
  | some (.error c, A) => some (.error c, A)
  | none => none
theorem mbind_eq {α β : Type} (x : Option (Except Nat α × Ar)) (f : α → Ar → Option (Except Nat β × Ar)) : mbind x f = gbind x f := by
  rcases x with _ | ⟨_ | _, _⟩ <;> rfl
abbrev Fam := Nat → Plane → Int → Int → Prop
/-- A node that is empty, or shows a window of the family. -/
def Ar.fam (A : Ar) (F : Fam) (j : Nat) : Prop := A.count j = 0 ∨ ∃ d C a b, F d C a b ∧ A.W d j C a b
theorem Ar.fam.le {A B : Ar} {F : Fam} {j : Nat} (h : A.fam F j) (hA : A.wf) (hle : A.le B) (hj : j < A.nodes.length) : B.fam F j := by
  rcases h with h | ⟨d, C, a, b, h1, h2⟩
  · exact .inl (by rw [hle.count hj]; exact h)
  · exact .inr ⟨d, C, a, b, h1, h2.le hle hA⟩
structure Ar.step (A : Ar) (F : Fam) (B : Ar) : Prop where
  wf : B.wf
  le : A.le B
  fam : ∀ j, A.nodes.length ≤ j → j < B.nodes.length → B.fam F j
theorem Ar.step.refl {A : Ar} (h : A.wf) (F : Fam) : A.step F A := ⟨h, .refl _, fun j h1 h2 => by omega⟩
theorem Ar.step.trans {A B C : Ar} {F : Fam} (h : A.step F B) (k : B.step F C) : A.step F C :=
  ⟨k.wf, h.le.trans k.le, fun j h1 h2 => by
    rcases Nat.lt_or_ge j B.nodes.length with h3 | h3
    · exact (h.fam j h1 h3).le h.wf k.le h3
    · exact k.fam j h3 h2⟩
theorem Ar.step.mono {A B : Ar} {F G : Fam} (h : A.step F B) (hFG : ∀ d C a b, F d C a b → G d C a b) : A.step G B :=
  ⟨h.wf, h.le, fun j h1 h2 => by
    rcases h.fam j h1 h2 with h3 | ⟨d, C, a, b, h3, h4⟩
    · exact .inl h3
    · exact .inr ⟨d, C, a, b, hFG _ _ _ _ h3, h4⟩⟩

/-- What an operation on a state comes to. -/
structure goesS {σ α : Type} (ar : σ → Ar) (ok : σ → Prop) (s : σ) (x : Option (Except Nat α × σ)) (F : Fam) (P : α → σ → Prop) : Prop where
  fine : ∀ i t, x = some (.ok i, t) → (ar s).step F (ar t) ∧ ok t ∧ P i t
  err : ∀ c t, x = some (.error c, t) → (ar s).step F (ar t) ∧ ok t ∧ c = 8 ∧ (ar s).most ≤ (ar t).nodes.length
  no : x = none → ∃ B : Ar, (ar s).step F B ∧ 4294967295 ≤ B.nodes.length
section
variable {σ α β : Type} {ar : σ → Ar} {ok : σ → Prop} {s : σ} {x : Option (Except Nat α × σ)} {F : Fam} {P : α → σ → Prop}
theorem goesS.bind {Q : β → σ → Prop} {f : α → σ → Option (Except Nat β × σ)} (h : goesS ar ok s x F P)
    (hf : ∀ i t, ok t → (ar s).step F (ar t) → P i t → goesS ar ok t (f i t) F Q) : goesS ar ok s (gbind x f) F Q := by
  match x, h with
  | none, h =>
    obtain ⟨B, h1, h2⟩ := h.no rfl
    exact ⟨fun i t hx => (by cases hx), fun c t hx => (by cases hx), fun _ => ⟨B, h1, h2⟩⟩
  | some (.error c, A1), h =>
    obtain ⟨h1, h2, h3, h4⟩ := h.err c A1 rfl
    refine ⟨fun i t hx => (by cases hx), fun c t hx => ?_, fun hx => (by cases hx)⟩
    simp only [gbind, Option.some.injEq, Prod.mk.injEq, Except.error.injEq] at hx
    obtain ⟨rfl, rfl⟩ := hx
    exact ⟨h1, h2, h3, h4⟩
  | some (.ok j, A1), h =>
    obtain ⟨h1, h2, h3⟩ := h.fine j A1 rfl
    have hk := hf j A1 h2 h1 h3
    refine ⟨fun i t hx => ?_, fun c t hx => ?_, fun hx => ?_⟩
    · obtain ⟨k1, k2, k3⟩ := hk.fine i t hx
      exact ⟨h1.trans k1, k2, k3⟩
    · obtain ⟨k1, k2, k3, k4⟩ := hk.err c t hx
      exact ⟨h1.trans k1, k2, k3, by rw [← h1.le.most]; exact k4⟩
    · obtain ⟨B, k1, k2⟩ := hk.no hx
      exact ⟨B, h1.trans k1, k2⟩
theorem goesS.mono {Q : α → σ → Prop} (h : goesS ar ok s x F P) (hPQ : ∀ i t, x = some (.ok i, t) → ok t → (ar s).step F (ar t) → P i t → Q i t) : goesS ar ok s x F Q := by
  refine ⟨fun i t hx => ?_, fun c t hx => ?_, fun hx => ?_⟩
  · obtain ⟨h1, h2, h3⟩ := h.fine i t hx
    exact ⟨h1, h2, hPQ i t hx h2 h1 h3⟩
  · obtain ⟨h1, h2⟩ := h.err c t hx
    exact ⟨h1, h2⟩
  · obtain ⟨B, h1, h2⟩ := h.no hx
    exact ⟨B, h1, h2⟩
theorem goesS.wider {G : Fam} (h : goesS ar ok s x F P) (hFG : ∀ d C a b, F d C a b → G d C a b) : goesS ar ok s x G P := by
  refine ⟨fun i t hx => ?_, fun c t hx => ?_, fun hx => ?_⟩
  · obtain ⟨h1, h2, h3⟩ := h.fine i t hx
    exact ⟨h1.mono hFG, h2, h3⟩
  · obtain ⟨h1, h2⟩ := h.err c t hx
    exact ⟨h1.mono hFG, h2⟩
  · obtain ⟨B, h1, h2⟩ := h.no hx
    exact ⟨B, h1.mono hFG, h2⟩
theorem goesS.pure (hw : (ar s).wf) (hok : ok s) {i : α} (hp : P i s) : goesS ar ok s (some (.ok i, s)) F P := by
  refine ⟨fun j t hx => ?_, fun c t hx => (by cases hx), fun hx => (by cases hx)⟩
  simp only [Option.some.injEq, Prod.mk.injEq, Except.ok.injEq] at hx
  obtain ⟨rfl, rfl⟩ := hx
  exact ⟨.refl hw _, hok, hp⟩
end
abbrev Ar.goes {α : Type} (A : Ar) (x : Option (Except Nat α × Ar)) (F : Fam) (P : α → Ar → Prop) : Prop := goesS id Ar.wf A x F P
theorem Ar.goes.mbind {α β : Type} {A : Ar} {x : Option (Except Nat α × Ar)} {F : Fam} {P : α → Ar → Prop} {Q : β → Ar → Prop} {f : α → Ar → Option (Except Nat β × Ar)}
    (h : A.goes x F P) (hf : ∀ i B, B.wf → A.step F B → P i B → B.goes (f i B) F Q) : A.goes (mbind x f) F Q := by
  rw [mbind_eq]; exact goesS.bind h hf
/-- Nothing but the list of empties differs. -/
theorem Ar.goes.from {α : Type} {A A' : Ar} {x : Option (Except Nat α × Ar)} {F : Fam} {P : α → Ar → Prop} (h : A'.goes x F P) (hs : A.step F A') : A.goes x F P := by
  refine ⟨fun i t hx => ?_, fun c t hx => ?_, fun hx => ?_⟩
  · obtain ⟨h1, h2⟩ := h.fine i t hx
    exact ⟨hs.trans h1, h2⟩
  · obtain ⟨h1, h2, h3, h4⟩ := h.err c t hx
    exact ⟨hs.trans h1, h2, h3, by have := hs.le.most; simp only [id] at h4 ⊢; omega⟩
  · obtain ⟨B, h1, h2⟩ := h.no hx
    exact ⟨B, hs.trans h1, h2⟩
theorem Ar.goes_find {A : Ar} {F : Fam} (h : A.wf) {key : Ky} {c : Nat} (hn : A.nodeOk A.nodes.length (mkNd key c)) (hF : ∀ (i : Nat) (B : Ar), B.wf → A.le B → B.nodes[i]? = some (mkNd key c) → B.fam F i) :
    A.goes (A.find key c) F (fun i B => B.nodes[i]? = some (mkNd key c)) := by
  have hst : ∀ i t, A.find key c = some (.ok i, t) → A.made (mkNd key c) (.ok i) t := fun i t hx => A.find_spec h hn hx
  refine ⟨fun i t hx => ?_, fun c' t hx => ?_, fun hx => ?_⟩
  · have hm := hst i t hx
    refine ⟨⟨hm.wf, hm.le, fun j h1 h2 => ?_⟩, hm.wf, hm.ok i rfl⟩
    have h3 := hm.len
    have hj : j = A.nodes.length := by simp only [id] at h1 h2; omega
    -- the new one is the last
    have hi : t.nodes[j]? = some (mkNd key c) := by
      have hx' := hx
      unfold Ar.find at hx'
      split at hx'
      · simp only [Option.some.injEq, Prod.mk.injEq] at hx'
        obtain ⟨_, rfl⟩ := hx'
        simp only [id] at h1 h2; omega
      · split at hx'
        · simp only [Option.some.injEq, Prod.mk.injEq] at hx'
          obtain ⟨hc, _⟩ := hx'; cases hc
        · split at hx'
          · simp only [Option.some.injEq, Prod.mk.injEq] at hx'
            obtain ⟨_, rfl⟩ := hx'
            subst hj; simp
          · cases hx'
    exact hF j t hm.wf hm.le hi
  · have hm := A.find_spec h hn hx
    obtain ⟨e1, e2, e3⟩ := hm.err c' rfl
    subst e2
    exact ⟨.refl h _, h, e1, e3⟩
  · exact ⟨A, .refl h _, (Ar.find_none hx).2⟩
theorem Ar.W.leaf {A : Ar} {f i : Nat} {c : Nat} (hi : A.nodes[i]? = some ⟨2, f, 0, 0, 0, 0, c⟩) {C : Plane} {a b : Int}
    (hC : ∀ (x y k : Nat), x < 4 → y < 4 → k < 2 → f.testBit (2 * (4 * y + x) + k) = C (a + x) (b + y) k) : A.W 0 i C a b := by
  refine ⟨by rw [Ar.level_get hi], fun x y k hx hy hk => ?_⟩
  simp only [Ar.at, Ar.bits_get hi]
  exact hC x y k hx hy hk
theorem Ar.goes_leafW {A : Ar} {F : Fam} (h : A.wf) {f : Nat} (hf : f < 4294967296) {C : Plane} {a b : Int} (hF : F 0 C a b)
    (hC : ∀ (x y k : Nat), x < 4 → y < 4 → k < 2 → f.testBit (2 * (4 * y + x) + k) = C (a + x) (b + y) k) : A.goes (A.leaf f) F (fun i B => B.W 0 i C a b) :=
  goesS.mono (Ar.goes_find h (A.leafOk hf) (fun _i _B _hB _hle hi => .inr ⟨0, C, a, b, hF, Ar.W.leaf hi hC⟩)) (fun _i _B _ _ _ hi => Ar.W.leaf hi hC)
theorem Ar.goes_joinW {A : Ar} {F : Fam} (h : A.wf) {K : K4} {d : Nat} (h44 : d + 2 < 44) {C : Plane} {a b : Int} (hF : F (d + 1) C a b)
    (hK : ∀ t, t < 4 → A.W d (K.k t) C (a + (t % 2 : Nat) * (2 ^ (d + 2) : Nat)) (b + (t / 2 : Nat) * (2 ^ (d + 2) : Nat))) :
    A.goes (A.join K) F (fun i B => B.W (d + 1) i C a b) := by
  rw [Ar.join_eq h44 (fun j hj => (hK j hj).lv)]
  exact goesS.mono (Ar.goes_find (key := ⟨d + 2 + 1, 0, K.a, K.b, K.c, K.d⟩) (c := A.sum K 4) h (Ar.joinOk (Nat.le_of_lt h.len) (by omega) h44 (fun j hj => (hK j hj).lv))
    (fun i B _ hle hi => .inr ⟨d + 1, C, a, b, hF, Ar.W.join h hle hK hi⟩)) (fun i B _ _ hs hi => Ar.W.join h hs.le hK hi)
theorem Ar.goes_fillE {lev : Nat} {F : Fam} (h2 : 2 ≤ lev) (h44 : lev ≤ 44) : ∀ (n : Nat) {A : Ar}, A.wf → n = lev + 1 - A.empty.length → A.goes (A.fillE lev n) F (fun i B => B.level i = lev ∧ B.count i = 0) := by
  intro n
  induction n with
  | zero =>
    intro A h hn
    obtain ⟨e, he⟩ : ∃ e, A.empty[lev]? = some e := ⟨_, List.getElem?_eq_getElem (by omega)⟩
    simp only [Ar.fillE]
    refine goesS.pure (ar := id) h h ?_
    rw [he]
    exact (h.emp lev e he).2 h2
  | succ n ih =>
    intro A h hn
    rw [fillE_eq]
    have hlast := h.emp _ _ h.last
    have hel := h.elo
    have hl2 := hlast.2 (by omega)
    have hK : ∀ j, j < 4 → A.level ((⟨A.last, A.last, A.last, A.last⟩ : K4).k j) = (A.empty.length - 1 : Nat) := fun j hj => by
      have hc : j = 0 ∨ j = 1 ∨ j = 2 ∨ j = 3 := by omega
      rcases hc with rfl | rfl | rfl | rfl <;> exact hl2.1
    have hj : A.goes (A.join ⟨A.last, A.last, A.last, A.last⟩) F (fun i B => B.nodes[i]? = some (A.joinNd ⟨A.last, A.last, A.last, A.last⟩ (A.empty.length - 1))) := by
      rw [Ar.join_eq (l := A.empty.length - 1) (by omega) hK]
      exact Ar.goes_find (key := ⟨A.empty.length - 1 + 1, 0, A.last, A.last, A.last, A.last⟩) (c := A.sum ⟨A.last, A.last, A.last, A.last⟩ 4) h (Ar.joinOk (Nat.le_of_lt h.len) (by omega) (by omega) hK)
        (fun i B _ hle hi => .inl (by rw [Ar.count_get hi]; exact Ar.sum_zero hl2.2 4))
    refine Ar.goes.mbind (goesS.mono (Q := fun i B => B.nodes[i]? = some (A.joinNd ⟨A.last, A.last, A.last, A.last⟩ (A.empty.length - 1)) ∧ B.empty = A.empty) hj (fun i B hx _ _ hi => ⟨hi, (join_empty hx).1⟩)) fun j A1 wA1 st hg => ?_
    obtain ⟨hg, he⟩ := hg
    have hw : Ar.wf { A1 with empty := A1.empty ++ [j] } := wA1.addE (by rw [Ar.level_get hg, he]; show ((A.empty.length - 1 + 1 : Nat) : Int) = _; omega) (by rw [Ar.count_get hg]; exact Ar.sum_zero hl2.2 4) (by rw [he]; omega)
    refine Ar.goes.from (A' := { A1 with empty := A1.empty ++ [j] }) (ih hw (by show n = lev + 1 - (A1.empty ++ [j]).length; rw [he, List.length_append]; simp; omega)) ?_
    exact ⟨hw, ⟨List.prefix_refl _, List.prefix_append _ _, rfl⟩, fun j' h1 h2 => by simp only [] at h1 h2; omega⟩
theorem Ar.goes_mt {A : Ar} {F : Fam} (h : A.wf) {lev : Nat} (h2 : 2 ≤ lev) (h44 : lev ≤ 44) : A.goes (A.mt lev) F (fun i B => B.level i = lev ∧ B.count i = 0) := by
  unfold Ar.mt
  rw [if_neg (by omega), if_neg (by omega)]
  refine goesS.mono (Ar.goes_fillE h2 h44 _ h rfl) (fun _ _ _ _ _ hp => hp)
/-- All that lie where they should belong to the family. -/
def Al (F : Fam) (C : Plane) : Prop := ∀ d a b, ((2 ^ d : Nat) : Int) ∣ a → ((2 ^ d : Nat) : Int) ∣ b → F d C a b
theorem dvd_pw {d e : Nat} (h : d ≤ e) (k : Int) : ((2 ^ d : Nat) : Int) ∣ k * ((2 ^ e : Nat) : Int) := by
  obtain ⟨f, rfl⟩ : ∃ f, e = d + f := ⟨e - d, by omega⟩
  rw [Nat.pow_add, Int.natCast_mul]
  exact ⟨k * ((2 ^ f : Nat) : Int), by rw [Int.mul_left_comm]⟩
theorem dvd_pw1 {d e : Nat} (h : d ≤ e) : ((2 ^ d : Nat) : Int) ∣ ((2 ^ e : Nat) : Int) := by
  have := dvd_pw h 1
  rwa [Int.one_mul] at this
theorem dvd_neg_pw {d e : Nat} (h : d ≤ e) : ((2 ^ d : Nat) : Int) ∣ -((2 ^ e : Nat) : Int) := (Int.dvd_neg).2 (dvd_pw1 h)
end Go.Proofs.YtnkdbpjmepfblaaGreatDoor

/- Roots: Expand, Fit, Trim as data, with the families of windows. -/
namespace Go.Proofs.YtnkdbpjmepfblaaGreatDoor
open Go

theorem Ar.goes_quad {A : Ar} {F : Fam} (h : A.wf) {d z k : Nat} {C : Plane} (hAl : Al F C) (h44 : d + 3 < 44) (hz : A.level z = (d + 2 : Nat) ∧ A.count z = 0)
    (hout : ∀ (x y : Int) (k : Nat), ¬ (-((2 ^ (d + 2) : Nat) : Int) ≤ x ∧ x < ((2 ^ (d + 2) : Nat) : Int) ∧ -((2 ^ (d + 2) : Nat) : Int) ≤ y ∧ y < ((2 ^ (d + 2) : Nat) : Int) ∧ k < 2) → C x y k = false)
    {t : Nat} (ht : t < 4) (hk : A.W d k C (-((2 ^ (d + 2) : Nat) : Int) + (t % 2 : Nat) * (2 ^ (d + 2) : Nat)) (-((2 ^ (d + 2) : Nat) : Int) + (t / 2 : Nat) * (2 ^ (d + 2) : Nat))) :
    A.goes (A.join (quad z k t)) F (fun j B => B.W (d + 1) j C (-((2 ^ (d + 3) : Nat) : Int) + (t % 2 : Nat) * (2 ^ (d + 3) : Nat)) (-((2 ^ (d + 3) : Nat) : Int) + (t / 2 : Nat) * (2 ^ (d + 3) : Nat))) := by
  refine Ar.goes_joinW h (by omega) (hAl _ _ _ (Int.dvd_add (dvd_neg_pw (by omega)) (dvd_pw (by omega) _)) (Int.dvd_add (dvd_neg_pw (by omega)) (dvd_pw (by omega) _))) fun p hp => ?_
  have hP : 2 ^ (d + 3) = 2 * 2 ^ (d + 2) := two_pow_succ d
  have hpos := pwpos (d + 2)
  rw [hP]
  have hE : ∀ (a b : Int), (a + (2 ^ (d + 2) : Nat) ≤ -((2 ^ (d + 2) : Nat) : Int) ∨ ((2 ^ (d + 2) : Nat) : Int) ≤ a ∨ b + (2 ^ (d + 2) : Nat) ≤ -((2 ^ (d + 2) : Nat) : Int) ∨ ((2 ^ (d + 2) : Nat) : Int) ≤ b) → A.W d z C a b := by
    intro a b hd
    refine Ar.W.empty h hz.1 hz.2 fun x y k hx hy hk => hout _ _ _ ?_
    generalize 2 ^ (d + 2) = s at *
    omega
  have hc : t = 0 ∨ t = 1 ∨ t = 2 ∨ t = 3 := by omega
  have hq : p = 0 ∨ p = 1 ∨ p = 2 ∨ p = 3 := by omega
  clear hz hout hP
  rcases hc with rfl | rfl | rfl | rfl <;> rcases hq with rfl | rfl | rfl | rfl <;>
    first
    | exact hk.off (by generalize 2 ^ (d + 2) = s at *; omega) (by generalize 2 ^ (d + 2) = s at *; omega)
    | exact hE _ _ (by generalize 2 ^ (d + 2) = s at *; omega)
theorem Ar.goes_expandL {A : Ar} {F : Fam} (h : A.wf) {d z : Nat} {C : Plane} (hAl : Al F C) (h44 : d + 4 ≤ 44) {K : K4} (hz : A.level z = (d + 2 : Nat) ∧ A.count z = 0)
    (hout : ∀ (x y : Int) (k : Nat), ¬ (-((2 ^ (d + 2) : Nat) : Int) ≤ x ∧ x < ((2 ^ (d + 2) : Nat) : Int) ∧ -((2 ^ (d + 2) : Nat) : Int) ≤ y ∧ y < ((2 ^ (d + 2) : Nat) : Int) ∧ k < 2) → C x y k = false)
    (hk : ∀ t, t < 4 → A.W d (K.k t) C (-((2 ^ (d + 2) : Nat) : Int) + (t % 2 : Nat) * (2 ^ (d + 2) : Nat)) (-((2 ^ (d + 2) : Nat) : Int) + (t / 2 : Nat) * (2 ^ (d + 2) : Nat))) :
    A.goes (A.expandL z K 4 ⟨0, 0, 0, 0⟩) F (fun j B => B.R (d + 2) j C) := by
  have hkk : ∀ {B : Ar}, A.le B → ∀ t, t < 4 → B.W d (K.k t) C (-((2 ^ (d + 2) : Nat) : Int) + (t % 2 : Nat) * (2 ^ (d + 2) : Nat)) (-((2 ^ (d + 2) : Nat) : Int) + (t / 2 : Nat) * (2 ^ (d + 2) : Nat)) :=
    fun hle t ht => (hk t ht).le hle h
  have hzz : ∀ {B : Ar}, A.le B → B.level z = (d + 2 : Nat) ∧ B.count z = 0 := fun hle => by
    have hl : z < A.nodes.length := Ar.level_lt (by rw [hz.1]; omega)
    rw [hle.level hl, hle.count hl]; exact hz
  show A.goes (mbind (A.join (quad z (K.k 0) 0)) _) F _
  refine Ar.goes.mbind (Ar.goes_quad h hAl (by omega) hz hout (by omega) (hk 0 (by omega))) fun j0 B0 w0 st0 h0 => ?_
  have le0 := st0.le
  show B0.goes (mbind (B0.join (quad z (K.k 1) 1)) _) F _
  refine Ar.goes.mbind (Ar.goes_quad w0 hAl (by omega) (hzz le0) hout (by omega) (hkk le0 1 (by omega))) fun j1 B1 w1 st1 h1 => ?_
  have le1 := st1.le
  have le1' := le0.trans le1
  show B1.goes (mbind (B1.join (quad z (K.k 2) 2)) _) F _
  refine Ar.goes.mbind (Ar.goes_quad w1 hAl (by omega) (hzz le1') hout (by omega) (hkk le1' 2 (by omega))) fun j2 B2 w2 st2 h2 => ?_
  have le2 := st2.le
  have le2' := le1'.trans le2
  show B2.goes (mbind (B2.join (quad z (K.k 3) 3)) _) F _
  refine Ar.goes.mbind (Ar.goes_quad w2 hAl (by omega) (hzz le2') hout (by omega) (hkk le2' 3 (by omega))) fun j3 B3 w3 st3 h3 => ?_
  have le3 := st3.le
  show B3.goes (B3.join ⟨j0, j1, j2, j3⟩) F _
  refine goesS.mono (Ar.goes_joinW (d := d + 1) w3 (by omega) (C := C) (a := -((2 ^ (d + 3) : Nat) : Int)) (b := -((2 ^ (d + 3) : Nat) : Int)) (hAl _ _ _ (dvd_neg_pw (by omega)) (dvd_neg_pw (by omega))) fun t ht => ?_) (fun i B _ _ _ hB => ⟨hB, fun x y k hn => hout x y k ?_⟩)
  · have hc : t = 0 ∨ t = 1 ∨ t = 2 ∨ t = 3 := by omega
    rcases hc with rfl | rfl | rfl | rfl
    · exact h0.le ((le1.trans le2).trans le3) w0
    · exact h1.le (le2.trans le3) w1
    · exact h2.le le3 w2
    · exact h3
  · have hP : 2 ^ (d + 2 + 1) = 2 * 2 ^ (d + 2) := by rw [Nat.pow_succ]; omega
    rw [hP] at hn
    generalize 2 ^ (d + 2) = s at *
    omega
/-- Expand: the same cells. -/
theorem Ar.goes_expand {A : Ar} {F : Fam} (h : A.wf) {d i : Nat} {C : Plane} (hAl : Al F C) (h44 : d + 4 ≤ 44) (hR : A.R (d + 1) i C) : A.goes (A.expand i) F (fun j B => B.R (d + 2) j C) := by
  unfold Ar.expand
  have hl := hR.w.lv
  rw [if_neg (by omega), if_neg (by omega)]
  have e : A.level i - 1 = ((d + 2 : Nat) : Int) := by omega
  rw [e]
  refine Ar.goes.mbind (Ar.goes_mt h (by omega) (by omega)) fun z B wB st hz => ?_
  refine Ar.goes_expandL wB hAl h44 hz hR.out fun t ht => ?_
  have hw := (hR.w.le st.le h).kid wB ht
  rw [B.kids_k i t ht]
  exact hw
theorem Ar.goes_fitL {C : Plane} {F : Fam} (hAl : Al F C) : ∀ (f : Nat) {A : Ar} {d i : Nat}, A.wf → A.R (d + 1) i C → d + 3 + f ≤ 44 → A.goes (A.fitL f i) F (fun j B => B.R (d + f + 1) j C) := by
  intro f
  induction f with
  | zero => intro A d i h hR _; exact goesS.pure (ar := id) h h hR
  | succ f ih =>
    intro A d i h hR hd
    refine Ar.goes.mbind (Ar.goes_expand h hAl (by omega) hR) fun j B wB st hj => ?_
    refine goesS.mono (ih (d := d + 1) wB hj (by omega)) fun k B' _ _ _ hk => ?_
    rwa [show d + (f + 1) + 1 = d + 1 + f + 1 by omega]
theorem Ar.goes_fit {A : Ar} {C : Plane} {F : Fam} (hAl : Al F C) {d i : Nat} (h : A.wf) (hR : A.R (d + 1) i C) {lev : Nat} (h44 : lev ≤ 44) (hd : d + 3 ≤ 44) :
    A.goes (A.fit i (lev : Int)) F (fun j B => B.R (d + (lev - (d + 3)) + 1) j C) := by
  unfold Ar.fit
  have hl := hR.w.lv
  rw [if_neg (by omega), show ((lev : Int) - A.level i).toNat = lev - (d + 3) by omega]
  exact Ar.goes_fitL hAl _ h hR (by omega)
theorem Ar.goes_middle {A : Ar} {F : Fam} (h : A.wf) {f i : Nat} {C : Plane} (hAl : Al F C) (hR : A.R (f + 2) i C) (h44 : f + 4 ≤ 44)
    (hin : ∀ (x y : Int) (k : Nat), ¬ (-((2 ^ (f + 2) : Nat) : Int) ≤ x ∧ x < ((2 ^ (f + 2) : Nat) : Int) ∧ -((2 ^ (f + 2) : Nat) : Int) ≤ y ∧ y < ((2 ^ (f + 2) : Nat) : Int) ∧ k < 2) → C x y k = false) :
    A.goes (A.middle i) F (fun j B => B.R (f + 1) j C) := by
  have hl := hR.w.lv
  have e3 : 2 ^ (f + 2 + 1) = 2 * 2 ^ (f + 2) := by rw [Nat.pow_succ]; omega
  have hg : ∀ t u, t < 4 → u < 4 → A.W f (A.grand i t u) C (-((2 * 2 ^ (f + 2) : Nat) : Int) + (t % 2 : Nat) * (2 * 2 ^ (f + 2) : Nat) + (u % 2 : Nat) * (2 ^ (f + 2) : Nat)) (-((2 * 2 ^ (f + 2) : Nat) : Int) + (t / 2 : Nat) * (2 * 2 ^ (f + 2) : Nat) + (u / 2 : Nat) * (2 ^ (f + 2) : Nat)) := by
    intro t u ht hu
    have h1 := (hR.w.kid h ht).kid h hu
    rw [e3] at h1
    exact h1
  refine goesS.mono (Ar.goes_joinW h (by omega) (C := C) (a := -((2 ^ (f + 2) : Nat) : Int)) (b := -((2 ^ (f + 2) : Nat) : Int)) (hAl _ _ _ (dvd_neg_pw (by omega)) (dvd_neg_pw (by omega))) fun t ht => ?_) (fun j B _ _ _ hB => ⟨hB, hin⟩)
  have hc : t = 0 ∨ t = 1 ∨ t = 2 ∨ t = 3 := by omega
  rcases hc with rfl | rfl | rfl | rfl
  · exact (hg 0 3 (by omega) (by omega)).off (by generalize 2 ^ (f + 2) = s at *; omega) (by generalize 2 ^ (f + 2) = s at *; omega)
  · exact (hg 1 2 (by omega) (by omega)).off (by generalize 2 ^ (f + 2) = s at *; omega) (by generalize 2 ^ (f + 2) = s at *; omega)
  · exact (hg 2 1 (by omega) (by omega)).off (by generalize 2 ^ (f + 2) = s at *; omega) (by generalize 2 ^ (f + 2) = s at *; omega)
  · exact (hg 3 0 (by omega) (by omega)).off (by generalize 2 ^ (f + 2) = s at *; omega) (by generalize 2 ^ (f + 2) = s at *; omega)
theorem Ar.goes_trimL {C : Plane} {F : Fam} (hAl : Al F C) : ∀ (f : Nat) {A : Ar} {i : Nat}, A.wf → A.R (f + 1) i C → A.count i < 1152921504606846976 → f + 3 ≤ 44 →
    A.goes (A.trimL f i) F (fun j B => ∃ e, e ≤ f ∧ B.R (e + 1) j C ∧ Trimmed e C ∧ B.count j = A.count i) := by
  intro f
  induction f with
  | zero => intro A i h hR _ _; exact goesS.pure (ar := id) h h ⟨0, Nat.le_refl _, hR, .inl rfl, rfl⟩
  | succ f ih =>
    intro A i h hR hc hf
    simp only [Ar.trimL]
    have hin := hR.inner h hc
    split
    · rename_i hne
      refine goesS.pure (ar := id) h h ⟨f + 1, Nat.le_refl _, hR, .inr ?_, rfl⟩
      refine Classical.byContradiction fun hno => hne (hin.2 fun x y k hn => ?_)
      cases hC : C x y k with
      | false => rfl
      | true => exact absurd ⟨x, y, k, hn, hC⟩ hno
    · rename_i hne
      have he : A.innerS i 4 = A.count i := Classical.not_not.1 hne
      have hl := hR.w.lv
      have hm := Ar.goes_middle h hAl hR (by omega) (hin.1 he)
      have hm' : A.goes (A.middle i) F (fun j B => B.R (f + 1) j C ∧ B.count j = A.count i) :=
        goesS.mono hm fun j B hx _ _ hj => ⟨hj, by
          rw [Ar.middle_count h (l := f + 2) (by omega) (by rw [hl]; omega) (by omega) hx, he]⟩
      refine Ar.goes.mbind hm' fun j B wB st hj => ?_
      refine goesS.mono (ih wB hj.1 (by rw [hj.2]; exact hc) (by omega)) fun k B' _ _ _ ⟨e, h1, h2, h3, h4⟩ => ⟨e, by omega, h2, h3, by rw [h4, hj.2]⟩
theorem Ar.goes_trim {A : Ar} {F : Fam} {C : Plane} (hAl : Al F C) {f i : Nat} (h : A.wf) (hR : A.R (f + 1) i C) (hc : A.count i < 1152921504606846976) :
    A.goes (A.trim i) F (fun j B => ∃ e, e ≤ f ∧ B.R (e + 1) j C ∧ Trimmed e C ∧ B.count j = A.count i) := by
  have hl := hR.w.lv
  have h44 := h.level_le i
  unfold Ar.trim
  rw [if_neg (by omega), show (A.level i).toNat - 3 = f by omega]
  exact Ar.goes_trimL hAl f h hR hc (by omega)
end Go.Proofs.YtnkdbpjmepfblaaGreatDoor

/- Nine squares within one, as data. -/
namespace Go.Proofs.YtnkdbpjmepfblaaGreatDoor
open Go

def Ar.grid (A : Ar) (n y x : Nat) : Nat := A.grand n (2 * (y / 2) + x / 2) (2 * (y % 2) + x % 2)
def nineK (G : Nat → Nat → Nat) (i : Nat) : K4 := ⟨G (i / 3) (i % 3), G (i / 3) (i % 3 + 1), G (i / 3 + 1) (i % 3), G (i / 3 + 1) (i % 3 + 1)⟩
def Ar.nineL (G : Nat → Nat → Nat) : Nat → List Nat → Ar → Option (Except Nat (List Nat) × Ar)
  | 0, acc, A => some (.ok acc, A)
  | f + 1, acc, A => mbind (A.join (nineK G (8 - f))) (fun j B => Ar.nineL G f (acc ++ [j]) B)
def Ar.nine (A : Ar) (n : Nat) : Option (Except Nat (List Nat) × Ar) := if A.level n ≤ 3 then some (.error 4, A) else Ar.nineL (A.grid n) 9 [] A

theorem Ar.W.grid {A : Ar} (hA : A.wf) {d i : Nat} {C : Plane} {a b : Int} (h : A.W (d + 2) i C a b) {x y : Nat} (hx : x < 4) (hy : y < 4) :
    A.W d (A.grid i y x) C (a + (x : Nat) * (2 ^ (d + 2) : Nat)) (b + (y : Nat) * (2 ^ (d + 2) : Nat)) := by
  have h1 := (h.kid hA (t := 2 * (y / 2) + x / 2) (by omega)).kid hA (t := 2 * (y % 2) + x % 2) (by omega)
  have hP : 2 ^ (d + 1 + 2) = 2 * 2 ^ (d + 2) := two_pow_succ d
  rw [hP] at h1
  refine h1.off ?_ ?_
  · rw [show (2 * (y / 2) + x / 2) % 2 = x / 2 by omega, show (2 * (y % 2) + x % 2) % 2 = x % 2 by omega]
    have hc : x = 0 ∨ x = 1 ∨ x = 2 ∨ x = 3 := by omega
    generalize 2 ^ (d + 2) = s
    rcases hc with rfl | rfl | rfl | rfl <;> simp <;> omega
  · rw [show (2 * (y / 2) + x / 2) / 2 = y / 2 by omega, show (2 * (y % 2) + x % 2) / 2 = y % 2 by omega]
    have hc : y = 0 ∨ y = 1 ∨ y = 2 ∨ y = 3 := by omega
    generalize 2 ^ (d + 2) = s
    rcases hc with rfl | rfl | rfl | rfl <;> simp <;> omega
/-- Nine squares, as they lie. -/
def Ar.nineW (A : Ar) (d : Nat) (l : List Nat) (n : Nat) (C : Plane) (a b : Int) (s : Nat) : Prop :=
  l.length = n ∧ ∀ t, t < n → A.W d (l.getD t 0) C (a + (t % 3 : Nat) * (s : Nat)) (b + (t / 3 : Nat) * (s : Nat))
theorem Ar.nineW.le {A B : Ar} (hle : A.le B) (hA : A.wf) {d : Nat} {l : List Nat} {n : Nat} {C : Plane} {a b : Int} {s : Nat} (h : A.nineW d l n C a b s) : B.nineW d l n C a b s :=
  ⟨h.1, fun t ht => (h.2 t ht).le hle hA⟩
theorem Ar.nineW.snoc {A : Ar} {d : Nat} {l : List Nat} {n : Nat} {C : Plane} {a b : Int} {s j : Nat} (h : A.nineW d l n C a b s) (hj : A.W d j C (a + (n % 3 : Nat) * (s : Nat)) (b + (n / 3 : Nat) * (s : Nat))) :
    A.nineW d (l ++ [j]) (n + 1) C a b s := by
  refine ⟨by simp [h.1], fun t ht => ?_⟩
  have hl := h.1
  rcases Nat.lt_succ_iff_lt_or_eq.1 ht with h1 | rfl
  · rw [show (l ++ [j]).getD t 0 = l.getD t 0 by simp [List.getD_eq_getElem?_getD, List.getElem?_append_left (show t < l.length by omega)]]
    exact h.2 t h1
  · rw [show (l ++ [j]).getD t 0 = j by rw [← hl]; simp [List.getD_eq_getElem?_getD]]
    exact hj
theorem Ar.goes_nineL {F : Fam} {C : Plane} (hAl : Al F C) {d : Nat} (h44 : d + 2 < 44) {a b : Int} (ha : ((2 ^ (d + 2) : Nat) : Int) ∣ a) (hb : ((2 ^ (d + 2) : Nat) : Int) ∣ b) {G : Nat → Nat → Nat} : ∀ (f : Nat) {A : Ar} {acc : List Nat}, f ≤ 9 → A.wf →
    (∀ x y, x < 4 → y < 4 → A.W d (G y x) C (a + (x : Nat) * (2 ^ (d + 2) : Nat)) (b + (y : Nat) * (2 ^ (d + 2) : Nat))) → A.nineW (d + 1) acc (9 - f) C a b (2 ^ (d + 2)) →
    A.goes (Ar.nineL G f acc A) F (fun l B => B.nineW (d + 1) l 9 C a b (2 ^ (d + 2))) := by
  intro f
  induction f with
  | zero => intro A acc _ h _ hacc; exact goesS.pure (ar := id) h h hacc
  | succ f ih =>
    intro A acc hf h hG hacc
    simp only [Ar.nineL]
    have hdv : ∀ (x : Int) (k : Nat), ((2 ^ (d + 2) : Nat) : Int) ∣ x → ((2 ^ (d + 1) : Nat) : Int) ∣ x + (k : Nat) * (2 ^ (d + 2) : Nat) := fun x k hx =>
      Int.dvd_add (Int.dvd_trans (dvd_pw1 (by omega)) hx) (dvd_pw (by omega) _)
    refine Ar.goes.mbind (Ar.goes_joinW (d := d) (C := C) (a := a + ((8 - f) % 3 : Nat) * (2 ^ (d + 2) : Nat)) (b := b + ((8 - f) / 3 : Nat) * (2 ^ (d + 2) : Nat)) h h44 (hAl _ _ _ (hdv _ _ ha) (hdv _ _ hb)) fun t ht => ?_) fun j B wB st hj => ?_
    · have hi : 8 - f < 9 := by omega
      generalize 8 - f = i at *
      have hm : i % 3 < 3 := Nat.mod_lt _ (by decide)
      have hd : i / 3 < 3 := by omega
      have hc : t = 0 ∨ t = 1 ∨ t = 2 ∨ t = 3 := by omega
      have hcast : ∀ (x : Nat) (s : Nat) , (((x + 1 : Nat) : Int)) * (s : Nat) = x * s + s := fun x s => by rw [Int.natCast_add, Int.add_mul]; omega
      rcases hc with rfl | rfl | rfl | rfl
      · refine (hG (i % 3) (i / 3) (by omega) (by omega)).off ?_ ?_ <;> simp
      · refine (hG (i % 3 + 1) (i / 3) (by omega) (by omega)).off ?_ ?_
        · rw [hcast, ← Int.add_assoc]; simp
        · simp
      · refine (hG (i % 3) (i / 3 + 1) (by omega) (by omega)).off ?_ ?_
        · simp
        · rw [hcast, ← Int.add_assoc]; simp
      · refine (hG (i % 3 + 1) (i / 3 + 1) (by omega) (by omega)).off ?_ ?_
        · rw [hcast, ← Int.add_assoc]; simp
        · rw [hcast, ← Int.add_assoc]; simp
    · refine ih (by omega) wB (fun x y hx hy => (hG x y hx hy).le st.le h) ?_
      have h1 := (hacc.le st.le h).snoc (j := j) (by rw [show 9 - (f + 1) = 8 - f by omega]; exact hj)
      rw [show 9 - (f + 1) + 1 = 9 - f by omega] at h1
      exact h1
theorem Ar.goes_nine {A : Ar} (h : A.wf) {F : Fam} {C : Plane} (hAl : Al F C) {d i : Nat} (h44 : d + 2 < 44) {a b : Int} (ha : ((2 ^ (d + 2) : Nat) : Int) ∣ a) (hb : ((2 ^ (d + 2) : Nat) : Int) ∣ b) (hW : A.W (d + 2) i C a b) :
    A.goes (A.nine i) F (fun l B => B.nineW (d + 1) l 9 C a b (2 ^ (d + 2))) := by
  unfold Ar.nine
  have hl := hW.lv
  rw [if_neg (by omega)]
  exact Ar.goes_nineL hAl h44 ha hb 9 (by omega) h (fun x y hx hy => hW.grid h hx hy) ⟨rfl, fun t ht => by omega⟩
end Go.Proofs.YtnkdbpjmepfblaaGreatDoor
