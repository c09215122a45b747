/-
  Plain: a circuit, hashed: what stands for what, what is kept; that it does what it did. No program's function.
-/
import Derived.Test.YtninglnchengeaaDefine
import Derived.Test.YtninglnchengeaaGetI
import Derived.Test.YtninglnchengeaaCBox
import Derived.Test.YtninglnchengeaaConeP
namespace Go.Proofs.Ytninglnchengeaa
open Go.RowKit Base
set_option linter.unusedVariables false
set_option linter.unusedSimpArgs false
namespace StrashP
open Circuit GetI

/-- A literal's opposite. -/
def notL (l : Int) : Int := if l < 0 then 1 else if l % 2 = 1 then l - 1 else l + 1
def posL (l : Int) : Int := max l 0
/-- What an and is that needs no gate. -/
def plainL (a b : Int) : Option Int :=
  if posL a = 0 ∨ posL b = 0 ∨ posL a = notL (posL b) then some 0
  else if posL a = 1 ∨ posL a = posL b then some (posL b)
  else if posL b = 1 then some (posL a) else none

structure St where
  S : List (Int × Int)
  M : List ((Int × Int) × Int)
  K : List Tri

/-- What stands for a literal. -/
def litS (S : List (Int × Int)) (l : Int) : Int :=
  match getI S (var l) with
  | some t => if neg l then notL t else t
  | none => l
def pairS (a b : Int) : Int × Int := (min a b, max a b)

def gateS (st : St) (t : Tri) : St :=
  match plainL (litS st.S t.2.1) (litS st.S t.2.2) with
  | some l => { st with S := (var t.1, l) :: st.S }
  | none => match getI st.M (pairS (litS st.S t.2.1) (litS st.S t.2.2)) with
    | some l => { st with S := (var t.1, l) :: st.S }
    | none => { st with M := (pairS (litS st.S t.2.1) (litS st.S t.2.2), t.1) :: st.M, K := st.K ++ [(t.1, litS st.S t.2.1, litS st.S t.2.2)] }
def foldG (ands : List Tri) : St := ands.foldl gateS ⟨[], [], []⟩
theorem foldG_snoc (A : List Tri) (t : Tri) : foldG (A ++ [t]) = gateS (foldG A) t := by unfold foldG; rw [List.foldl_append]; rfl

/-! ### Literals. -/
theorem var_not {s : Int} (h : 0 ≤ s) : var (notL s) = var s := by unfold var notL; split <;> (try split) <;> omega
theorem not_nn {s : Int} (h : 0 ≤ s) : 0 ≤ notL s := by unfold notL; split <;> (try split) <;> omega
theorem neg_not {s : Int} (h : 0 ≤ s) : neg (notL s) = !neg s := by
  unfold neg notL
  rw [if_neg (by omega)]
  by_cases h1 : s % 2 = 1
  · rw [if_pos h1, if_neg (by omega), if_neg (by omega)]
    have e1 : (s % 2 == 1) = true := by simp [h1]
    have e2 : ((s - 1) % 2 == 1) = false := by simp; omega
    rw [e1, e2]; rfl
  · rw [if_neg h1, if_neg (by omega), if_neg (by omega)]
    have e1 : (s % 2 == 1) = false := by simp; omega
    have e2 : ((s + 1) % 2 == 1) = true := by simp; omega
    rw [e1, e2]; rfl

/-- A literal's value. -/
def bitV (V : Int → Bool) (l : Int) : Bool := V (var l) != neg l
theorem bit_not (V : Int → Bool) {s : Int} (h : 0 ≤ s) : bitV V (notL s) = !bitV V s := by
  unfold bitV
  rw [var_not h, neg_not h]
  cases V (var s) <;> cases neg s <;> rfl
theorem bit_zero {V : Int → Bool} (h : V 0 = false) : bitV V 0 = false := by
  unfold bitV
  have e1 : var 0 = 0 := by decide
  have e2 : neg 0 = false := by decide
  rw [e1, e2, h]; rfl
theorem bit_one {V : Int → Bool} (h : V 0 = false) : bitV V 1 = true := by
  unfold bitV
  have e1 : var 1 = 0 := by decide
  have e2 : neg 1 = true := by decide
  rw [e1, e2, h]; rfl

theorem posL_eq {a : Int} (h : 0 ≤ a) : posL a = a := by unfold posL; omega
theorem plain_of {a b : Int} (ha : 0 ≤ a) (hb : 0 ≤ b) : plainL a b = if a = 0 ∨ b = 0 ∨ a = notL b then some 0 else if a = 1 ∨ a = b then some b else if b = 1 then some a else none := by
  unfold plainL; rw [posL_eq ha, posL_eq hb]
theorem plain_sem {V : Int → Bool} (h0 : V 0 = false) {a b r : Int} (ha : 0 ≤ a) (hb : 0 ≤ b) (h : plainL a b = some r) : bitV V r = (bitV V a && bitV V b) := by
  rw [plain_of ha hb] at h
  by_cases h1 : a = 0 ∨ b = 0 ∨ a = notL b
  · rw [if_pos h1] at h
    simp only [Option.some.injEq] at h
    subst h
    rw [bit_zero h0]
    rcases h1 with rfl | rfl | rfl
    · rw [bit_zero h0]; rfl
    · rw [bit_zero h0, Bool.and_false]
    · rw [bit_not V hb]; cases bitV V b <;> rfl
  · rw [if_neg h1] at h
    by_cases h2 : a = 1 ∨ a = b
    · rw [if_pos h2] at h
      simp only [Option.some.injEq] at h
      subst h
      rcases h2 with rfl | rfl
      · rw [bit_one h0, Bool.true_and]
      · rw [Bool.and_self]
    · rw [if_neg h2] at h
      by_cases h3 : b = 1
      · rw [if_pos h3] at h
        simp only [Option.some.injEq] at h
        subst h; subst h3
        rw [bit_one h0, Bool.and_true]
      · rw [if_neg h3] at h; cases h
theorem plain_res {a b r : Int} (ha : 0 ≤ a) (hb : 0 ≤ b) (h : plainL a b = some r) : r = 0 ∨ r = a ∨ r = b := by
  rw [plain_of ha hb] at h
  split at h
  · simp only [Option.some.injEq] at h; exact Or.inl h.symm
  · split at h
    · simp only [Option.some.injEq] at h; exact Or.inr (Or.inr h.symm)
    · split at h
      · simp only [Option.some.injEq] at h; exact Or.inr (Or.inl h.symm)
      · cases h
theorem notL_of {a : Int} (ha : 0 ≤ a) : notL a = if a % 2 = 1 then a - 1 else a + 1 := by unfold notL; rw [if_neg (by omega)]
theorem not_eq_iff {a b : Int} (ha : 0 ≤ a) (hb : 0 ≤ b) : a = notL b ↔ b = notL a := by
  rw [notL_of ha, notL_of hb]
  split <;> split <;> omega
theorem plain_comm {a b : Int} (ha : 0 ≤ a) (hb : 0 ≤ b) : plainL a b = plainL b a := by
  rw [plain_of ha hb, plain_of hb ha]
  by_cases h1 : a = 0 ∨ b = 0 ∨ a = notL b
  · have h2 : b = 0 ∨ a = 0 ∨ b = notL a := by
      rcases h1 with h | h | h
      · exact Or.inr (Or.inl h)
      · exact Or.inl h
      · exact Or.inr (Or.inr ((not_eq_iff ha hb).1 h))
    simp only [if_pos h1, if_pos h2]
  · have h2 : ¬ (b = 0 ∨ a = 0 ∨ b = notL a) := by
      rintro (h | h | h)
      · exact h1 (Or.inr (Or.inl h))
      · exact h1 (Or.inl h)
      · exact h1 (Or.inr (Or.inr ((not_eq_iff ha hb).2 h)))
    simp only [if_neg h1, if_neg h2]
    by_cases e : a = b
    · subst e; rfl
    · have e' : ¬ b = a := fun h => e h.symm
      by_cases e1 : a = 1
      · by_cases e2 : b = 1
        · exact absurd (e1.trans e2.symm) e
        · simp only [e1, e2, true_or, if_true]
          have : ¬ b = 1 := e2
          subst e1
          simp [e']
      · by_cases e2 : b = 1
        · subst e2
          simp [e1, e]
        · simp [e1, e2, e, e']
theorem pair_comm (a b : Int) : pairS a b = pairS b a := by unfold pairS; rw [Int.min_comm, Int.max_comm]

/-! ### The fold's invariant. -/
/-- The values are those of the gates. -/
def Sat (V : Int → Bool) (A : List Tri) : Prop := ∀ t ∈ A, V (var t.1) = (bitV V t.2.1 && bitV V t.2.2)
theorem Sat.left {V : Int → Bool} {A B : List Tri} (h : Sat V (A ++ B)) : Sat V A := fun t ht => h t (List.mem_append_left _ ht)

/-- A gate of rising literals. -/
def Fine (t : Tri) : Prop := 2 ≤ t.1 ∧ t.1 % 2 = 0 ∧ 0 ≤ t.2.1 ∧ t.2.1 < t.1 ∧ 0 ≤ t.2.2 ∧ t.2.2 < t.1
structure Ord (A : List Tri) : Prop where
  rise : A.Pairwise fun a b => a.1 < b.1
  fine : ∀ t ∈ A, Fine t

structure Inv (B : Int → Prop) (A : List Tri) (st : St) : Prop where
  dom : ∀ u s, getI st.S u = some s → (∃ t ∈ A, var t.1 = u) ∧ 0 ≤ s ∧ var s < u ∧ getI st.S (var s) = none ∧ (B (var s) ∨ ∃ k ∈ st.K, var k.1 = var s)
  kept : ∀ k ∈ st.K, Fine k ∧ getI st.S (var k.1) = none ∧ (getI st.S (var k.2.1) = none ∧ (B (var k.2.1) ∨ ∃ k' ∈ st.K, var k'.1 = var k.2.1)) ∧ (getI st.S (var k.2.2) = none ∧ (B (var k.2.2) ∨ ∃ k' ∈ st.K, var k'.1 = var k.2.2)) ∧
    plainL k.2.1 k.2.2 = none ∧ getI st.M (pairS k.2.1 k.2.2) = some k.1
  met : ∀ p l, getI st.M p = some l → ∃ k ∈ st.K, k.1 = l ∧ p = pairS k.2.1 k.2.2
  sub : (st.K.map (·.1)).Sublist (A.map (·.1))
  all : ∀ t ∈ A, (∃ s, getI st.S (var t.1) = some s) ∨ ∃ k ∈ st.K, k.1 = t.1
  at' : ∀ t ∈ A, (∀ r, plainL (litS st.S t.2.1) (litS st.S t.2.2) = some r → litS st.S t.1 = r) ∧
    (plainL (litS st.S t.2.1) (litS st.S t.2.2) = none → getI st.M (pairS (litS st.S t.2.1) (litS st.S t.2.2)) = some (litS st.S t.1))
  sem : ∀ V : Int → Bool, V 0 = false → Sat V A → (∀ u s, getI st.S u = some s → bitV V s = V u) ∧ Sat V st.K

theorem inv_nil (B : Int → Prop) : Inv B [] ⟨[], [], []⟩ :=
  ⟨fun u s h => (by cases h), fun k h => (by cases h), fun p l h => (by cases h), List.Sublist.refl _, fun t h => (by cases h), fun t h => (by cases h), fun V _ _ => ⟨fun u s h => (by cases h), fun k h => (by cases h)⟩⟩

theorem fine_neg {t : Tri} (h : Fine t) : neg t.1 = false := by
  unfold neg
  rw [if_neg (by have := h.1; omega)]
  have := h.2.1
  simp; omega

/-- What stands for a literal: it stands for itself. -/
theorem lit_facts {B : Int → Prop} {A : List Tri} {st : St} (h : Inv B A st) {l : Int} (hl : 0 ≤ l) (hb : B (var l) ∨ ∃ t ∈ A, var t.1 = var l) (hA : ∀ t ∈ A, Fine t) :
    0 ≤ litS st.S l ∧ var (litS st.S l) ≤ var l ∧ getI st.S (var (litS st.S l)) = none ∧ (B (var (litS st.S l)) ∨ ∃ k ∈ st.K, var k.1 = var (litS st.S l)) := by
  unfold litS
  cases hg : getI st.S (var l) with
  | none =>
    simp only
    refine ⟨hl, Int.le_refl _, hg, ?_⟩
    rcases hb with hb | ⟨t, ht, he⟩
    · exact Or.inl hb
    · rcases h.all t ht with ⟨s, hs⟩ | ⟨k, hk, hk1⟩
      · rw [he, hg] at hs; cases hs
      · exact Or.inr ⟨k, hk, by rw [hk1, he]⟩
  | some s =>
    simp only
    obtain ⟨_, h0, hv, hn, hbk⟩ := h.dom _ _ hg
    split
    · exact ⟨not_nn h0, by rw [var_not h0]; omega, by rw [var_not h0]; exact hn, by rw [var_not h0]; exact hbk⟩
    · exact ⟨h0, by omega, hn, hbk⟩

theorem lit_sem {B : Int → Prop} {A : List Tri} {st : St} (h : Inv B A st) {V : Int → Bool} (h0 : V 0 = false) (hs : Sat V A) (l : Int) : bitV V (litS st.S l) = bitV V l := by
  unfold litS
  cases hg : getI st.S (var l) with
  | none => rfl
  | some s =>
    simp only
    have h1 := (h.sem V h0 hs).1 _ _ hg
    have h2 := (h.dom _ _ hg).2.1
    cases hn : neg l
    · simp only [Bool.false_eq_true, if_false]
      rw [h1]; unfold bitV; rw [hn]; simp
    · simp only [if_true]
      rw [bit_not V h2, h1]; unfold bitV; rw [hn]; simp

theorem var_lt {t : Tri} (h : Fine t) {l : Int} (h0 : 0 ≤ l) (hl : l < t.1) : var l < var t.1 := by
  unfold var; have := h.1; have := h.2.1; omega
theorem lt_of_var {t : Tri} (h : Fine t) {l : Int} (h0 : 0 ≤ l) (hl : var l < var t.1) : l < t.1 := by
  unfold var at hl; have := h.1; have := h.2.1; omega

/-- A literal is as before, where one more variable is said of. -/
theorem lit_more (S : List (Int × Int)) (u s : Int) {l : Int} (h : var l ≠ u) : litS ((u, s) :: S) l = litS S l := by
  unfold litS
  rw [getI_other S s (fun e => h e.symm)]

theorem inv_stands {B : Int → Prop} {A : List Tri} {st : St} (h : Inv B A st) {t : Tri} (ht : Fine t) (hlt : ∀ t' ∈ A, t'.1 < t.1) (hA : ∀ t' ∈ A, Fine t') (hB : ¬ B (var t.1))
    (hl : B (var t.2.1) ∨ ∃ t' ∈ A, var t'.1 = var t.2.1) (hr : B (var t.2.2) ∨ ∃ t' ∈ A, var t'.1 = var t.2.2) (s : Int) (hs0 : 0 ≤ s) (hsv : var s < var t.1) (hsn : getI st.S (var s) = none) (hsb : B (var s) ∨ ∃ k ∈ st.K, var k.1 = var s)
    (hat : (∀ r, plainL (litS st.S t.2.1) (litS st.S t.2.2) = some r → s = r) ∧ (plainL (litS st.S t.2.1) (litS st.S t.2.2) = none → getI st.M (pairS (litS st.S t.2.1) (litS st.S t.2.2)) = some s))
    (hsem : ∀ V : Int → Bool, V 0 = false → Sat V A → bitV V s = (bitV V (litS st.S t.2.1) && bitV V (litS st.S t.2.2))) : Inv B (A ++ [t]) { st with S := (var t.1, s) :: st.S } := by
  have hvA : ∀ t' ∈ A, var t'.1 < var t.1 := fun t' h' => var_lt ht (by have := (hA t' h').1; omega) (hlt t' h')
  have hvl : var t.2.1 < var t.1 := var_lt ht ht.2.2.1 ht.2.2.2.1
  have hvr : var t.2.2 < var t.1 := var_lt ht ht.2.2.2.2.1 ht.2.2.2.2.2
  have hkA : ∀ k ∈ st.K, ∃ t' ∈ A, t'.1 = k.1 := fun k hk => by
    have := h.sub.subset (List.mem_map.2 ⟨k, hk, rfl⟩)
    obtain ⟨t', h1, h2⟩ := List.mem_map.1 this
    exact ⟨t', h1, h2⟩
  have hkv : ∀ k ∈ st.K, var k.1 < var t.1 := fun k hk => by
    obtain ⟨t', h1, h2⟩ := hkA k hk
    rw [← h2]; exact hvA t' h1
  have keep : ∀ u, u < var t.1 → getI ((var t.1, s) :: st.S) u = getI st.S u := fun u hu => getI_other _ _ (by omega)
  refine ⟨?_, ?_, h.met, ?_, ?_, ?_, ?_⟩
  · intro u s' hg
    by_cases hu : var t.1 = u
    · subst hu
      simp only at hg
      rw [getI_same] at hg
      simp only [Option.some.injEq] at hg
      subst hg
      exact ⟨⟨t, by simp, rfl⟩, hs0, hsv, by simp only; rw [keep _ hsv]; exact hsn, hsb⟩
    · simp only at hg
      rw [getI_other _ _ hu] at hg
      obtain ⟨⟨t', h1, h2⟩, h3, h4, h5, h6⟩ := h.dom u s' hg
      have := hvA t' h1
      exact ⟨⟨t', List.mem_append_left _ h1, h2⟩, h3, h4, by simp only; rw [keep _ (by omega)]; exact h5, h6⟩
  · intro k hk
    obtain ⟨h1, h2, ⟨h3, h4⟩, ⟨h5, h6⟩, h7, h8⟩ := h.kept k hk
    have hv := hkv k hk
    have hv1 := var_lt h1 h1.2.2.1 h1.2.2.2.1
    have hv2 := var_lt h1 h1.2.2.2.2.1 h1.2.2.2.2.2
    exact ⟨h1, by simp only; rw [keep _ hv]; exact h2, ⟨by simp only; rw [keep _ (by omega)]; exact h3, h4⟩, ⟨by simp only; rw [keep _ (by omega)]; exact h5, h6⟩, h7, h8⟩
  · rw [List.map_append]
    exact h.sub.trans (List.sublist_append_left _ _)
  · intro t' ht'
    rcases List.mem_append.1 ht' with h1 | h1
    · rcases h.all t' h1 with ⟨s', hs'⟩ | hk
      · exact Or.inl ⟨s', by simp only; rw [keep _ (hvA t' h1)]; exact hs'⟩
      · exact Or.inr hk
    · rw [List.mem_singleton] at h1
      subst h1
      exact Or.inl ⟨s, getI_same _ _ _⟩
  · intro t' ht'
    simp only
    rcases List.mem_append.1 ht' with h1 | h1
    · have hf := hA t' h1
      have hv := hvA t' h1
      have hv1 := var_lt hf hf.2.2.1 hf.2.2.2.1
      have hv2 := var_lt hf hf.2.2.2.2.1 hf.2.2.2.2.2
      rw [lit_more st.S _ _ (by omega), lit_more st.S _ _ (by omega), lit_more st.S _ _ (by omega)]
      exact h.at' t' h1
    · rw [List.mem_singleton] at h1
      subst h1
      rw [lit_more st.S _ _ (by omega), lit_more st.S _ _ (by omega)]
      have e : litS ((var t'.1, s) :: st.S) t'.1 = s := by
        unfold litS
        rw [getI_same]
        simp only [fine_neg ht, Bool.false_eq_true, if_false]
      rw [e]
      exact hat
  · intro V h0 hsat
    have hsA := hsat.left
    obtain ⟨g1, g2⟩ := h.sem V h0 hsA
    refine ⟨?_, g2⟩
    intro u s' hg
    by_cases hu : var t.1 = u
    · subst hu
      simp only at hg
      rw [getI_same] at hg
      simp only [Option.some.injEq] at hg
      subst hg
      rw [hsem V h0 hsA, lit_sem h h0 hsA, lit_sem h h0 hsA]
      exact (hsat t (by simp)).symm
    · simp only at hg
      rw [getI_other _ _ hu] at hg
      exact g1 u s' hg

theorem inv_kept {B : Int → Prop} {A : List Tri} {st : St} (h : Inv B A st) {t : Tri} (ht : Fine t) (hlt : ∀ t' ∈ A, t'.1 < t.1) (hA : ∀ t' ∈ A, Fine t') (hB : ¬ B (var t.1))
    (hl : B (var t.2.1) ∨ ∃ t' ∈ A, var t'.1 = var t.2.1) (hr : B (var t.2.2) ∨ ∃ t' ∈ A, var t'.1 = var t.2.2)
    (hp : plainL (litS st.S t.2.1) (litS st.S t.2.2) = none) (hm : getI st.M (pairS (litS st.S t.2.1) (litS st.S t.2.2)) = none) :
    Inv B (A ++ [t]) { st with M := (pairS (litS st.S t.2.1) (litS st.S t.2.2), t.1) :: st.M, K := st.K ++ [(t.1, litS st.S t.2.1, litS st.S t.2.2)] } := by
  have hvA : ∀ t' ∈ A, var t'.1 < var t.1 := fun t' h' => var_lt ht (by have := (hA t' h').1; omega) (hlt t' h')
  have hvl : var t.2.1 < var t.1 := var_lt ht ht.2.2.1 ht.2.2.2.1
  have hvr : var t.2.2 < var t.1 := var_lt ht ht.2.2.2.2.1 ht.2.2.2.2.2
  obtain ⟨a0, a1, a2, a3⟩ := lit_facts h ht.2.2.1 hl hA
  obtain ⟨b0, b1, b2, b3⟩ := lit_facts h ht.2.2.2.2.1 hr hA
  have hself : getI st.S (var t.1) = none := by
    cases hg : getI st.S (var t.1) with
    | none => rfl
    | some s =>
      obtain ⟨⟨t', h1, h2⟩, _⟩ := h.dom _ _ hg
      have := hvA t' h1
      omega
  have hkA : ∀ k ∈ st.K, ∃ t' ∈ A, t'.1 = k.1 := fun k hk => by
    have := h.sub.subset (List.mem_map.2 ⟨k, hk, rfl⟩)
    obtain ⟨t', h1, h2⟩ := List.mem_map.1 this
    exact ⟨t', h1, h2⟩
  have hmore : ∀ v, (B v ∨ ∃ k ∈ st.K, var k.1 = v) → (B v ∨ ∃ k ∈ st.K ++ [(t.1, litS st.S t.2.1, litS st.S t.2.2)], var k.1 = v) := by
    rintro v (hb | ⟨k, hk, he⟩)
    · exact Or.inl hb
    · exact Or.inr ⟨k, List.mem_append_left _ hk, he⟩
  have hkeep : ∀ p l, getI st.M p = some l → getI ((pairS (litS st.S t.2.1) (litS st.S t.2.2), t.1) :: st.M) p = some l := by
    intro p l hg
    rw [getI_other _ _ (by rintro rfl; rw [hm] at hg; cases hg)]
    exact hg
  refine ⟨?_, ?_, ?_, ?_, ?_, ?_, ?_⟩
  · intro u s' hg
    obtain ⟨⟨t', h1, h2⟩, h3, h4, h5, h6⟩ := h.dom u s' hg
    exact ⟨⟨t', List.mem_append_left _ h1, h2⟩, h3, h4, h5, hmore _ h6⟩
  · intro k hk
    rcases List.mem_append.1 hk with h1 | h1
    · obtain ⟨g1, g2, ⟨g3, g4⟩, ⟨g5, g6⟩, g7, g8⟩ := h.kept k h1
      exact ⟨g1, g2, ⟨g3, hmore _ g4⟩, ⟨g5, hmore _ g6⟩, g7, hkeep _ _ g8⟩
    · rw [List.mem_singleton] at h1
      subst h1
      have q1 : litS st.S t.2.1 < t.1 := lt_of_var ht a0 (by omega)
      have q2 : litS st.S t.2.2 < t.1 := lt_of_var ht b0 (by omega)
      exact ⟨⟨ht.1, ht.2.1, a0, q1, b0, q2⟩, hself, ⟨a2, hmore _ a3⟩, ⟨b2, hmore _ b3⟩, hp, getI_same _ _ _⟩
  · intro p l hg
    simp only at hg
    by_cases he : pairS (litS st.S t.2.1) (litS st.S t.2.2) = p
    · subst he
      rw [getI_same] at hg
      simp only [Option.some.injEq] at hg
      exact ⟨(t.1, litS st.S t.2.1, litS st.S t.2.2), by simp, hg, rfl⟩
    · rw [getI_other _ _ he] at hg
      obtain ⟨k, hk, g1, g2⟩ := h.met p l hg
      exact ⟨k, List.mem_append_left _ hk, g1, g2⟩
  · rw [List.map_append, List.map_append]
    exact h.sub.append (List.Sublist.refl _)
  · intro t' ht'
    rcases List.mem_append.1 ht' with h1 | h1
    · rcases h.all t' h1 with hs | ⟨k, hk, he⟩
      · exact Or.inl hs
      · exact Or.inr ⟨k, List.mem_append_left _ hk, he⟩
    · rw [List.mem_singleton] at h1
      subst h1
      exact Or.inr ⟨_, List.mem_append_right _ (List.mem_singleton.2 rfl), rfl⟩
  · intro t' ht'
    simp only
    rcases List.mem_append.1 ht' with h1 | h1
    · exact ⟨(h.at' t' h1).1, fun hn => hkeep _ _ ((h.at' t' h1).2 hn)⟩
    · rw [List.mem_singleton] at h1
      subst h1
      refine ⟨fun r hr' => (by rw [hp] at hr'; cases hr'), fun _ => ?_⟩
      rw [getI_same]
      unfold litS
      rw [hself]
  · intro V h0 hsat
    have hsA := hsat.left
    obtain ⟨g1, g2⟩ := h.sem V h0 hsA
    refine ⟨g1, fun k hk => ?_⟩
    rcases List.mem_append.1 hk with h1 | h1
    · exact g2 k h1
    · rw [List.mem_singleton] at h1
      subst h1
      show V (var t.1) = (bitV V (litS st.S t.2.1) && bitV V (litS st.S t.2.2))
      rw [lit_sem h h0 hsA, lit_sem h h0 hsA]
      exact hsat t (by simp)

theorem inv_gate {B : Int → Prop} {A : List Tri} {st : St} (hB0 : B 0) (h : Inv B A st) {t : Tri} (ht : Fine t) (hlt : ∀ t' ∈ A, t'.1 < t.1) (hA : ∀ t' ∈ A, Fine t') (hB : ¬ B (var t.1))
    (hl : B (var t.2.1) ∨ ∃ t' ∈ A, var t'.1 = var t.2.1) (hr : B (var t.2.2) ∨ ∃ t' ∈ A, var t'.1 = var t.2.2) : Inv B (A ++ [t]) (gateS st t) := by
  have hvl : var t.2.1 < var t.1 := var_lt ht ht.2.2.1 ht.2.2.2.1
  have hvr : var t.2.2 < var t.1 := var_lt ht ht.2.2.2.2.1 ht.2.2.2.2.2
  obtain ⟨a0, a1, a2, a3⟩ := lit_facts h ht.2.2.1 hl hA
  obtain ⟨b0, b1, b2, b3⟩ := lit_facts h ht.2.2.2.2.1 hr hA
  unfold gateS
  cases hp : plainL (litS st.S t.2.1) (litS st.S t.2.2) with
  | some r =>
    simp only
    have hz : getI st.S (0 : Int) = none := by
      cases hg : getI st.S (0 : Int) with
      | none => rfl
      | some s =>
        obtain ⟨⟨t', h1, h2⟩, _⟩ := h.dom _ _ hg
        have := (hA t' h1).1
        unfold var at h2
        omega
    have hv0 : var (0 : Int) = 0 := by decide
    have hpos : 0 < var t.1 := by have := ht.1; unfold var; omega
    have hres : 0 ≤ r ∧ var r < var t.1 ∧ getI st.S (var r) = none ∧ (B (var r) ∨ ∃ k ∈ st.K, var k.1 = var r) := by
      rcases plain_res a0 b0 hp with rfl | rfl | rfl
      · rw [hv0]; exact ⟨Int.le_refl _, hpos, hz, Or.inl hB0⟩
      · exact ⟨a0, by omega, a2, a3⟩
      · exact ⟨b0, by omega, b2, b3⟩
    exact inv_stands h ht hlt hA hB hl hr r hres.1 hres.2.1 hres.2.2.1 hres.2.2.2 ⟨fun r' hr' => by rw [hp] at hr'; simpa using hr', fun hn => (by rw [hp] at hn; cases hn)⟩
      (fun V h0 _ => plain_sem h0 a0 b0 hp)
  | none =>
    simp only
    cases hm : getI st.M (pairS (litS st.S t.2.1) (litS st.S t.2.2)) with
    | some l =>
      simp only
      obtain ⟨k, hk, rfl, hpk⟩ := h.met _ _ hm
      obtain ⟨g1, g2, ⟨g3, g4⟩, ⟨g5, g6⟩, g7, g8⟩ := h.kept k hk
      have hkA : ∃ t' ∈ A, t'.1 = k.1 := by
        have := h.sub.subset (List.mem_map.2 ⟨k, hk, rfl⟩)
        obtain ⟨t', h1, h2⟩ := List.mem_map.1 this
        exact ⟨t', h1, h2⟩
      obtain ⟨t', h1, h2⟩ := hkA
      refine inv_stands h ht hlt hA hB hl hr k.1 (by have := g1.1; omega) (by rw [← h2]; exact var_lt ht (by have := (hA t' h1).1; omega) (hlt t' h1)) g2 (Or.inr ⟨k, hk, rfl⟩)
        ⟨fun r' hr' => (by rw [hp] at hr'; cases hr'), fun _ => hm⟩ ?_
      intro V h0 hsA
      have hsk := (h.sem V h0 hsA).2 k hk
      have e1 : bitV V k.1 = V (var k.1) := by unfold bitV; rw [fine_neg g1]; simp
      rw [e1, hsk]
      unfold pairS at hpk
      simp only [Prod.mk.injEq] at hpk
      have hor : (litS st.S t.2.1 = k.2.1 ∧ litS st.S t.2.2 = k.2.2) ∨ (litS st.S t.2.1 = k.2.2 ∧ litS st.S t.2.2 = k.2.1) := by omega
      rcases hor with ⟨e1, e2⟩ | ⟨e1, e2⟩
      · rw [e1, e2]
      · rw [e1, e2, Bool.and_comm]
    | none => exact inv_kept h ht hlt hA hB hl hr hp hm

/-- All operands are something: a base's variable or a gate's ahead. -/
def Known (B : Int → Prop) (A : List Tri) : Prop := ∀ t ∈ A, (B (var t.2.1) ∨ ∃ t' ∈ A, var t'.1 = var t.2.1) ∧ (B (var t.2.2) ∨ ∃ t' ∈ A, var t'.1 = var t.2.2)

theorem inv_fold {B : Int → Prop} (hB0 : B 0) : ∀ (n : Nat) (A : List Tri), A.length = n → Ord A → (∀ t ∈ A, ¬ B (var t.1)) → Known B A → Inv B A (foldG A)
  | 0, A, hn, _, _, _ => by
    have : A = [] := List.eq_nil_of_length_eq_zero hn
    subst this
    exact inv_nil B
  | n + 1, A, hn, ho, hb, hk => by
    obtain ⟨A', t, rfl⟩ : ∃ A' t, A = A' ++ [t] := by
      rcases List.eq_nil_or_concat A with rfl | ⟨A', t, h⟩
      · simp at hn
      · exact ⟨A', t, by rw [h, List.concat_eq_append]⟩
    have hrise := List.pairwise_append.1 ho.rise
    have hlt : ∀ t' ∈ A', t'.1 < t.1 := fun t' ht' => hrise.2.2 t' ht' t (by simp)
    have hft := ho.fine t (by simp)
    have hA : ∀ t' ∈ A', Fine t' := fun t' ht' => ho.fine t' (List.mem_append_left _ ht')
    have hback : ∀ {l : Int}, 0 ≤ l → (u : Tri) → u ∈ A' ++ [t] → Fine u → l < u.1 → (B (var l) ∨ ∃ t' ∈ A' ++ [t], var t'.1 = var l) → (B (var l) ∨ ∃ t' ∈ A', var t'.1 = var l) := by
      intro l h0 u hu hfu hlu h
      rcases h with h | ⟨t', ht', he⟩
      · exact Or.inl h
      · rcases List.mem_append.1 ht' with h1 | h1
        · exact Or.inr ⟨t', h1, he⟩
        · rw [List.mem_singleton] at h1
          subst h1
          have h2 := var_lt hfu h0 hlu
          have h3 : var u.1 ≤ var t'.1 := by
            rcases List.mem_append.1 hu with h4 | h4
            · have := var_lt hft (by have := (hA u h4).1; omega) (hlt u h4); omega
            · rw [List.mem_singleton] at h4; rw [h4]; exact Int.le_refl _
          omega
    have hk' : Known B A' := fun t' ht' => by
      have hf := hA t' ht'
      obtain ⟨h1, h2⟩ := hk t' (List.mem_append_left _ ht')
      exact ⟨hback hf.2.2.1 t' (List.mem_append_left _ ht') hf hf.2.2.2.1 h1, hback hf.2.2.2.2.1 t' (List.mem_append_left _ ht') hf hf.2.2.2.2.2 h2⟩
    have ih := inv_fold hB0 n A' (by simp at hn; omega) ⟨hrise.1, hA⟩ (fun t' ht' => hb t' (List.mem_append_left _ ht')) hk'
    obtain ⟨h1, h2⟩ := hk t (by simp)
    rw [foldG_snoc]
    exact inv_gate hB0 ih hft hlt hA (hb t (by simp)) (hback hft.2.2.1 t (by simp) hft hft.2.2.2.1 h1) (hback hft.2.2.2.2.1 t (by simp) hft hft.2.2.2.2.2 h2)
end StrashP
end Go.Proofs.Ytninglnchengeaa
