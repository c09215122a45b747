/-
  Several texts in one (written by merge2.py): XGetI XConeP XStrashP XStrashQ XCoiP XBadP XBadQ XStep XAllS XRefVar XRefBits XInitial XHeldAll XBadS XRefFirst XSortPl XRefSortP XPut XCoiRP XTrip XOwnC XRefConeC XLawNeedP XLitsCheck XSlfR XCoiAsk XLawAsk
-/
import Derived.Test.YtninglnchengeaaGreatBase
import Derived.Test.YtninglnchengeaaGreatGateP
import Derived.Test.YtninglnchengeaaGreatDefine
import Derived.Test.YtninglnchengeaaGreatCBox
import Derived.Test.YtninglnchengeaaGreatCheckC
import Derived.Test.YtninglnchengeaaGreatWfC
import Derived.Test.YtninglnchengeaaGreatLaws
import Derived.Deep.RegionHeld3
import Derived.Deep.RegionLaw
import Derived.Deep.AppendLies
import Derived.Laws.AppendOwnNone
import Derived.OrdersHeld
import Derived.Tactics
import Derived.Laws.IdiomStrings
import Derived.Deep.QuietTactic
import Derived.BigQuiet
import Derived.Lib.SlicesCompact
import Derived.Test.YtninglnchengeaaGreatCirc
import Derived.Test.YtninglnchengeaaGreatRefSmall
import Derived.Test.YtninglnchengeaaGreatSlfI
import Derived.Test.YtninglnchengeaaGreatLex
import Derived.Laws.EntriesVeiled
import Derived.Deep.DeepCutAuto
import Derived.Shelf.Abstract
import Derived.Test.YtninglnchengeaaGreatRefCheck
import Derived.Test.YtninglnchengeaaGreatCheckP
/-
  Plain: what is said of a key, the latest first.
-/
namespace Go.Proofs.YtninglnchengeaaGreat
namespace GetI

/-- The latest that is said of a key. -/
def getI {α : Type} [DecidableEq α] (D : List (α × Int)) (k : α) : Option Int := (D.find? fun p => decide (p.1 = k)).map (·.2)
theorem getI_nil {α : Type} [DecidableEq α] (k : α) : getI ([] : List (α × Int)) k = none := rfl
theorem getI_same {α : Type} [DecidableEq α] (D : List (α × Int)) (k : α) (v : Int) : getI ((k, v) :: D) k = some v := by simp [getI]
theorem getI_other {α : Type} [DecidableEq α] (D : List (α × Int)) {k k' : α} (v : Int) (h : k ≠ k') : getI ((k, v) :: D) k' = getI D k' := by simp [getI, h]
theorem getI_mem {α : Type} [DecidableEq α] {D : List (α × Int)} {k : α} {v : Int} (h : getI D k = some v) : (k, v) ∈ D := by
  unfold getI at h
  rw [Option.map_eq_some_iff] at h
  obtain ⟨p, hp, rfl⟩ := h
  have h1 := List.mem_of_find?_eq_some hp
  have h2 := List.find?_some hp
  simp only [decide_eq_true_eq] at h2
  rw [← h2]; exact h1
end GetI
end Go.Proofs.YtninglnchengeaaGreat

/-
  Plain: what literals hang on. No program's function.
-/
namespace Go.Proofs.YtninglnchengeaaGreat
open Go.RowKit Base
set_option linter.unusedVariables false
set_option linter.unusedSimpArgs false
namespace Circuit

/-- A variable that literals hang on (0 among them). -/
inductive Rch (ands : List Tri) (l : List Int) : Int → Prop
  | lit {t : Int} : t ∈ l → Rch ands l (var t)
  | left {v : Int} {g : Tri} : Rch ands l v → v ≠ 0 → gate ands v = some g → Rch ands l (var g.2.1)
  | right {v : Int} {g : Tri} : Rch ands l v → v ≠ 0 → gate ands v = some g → Rch ands l (var g.2.2)

/-- What is waited for: of variable 0, met, or in the list. -/
def Waits (T M : List Int) (o : Int) : Prop := var o = 0 ∨ var o ∈ M ∨ ∃ t ∈ T, var t = var o

structure ConeInv (ands : List Tri) (l T M : List Int) : Prop where
  nodup : M.Nodup
  met : ∀ v ∈ M, v ≠ 0 ∧ Rch ands l v
  todo : ∀ t ∈ T, Rch ands l (var t)
  lits : ∀ a ∈ l, Waits T M a
  gates : ∀ v ∈ M, ∀ g, gate ands v = some g → Waits T M g.2.1 ∧ Waits T M g.2.2
  few : T.length ≤ l.length + M.length

theorem cone_start (ands : List Tri) (l : List Int) : ConeInv ands l l [] :=
  ⟨List.nodup_nil, fun v h => by simp at h, fun t ht => .lit ht, fun a ha => Or.inr (Or.inr ⟨a, ha, rfl⟩), fun v h => by simp at h, by simp⟩

theorem waits_skip {T M : List Int} {t o : Int} (h : Waits (T ++ [t]) M o) (ht : var t = 0 ∨ var t ∈ M) : Waits T M o := by
  rcases h with h | h | ⟨u, hu, he⟩
  · exact Or.inl h
  · exact Or.inr (Or.inl h)
  · rw [List.mem_append, List.mem_singleton] at hu
    rcases hu with hu | rfl
    · exact Or.inr (Or.inr ⟨u, hu, he⟩)
    · rcases ht with h0 | hm
      · exact Or.inl (by rw [← he]; exact h0)
      · exact Or.inr (Or.inl (by rw [← he]; exact hm))

theorem cone_skip {ands : List Tri} {l T M : List Int} {t : Int} (h : ConeInv ands l (T ++ [t]) M) (ht : var t = 0 ∨ var t ∈ M) : ConeInv ands l T M :=
  ⟨h.nodup, h.met, fun u hu => h.todo u (List.mem_append_left _ hu), fun a ha => waits_skip (h.lits a ha) ht, fun v hv g hg => ⟨waits_skip (h.gates v hv g hg).1 ht, waits_skip (h.gates v hv g hg).2 ht⟩, by have := h.few; rw [List.length_append] at this; omega⟩

theorem waits_meet {T M : List Int} {t o : Int} (h : Waits (T ++ [t]) M o) (E : List Int) : Waits (T ++ E) (M ++ [var t]) o := by
  rcases h with h | h | ⟨u, hu, he⟩
  · exact Or.inl h
  · exact Or.inr (Or.inl (List.mem_append_left _ h))
  · rw [List.mem_append, List.mem_singleton] at hu
    rcases hu with hu | rfl
    · exact Or.inr (Or.inr ⟨u, List.mem_append_left _ hu, he⟩)
    · exact Or.inr (Or.inl (by rw [← he]; simp))

theorem cone_meet_none {ands : List Tri} {l T M : List Int} {t : Int} (h : ConeInv ands l (T ++ [t]) M) (h0 : var t ≠ 0) (hm : var t ∉ M) (hg : gate ands (var t) = none) : ConeInv ands l T (M ++ [var t]) := by
  have ht := h.todo t (by simp)
  have wm : ∀ o, Waits (T ++ [t]) M o → Waits T (M ++ [var t]) o := fun o ho => by
    have := waits_meet ho []
    rwa [List.append_nil] at this
  refine ⟨?_, fun v hv => ?_, fun u hu => h.todo u (List.mem_append_left _ hu), fun a ha => wm a (h.lits a ha), fun v hv g hgv => ?_, ?_⟩
  · rw [List.nodup_append]
    exact ⟨h.nodup, by simp, fun a ha b hb e => by rw [List.mem_singleton] at hb; subst hb; exact hm (e ▸ ha)⟩
  · rw [List.mem_append, List.mem_singleton] at hv
    rcases hv with hv | rfl
    · exact h.met v hv
    · exact ⟨h0, ht⟩
  · rw [List.mem_append, List.mem_singleton] at hv
    rcases hv with hv | rfl
    · exact ⟨wm _ (h.gates v hv g hgv).1, wm _ (h.gates v hv g hgv).2⟩
    · rw [hg] at hgv; cases hgv
  · have := h.few
    rw [List.length_append] at *
    simp only [List.length_singleton, List.length_cons, List.length_nil] at *
    omega

theorem cone_meet_some {ands : List Tri} {l T M : List Int} {t : Int} {g : Tri} (h : ConeInv ands l (T ++ [t]) M) (h0 : var t ≠ 0) (hm : var t ∉ M) (hg : gate ands (var t) = some g) : ConeInv ands l (T ++ [g.2.1, g.2.2]) (M ++ [var t]) := by
  have ht := h.todo t (by simp)
  refine ⟨?_, fun v hv => ?_, fun u hu => ?_, fun a ha => waits_meet (h.lits a ha) _, fun v hv g' hgv => ?_, ?_⟩
  · rw [List.nodup_append]
    exact ⟨h.nodup, by simp, fun a ha b hb e => by rw [List.mem_singleton] at hb; subst hb; exact hm (e ▸ ha)⟩
  · rw [List.mem_append, List.mem_singleton] at hv
    rcases hv with hv | rfl
    · exact h.met v hv
    · exact ⟨h0, ht⟩
  · rw [List.mem_append] at hu
    rcases hu with hu | hu
    · exact h.todo u (List.mem_append_left _ hu)
    · simp only [List.mem_cons, List.not_mem_nil, or_false] at hu
      rcases hu with rfl | rfl
      · exact .left ht h0 hg
      · exact .right ht h0 hg
  · rw [List.mem_append, List.mem_singleton] at hv
    rcases hv with hv | rfl
    · exact ⟨waits_meet (h.gates v hv g' hgv).1 _, waits_meet (h.gates v hv g' hgv).2 _⟩
    · rw [hg] at hgv
      simp only [Option.some.injEq] at hgv
      subst hgv
      exact ⟨Or.inr (Or.inr ⟨g.2.1, by simp, rfl⟩), Or.inr (Or.inr ⟨g.2.2, by simp, rfl⟩)⟩
  · have := h.few
    simp only [List.length_append, List.length_cons, List.length_nil] at *
    omega

/-- At the end what is met is what literals hang on. -/
theorem cone_end {ands : List Tri} {l M : List Int} (h : ConeInv ands l [] M) (v : Int) : v ∈ M ↔ v ≠ 0 ∧ Rch ands l v := by
  have hw : ∀ o, Waits [] M o → var o ≠ 0 → var o ∈ M := fun o ho h0 => by
    rcases ho with hz | hm | ⟨u, hu, _⟩
    · exact absurd hz h0
    · exact hm
    · simp at hu
  constructor
  · exact h.met v
  · rintro ⟨h0, hr⟩
    induction hr with
    | lit ht => exact hw _ (h.lits _ ht) h0
    | left hr' hv hg ih => exact hw _ (h.gates _ (ih hv) _ hg).1 h0
    | right hr' hv hg ih => exact hw _ (h.gates _ (ih hv) _ hg).2 h0

theorem nodup_len {M C : List Int} (hn : M.Nodup) (hs : ∀ v ∈ M, v ∈ C) : M.length ≤ C.length := by
  induction M generalizing C with
  | nil => simp
  | cons x r ih =>
    rw [List.nodup_cons] at hn
    have hx := hs x List.mem_cons_self
    have := ih hn.2 (C := C.erase x) (fun v hv => (List.mem_erase_of_ne (fun e => hn.1 (by rw [← e]; exact hv))).2 (hs v (List.mem_cons_of_mem _ hv)))
    rw [List.length_erase_of_mem hx] at this
    have hc : 0 < C.length := List.length_pos_of_mem hx
    rw [List.length_cons]
    omega

/-- All that may be met. -/
def cands (ands : List Tri) (l : List Int) : List Int := l.map var ++ ands.map (fun t => var t.2.1) ++ ands.map (fun t => var t.2.2)

theorem gate_mem {ands : List Tri} {v : Int} {g : Tri} (h : gate ands v = some g) : g ∈ ands := List.mem_of_find?_eq_some h

theorem rch_cand {ands : List Tri} {l : List Int} {v : Int} (h : Rch ands l v) : v ∈ cands ands l := by
  unfold cands
  rw [List.mem_append, List.mem_append]
  cases h with
  | lit ht => exact Or.inl (Or.inl (List.mem_map.2 ⟨_, ht, rfl⟩))
  | left hr hv hg => exact Or.inl (Or.inr (List.mem_map.2 ⟨_, gate_mem hg, rfl⟩))
  | right hr hv hg => exact Or.inr (List.mem_map.2 ⟨_, gate_mem hg, rfl⟩)

theorem cone_few {ands : List Tri} {l T M : List Int} (h : ConeInv ands l T M) : M.length ≤ l.length + 2 * ands.length := by
  have := nodup_len h.nodup (fun v hv => rch_cand (h.met v hv).2)
  unfold cands at this
  simp only [List.length_append, List.length_map] at this
  omega

/-- What hangs on it hangs on no more. -/
theorem rch_again {ands : List Tri} {l vs : List Int} (h : ∀ v, v ∈ vs ↔ v ≠ 0 ∧ Rch ands l v) (hv : ∀ v ∈ vs, 0 ≤ v) (v : Int) : (v ≠ 0 ∧ Rch ands (vs.map (2 * ·)) v) ↔ v ∈ vs := by
  have hvar : ∀ u ∈ vs, var (2 * u) = u := fun u hu => by have := hv u hu; unfold var; omega
  constructor
  · rintro ⟨h0, hr⟩
    induction hr with
    | lit ht =>
      obtain ⟨u, hu, rfl⟩ := List.mem_map.1 ht
      rw [hvar u hu]
      exact hu
    | left hr' hv' hg ih => exact (h _).2 ⟨h0, .left ((h _).1 (ih hv')).2 hv' hg⟩
    | right hr' hv' hg ih => exact (h _).2 ⟨h0, .right ((h _).1 (ih hv')).2 hv' hg⟩
  · intro hm
    refine ⟨((h v).1 hm).1, ?_⟩
    rw [← hvar v hm]
    exact .lit (List.mem_map.2 ⟨v, hm, rfl⟩)

end Circuit
end Go.Proofs.YtninglnchengeaaGreat

/-
  Plain: a circuit, hashed: what stands for what, what is kept; that it does what it did. No program's function.
-/
namespace Go.Proofs.YtninglnchengeaaGreat
open Go.RowKit Base
set_option linter.unusedVariables false
set_option linter.unusedSimpArgs false
namespace StrashP
open Circuit GetI

/-- A literal's opposite. -/
def notL (l : Int) : Int := if l < 0 then 1 else if l % 2 = 1 then l - 1 else l + 1
def posL (l : Int) : Int := max l 0
/-- What an and is that needs no gate. -/
def plainL (a b : Int) : Option Int :=
  if posL a = 0 ∨ posL b = 0 ∨ posL a = notL (posL b) then some 0
  else if posL a = 1 ∨ posL a = posL b then some (posL b)
  else if posL b = 1 then some (posL a) else none

structure St where
  S : List (Int × Int)
  M : List ((Int × Int) × Int)
  K : List Tri

/-- What stands for a literal. -/
def litS (S : List (Int × Int)) (l : Int) : Int :=
  match getI S (var l) with
  | some t => if neg l then notL t else t
  | none => l
def pairS (a b : Int) : Int × Int := (min a b, max a b)

def gateS (st : St) (t : Tri) : St :=
  match plainL (litS st.S t.2.1) (litS st.S t.2.2) with
  | some l => { st with S := (var t.1, l) :: st.S }
  | none => match getI st.M (pairS (litS st.S t.2.1) (litS st.S t.2.2)) with
    | some l => { st with S := (var t.1, l) :: st.S }
    | none => { st with M := (pairS (litS st.S t.2.1) (litS st.S t.2.2), t.1) :: st.M, K := st.K ++ [(t.1, litS st.S t.2.1, litS st.S t.2.2)] }
def foldG (ands : List Tri) : St := ands.foldl gateS ⟨[], [], []⟩
theorem foldG_snoc (A : List Tri) (t : Tri) : foldG (A ++ [t]) = gateS (foldG A) t := by unfold foldG; rw [List.foldl_append]; rfl

/-! ### Literals. -/
theorem var_not {s : Int} (h : 0 ≤ s) : var (notL s) = var s := by unfold var notL; split <;> (try split) <;> omega
theorem not_nn {s : Int} (h : 0 ≤ s) : 0 ≤ notL s := by unfold notL; split <;> (try split) <;> omega
theorem neg_not {s : Int} (h : 0 ≤ s) : neg (notL s) = !neg s := by
  unfold neg notL
  rw [if_neg (by omega)]
  by_cases h1 : s % 2 = 1
  · rw [if_pos h1, if_neg (by omega), if_neg (by omega)]
    have e1 : (s % 2 == 1) = true := by simp [h1]
    have e2 : ((s - 1) % 2 == 1) = false := by simp; omega
    rw [e1, e2]; rfl
  · rw [if_neg h1, if_neg (by omega), if_neg (by omega)]
    have e1 : (s % 2 == 1) = false := by simp; omega
    have e2 : ((s + 1) % 2 == 1) = true := by simp; omega
    rw [e1, e2]; rfl

/-- A literal's value. -/
def bitV (V : Int → Bool) (l : Int) : Bool := V (var l) != neg l
theorem bit_not (V : Int → Bool) {s : Int} (h : 0 ≤ s) : bitV V (notL s) = !bitV V s := by
  unfold bitV
  rw [var_not h, neg_not h]
  cases V (var s) <;> cases neg s <;> rfl
theorem bit_zero {V : Int → Bool} (h : V 0 = false) : bitV V 0 = false := by
  unfold bitV
  have e1 : var 0 = 0 := by decide
  have e2 : neg 0 = false := by decide
  rw [e1, e2, h]; rfl
theorem bit_one {V : Int → Bool} (h : V 0 = false) : bitV V 1 = true := by
  unfold bitV
  have e1 : var 1 = 0 := by decide
  have e2 : neg 1 = true := by decide
  rw [e1, e2, h]; rfl

theorem posL_eq {a : Int} (h : 0 ≤ a) : posL a = a := by unfold posL; omega
theorem plain_of {a b : Int} (ha : 0 ≤ a) (hb : 0 ≤ b) : plainL a b = if a = 0 ∨ b = 0 ∨ a = notL b then some 0 else if a = 1 ∨ a = b then some b else if b = 1 then some a else none := by
  unfold plainL; rw [posL_eq ha, posL_eq hb]
theorem plain_sem {V : Int → Bool} (h0 : V 0 = false) {a b r : Int} (ha : 0 ≤ a) (hb : 0 ≤ b) (h : plainL a b = some r) : bitV V r = (bitV V a && bitV V b) := by
  rw [plain_of ha hb] at h
  by_cases h1 : a = 0 ∨ b = 0 ∨ a = notL b
  · rw [if_pos h1] at h
    simp only [Option.some.injEq] at h
    subst h
    rw [bit_zero h0]
    rcases h1 with rfl | rfl | rfl
    · rw [bit_zero h0]; rfl
    · rw [bit_zero h0, Bool.and_false]
    · rw [bit_not V hb]; cases bitV V b <;> rfl
  · rw [if_neg h1] at h
    by_cases h2 : a = 1 ∨ a = b
    · rw [if_pos h2] at h
      simp only [Option.some.injEq] at h
      subst h
      rcases h2 with rfl | rfl
      · rw [bit_one h0, Bool.true_and]
      · rw [Bool.and_self]
    · rw [if_neg h2] at h
      by_cases h3 : b = 1
      · rw [if_pos h3] at h
        simp only [Option.some.injEq] at h
        subst h; subst h3
        rw [bit_one h0, Bool.and_true]
      · rw [if_neg h3] at h; cases h
theorem plain_res {a b r : Int} (ha : 0 ≤ a) (hb : 0 ≤ b) (h : plainL a b = some r) : r = 0 ∨ r = a ∨ r = b := by
  rw [plain_of ha hb] at h
  split at h
  · simp only [Option.some.injEq] at h; exact Or.inl h.symm
  · split at h
    · simp only [Option.some.injEq] at h; exact Or.inr (Or.inr h.symm)
    · split at h
      · simp only [Option.some.injEq] at h; exact Or.inr (Or.inl h.symm)
      · cases h
theorem notL_of {a : Int} (ha : 0 ≤ a) : notL a = if a % 2 = 1 then a - 1 else a + 1 := by unfold notL; rw [if_neg (by omega)]
theorem not_eq_iff {a b : Int} (ha : 0 ≤ a) (hb : 0 ≤ b) : a = notL b ↔ b = notL a := by
  rw [notL_of ha, notL_of hb]
  split <;> split <;> omega
theorem plain_comm {a b : Int} (ha : 0 ≤ a) (hb : 0 ≤ b) : plainL a b = plainL b a := by
  rw [plain_of ha hb, plain_of hb ha]
  by_cases h1 : a = 0 ∨ b = 0 ∨ a = notL b
  · have h2 : b = 0 ∨ a = 0 ∨ b = notL a := by
      rcases h1 with h | h | h
      · exact Or.inr (Or.inl h)
      · exact Or.inl h
      · exact Or.inr (Or.inr ((not_eq_iff ha hb).1 h))
    simp only [if_pos h1, if_pos h2]
  · have h2 : ¬ (b = 0 ∨ a = 0 ∨ b = notL a) := by
      rintro (h | h | h)
      · exact h1 (Or.inr (Or.inl h))
      · exact h1 (Or.inl h)
      · exact h1 (Or.inr (Or.inr ((not_eq_iff ha hb).2 h)))
    simp only [if_neg h1, if_neg h2]
    by_cases e : a = b
    · subst e; rfl
    · have e' : ¬ b = a := fun h => e h.symm
      by_cases e1 : a = 1
      · by_cases e2 : b = 1
        · exact absurd (e1.trans e2.symm) e
        · simp only [e1, e2, true_or, if_true]
          have : ¬ b = 1 := e2
          subst e1
          simp [e']
      · by_cases e2 : b = 1
        · subst e2
          simp [e1, e]
        · simp [e1, e2, e, e']
theorem pair_comm (a b : Int) : pairS a b = pairS b a := by unfold pairS; rw [Int.min_comm, Int.max_comm]

/-! ### The fold's invariant. -/
/-- The values are those of the gates. -/
def Sat (V : Int → Bool) (A : List Tri) : Prop := ∀ t ∈ A, V (var t.1) = (bitV V t.2.1 && bitV V t.2.2)
theorem Sat.left {V : Int → Bool} {A B : List Tri} (h : Sat V (A ++ B)) : Sat V A := fun t ht => h t (List.mem_append_left _ ht)

/-- A gate of rising literals. -/
def Fine (t : Tri) : Prop := 2 ≤ t.1 ∧ t.1 % 2 = 0 ∧ 0 ≤ t.2.1 ∧ t.2.1 < t.1 ∧ 0 ≤ t.2.2 ∧ t.2.2 < t.1
structure Ord (A : List Tri) : Prop where
  rise : A.Pairwise fun a b => a.1 < b.1
  fine : ∀ t ∈ A, Fine t

structure Inv (B : Int → Prop) (A : List Tri) (st : St) : Prop where
  dom : ∀ u s, getI st.S u = some s → (∃ t ∈ A, var t.1 = u) ∧ 0 ≤ s ∧ var s < u ∧ getI st.S (var s) = none ∧ (B (var s) ∨ ∃ k ∈ st.K, var k.1 = var s)
  kept : ∀ k ∈ st.K, Fine k ∧ getI st.S (var k.1) = none ∧ (getI st.S (var k.2.1) = none ∧ (B (var k.2.1) ∨ ∃ k' ∈ st.K, var k'.1 = var k.2.1)) ∧ (getI st.S (var k.2.2) = none ∧ (B (var k.2.2) ∨ ∃ k' ∈ st.K, var k'.1 = var k.2.2)) ∧
    plainL k.2.1 k.2.2 = none ∧ getI st.M (pairS k.2.1 k.2.2) = some k.1
  met : ∀ p l, getI st.M p = some l → ∃ k ∈ st.K, k.1 = l ∧ p = pairS k.2.1 k.2.2
  sub : (st.K.map (·.1)).Sublist (A.map (·.1))
  all : ∀ t ∈ A, (∃ s, getI st.S (var t.1) = some s) ∨ ∃ k ∈ st.K, k.1 = t.1
  at' : ∀ t ∈ A, (∀ r, plainL (litS st.S t.2.1) (litS st.S t.2.2) = some r → litS st.S t.1 = r) ∧
    (plainL (litS st.S t.2.1) (litS st.S t.2.2) = none → getI st.M (pairS (litS st.S t.2.1) (litS st.S t.2.2)) = some (litS st.S t.1))
  sem : ∀ V : Int → Bool, V 0 = false → Sat V A → (∀ u s, getI st.S u = some s → bitV V s = V u) ∧ Sat V st.K

theorem inv_nil (B : Int → Prop) : Inv B [] ⟨[], [], []⟩ :=
  ⟨fun u s h => (by cases h), fun k h => (by cases h), fun p l h => (by cases h), List.Sublist.refl _, fun t h => (by cases h), fun t h => (by cases h), fun V _ _ => ⟨fun u s h => (by cases h), fun k h => (by cases h)⟩⟩

theorem fine_neg {t : Tri} (h : Fine t) : neg t.1 = false := by
  unfold neg
  rw [if_neg (by have := h.1; omega)]
  have := h.2.1
  simp; omega

/-- What stands for a literal: it stands for itself. -/
theorem lit_facts {B : Int → Prop} {A : List Tri} {st : St} (h : Inv B A st) {l : Int} (hl : 0 ≤ l) (hb : B (var l) ∨ ∃ t ∈ A, var t.1 = var l) (hA : ∀ t ∈ A, Fine t) :
    0 ≤ litS st.S l ∧ var (litS st.S l) ≤ var l ∧ getI st.S (var (litS st.S l)) = none ∧ (B (var (litS st.S l)) ∨ ∃ k ∈ st.K, var k.1 = var (litS st.S l)) := by
  unfold litS
  cases hg : getI st.S (var l) with
  | none =>
    simp only
    refine ⟨hl, Int.le_refl _, hg, ?_⟩
    rcases hb with hb | ⟨t, ht, he⟩
    · exact Or.inl hb
    · rcases h.all t ht with ⟨s, hs⟩ | ⟨k, hk, hk1⟩
      · rw [he, hg] at hs; cases hs
      · exact Or.inr ⟨k, hk, by rw [hk1, he]⟩
  | some s =>
    simp only
    obtain ⟨_, h0, hv, hn, hbk⟩ := h.dom _ _ hg
    split
    · exact ⟨not_nn h0, by rw [var_not h0]; omega, by rw [var_not h0]; exact hn, by rw [var_not h0]; exact hbk⟩
    · exact ⟨h0, by omega, hn, hbk⟩

theorem lit_sem {B : Int → Prop} {A : List Tri} {st : St} (h : Inv B A st) {V : Int → Bool} (h0 : V 0 = false) (hs : Sat V A) (l : Int) : bitV V (litS st.S l) = bitV V l := by
  unfold litS
  cases hg : getI st.S (var l) with
  | none => rfl
  | some s =>
    simp only
    have h1 := (h.sem V h0 hs).1 _ _ hg
    have h2 := (h.dom _ _ hg).2.1
    cases hn : neg l
    · simp only [Bool.false_eq_true, if_false]
      rw [h1]; unfold bitV; rw [hn]; simp
    · simp only [if_true]
      rw [bit_not V h2, h1]; unfold bitV; rw [hn]; simp

theorem var_lt {t : Tri} (h : Fine t) {l : Int} (h0 : 0 ≤ l) (hl : l < t.1) : var l < var t.1 := by
  unfold var; have := h.1; have := h.2.1; omega
theorem lt_of_var {t : Tri} (h : Fine t) {l : Int} (h0 : 0 ≤ l) (hl : var l < var t.1) : l < t.1 := by
  unfold var at hl; have := h.1; have := h.2.1; omega

/-- A literal is as before, where one more variable is said of. -/
theorem lit_more (S : List (Int × Int)) (u s : Int) {l : Int} (h : var l ≠ u) : litS ((u, s) :: S) l = litS S l := by
  unfold litS
  rw [getI_other S s (fun e => h e.symm)]

theorem inv_stands {B : Int → Prop} {A : List Tri} {st : St} (h : Inv B A st) {t : Tri} (ht : Fine t) (hlt : ∀ t' ∈ A, t'.1 < t.1) (hA : ∀ t' ∈ A, Fine t') (hB : ¬ B (var t.1))
    (hl : B (var t.2.1) ∨ ∃ t' ∈ A, var t'.1 = var t.2.1) (hr : B (var t.2.2) ∨ ∃ t' ∈ A, var t'.1 = var t.2.2) (s : Int) (hs0 : 0 ≤ s) (hsv : var s < var t.1) (hsn : getI st.S (var s) = none) (hsb : B (var s) ∨ ∃ k ∈ st.K, var k.1 = var s)
    (hat : (∀ r, plainL (litS st.S t.2.1) (litS st.S t.2.2) = some r → s = r) ∧ (plainL (litS st.S t.2.1) (litS st.S t.2.2) = none → getI st.M (pairS (litS st.S t.2.1) (litS st.S t.2.2)) = some s))
    (hsem : ∀ V : Int → Bool, V 0 = false → Sat V A → bitV V s = (bitV V (litS st.S t.2.1) && bitV V (litS st.S t.2.2))) : Inv B (A ++ [t]) { st with S := (var t.1, s) :: st.S } := by
  have hvA : ∀ t' ∈ A, var t'.1 < var t.1 := fun t' h' => var_lt ht (by have := (hA t' h').1; omega) (hlt t' h')
  have hvl : var t.2.1 < var t.1 := var_lt ht ht.2.2.1 ht.2.2.2.1
  have hvr : var t.2.2 < var t.1 := var_lt ht ht.2.2.2.2.1 ht.2.2.2.2.2
  have hkA : ∀ k ∈ st.K, ∃ t' ∈ A, t'.1 = k.1 := fun k hk => by
    have := h.sub.subset (List.mem_map.2 ⟨k, hk, rfl⟩)
    obtain ⟨t', h1, h2⟩ := List.mem_map.1 this
    exact ⟨t', h1, h2⟩
  have hkv : ∀ k ∈ st.K, var k.1 < var t.1 := fun k hk => by
    obtain ⟨t', h1, h2⟩ := hkA k hk
    rw [← h2]; exact hvA t' h1
  have keep : ∀ u, u < var t.1 → getI ((var t.1, s) :: st.S) u = getI st.S u := fun u hu => getI_other _ _ (by omega)
  refine ⟨?_, ?_, h.met, ?_, ?_, ?_, ?_⟩
  · intro u s' hg
    by_cases hu : var t.1 = u
    · subst hu
      simp only at hg
      rw [getI_same] at hg
      simp only [Option.some.injEq] at hg
      subst hg
      exact ⟨⟨t, by simp, rfl⟩, hs0, hsv, by simp only; rw [keep _ hsv]; exact hsn, hsb⟩
    · simp only at hg
      rw [getI_other _ _ hu] at hg
      obtain ⟨⟨t', h1, h2⟩, h3, h4, h5, h6⟩ := h.dom u s' hg
      have := hvA t' h1
      exact ⟨⟨t', List.mem_append_left _ h1, h2⟩, h3, h4, by simp only; rw [keep _ (by omega)]; exact h5, h6⟩
  · intro k hk
    obtain ⟨h1, h2, ⟨h3, h4⟩, ⟨h5, h6⟩, h7, h8⟩ := h.kept k hk
    have hv := hkv k hk
    have hv1 := var_lt h1 h1.2.2.1 h1.2.2.2.1
    have hv2 := var_lt h1 h1.2.2.2.2.1 h1.2.2.2.2.2
    exact ⟨h1, by simp only; rw [keep _ hv]; exact h2, ⟨by simp only; rw [keep _ (by omega)]; exact h3, h4⟩, ⟨by simp only; rw [keep _ (by omega)]; exact h5, h6⟩, h7, h8⟩
  · rw [List.map_append]
    exact h.sub.trans (List.sublist_append_left _ _)
  · intro t' ht'
    rcases List.mem_append.1 ht' with h1 | h1
    · rcases h.all t' h1 with ⟨s', hs'⟩ | hk
      · exact Or.inl ⟨s', by simp only; rw [keep _ (hvA t' h1)]; exact hs'⟩
      · exact Or.inr hk
    · rw [List.mem_singleton] at h1
      subst h1
      exact Or.inl ⟨s, getI_same _ _ _⟩
  · intro t' ht'
    simp only
    rcases List.mem_append.1 ht' with h1 | h1
    · have hf := hA t' h1
      have hv := hvA t' h1
      have hv1 := var_lt hf hf.2.2.1 hf.2.2.2.1
      have hv2 := var_lt hf hf.2.2.2.2.1 hf.2.2.2.2.2
      rw [lit_more st.S _ _ (by omega), lit_more st.S _ _ (by omega), lit_more st.S _ _ (by omega)]
      exact h.at' t' h1
    · rw [List.mem_singleton] at h1
      subst h1
      rw [lit_more st.S _ _ (by omega), lit_more st.S _ _ (by omega)]
      have e : litS ((var t'.1, s) :: st.S) t'.1 = s := by
        unfold litS
        rw [getI_same]
        simp only [fine_neg ht, Bool.false_eq_true, if_false]
      rw [e]
      exact hat
  · intro V h0 hsat
    have hsA := hsat.left
    obtain ⟨g1, g2⟩ := h.sem V h0 hsA
    refine ⟨?_, g2⟩
    intro u s' hg
    by_cases hu : var t.1 = u
    · subst hu
      simp only at hg
      rw [getI_same] at hg
      simp only [Option.some.injEq] at hg
      subst hg
      rw [hsem V h0 hsA, lit_sem h h0 hsA, lit_sem h h0 hsA]
      exact (hsat t (by simp)).symm
    · simp only at hg
      rw [getI_other _ _ hu] at hg
      exact g1 u s' hg

theorem inv_kept {B : Int → Prop} {A : List Tri} {st : St} (h : Inv B A st) {t : Tri} (ht : Fine t) (hlt : ∀ t' ∈ A, t'.1 < t.1) (hA : ∀ t' ∈ A, Fine t') (hB : ¬ B (var t.1))
    (hl : B (var t.2.1) ∨ ∃ t' ∈ A, var t'.1 = var t.2.1) (hr : B (var t.2.2) ∨ ∃ t' ∈ A, var t'.1 = var t.2.2)
    (hp : plainL (litS st.S t.2.1) (litS st.S t.2.2) = none) (hm : getI st.M (pairS (litS st.S t.2.1) (litS st.S t.2.2)) = none) :
    Inv B (A ++ [t]) { st with M := (pairS (litS st.S t.2.1) (litS st.S t.2.2), t.1) :: st.M, K := st.K ++ [(t.1, litS st.S t.2.1, litS st.S t.2.2)] } := by
  have hvA : ∀ t' ∈ A, var t'.1 < var t.1 := fun t' h' => var_lt ht (by have := (hA t' h').1; omega) (hlt t' h')
  have hvl : var t.2.1 < var t.1 := var_lt ht ht.2.2.1 ht.2.2.2.1
  have hvr : var t.2.2 < var t.1 := var_lt ht ht.2.2.2.2.1 ht.2.2.2.2.2
  obtain ⟨a0, a1, a2, a3⟩ := lit_facts h ht.2.2.1 hl hA
  obtain ⟨b0, b1, b2, b3⟩ := lit_facts h ht.2.2.2.2.1 hr hA
  have hself : getI st.S (var t.1) = none := by
    cases hg : getI st.S (var t.1) with
    | none => rfl
    | some s =>
      obtain ⟨⟨t', h1, h2⟩, _⟩ := h.dom _ _ hg
      have := hvA t' h1
      omega
  have hkA : ∀ k ∈ st.K, ∃ t' ∈ A, t'.1 = k.1 := fun k hk => by
    have := h.sub.subset (List.mem_map.2 ⟨k, hk, rfl⟩)
    obtain ⟨t', h1, h2⟩ := List.mem_map.1 this
    exact ⟨t', h1, h2⟩
  have hmore : ∀ v, (B v ∨ ∃ k ∈ st.K, var k.1 = v) → (B v ∨ ∃ k ∈ st.K ++ [(t.1, litS st.S t.2.1, litS st.S t.2.2)], var k.1 = v) := by
    rintro v (hb | ⟨k, hk, he⟩)
    · exact Or.inl hb
    · exact Or.inr ⟨k, List.mem_append_left _ hk, he⟩
  have hkeep : ∀ p l, getI st.M p = some l → getI ((pairS (litS st.S t.2.1) (litS st.S t.2.2), t.1) :: st.M) p = some l := by
    intro p l hg
    rw [getI_other _ _ (by rintro rfl; rw [hm] at hg; cases hg)]
    exact hg
  refine ⟨?_, ?_, ?_, ?_, ?_, ?_, ?_⟩
  · intro u s' hg
    obtain ⟨⟨t', h1, h2⟩, h3, h4, h5, h6⟩ := h.dom u s' hg
    exact ⟨⟨t', List.mem_append_left _ h1, h2⟩, h3, h4, h5, hmore _ h6⟩
  · intro k hk
    rcases List.mem_append.1 hk with h1 | h1
    · obtain ⟨g1, g2, ⟨g3, g4⟩, ⟨g5, g6⟩, g7, g8⟩ := h.kept k h1
      exact ⟨g1, g2, ⟨g3, hmore _ g4⟩, ⟨g5, hmore _ g6⟩, g7, hkeep _ _ g8⟩
    · rw [List.mem_singleton] at h1
      subst h1
      have q1 : litS st.S t.2.1 < t.1 := lt_of_var ht a0 (by omega)
      have q2 : litS st.S t.2.2 < t.1 := lt_of_var ht b0 (by omega)
      exact ⟨⟨ht.1, ht.2.1, a0, q1, b0, q2⟩, hself, ⟨a2, hmore _ a3⟩, ⟨b2, hmore _ b3⟩, hp, getI_same _ _ _⟩
  · intro p l hg
    simp only at hg
    by_cases he : pairS (litS st.S t.2.1) (litS st.S t.2.2) = p
    · subst he
      rw [getI_same] at hg
      simp only [Option.some.injEq] at hg
      exact ⟨(t.1, litS st.S t.2.1, litS st.S t.2.2), by simp, hg, rfl⟩
    · rw [getI_other _ _ he] at hg
      obtain ⟨k, hk, g1, g2⟩ := h.met p l hg
      exact ⟨k, List.mem_append_left _ hk, g1, g2⟩
  · rw [List.map_append, List.map_append]
    exact h.sub.append (List.Sublist.refl _)
  · intro t' ht'
    rcases List.mem_append.1 ht' with h1 | h1
    · rcases h.all t' h1 with hs | ⟨k, hk, he⟩
      · exact Or.inl hs
      · exact Or.inr ⟨k, List.mem_append_left _ hk, he⟩
    · rw [List.mem_singleton] at h1
      subst h1
      exact Or.inr ⟨_, List.mem_append_right _ (List.mem_singleton.2 rfl), rfl⟩
  · intro t' ht'
    simp only
    rcases List.mem_append.1 ht' with h1 | h1
    · exact ⟨(h.at' t' h1).1, fun hn => hkeep _ _ ((h.at' t' h1).2 hn)⟩
    · rw [List.mem_singleton] at h1
      subst h1
      refine ⟨fun r hr' => (by rw [hp] at hr'; cases hr'), fun _ => ?_⟩
      rw [getI_same]
      unfold litS
      rw [hself]
  · intro V h0 hsat
    have hsA := hsat.left
    obtain ⟨g1, g2⟩ := h.sem V h0 hsA
    refine ⟨g1, fun k hk => ?_⟩
    rcases List.mem_append.1 hk with h1 | h1
    · exact g2 k h1
    · rw [List.mem_singleton] at h1
      subst h1
      show V (var t.1) = (bitV V (litS st.S t.2.1) && bitV V (litS st.S t.2.2))
      rw [lit_sem h h0 hsA, lit_sem h h0 hsA]
      exact hsat t (by simp)

theorem inv_gate {B : Int → Prop} {A : List Tri} {st : St} (hB0 : B 0) (h : Inv B A st) {t : Tri} (ht : Fine t) (hlt : ∀ t' ∈ A, t'.1 < t.1) (hA : ∀ t' ∈ A, Fine t') (hB : ¬ B (var t.1))
    (hl : B (var t.2.1) ∨ ∃ t' ∈ A, var t'.1 = var t.2.1) (hr : B (var t.2.2) ∨ ∃ t' ∈ A, var t'.1 = var t.2.2) : Inv B (A ++ [t]) (gateS st t) := by
  have hvl : var t.2.1 < var t.1 := var_lt ht ht.2.2.1 ht.2.2.2.1
  have hvr : var t.2.2 < var t.1 := var_lt ht ht.2.2.2.2.1 ht.2.2.2.2.2
  obtain ⟨a0, a1, a2, a3⟩ := lit_facts h ht.2.2.1 hl hA
  obtain ⟨b0, b1, b2, b3⟩ := lit_facts h ht.2.2.2.2.1 hr hA
  unfold gateS
  cases hp : plainL (litS st.S t.2.1) (litS st.S t.2.2) with
  | some r =>
    simp only
    have hz : getI st.S (0 : Int) = none := by
      cases hg : getI st.S (0 : Int) with
      | none => rfl
      | some s =>
        obtain ⟨⟨t', h1, h2⟩, _⟩ := h.dom _ _ hg
        have := (hA t' h1).1
        unfold var at h2
        omega
    have hv0 : var (0 : Int) = 0 := by decide
    have hpos : 0 < var t.1 := by have := ht.1; unfold var; omega
    have hres : 0 ≤ r ∧ var r < var t.1 ∧ getI st.S (var r) = none ∧ (B (var r) ∨ ∃ k ∈ st.K, var k.1 = var r) := by
      rcases plain_res a0 b0 hp with rfl | rfl | rfl
      · rw [hv0]; exact ⟨Int.le_refl _, hpos, hz, Or.inl hB0⟩
      · exact ⟨a0, by omega, a2, a3⟩
      · exact ⟨b0, by omega, b2, b3⟩
    exact inv_stands h ht hlt hA hB hl hr r hres.1 hres.2.1 hres.2.2.1 hres.2.2.2 ⟨fun r' hr' => by rw [hp] at hr'; simpa using hr', fun hn => (by rw [hp] at hn; cases hn)⟩
      (fun V h0 _ => plain_sem h0 a0 b0 hp)
  | none =>
    simp only
    cases hm : getI st.M (pairS (litS st.S t.2.1) (litS st.S t.2.2)) with
    | some l =>
      simp only
      obtain ⟨k, hk, rfl, hpk⟩ := h.met _ _ hm
      obtain ⟨g1, g2, ⟨g3, g4⟩, ⟨g5, g6⟩, g7, g8⟩ := h.kept k hk
      have hkA : ∃ t' ∈ A, t'.1 = k.1 := by
        have := h.sub.subset (List.mem_map.2 ⟨k, hk, rfl⟩)
        obtain ⟨t', h1, h2⟩ := List.mem_map.1 this
        exact ⟨t', h1, h2⟩
      obtain ⟨t', h1, h2⟩ := hkA
      refine inv_stands h ht hlt hA hB hl hr k.1 (by have := g1.1; omega) (by rw [← h2]; exact var_lt ht (by have := (hA t' h1).1; omega) (hlt t' h1)) g2 (Or.inr ⟨k, hk, rfl⟩)
        ⟨fun r' hr' => (by rw [hp] at hr'; cases hr'), fun _ => hm⟩ ?_
      intro V h0 hsA
      have hsk := (h.sem V h0 hsA).2 k hk
      have e1 : bitV V k.1 = V (var k.1) := by unfold bitV; rw [fine_neg g1]; simp
      rw [e1, hsk]
      unfold pairS at hpk
      simp only [Prod.mk.injEq] at hpk
      have hor : (litS st.S t.2.1 = k.2.1 ∧ litS st.S t.2.2 = k.2.2) ∨ (litS st.S t.2.1 = k.2.2 ∧ litS st.S t.2.2 = k.2.1) := by omega
      rcases hor with ⟨e1, e2⟩ | ⟨e1, e2⟩
      · rw [e1, e2]
      · rw [e1, e2, Bool.and_comm]
    | none => exact inv_kept h ht hlt hA hB hl hr hp hm

/-- All operands are something: a base's variable or a gate's ahead. -/
def Known (B : Int → Prop) (A : List Tri) : Prop := ∀ t ∈ A, (B (var t.2.1) ∨ ∃ t' ∈ A, var t'.1 = var t.2.1) ∧ (B (var t.2.2) ∨ ∃ t' ∈ A, var t'.1 = var t.2.2)

theorem inv_fold {B : Int → Prop} (hB0 : B 0) : ∀ (n : Nat) (A : List Tri), A.length = n → Ord A → (∀ t ∈ A, ¬ B (var t.1)) → Known B A → Inv B A (foldG A)
  | 0, A, hn, _, _, _ => by
    have : A = [] := List.eq_nil_of_length_eq_zero hn
    subst this
    exact inv_nil B
  | n + 1, A, hn, ho, hb, hk => by
    obtain ⟨A', t, rfl⟩ : ∃ A' t, A = A' ++ [t] := by
      rcases List.eq_nil_or_concat A with rfl | ⟨A', t, h⟩
      · simp at hn
      · exact ⟨A', t, by rw [h, List.concat_eq_append]⟩
    have hrise := List.pairwise_append.1 ho.rise
    have hlt : ∀ t' ∈ A', t'.1 < t.1 := fun t' ht' => hrise.2.2 t' ht' t (by simp)
    have hft := ho.fine t (by simp)
    have hA : ∀ t' ∈ A', Fine t' := fun t' ht' => ho.fine t' (List.mem_append_left _ ht')
    have hback : ∀ {l : Int}, 0 ≤ l → (u : Tri) → u ∈ A' ++ [t] → Fine u → l < u.1 → (B (var l) ∨ ∃ t' ∈ A' ++ [t], var t'.1 = var l) → (B (var l) ∨ ∃ t' ∈ A', var t'.1 = var l) := by
      intro l h0 u hu hfu hlu h
      rcases h with h | ⟨t', ht', he⟩
      · exact Or.inl h
      · rcases List.mem_append.1 ht' with h1 | h1
        · exact Or.inr ⟨t', h1, he⟩
        · rw [List.mem_singleton] at h1
          subst h1
          have h2 := var_lt hfu h0 hlu
          have h3 : var u.1 ≤ var t'.1 := by
            rcases List.mem_append.1 hu with h4 | h4
            · have := var_lt hft (by have := (hA u h4).1; omega) (hlt u h4); omega
            · rw [List.mem_singleton] at h4; rw [h4]; exact Int.le_refl _
          omega
    have hk' : Known B A' := fun t' ht' => by
      have hf := hA t' ht'
      obtain ⟨h1, h2⟩ := hk t' (List.mem_append_left _ ht')
      exact ⟨hback hf.2.2.1 t' (List.mem_append_left _ ht') hf hf.2.2.2.1 h1, hback hf.2.2.2.2.1 t' (List.mem_append_left _ ht') hf hf.2.2.2.2.2 h2⟩
    have ih := inv_fold hB0 n A' (by simp at hn; omega) ⟨hrise.1, hA⟩ (fun t' ht' => hb t' (List.mem_append_left _ ht')) hk'
    obtain ⟨h1, h2⟩ := hk t (by simp)
    rw [foldG_snoc]
    exact inv_gate hB0 ih hft hlt hA (hb t (by simp)) (hback hft.2.2.1 t (by simp) hft hft.2.2.2.1 h1) (hback hft.2.2.2.2.1 t (by simp) hft hft.2.2.2.2.2 h2)
end StrashP
end Go.Proofs.YtninglnchengeaaGreat

/-
  Plain: a circuit that may be, hashed, may be; its gates are not plain and differ; hashed again it stays; it tells what it told.
-/
namespace Go.Proofs.YtninglnchengeaaGreat
open Go.RowKit Base
set_option linter.unusedVariables false
set_option linter.unusedSimpArgs false
namespace StrashP
open Circuit GetI

theorem ownOk_iff {most : Int} {own : List Int} : OwnOk most own ↔ (∀ m ∈ own, 2 ≤ m ∧ neg m = false ∧ var m ≤ most) ∧ (own.map var).Nodup := by
  constructor
  · intro h
    refine ⟨fun m hm => ?_, ?_⟩
    · obtain ⟨j, hj, rfl⟩ := List.mem_iff_getElem.1 hm
      obtain ⟨h1, h2, h3, _⟩ := h j hj
      exact ⟨h1, h2, h3⟩
    · rw [List.Nodup, List.pairwise_iff_getElem]
      intro i j hi hj hij e
      rw [List.length_map] at hi hj
      simp only [List.getElem_map] at e
      refine (h j hj).2.2.2 (List.mem_map.2 ⟨own[i], ?_, e⟩)
      rw [List.mem_take_iff_getElem]
      exact ⟨i, by omega, rfl⟩
  · rintro ⟨h1, h2⟩ j hj
    obtain ⟨g1, g2, g3⟩ := h1 own[j] (List.getElem_mem hj)
    refine ⟨g1, g2, g3, fun hm => ?_⟩
    obtain ⟨a, ha, he⟩ := List.mem_map.1 hm
    rw [List.mem_take_iff_getElem] at ha
    obtain ⟨i, hi, rfl⟩ := ha
    rw [List.Nodup, List.pairwise_iff_getElem] at h2
    exact h2 i j (by simp; omega) (by simp; omega) (by omega) (by simp only [List.getElem_map]; exact he)

theorem pairwise_adj {l : List Tri} (h : ∀ j (hj : j + 1 < l.length), (l[j]'(by omega)).1 < l[j + 1].1) : l.Pairwise fun a b => a.1 < b.1 := by
  rw [List.pairwise_iff_getElem]
  intro i j hi hj hij
  obtain ⟨d, rfl⟩ : ∃ d, j = i + 1 + d := ⟨j - i - 1, by omega⟩
  induction d with
  | zero => exact h i hj
  | succ d ih =>
    have h1 := ih (by omega) (by omega)
    have h2 := h (i + 1 + d) (by omega)
    have e : i + 1 + d + 1 = i + 1 + (d + 1) := by omega
    simp only [e] at h2
    omega

/-- A base's variable: 0, an input's, a latch's. -/
def baseV (x : Circ) (v : Int) : Prop := v = 0 ∨ v ∈ x.ins.map var ∨ v ∈ (x.lats.map (·.1)).map var

theorem neg_even {m : Int} (h : 2 ≤ m) (hn : neg m = false) : m % 2 = 0 := by
  unfold neg at hn
  rw [if_neg (by omega)] at hn
  simp at hn; omega

theorem ord_of {x : Circ} (h : CheckOk x) : Ord x.ands := by
  obtain ⟨hf, ⟨hd, hr, hs⟩, hl, ha, _⟩ := h
  refine ⟨pairwise_adj hs, fun t ht => ?_⟩
  obtain ⟨g1, g2, g3⟩ := (ownOk_iff.1 hd).1 t.1 (by unfold ownL; exact List.mem_append_right _ (List.mem_map.2 ⟨t, ht, rfl⟩))
  obtain ⟨k1, k2, k3, k4⟩ := ha t ht
  exact ⟨g1, neg_even g1 g2, k1.1, k3, k2.1, k4⟩

theorem known_base {x : Circ} {l : Int} (h : knownV (vsOf x) l) : 0 ≤ l ∧ (baseV x (var l) ∨ ∃ t ∈ x.ands, var t.1 = var l) := by
  obtain ⟨h0, h | h⟩ := h
  · exact ⟨h0, Or.inl (Or.inl (by unfold var; omega))⟩
  · refine ⟨h0, ?_⟩
    unfold vsOf ownL at h
    rw [List.map_append, List.map_append, List.mem_append, List.mem_append] at h
    rcases h with (h | h) | h
    · exact Or.inl (Or.inr (Or.inl h))
    · exact Or.inl (Or.inr (Or.inr h))
    · right
      obtain ⟨m, hm, he⟩ := List.mem_map.1 h
      obtain ⟨t, ht, rfl⟩ := List.mem_map.1 hm
      exact ⟨t, ht, he⟩

theorem base_not {x : Circ} (h : CheckOk x) : ∀ t ∈ x.ands, ¬ baseV x (var t.1) := by
  intro t ht hb
  have hfine := (ord_of h).fine t ht
  have hn := (ownOk_iff.1 h.2.1.1).2
  unfold ownL at hn
  rw [List.map_append, List.nodup_append] at hn
  have hmem : var t.1 ∈ (x.ands.map (·.1)).map var := List.mem_map.2 ⟨t.1, List.mem_map.2 ⟨t, ht, rfl⟩, rfl⟩
  rcases hb with hb | hb | hb
  · have := hfine.1; unfold var at hb; omega
  · exact hn.2.2 _ (by rw [List.map_append]; exact List.mem_append_left _ hb) _ hmem rfl
  · exact hn.2.2 _ (by rw [List.map_append]; exact List.mem_append_right _ hb) _ hmem rfl

theorem inv_of {x : Circ} (h : CheckOk x) : Inv (baseV x) x.ands (foldG x.ands) := by
  refine inv_fold (Or.inl rfl) _ _ rfl (ord_of h) (base_not h) fun t ht => ?_
  obtain ⟨k1, k2, _, _⟩ := h.2.2.2.1 t ht
  exact ⟨(known_base k1).2, (known_base k2).2⟩

def stOf (x : Circ) : St := foldG x.ands
/-- A circuit, all its gates replaced. -/
def mid (x : Circ) : Circ := { x with lats := x.lats.map fun t => (t.1, litS (stOf x).S t.2.1, t.2.2), outs := x.outs.map (litS (stOf x).S), bads := x.bads.map (litS (stOf x).S), invs := x.invs.map (litS (stOf x).S), ands := (stOf x).K }
def told (x : Circ) : List Int := x.lats.map (·.2.1) ++ x.outs ++ x.bads ++ x.invs
noncomputable def wants (x : Circ) (t : Tri) : Bool := tt (Rch (mid x).ands (told (mid x)) (var t.1))
/-- A circuit, hashed. -/
noncomputable def hashed (x : Circ) : Circ := { mid x with ands := (stOf x).K.filter (wants x) }

theorem told_lit {x : Circ} {l : Int} (hl : l ∈ told (mid x)) : ∃ m ∈ told x, l = litS (stOf x).S m := by
  unfold told at hl ⊢
  simp only [List.mem_append] at hl ⊢
  rcases hl with ((hl | hl) | hl) | hl
  · obtain ⟨t, ht, rfl⟩ := List.mem_map.1 hl
    obtain ⟨t', ht', rfl⟩ := List.mem_map.1 ht
    exact ⟨t'.2.1, Or.inl (Or.inl (Or.inl (List.mem_map.2 ⟨t', ht', rfl⟩))), rfl⟩
  · obtain ⟨m, hm, rfl⟩ := List.mem_map.1 hl
    exact ⟨m, Or.inl (Or.inl (Or.inr hm)), rfl⟩
  · obtain ⟨m, hm, rfl⟩ := List.mem_map.1 hl
    exact ⟨m, Or.inl (Or.inr hm), rfl⟩
  · obtain ⟨m, hm, rfl⟩ := List.mem_map.1 hl
    exact ⟨m, Or.inr hm, rfl⟩
theorem lit_told {x : Circ} {m : Int} (hm : m ∈ told x) : litS (stOf x).S m ∈ told (mid x) := by
  unfold told at hm ⊢
  simp only [List.mem_append] at hm ⊢
  rcases hm with ((hm | hm) | hm) | hm
  · obtain ⟨t, ht, rfl⟩ := List.mem_map.1 hm
    exact Or.inl (Or.inl (Or.inl (List.mem_map.2 ⟨_, List.mem_map.2 ⟨t, ht, rfl⟩, rfl⟩)))
  · exact Or.inl (Or.inl (Or.inr (List.mem_map.2 ⟨m, hm, rfl⟩)))
  · exact Or.inl (Or.inr (List.mem_map.2 ⟨m, hm, rfl⟩))
  · exact Or.inr (List.mem_map.2 ⟨m, hm, rfl⟩)
theorem told_known {x : Circ} (h : CheckOk x) {m : Int} (hm : m ∈ told x) : knownV (vsOf x) m := by
  obtain ⟨_, _, hl, _, ho, hb, hv, _⟩ := h
  unfold told at hm
  simp only [List.mem_append] at hm
  rcases hm with ((hm | hm) | hm) | hm
  · obtain ⟨t, ht, rfl⟩ := List.mem_map.1 hm
    exact hl t ht
  · exact ho m hm
  · exact hb m hm
  · exact hv m hm
theorem told_facts {x : Circ} (h : CheckOk x) {l : Int} (hl : l ∈ told (mid x)) :
    0 ≤ l ∧ getI (stOf x).S (var l) = none ∧ (baseV x (var l) ∨ ∃ k ∈ (stOf x).K, var k.1 = var l) := by
  obtain ⟨m, hm, rfl⟩ := told_lit hl
  obtain ⟨h0, hb⟩ := known_base (told_known h hm)
  have := lit_facts (inv_of h) h0 hb (ord_of h).fine
  exact ⟨this.1, this.2.2⟩

theorem gate_of {A : List Tri} {v : Int} {g : Tri} (h : gate A v = some g) : g ∈ A ∧ 0 ≤ g.1 ∧ var g.1 = v := by
  refine ⟨gate_mem h, ?_⟩
  have := List.find?_some h
  simp only [Bool.and_eq_true, decide_eq_true_eq] at this
  exact this
theorem kOrd {x : Circ} (h : CheckOk x) : Ord (stOf x).K := by
  have hi := inv_of h
  refine ⟨?_, fun k hk => (hi.kept k hk).1⟩
  have h1 : (x.ands.map (·.1)).Pairwise (· < ·) := by rw [List.pairwise_map]; exact (ord_of h).rise
  have h2 := List.Pairwise.sublist hi.sub h1
  rw [List.pairwise_map] at h2
  exact h2
theorem ord_same {A : List Tri} (h : Ord A) {a b : Tri} (ha : a ∈ A) (hb : b ∈ A) (e : var a.1 = var b.1) : a = b := by
  obtain ⟨i, hi, rfl⟩ := List.mem_iff_getElem.1 ha
  obtain ⟨j, hj, rfl⟩ := List.mem_iff_getElem.1 hb
  have hr := List.pairwise_iff_getElem.1 h.rise
  have f1 := h.fine _ ha
  have f2 := h.fine _ hb
  have e' : A[i].1 = A[j].1 := by
    have := f1.1; have := f1.2.1; have := f2.1; have := f2.2.1
    unfold var at e; omega
  rcases Nat.lt_trichotomy i j with hij | hij | hij
  · have := hr i j hi hj hij; omega
  · subst hij; rfl
  · have := hr j i hj hi hij; omega
theorem gate_ord {A : List Tri} (h : Ord A) {g : Tri} (hg : g ∈ A) : gate A (var g.1) = some g := by
  cases hq : gate A (var g.1) with
  | none =>
    unfold gate at hq
    rw [List.find?_eq_none] at hq
    have := hq g hg
    have := (h.fine g hg).1
    simp at *
    omega
  | some g' =>
    obtain ⟨h1, _, h3⟩ := gate_of hq
    rw [ord_same h h1 hg h3]
theorem Ord.filter {A : List Tri} (h : Ord A) (p : Tri → Bool) : Ord (A.filter p) := ⟨h.rise.filter p, fun t ht => h.fine t (List.mem_filter.1 ht).1⟩

theorem rch_known {x : Circ} (h : CheckOk x) {v : Int} (hv : Rch (stOf x).K (told (mid x)) v) : getI (stOf x).S v = none ∧ (baseV x v ∨ ∃ k ∈ (stOf x).K, var k.1 = v) := by
  have hi := inv_of h
  cases hv with
  | lit ht => exact (told_facts h ht).2
  | left hr h0 hg =>
    obtain ⟨h1, _, _⟩ := gate_of hg
    exact (hi.kept _ h1).2.2.1
  | right hr h0 hg =>
    obtain ⟨h1, _, _⟩ := gate_of hg
    exact (hi.kept _ h1).2.2.2.1

theorem fands {x : Circ} {t : Tri} : t ∈ (hashed x).ands ↔ t ∈ (stOf x).K ∧ Rch (stOf x).K (told (mid x)) (var t.1) := by
  show t ∈ (stOf x).K.filter (wants x) ↔ _
  rw [List.mem_filter]
  unfold wants
  rw [tt_iff]
  exact Iff.rfl
theorem fOrd {x : Circ} (h : CheckOk x) : Ord (hashed x).ands := (kOrd h).filter _

/-- What hangs on it hangs on it without the rest. -/
theorem rch_less {x : Circ} (h : CheckOk x) {v : Int} (hv : Rch (stOf x).K (told (mid x)) v) : Rch (hashed x).ands (told (mid x)) v := by
  have key : ∀ {v : Int} {g : Tri}, Rch (stOf x).K (told (mid x)) v → gate (stOf x).K v = some g → gate (hashed x).ands v = some g := by
    intro v g hr hg
    obtain ⟨h1, _, h3⟩ := gate_of hg
    rw [← h3]
    exact gate_ord (fOrd h) (fands.2 ⟨h1, by rw [h3]; exact hr⟩)
  induction hv with
  | lit ht => exact .lit ht
  | left hr h0 hg ih => exact .left ih h0 (key hr hg)
  | right hr h0 hg ih => exact .right ih h0 (key hr hg)

theorem known_h {x : Circ} (h : CheckOk x) {l : Int} (h0 : 0 ≤ l) (hr : Rch (stOf x).K (told (mid x)) (var l)) : knownV (vsOf (hashed x)) l := by
  refine ⟨h0, ?_⟩
  rcases (rch_known h hr).2 with hb | ⟨k, hk, he⟩
  · rcases hb with hb | hb | hb
    · left; unfold var at hb; omega
    · right
      unfold vsOf ownL
      rw [List.map_append, List.map_append, List.mem_append, List.mem_append]
      exact Or.inl (Or.inl hb)
    · right
      unfold vsOf ownL
      rw [List.map_append, List.map_append, List.mem_append, List.mem_append]
      refine Or.inl (Or.inr ?_)
      have e : (hashed x).lats.map (·.1) = x.lats.map (·.1) := by
        show (x.lats.map fun t => (t.1, litS (stOf x).S t.2.1, t.2.2)).map (·.1) = _
        rw [List.map_map]; rfl
      rw [e]; exact hb
  · right
    unfold vsOf ownL
    rw [List.map_append, List.map_append, List.mem_append, List.mem_append]
    right
    refine List.mem_map.2 ⟨k.1, List.mem_map.2 ⟨k, fands.2 ⟨hk, by rw [he]; exact hr⟩, rfl⟩, he⟩

theorem countOf_mono {x y : Circ} (h1 : x.ins.length ≤ y.ins.length) (h2 : x.lats.length ≤ y.lats.length) (h3 : x.outs.length ≤ y.outs.length) (h4 : x.bads.length ≤ y.bads.length) (h5 : x.invs.length ≤ y.invs.length) (k : ByteArray) : countOf x k ≤ countOf y k := by
  unfold countOf
  split
  · exact h1
  · split
    · exact h2
    · split
      · exact h3
      · split
        · exact h4
        · exact h5
theorem names_mono {x y : Circ} (hn : x.names = y.names) (h : ∀ k, countOf x k ≤ countOf y k) (hx : NamesTo x x.names.length) : NamesTo y y.names.length := by
  obtain ⟨m, ins, lats, outs, bads, invs, ands, names⟩ := x
  obtain ⟨m', ins', lats', outs', bads', invs', ands', names'⟩ := y
  simp only at hn
  subst hn
  intro j hj hjk
  obtain ⟨⟨c, g1, g2, g3, g4, g5⟩, g6⟩ := hx j hj hjk
  exact ⟨⟨c, g1, g2, g3, Int.lt_of_lt_of_le g4 (Int.ofNat_le.2 (h (names[j]).1)), g5⟩, g6⟩

theorem hashed_ok {x : Circ} (h : CheckOk x) : CheckOk (hashed x) := by
  have hi := inv_of h
  have hlm : (hashed x).lats.map (·.1) = x.lats.map (·.1) := by
    show (x.lats.map fun t => (t.1, litS (stOf x).S t.2.1, t.2.2)).map (·.1) = _
    rw [List.map_map]; rfl
  have hl1 : (hashed x).lats.length = x.lats.length := by show (x.lats.map _).length = _; rw [List.length_map]
  have hl2 : (hashed x).outs.length = x.outs.length := by show (x.outs.map _).length = _; rw [List.length_map]
  have hl3 : (hashed x).bads.length = x.bads.length := by show (x.bads.map _).length = _; rw [List.length_map]
  have hl4 : (hashed x).invs.length = x.invs.length := by show (x.invs.map _).length = _; rw [List.length_map]
  have htold : ∀ m ∈ told x, knownV (vsOf (hashed x)) (litS (stOf x).S m) := fun m hm => by
    have h1 := lit_told hm
    exact known_h h (told_facts h h1).1 (.lit h1)
  obtain ⟨hf, ⟨hd, hr, hs⟩, hl, ha, ho, hb, hv, hn⟩ := h
  have h : CheckOk x := ⟨hf, ⟨hd, hr, hs⟩, hl, ha, ho, hb, hv, hn⟩
  obtain ⟨f0, f1, f2, f3, f4, f5, f6⟩ := hf
  refine ⟨⟨f0, f1, f2, by rw [hl1]; exact f3, by rw [hl2]; exact f4, by rw [hl3]; exact f5, by rw [hl4]; exact f6⟩, ⟨?_, ?_, ?_⟩, ?_, ?_, ?_, ?_, ?_, ?_⟩
  · have hsub : (ownL (hashed x)).Sublist (ownL x) := by
      unfold ownL
      rw [hlm]
      refine List.Sublist.append (List.Sublist.refl _) ?_
      show (((stOf x).K.filter (wants x)).map (·.1)).Sublist _
      exact ((List.filter_sublist).map _).trans hi.sub
    obtain ⟨g1, g2⟩ := ownOk_iff.1 hd
    exact ownOk_iff.2 ⟨fun m hm => g1 m (hsub.subset hm), List.Nodup.sublist (hsub.map var) g2⟩
  · intro t ht
    obtain ⟨t', ht', rfl⟩ := List.mem_map.1 ht
    exact hr t' ht'
  · intro j hj
    exact List.pairwise_iff_getElem.1 (fOrd h).rise j (j + 1) (by omega) hj (by omega)
  · intro t ht
    obtain ⟨t', ht', rfl⟩ := List.mem_map.1 ht
    exact htold t'.2.1 (by unfold told; simp only [List.mem_append]; exact Or.inl (Or.inl (Or.inl (List.mem_map.2 ⟨t', ht', rfl⟩))))
  · intro t ht
    obtain ⟨h1, h2⟩ := fands.1 ht
    obtain ⟨g1, g2, g3, g4, g5, g6⟩ := hi.kept t h1
    have hg := gate_ord (kOrd h) h1
    have h0 : var t.1 ≠ 0 := by have := g1.1; unfold var; omega
    exact ⟨known_h h g1.2.2.1 (.left h2 h0 hg), known_h h g1.2.2.2.2.1 (.right h2 h0 hg), g1.2.2.2.1, g1.2.2.2.2.2⟩
  · intro l hl'
    obtain ⟨m, hm, rfl⟩ := List.mem_map.1 hl'
    exact htold m (by unfold told; simp only [List.mem_append]; exact Or.inl (Or.inl (Or.inr hm)))
  · intro l hl'
    obtain ⟨m, hm, rfl⟩ := List.mem_map.1 hl'
    exact htold m (by unfold told; simp only [List.mem_append]; exact Or.inl (Or.inr hm))
  · intro l hl'
    obtain ⟨m, hm, rfl⟩ := List.mem_map.1 hl'
    exact htold m (by unfold told; simp only [List.mem_append]; exact Or.inr hm)
  · exact names_mono (x := x) (y := hashed x) rfl (fun k => countOf_mono (x := x) (y := hashed x) (Nat.le_refl _) (by rw [hl1]; exact Nat.le_refl _) (by rw [hl2]; exact Nat.le_refl _) (by rw [hl3]; exact Nat.le_refl _) (by rw [hl4]; exact Nat.le_refl _) k) hn

/-! ### Less, and again. -/
theorem f_plain {x : Circ} (h : CheckOk x) : ∀ t ∈ (hashed x).ands, plainL t.2.1 t.2.2 = none := fun t ht => ((inv_of h).kept t (fands.1 ht).1).2.2.2.2.1
theorem k_pairs {x : Circ} (h : CheckOk x) {a b : Tri} (ha : a ∈ (stOf x).K) (hb : b ∈ (stOf x).K) (e : pairS a.2.1 a.2.2 = pairS b.2.1 b.2.2) : a = b := by
  have h1 := ((inv_of h).kept a ha).2.2.2.2.2
  have h2 := ((inv_of h).kept b hb).2.2.2.2.2
  rw [e] at h1
  have e1 : some b.1 = some a.1 := h2.symm.trans h1
  simp only [Option.some.injEq] at e1
  exact ord_same (kOrd h) ha hb (by rw [e1])
theorem f_pairs {x : Circ} (h : CheckOk x) : (hashed x).ands.Pairwise fun a b => pairS a.2.1 a.2.2 ≠ pairS b.2.1 b.2.2 := by
  have hr := (fOrd h).rise
  refine hr.imp_of_mem fun {a b} ha hb hlt e => ?_
  have := k_pairs h (fands.1 ha).1 (fands.1 hb).1 e
  rw [this] at hlt
  omega
theorem f_few {x : Circ} (h : CheckOk x) : (hashed x).ands.length ≤ x.ands.length := by
  have h1 := (inv_of h).sub.length_le
  rw [List.length_map, List.length_map] at h1
  exact Nat.le_trans (List.length_filter_le _ _) h1

theorem fold_plain : ∀ (n : Nat) (A : List Tri), A.length = n → (∀ t ∈ A, plainL t.2.1 t.2.2 = none) → (A.Pairwise fun a b => pairS a.2.1 a.2.2 ≠ pairS b.2.1 b.2.2) →
    (foldG A).S = [] ∧ (foldG A).K = A ∧ ∀ p l, getI (foldG A).M p = some l → ∃ t ∈ A, pairS t.2.1 t.2.2 = p
  | 0, A, hn, _, _ => by
    have : A = [] := List.eq_nil_of_length_eq_zero hn
    subst this
    exact ⟨rfl, rfl, fun p l h => by cases h⟩
  | n + 1, A, hn, hp, hq => by
    obtain ⟨A', t, rfl⟩ : ∃ A' t, A = A' ++ [t] := by
      rcases List.eq_nil_or_concat A with rfl | ⟨A', t, h⟩
      · simp at hn
      · exact ⟨A', t, by rw [h, List.concat_eq_append]⟩
    rw [List.pairwise_append] at hq
    obtain ⟨g1, g2, g3⟩ := fold_plain n A' (by simp at hn; omega) (fun t' ht' => hp t' (List.mem_append_left _ ht')) hq.1
    have hl : ∀ l, litS (foldG A').S l = l := by
      intro l
      rw [g1]
      rfl
    have hm : getI (foldG A').M (pairS t.2.1 t.2.2) = none := by
      cases hg : getI (foldG A').M (pairS t.2.1 t.2.2) with
      | none => rfl
      | some l =>
        obtain ⟨t', ht', he⟩ := g3 _ _ hg
        exact absurd he (hq.2.2 t' ht' t (by simp))
    have hst : foldG (A' ++ [t]) = { foldG A' with M := (pairS t.2.1 t.2.2, t.1) :: (foldG A').M, K := (foldG A').K ++ [t] } := by
      rw [foldG_snoc]
      unfold gateS
      rw [hl, hl, hp t (by simp)]
      simp only
      rw [hm]
    rw [hst]
    refine ⟨g1, by simp only; rw [g2], ?_⟩
    intro p l hg
    simp only at hg
    by_cases e : pairS t.2.1 t.2.2 = p
    · exact ⟨t, by simp, e⟩
    · rw [getI_other _ _ e] at hg
      obtain ⟨t', ht', he⟩ := g3 p l hg
      exact ⟨t', List.mem_append_left _ ht', he⟩

theorem hashed_again {x : Circ} (h : CheckOk x) : hashed (hashed x) = hashed x := by
  obtain ⟨g1, g2, _⟩ := fold_plain _ (hashed x).ands rfl (f_plain h) (f_pairs h)
  have hS : (stOf (hashed x)).S = [] := g1
  have hK : (stOf (hashed x)).K = (hashed x).ands := g2
  have hl : ∀ l, litS (stOf (hashed x)).S l = l := by
    intro l; rw [hS]; rfl
  have hlf : litS (stOf (hashed x)).S = id := funext hl
  have hmid : mid (hashed x) = hashed x := by
    unfold mid
    rw [hlf, hK]
    have e1 : ((hashed x).lats.map fun t => (t.1, id t.2.1, t.2.2)) = (hashed x).lats := by
      have : (fun t : Tri => (t.1, id t.2.1, t.2.2)) = id := by funext t; rfl
      rw [this, List.map_id]
    rw [e1, List.map_id, List.map_id, List.map_id]
  unfold hashed
  rw [show mid { mid x with ands := (stOf x).K.filter (wants x) } = hashed x from hmid]
  have hK' : (stOf { mid x with ands := (stOf x).K.filter (wants x) }).K = (hashed x).ands := hK
  rw [hK']
  have hall : (hashed x).ands.filter (wants (hashed x)) = (hashed x).ands := by
    rw [List.filter_eq_self]
    intro t ht
    unfold wants
    rw [hmid]
    refine tt_pos ?_
    have htold : told (hashed x) = told (mid x) := rfl
    rw [htold]
    exact rch_less h (fands.1 ht).2
  rw [show ({ mid x with ands := (stOf x).K.filter (wants x) } : Circ) = hashed x from rfl, hall]

/-! ### Values. -/
def setV (V : Int → Bool) (u : Int) (b : Bool) : Int → Bool := fun k => if k = u then b else V k
def evalA (A : List Tri) (V : Int → Bool) : Int → Bool := A.foldl (fun V t => setV V (var t.1) (bitV V t.2.1 && bitV V t.2.2)) V
theorem evalA_snoc (A : List Tri) (t : Tri) (V : Int → Bool) : evalA (A ++ [t]) V = setV (evalA A V) (var t.1) (bitV (evalA A V) t.2.1 && bitV (evalA A V) t.2.2) := by unfold evalA; rw [List.foldl_append]; rfl
theorem bit_set {V : Int → Bool} {u : Int} {b : Bool} {l : Int} (h : var l ≠ u) : bitV (setV V u b) l = bitV V l := by unfold bitV setV; rw [if_neg h]

theorem eval_sat : ∀ (n : Nat) (A : List Tri), A.length = n → Ord A → ∀ V, Sat (evalA A V) A ∧ ∀ u, (∀ t ∈ A, var t.1 ≠ u) → evalA A V u = V u
  | 0, A, hn, _, V => by
    have : A = [] := List.eq_nil_of_length_eq_zero hn
    subst this
    exact ⟨fun t h => (by cases h), fun u _ => rfl⟩
  | n + 1, A, hn, ho, V => by
    obtain ⟨A', t, rfl⟩ : ∃ A' t, A = A' ++ [t] := by
      rcases List.eq_nil_or_concat A with rfl | ⟨A', t, h⟩
      · simp at hn
      · exact ⟨A', t, by rw [h, List.concat_eq_append]⟩
    have hrise := List.pairwise_append.1 ho.rise
    have hft := ho.fine t (by simp)
    have hA : ∀ t' ∈ A', Fine t' := fun t' ht' => ho.fine t' (List.mem_append_left _ ht')
    obtain ⟨h1, h2⟩ := eval_sat n A' (by simp at hn; omega) ⟨hrise.1, hA⟩ V
    have hlt : ∀ t' ∈ A', var t'.1 < var t.1 := fun t' ht' => var_lt hft (by have := (hA t' ht').1; omega) (hrise.2.2 t' ht' t (by simp))
    have hvl : var t.2.1 < var t.1 := var_lt hft hft.2.2.1 hft.2.2.2.1
    have hvr : var t.2.2 < var t.1 := var_lt hft hft.2.2.2.2.1 hft.2.2.2.2.2
    rw [evalA_snoc]
    refine ⟨fun t' ht' => ?_, fun u hu => ?_⟩
    · rcases List.mem_append.1 ht' with h | h
      · have hf := hA t' h
        have hv := hlt t' h
        have hv1 := var_lt hf hf.2.2.1 hf.2.2.2.1
        have hv2 := var_lt hf hf.2.2.2.2.1 hf.2.2.2.2.2
        rw [bit_set (by omega), bit_set (by omega)]
        have e : setV (evalA A' V) (var t.1) (bitV (evalA A' V) t.2.1 && bitV (evalA A' V) t.2.2) (var t'.1) = evalA A' V (var t'.1) := by unfold setV; rw [if_neg (by omega)]
        rw [e]
        exact h1 t' h
      · rw [List.mem_singleton] at h
        subst h
        rw [bit_set (by omega), bit_set (by omega)]
        unfold setV
        rw [if_pos rfl]
    · unfold setV
      rw [if_neg (fun e => hu t (by simp) e.symm)]
      exact h2 u fun t' ht' => hu t' (List.mem_append_left _ ht')

theorem sem_rch {x : Circ} (h : CheckOk x) {V0 : Int → Bool} (h0 : V0 0 = false) : ∀ (n : Nat) (v : Int), v.toNat = n → 0 ≤ v → Rch (stOf x).K (told (mid x)) v → evalA (hashed x).ands V0 v = evalA x.ands V0 v := by
  intro n
  induction n using Nat.strongRecOn with
  | _ n ih =>
    intro v hn hv hr
    obtain ⟨s1, s2⟩ := eval_sat _ x.ands rfl (ord_of h) V0
    obtain ⟨t1, t2⟩ := eval_sat _ (hashed x).ands rfl (fOrd h) V0
    have hV0 : evalA x.ands V0 0 = false := by
      rw [s2 0 (fun t ht => by have := ((ord_of h).fine t ht).1; unfold var; omega)]; exact h0
    have hi := inv_of h
    obtain ⟨hnone, hb⟩ := rch_known h hr
    by_cases hk : ∃ k ∈ (stOf x).K, var k.1 = v
    · obtain ⟨k, hk, rfl⟩ := hk
      have hkf := fands.2 ⟨hk, hr⟩
      have hfk := (hi.kept k hk).1
      have hg := gate_ord (kOrd h) hk
      have hne : var k.1 ≠ 0 := by have := hfk.1; unfold var; omega
      have e1 := t1 k hkf
      have e2 := (hi.sem _ hV0 s1).2 k hk
      have hv1 := var_lt hfk hfk.2.2.1 hfk.2.2.2.1
      have hv2 := var_lt hfk hfk.2.2.2.2.1 hfk.2.2.2.2.2
      have p1 : 0 ≤ var k.2.1 := by unfold var; omega
      have p2 : 0 ≤ var k.2.2 := by unfold var; omega
      have i1 := ih (var k.2.1).toNat (by omega) _ rfl p1 (.left hr hne hg)
      have i2 := ih (var k.2.2).toNat (by omega) _ rfl p2 (.right hr hne hg)
      rw [e1, e2]
      unfold bitV
      rw [i1, i2]
    · rw [t2 v (fun t ht e => hk ⟨t, (fands.1 ht).1, e⟩), s2 v (fun t ht e => ?_)]
      rcases hi.all t ht with ⟨s, hs⟩ | ⟨k, hkk, he⟩
      · rw [e] at hs
        have : getI (stOf x).S v = some s := hs
        rw [hnone] at this; cases this
      · exact hk ⟨k, hkk, by rw [he, e]⟩

/-- What is told is the same. -/
theorem sem_told {x : Circ} (h : CheckOk x) {V0 : Int → Bool} (h0 : V0 0 = false) {m : Int} (hm : m ∈ told x) : bitV (evalA (hashed x).ands V0) (litS (stOf x).S m) = bitV (evalA x.ands V0) m := by
  obtain ⟨s1, s2⟩ := eval_sat _ x.ands rfl (ord_of h) V0
  have hV0 : evalA x.ands V0 0 = false := by
    rw [s2 0 (fun t ht => by have := ((ord_of h).fine t ht).1; unfold var; omega)]; exact h0
  have hl := lit_told hm
  have hr : Rch (stOf x).K (told (mid x)) (var (litS (stOf x).S m)) := .lit hl
  have e := sem_rch h h0 _ _ rfl (by unfold var; omega) hr
  rw [← lit_sem (inv_of h) hV0 s1 m]
  show bitV _ (litS (stOf x).S m) = bitV _ (litS (stOf x).S m)
  unfold bitV
  rw [e]

/-! ### Twice. -/
/-- A circuit with one and more, its literals the other way round, and one output more. -/
def more (x : Circ) (a : Tri) (o : Int) : Circ := { x with max := x.max + 1, ands := x.ands ++ [(2 * (x.max + 1), a.2.2, a.2.1)], outs := x.outs ++ [o] }

theorem more_ok {x : Circ} (h : CheckOk x) {a : Tri} (ha : a ∈ x.ands) (hm : x.max ≤ 1000) (ho : x.outs.length + 1 ≤ 64) {o : Int} (hoo : o = a.1 ∨ o = 2 * (x.max + 1)) : CheckOk (more x a o) := by
  have hord := ord_of h
  obtain ⟨hf, ⟨hd, hr, hs⟩, hl, hand, hout, hb, hv, hn⟩ := h
  obtain ⟨f0, f1, f2, f3, f4, f5, f6⟩ := hf
  obtain ⟨d1, d2⟩ := ownOk_iff.1 hd
  have hown : ownL (more x a o) = ownL x ++ [2 * (x.max + 1)] := by unfold ownL more; simp
  have hvs : vsOf (more x a o) = vsOf x ++ [x.max + 1] := by
    unfold vsOf
    rw [hown, List.map_append]
    have : var (2 * (x.max + 1)) = x.max + 1 := by unfold var; omega
    simp [this]
  have hk : ∀ l, knownV (vsOf x) l → knownV (vsOf (more x a o)) l := fun l hl => ⟨hl.1, hl.2.imp id fun h => by rw [hvs]; exact List.mem_append_left _ h⟩
  have hmax : ∀ t ∈ x.ands, t.1 < 2 * (x.max + 1) := fun t ht => by
    have := (d1 t.1 (by unfold ownL; exact List.mem_append_right _ (List.mem_map.2 ⟨t, ht, rfl⟩))).2.2
    unfold var at this; omega
  obtain ⟨ka1, ka2, ka3, ka4⟩ := hand a ha
  have hma := hmax a ha
  refine ⟨⟨by show 0 ≤ x.max + 1; omega, by show x.max + 1 ≤ 2048; omega, f2, f3, by show (x.outs ++ [o]).length ≤ 64; simp; omega, f5, f6⟩, ⟨?_, hr, ?_⟩, fun t ht => hk _ (hl t ht), ?_, ?_, fun l hl' => hk _ (hb l hl'), fun l hl' => hk _ (hv l hl'), ?_⟩
  · rw [hown]
    refine ownOk_iff.2 ⟨fun m hmm => ?_, ?_⟩
    · rcases List.mem_append.1 hmm with h1 | h1
      · obtain ⟨g1, g2, g3⟩ := d1 m h1
        exact ⟨g1, g2, by show var m ≤ x.max + 1; omega⟩
      · rw [List.mem_singleton] at h1
        subst h1
        refine ⟨by omega, ?_, by show var (2 * (x.max + 1)) ≤ x.max + 1; unfold var; omega⟩
        unfold neg
        rw [if_neg (by omega)]
        simp
    · rw [List.map_append, List.nodup_append]
      refine ⟨d2, by simp, fun u hu v hv' e => ?_⟩
      subst e
      simp only [List.map_cons, List.map_nil, List.mem_singleton] at hv'
      obtain ⟨m, hmm, rfl⟩ := List.mem_map.1 hu
      have := (d1 m hmm).2.2
      unfold var at *
      omega
  · intro j hj
    have hj' : j + 1 < (x.ands ++ [(2 * (x.max + 1), a.2.2, a.2.1)]).length := hj
    rw [List.length_append, List.length_singleton] at hj'
    show ((x.ands ++ [(2 * (x.max + 1), a.2.2, a.2.1)])[j]'(by simp; omega)).1 < ((x.ands ++ [(2 * (x.max + 1), a.2.2, a.2.1)])[j + 1]'(by simp; omega)).1
    by_cases he : j + 1 < x.ands.length
    · rw [List.getElem_append_left he, List.getElem_append_left (by omega)]
      exact hs j he
    · rw [List.getElem_append_left (by omega), List.getElem_append_right (by omega)]
      simp only [List.getElem_singleton]
      exact hmax _ (List.getElem_mem _)
  · intro t ht
    rcases List.mem_append.1 ht with h1 | h1
    · obtain ⟨g1, g2, g3, g4⟩ := hand t h1
      exact ⟨hk _ g1, hk _ g2, g3, g4⟩
    · rw [List.mem_singleton] at h1
      subst h1
      exact ⟨hk _ ka2, hk _ ka1, by show a.2.2 < 2 * (x.max + 1); omega, by show a.2.1 < 2 * (x.max + 1); omega⟩
  · intro l hl'
    rcases List.mem_append.1 hl' with h1 | h1
    · exact hk _ (hout l h1)
    · rw [List.mem_singleton] at h1
      subst h1
      rcases hoo with rfl | rfl
      · refine hk _ ⟨by have := (hord.fine a ha).1; omega, Or.inr ?_⟩
        unfold vsOf ownL
        rw [List.map_append, List.mem_append]
        exact Or.inr (List.mem_map.2 ⟨a.1, List.mem_map.2 ⟨a, ha, rfl⟩, rfl⟩)
      · refine ⟨by omega, Or.inr ?_⟩
        rw [hvs]
        have : var (2 * (x.max + 1)) = x.max + 1 := by unfold var; omega
        rw [this]; simp
  · exact names_mono (x := x) (y := more x a o) rfl (fun k => countOf_mono (x := x) (y := more x a o) (Nat.le_refl _) (Nat.le_refl _) (by show x.outs.length ≤ (x.outs ++ [o]).length; simp) (Nat.le_refl _) (Nat.le_refl _) k) hn

theorem twice {x : Circ} (h : CheckOk x) {a : Tri} (ha : a ∈ x.ands) (hm : x.max ≤ 1000) (ho : x.outs.length + 1 ≤ 64) : hashed (more x a a.1) = hashed (more x a (2 * (x.max + 1))) := by
  have hok := more_ok h ha hm ho (o := a.1) (Or.inl rfl)
  have hi := inv_of hok
  have hst : stOf (more x a (2 * (x.max + 1))) = stOf (more x a a.1) := rfl
  have hfine := (ord_of hok).fine
  have e1 := hi.at' a (List.mem_append_left _ ha)
  have e2 := hi.at' (2 * (x.max + 1), a.2.2, a.2.1) (List.mem_append_right _ (List.mem_singleton.2 rfl))
  have hkn := hok.2.2.2.1 a (List.mem_append_left _ ha)
  have hl := (lit_facts hi hkn.1.1 (known_base hkn.1).2 hfine).1
  have hr := (lit_facts hi hkn.2.1.1 (known_base hkn.2.1).2 hfine).1
  have hlit : litS (stOf (more x a a.1)).S a.1 = litS (stOf (more x a a.1)).S (2 * (x.max + 1)) := by
    have hc := plain_comm hl hr
    cases hp : plainL (litS (foldG (more x a a.1).ands).S a.2.1) (litS (foldG (more x a a.1).ands).S a.2.2) with
    | some r =>
      have h1 := e1.1 r hp
      have h2 := e2.1 r (by show plainL (litS (foldG (more x a a.1).ands).S a.2.2) (litS (foldG (more x a a.1).ands).S a.2.1) = some r; rw [← hc]; exact hp)
      exact h1.trans h2.symm
    | none =>
      have h1 := e1.2 hp
      have h2 := e2.2 (by show plainL (litS (foldG (more x a a.1).ands).S a.2.2) (litS (foldG (more x a a.1).ands).S a.2.1) = none; rw [← hc]; exact hp)
      have h2' : getI (foldG (more x a a.1).ands).M (pairS (litS (foldG (more x a a.1).ands).S a.2.2) (litS (foldG (more x a a.1).ands).S a.2.1)) = some (litS (foldG (more x a a.1).ands).S (2 * (x.max + 1))) := h2
      rw [pair_comm] at h2'
      have h3 := h1.symm.trans h2'
      simp only [Option.some.injEq] at h3
      exact h3
  have hmid : mid (more x a a.1) = mid (more x a (2 * (x.max + 1))) := by
    unfold mid
    rw [hst]
    have : (more x a a.1).outs.map (litS (stOf (more x a a.1)).S) = (more x a (2 * (x.max + 1))).outs.map (litS (stOf (more x a a.1)).S) := by
      show (x.outs ++ [a.1]).map _ = (x.outs ++ [2 * (x.max + 1)]).map _
      rw [List.map_append, List.map_append]
      congr 1
      simp only [List.map_cons, List.map_nil]
      rw [hlit]
    rw [this]
    rfl
  unfold hashed
  have hw : wants (more x a a.1) = wants (more x a (2 * (x.max + 1))) := by
    funext t
    unfold wants
    rw [hmid]
  rw [hw, hst, hmid]
end StrashP
end Go.Proofs.YtninglnchengeaaGreat

/-
  Plain: what a Bad hangs on: what counts; the circuit of that alone may be, and stays when it is reduced again.
-/
namespace Go.Proofs.YtninglnchengeaaGreat
open Go.RowKit Base
set_option linter.unusedVariables false
set_option linter.unusedSimpArgs false
namespace Coi
open Circuit

/-- What counts, of a circuit and literals. -/
inductive NR (x : Circ) (l : List Int) : Int → Prop
  | lit {t : Int} : t ∈ l → NR x l (var t)
  | left {v : Int} {g : Tri} : NR x l v → v ≠ 0 → gate x.ands v = some g → NR x l (var g.2.1)
  | right {v : Int} {g : Tri} : NR x l v → v ≠ 0 → gate x.ands v = some g → NR x l (var g.2.2)
  | next {t : Tri} : NR x l (var t.1) → var t.1 ≠ 0 → t ∈ x.lats → NR x l (var t.2.1)

theorem nr_of_rch {x : Circ} {l L : List Int} (hL : ∀ t ∈ L, NR x l (var t)) {v : Int} (h : Rch x.ands L v) : NR x l v := by
  induction h with
  | lit ht => exact hL _ ht
  | left _ h0 hg ih => exact .left ih h0 hg
  | right _ h0 hg ih => exact .right ih h0 hg

structure CInv (x : Circ) (l X : List Int) : Prop where
  nodup : X.Nodup
  sound : ∀ v ∈ X, v ≠ 0 ∧ NR x l v
  lits : ∀ t ∈ l, var t = 0 ∨ var t ∈ X
  gates : ∀ v ∈ X, ∀ g, gate x.ands v = some g → (var g.2.1 = 0 ∨ var g.2.1 ∈ X) ∧ (var g.2.2 = 0 ∨ var g.2.2 ∈ X)

/-- X2 is X and what L hangs on. -/
def Adds (x : Circ) (L X X2 : List Int) : Prop := X2.Nodup ∧ ∀ v, v ∈ X2 ↔ v ∈ X ∨ (v ≠ 0 ∧ Rch x.ands L v)

theorem adds_gates {x : Circ} {L X X2 : List Int} (h : Adds x L X X2) (hg : ∀ v ∈ X, ∀ g, gate x.ands v = some g → (var g.2.1 = 0 ∨ var g.2.1 ∈ X) ∧ (var g.2.2 = 0 ∨ var g.2.2 ∈ X)) :
    ∀ v ∈ X2, ∀ g, gate x.ands v = some g → (var g.2.1 = 0 ∨ var g.2.1 ∈ X2) ∧ (var g.2.2 = 0 ∨ var g.2.2 ∈ X2) := by
  intro v hv g hgv
  rcases (h.2 v).1 hv with h1 | ⟨h0, h1⟩
  · obtain ⟨a, b⟩ := hg v h1 g hgv
    exact ⟨a.imp id fun h2 => (h.2 _).2 (Or.inl h2), b.imp id fun h2 => (h.2 _).2 (Or.inl h2)⟩
  · constructor
    · by_cases e : var g.2.1 = 0
      · exact Or.inl e
      · exact Or.inr ((h.2 _).2 (Or.inr ⟨e, .left h1 h0 hgv⟩))
    · by_cases e : var g.2.2 = 0
      · exact Or.inl e
      · exact Or.inr ((h.2 _).2 (Or.inr ⟨e, .right h1 h0 hgv⟩))

theorem cinv_start {x : Circ} {l X2 : List Int} (h : Adds x l [] X2) : CInv x l X2 :=
  ⟨h.1, fun v hv => by
    rcases (h.2 v).1 hv with h1 | ⟨h0, h1⟩
    · simp at h1
    · exact ⟨h0, nr_of_rch (fun t ht => .lit ht) h1⟩, fun t ht => by
    by_cases e : var t = 0
    · exact Or.inl e
    · exact Or.inr ((h.2 _).2 (Or.inr ⟨e, .lit ht⟩)), adds_gates h (fun v hv => by simp at hv)⟩
theorem cinv_next {x : Circ} {l X X2 : List Int} (hi : CInv x l X) {t : Tri} (ht : t ∈ x.lats) (hm : var t.1 ∈ X) (h : Adds x [t.2.1] X X2) : CInv x l X2 :=
  ⟨h.1, fun v hv => by
    rcases (h.2 v).1 hv with h1 | ⟨h0, h1⟩
    · exact hi.sound v h1
    · refine ⟨h0, nr_of_rch (fun u hu => ?_) h1⟩
      rw [List.mem_singleton.1 hu]
      exact .next (hi.sound _ hm).2 (hi.sound _ hm).1 ht, fun u hu => (hi.lits u hu).imp id fun h2 => (h.2 _).2 (Or.inl h2), adds_gates h hi.gates⟩
/-- Nothing is new of a latch that is met. -/
def Shut (x : Circ) (X : List Int) (t : Tri) : Prop := var t.1 ∈ X → ∀ v, v ≠ 0 → Rch x.ands [t.2.1] v → v ∈ X
theorem cinv_end {x : Circ} {l X : List Int} (h : CInv x l X) (hs : ∀ t ∈ x.lats, Shut x X t) (v : Int) : v ∈ X ↔ v ≠ 0 ∧ NR x l v := by
  refine ⟨h.sound v, fun hh => ?_⟩
  obtain ⟨h0, hn⟩ := hh
  induction hn with
  | lit ht => exact (h.lits _ ht).resolve_left h0
  | left _ hv hg ih => exact ((h.gates _ (ih hv) _ hg).1).resolve_left h0
  | right _ hv hg ih => exact ((h.gates _ (ih hv) _ hg).2).resolve_left h0
  | next _ hv ht ih => exact hs _ ht (ih hv) _ h0 (.lit (List.mem_singleton.2 rfl))
def uni (x : Circ) (l : List Int) : List Int := l.map var ++ x.ands.map (fun t => var t.2.1) ++ x.ands.map (fun t => var t.2.2) ++ x.lats.map (fun t => var t.2.1)
theorem nr_uni {x : Circ} {l : List Int} {v : Int} (h : NR x l v) : v ∈ uni x l := by
  unfold uni
  simp only [List.mem_append, List.mem_map]
  cases h with
  | lit ht => exact Or.inl (Or.inl (Or.inl ⟨_, ht, rfl⟩))
  | left _ _ hg => exact Or.inl (Or.inl (Or.inr ⟨_, gate_mem hg, rfl⟩))
  | right _ _ hg => exact Or.inl (Or.inr ⟨_, gate_mem hg, rfl⟩)
  | next _ _ ht => exact Or.inr ⟨_, ht, rfl⟩
theorem cinv_few {x : Circ} {l X : List Int} (h : CInv x l X) : X.length ≤ l.length + 2 * x.ands.length + x.lats.length := by
  have := nodup_len h.nodup (C := uni x l) (fun v hv => nr_uni (h.sound v hv).2)
  unfold uni at this
  simp only [List.length_append, List.length_map] at this
  omega

/-! ### The circuit of that alone. -/
noncomputable def cnt (x : Circ) (l : List Int) (m : Int) : Bool := tt (var m ≠ 0 ∧ NR x l (var m))
noncomputable def reduced (x : Circ) (l : List Int) (b : Int) : Circ :=
  { max := x.max, ins := x.ins.filter (cnt x l), lats := x.lats.filter (fun t => cnt x l t.1), outs := [], bads := [b], invs := x.invs, ands := x.ands.filter (fun t => cnt x l t.1), names := [] }

theorem tt_iff {p : Prop} : tt p = true ↔ p := by
  constructor
  · intro h
    exact Classical.byContradiction fun hn => by rw [tt_neg hn] at h; cases h
  · exact tt_pos
theorem cnt_iff {x : Circ} {l : List Int} {m : Int} : cnt x l m = true ↔ var m ≠ 0 ∧ NR x l (var m) := tt_iff
theorem cnt_congr {x : Circ} {l : List Int} {m k : Int} (h : var m = var k) : cnt x l m = cnt x l k := by unfold cnt; rw [h]

theorem gate_red {x : Circ} {l : List Int} {b v : Int} (h0 : v ≠ 0) (hn : NR x l v) : gate (reduced x l b).ands v = gate x.ands v := by
  show gate (x.ands.filter _) v = _
  unfold gate
  rw [List.find?_filter]
  congr 1
  funext t
  by_cases e : var t.1 = v
  · have : cnt x l t.1 = true := cnt_iff.2 (by rw [e]; exact ⟨h0, hn⟩)
    simp [this]
  · simp [e]
theorem nr_red {x : Circ} {l : List Int} {b : Int} {v : Int} : NR (reduced x l b) l v ↔ NR x l v := by
  constructor
  · intro h
    induction h with
    | lit ht => exact .lit ht
    | left _ h0 hg ih => exact .left ih h0 (by rw [← gate_red h0 ih]; exact hg)
    | right _ h0 hg ih => exact .right ih h0 (by rw [← gate_red h0 ih]; exact hg)
    | next _ h0 ht ih => exact .next ih h0 (List.mem_filter.1 ht).1
  · intro h
    induction h with
    | lit ht => exact .lit ht
    | left hv h0 hg ih => exact .left ih h0 (by rw [gate_red h0 hv]; exact hg)
    | right hv h0 hg ih => exact .right ih h0 (by rw [gate_red h0 hv]; exact hg)
    | next hv h0 ht ih => exact .next ih h0 (List.mem_filter.2 ⟨ht, cnt_iff.2 ⟨h0, hv⟩⟩)
theorem cnt_red (x : Circ) (l : List Int) (b m : Int) : cnt (reduced x l b) l m = cnt x l m := by
  rw [Bool.eq_iff_iff, cnt_iff, cnt_iff, nr_red]
theorem red_again (x : Circ) (l : List Int) (b : Int) : reduced (reduced x l b) l b = reduced x l b := by
  have e1 : cnt (reduced x l b) l = cnt x l := funext (cnt_red x l b)
  have h1 : (reduced (reduced x l b) l b).ins = (reduced x l b).ins := by
    show (x.ins.filter (cnt x l)).filter (cnt (reduced x l b) l) = _
    rw [e1, List.filter_filter]
    simp only [Bool.and_self]
    rfl
  have h2 : (reduced (reduced x l b) l b).lats = (reduced x l b).lats := by
    show (x.lats.filter _).filter (fun t => cnt (reduced x l b) l t.1) = _
    rw [e1, List.filter_filter]
    simp only [Bool.and_self]
    rfl
  have h3 : (reduced (reduced x l b) l b).ands = (reduced x l b).ands := by
    show (x.ands.filter _).filter (fun t => cnt (reduced x l b) l t.1) = _
    rw [e1, List.filter_filter]
    simp only [Bool.and_self]
    rfl
  have : reduced (reduced x l b) l b = { reduced x l b with ins := (reduced (reduced x l b) l b).ins, lats := (reduced (reduced x l b) l b).lats, ands := (reduced (reduced x l b) l b).ands } := rfl
  rw [this, h1, h2, h3]

theorem own_red {x : Circ} {l : List Int} {b : Int} : (ownL (reduced x l b)) = (ownL x).filter (cnt x l) := by
  unfold ownL
  rw [List.filter_append, List.filter_append, List.filter_map, List.filter_map]
  rfl
theorem known_red {x : Circ} {l : List Int} {b m : Int} (hk : knownV (vsOf x) m) (hn : NR x l (var m)) : knownV (vsOf (reduced x l b)) m := by
  obtain ⟨h0, h1⟩ := hk
  refine ⟨h0, ?_⟩
  by_cases hv : var m = 0
  · left; unfold var at hv; omega
  · rcases h1 with h1 | h1
    · exact Or.inl h1
    · right
      unfold vsOf at h1 ⊢
      obtain ⟨u, hu, he⟩ := List.mem_map.1 h1
      refine List.mem_map.2 ⟨u, ?_, he⟩
      rw [own_red]
      exact List.mem_filter.2 ⟨hu, cnt_iff.2 (by rw [he]; exact ⟨hv, hn⟩)⟩
theorem red_ok {x : Circ} (h : CheckOk x) {l : List Int} {b : Int} (hb : b ∈ x.bads) (hbl : b ∈ l) (hi : ∀ m ∈ x.invs, m ∈ l) : CheckOk (reduced x l b) := by
  have hord := StrashP.ord_of h
  obtain ⟨⟨f0, f1, f2, f3, f4, f5, f6⟩, ⟨hd, hr, hs⟩, hl, ha, ho, hbk, hv, hn⟩ := h
  obtain ⟨d1, d2⟩ := StrashP.ownOk_iff.1 hd
  have hg : ∀ t ∈ x.ands, gate x.ands (var t.1) = some t := fun t ht => StrashP.gate_ord hord ht
  have fl : ∀ {α : Type} (p : α → Bool) (l : List α), (l.filter p).length ≤ l.length := fun p l => List.length_filter_le p l
  refine ⟨⟨f0, f1, Nat.le_trans (fl _ _) f2, Nat.le_trans (fl _ _) f3, by show ([] : List Int).length ≤ 64; simp, by show [b].length ≤ 64; simp, f6⟩, ⟨?_, ?_, ?_⟩, ?_, ?_, ?_, ?_, ?_, ?_⟩
  · rw [own_red]
    refine StrashP.ownOk_iff.2 ⟨fun m hm => d1 m (List.mem_filter.1 hm).1, ?_⟩
    exact List.Sublist.nodup (List.Sublist.map var (List.filter_sublist (l := ownL x))) d2
  · exact fun t ht => hr t (List.mem_filter.1 ht).1
  · intro j hj
    have hp : ((x.ands.filter fun t => cnt x l t.1)).Pairwise fun a b => a.1 < b.1 := List.Pairwise.sublist (List.filter_sublist (l := x.ands)) hord.rise
    exact (List.pairwise_iff_getElem.1 hp) j (j + 1) (Nat.lt_of_succ_lt hj) hj (Nat.lt_succ_self j)
  · intro t ht
    obtain ⟨h1, h2⟩ := List.mem_filter.1 ht
    exact known_red (hl t h1) (.next (cnt_iff.1 h2).2 (cnt_iff.1 h2).1 h1)
  · intro t ht
    obtain ⟨h1, h2⟩ := List.mem_filter.1 ht
    obtain ⟨g1, g2, g3, g4⟩ := ha t h1
    exact ⟨known_red g1 (.left (cnt_iff.1 h2).2 (cnt_iff.1 h2).1 (hg t h1)), known_red g2 (.right (cnt_iff.1 h2).2 (cnt_iff.1 h2).1 (hg t h1)), g3, g4⟩
  · intro m hm; cases hm
  · intro m hm
    rw [List.mem_singleton.1 hm]
    exact known_red (hbk b hb) (.lit hbl)
  · exact fun m hm => known_red (hv m hm) (.lit (hi m hm))
  · intro j hj
    exact absurd hj (by show ¬ j < ([] : List (ByteArray × Int × ByteArray)).length; simp)
end Coi
end Go.Proofs.YtninglnchengeaaGreat

/-
  Plain: what a circuit does step by step, and in how many steps a Bad is reached; a reduced circuit reaches its Bad in as many.
-/
namespace Go.Proofs.YtninglnchengeaaGreat
open Go.RowKit Base
set_option linter.unusedVariables false
set_option linter.unusedSimpArgs false
namespace BadP
open Circuit Coi StrashP

def setB (L : List Bool) (u : Int) (b : Bool) : List Bool := L.set u.toNat b
def valV (L : List Bool) (u : Int) : Bool := L.getD u.toNat false
def litV (L : List Bool) (l : Int) : Bool := valV L (var l) != neg l
def putAll (ps : List (Int × Bool)) (L : List Bool) : List Bool := ps.foldl (fun L p => setB L (var p.1) p.2) L
def stepA (L : List Bool) (t : Tri) : List Bool := if litV L t.2.1 && litV L t.2.2 then setB L (var t.1) true else L
def zero (x : Circ) : List Bool := List.replicate (x.max + 1).toNat false
def base (x : Circ) (s i : List Bool) : List Bool := putAll ((x.lats.zip s).map fun p => (p.1.1, p.2)) (putAll (x.ins.zip i) (zero x))
def vals (x : Circ) (s i : List Bool) : List Bool := x.ands.foldl stepA (base x s i)
def next (x : Circ) (s i : List Bool) : List Bool := x.lats.map fun t => litV (vals x s i) t.2.1
def okB (t : Tri) (b : Bool) : Bool := !((t.2.2 != t.1) && ((t.2.2 == 1) != b))
def initL (x : Circ) (s : List Bool) : Prop := s.length = x.lats.length ∧ ∀ p ∈ x.lats.zip s, okB p.1 p.2 = true
def allow (x : Circ) (A : List (List Int)) (V : List Bool) : Bool := x.invs.all (litV V) && A.all fun c => c.any (litV V)
/-- Reached in so many steps. -/
def R (x : Circ) (A : List (List Int)) : Nat → List Bool → Prop
  | 0, s => initL x s
  | n + 1, s => ∃ s0 i, R x A n s0 ∧ i.length = x.ins.length ∧ allow x A (vals x s0 i) = true ∧ s = next x s0 i
/-- A Bad at the state that is reached in so many steps. -/
def Hit (x : Circ) (A : List (List Int)) (b : Int) (n : Nat) : Prop := ∃ s i, R x A n s ∧ i.length = x.ins.length ∧ allow x A (vals x s i) = true ∧ litV (vals x s i) b = true

theorem setB_len (L : List Bool) (u : Int) (b : Bool) : (setB L u b).length = L.length := by unfold setB; simp
theorem stepA_len (L : List Bool) (t : Tri) : (stepA L t).length = L.length := by unfold stepA; split <;> simp [setB_len]
theorem putAll_len : ∀ (ps : List (Int × Bool)) (L : List Bool), (putAll ps L).length = L.length
  | [], L => rfl
  | p :: r, L => (putAll_len r _).trans (setB_len _ _ _)
theorem fold_len : ∀ (A : List Tri) (L : List Bool), (A.foldl stepA L).length = L.length
  | [], L => rfl
  | t :: r, L => (fold_len r _).trans (stepA_len _ _)
theorem base_len (x : Circ) (s i : List Bool) : (base x s i).length = (x.max + 1).toNat := by unfold base; rw [putAll_len, putAll_len]; simp [zero]
theorem vals_len (x : Circ) (s i : List Bool) : (vals x s i).length = (x.max + 1).toNat := by unfold vals; rw [fold_len, base_len]
theorem valV_set (L : List Bool) {u v : Int} (b : Bool) (h1 : 0 ≤ u) (h2 : u.toNat < L.length) (hv : 0 ≤ v) : valV (setB L u b) v = if v = u then b else valV L v := by
  unfold valV setB
  by_cases e : v = u
  · subst e
    simp [List.getD_eq_getElem?_getD, List.getElem?_set, h2]
  · rw [if_neg e, List.getD_eq_getElem?_getD, List.getD_eq_getElem?_getD, List.getElem?_set, if_neg (by omega)]
theorem var_nn (l : Int) : 0 ≤ var l := by unfold var; omega

/-- Two lists agree at all that counts. -/
def Ag (P : Int → Prop) (L L' : List Bool) : Prop := L.length = L'.length ∧ ∀ v, 0 ≤ v → P v → valV L v = valV L' v
theorem ag_set {P : Int → Prop} {L L' : List Bool} (h : Ag P L L') {u : Int} (h1 : 0 ≤ u) (h2 : u.toNat < L.length) (b : Bool) : Ag P (setB L u b) (setB L' u b) :=
  ⟨by rw [setB_len, setB_len]; exact h.1, fun v hv hp => by rw [valV_set L b h1 h2 hv, valV_set L' b h1 (h.1 ▸ h2) hv, h.2 v hv hp]⟩
theorem ag_skip {P : Int → Prop} {L L' : List Bool} (h : Ag P L L') {u : Int} (h1 : 0 ≤ u) (h2 : u.toNat < L.length) (hn : ¬ P u) (b : Bool) : Ag P (setB L u b) L' :=
  ⟨by rw [setB_len]; exact h.1, fun v hv hp => by rw [valV_set L b h1 h2 hv, if_neg (fun e : v = u => hn (e ▸ hp)), h.2 v hv hp]⟩
theorem ag_put {P : Int → Prop} (c : Int × Bool → Bool) : ∀ (ps : List (Int × Bool)) (L L' : List Bool), Ag P L L' → (∀ p ∈ ps, (var p.1).toNat < L.length) → (∀ p ∈ ps, c p = false → ¬ P (var p.1)) → Ag P (putAll ps L) (putAll (ps.filter c) L')
  | [], L, L', h, _, _ => h
  | p :: r, L, L', h, h1, h2 => by
    have hp := h1 p List.mem_cons_self
    have k1 : ∀ q ∈ r, (var q.1).toNat < (setB L (var p.1) p.2).length := fun q hq => by rw [setB_len]; exact h1 q (List.mem_cons_of_mem _ hq)
    have k2 : ∀ q ∈ r, c q = false → ¬ P (var q.1) := fun q hq => h2 q (List.mem_cons_of_mem _ hq)
    cases hc : c p with
    | true =>
      rw [List.filter_cons_of_pos hc]
      exact ag_put c r _ _ (ag_set h (var_nn _) hp _) k1 k2
    | false =>
      rw [List.filter_cons_of_neg (by rw [hc]; decide)]
      exact ag_put c r _ _ (ag_skip h (var_nn _) hp (h2 p List.mem_cons_self hc) _) k1 k2
theorem ag_lit {P : Int → Prop} {L L' : List Bool} (h : Ag P L L') {l : Int} (hl : P (var l)) : litV L l = litV L' l := by unfold litV; rw [h.2 _ (var_nn l) hl]
theorem ag_ands {P : Int → Prop} (c : Tri → Bool) : ∀ (A : List Tri) (L L' : List Bool), Ag P L L' → (∀ t ∈ A, (var t.1).toNat < L.length) → (∀ t ∈ A, c t = false → ¬ P (var t.1)) → (∀ t ∈ A, c t = true → P (var t.2.1) ∧ P (var t.2.2)) →
    Ag P (A.foldl stepA L) ((A.filter c).foldl stepA L')
  | [], L, L', h, _, _, _ => h
  | t :: r, L, L', h, h1, h2, h3 => by
    have hp := h1 t List.mem_cons_self
    have k1 : ∀ q ∈ r, (var q.1).toNat < (stepA L t).length := fun q hq => by rw [stepA_len]; exact h1 q (List.mem_cons_of_mem _ hq)
    have k2 : ∀ q ∈ r, c q = false → ¬ P (var q.1) := fun q hq => h2 q (List.mem_cons_of_mem _ hq)
    have k3 : ∀ q ∈ r, c q = true → P (var q.2.1) ∧ P (var q.2.2) := fun q hq => h3 q (List.mem_cons_of_mem _ hq)
    cases hc : c t with
    | true =>
      rw [List.filter_cons_of_pos hc]
      obtain ⟨g1, g2⟩ := h3 t List.mem_cons_self hc
      refine ag_ands c r _ _ ?_ k1 k2 k3
      unfold stepA
      rw [← ag_lit h g1, ← ag_lit h g2]
      split
      · exact ag_set h (var_nn _) hp _
      · exact h
    | false =>
      rw [List.filter_cons_of_neg (by rw [hc]; decide)]
      refine ag_ands c r _ _ ?_ k1 k2 k3
      unfold stepA
      split
      · exact ag_skip h (var_nn _) hp (h2 t List.mem_cons_self hc) _
      · exact h

/-- What is said of those that count. -/
def proj {α : Type} (c : α → Bool) (T : List α) (s : List Bool) : List Bool := ((T.zip s).filter fun p => c p.1).map (·.2)
theorem zip_proj {α : Type} (c : α → Bool) : ∀ (T : List α) (s : List Bool), T.length = s.length → (T.filter c).zip (proj c T s) = (T.zip s).filter (fun p => c p.1)
  | [], _, _ => by simp [proj]
  | t :: r, [], h => by simp at h
  | t :: r, b :: s, h => by
    have ih := zip_proj c r s (by simpa using h)
    unfold proj at ih ⊢
    cases hc : c t <;> simp [hc, ih]
theorem proj_len {α : Type} (c : α → Bool) : ∀ (T : List α) (s : List Bool), T.length = s.length → (proj c T s).length = (T.filter c).length
  | [], _, _ => by simp [proj]
  | t :: r, [], h => by simp at h
  | t :: r, b :: s, h => by
    have ih := proj_len c r s (by simpa using h)
    unfold proj at ih ⊢
    cases hc : c t <;> simp [hc] at ih ⊢ <;> exact ih
theorem proj_map {α : Type} (c : α → Bool) (f : α → Bool) : ∀ (T : List α), proj c T (T.map f) = (T.filter c).map f
  | [] => by simp [proj]
  | t :: r => by
    have ih := proj_map c f r
    unfold proj at ih ⊢
    cases hc : c t <;> simp [hc] at ih ⊢ <;> exact ih
def lift {α : Type} (c d : α → Bool) : List α → List Bool → List Bool
  | [], _ => []
  | t :: r, s => if c t then (s.headD false) :: lift c d r s.tail else d t :: lift c d r s
theorem lift_len {α : Type} (c d : α → Bool) : ∀ (T : List α) (s : List Bool), (lift c d T s).length = T.length
  | [], _ => rfl
  | t :: r, s => by
    unfold lift
    cases hc : c t <;> simp [lift_len c d r]
theorem proj_lift {α : Type} (c d : α → Bool) : ∀ (T : List α) (s : List Bool), s.length = (T.filter c).length → proj c T (lift c d T s) = s
  | [], s, h => by
    have : s = [] := List.eq_nil_of_length_eq_zero (by simpa using h)
    rw [this]; simp [proj]
  | t :: r, s, h => by
    unfold lift
    cases hc : c t with
    | true =>
      rw [List.filter_cons_of_pos hc] at h
      cases s with
      | nil => simp at h
      | cons b s =>
        have ih := proj_lift c d r s (by simpa using h)
        unfold proj at ih ⊢
        simp [hc, ih]
    | false =>
      rw [List.filter_cons_of_neg (by rw [hc]; decide)] at h
      have ih := proj_lift c d r s h
      unfold proj at ih ⊢
      simp [hc, ih]
theorem lift_zip {α : Type} (c d : α → Bool) : ∀ (T : List α) (s : List Bool), s.length = (T.filter c).length → ∀ p ∈ T.zip (lift c d T s), p ∈ (T.filter c).zip s ∨ p.2 = d p.1
  | [], s, h, p, hp => by simp at hp
  | t :: r, s, h, p, hp => by
    unfold lift at hp
    cases hc : c t with
    | true =>
      rw [List.filter_cons_of_pos hc] at h ⊢
      cases s with
      | nil => simp at h
      | cons b s =>
        simp only [hc, if_true, List.headD_cons, List.tail_cons, List.zip_cons_cons, List.mem_cons] at hp ⊢
        rcases hp with hp | hp
        · exact Or.inl (Or.inl hp)
        · rcases lift_zip c d r s (by simpa using h) p hp with h1 | h1
          · exact Or.inl (Or.inr h1)
          · exact Or.inr h1
    | false =>
      rw [List.filter_cons_of_neg (by rw [hc]; decide)] at h ⊢
      simp only [hc, Bool.false_eq_true, if_false, List.zip_cons_cons, List.mem_cons] at hp
      rcases hp with rfl | hp
      · exact Or.inr rfl
      · exact lift_zip c d r s h p hp

section
variable {x : Circ} {l : List Int} {bl : Int} {A : List (List Int)}

theorem own_at (h : CheckOk x) : ∀ m ∈ ownL x, var m ≠ 0 ∧ (var m).toNat < (x.max + 1).toNat := fun m hm => by
  obtain ⟨h1, h2, h3⟩ := (ownOk_iff.1 h.2.1.1).1 m hm
  have h0 := h.1.1
  unfold var at h3 ⊢
  omega
theorem ins_own {m : Int} (h : m ∈ x.ins) : m ∈ ownL x := by unfold ownL; exact List.mem_append_left _ (List.mem_append_left _ h)
theorem lat_own {t : Tri} (h : t ∈ x.lats) : t.1 ∈ ownL x := by unfold ownL; exact List.mem_append_left _ (List.mem_append_right _ (List.mem_map.2 ⟨t, h, rfl⟩))
theorem and_own {t : Tri} (h : t ∈ x.ands) : t.1 ∈ ownL x := by unfold ownL; exact List.mem_append_right _ (List.mem_map.2 ⟨t, h, rfl⟩)
theorem cnt_no (h : CheckOk x) {m : Int} (hm : m ∈ ownL x) (hc : cnt x l m = false) : ¬ NR x l (var m) := fun hn => by
  rw [cnt_iff.2 ⟨(own_at h m hm).1, hn⟩] at hc
  cases hc

noncomputable abbrev cL (x : Circ) (l : List Int) (t : Tri) : Bool := cnt x l t.1
/-- The values of a reduced circuit. -/
theorem vals_ag (h : CheckOk x) {s i : List Bool} (hs : s.length = x.lats.length) (hi : i.length = x.ins.length) :
    Ag (NR x l) (vals x s i) (vals (reduced x l bl) (proj (cL x l) x.lats s) (proj (cnt x l) x.ins i)) := by
  have e1 : (reduced x l bl).ins.zip (proj (cnt x l) x.ins i) = (x.ins.zip i).filter (fun p => cnt x l p.1) := zip_proj (cnt x l) x.ins i hi.symm
  have e2 : (reduced x l bl).lats.zip (proj (cL x l) x.lats s) = (x.lats.zip s).filter (fun p => cL x l p.1) := zip_proj (cL x l) x.lats s hs.symm
  have e3 : ((x.lats.zip s).filter (fun p => cL x l p.1)).map (fun p => (p.1.1, p.2)) = ((x.lats.zip s).map fun p => (p.1.1, p.2)).filter (fun p => cnt x l p.1) := by
    rw [List.filter_map]; rfl
  have hz : zero (reduced x l bl) = zero x := rfl
  unfold vals base
  rw [e1, e2, e3, hz]
  have i1 : ∀ p ∈ x.ins.zip i, p.1 ∈ ownL x := fun p hp => ins_own (List.of_mem_zip (a := p.1) (b := p.2) hp).1
  have i2 : ∀ p ∈ (x.lats.zip s).map (fun p => (p.1.1, p.2)), p.1 ∈ ownL x := fun p hp => by
    obtain ⟨q, hq, rfl⟩ := List.mem_map.1 hp
    exact lat_own (List.of_mem_zip (a := q.1) (b := q.2) hq).1
  have z : Ag (NR x l) (zero x) (zero x) := ⟨rfl, fun _ _ _ => rfl⟩
  have zl : (zero x).length = (x.max + 1).toNat := by simp [zero]
  have a1 := ag_put (fun p => cnt x l p.1) (x.ins.zip i) _ _ z (fun p hp => by rw [zl]; exact (own_at h _ (i1 p hp)).2) (fun p hp hc => cnt_no h (i1 p hp) hc)
  have a2 := ag_put (fun p => cnt x l p.1) _ _ _ a1 (fun p hp => by rw [putAll_len, zl]; exact (own_at h _ (i2 p hp)).2) (fun p hp hc => cnt_no h (i2 p hp) hc)
  refine ag_ands (fun t => cnt x l t.1) x.ands _ _ a2 (fun t ht => ?_) (fun t ht hc => cnt_no h (and_own ht) hc) (fun t ht hc => ?_)
  · rw [putAll_len, putAll_len, zl]; exact (own_at h _ (and_own ht)).2
  · obtain ⟨c0, c1⟩ := cnt_iff.1 hc
    have hg := gate_ord (ord_of h) ht
    exact ⟨.left c1 c0 hg, .right c1 c0 hg⟩

theorem allow_red (h : CheckOk x) (hA : ∀ m ∈ A.flatten, m ∈ l) (hv : ∀ m ∈ x.invs, m ∈ l) {s i : List Bool} (hs : s.length = x.lats.length) (hi : i.length = x.ins.length) :
    allow (reduced x l bl) A (vals (reduced x l bl) (proj (cL x l) x.lats s) (proj (cnt x l) x.ins i)) = allow x A (vals x s i) := by
  have ag := vals_ag (l := l) (bl := bl) h hs hi
  have hl : ∀ m ∈ l, litV (vals x s i) m = litV (vals (reduced x l bl) (proj (cL x l) x.lats s) (proj (cnt x l) x.ins i)) m := fun m hm => ag_lit ag (.lit hm)
  unfold allow
  generalize vals (reduced x l bl) (proj (cL x l) x.lats s) (proj (cnt x l) x.ins i) = V' at *
  generalize vals x s i = V at *
  have e1 : x.invs.all (litV V') = x.invs.all (litV V) := by
    rw [Bool.eq_iff_iff, List.all_eq_true, List.all_eq_true]
    exact ⟨fun g m hm => (hl m (hv m hm)).trans (g m hm), fun g m hm => (hl m (hv m hm)).symm.trans (g m hm)⟩
  have e2 : (A.all fun c => c.any (litV V')) = A.all fun c => c.any (litV V) := by
    have k : ∀ c ∈ A, c.any (litV V') = c.any (litV V) := fun c hc => by
      rw [Bool.eq_iff_iff, List.any_eq_true, List.any_eq_true]
      have hm : ∀ m ∈ c, m ∈ l := fun m hm => hA m (List.mem_flatten.2 ⟨c, hc, hm⟩)
      exact ⟨fun ⟨m, g1, g2⟩ => ⟨m, g1, (hl m (hm m g1)).trans g2⟩, fun ⟨m, g1, g2⟩ => ⟨m, g1, (hl m (hm m g1)).symm.trans g2⟩⟩
    rw [Bool.eq_iff_iff, List.all_eq_true, List.all_eq_true]
    exact ⟨fun g c hc => (k c hc).symm.trans (g c hc), fun g c hc => (k c hc).trans (g c hc)⟩
  show ((reduced x l bl).invs.all (litV V') && _) = _
  rw [e2]
  exact congrArg (· && _) e1
theorem next_red (h : CheckOk x) {s i : List Bool} (hs : s.length = x.lats.length) (hi : i.length = x.ins.length) :
    next (reduced x l bl) (proj (cL x l) x.lats s) (proj (cnt x l) x.ins i) = proj (cL x l) x.lats (next x s i) := by
  have ag := vals_ag (l := l) (bl := bl) h hs hi
  unfold next
  rw [proj_map]
  refine List.map_congr_left fun t ht => ?_
  obtain ⟨h1, h2⟩ := List.mem_filter.1 ht
  obtain ⟨c0, c1⟩ := cnt_iff.1 h2
  exact (ag_lit ag (.next c1 c0 h1)).symm
theorem next_len (x : Circ) (s i : List Bool) : (next x s i).length = x.lats.length := by simp [next]
theorem R_len : ∀ {n : Nat} {s : List Bool}, R x A n s → s.length = x.lats.length
  | 0, _, h => h.1
  | n + 1, _, ⟨_, _, _, _, _, rfl⟩ => next_len _ _ _
theorem R_proj (h : CheckOk x) (hA : ∀ m ∈ A.flatten, m ∈ l) (hv : ∀ m ∈ x.invs, m ∈ l) : ∀ {n : Nat} {s : List Bool}, R x A n s → R (reduced x l bl) A n (proj (cL x l) x.lats s)
  | 0, s, hr => ⟨proj_len _ _ _ hr.1.symm, fun p hp => by
      have e : (reduced x l bl).lats.zip (proj (cL x l) x.lats s) = (x.lats.zip s).filter (fun p => cL x l p.1) := zip_proj (cL x l) x.lats s hr.1.symm
      rw [e] at hp
      exact hr.2 p (List.mem_filter.1 hp).1⟩
  | n + 1, s, ⟨s0, i, h0, hi, ha, he⟩ => by
    have hs := R_len h0
    refine ⟨_, proj (cnt x l) x.ins i, R_proj h hA hv h0, proj_len _ _ _ hi.symm, ?_, ?_⟩
    · rw [allow_red h hA hv hs hi]; exact ha
    · rw [he, next_red h hs hi]
theorem okB_d (t : Tri) : okB t (t.2.2 == 1) = true := by unfold okB; simp
theorem R_lift (h : CheckOk x) (hA : ∀ m ∈ A.flatten, m ∈ l) (hv : ∀ m ∈ x.invs, m ∈ l) : ∀ {n : Nat} {s' : List Bool}, R (reduced x l bl) A n s' → ∃ s, R x A n s ∧ proj (cL x l) x.lats s = s'
  | 0, s', hr => by
    have hl : s'.length = (x.lats.filter (cL x l)).length := hr.1
    refine ⟨lift (cL x l) (fun t => t.2.2 == 1) x.lats s', ⟨lift_len _ _ _ _, fun p hp => ?_⟩, proj_lift _ _ _ _ hl⟩
    rcases lift_zip _ _ _ _ hl p hp with h1 | h1
    · exact hr.2 p h1
    · rw [h1]; exact okB_d _
  | n + 1, s', ⟨s0', i', h0, hi, ha, he⟩ => by
    obtain ⟨s0, hr, hp⟩ := R_lift h hA hv h0
    have hs := R_len hr
    have hl : i'.length = (x.ins.filter (cnt x l)).length := hi
    have hq := proj_lift (cnt x l) (fun _ => false) x.ins i' hl
    have hi2 := lift_len (cnt x l) (fun _ => false) x.ins i'
    refine ⟨next x s0 (lift (cnt x l) (fun _ => false) x.ins i'), ⟨s0, _, hr, hi2, ?_, rfl⟩, ?_⟩
    · rw [← allow_red (bl := bl) h hA hv hs hi2, hp, hq]; exact ha
    · rw [← next_red (bl := bl) h hs hi2, hp, hq]; exact he.symm
theorem hit_red (h : CheckOk x) (hA : ∀ m ∈ A.flatten, m ∈ l) (hv : ∀ m ∈ x.invs, m ∈ l) (hb : bl ∈ l) (n : Nat) : Hit x A bl n ↔ Hit (reduced x l bl) A bl n := by
  constructor
  · rintro ⟨s, i, hr, hi, ha, hh⟩
    have hs := R_len hr
    refine ⟨_, proj (cnt x l) x.ins i, R_proj h hA hv hr, proj_len _ _ _ hi.symm, ?_, ?_⟩
    · rw [allow_red h hA hv hs hi]; exact ha
    · rw [← ag_lit (vals_ag (l := l) (bl := bl) h hs hi) (.lit hb)]; exact hh
  · rintro ⟨s', i', hr', hi, ha, hh⟩
    obtain ⟨s, hr, hp⟩ := R_lift h hA hv hr'
    have hs := R_len hr
    have hl : i'.length = (x.ins.filter (cnt x l)).length := hi
    have hq := proj_lift (cnt x l) (fun _ => false) x.ins i' hl
    have hi2 := lift_len (cnt x l) (fun _ => false) x.ins i'
    refine ⟨s, _, hr, hi2, ?_, ?_⟩
    · rw [← allow_red (bl := bl) h hA hv hs hi2, hp, hq]; exact ha
    · rw [ag_lit (vals_ag (l := l) (bl := bl) h hs hi2) (.lit hb), hp, hq]; exact hh
end
end BadP
end Go.Proofs.YtninglnchengeaaGreat

/-
  Plain: all states, numbered; what a search level by level knows; the least number of steps to a Bad.
-/
namespace Go.Proofs.YtninglnchengeaaGreat
open Go.RowKit Base
set_option linter.unusedVariables false
set_option linter.unusedSimpArgs false
namespace BadP
open Circuit

def twoL (l : List Bool) : List (List Bool) := [l ++ [false], l ++ [true]]
def allL : Nat → List (List Bool)
  | 0 => [[]]
  | n + 1 => (allL n).flatMap twoL
def bitN (b : Bool) : Nat := if b then 1 else 0
def idx (l : List Bool) : Nat := l.foldl (fun n b => 2 * n + bitN b) 0
theorem idx_snoc (l : List Bool) (b : Bool) : idx (l ++ [b]) = 2 * idx l + bitN b := by unfold idx; rw [List.foldl_append]; rfl
theorem flat_len : ∀ L : List (List Bool), (L.flatMap twoL).length = 2 * L.length
  | [] => rfl
  | l :: r => by rw [List.flatMap_cons, List.length_append, flat_len r]; simp [twoL]; omega
theorem allL_len : ∀ n, (allL n).length = 2 ^ n
  | 0 => rfl
  | n + 1 => by rw [allL, flat_len, allL_len n, Nat.pow_succ]; omega
theorem flat_at : ∀ (L : List (List Bool)) (j : Nat) (b : Bool), (L.flatMap twoL)[2 * j + bitN b]? = (L[j]?).map (· ++ [b])
  | [], j, b => by simp
  | l :: r, 0, b => by cases b <;> simp [twoL, bitN]
  | l :: r, j + 1, b => by
    have e : 2 * (j + 1) + bitN b = (2 * j + bitN b) + 2 := by omega
    rw [List.flatMap_cons, e]
    show ((l ++ [false]) :: (l ++ [true]) :: r.flatMap twoL)[(2 * j + bitN b) + 2]? = _
    rw [List.getElem?_cons_succ, List.getElem?_cons_succ, flat_at r j b, List.getElem?_cons_succ]
theorem at_idx : ∀ (n : Nat) (s : List Bool), s.length = n → (allL n)[idx s]? = some s
  | 0, s, h => by rw [List.eq_nil_of_length_eq_zero h]; rfl
  | n + 1, s, h => by
    have hne : s ≠ [] := fun e => by rw [e] at h; simp at h
    have hs := List.dropLast_concat_getLast hne
    rw [← hs, idx_snoc, allL, flat_at, at_idx n _ (by rw [List.length_dropLast]; omega)]
    rfl
theorem at_len : ∀ (n j : Nat) (s : List Bool), (allL n)[j]? = some s → s.length = n
  | 0, j, s, h => by
    cases j with
    | zero => simp [allL] at h; rw [h]; rfl
    | succ j => simp [allL] at h
  | n + 1, j, s, h => by
    have e : j = 2 * (j / 2) + bitN (decide (j % 2 = 1)) := by unfold bitN; by_cases hq : j % 2 = 1 <;> simp [hq] <;> omega
    rw [allL, e, flat_at] at h
    cases hq : (allL n)[j / 2]? with
    | none => rw [hq] at h; cases h
    | some t =>
      rw [hq] at h
      simp at h
      rw [← h, List.length_append, at_len n _ t hq]; rfl
theorem idx_lt {n : Nat} {s : List Bool} (h : s.length = n) : idx s < 2 ^ n := by
  have := (List.getElem?_eq_some_iff.1 (at_idx n s h)).1
  rwa [allL_len] at this
theorem idx_at {n j : Nat} {s : List Bool} (h : (allL n)[j]? = some s) : idx s = j := by
  have hn := at_len n j s h
  induction n generalizing j s with
  | zero =>
    cases j with
    | zero => simp [allL] at h; rw [h]; rfl
    | succ j => simp [allL] at h
  | succ n ih =>
    have e : j = 2 * (j / 2) + bitN (decide (j % 2 = 1)) := by unfold bitN; by_cases hq : j % 2 = 1 <;> simp [hq] <;> omega
    rw [allL, e, flat_at] at h
    cases hq : (allL n)[j / 2]? with
    | none => rw [hq] at h; cases h
    | some t =>
      rw [hq] at h
      simp only [Option.map_some, Option.some.injEq] at h
      rw [← h, idx_snoc, ih hq (at_len n _ t hq), ← e]

section
variable {x : Circ} {A : List (List Int)}

/-- What can be reached can be reached in fewer steps than there are states. -/
theorem R_least {m : Nat} {s : List Bool} (h : R x A m s) : ∃ k, k ≤ m ∧ R x A k s ∧ ∀ k', k' < k → ¬ R x A k' s := by
  induction m using Nat.strongRecOn with
  | _ m ih =>
    by_cases hq : ∃ k', k' < m ∧ R x A k' s
    · obtain ⟨k', h1, h2⟩ := hq
      obtain ⟨k, g1, g2, g3⟩ := ih k' h1 h2
      exact ⟨k, by omega, g2, g3⟩
    · exact ⟨m, Nat.le_refl _, h, fun k' h1 h2 => hq ⟨k', h1, h2⟩⟩
theorem R_down {k : Nat} (h : ∃ t, R x A (k + 1) t ∧ ∀ k', k' < k + 1 → ¬ R x A k' t) : ∃ t, R x A k t ∧ ∀ k', k' < k → ¬ R x A k' t := by
  obtain ⟨t, ⟨t0, i, h0, hi, ha, he⟩, hm⟩ := h
  exact ⟨t0, h0, fun k' hk hr => hm (k' + 1) (by omega) ⟨t0, i, hr, hi, ha, he⟩⟩
theorem R_all {k : Nat} : ∀ d, (∃ t, R x A (k + d) t ∧ ∀ k', k' < k + d → ¬ R x A k' t) → ∃ t, R x A k t ∧ ∀ k', k' < k → ¬ R x A k' t
  | 0, h => h
  | d + 1, h => R_all d (R_down h)
theorem R_short {m : Nat} {s : List Bool} (h : R x A m s) : ∃ k, k ≤ m ∧ k < 2 ^ x.lats.length ∧ R x A k s := by
  obtain ⟨k, hk, hr, hm⟩ := R_least h
  refine ⟨k, hk, ?_, hr⟩
  have hq : ∀ j : Nat, ∃ t : List Bool, j ≤ k → R x A j t ∧ ∀ k', k' < j → ¬ R x A k' t := fun j => by
    by_cases hj : j ≤ k
    · obtain ⟨t, ht⟩ := R_all (x := x) (A := A) (k := j) (k - j) ⟨s, by have e : j + (k - j) = k := by omega
                                                                        rw [e]; exact ⟨hr, hm⟩⟩
      exact ⟨t, fun _ => ht⟩
    · exact ⟨[], fun h => absurd h hj⟩
  have hnd : ((List.range (k + 1)).map fun j => (idx (Classical.choose (hq j)) : Int)).Nodup := by
    have hinj : ∀ a ∈ List.range (k + 1), ∀ b ∈ List.range (k + 1), (idx (Classical.choose (hq a)) : Int) = (idx (Classical.choose (hq b)) : Int) → a = b := fun a ha b hb e => by
      rw [List.mem_range] at ha hb
      obtain ⟨a1, a2⟩ := Classical.choose_spec (hq a) (by omega)
      obtain ⟨b1, b2⟩ := Classical.choose_spec (hq b) (by omega)
      have e' : idx (Classical.choose (hq a)) = idx (Classical.choose (hq b)) := by omega
      have e2 : Classical.choose (hq a) = Classical.choose (hq b) := by
        have h1 := at_idx _ _ (R_len a1)
        have h2 := at_idx _ _ (R_len b1)
        rw [e'] at h1
        exact Option.some.inj (h1.symm.trans h2)
      rcases Nat.lt_trichotomy a b with h | h | h
      · exact absurd (e2 ▸ a1) (b2 a h)
      · exact h
      · exact absurd (e2 ▸ b1) (a2 b h)
    have hr : (List.range (k + 1)).Nodup := List.nodup_range
    generalize List.range (k + 1) = L at hinj hr
    clear hm hk
    induction L with
    | nil => exact List.nodup_nil
    | cons y r ih =>
      rw [List.nodup_cons] at hr
      rw [List.map_cons, List.nodup_cons]
      refine ⟨fun hmem => ?_, ih (fun a ha b hb => hinj a (List.mem_cons_of_mem _ ha) b (List.mem_cons_of_mem _ hb)) hr.2⟩
      obtain ⟨z, hz, he⟩ := List.mem_map.1 hmem
      have := hinj z (List.mem_cons_of_mem _ hz) y List.mem_cons_self he
      exact hr.1 (this ▸ hz)
  have := nodup_len hnd (C := (List.range (2 ^ x.lats.length)).map fun (j : Nat) => (j : Int)) (fun v hv => by
    obtain ⟨j, hj, rfl⟩ := List.mem_map.1 hv
    rw [List.mem_range] at hj
    obtain ⟨a1, _⟩ := Classical.choose_spec (hq j) (by omega)
    exact List.mem_map.2 ⟨_, List.mem_range.2 (idx_lt (R_len a1)), rfl⟩)
  simp at this
  omega

/-- A level is done. -/
structure Lv (x : Circ) (A : List (List Int)) (n : Nat) (out : List Int) : Prop where
  len : out.length = 2 ^ x.lats.length
  hi : ∀ (j : Nat) (v : Int), out[j]? = some v → v ≤ n
  sound : ∀ (j : Nat) (v : Int), out[j]? = some v → 0 ≤ v → ∃ s, (allL x.lats.length)[j]? = some s ∧ R x A v.toNat s
  comp : ∀ (m : Nat) (s : List Bool), m ≤ n → R x A m s → ∃ v, out[idx s]? = some v ∧ 0 ≤ v ∧ v ≤ m
/-- In the middle of a level. -/
structure Mid (x : Circ) (A : List (List Int)) (n i k : Nat) (out : List Int) : Prop where
  len : out.length = 2 ^ x.lats.length
  hi : ∀ (j : Nat) (v : Int), out[j]? = some v → v ≤ n + 1
  sound : ∀ (j : Nat) (v : Int), out[j]? = some v → 0 ≤ v → ∃ s, (allL x.lats.length)[j]? = some s ∧ R x A v.toNat s
  comp : ∀ (m : Nat) (s : List Bool), m ≤ n → R x A m s → ∃ v, out[idx s]? = some v ∧ 0 ≤ v ∧ v ≤ m
  mid : ∀ (i' k' : Nat), (i' < i ∨ (i' = i ∧ k' < k)) → ∀ s inp, (allL x.lats.length)[i']? = some s → (allL x.ins.length)[k']? = some inp → out[i']? = some (n : Int) → allow x A (vals x s inp) = true →
    ∃ v, out[idx (next x s inp)]? = some v ∧ 0 ≤ v ∧ v ≤ n + 1
theorem mid_start {n : Nat} {out : List Int} (h : Lv x A n out) : Mid x A n 0 0 out :=
  ⟨h.len, fun j v hv => by have := h.hi j v hv; omega, h.sound, h.comp, fun i' k' hik => by omega⟩
theorem mid_more {n i k : Nat} {out : List Int} (h : Mid x A n i k out) (hk : ∀ s inp, (allL x.lats.length)[i]? = some s → (allL x.ins.length)[k]? = some inp → out[i]? = some (n : Int) → allow x A (vals x s inp) = true → ∃ v, out[idx (next x s inp)]? = some v ∧ 0 ≤ v ∧ v ≤ n + 1) :
    Mid x A n i (k + 1) out :=
  ⟨h.len, h.hi, h.sound, h.comp, fun i' k' hik s inp hs hi => by
    by_cases e : i' = i ∧ k' = k
    · obtain ⟨rfl, rfl⟩ := e; exact hk s inp hs hi
    · exact h.mid i' k' (by omega) s inp hs hi⟩
theorem mid_no {n i k : Nat} {out : List Int} (h : Mid x A n i k out) {s inp : List Bool} (hs : (allL x.lats.length)[i]? = some s) (hi : (allL x.ins.length)[k]? = some inp) (ha : allow x A (vals x s inp) = false) : Mid x A n i (k + 1) out :=
  mid_more h fun s' inp' hs' hi' _ ha' => by
    rw [hs] at hs'; rw [hi] at hi'
    cases hs'; cases hi'
    rw [ha] at ha'; cases ha'
theorem mid_old {n i k : Nat} {out : List Int} (h : Mid x A n i k out) {s inp : List Bool} (hs : (allL x.lats.length)[i]? = some s) (hi : (allL x.ins.length)[k]? = some inp) {v : Int} (hv : out[idx (next x s inp)]? = some v) (h0 : 0 ≤ v) : Mid x A n i (k + 1) out :=
  mid_more h fun s' inp' hs' hi' _ ha' => by
    rw [hs] at hs'; rw [hi] at hi'
    cases hs'; cases hi'
    exact ⟨v, hv, h0, h.hi _ _ hv⟩
theorem mid_new {n i k : Nat} {out : List Int} (h : Mid x A n i k out) {s inp : List Bool} (hs : (allL x.lats.length)[i]? = some s) (hi : (allL x.ins.length)[k]? = some inp) (hn : out[i]? = some (n : Int)) (ha : allow x A (vals x s inp) = true)
    {v : Int} (hv : out[idx (next x s inp)]? = some v) (h0 : v < 0) : Mid x A n i (k + 1) (out.set (idx (next x s inp)) (n + 1)) := by
  obtain ⟨t, ht⟩ : ∃ t, next x s inp = t := ⟨_, rfl⟩
  have htl : t.length = x.lats.length := by rw [← ht]; exact next_len _ _ _
  have hlt : idx t < out.length := by rw [h.len]; exact idx_lt htl
  rw [ht] at hv ⊢
  have hin : inp.length = x.ins.length := at_len _ _ _ hi
  obtain ⟨s2, hs2, hr⟩ := h.sound i n hn (by omega)
  rw [hs] at hs2
  cases hs2
  have hr2 : R x A (n + 1) t := ⟨s, inp, by simpa using hr, hin, ha, ht.symm⟩
  have get : ∀ j, (out.set (idx t) ((n : Int) + 1))[j]? = if idx t = j then some ((n : Int) + 1) else out[j]? := fun j => by
    rw [List.getElem?_set]
    by_cases e : idx t = j
    · rw [if_pos e, if_pos e, if_pos (by omega)]
    · rw [if_neg e, if_neg e]
  have keep : ∀ (j : Nat) (u : Int), out[j]? = some u → 0 ≤ u → (out.set (idx t) ((n : Int) + 1))[j]? = some u := fun j u hu hu0 => by
    rw [get, if_neg (fun e => by rw [← e, hv] at hu; cases hu; omega), hu]
  refine ⟨by rw [List.length_set]; exact h.len, fun j u hu => ?_, fun j u hu hu0 => ?_, fun m s' hm hr' => ?_, fun i' k' hik s' inp' hs' hi' hn' ha' => ?_⟩
  · rw [get] at hu
    by_cases e : idx t = j
    · rw [if_pos e] at hu; cases hu; omega
    · rw [if_neg e] at hu; exact h.hi _ _ hu
  · rw [get] at hu
    by_cases e : idx t = j
    · rw [if_pos e] at hu
      cases hu
      refine ⟨t, by rw [← e]; exact at_idx _ _ htl, ?_⟩
      have e2 : ((n : Int) + 1).toNat = n + 1 := by omega
      rw [e2]; exact hr2
    · rw [if_neg e] at hu; exact h.sound _ _ hu hu0
  · obtain ⟨u, g1, g2, g3⟩ := h.comp m s' hm hr'
    exact ⟨u, keep _ _ g1 g2, g2, g3⟩
  · have hn2 : out[i']? = some (n : Int) := by
      rw [get] at hn'
      by_cases e : idx t = i'
      · rw [if_pos e] at hn'; injection hn' with hn'; omega
      · rw [if_neg e] at hn'; exact hn'
    by_cases e : i' = i ∧ k' = k
    · obtain ⟨rfl, rfl⟩ := e
      rw [hs] at hs'; rw [hi] at hi'
      cases hs'; cases hi'
      rw [ht]
      exact ⟨_, by rw [get, if_pos rfl], by omega, Int.le_refl _⟩
    · obtain ⟨u, g1, g2, g3⟩ := h.mid i' k' (by omega) s' inp' hs' hi' hn2 ha'
      exact ⟨u, keep _ _ g1 g2, g2, g3⟩
theorem mid_row {n i k : Nat} {out : List Int} (h : Mid x A n i k out) (hk : 2 ^ x.ins.length ≤ k ∨ out[i]? ≠ some (n : Int)) : Mid x A n (i + 1) 0 out :=
  ⟨h.len, h.hi, h.sound, h.comp, fun i' k' hik s inp hs hi hn => by
    by_cases e : i' = i
    · subst e
      rcases hk with hk | hk
      · have h1 := (List.getElem?_eq_some_iff.1 hi).1
        rw [allL_len] at h1
        exact h.mid i' k' (by omega) s inp hs hi hn
      · exact absurd hn hk
    · exact h.mid i' k' (by omega) s inp hs hi hn⟩
theorem mid_end {n i : Nat} {out : List Int} (h : Mid x A n i 0 out) (hi : 2 ^ x.lats.length ≤ i) : Lv x A (n + 1) out :=
  ⟨h.len, fun j v hv => by have := h.hi j v hv; omega, h.sound, fun m s hm hr => by
    by_cases hmn : m ≤ n
    · exact h.comp m s hmn hr
    · obtain rfl : m = n + 1 := by omega
      obtain ⟨s0, inp, h0, hin, ha, rfl⟩ := hr
      obtain ⟨v, g1, g2, g3⟩ := h.comp n s0 (Nat.le_refl _) h0
      by_cases hv : v = n
      · subst hv
        have hl := idx_lt (R_len h0)
        obtain ⟨u, k1, k2, k3⟩ := h.mid (idx s0) (idx inp) (Or.inl (by omega)) s0 inp (at_idx _ _ (R_len h0)) (at_idx _ _ hin) g1 ha
        exact ⟨u, k1, k2, by omega⟩
      · obtain ⟨s1, k1, k2⟩ := h.sound _ _ g1 g2
        rw [at_idx _ _ (R_len h0)] at k1
        cases k1
        have hr2 : R x A (v.toNat + 1) (next x s0 inp) := ⟨s0, inp, k2, hin, ha, rfl⟩
        obtain ⟨u, q1, q2, q3⟩ := h.comp (v.toNat + 1) _ (by omega) hr2
        exact ⟨u, q1, q2, by omega⟩⟩
/-- All is known. -/
structure SOut (x : Circ) (A : List (List Int)) (out : List Int) : Prop where
  len : out.length = 2 ^ x.lats.length
  sound : ∀ (j : Nat) (v : Int), out[j]? = some v → 0 ≤ v → ∃ s, (allL x.lats.length)[j]? = some s ∧ R x A v.toNat s
  comp : ∀ (m : Nat) (s : List Bool), R x A m s → ∃ v, out[idx s]? = some v ∧ 0 ≤ v ∧ v ≤ m
theorem lv_end {n : Nat} {out : List Int} (h : Lv x A n out) (hn : 2 ^ x.lats.length ≤ n) : SOut x A out :=
  ⟨h.len, h.sound, fun m s hr => by
    obtain ⟨k, h1, h2, h3⟩ := R_short hr
    obtain ⟨v, g1, g2, g3⟩ := h.comp k s (by omega) h3
    exact ⟨v, g1, g2, by omega⟩⟩
theorem lv_first {out : List Int} (hl : out.length = 2 ^ x.lats.length) (h : ∀ (j : Nat) s, (allL x.lats.length)[j]? = some s → out[j]? = some (if tt (initL x s) = true then 0 else -1)) : Lv x A 0 out := by
  have key : ∀ (j : Nat) (v : Int), out[j]? = some v → ∃ s, (allL x.lats.length)[j]? = some s ∧ v = if tt (initL x s) = true then 0 else -1 := fun j v hv => by
    have h1 := (List.getElem?_eq_some_iff.1 hv).1
    obtain ⟨s, hs⟩ : ∃ s, (allL x.lats.length)[j]? = some s := ⟨_, List.getElem?_eq_getElem (by rw [allL_len, ← hl]; exact h1)⟩
    refine ⟨s, hs, ?_⟩
    rw [h j s hs] at hv
    injection hv with hv
    exact hv.symm
  refine ⟨hl, fun j v hv => ?_, fun j v hv h0 => ?_, fun m s hm hr => ?_⟩
  · obtain ⟨s, _, rfl⟩ := key j v hv
    split <;> omega
  · obtain ⟨s, hs, rfl⟩ := key j v hv
    by_cases hq : initL x s
    · rw [tt_pos hq]; exact ⟨s, hs, hq⟩
    · rw [tt_neg hq] at h0; simp at h0
  · obtain rfl : m = 0 := by omega
    have hr' : initL x s := hr
    exact ⟨0, by rw [h _ s (at_idx _ _ hr'.1), tt_pos hr']; rfl, by omega, by omega⟩

/-- What a search for the least number of steps knows. -/
structure BI (x : Circ) (A : List (List Int)) (b : Int) (out : List Int) (i k : Nat) (best : Int) : Prop where
  what : best = -1 ∨ ∃ n : Nat, best = n ∧ Hit x A b n
  mid : ∀ (i' k' : Nat), (i' < i ∨ (i' = i ∧ k' < k)) → ∀ s inp v, (allL x.lats.length)[i']? = some s → (allL x.ins.length)[k']? = some inp → out[i']? = some v → 0 ≤ v → allow x A (vals x s inp) = true → litV (vals x s inp) b = true →
    0 ≤ best ∧ best ≤ v
def IsBad (x : Circ) (A : List (List Int)) (b : Int) (r : Int) : Prop := (r = -1 ∧ ∀ n, ¬ Hit x A b n) ∨ ∃ n : Nat, r = n ∧ Hit x A b n ∧ ∀ m, Hit x A b m → n ≤ m
theorem bi_start (b : Int) (out : List Int) : BI x A b out 0 0 (-1) := ⟨Or.inl rfl, fun i' k' hik => by omega⟩
theorem bi_stay {b : Int} {out : List Int} {i k : Nat} {best : Int} (h : BI x A b out i k best) (hk : ∀ s inp v, (allL x.lats.length)[i]? = some s → (allL x.ins.length)[k]? = some inp → out[i]? = some v → 0 ≤ v → allow x A (vals x s inp) = true → litV (vals x s inp) b = true → 0 ≤ best ∧ best ≤ v) :
    BI x A b out i (k + 1) best :=
  ⟨h.what, fun i' k' hik s inp v hs hi => by
    by_cases e : i' = i ∧ k' = k
    · obtain ⟨rfl, rfl⟩ := e; exact hk s inp v hs hi
    · exact h.mid i' k' (by omega) s inp v hs hi⟩
theorem bi_new {b : Int} {out : List Int} {i k : Nat} {best : Int} (h : BI x A b out i k best) (hS : SOut x A out) {s inp : List Bool} {v : Int} (hs : (allL x.lats.length)[i]? = some s) (hi : (allL x.ins.length)[k]? = some inp) (hv : out[i]? = some v) (h0 : 0 ≤ v)
    (ha : allow x A (vals x s inp) = true) (hb : litV (vals x s inp) b = true) (hlt : best < 0 ∨ v < best) : BI x A b out i (k + 1) v := by
  obtain ⟨s2, hs2, hr⟩ := hS.sound i v hv h0
  rw [hs] at hs2
  cases hs2
  refine ⟨Or.inr ⟨v.toNat, by omega, s, inp, hr, at_len _ _ _ hi, ha, hb⟩, fun i' k' hik s' inp' v' hs' hi' hv' h0' ha' hb' => ?_⟩
  by_cases e : i' = i ∧ k' = k
  · obtain ⟨rfl, rfl⟩ := e
    rw [hv] at hv'
    cases hv'
    omega
  · have := h.mid i' k' (by omega) s' inp' v' hs' hi' hv' h0' ha' hb'
    omega
theorem bi_row {b : Int} {out : List Int} {i k : Nat} {best : Int} (h : BI x A b out i k best) (hk : 2 ^ x.ins.length ≤ k ∨ ∀ v, out[i]? = some v → v < 0) : BI x A b out (i + 1) 0 best :=
  ⟨h.what, fun i' k' hik s inp v hs hi hv h0 => by
    by_cases e : i' = i
    · subst e
      rcases hk with hk | hk
      · have h1 := (List.getElem?_eq_some_iff.1 hi).1
        rw [allL_len] at h1
        exact h.mid i' k' (by omega) s inp v hs hi hv h0
      · have := hk v hv; omega
    · exact h.mid i' k' (by omega) s inp v hs hi hv h0⟩
theorem bi_end {b : Int} {out : List Int} {i : Nat} {best : Int} (h : BI x A b out i 0 best) (hS : SOut x A out) (hi : 2 ^ x.lats.length ≤ i) : IsBad x A b best := by
  have key : ∀ m, Hit x A b m → 0 ≤ best ∧ best ≤ m := fun m hm => by
    obtain ⟨s, inp, hr, hin, ha, hb⟩ := hm
    obtain ⟨v, g1, g2, g3⟩ := hS.comp m s hr
    have hl := idx_lt (R_len hr)
    have := h.mid (idx s) (idx inp) (Or.inl (by omega)) s inp v (at_idx _ _ (R_len hr)) (at_idx _ _ hin) g1 g2 ha hb
    omega
  rcases h.what with h1 | ⟨n, h1, h2⟩
  · exact Or.inl ⟨h1, fun n hn => by have := key n hn; omega⟩
  · exact Or.inr ⟨n, h1, h2, fun m hm => by have := key m hm; omega⟩
theorem isBad_same {x y : Circ} {A : List (List Int)} {b b' r r' : Int} (h : IsBad x A b r) (h' : IsBad y A b' r') (hh : ∀ n, Hit x A b n ↔ Hit y A b' n) : r = r' := by
  rcases h with ⟨h1, h2⟩ | ⟨n, h1, h2, h3⟩ <;> rcases h' with ⟨g1, g2⟩ | ⟨m, g1, g2, g3⟩
  · rw [h1, g1]
  · exact absurd ((hh m).2 g2) (h2 m)
  · exact absurd ((hh n).1 h2) (g2 n)
  · have := h3 m ((hh m).2 g2)
    have := g3 n ((hh n).1 h2)
    omega
end
end BadP
end Go.Proofs.YtninglnchengeaaGreat

/-
  append as a step of a region that draws its order.
-/
namespace Go.Proofs.YtninglnchengeaaGreat.Base
open Go.RowKit
set_option linter.unusedVariables false

theorem step_app {P : Program} {w : World} {ops : Array Oper} {o : Oper} {a : Act} {K : Act → World → Prop} {Q : Exit → Act → World → Prop} {E : Prop} (hgd : o.guard = none) {s x : Operand} {t : TypeId}
    (ho : o.op = .call { callee := .builtin .append, args := #[s, x], argTypes := #[t, t] })
    {e : TypeId} {z : Value} {bytes : Nat} (B : Nat) (v : Value) (n : Nat) (vs : List Value) (ao : Option Addr) (m c : Nat) (us : List Value)
    (hinfo : (P.info? e).map (fun i => (i.zero, i.size, i.bytes)) = some (some z, 1, bytes)) (ht : P.underlying t = some (.slice e)) (hzs : z.cells.size = 1)
    (hs : a.eval s = v) (hx : a.eval x = .slice ao m c) (hu : ∀ u ∈ us, u.oneCell' = true)
    (hown : w.ownsRow B e 1 v n vs) (hsl : Sl w ao m c us) (hB : B ≤ w.heap.size) (hn : (n + m) * bytes ≤ 140737488355328) (hn' : n + m ≤ 9223372036854775807) {W : World} (hb : Below B W w)
    (hK : ∀ a' c' w1, w1.ownsRow B e 1 (.slice a' (n + m) c') (n + m) (vs ++ us) → Below B W w1 → w.heap.size ≤ w1.heap.size → K (a.put o.dst (.slice a' (n + m) c')) w1) :
    if Region.wanted o (yielded ops a.tmps) = true then Oper.wp P o a w K Q else E := by
  have hw : Region.wanted o (yielded ops a.tmps) = true := by simp [Region.wanted, hgd]
  rw [if_pos hw]
  obtain ⟨i, hi, hz0, hz1, hz2⟩ := info_parts hinfo
  cases ao with
  | none =>
    obtain ⟨rfl, rfl⟩ := hsl.bare rfl
    have hus : us = [] := List.eq_nil_of_length_eq_zero hsl.len
    subst hus
    obtain ⟨a', c', rfl, _⟩ := own_sl hown
    have hrun := run_append_owned_none (P := P) (w := w) B t o.type e i 1 ht hi _ n vs hown
    unfold Oper.wp
    simp [execOp, ho, resolve, invoke, builtin, hs, hx, hrun, Result.andThen]
    exact hK a' c' w (by simpa using hown) hb (Nat.le_refl _)
  | some ad =>
    have hl : us.length = m * 1 := by rw [hsl.len]; omega
    have hnews : ∀ (j : Nat) (u : Value), us[j]? = some u → w.cell? (ad.add j) = some u := by
      intro j u hj
      obtain ⟨b, o, ha, _, hc⟩ := hsl.cell j u hj
      simp only [Option.some.injEq] at ha
      subst ha
      rw [Addr.add_lit]
      exact hc
    obtain ⟨v', w1, hr, hown', hgrow, _, _⟩ := run_append_own_at (P := P) w B t o.type e i z 1 bytes ht hi hz0 hz1 hz2 hzs (by decide) v n vs hown ad m c us hl hnews hu (by unfold maxLen; omega) hn hB
    obtain ⟨a', c', rfl, _⟩ := own_sl hown'
    unfold Oper.wp execOp
    simp only [ho, resolve, invoke, builtin, Sem.run_bind, Sem.run_pure, Result.andThen_ok, List.map_toArray, List.map_cons, List.map_nil, hs, hx, hr]
    exact hK a' c' w1 hown' (below_own hown hgrow hb hB) hgrow.size

theorem step_push {P : Program} {w : World} {ops : Array Oper} {o : Oper} {a : Act} {K : Act → World → Prop} {Q : Exit → Act → World → Prop} {E : Prop} (hgd : o.guard = none) {s x : Operand} {t : TypeId}
    (ho : o.op = .call { callee := .builtin .append, args := #[s, x], argTypes := #[t, t] })
    {e : TypeId} {z : Value} {bytes : Nat} (B : Nat) (w0 : World) (u : Value) (v : Value) (n : Nat) (vs : List Value)
    (hinfo : (P.info? e).map (fun i => (i.zero, i.size, i.bytes)) = some (some z, 1, bytes)) (ht : P.underlying t = some (.slice e)) (hzs : z.cells.size = 1)
    (hw : w = w0.alloc (.cells #[u] e)) (hs : a.eval s = v) (hx : a.eval x = .slice (some ⟨w0.heap.size, 0, none⟩) 1 1) (hu : u.oneCell' = true)
    (hown : w0.ownsRow B e 1 v n vs) (hB : B ≤ w0.heap.size) (hn : (n + 1) * bytes ≤ 140737488355328) (hn' : n + 1 ≤ 9223372036854775807) {W : World} (hb : Below B W w0)
    (hK : ∀ a' c w1, w1.ownsRow B e 1 (.slice a' (n + 1) c) (n + 1) (vs ++ [u]) → Below B W w1 → w0.heap.size + 1 ≤ w1.heap.size → K (a.put o.dst (.slice a' (n + 1) c)) w1) :
    if Region.wanted o (yielded ops a.tmps) = true then Oper.wp P o a w K Q else E := by
  subst hw
  refine step_app hgd ho B v n vs (some ⟨w0.heap.size, 0, none⟩) 1 1 [u] hinfo ht hzs hs hx (by intro q hq; simp at hq; subst hq; exact hu) (hown.alloc _) (sl_new w0 #[u] e 1 rfl (by decide)) (by simp; omega) hn hn' (hb.alloc (by omega) _) ?_
  intro a' c' w1 h1 h2 h3
  exact hK a' c' w1 h1 h2 (by simpa using h3)

theorem step_pushD {P : Program} {w : World} {ops : Array Oper} {o : Oper} {a : Act} {K : Act → World → Prop} {Q : Exit → Act → World → Prop} {E : Prop} (hgd : o.guard = none) {s x : Operand} {t : TypeId}
    (ho : o.op = .call { callee := .builtin .append, args := #[s, x], argTypes := #[t, t] })
    {e : TypeId} {z : Value} {bytes : Nat} (B : Nat) (w0 : World) (u : Value) (v : Value) (n : Nat) (vs : List Value)
    (hinfo : (P.info? e).map (fun i => (i.zero, i.size, i.bytes)) = some (some z, 1, bytes)) (ht : P.underlying t = some (.slice e)) (hzs : z.cells.size = 1)
    (hw : w = (w0.alloc (.cells #[u] e)).drew) (hs : a.eval s = v) (hx : a.eval x = .slice (some ⟨w0.heap.size, 0, none⟩) 1 1) (hu : u.oneCell' = true)
    (hown : w0.ownsRow B e 1 v n vs) (hB : B ≤ w0.heap.size) (hn : (n + 1) * bytes ≤ 140737488355328) (hn' : n + 1 ≤ 9223372036854775807) {W : World} (hb : Below B W w0)
    (hK : ∀ a' c w1, w1.ownsRow B e 1 (.slice a' (n + 1) c) (n + 1) (vs ++ [u]) → Below B W w1 → w0.heap.size + 1 ≤ w1.heap.size → K (a.put o.dst (.slice a' (n + 1) c)) w1) :
    if Region.wanted o (yielded ops a.tmps) = true then Oper.wp P o a w K Q else E := by
  subst hw
  refine step_app hgd ho B v n vs (some ⟨w0.heap.size, 0, none⟩) 1 1 [u] hinfo ht hzs hs hx (by intro q hq; simp at hq; subst hq; exact hu) (hown.alloc _).drew ((sl_new w0 #[u] e 1 rfl (by decide)).next (Below.refl _ _).drew) (by show B ≤ (w0.alloc _).heap.size; simp; omega) hn hn' (hb.alloc (by omega) _).drew ?_
  intro a' c' w1 h1 h2 h3
  exact hK a' c' w1 h1 h2 (by have : (w0.alloc (.cells #[u] e)).heap.size ≤ w1.heap.size := h3; simpa using this)

theorem step_lit {P : Program} {w : World} {ops : Array Oper} {o : Oper} {a : Act} {K : Act → World → Prop} {Q : Exit → Act → World → Prop} {E : Prop} (hgd : o.guard = none) {s x : Operand} {t : TypeId}
    (ho : o.op = .call { callee := .builtin .append, args := #[s, x], argTypes := #[t, t] })
    {e : TypeId} {z : Value} {bytes : Nat} (B : Nat) (w0 : World) (cs : Array Value) (m : Nat) (v : Value) (n : Nat) (vs : List Value)
    (hinfo : (P.info? e).map (fun i => (i.zero, i.size, i.bytes)) = some (some z, 1, bytes)) (ht : P.underlying t = some (.slice e)) (hzs : z.cells.size = 1) (hcs : cs.size = m) (hm : m ≤ 9223372036854775807)
    (hw : w = w0.alloc (.cells cs e)) (hs : a.eval s = v) (hx : a.eval x = .slice (some ⟨w0.heap.size, 0, none⟩) m m) (hu : ∀ u ∈ cs.toList, u.oneCell' = true)
    (hown : w0.ownsRow B e 1 v n vs) (hB : B ≤ w0.heap.size) (hn : (n + m) * bytes ≤ 140737488355328) (hn' : n + m ≤ 9223372036854775807) {W : World} (hb : Below B W w0)
    (hK : ∀ a' c w1, w1.ownsRow B e 1 (.slice a' (n + m) c) (n + m) (vs ++ cs.toList) → Below B W w1 → w0.heap.size + 1 ≤ w1.heap.size → K (a.put o.dst (.slice a' (n + m) c)) w1) :
    if Region.wanted o (yielded ops a.tmps) = true then Oper.wp P o a w K Q else E := by
  subst hw
  refine step_app hgd ho B v n vs (some ⟨w0.heap.size, 0, none⟩) m m cs.toList hinfo ht hzs hs hx hu (hown.alloc _) (sl_new w0 cs e m hcs hm) (by simp; omega) hn hn' (hb.alloc (by omega) _) ?_
  intro a' c' w1 h1 h2 h3
  exact hK a' c' w1 h1 h2 (by simpa using h3)

end Go.Proofs.YtninglnchengeaaGreat.Base

/-
  interlockref07.All: all strings of bits of a length.
-/
namespace Go.Proofs.YtninglnchengeaaGreat
open Go.RowKit Base
set_option linter.unusedVariables false
set_option linter.unusedSimpArgs false
namespace AllS
def b0 : ByteArray := ⟨#[48]⟩
def b1 : ByteArray := ⟨#[49]⟩

def two (s : ByteArray) : List ByteArray := [s ++ b0, s ++ b1]

def allS : Nat → List ByteArray
  | 0 => [⟨#[]⟩]
  | n + 1 => (allS n).flatMap two

theorem two_len (l : List ByteArray) : (l.flatMap two).length = 2 * l.length := by
  induction l with
  | nil => rfl
  | cons x r ih => simp only [List.flatMap_cons, List.length_append, List.length_cons, ih]; simp [two]; omega

theorem allS_len (n : Nat) : (allS n).length = 2 ^ n := by
  induction n with
  | zero => rfl
  | succ n ih => rw [allS, two_len, ih, Nat.pow_succ]; omega

def strs (ss : List ByteArray) : List Value := ss.map Value.string

theorem strs_len (ss : List ByteArray) : (strs ss).length = ss.length := by simp [strs]

theorem strs_app (a b : List ByteArray) : strs (a ++ b) = strs a ++ strs b := by simp [strs]

theorem strs_one (xs : List ByteArray) : ∀ u ∈ strs xs, u.oneCell' = true := by
  intro u hu
  obtain ⟨_, _, rfl⟩ := List.mem_map.1 hu
  rfl

/-- An element of a slice of strings. -/
theorem str_at {w : World} {a : Option Addr} {n c : Nat} {xs : List ByteArray} (h : Sl w a n c (strs xs)) {k : Nat} (hk : k < n) :
    ∃ b o, ∃ hx : k < xs.length, a = some ⟨b, o, none⟩ ∧ b < w.heap.size ∧ w.cell? ⟨b, o + k, none⟩ = some (.string xs[k]) := by
  obtain ⟨b, o, x, ha, hs, hx, hc⟩ := h.at hk
  unfold strs at hx
  rw [List.getElem?_map, Option.map_eq_some_iff] at hx
  obtain ⟨y, hy, rfl⟩ := hx
  obtain ⟨hk', rfl⟩ := List.getElem?_eq_some_iff.1 hy
  exact ⟨b, o, hk', ha, hs, hc⟩

theorem take_two (l : List ByteArray) (k : Nat) (hk : k < l.length) : (l.take (k + 1)).flatMap two = (l.take k).flatMap two ++ two l[k] := by
  rw [List.take_succ_eq_append_getElem hk, List.flatMap_append]
  simp

theorem allS_size : ∀ (n : Nat), ∀ s ∈ allS n, s.size = n
  | 0 => by intro s hs; simp [allS] at hs; subst hs; rfl
  | n + 1 => by
    intro s hs
    simp only [allS, List.mem_flatMap, two] at hs
    obtain ⟨t, ht, h⟩ := hs
    have := allS_size n t ht
    simp at h
    rcases h with rfl | rfl
    · rw [ByteArray.size_append, this]; rfl
    · rw [ByteArray.size_append, this]; rfl

theorem info_str : (Tryz.prog.info? 9).map (fun i => (i.zero, i.size, i.bytes)) = some (some (.string ⟨#[]⟩), 1, 16) := by kernel_rfl

set_option maxRecDepth 4000 in
set_option maxHeartbeats 8000000 in
theorem all_any (w : World) (V : Nat) (hV : V ≤ 16) :
    Calls Tryz.prog 38 #[.int .i64 V] w fun e w' => ∃ a c, e = .returned (.slice a (allS V).length c) ∧ w'.ownsRow w.heap.size 9 1 (.slice a (allS V).length c) (allS V).length (strs (allS V)) ∧ Below w.heap.size w w' := by
  have hown0 : Hid ((w.alloc (.cells #[.string ⟨#[]⟩] 9)).ownsRow w.heap.size 9 1 (.slice (some ⟨w.heap.size, 0, none⟩) 1 1) 1 (strs (allS 0))) := by
    have h := World.ownsRow_lit (base := w.heap.size) (e := 9) (size := 1) w #[.string ⟨#[]⟩] 1 (by simp) (by unfold maxLen; omega) (by simp)
    exact h
  have HBW : Hid (Below w.heap.size w (w.alloc (.cells #[.string ⟨#[]⟩] 9))) := (Below.refl _ _).alloc (Nat.le_refl _) _
  go_enter Tryz.func38, Tryz.ntmps38
  go_wp2_with fail
  generalize w.alloc (.cells #[.string ⟨#[]⟩] 9) = W2 at *
  go_loopw [3, 4] (fun s i wr => ∃ (k m : Nat), k ≤ V ∧ i = .int .i64 k ∧ Hid ((allS k).length = m) ∧ m ≤ 65536 ∧ (∃ a' c', s = .slice a' m c' ∧ wr.ownsRow w.heap.size 9 1 (.slice a' m c') m (strs (allS k))) ∧ Below w.heap.size w wr) (fun _ i _ => V - (intOf i).toNat)
  case atStart => exact ⟨0, 1, Nat.zero_le _, rfl, rfl, by omega, ⟨_, 1, rfl, hown0.out⟩, HBW.out⟩
  case round =>
    obtain ⟨k, m, hk, rfl, hM, hm, ⟨a', c', rfl, hown⟩, hbr⟩ := hrel
    obtain ⟨a9, c9, e9, hs9⟩ := own_sl hown
    simp only [Value.slice.injEq] at e9
    obtain ⟨rfl, _, rfl⟩ := e9
    have hcap' := hs9.cap
    have hbig' := hs9.big
    have HS := Lib.hid hs9
    have HO := Lib.hid hown
    clear hs9 hown
    have hbase : w.heap.size ≤ wr.heap.size := hbr.size
    by_cases hlt : k < V
    · have hm2 : m ≤ 32768 := by
        have h := hM.out
        rw [allS_len] at h
        have h2 : 2 ^ k ≤ 2 ^ 15 := Nat.pow_le_pow_right (by decide) (by omega)
        omega
      go_wp2_with fail
      generalize wr = wo at *
      go_loopw [5, 6] (fun s i wq => ∃ (j : Nat), j ≤ m ∧ i = .int .i64 j ∧ (∃ a2 c2, s = .slice a2 (2 * j) c2 ∧ wq.ownsRow wo.heap.size 9 1 (.slice a2 (2 * j) c2) (2 * j) (strs (((allS k).take j).flatMap two))) ∧ Below wo.heap.size wo wq) (fun _ i _ => m - (intOf i).toNat)
      case atStart => exact ⟨0, Nat.zero_le _, rfl, ⟨none, 0, rfl, World.ownsRow_nil _ _ _ _⟩, Below.refl _ _⟩
      case round =>
        obtain ⟨j, hj, rfl, ⟨a2, c2, rfl, hown2⟩, hbq⟩ := hrel
        have HO2 := Lib.hid hown2
        clear hown2
        have hbase2 : wo.heap.size ≤ wr.heap.size := hbq.size
        by_cases hjm : j < m
        · obtain ⟨g, q, hy, rfl, hgs, hcy⟩ := str_at (HS.out.next hbq) hjm
          have HT := Lib.hid (take_two (allS k) j hy)
          have hys : (allS k)[j].size ≤ 16 := by rw [allS_size k _ (List.getElem_mem hy)]; omega
          generalize (allS k)[j] = y at *
          have hys2 : ¬ 9223372036854775807 < y.size + 1 := by omega
          go_wp2_with fail
          go_region_law (first | (refine step_lit (by rfl) (by rfl) wo.heap.size _ #[.string (y ++ b0), .string (y ++ b1)] 2 (.slice a2 (2 * j) c2) (2 * j) (strs (((allS k).take j).flatMap two)) info_str Tryz.underlying72 (by rfl) (by rfl) (by omega) (by rfl) (by rfl) (by rfl) (by intro u hu; simp at hu; rcases hu with rfl | rfl <;> rfl) HO2.out.drew (by exact hbase2) (by omega) (by omega) hbq.drew ?_; intro a3 c3 w3 hown3 hb3 hz3) | fail)
          all_goals
            go_wp2_with fail
            go_roundw
            case rel =>
              refine ⟨j + 1, by omega, by go_num, ⟨a3, c3, by congr 1, ?_⟩, hb3⟩
              rw [HT.out, strs_app]
              exact hown3
            case measure => simp [intOf]; omega
        · have hjm' : j = m := by omega
          have HF : Hid (((allS k).take j).flatMap two = allS (k + 1)) := by
            show _ = _
            rw [hjm', ← hM.out, List.take_length]; rfl
          have HM2 : Hid ((allS (k + 1)).length = 2 * j) := by
            show _ = _
            rw [allS, two_len, hM.out, hjm']
          clear hjm'
          go_wp2_with fail
          go_roundw
          case rel =>
            refine ⟨k + 1, 2 * j, by omega, by go_num, HM2, by omega, ⟨a2, c2, rfl, ?_⟩, hbr.trans (hbq.mono hbase)⟩
            rw [← HF.out]
            exact own_mono HO2.out hbase
          case measure => simp [intOf]; omega
    · have hkV : k = V := by omega
      have HMV : Hid ((allS V).length = m) := by rw [← hkV]; exact hM
      have HOV : Hid (wr.ownsRow w.heap.size 9 1 (.slice a' m c') m (strs (allS V))) := by rw [← hkV]; exact HO
      have hkn : ¬ ((k : Int) < V) := by omega
      clear hkV hlt hk
      go_wp2_with fail
      go_ret
      exact ⟨a', c', by rw [HMV.out]; rfl, by rw [HMV.out]; exact HOV.out, hbr⟩
end AllS
end Go.Proofs.YtninglnchengeaaGreat

/-
  interlockref01.Var of a literal that is none below 0.
-/
namespace Go.Proofs.YtninglnchengeaaGreat
open Go.RowKit Base
set_option linter.unusedVariables false
set_option linter.unusedSimpArgs false
namespace RefV
open Circuit

theorem refVar_any (a : Int) (h0 : 0 ≤ a) (h1 : a ≤ 9223372036854775807) (w : World) : Calls Tryz.prog 56 #[.int .i64 a] w fun e w' => e = .returned (.int .i64 (var a)) ∧ w' = w := by
  have hn : ¬ a < 0 := by omega
  have HV : Hid (var a = a / 2) := by show _ = _; unfold var; omega
  have HD : Hid (Int.tdiv a 2 = a / 2) := Int.tdiv_eq_ediv_of_nonneg h0
  go_enter Tryz.func56, Tryz.ntmps56
  go_wp2
  all_goals
    go_ret
    exact ⟨ret_int (by have := HV.out; have := HD.out; first | omega | (rw [HV.out, HD.out]) | (rw [HV.out])), rfl⟩
end RefV
end Go.Proofs.YtninglnchengeaaGreat

/-
  interlockref07.Bits: is a text so many bits?
-/
namespace Go.Proofs.YtninglnchengeaaGreat
open Go.RowKit Base
set_option linter.unusedVariables false
namespace RefBits

def bit (c : UInt8) : Bool := c == 48 || c == 49
def bits (s : List UInt8) (n : Int) : Bool := s.all bit && decide ((s.length : Int) = n)

theorem all_take_more {s : ByteArray} {k : Nat} (hk : k < s.size) (h : (s.data.toList.take k).all bit = true) (hb : bit s[k] = true) : (s.data.toList.take (k + 1)).all bit = true := by
  have e : s.data.toList.take (k + 1) = s.data.toList.take k ++ [s[k]] := by
    rw [List.take_succ_eq_append_getElem (by simpa using hk)]; rfl
  rw [e, List.all_append, h]
  simp [hb]

theorem all_no {s : ByteArray} {k : Nat} (hk : k < s.size) (hb : bit s[k] = false) : s.data.toList.all bit = false := by
  rw [List.all_eq_false]
  refine ⟨s[k], ?_, by simp [hb]⟩
  have : s[k] = s.data.toList[k]'(by simpa using hk) := rfl
  rw [this]
  exact List.getElem_mem _

set_option maxHeartbeats 1000000 in
theorem bits_any (w : World) (s : ByteArray) (hs : s.size ≤ 9223372036854775807) (n : Int) :
    Calls Tryz.prog 65 #[.string s, .int .i64 n] w fun e w' => e = .returned (.bool (bits s.data.toList n)) ∧ w = w' := by
  go_enter Tryz.func65, Tryz.ntmps65
  go_wp2
  go_loop [5] (fun i => ∃ k : Nat, k ≤ s.size ∧ i = .int .i64 k ∧ Hid ((s.data.toList.take k).all bit = true)) (fun i => s.size - (intOf i).toNat)
  case atStart => exact ⟨0, Nat.zero_le _, rfl, rfl⟩
  case round =>
    obtain ⟨k, hk, rfl, hI⟩ := hrel
    by_cases hlt : k < s.size
    · generalize hq : s[k] = q at *
      have HQ := Lib.hid hq
      have hix : s[k] = q := hq
      by_cases h0 : q = 48
      · have v0 : ((q.toNat : Int) != 48) = false := by rw [h0]; rfl
        have H0 := Lib.hid h0
        clear h0 hq
        go_wp2
        go_round
        case rel => exact ⟨k + 1, by omega, by go_num, all_take_more hlt hI.out (by rw [HQ.out, H0.out]; rfl)⟩
        case measure => simp [intOf]; omega
      · have v0 : ((q.toNat : Int) != 48) = true := by have := byte_ne q 48 h0; simp only [bne]; rw [show (48 : Int) = ((48 : UInt8).toNat : Int) from rfl, this]; rfl
        by_cases h1 : q = 49
        · have v1 : ((q.toNat : Int) != 49) = false := by rw [h1]; rfl
          have H0 := Lib.hid h1
          clear h0 h1 hq
          go_wp2
          go_round
          case rel => exact ⟨k + 1, by omega, by go_num, all_take_more hlt hI.out (by rw [HQ.out, H0.out]; rfl)⟩
          case measure => simp [intOf]; omega
        · have v1 : ((q.toNat : Int) != 49) = true := by have := byte_ne q 49 h1; simp only [bne]; rw [show (49 : Int) = ((49 : UInt8).toNat : Int) from rfl, this]; rfl
          have HB := Lib.hid (show bit q = false by unfold bit; simp [h0, h1])
          clear h0 h1 hq
          go_wp2
          go_ret
          exact ⟨ret_bool (by unfold bits; rw [all_no hlt (by rw [HQ.out]; exact HB.out)]; rfl), rfl⟩
    · go_wp2
      go_ret
      have e : s.data.toList.take k = s.data.toList := List.take_of_length_le (by simp; omega)
      refine ⟨ret_bool ?_, rfl⟩
      unfold bits
      rw [← e, hI.out, e]
      have : (s.data.toList.length : Int) = s.size := by simp
      rw [this]
      rfl
end RefBits
end Go.Proofs.YtninglnchengeaaGreat

/-
  interlockref07.Initial: is a state a first one?
-/
namespace Go.Proofs.YtninglnchengeaaGreat
open Go.RowKit Base
set_option linter.unusedVariables false
set_option linter.unusedSimpArgs false
namespace Initial
open Circuit (cbox_new)

/-- May a latch begin so? -/
def okLat (t : Tri) (b : UInt8) : Bool := !((t.2.2 != t.1) && ((t.2.2 == 1) != ((b.toNat : Int) == 49)))
def initialB (lats : List Tri) (s : ByteArray) : Bool := RefBits.bits s.data.toList lats.length && (List.zipWith okLat lats s.data.toList).all id

theorem all_to {lats : List Tri} {l : List UInt8} (h : ∀ j (h1 : j < lats.length) (h2 : j < l.length), okLat lats[j] l[j] = true) : (List.zipWith okLat lats l).all id = true := by
  rw [List.all_eq_true]
  intro b hb
  obtain ⟨j, hj, rfl⟩ := List.mem_iff_getElem.1 hb
  rw [List.length_zipWith] at hj
  rw [List.getElem_zipWith]
  exact h j (by omega) (by omega)
theorem all_not {lats : List Tri} {l : List UInt8} {j : Nat} (h1 : j < lats.length) (h2 : j < l.length) (h : okLat lats[j] l[j] = false) : (List.zipWith okLat lats l).all id = false := by
  rw [Bool.eq_false_iff]
  intro ha
  rw [List.all_eq_true] at ha
  have := ha (okLat lats[j] l[j]) (List.mem_iff_getElem.2 ⟨j, by rw [List.length_zipWith]; omega, by rw [List.getElem_zipWith]⟩)
  rw [h] at this
  cases this

set_option maxRecDepth 8000 in
set_option maxHeartbeats 4000000 in
theorem initial_any (w : World) (x : Circ) (p : At) (hin : InCirc w x p) (s : ByteArray) (hs : s.size ≤ 9223372036854775807) :
    Calls Tryz.prog 62 #[.agg (cells x p), .string s] w fun e w' => e = .returned (.bool (initialB x.lats s)) ∧ Below w.heap.size w w' := by
  obtain ⟨W1, hW1⟩ : ∃ U, w.alloc (.cells (cells x p) 27) = U := ⟨_, rfl⟩
  obtain ⟨hb1, hx1⟩ := cbox_new w x p W1 hW1
  have HB1 := Lib.hid hb1
  have HX1 := Lib.hid hx1
  have HL := Lib.hid (hin.next hb1).lats
  have hcap := hin.lats.cap
  have hbig := hin.lats.big
  have HBI := Lib.hid (RefBits.bits_any W1 s hs (x.lats.length : Int))
  have HV : Hid (initialB x.lats s = (RefBits.bits s.data.toList (x.lats.length : Int) && (List.zipWith okLat x.lats s.data.toList).all id)) := rfl
  have hlen : RefBits.bits s.data.toList (x.lats.length : Int) = true → s.size = x.lats.length := by
    intro h
    unfold RefBits.bits at h
    rw [Bool.and_eq_true, decide_eq_true_eq] at h
    have e : s.data.toList.length = s.size := by rw [Array.length_toList]; rfl
    have := h.2
    omega
  have k2 := hx1.k2
  generalize hin2 : initialB x.lats s = V at *
  generalize hbt : RefBits.bits s.data.toList (x.lats.length : Int) = B at *
  clear hin hb1 hx1 hin2 hbt hs
  unfold cells at *
  go_enter Tryz.func62, Tryz.ntmps62
  go_wp2_with fail
  with_reducible refine HBI.out.mono ?_
  rintro e w2 ⟨rfl, rfl⟩
  cases B
  · have HVF : Hid (V = false) := by show _ = _; rw [HV.out]; rfl
    go_wp2_with fail
    go_ret
    exact ⟨by rw [HVF.out]; rfl, HB1.out⟩
  · have hsz := hlen rfl
    have HVT : Hid (V = (List.zipWith okLat x.lats s.data.toList).all id) := by show _ = _; rw [HV.out]; rfl
    generalize hn : x.lats.length = n at *
    have HN := Lib.hid hn
    have HSZ := Lib.hid hsz
    clear hlen hn
    have hsn : (s.size : Int) = (n : Int) := by rw [hsz]
    go_wp2_with fail
    go_loopw [5] (fun i wr => ∃ k : Nat, k ≤ n ∧ i = .int .i64 k ∧ Hid (∀ j (h1 : j < x.lats.length) (h2 : j < s.data.toList.length), j < k → okLat x.lats[j] s.data.toList[j] = true) ∧ Hid (Below W1.heap.size W1 wr)) (fun i _ => n - (intOf i).toNat)
    case atStart => exact ⟨0, Nat.zero_le _, rfl, (by intro j h1 h2 h3; omega), Below.refl _ _⟩
    case round =>
      obtain ⟨k, hk, rfl, hI, hB⟩ := hrel
      have q2 := (HX1.out.next hB.out (Nat.le_refl _)).k2
      rw [HN.out] at q2
      by_cases hlt : k < n
      · obtain ⟨bl, ol, hx, hae, hbs, d0, d1, d2⟩ := (HL.out.next hB.out).tri hlt
        rw [hae] at q2
        have hks : k < s.size := by omega
        have hkl : k < s.data.toList.length := by rw [Array.length_toList]; exact hks
        have HAL := Lib.hid (fun (h : okLat x.lats[k] s.data.toList[k] = false) => all_not hx hkl h)
        have HMO : Hid (okLat x.lats[k] s.data.toList[k] = true → ∀ j (h1 : j < x.lats.length) (h2 : j < s.data.toList.length), j < k + 1 → okLat x.lats[j] s.data.toList[j] = true) := by
          intro h j h1 h2 h3
          by_cases he : j = k
          · subst he; exact h
          · exact hI.out j h1 h2 (by omega)
        have HOK : Hid (okLat x.lats[k] s.data.toList[k] = !((x.lats[k].2.2 != x.lats[k].1) && ((x.lats[k].2.2 == 1) != (((s[k]).toNat : Int) == 49)))) := rfl
        generalize okLat x.lats[k] s.data.toList[k] = ok at *
        generalize x.lats[k] = t at *
        generalize hb1 : (t.2.2 != t.1) = b1 at *
        generalize hb2 : (t.2.2 == 1) = b2 at *
        generalize hb3 : (((s[k]).toNat : Int) == 49) = b3 at *
        clear hae
        cases b1 <;> cases b2 <;> cases b3
        all_goals go_wp2_with fail
        all_goals first
          | (go_roundw
             case rel => exact ⟨k + 1, by omega, by go_num, HMO.out (by rw [HOK.out]; rfl), hB⟩
             case measure => simp [intOf]; omega)
          | (go_ret
             have HVV : V = false := by rw [HVT.out]; exact HAL.out (by rw [HOK.out]; rfl)
             exact ⟨by rw [HVV]; rfl, HB1.out.trans (hB.out.mono HB1.out.size)⟩)
      · have HVV : Hid (V = true) := by
          show _ = _
          rw [HVT.out]
          exact all_to fun j h1 h2 => hI.out j h1 h2 (by have := HN.out; omega)
        have hks : ¬ k < s.size := by omega
        go_wp2_with fail
        go_ret
        exact ⟨by rw [HVV.out]; rfl, HB1.out.trans (hB.out.mono HB1.out.size)⟩
end Initial
end Go.Proofs.YtninglnchengeaaGreat

/-
  A region that draws its order, with loads and operations that make memory: a condition S on the world that every operation keeps; a load under S may be taken first. No program's function.
-/
namespace Go.Proofs.YtninglnchengeaaGreat
open Go.RowKit
set_option linter.unusedVariables false
namespace HeldAll

section
variable {P : Program} {ops : Array Oper} {Q : Exit → Act → World → Prop} {md : Region.Mode} {S : World → Prop}

def wpAnyH (P : Program) (md : Region.Mode) (ops : Array Oper) (Q : Exit → Act → World → Prop) (S : World → Prop) : Nat → Array Bool → Act → World → Prop
  | 0, listed, a, w => Region.ready md ops listed = [] ∧ Q .normal a w
  | fuel + 1, listed, a, w =>
    (Region.ready md ops listed = [] → Q .normal a w) ∧
    ∀ i ∈ Region.ready md ops listed, wpOp P ops Q i (fun a' w' => S w' ∧ wpAnyH P md ops Q S fuel (listed.setIfInBounds i true) a' w') a w

theorem wpAny_of_H : ∀ (fuel : Nat) (listed : Array Bool) (a : Act) (w : World), wpAnyH P md ops Q S fuel listed a w → wpAny P md ops Q fuel listed a w
  | 0, _, _, _, h => h
  | fuel + 1, _, _, _, h => ⟨h.1, fun i hi => wpOp_mono (fun a' w' h' => wpAny_of_H fuel _ a' w' h'.2) (h.2 i hi)⟩

theorem first {i : Nat} {oi : Oper} {v : Value} (hi : ops[i]? = some oi) (hsel : ∀ (j : Nat) (o : Oper) cs b, ops[j]? = some o → o.op ≠ .select cs b)
    (hQ : ∀ c a w, Q (.panic c) (a.put oi.dst v) w → Q (.panic c) a w) :
    ∀ (fuel : Nat) (listed : Array Bool) (a : Act) (w : World),
      (∀ j oj, ops[j]? = some oj → j ≠ i → listed.getD j true = false → (∀ e ∈ oj.after, Region.binds md e = true → e.on ≠ i) → oi.apart ops oj = true) →
      i ∈ Region.ready md ops listed → YieldsIf P ops S oi v a → S w →
      wpAnyH P md ops Q S fuel (listed.setIfInBounds i true) (a.put oi.dst v) w → wpAnyH P md ops Q S (fuel + 1) listed a w := by
  intro fuel
  induction fuel with
  | zero =>
    intro listed a w _ hr hy hS H
    refine ⟨fun h => (by rw [h] at hr; cases hr), fun j hj => ?_⟩
    by_cases hji : j = i
    · subst hji; exact hy.wpOp hi hS ⟨hS, H⟩
    · have := ready_mono hj hji
      rw [H.1] at this
      cases this
  | succ fuel ih =>
    intro listed a w hfree hr hy hS H
    refine ⟨fun h => (by rw [h] at hr; cases hr), fun j hj => ?_⟩
    by_cases hji : j = i
    · subst hji; exact hy.wpOp hi hS ⟨hS, H⟩
    · have h1 := H.2 j (ready_mono hj hji)
      obtain ⟨hjun, oj, hoj, hall⟩ := mem_ready.1 hj
      have hnot : ∀ e ∈ oj.after, Region.binds md e = true → e.on ≠ i := fun e he hb heq => by
        have h1 := hall e he hb
        have h0 := (mem_ready.1 hr).1
        rw [heq] at h1
        rcases Nat.lt_or_ge i listed.size with h' | h'
        · simp [h'] at h0 h1; rw [h0] at h1; cases h1
        · simp [Array.getElem?_eq_none h'] at h1
      have h2 := wpOp_putIf hoj (hfree j oj hoj hji hjun hnot) (fun cs b => hsel i oi cs b hi) (fun cs b => hsel j oj cs b hoj) hQ hy h1
      have hfree' : ∀ k ok, ops[k]? = some ok → k ≠ i → (listed.setIfInBounds j true).getD k true = false →
          (∀ e ∈ ok.after, Region.binds md e = true → e.on ≠ i) → oi.apart ops ok = true := fun k ok hk hki hun hno => by
        refine hfree k ok hk hki ?_ hno
        by_cases hjk : j = k
        · subst hjk; exact hjun
        · rw [getD_set_ne true hjk] at hun; exact hun
      refine wpOp_mono (fun a' w' h3 => ⟨h3.2.1, ih (listed.setIfInBounds j true) a' w' hfree' (ready_mono hr (Ne.symm hji)) h3.1 h3.2.1 ?_⟩) h2
      rw [Array.setIfInBounds_comm _ _ hji]
      exact h3.2.2

/-- A load, or whatever yields under S, is taken first. -/
theorem take {i : Nat} {oi : Oper} {v : Value} {d : Option Tmp} {fuel : Nat} {listed : Array Bool} {a : Act} {w : World} (hi : ops[i]? = some oi) (hd : oi.dst = d)
    (hs : Region.noSelect ops = true) (hf : Region.free md ops listed i = true) (hr : (Region.ready md ops listed).contains i = true)
    (hQ : ∀ c a w, Q (.panic c) (a.put oi.dst v) w → Q (.panic c) a w) (hy : YieldsIf P ops S oi v a) (hS : S w)
    (h : wpAnyH P md ops Q S fuel (listed.setIfInBounds i true) (a.put d v) w) : wpAnyH P md ops Q S (fuel + 1) listed a w := by
  subst hd
  exact first hi (Region.noSelect_spec hs) hQ fuel listed a w (Region.free_spec hi hf) (by simpa using hr) hy hS h

def Nx (P : Program) (md : Region.Mode) (ops : Array Oper) (Q : Exit → Act → World → Prop) (S : World → Prop) (fuel : Nat) (listed : Array Bool) (i : Nat) (a : Act) (w : World) : Prop :=
  S w ∧ wpAnyH P md ops Q S fuel (listed.setIfInBounds i true) a w

theorem two {i j : Nat} {fuel : Nat} {listed : Array Bool} {a : Act} {w : World} (hr : Region.ready md ops listed = [i, j])
    (h1 : wpOp P ops Q i (Nx P md ops Q S fuel listed i) a w) (h2 : wpOp P ops Q j (Nx P md ops Q S fuel listed j) a w) : wpAnyH P md ops Q S (fuel + 1) listed a w := by
  refine ⟨fun h0 => absurd (hr ▸ h0) (by simp), ?_⟩
  rw [hr]
  intro k hk
  simp only [List.mem_cons, List.not_mem_nil, or_false] at hk
  rcases hk with rfl | rfl
  · exact h1
  · exact h2
theorem three {i j k : Nat} {fuel : Nat} {listed : Array Bool} {a : Act} {w : World} (hr : Region.ready md ops listed = [i, j, k])
    (h1 : wpOp P ops Q i (Nx P md ops Q S fuel listed i) a w) (h2 : wpOp P ops Q j (Nx P md ops Q S fuel listed j) a w) (h3 : wpOp P ops Q k (Nx P md ops Q S fuel listed k) a w) : wpAnyH P md ops Q S (fuel + 1) listed a w := by
  refine ⟨fun h0 => absurd (hr ▸ h0) (by simp), ?_⟩
  rw [hr]
  intro q hq
  simp only [List.mem_cons, List.not_mem_nil, or_false] at hq
  rcases hq with rfl | rfl | rfl
  · exact h1
  · exact h2
  · exact h3
theorem one {i : Nat} {fuel : Nat} {listed : Array Bool} {a : Act} {w : World} (hr : Region.ready md ops listed = [i])
    (h1 : wpOp P ops Q i (Nx P md ops Q S fuel listed i) a w) : wpAnyH P md ops Q S (fuel + 1) listed a w := by
  refine ⟨fun h0 => absurd (hr ▸ h0) (by simp), ?_⟩
  rw [hr]
  intro k hk
  simp only [List.mem_cons, List.not_mem_nil, or_false] at hk
  subst hk
  exact h1

theorem opCall {i : Nat} {oi : Oper} {d : Option Tmp} {fuel : Nat} {listed : Array Bool} {a : Act} {w : World} {f : FuncId} {args : Array Value} {R : Value → World → Prop} (hi : ops[i]? = some oi) (hd : oi.dst = d)
    (hw : Region.wanted oi (yielded ops a.tmps) = true) (hv : (execOp a.eval oi).run P w = .ok (.enter f args) w) (hc : Calls P f args w (fun e w'' => ∃ v, e = .returned v ∧ R v w''))
    (h : ∀ v w', R v w' → S w' ∧ wpAnyH P md ops Q S fuel (listed.setIfInBounds i true) (a.put d v) w') : wpOp P ops Q i (Nx P md ops Q S fuel listed i) a w := by
  subst hd
  unfold wpOp
  simp only [hi, hw, if_true]
  refine .inl ?_
  unfold Oper.wp
  rw [hv]
  simp only [Oper.upon]
  refine hc.mono fun e w'' ⟨v, he, hR⟩ => ?_
  subst he
  exact h v w'' hR

theorem opVal {i : Nat} {oi : Oper} {d : Option Tmp} {v : Value} {fuel : Nat} {listed : Array Bool} {a : Act} {w w2 : World} (hi : ops[i]? = some oi) (hd : oi.dst = d)
    (hw : Region.wanted oi (yielded ops a.tmps) = true) (hv : (execOp a.eval oi).run P w = .ok (.value v) w2) (hS : S w2)
    (h : wpAnyH P md ops Q S fuel (listed.setIfInBounds i true) (a.put d v) w2) : wpOp P ops Q i (Nx P md ops Q S fuel listed i) a w := by
  subst hd
  unfold wpOp
  simp only [hi, hw, if_true]
  refine .inl ?_
  unfold Oper.wp
  rw [hv]
  simp only [Oper.upon]
  exact ⟨hS, h⟩

theorem opStore {i : Nat} {oi : Oper} {d : Option Tmp} {fuel : Nat} {listed : Array Bool} {a : Act} {w w2 : World} (hi : ops[i]? = some oi) (hd : oi.dst = d)
    (hw : Region.wanted oi (yielded ops a.tmps) = true) (hv : (execOp a.eval oi).run P w = .ok .skip w2) (hS : S w2)
    (h : wpAnyH P md ops Q S fuel (listed.setIfInBounds i true) (a.put d undef) w2) : wpOp P ops Q i (Nx P md ops Q S fuel listed i) a w := by
  subst hd
  unfold wpOp
  simp only [hi, hw, if_true]
  refine .inl ?_
  unfold Oper.wp
  rw [hv]
  simp only [Oper.upon]
  exact ⟨hS, h⟩

theorem done {listed : Array Bool} {a : Act} {w : World} (hr : Region.ready md ops listed = []) (h : Q .normal a w) :
    ∀ fuel, wpAnyH P md ops Q S fuel listed a w
  | 0 => ⟨hr, h⟩
  | _ + 1 => ⟨fun _ => h, by rw [hr]; simp⟩

theorem region {id : Nat} {l : List Oper} {a : Act} {w : World} (S : World → Prop) (hm : P.follows .mixedOrders = true)
    (h : wpAnyH P .any l.toArray Q S l.toArray.size (Array.replicate l.toArray.size false) a w.drew) : (Code.region id l.toArray true).wp P Q a w :=
  wp_region_any hm (wpAny_of_H _ _ _ _ h)
end
end HeldAll
end Go.Proofs.YtninglnchengeaaGreat

/-
  Bits as texts: interlockref07's True, set, bit, index, Holds.
-/
namespace Go.Proofs.YtninglnchengeaaGreat
open Go.RowKit Base
set_option linter.unusedVariables false
set_option linter.unusedSimpArgs false
namespace BadP
open Circuit

def byteB (b : Bool) : UInt8 := if b then 49 else 48
def bs (L : List Bool) : ByteArray := ⟨(L.map byteB).toArray⟩
theorem bs_list (L : List Bool) : (bs L).data.toList = L.map byteB := rfl
theorem bs_size (L : List Bool) : (bs L).size = L.length := by
  have e : (bs L).data.toList.length = (bs L).size := by rw [Array.length_toList]; rfl
  rw [← e, bs_list, List.length_map]
theorem ext_list {a b : ByteArray} (h : a.data.toList = b.data.toList) : a = b := by
  cases a; cases b
  congr 1
  exact Array.toList_inj.1 h
theorem app_list (a b : ByteArray) : (a ++ b).data.toList = a.data.toList ++ b.data.toList := by rw [ByteArray.data_append, Array.toList_append]
theorem bs_app (L M : List Bool) : bs (L ++ M) = bs L ++ bs M := ext_list (by rw [app_list, bs_list, bs_list, bs_list, List.map_append])
theorem bs_at (L : List Bool) {v : Nat} (h : v < (bs L).size) : (bs L)[v] = byteB (L.getD v false) := by
  have h2 : v < L.length := by rw [← bs_size]; exact h
  have e : (bs L)[v] = (bs L).data.toList[v]'(by rw [Array.length_toList]; exact h) := rfl
  rw [e]
  have : (bs L).data.toList[v]? = some (byteB (L.getD v false)) := by rw [bs_list, List.getElem?_map, List.getElem?_eq_getElem h2, List.getD_eq_getElem?_getD, List.getElem?_eq_getElem h2]; rfl
  exact (List.getElem?_eq_some_iff.1 this).2
theorem byte_one (b : Bool) : (((byteB b).toNat : Int) == 49) = b := by cases b <;> rfl
theorem allS_bs : ∀ n, AllS.allS n = (allL n).map bs
  | 0 => rfl
  | n + 1 => by
    rw [AllS.allS, allL, allS_bs n]
    generalize allL n = L
    induction L with
    | nil => rfl
    | cons l r ih =>
      rw [List.map_cons, List.flatMap_cons, List.flatMap_cons, ih, List.map_append]
      congr 1
      show [bs l ++ AllS.b0, bs l ++ AllS.b1] = [bs (l ++ [false]), bs (l ++ [true])]
      rw [bs_app, bs_app]; rfl
theorem bs_set (L : List Bool) {u : Nat} (hu : u < L.length) (b : Bool) : (bs L).extract 0 u ++ ⟨#[byteB b]⟩ ++ (bs L).extract (u + 1) (bs L).size = bs (L.set u b) := by
  refine ext_list ?_
  rw [app_list, app_list, bs_list, ByteArray.data_extract, ByteArray.data_extract, Array.toList_extract, Array.toList_extract, bs_list, bs_size]
  simp only [List.extract_eq_take_drop, Nat.sub_zero, List.drop_zero]
  rw [List.map_set, List.set_eq_take_append_cons_drop, if_pos (by rw [List.length_map]; exact hu)]
  simp only [List.append_assoc]
  congr 1
  rw [List.take_of_length_le (l := (List.map byteB L).drop (u + 1)) (by rw [List.length_drop, List.length_map]; omega)]
  rfl

theorem refNeg_any (a : Int) (h0 : 0 ≤ a) (h1 : a ≤ 9223372036854775807) (w : World) : Calls Tryz.prog 68 #[.int .i64 a] w fun e w' => e = .returned (.bool (neg a)) ∧ w' = w := by
  have HV : Hid (neg a = (a % 2 == 1)) := by show _ = _; unfold neg; rw [if_neg (by omega)]
  go_enter Tryz.func68, Tryz.ntmps68
  go_wp2
  all_goals
    go_ret
    exact ⟨ret_bool (by rw [HV.out]; first | done | (have hz : a = 0 := (by omega); subst hz; decide)), rfl⟩

theorem refTrue_any (w : World) (L : List Bool) (l : Int) (h0 : 0 ≤ l) (h1 : l ≤ 9223372036854775807) (hL : L.length ≤ 9223372036854775807) :
    Calls Tryz.prog 41 #[.string (bs L), .int .i64 l] w fun e w' => e = .returned (.bool (litV L l)) ∧ w' = w := by
  have HVA := RefV.refVar_any l h0 h1 w
  have HN := Lib.hid (refNeg_any l h0 h1 w)
  obtain ⟨v, hv⟩ : ∃ v : Nat, var l = (v : Int) := ⟨(var l).toNat, by have := var_nn l; omega⟩
  rw [hv] at HVA
  have HV := Lib.hid HVA
  have HLV : Hid (litV L l = (L.getD v false != neg l)) := by show _ = _; unfold litV valV; rw [hv]; rfl
  have HSZ : Hid ((bs L).size = L.length) := bs_size L
  have HBY : Hid (∀ h : v < (bs L).size, ((((bs L)[v]'h).toNat : Int) == 49) = L.getD v false) := fun h => by rw [bs_at L h, byte_one]
  have HNO : Hid (¬ v < (bs L).size → L.getD v false = false) := fun h => by
    rw [bs_size] at h
    rw [List.getD_eq_getElem?_getD, List.getElem?_eq_none (by omega)]; rfl
  have hsz : (bs L).size ≤ 9223372036854775807 := by rw [bs_size]; exact hL
  generalize bs L = s at *
  generalize neg l = ng at *
  generalize L.getD v false = q at *
  generalize litV L l = r at *
  clear HVA hv h0 h1 hL HSZ
  go_enter Tryz.func41, Tryz.ntmps41
  go_wp2_with fail
  with_reducible refine HV.out.mono ?_
  rintro e w1 ⟨rfl, rfl⟩
  by_cases hlt : v < s.size
  · have hb := HBY.out hlt
    have hd : decide ((v : Int) < (s.size : Int)) = true := decide_eq_true (by omega)
    generalize hq : (((s[v]).toNat : Int) == 49) = q2 at *
    go_wp2_with fail
    with_reducible refine HN.out.mono ?_
    rintro e w2 ⟨rfl, rfl⟩
    go_wp2_with fail
    go_ret
    exact ⟨ret_bool (by rw [HLV.out, ← hb]; cases q2 <;> cases ng <;> rfl), rfl⟩
  · have hb := HNO.out hlt
    have hd : decide ((v : Int) < (s.size : Int)) = false := decide_eq_false (by omega)
    go_wp2_with fail
    with_reducible refine HN.out.mono ?_
    rintro e w2 ⟨rfl, rfl⟩
    go_wp2_with fail
    go_ret
    exact ⟨ret_bool (by rw [HLV.out, hb]; cases ng <;> rfl), rfl⟩

theorem bit_any (w : World) (b : Bool) : Calls Tryz.prog 83 #[.bool b] w fun e w' => e = .returned (.string (bs [b])) ∧ w' = w := by
  cases b
  all_goals
    go_enter Tryz.func83, Tryz.ntmps83
    go_wp2
    go_ret
    exact ⟨rfl, rfl⟩

set_option maxHeartbeats 2000000 in
theorem set_any (w : World) (s : ByteArray) (u : Nat) (c : UInt8) (hu : u < s.size) (hs : s.size ≤ 1000000) :
    Calls Tryz.prog 66 #[.string s, .int .i64 u, .int .u8 (c.toNat : Int)] w fun e w' => e = .returned (.string (s.extract 0 u ++ ⟨#[c]⟩ ++ s.extract (u + 1) s.size)) ∧ Below w.heap.size w w' := by
  have hu1 : (u : Int) + 1 ≤ (s.size : Int) := by omega
  have hu2 : (u : Int) ≤ (s.size : Int) := by omega
  have hwr : IntKind.i64.wrap ((u : Int) + 1) = (u : Int) + 1 := IntWalk.i64_in _ (by omega)
  have hu0' : (0 : Int) ≤ (u : Int) + 1 := by omega
  have hu00 : (0 : Int) ≤ (u : Int) := by omega
  have hl1 : ¬ 9223372036854775807 < u + 1 := by omega
  have hl2 : ¬ 9223372036854775807 < u + 1 + (s.size - (u + 1)) := by omega
  have e1 : ((u : Int) + 1).toNat = u + 1 := by omega
  have e2 : ((u : Int)).toNat = u := by omega
  have z1 : (s.extract 0 u).size = u := by rw [ByteArray.size_extract]; omega
  have z2 : (s.extract (u + 1) s.size).size = s.size - (u + 1) := by rw [ByteArray.size_extract]; omega
  go_enter Tryz.func66, Tryz.ntmps66
  go_wp2_with fail
  refine HeldAll.region (fun U : World => True) (by kernel_rfl) ?_
  obtain ⟨u0, hu0⟩ : ∃ U, w.drew = U := ⟨_, rfl⟩
  rw [hu0]
  have b0 : Below w.heap.size w u0 := by rw [← hu0]; exact (Below.refl _ _).drew
  (refine HeldAll.take (i := 0) (oi := _) (d := some 7) (v := ?_) rfl rfl (by kernel_rfl) (by kernel_rfl) (by kernel_rfl) (fun _ _ _ h => h) (Or.inl ⟨by rfl, ?_⟩) trivial ?_; rotate_left; (focus (intro w hSw; clear hSw; go_simp; (try with_reducible rfl); done)); (try simp only [Act.put, List.setIfInBounds_toArray, List.set_cons_zero, List.set_cons_succ]))
  (refine HeldAll.take (i := 1) (oi := _) (d := some 8) (v := ?_) rfl rfl (by kernel_rfl) (by kernel_rfl) (by kernel_rfl) (fun _ _ _ h => h) (Or.inl ⟨by rfl, ?_⟩) trivial ?_; rotate_left; (focus (intro w hSw; clear hSw; go_simp; (try with_reducible rfl); done)); (try simp only [Act.put, List.setIfInBounds_toArray, List.set_cons_zero, List.set_cons_succ]))
  (refine HeldAll.take (i := 2) (oi := _) (d := some 9) (v := ?_) rfl rfl (by kernel_rfl) (by kernel_rfl) (by kernel_rfl) (fun _ _ _ h => h) (Or.inl ⟨by rfl, ?_⟩) trivial ?_; rotate_left; (focus (intro w hSw; clear hSw; go_simp; (try with_reducible rfl); done)); (try simp only [Act.put, List.setIfInBounds_toArray, List.set_cons_zero, List.set_cons_succ]))
  (refine HeldAll.take (i := 3) (oi := _) (d := some 10) (v := ?_) rfl rfl (by kernel_rfl) (by kernel_rfl) (by kernel_rfl) (fun _ _ _ h => h) (Or.inl ⟨by rfl, ?_⟩) trivial ?_; rotate_left; (focus (intro w hSw; clear hSw; go_simp; (try with_reducible rfl); done)); (try simp only [Act.put, List.setIfInBounds_toArray, List.set_cons_zero, List.set_cons_succ]))
  (refine HeldAll.take (i := 7) (oi := _) (d := some 14) (v := ?_) rfl rfl (by kernel_rfl) (by kernel_rfl) (by kernel_rfl) (fun _ _ _ h => h) (Or.inl ⟨by rfl, ?_⟩) trivial ?_; rotate_left; (focus (intro w hSw; clear hSw; go_simp; (try with_reducible rfl); done)); (try simp only [Act.put, List.setIfInBounds_toArray, List.set_cons_zero, List.set_cons_succ]))
  (refine HeldAll.take (i := 8) (oi := _) (d := some 15) (v := ?_) rfl rfl (by kernel_rfl) (by kernel_rfl) (by kernel_rfl) (fun _ _ _ h => h) (Or.inl ⟨by rfl, ?_⟩) trivial ?_; rotate_left; (focus (intro w hSw; clear hSw; go_simp; (try with_reducible rfl); done)); (try simp only [Act.put, List.setIfInBounds_toArray, List.set_cons_zero, List.set_cons_succ]))
  (refine HeldAll.take (i := 9) (oi := _) (d := some 16) (v := ?_) rfl rfl (by kernel_rfl) (by kernel_rfl) (by kernel_rfl) (fun _ _ _ h => h) (Or.inl ⟨by rfl, ?_⟩) trivial ?_; rotate_left; (focus (intro w hSw; clear hSw; go_simp; (try with_reducible rfl); done)); (try simp only [Act.put, List.setIfInBounds_toArray, List.set_cons_zero, List.set_cons_succ]))
  (refine HeldAll.take (i := 10) (oi := _) (d := some 17) (v := ?_) rfl rfl (by kernel_rfl) (by kernel_rfl) (by kernel_rfl) (fun _ _ _ h => h) (Or.inl ⟨by rfl, ?_⟩) trivial ?_; rotate_left; (focus (intro w hSw; clear hSw; go_simp; (try with_reducible rfl); done)); (try simp only [Act.put, List.setIfInBounds_toArray, List.set_cons_zero, List.set_cons_succ]))
  obtain ⟨u1, hu1⟩ : ∃ V, u0.alloc (.cells #[.int .u8 (c.toNat : Int)] 5) = V := ⟨_, rfl⟩
  have b1 : Below w.heap.size w u1 := by rw [← hu1]; exact b0.alloc b0.size _
  have hcv : (convert 108 9 (.slice (some ⟨u0.heap.size, 0, none⟩) 1 1)).run Tryz.prog u1 = .ok (.string ⟨#[c]⟩) u1 := by
    have h := run_convert_bytes_back (P := Tryz.prog) u1 108 9 5 ⟨u0.heap.size, 0, none⟩ 1 [c] Tryz.underlying108 Tryz.underlying5 Tryz.underlying9 (fun j hj => by
      have hj0 : j = 0 := by simp at hj; exact hj
      subst hj0
      rw [← hu1, Addr.add_lit]
      simp [go_sem])
    exact h
  refine HeldAll.one (i := 4) (by kernel_rfl) ?_
  refine HeldAll.opVal (i := 4) (oi := _) (d := some 11) (v := .slice (some ⟨u0.heap.size, 0, none⟩) 1 1) (w2 := u1) rfl rfl (by rfl) (by rw [← hu1]; go_simp; done) trivial ?_
  (try simp only [Act.put, List.setIfInBounds_toArray, List.set_cons_zero, List.set_cons_succ])
  refine HeldAll.one (i := 5) (by kernel_rfl) ?_
  refine HeldAll.opVal (i := 5) (oi := _) (d := some 12) (v := .string ⟨#[c]⟩) (w2 := u1) rfl rfl (by rfl) (by simp only [execOp, Act.eval]; go_simp; done) trivial ?_
  (try simp only [Act.put, List.setIfInBounds_toArray, List.set_cons_zero, List.set_cons_succ])
  (refine HeldAll.take (i := 6) (oi := _) (d := some 13) (v := ?_) rfl rfl (by kernel_rfl) (by kernel_rfl) (by kernel_rfl) (fun _ _ _ h => h) (Or.inl ⟨by rfl, ?_⟩) trivial ?_; rotate_left; (focus (intro w hSw; clear hSw; go_simp; (try with_reducible rfl); done)); (try simp only [Act.put, List.setIfInBounds_toArray, List.set_cons_zero, List.set_cons_succ]))
  (refine HeldAll.take (i := 11) (oi := _) (d := some 18) (v := ?_) rfl rfl (by kernel_rfl) (by kernel_rfl) (by kernel_rfl) (fun _ _ _ h => h) (Or.inl ⟨by rfl, ?_⟩) trivial ?_; rotate_left; (focus (intro w hSw; clear hSw; go_simp; (try with_reducible rfl); done)); (try simp only [Act.put, List.setIfInBounds_toArray, List.set_cons_zero, List.set_cons_succ]))
  (refine HeldAll.take (i := 12) (oi := _) (d := some 6) (v := ?_) rfl rfl (by kernel_rfl) (by kernel_rfl) (by kernel_rfl) (fun _ _ _ h => h) (Or.inl ⟨by rfl, ?_⟩) trivial ?_; rotate_left; (focus (intro w hSw; clear hSw; go_simp; (try with_reducible rfl); done)); (try simp only [Act.put, List.setIfInBounds_toArray, List.set_cons_zero, List.set_cons_succ]))
  refine HeldAll.done (by kernel_rfl) ?_ _
  (try go_wp2_with fail)
  go_ret
  exact ⟨rfl, b1⟩
theorem set_bs (w : World) (L : List Bool) (u : Int) (b : Bool) (h0 : 0 ≤ u) (hu : u.toNat < L.length) (hs : L.length ≤ 1000000) (c : Int) (hc : c = ((byteB b).toNat : Int)) :
    Calls Tryz.prog 66 #[.string (bs L), .int .i64 u, .int .u8 c] w fun e w' => e = .returned (.string (bs (setB L u b))) ∧ Below w.heap.size w w' := by
  subst hc
  have h := set_any w (bs L) u.toNat (byteB b) (by rw [bs_size]; exact hu) (by rw [bs_size]; exact hs)
  rw [bs_set L hu b] at h
  have e : ((u.toNat : Nat) : Int) = u := by omega
  rw [e] at h
  exact h

theorem idx_take {L : List Bool} {k : Nat} (hk : k < L.length) : idx (L.take (k + 1)) = 2 * idx (L.take k) + bitN L[k] := by
  rw [List.take_succ_eq_append_getElem hk, idx_snoc]
theorem index_any (w : World) (L : List Bool) (hL : L.length ≤ 16) :
    Calls Tryz.prog 64 #[.string (bs L)] w fun e w' => e = .returned (.int .i64 (idx L)) ∧ w' = w := by
  have HSZ : Hid ((bs L).size = L.length) := bs_size L
  have hsz : (bs L).size ≤ 16 := by rw [bs_size]; exact hL
  have HBY : Hid (∀ (k : Nat) (h : k < (bs L).size), (bs L)[k]'h = byteB (L.getD k false)) := fun k h => bs_at L h
  have HIX : Hid (∀ k, k < (bs L).size → idx (L.take (k + 1)) = 2 * idx (L.take k) + bitN (L.getD k false)) := fun k h => by
    rw [bs_size] at h
    rw [idx_take h, List.getD_eq_getElem?_getD, List.getElem?_eq_getElem h]; rfl
  have HLE : Hid (∀ k, k ≤ 16 → idx (L.take k) < 65536) := fun k hk => by
    have := idx_lt (n := (L.take k).length) (s := L.take k) rfl
    have h2 : 2 ^ (L.take k).length ≤ 2 ^ 16 := Nat.pow_le_pow_right (by decide) (by rw [List.length_take]; omega)
    omega
  have HAL : Hid (L.take (bs L).size = L) := by show _ = _; rw [bs_size, List.take_length]
  generalize bs L = s at *
  go_enter Tryz.func64, Tryz.ntmps64
  go_wp2
  go_loop [3, 4] (fun n i => ∃ k : Nat, k ≤ s.size ∧ i = .int .i64 k ∧ n = .int .i64 (idx (L.take k))) (fun _ i => s.size - (intOf i).toNat)
  case atStart => exact ⟨0, Nat.zero_le _, rfl, rfl⟩
  case round =>
    obtain ⟨k, hk, rfl, rfl⟩ := hrel
    by_cases hlt : k < s.size
    · have hb := HBY.out k hlt
      have hix := HIX.out k hlt
      have hle := HLE.out k (by omega)
      generalize L.getD k false = b at *
      have HIXX := Lib.hid hix
      generalize idx (L.take k) = m at *
      cases b
      · have hb2 : (s[k].toNat : Int) = 48 := by rw [hb]; rfl
        clear hb hix
        go_wp2_with fail
        go_round
        case rel => exact ⟨k + 1, by omega, by go_num, by have h9 := HIXX.out; simp [bitN] at h9; go_num⟩
        case measure => simp [intOf]; omega
      · have hb2 : (s[k].toNat : Int) = 49 := by rw [hb]; rfl
        clear hb hix
        go_wp2_with fail
        go_round
        case rel => exact ⟨k + 1, by omega, by go_num, by have h9 := HIXX.out; simp [bitN] at h9; go_num⟩
        case measure => simp [intOf]; omega
    · have hks : k = s.size := by omega
      have HAL2 := HAL
      go_wp2_with fail
      go_ret
      exact ⟨by rw [HAL2.out]; rfl, rfl⟩

set_option maxHeartbeats 2000000 in
theorem holds_any (w : World) (L : List Bool) (hL : L.length ≤ 9223372036854775807) (a : Option Addr) (n c : Nat) (cl : List Int) (hsl : Sl w a n c (ints cl)) (h64 : ∀ y ∈ cl, 0 ≤ y ∧ y ≤ 9223372036854775807) :
    Calls Tryz.prog 67 #[.string (bs L), .slice a n c] w fun e w' => e = .returned (.bool (cl.any (litV L))) ∧ w' = w := by
  have HT : Hid (∀ (k : Nat) (h : k < cl.length), Calls Tryz.prog 41 #[.string (bs L), .int .i64 cl[k]] w fun e w' => e = .returned (.bool (litV L cl[k])) ∧ w' = w) := fun k h =>
    refTrue_any w L cl[k] (h64 _ (List.getElem_mem h)).1 (h64 _ (List.getElem_mem h)).2 hL
  have HLN : Hid (cl.length = n) := by have := hsl.len; rwa [ints_len] at this
  have hcap := hsl.cap
  have hbig := hsl.big
  have HS := Lib.hid hsl
  clear hsl h64 hL
  generalize bs L = s at *
  go_enter Tryz.func67, Tryz.ntmps67
  go_wp2_with fail
  go_loopw [5] (fun i wr => ∃ k : Nat, k ≤ n ∧ i = .int .i64 k ∧ Hid ((cl.take k).any (litV L) = false) ∧ wr = w) (fun i _ => n - (intOf i).toNat)
  case atStart => exact ⟨0, Nat.zero_le _, rfl, rfl, rfl⟩
  case round =>
    obtain ⟨k, hk, rfl, hF, rfl⟩ := hrel
    by_cases hlt : k < n
    · obtain ⟨b, o, hx, rfl, hbs, d0⟩ := HS.out.int hlt
      have HTK := Lib.hid (HT.out k hx)
      have HYE : Hid (litV L cl[k] = true → cl.any (litV L) = true) := fun h => List.any_eq_true.2 ⟨_, List.getElem_mem hx, h⟩
      have HNO : Hid (litV L cl[k] = false → (cl.take (k + 1)).any (litV L) = false) := fun h => by rw [List.take_succ_eq_append_getElem hx, List.any_append, hF.out]; simp [h]
      generalize cl[k] = y at *
      generalize litV L y = q at *
      go_wp2_with fail
      with_reducible refine HTK.out.mono ?_
      rintro e wx ⟨rfl, rfl⟩
      cases q
      · go_wp2_with fail
        go_roundw
        case rel => exact ⟨k + 1, by omega, by go_num, HNO.out (by first | rfl | trivial), (by first | rfl | trivial)⟩
        case measure => simp [intOf]; omega
      · go_wp2_with fail
        go_ret
        exact ⟨by rw [HYE.out (by first | rfl | trivial)]; rfl, rfl⟩
    · have HE : Hid (cl.any (litV L) = false) := by
        show _ = _
        have h := hF.out
        rwa [List.take_of_length_le (by have := HLN.out; omega)] at h
      go_wp2_with fail
      go_ret
      exact ⟨by rw [HE.out]; rfl, rfl⟩
end BadP
end Go.Proofs.YtninglnchengeaaGreat

/-
  interlockref03.first, of a circuit that may be.
-/
namespace Go.Proofs.YtninglnchengeaaGreat
open Go.RowKit Base
set_option linter.unusedVariables false
set_option linter.unusedSimpArgs false
namespace RefF
open Circuit

theorem refFirst_any (w : World) (x : Circ) (p : At) (hin : InCirc w x p) (hok : CheckOk x) (i : Nat) (hi : i < x.ands.length) :
    Calls Tryz.prog 58 #[.agg (cells x p), .int .i64 i] w fun e w' => e = .returned (.bool true) ∧ Below w.heap.size w w' := by
  obtain ⟨W1, hW1⟩ : ∃ W1, w.alloc (.cells (cells x p) 27) = W1 := ⟨_, rfl⟩
  obtain ⟨hb1, hc1⟩ := cbox_new w x p W1 hW1
  have HB1 := Lib.hid hb1
  have HC := Lib.hid hc1
  have HI := Lib.hid (hin.next hb1).ands
  have hord := StrashP.ord_of hok
  have HORD := Lib.hid hord
  have HLT : Hid (∀ j (hj : j < i), (x.ands[j]'(by omega)).1 < x.ands[i].1) := fun j hj => (List.pairwise_iff_getElem.1 hord.rise) j i (by omega) hi hj
  have hmax : x.ands[i].1 ≤ 10000 := by
    have h1 := ((StrashP.ownOk_iff.1 hok.2.1.1).1 x.ands[i].1 (by unfold ownL; exact List.mem_append_right _ (List.mem_map.2 ⟨_, List.getElem_mem _, rfl⟩))).2.2
    have h2 := hok.1.2.1
    unfold var at h1
    omega
  have hfi := hord.fine x.ands[i] (List.getElem_mem _)
  have HFI : Hid (x.ands[i].1 % 2 = 0 ∧ 2 ≤ x.ands[i].1 ∧ x.ands[i].1 ≤ 10000) := ⟨hfi.2.1, hfi.1, hmax⟩
  obtain ⟨m, hm⟩ : ∃ m, x.ands.length = m := ⟨_, rfl⟩
  have HM := Lib.hid hm
  have him : i < m := by omega
  obtain ⟨a1, c1, a2, c2, a3, c3, a4, c4, a5, c5, a6, c6, a7, c7⟩ := p
  simp only [cells] at hW1 ⊢
  clear hin hok hb1 hc1 hord hmax hfi hm
  go_enter Tryz.func58, Tryz.ntmps58
  go_wp2_with fail
  clear hW1
  go_loopw [5] (fun u wr => ∃ j : Nat, j ≤ i ∧ u = .int .i64 j ∧ ∃ q, wr = W1.drewN q) (fun u _ => i - (intOf u).toNat)
  case atStart => exact ⟨0, Nat.zero_le _, rfl, 0, rfl⟩
  case round =>
    obtain ⟨j, hj, rfl, q, rfl⟩ := hrel
    by_cases hlt : j < i
    · have h6 := HC.out.k6
      simp only [HM.out] at h6
      have hia := HI.out
      have hj2 : j < x.ands.length := by have := HM.out; omega
      obtain ⟨b, o, hx, hbo, hbs, e0, e1, e2⟩ := hia.tri hj2
      obtain ⟨b', o', hx', hbo', hbs', f0, f1, f2⟩ := hia.tri hi
      try simp only at hbo
      try simp only at hbo'
      have hcap := hia.cap
      have hbig : c6 ≤ 9223372036854775807 := hia.big
      simp only [HM.out] at hcap
      have hl := HLT.out j hlt
      have hfj := HORD.out.fine x.ands[j] (List.getElem_mem _)
      have hfi := HFI.out
      obtain ⟨g0, g1, g2⟩ := hfj
      subst hbo
      simp only [Option.some.injEq, Addr.mk.injEq, and_true] at hbo'
      obtain ⟨rfl, rfl⟩ := hbo'
      generalize x.ands[j].1 = tj at *
      generalize x.ands[i].1 = ti at *
      obtain ⟨s1, s2, s3⟩ := hfi
      obtain ⟨vj, hvj, hvj2⟩ : ∃ v : Int, Int.tdiv tj 2 = v ∧ v = tj / 2 := ⟨_, rfl, Int.tdiv_eq_ediv_of_nonneg (by omega)⟩
      obtain ⟨vi, hvi, hvi2⟩ : ∃ v : Int, Int.tdiv ti 2 = v ∧ v = ti / 2 := ⟨_, rfl, Int.tdiv_eq_ediv_of_nonneg (by omega)⟩
      have hwj : IntKind.i64.wrap vj = vj := IntWalk.i64_in _ (by omega)
      have hwi : IntKind.i64.wrap vi = vi := IntWalk.i64_in _ (by omega)
      have hne : (vj == vi) = false := by rw [beq_eq_false_iff_ne]; omega
      have hge : decide (0 ≤ tj) = true := decide_eq_true (by omega)
      have hge0 : 0 ≤ tj := by omega
      have hgi0 : 0 ≤ ti := by omega
      have hdj : tj / 2 = vj := hvj2.symm
      have hdi : ti / 2 = vi := hvi2.symm
      clear e1 e2 f1 f2 g2 hx hx' hj2 hia hl g0 g1 s1 s2 s3 hvj2 hvi2
      go_wp2_with fail
      go_quiet (fail)
      go_wp2_with fail
      go_roundw
      case rel => exact ⟨j + 1, by omega, by go_num, q + nq, by first | rfl | (rw [World.drewN_drewN])⟩
      case measure => simp [intOf]; omega
    · go_wp2_with fail
      go_ret
      exact ⟨rfl, HB1.out.trans ((below_drewN (Below.refl _ _) q).mono HB1.out.size)⟩
end RefF
end Go.Proofs.YtninglnchengeaaGreat

/-
  Plain: sorted, each once. No program.
-/
namespace Go.Proofs.YtninglnchengeaaGreat.Vals
set_option linter.unusedVariables false
set_option linter.unusedSimpArgs false
open Go.Lib

theorem get_bang (xs : List Int) (j : Nat) (hj : j < xs.length) : xs.toArray[j]! = xs[j] := by
  simp [hj]

theorem compact_inv (xs : List Int) (hs : xs.Pairwise (· ≤ ·)) : ∀ m, m ≤ xs.length → (compactUpTo xs.toArray m).Pairwise (· < ·) ∧ (∀ x, x ∈ compactUpTo xs.toArray m ↔ ∃ j, j < m ∧ xs.toArray[j]! = x) := by
  intro m
  induction m with
  | zero => intro _; exact ⟨by simp [compactUpTo], by simp [compactUpTo]⟩
  | succ m ih =>
    intro hm
    obtain ⟨h1, h2⟩ := ih (by omega)
    rw [compactUpTo_succ]
    have hle : ∀ i j, i < j → j < xs.length → xs.toArray[i]! ≤ xs.toArray[j]! := by
      intro i j hij hj
      rw [get_bang xs i (by omega), get_bang xs j hj]
      exact List.pairwise_iff_getElem.1 hs i j (by omega) hj hij
    by_cases hk : keeps xs.toArray m = true
    · rw [if_pos hk]
      have hne : m = 0 ∨ xs.toArray[m]! ≠ xs.toArray[m - 1]! := by
        by_cases h0 : m = 0
        · exact .inl h0
        · refine .inr fun he => ?_
          rw [keeps_neg (by omega) he] at hk
          cases hk
      refine ⟨?_, ?_⟩
      · rw [List.pairwise_append]
        refine ⟨h1, by simp, ?_⟩
        intro y hy z hz
        rw [List.mem_singleton] at hz
        subst hz
        obtain ⟨j, hj, rfl⟩ := (h2 y).1 hy
        rcases hne with h0 | hne
        · omega
        · have h3 := hle (m - 1) m (by omega) (by omega)
          by_cases hjm : j = m - 1
          · subst hjm
            omega
          · have h4 := hle j (m - 1) (by omega) (by omega)
            omega
      · intro x
        rw [List.mem_append, h2, List.mem_singleton]
        constructor
        · rintro (⟨j, hj, rfl⟩ | rfl)
          · exact ⟨j, by omega, rfl⟩
          · exact ⟨m, by omega, rfl⟩
        · rintro ⟨j, hj, rfl⟩
          by_cases hjm : j = m
          · exact .inr (by rw [hjm])
          · exact .inl ⟨j, by omega, rfl⟩
    · rw [if_neg hk, List.append_nil]
      refine ⟨h1, fun x => ?_⟩
      rw [h2]
      have he : m ≠ 0 ∧ xs.toArray[m]! = xs.toArray[m - 1]! := by
        refine ⟨fun h0 => hk (keeps_lt_one _ _ (by omega)), ?_⟩
        exact Classical.byContradiction fun hne => hk (keeps_pos hne)
      constructor
      · rintro ⟨j, hj, rfl⟩
        exact ⟨j, by omega, rfl⟩
      · rintro ⟨j, hj, rfl⟩
        by_cases hjm : j = m
        · exact ⟨m - 1, by omega, by rw [hjm]; exact he.2.symm⟩
        · exact ⟨j, by omega, rfl⟩

/-- Rising, each once. -/
def srt (zs : List Int) : List Int := compactUpTo (zs.mergeSort (fun x y => decide (x ≤ y))).toArray (zs.mergeSort (fun x y => decide (x ≤ y))).length

theorem srt_spec (zs : List Int) : (srt zs).Pairwise (· < ·) ∧ ∀ x, x ∈ srt zs ↔ x ∈ zs := by
  have h1 : (zs.mergeSort (fun x y => decide (x ≤ y))).Pairwise (fun x y => decide (x ≤ y) = true) :=
    List.pairwise_mergeSort (fun a b c h1 h2 => by simp only [decide_eq_true_eq] at *; omega) (fun a b => by simp only [Bool.or_eq_true, decide_eq_true_eq]; omega) zs
  obtain ⟨h2, h3⟩ := compact_inv (zs.mergeSort (fun x y => decide (x ≤ y))) (h1.imp fun h => by simpa using h) _ (Nat.le_refl _)
  refine ⟨h2, fun x => ?_⟩
  have hm : x ∈ zs ↔ x ∈ zs.mergeSort (fun x y => decide (x ≤ y)) := (List.mergeSort_perm zs _).mem_iff.symm
  unfold srt
  rw [h3, hm]
  constructor
  · rintro ⟨j, hj, rfl⟩
    rw [get_bang _ j hj]
    exact List.getElem_mem hj
  · intro h
    obtain ⟨j, hj, rfl⟩ := List.mem_iff_getElem.1 h
    exact ⟨j, hj, get_bang _ j hj⟩

theorem srt_one (zs : List Int) {x : Int} (h : x ∈ srt zs) : x ∈ zs := ((srt_spec zs).2 x).1 h
end Go.Proofs.YtninglnchengeaaGreat.Vals

/-
  Plain: a number into a list that rises, once; a list, sorted so. No program.
-/
namespace Go.Proofs.YtninglnchengeaaGreat.RefS
set_option linter.unusedVariables false
open Vals (srt srt_spec)

def ins (n : Int) : List Int → List Int
  | [] => [n]
  | x :: r => if x < n then x :: ins n r else if x = n then n :: r else n :: x :: r

def sorted (l : List Int) : List Int := l.foldl (fun o x => ins x o) []

theorem mem_ins {n y : Int} {l : List Int} : y ∈ ins n l ↔ y = n ∨ y ∈ l := by
  induction l with
  | nil => simp [ins]
  | cons x r ih =>
    unfold ins
    split
    · rw [List.mem_cons, ih, List.mem_cons]
      exact ⟨fun h => h.elim (fun h => .inr (.inl h)) (fun h => h.elim .inl (fun h => .inr (.inr h))), fun h => h.elim (fun h => .inr (.inl h)) (fun h => h.elim .inl (fun h => .inr (.inr h)))⟩
    · split
      · rename_i h
        subst h
        simp
      · simp

theorem ins_sorted {n : Int} {l : List Int} (h : l.Pairwise (· < ·)) : (ins n l).Pairwise (· < ·) := by
  induction l with
  | nil => simp [ins]
  | cons x r ih =>
    obtain ⟨h1, h2⟩ := List.pairwise_cons.1 h
    unfold ins
    split
    · rename_i hx
      refine List.pairwise_cons.2 ⟨fun y hy => ?_, ih h2⟩
      rcases mem_ins.1 hy with rfl | hy
      · exact hx
      · exact h1 y hy
    · split
      · rename_i hx
        subst hx
        exact h
      · refine List.pairwise_cons.2 ⟨fun y hy => ?_, h⟩
        rcases List.mem_cons.1 hy with rfl | hy
        · omega
        · have := h1 y hy
          omega

theorem ins_len (n : Int) (l : List Int) : (ins n l).length ≤ l.length + 1 := by
  induction l with
  | nil => simp [ins]
  | cons x r ih =>
    unfold ins
    split
    · simp; omega
    · split <;> simp

theorem ins_split {n : Int} {l : List Int} {j : Nat} (h : ∀ y ∈ l.take j, y < n) : ins n l = l.take j ++ ins n (l.drop j) := by
  induction l generalizing j with
  | nil => simp
  | cons x r ih =>
    cases j with
    | zero => simp
    | succ j =>
      have hx : x < n := h x (by simp)
      rw [List.take_succ_cons, List.drop_succ_cons, List.cons_append, ← ih (fun y hy => h y (by simp [hy]))]
      show (if x < n then x :: ins n r else _) = _
      rw [if_pos hx]

theorem ins_end {n : Int} {l : List Int} (h : ∀ y ∈ l, y < n) : ins n l = l ++ [n] := by
  have := ins_split (n := n) (l := l) (j := l.length) (by rw [List.take_length]; exact h)
  rw [List.take_length, List.drop_length] at this
  exact this
theorem ins_hit {n : Int} {l : List Int} {j : Nat} (h : ∀ y ∈ l.take j, y < n) (hj : j < l.length) (he : l[j] = n) : ins n l = l.take j ++ [n] ++ l.drop (j + 1) := by
  rw [ins_split h, List.drop_eq_getElem_cons hj, List.append_assoc]
  show l.take j ++ (if l[j] < n then _ else if l[j] = n then n :: l.drop (j + 1) else _) = _
  rw [if_neg (by omega), if_pos he]
  rfl
theorem ins_gap {n : Int} {l : List Int} {j : Nat} (h : ∀ y ∈ l.take j, y < n) (hj : j < l.length) (he : n < l[j]) : ins n l = l.take j ++ [n] ++ l.drop j := by
  rw [ins_split h, List.append_assoc]
  congr 1
  rw [List.drop_eq_getElem_cons hj]
  show (if l[j] < n then _ else if l[j] = n then _ else n :: l[j] :: l.drop (j + 1)) = _
  rw [if_neg (by omega), if_neg (by omega)]
  rfl

theorem fold_spec (l o : List Int) (ho : o.Pairwise (· < ·)) : (l.foldl (fun o x => ins x o) o).Pairwise (· < ·) ∧ (∀ y, y ∈ l.foldl (fun o x => ins x o) o ↔ y ∈ o ∨ y ∈ l) ∧ (l.foldl (fun o x => ins x o) o).length ≤ o.length + l.length := by
  induction l generalizing o with
  | nil => exact ⟨ho, by simp, by simp⟩
  | cons x r ih =>
    obtain ⟨h1, h2, h3⟩ := ih (ins x o) (ins_sorted ho)
    refine ⟨h1, fun y => ?_, ?_⟩
    · rw [List.foldl_cons, h2, mem_ins, List.mem_cons]
      exact ⟨fun h => h.elim (fun h => h.elim (fun h => .inr (.inl h)) .inl) (fun h => .inr (.inr h)), fun h => h.elim (fun h => .inl (.inr h)) (fun h => h.elim (fun h => .inl (.inl h)) .inr)⟩
    · have := ins_len x o
      rw [List.foldl_cons, List.length_cons]
      omega

theorem sorted_spec (l : List Int) : (sorted l).Pairwise (· < ·) ∧ (∀ y, y ∈ sorted l ↔ y ∈ l) ∧ (sorted l).length ≤ l.length := by
  obtain ⟨h1, h2, h3⟩ := fold_spec l [] List.Pairwise.nil
  exact ⟨h1, fun y => by rw [sorted, h2]; simp, by unfold sorted; simpa using h3⟩

theorem strict_ext {a b : List Int} (ha : a.Pairwise (· < ·)) (hb : b.Pairwise (· < ·)) (h : ∀ v, v ∈ a ↔ v ∈ b) : a = b := by
  have na : a.Nodup := ha.imp (fun h => by omega)
  have nb : b.Nodup := hb.imp (fun h => by omega)
  have hp : a.Perm b := (List.perm_ext_iff_of_nodup na nb).2 h
  exact List.Perm.eq_of_pairwise (le := fun a b => a < b) (fun a b _ _ h1 h2 => by omega) ha hb hp

theorem sorted_eq (l : List Int) : sorted l = srt l := strict_ext (sorted_spec l).1 (srt_spec l).1 (fun v => ((sorted_spec l).2.1 v).trans ((srt_spec l).2 v).symm)

theorem sorted_more {l : List Int} {k : Nat} (h : k < l.length) : sorted (l.take (k + 1)) = ins l[k] (sorted (l.take k)) := by
  unfold sorted
  rw [List.take_succ_eq_append_getElem h, List.foldl_append]
  rfl
theorem sorted_take (l : List Int) (k : Nat) : (sorted (l.take k)).length ≤ k := by
  have := (sorted_spec (l.take k)).2.2
  rw [List.length_take] at this
  omega
end Go.Proofs.YtninglnchengeaaGreat.RefS

/-
  interlockref01.Put.
-/
namespace Go.Proofs.YtninglnchengeaaGreat
open Go.RowKit Base
set_option linter.unusedVariables false
set_option linter.unusedSimpArgs false
namespace RefS
open Vals (srt srt_spec)

theorem info_i : (Tryz.prog.info? 3).map (fun i => (i.zero, i.size, i.bytes)) = some (some (.int .i64 0), 1, 8) := by kernel_rfl
theorem ints_app (xs ys : List Int) : ints xs ++ ints ys = ints (xs ++ ys) := by simp [ints]
theorem sl_drop {w : World} {b o n c : Nat} {l : List Int} (h : Sl w (some ⟨b, o, none⟩) n c (ints l)) {k : Nat} (hk : k ≤ n) :
    Sl w (some ⟨b, o + k, none⟩) (n - k) (c - k) (ints (l.drop k)) := by
  have h2 : ints (l.drop k) = (ints l).drop k := by unfold ints; rw [List.map_drop]
  rw [h2]
  exact ⟨by rw [List.length_drop, h.len], by have := h.cap; omega, by have := h.big; omega, (by intro e; cases e), fun j x hx => by
    rw [List.getElem?_drop] at hx
    obtain ⟨b', o', ha, hs, hc⟩ := h.cell (k + j) x hx
    simp only [Option.some.injEq, Addr.mk.injEq] at ha
    obtain ⟨rfl, rfl, _⟩ := ha
    exact ⟨b, o + k, rfl, hs, by rw [Nat.add_assoc]; exact hc⟩⟩
theorem sl_empty (w : World) (x : Addr) (c : Nat) {n : Nat} (hn : n = 0) (hc : c ≤ 9223372036854775807) : Sl w (some x) n c (ints []) := by
  subst hn
  exact ⟨rfl, Nat.zero_le _, hc, (by intro e; cases e), fun k x h => by simp [ints] at h⟩
theorem take_lt {l : List Int} {n : Int} {j : Nat} (hj : j < l.length) (h : ∀ y ∈ l.take j, y < n) (he : l[j] < n) : ∀ y ∈ l.take (j + 1), y < n := fun y hy => by
  rw [List.take_succ_eq_append_getElem hj] at hy
  rcases List.mem_append.1 hy with hy | hy
  · exact h y hy
  · rw [List.mem_singleton.1 hy]; exact he

set_option maxHeartbeats 4000000 in
theorem put_any (w : World) (a : Option Addr) (n c : Nat) (l : List Int) (hsl : Sl w a n c (ints l)) (hn : (n + 1) * 8 ≤ 140737488355328) (x : Int) :
    Calls Tryz.prog 57 #[.slice a n c, .int .i64 x] w fun e w' => ∃ a' c', e = .returned (.slice a' (ins x l).length c') ∧ w'.ownsRow w.heap.size 3 1 (.slice a' (ins x l).length c') (ins x l).length (ints (ins x l)) ∧ Below w.heap.size w w' := by
  have HL : Hid (l.length = n) := by have := hsl.len; rwa [ints_len] at this
  have hcap := hsl.cap
  have hbig := hsl.big
  have HSL := Lib.hid hsl
  have HN := Lib.hid hn
  clear hsl hn
  go_enter Tryz.func57, Tryz.ntmps57
  go_wp2_with fail
  go_loopw [5, 6] (fun s i wr => ∃ (j : Nat) (a' : Option Addr) (c' : Nat), j ≤ n ∧ i = .int .i64 j ∧ s = .slice a' j c' ∧ Hid (∀ y ∈ l.take j, y < x) ∧ Hid (wr.ownsRow w.heap.size 3 1 (.slice a' j c') j (ints (l.take j))) ∧ Hid (Below w.heap.size w wr)) (fun _ i _ => n - (intOf i).toNat)
  case atStart => exact ⟨0, none, 0, Nat.zero_le _, rfl, rfl, (by intro y hy; simp at hy), World.ownsRow_nil _ _ _ _, Below.refl _ _⟩
  case round =>
    obtain ⟨j, a', c', hj, rfl, rfl, hA, hO, hB⟩ := hrel
    have HJ8 : Hid ((j + 1) * 8 ≤ 140737488355328) := by show _ ≤ _; have := HN.out; omega
    have hbz : w.heap.size ≤ wr.heap.size := hB.out.size
    have HBZ := Lib.hid hbz
    clear hbz
    have hcj : ¬ c < j := by omega
    by_cases hlt : j < n
    · obtain ⟨b, o, hx, rfl, hbs, hcw⟩ := HSL.out.int hlt
      have hc := (hB.out.cell (p := ⟨b, o + j, none⟩) hbs).trans hcw
      have HC3 := Lib.hid (fun (U : World) (hU : Below w.heap.size w U) => (hU.cell (p := ⟨b, o + j, none⟩) hbs).trans hcw)
      have HT := Lib.hid (List.take_succ_eq_append_getElem hx)
      clear hcw
      by_cases hq : l[j] < x
      · have HA2 := Lib.hid (take_lt hx hA.out hq)
        have v0 : decide (l[j] < x) = true := decide_eq_true hq
        generalize l[j] = p at *
        clear hx hq
        go_wp2_with (first | ((with_reducible refine wpL_push w.heap.size wr (.int .i64 p) (.slice a' j c') j (ints (l.take j)) info_i Tryz.underlying22 rfl ?_ ?_ ?_ rfl hO.out HBZ.out HJ8.out ?_ hB.out ?_); rfl; rfl; rfl; (have := HJ8.out; omega); (intro a3 c3 w3 hown3 hb3 hz3)))
        have HO3 := Lib.hid hown3
        have HB3 := Lib.hid hb3
        clear hown3 hb3 hz3 hc
        go_wp2_with fail
        go_roundw
        case rel => exact ⟨j + 1, a3, c3, by omega, by go_num, rfl, HA2.out, by rw [HT.out, ← ints_app]; exact HO3.out, HB3.out⟩
        case measure => simp [intOf]; omega
      · have v0 : decide (l[j] < x) = false := decide_eq_false hq
        by_cases he : l[j] = x
        · have v1 : (l[j] == x) = true := by simp [he]
          have HI := Lib.hid (ins_hit hA.out hx he)
          generalize l[j] = p at *
          clear hx hq he
          have hcj1 : ¬ c < j + 1 := by omega
          have hnj1 : ¬ n < j + 1 := by omega
          have HDL : Hid (l.drop (j + 1) = l.drop (j + 1)) := rfl
          by_cases hck : c = j + 1
          · have HE := Lib.hid (fun (U : World) => sl_empty U ⟨b, o, none⟩ 0 (n := n - (j + 1)) (by omega) (by omega))
            have HDE : Hid (l.drop (j + 1) = []) := List.drop_of_length_le (by have := HL.out; omega)
            go_wp2_with (first | ((with_reducible refine wpL_push w.heap.size wr (.int .i64 x) (.slice a' j c') j (ints (l.take j)) info_i Tryz.underlying22 rfl ?_ ?_ ?_ rfl hO.out HBZ.out HJ8.out ?_ hB.out ?_); rfl; rfl; rfl; (have := HJ8.out; omega); (intro a3 c3 w3 hown3 hb3 hz3; have HO3 := Lib.hid hown3; have HB3 := Lib.hid hb3; have HD3 := Lib.hid (HE.out w3); have hc3 := HC3.out w3 hb3; clear hown3 hb3 hz3 hc)) | ((with_reducible refine wpL_app w.heap.size (.slice a3 (j + 1) c3) (j + 1) (ints (l.take j) ++ [.int .i64 x]) (some ⟨b, o, none⟩) (n - (j + 1)) 0 (ints []) info_i Tryz.underlying22 rfl ?_ ?_ (ints_one _) HO3.out HD3.out HB3.out.size ?_ ?_ HB3.out ?_); rfl; rfl; (have := HN.out; omega); (have := HN.out; omega); (intro a4 c4 w4 hown4 hb4 hz4)))
            have HO4 := Lib.hid hown4
            have HB4 := Lib.hid hb4
            clear hown4 hb4 hz4 hc3
            go_ret
            have hlen : (ins x l).length = j + 1 + (n - (j + 1)) := by
              rw [HI.out]
              have h1 := HL.out
              simp only [List.length_append, List.length_take, List.length_drop, List.length_cons, List.length_nil]
              omega
            have hint : ints (ins x l) = ints (l.take j) ++ [.int .i64 x] ++ (ints []) := by rw [HI.out]; simp [ints, HDE.out]
            exact ⟨a4, c4, by rw [hlen]; rfl, by rw [hlen, hint]; exact HO4.out, HB4.out⟩
          · have HDR := Lib.hid (fun (U : World) (hU : Below w.heap.size w U) => sl_drop (HSL.out.next hU) (k := j + 1) (by omega))
            go_wp2_with (first | ((with_reducible refine wpL_push w.heap.size wr (.int .i64 x) (.slice a' j c') j (ints (l.take j)) info_i Tryz.underlying22 rfl ?_ ?_ ?_ rfl hO.out HBZ.out HJ8.out ?_ hB.out ?_); rfl; rfl; rfl; (have := HJ8.out; omega); (intro a3 c3 w3 hown3 hb3 hz3; have HO3 := Lib.hid hown3; have HB3 := Lib.hid hb3; have HD3 := Lib.hid (HDR.out w3 hb3); have hc3 := HC3.out w3 hb3; clear hown3 hb3 hz3 hc)) | ((with_reducible refine wpL_app w.heap.size (.slice a3 (j + 1) c3) (j + 1) (ints (l.take j) ++ [.int .i64 x]) (some ⟨b, o + (j + 1), none⟩) (n - (j + 1)) (c - (j + 1)) (ints (l.drop (j + 1))) info_i Tryz.underlying22 rfl ?_ ?_ (ints_one _) HO3.out HD3.out HB3.out.size ?_ ?_ HB3.out ?_); rfl; rfl; (have := HN.out; omega); (have := HN.out; omega); (intro a4 c4 w4 hown4 hb4 hz4)))
            have HO4 := Lib.hid hown4
            have HB4 := Lib.hid hb4
            clear hown4 hb4 hz4 hc3
            go_ret
            have hlen : (ins x l).length = j + 1 + (n - (j + 1)) := by
              rw [HI.out]
              have h1 := HL.out
              simp only [List.length_append, List.length_take, List.length_drop, List.length_cons, List.length_nil]
              omega
            have hint : ints (ins x l) = ints (l.take j) ++ [.int .i64 x] ++ (ints (l.drop (j + 1))) := by rw [HI.out]; simp [ints, HDL.out]
            exact ⟨a4, c4, by rw [hlen]; rfl, by rw [hlen, hint]; exact HO4.out, HB4.out⟩
        · have v1 : (l[j] == x) = false := by simp [he]
          have HI := Lib.hid (ins_gap hA.out hx (by omega))
          generalize l[j] = p at *
          clear hx hq he
          have hnj1 : ¬ n < j := by omega
          have HDL : Hid (l.drop (j) = l.drop (j)) := rfl
          by_cases hck : c = j
          · exact absurd hck (by omega)
          · have HDR := Lib.hid (fun (U : World) (hU : Below w.heap.size w U) => sl_drop (HSL.out.next hU) (k := j) (by omega))
            go_wp2_with (first | ((with_reducible refine wpL_push w.heap.size wr (.int .i64 x) (.slice a' j c') j (ints (l.take j)) info_i Tryz.underlying22 rfl ?_ ?_ ?_ rfl hO.out HBZ.out HJ8.out ?_ hB.out ?_); rfl; rfl; rfl; (have := HJ8.out; omega); (intro a3 c3 w3 hown3 hb3 hz3; have HO3 := Lib.hid hown3; have HB3 := Lib.hid hb3; have HD3 := Lib.hid (HDR.out w3 hb3); have hc3 := HC3.out w3 hb3; clear hown3 hb3 hz3 hc)) | ((with_reducible refine wpL_app w.heap.size (.slice a3 (j + 1) c3) (j + 1) (ints (l.take j) ++ [.int .i64 x]) (some ⟨b, o + (j), none⟩) (n - (j)) (c - (j)) (ints (l.drop (j))) info_i Tryz.underlying22 rfl ?_ ?_ (ints_one _) HO3.out HD3.out HB3.out.size ?_ ?_ HB3.out ?_); rfl; rfl; (have := HN.out; omega); (have := HN.out; omega); (intro a4 c4 w4 hown4 hb4 hz4)))
            have HO4 := Lib.hid hown4
            have HB4 := Lib.hid hb4
            clear hown4 hb4 hz4 hc3
            go_ret
            have hlen : (ins x l).length = j + 1 + (n - (j)) := by
              rw [HI.out]
              have h1 := HL.out
              simp only [List.length_append, List.length_take, List.length_drop, List.length_cons, List.length_nil]
              omega
            have hint : ints (ins x l) = ints (l.take j) ++ [.int .i64 x] ++ (ints (l.drop (j))) := by rw [HI.out]; simp [ints, HDL.out]
            exact ⟨a4, c4, by rw [hlen]; rfl, by rw [hlen, hint]; exact HO4.out, HB4.out⟩
    · have hke : j = n := by omega
      have HI : Hid (ins x l = l.take j ++ [x] ++ l.drop j) := by
        show _ = _
        rw [ins_end (by
          have h := hA.out
          rwa [List.take_of_length_le (by have := HL.out; omega)] at h), List.take_of_length_le (by have := HL.out; omega), List.drop_of_length_le (by have := HL.out; omega), List.append_nil]
      have hnj1 : ¬ n < j := by omega
      clear hke
      by_cases ha : a = none
      · have hbare := HSL.out.bare ha
        subst ha
        obtain ⟨rfl, rfl⟩ := hbare
        obtain rfl : j = 0 := by omega
        have HDL : Hid (l.drop 0 = []) := by show _ = _; rw [List.drop_zero]; exact List.eq_nil_of_length_eq_zero HL.out
        go_wp2_with (first | ((with_reducible refine wpL_push w.heap.size wr (.int .i64 x) (.slice a' 0 c') 0 (ints (l.take 0)) info_i Tryz.underlying22 rfl ?_ ?_ ?_ rfl hO.out HBZ.out HJ8.out ?_ hB.out ?_); rfl; rfl; rfl; (have := HJ8.out; omega); (intro a3 c3 w3 hown3 hb3 hz3; have HO3 : Hid (w3.ownsRow w.heap.size 3 1 (.slice a3 1 c3) 1 (ints (l.take 0) ++ [.int .i64 x])) := hown3; have HB3 := Lib.hid hb3; have HD3 : Hid (Sl w3 none 0 0 (ints [])) := Sl.nil w3; clear hown3 hb3 hz3)) | ((with_reducible refine wpL_app w.heap.size (.slice a3 1 c3) 1 (ints (l.take 0) ++ [.int .i64 x]) none 0 0 (ints []) info_i Tryz.underlying22 rfl ?_ ?_ (ints_one _) HO3.out HD3.out HB3.out.size ?_ ?_ HB3.out ?_); rfl; rfl; omega; omega; (intro a4 c4 w4 hown4 hb4 hz4)))
        have HO4 := Lib.hid hown4
        have HB4 := Lib.hid hb4
        clear hown4 hb4 hz4
        go_ret
        have hlen : (ins x l).length = 1 + 0 := by
          rw [HI.out]
          have h1 := HL.out
          simp only [List.length_append, List.length_take, List.length_drop, List.length_cons, List.length_nil]
          omega
        have hint : ints (ins x l) = ints (l.take 0) ++ [.int .i64 x] ++ (ints []) := by rw [HI.out]; simp [ints, HDL.out]
        exact ⟨a4, c4, by rw [hlen]; rfl, by rw [hlen, hint]; exact HO4.out, HB4.out⟩
      · by_cases hn0 : n = 0
        · subst hn0
          obtain rfl : j = 0 := by omega
          obtain ⟨ad, rfl⟩ := Option.ne_none_iff_exists'.1 ha
          have HDL : Hid (l.drop 0 = []) := by show _ = _; rw [List.drop_zero]; exact List.eq_nil_of_length_eq_zero HL.out
          have HE := Lib.hid (fun (U : World) (z : Addr) (d : Nat) (hd : d ≤ 9223372036854775807) => sl_empty U z d (n := 0) rfl hd)
          by_cases hc0 : c = 0
          · go_wp2_with (first | ((with_reducible refine wpL_push w.heap.size wr (.int .i64 x) (.slice a' 0 c') 0 (ints (l.take 0)) info_i Tryz.underlying22 rfl ?_ ?_ ?_ rfl hO.out HBZ.out HJ8.out ?_ hB.out ?_); rfl; rfl; rfl; (have := HJ8.out; omega); (intro a3 c3 w3 hown3 hb3 hz3; have HO3 : Hid (w3.ownsRow w.heap.size 3 1 (.slice a3 1 c3) 1 (ints (l.take 0) ++ [.int .i64 x])) := hown3; have HB3 := Lib.hid hb3; have HD3 := Lib.hid (HE.out w3 ad 0 (by omega)); clear hown3 hb3 hz3)) | ((with_reducible refine wpL_app w.heap.size (.slice a3 1 c3) 1 (ints (l.take 0) ++ [.int .i64 x]) (some ad) 0 0 (ints []) info_i Tryz.underlying22 rfl ?_ ?_ (ints_one _) HO3.out HD3.out HB3.out.size ?_ ?_ HB3.out ?_); rfl; rfl; omega; omega; (intro a4 c4 w4 hown4 hb4 hz4)))
            have HO4 := Lib.hid hown4
            have HB4 := Lib.hid hb4
            clear hown4 hb4 hz4
            go_ret
            have hlen : (ins x l).length = 1 + 0 := by
              rw [HI.out]
              have h1 := HL.out
              simp only [List.length_append, List.length_take, List.length_drop, List.length_cons, List.length_nil]
              omega
            have hint : ints (ins x l) = ints (l.take 0) ++ [.int .i64 x] ++ (ints []) := by rw [HI.out]; simp [ints, HDL.out]
            exact ⟨a4, c4, by rw [hlen]; rfl, by rw [hlen, hint]; exact HO4.out, HB4.out⟩
          · have hc0' : ¬ 0 = c := fun h => hc0 h.symm
            go_wp2_with (first | ((with_reducible refine wpL_push w.heap.size wr (.int .i64 x) (.slice a' 0 c') 0 (ints (l.take 0)) info_i Tryz.underlying22 rfl ?_ ?_ ?_ rfl hO.out HBZ.out HJ8.out ?_ hB.out ?_); rfl; rfl; rfl; (have := HJ8.out; omega); (intro a3 c3 w3 hown3 hb3 hz3; have HO3 : Hid (w3.ownsRow w.heap.size 3 1 (.slice a3 1 c3) 1 (ints (l.take 0) ++ [.int .i64 x])) := hown3; have HB3 := Lib.hid hb3; have HD3 := Lib.hid (HE.out w3 (ad.add 0) c hbig); clear hown3 hb3 hz3)) | ((with_reducible refine wpL_app w.heap.size (.slice a3 1 c3) 1 (ints (l.take 0) ++ [.int .i64 x]) (some (ad.add 0)) 0 c (ints []) info_i Tryz.underlying22 rfl ?_ ?_ (ints_one _) HO3.out HD3.out HB3.out.size ?_ ?_ HB3.out ?_); rfl; rfl; omega; omega; (intro a4 c4 w4 hown4 hb4 hz4)))
            have HO4 := Lib.hid hown4
            have HB4 := Lib.hid hb4
            clear hown4 hb4 hz4
            go_ret
            have hlen : (ins x l).length = 1 + 0 := by
              rw [HI.out]
              have h1 := HL.out
              simp only [List.length_append, List.length_take, List.length_drop, List.length_cons, List.length_nil]
              omega
            have hint : ints (ins x l) = ints (l.take 0) ++ [.int .i64 x] ++ (ints []) := by rw [HI.out]; simp [ints, HDL.out]
            exact ⟨a4, c4, by rw [hlen]; rfl, by rw [hlen, hint]; exact HO4.out, HB4.out⟩
        · obtain ⟨b, o, _, hab, _⟩ := HSL.out.int (k := 0) (by omega)
          subst hab
          have HDL : Hid (l.drop (j) = l.drop (j)) := rfl
          by_cases hck : c = j
          · have HE := Lib.hid (fun (U : World) => sl_empty U ⟨b, o, none⟩ 0 (n := n - (j)) (by omega) (by omega))
            have HDE : Hid (l.drop (j) = []) := List.drop_of_length_le (by have := HL.out; omega)
            go_wp2_with (first | ((with_reducible refine wpL_push w.heap.size wr (.int .i64 x) (.slice a' j c') j (ints (l.take j)) info_i Tryz.underlying22 rfl ?_ ?_ ?_ rfl hO.out HBZ.out HJ8.out ?_ hB.out ?_); rfl; rfl; rfl; (have := HJ8.out; omega); (intro a3 c3 w3 hown3 hb3 hz3; have HO3 := Lib.hid hown3; have HB3 := Lib.hid hb3; have HD3 := Lib.hid (HE.out w3); clear hown3 hb3 hz3)) | ((with_reducible refine wpL_app w.heap.size (.slice a3 (j + 1) c3) (j + 1) (ints (l.take j) ++ [.int .i64 x]) (some ⟨b, o, none⟩) (n - (j)) 0 (ints []) info_i Tryz.underlying22 rfl ?_ ?_ (ints_one _) HO3.out HD3.out HB3.out.size ?_ ?_ HB3.out ?_); rfl; rfl; (have := HN.out; omega); (have := HN.out; omega); (intro a4 c4 w4 hown4 hb4 hz4)))
            have HO4 := Lib.hid hown4
            have HB4 := Lib.hid hb4
            clear hown4 hb4 hz4
            go_ret
            have hlen : (ins x l).length = j + 1 + (n - (j)) := by
              rw [HI.out]
              have h1 := HL.out
              simp only [List.length_append, List.length_take, List.length_drop, List.length_cons, List.length_nil]
              omega
            have hint : ints (ins x l) = ints (l.take j) ++ [.int .i64 x] ++ (ints []) := by rw [HI.out]; simp [ints, HDE.out]
            exact ⟨a4, c4, by rw [hlen]; rfl, by rw [hlen, hint]; exact HO4.out, HB4.out⟩
          · have HDR := Lib.hid (fun (U : World) (hU : Below w.heap.size w U) => sl_drop (HSL.out.next hU) (k := j) (by omega))
            go_wp2_with (first | ((with_reducible refine wpL_push w.heap.size wr (.int .i64 x) (.slice a' j c') j (ints (l.take j)) info_i Tryz.underlying22 rfl ?_ ?_ ?_ rfl hO.out HBZ.out HJ8.out ?_ hB.out ?_); rfl; rfl; rfl; (have := HJ8.out; omega); (intro a3 c3 w3 hown3 hb3 hz3; have HO3 := Lib.hid hown3; have HB3 := Lib.hid hb3; have HD3 := Lib.hid (HDR.out w3 hb3); clear hown3 hb3 hz3)) | ((with_reducible refine wpL_app w.heap.size (.slice a3 (j + 1) c3) (j + 1) (ints (l.take j) ++ [.int .i64 x]) (some ⟨b, o + (j), none⟩) (n - (j)) (c - (j)) (ints (l.drop (j))) info_i Tryz.underlying22 rfl ?_ ?_ (ints_one _) HO3.out HD3.out HB3.out.size ?_ ?_ HB3.out ?_); rfl; rfl; (have := HN.out; omega); (have := HN.out; omega); (intro a4 c4 w4 hown4 hb4 hz4)))
            have HO4 := Lib.hid hown4
            have HB4 := Lib.hid hb4
            clear hown4 hb4 hz4
            go_ret
            have hlen : (ins x l).length = j + 1 + (n - (j)) := by
              rw [HI.out]
              have h1 := HL.out
              simp only [List.length_append, List.length_take, List.length_drop, List.length_cons, List.length_nil]
              omega
            have hint : ints (ins x l) = ints (l.take j) ++ [.int .i64 x] ++ (ints (l.drop (j))) := by rw [HI.out]; simp [ints, HDL.out]
            exact ⟨a4, c4, by rw [hlen]; rfl, by rw [hlen, hint]; exact HO4.out, HB4.out⟩

end RefS
end Go.Proofs.YtninglnchengeaaGreat

/-
  Plain: the reference's way to what literals hang on: a list that rises, put into again and again.
-/
namespace Go.Proofs.YtninglnchengeaaGreat
open Go.RowKit Base
set_option linter.unusedVariables false
set_option linter.unusedSimpArgs false
namespace Coi
open Circuit RefS

/-- A variable put, but 0. -/
def pz (v : Int) (T : List Int) : List Int := if v = 0 then T else RefS.ins v T
theorem pz_rise {v : Int} {T : List Int} (h : T.Pairwise (· < ·)) : (pz v T).Pairwise (· < ·) := by
  unfold pz; split
  · exact h
  · exact ins_sorted h
theorem pz_mem {v u : Int} {T : List Int} : u ∈ pz v T ↔ u ∈ T ∨ (u = v ∧ v ≠ 0) := by
  unfold pz; split
  · rename_i h
    constructor
    · exact Or.inl
    · rintro (h1 | ⟨_, h2⟩)
      · exact h1
      · exact absurd h h2
  · rename_i h
    rw [mem_ins]
    constructor
    · rintro (h1 | h1)
      · exact Or.inr ⟨h1, h⟩
      · exact Or.inl h1
    · rintro (h1 | ⟨h1, _⟩)
      · exact Or.inr h1
      · exact Or.inl h1
theorem rise_nodup {T : List Int} (h : T.Pairwise (· < ·)) : T.Nodup := h.imp fun h => by omega
theorem rise_sub {T T2 : List Int} (h : T.Pairwise (· < ·)) (hs : ∀ v ∈ T, v ∈ T2) : T.length ≤ T2.length := nodup_len (rise_nodup h) hs
/-- A list that rises and holds another one and is no longer is that one. -/
theorem rise_same {T T2 : List Int} (h : T.Pairwise (· < ·)) (h2 : T2.Pairwise (· < ·)) (hs : ∀ v ∈ T, v ∈ T2) (hl : T2.length ≤ T.length) : T2 = T := by
  refine strict_ext h2 h fun v => ⟨fun hv => ?_, hs v⟩
  refine Classical.byContradiction fun hn => ?_
  have : (v :: T).length ≤ T2.length := nodup_len (by rw [List.nodup_cons]; exact ⟨hn, rise_nodup h⟩) (fun u hu => by
    rcases List.mem_cons.1 hu with rfl | hu
    · exact hv
    · exact hs u hu)
  simp only [List.length_cons] at this
  omega

structure RInv (x : Circ) (L T : List Int) : Prop where
  rise : T.Pairwise (· < ·)
  sound : ∀ v ∈ T, v ≠ 0 ∧ Rch x.ands L v
/-- What a gate wants is there. -/
def ClosedT (T : List Int) (t : Tri) : Prop := var t.1 ∈ T → (var t.2.1 = 0 ∨ var t.2.1 ∈ T) ∧ (var t.2.2 = 0 ∨ var t.2.2 ∈ T)
theorem rinv_few {x : Circ} {L T : List Int} (h : RInv x L T) : T.length ≤ L.length + 2 * x.ands.length := by
  have := nodup_len (rise_nodup h.rise) (C := cands x.ands L) (fun v hv => rch_cand (h.sound v hv).2)
  unfold cands at this
  simp only [List.length_append, List.length_map] at this
  omega
theorem rinv_lit {x : Circ} {L T : List Int} (h : RInv x L T) {t : Int} (ht : t ∈ L) : RInv x L (pz (var t) T) :=
  ⟨pz_rise h.rise, fun v hv => by
    rcases pz_mem.1 hv with h1 | ⟨rfl, h0⟩
    · exact h.sound v h1
    · exact ⟨h0, .lit ht⟩⟩
theorem rinv_gate {x : Circ} (hx : CheckOk x) {L T : List Int} (h : RInv x L T) {t : Tri} (ht : t ∈ x.ands) (hv : var t.1 ∈ T) : RInv x L (pz (var t.2.2) (pz (var t.2.1) T)) := by
  have hg := StrashP.gate_ord (StrashP.ord_of hx) ht
  obtain ⟨h0, hr⟩ := h.sound _ hv
  refine ⟨pz_rise (pz_rise h.rise), fun v hv => ?_⟩
  rcases pz_mem.1 hv with h1 | ⟨rfl, h1⟩
  · rcases pz_mem.1 h1 with h2 | ⟨rfl, h2⟩
    · exact h.sound v h2
    · exact ⟨h2, .left hr h0 hg⟩
  · exact ⟨h1, .right hr h0 hg⟩
theorem gate_same {T : List Int} {t : Tri} (h : T.Pairwise (· < ·)) (hl : (pz (var t.2.2) (pz (var t.2.1) T)).length ≤ T.length) : pz (var t.2.2) (pz (var t.2.1) T) = T ∧ ClosedT T t := by
  have e := rise_same h (pz_rise (pz_rise h)) (fun v hv => pz_mem.2 (Or.inl (pz_mem.2 (Or.inl hv)))) hl
  refine ⟨e, fun _ => ⟨?_, ?_⟩⟩
  · by_cases h0 : var t.2.1 = 0
    · exact Or.inl h0
    · right
      rw [← e]
      exact pz_mem.2 (Or.inl (pz_mem.2 (Or.inr ⟨rfl, h0⟩)))
  · by_cases h0 : var t.2.2 = 0
    · exact Or.inl h0
    · right
      rw [← e]
      exact pz_mem.2 (Or.inr ⟨rfl, h0⟩)
theorem pz_len {v : Int} {T : List Int} (h : T.Pairwise (· < ·)) : T.length ≤ (pz v T).length := rise_sub h fun u hu => pz_mem.2 (Or.inl hu)
theorem rinv_end {x : Circ} {L T : List Int} (h : RInv x L T) (hl : ∀ t ∈ L, var t = 0 ∨ var t ∈ T) (hc : ∀ t ∈ x.ands, ClosedT T t) (v : Int) : v ∈ T ↔ v ≠ 0 ∧ Rch x.ands L v := by
  refine ⟨h.sound v, fun hh => ?_⟩
  obtain ⟨h0, hr⟩ := hh
  have hgv : ∀ {v : Int} {g : Tri}, gate x.ands v = some g → var g.1 = v := fun {v g} hg => by
    have := List.find?_some hg
    simp only [Bool.and_eq_true, decide_eq_true_eq] at this
    exact this.2
  induction hr with
  | lit ht => exact (hl _ ht).resolve_left h0
  | left _ hv hg ih => exact ((hc _ (gate_mem hg)) (by rw [hgv hg]; exact ih hv)).1.resolve_left h0
  | right _ hv hg ih => exact ((hc _ (gate_mem hg)) (by rw [hgv hg]; exact ih hv)).2.resolve_left h0
end Coi
end Go.Proofs.YtninglnchengeaaGreat

/-
  Slices of structs of k cells in memory of one's own; what may be written; what lies from a block on stays. No program's function.
-/
namespace Go.Proofs.YtninglnchengeaaGreat
open Go.RowKit
set_option linter.unusedVariables false
set_option linter.unusedSimpArgs false
namespace Base

theorem flat_len {k : Nat} {vs : List (List Value)} (h : ∀ r ∈ vs, r.length = k) : vs.flatten.length = vs.length * k := by
  induction vs with
  | nil => simp
  | cons x r ih =>
    rw [List.flatten_cons, List.length_append, List.length_cons, ih (fun y hy => h y (List.mem_cons_of_mem _ hy)), h x List.mem_cons_self, Nat.succ_mul, Nat.add_comm]

theorem flat_at {k : Nat} {vs : List (List Value)} (h : ∀ r ∈ vs, r.length = k) (i j : Nat) (hj : j < k) : vs.flatten[i * k + j]? = (vs[i]?).bind (·[j]?) := by
  induction vs generalizing i with
  | nil => simp
  | cons x r ih =>
    have hx := h x List.mem_cons_self
    rw [List.flatten_cons]
    cases i with
    | zero =>
      rw [Nat.zero_mul, Nat.zero_add, List.getElem?_append_left (by omega)]
      rfl
    | succ i =>
      rw [List.getElem?_append_right (by rw [hx, Nat.succ_mul]; omega)]
      have e : (i + 1) * k + j - x.length = i * k + j := by rw [hx, Nat.succ_mul]; omega
      rw [e, ih (fun y hy => h y (List.mem_cons_of_mem _ hy)), List.getElem?_cons_succ]

theorem tris_row (l : List Tri) : ∀ r ∈ tris l, r.length = 3 := by
  intro r hr
  unfold tris at hr
  obtain ⟨t, _, rfl⟩ := List.mem_map.1 hr
  rfl
theorem names_row (l : List (ByteArray × Int × ByteArray)) : ∀ r ∈ namesV l, r.length = 3 := by
  intro r hr
  unfold namesV at hr
  obtain ⟨t, _, rfl⟩ := List.mem_map.1 hr
  rfl
theorem tris_len (l : List Tri) : (tris l).length = l.length := by simp [tris]
theorem names_len (l : List (ByteArray × Int × ByteArray)) : (namesV l).length = l.length := by simp [namesV]
theorem tris_one (l : List Tri) : ∀ u ∈ (tris l).flatten, u.oneCell' = true := by
  intro u hu
  obtain ⟨r, hr, hu⟩ := List.mem_flatten.1 hu
  unfold tris at hr
  obtain ⟨t, _, rfl⟩ := List.mem_map.1 hr
  simp only [List.mem_cons, List.not_mem_nil, or_false] at hu
  rcases hu with rfl | rfl | rfl <;> rfl
theorem names_one (l : List (ByteArray × Int × ByteArray)) : ∀ u ∈ (namesV l).flatten, u.oneCell' = true := by
  intro u hu
  obtain ⟨r, hr, hu⟩ := List.mem_flatten.1 hu
  unfold namesV at hr
  obtain ⟨t, _, rfl⟩ := List.mem_map.1 hr
  simp only [List.mem_cons, List.not_mem_nil, or_false] at hu
  rcases hu with rfl | rfl | rfl <;> rfl

/-- The cells of a slice that can be read, one behind another. -/
theorem SlT.flat {w : World} {k : Nat} (hk : 0 < k) {ad : Addr} {n c : Nat} {vs : List (List Value)} (h : SlT w k (some ad) n c vs) : ∀ j u, vs.flatten[j]? = some u → w.cell? (ad.add j) = some u := by
  intro j u hu
  have hr : ∀ r ∈ vs, r.length = k := fun r hr => by
    obtain ⟨i, hi⟩ := List.getElem?_of_mem hr
    exact (h.cell i r hi).1
  have hj : j = (j / k) * k + j % k := by rw [Nat.mul_comm]; exact (Nat.div_add_mod j k).symm
  rw [hj, flat_at hr _ _ (Nat.mod_lt _ hk)] at hu
  obtain ⟨r, h1, h2⟩ := Option.bind_eq_some_iff.1 hu
  obtain ⟨_, b, o, ha, _, hc⟩ := h.cell _ r h1
  simp only [Option.some.injEq] at ha
  subst ha
  have := hc _ u h2
  rw [Addr.add_lit, hj, ← Nat.add_assoc]
  exact this

/-- What is owned, as a slice that can be read. -/
theorem own_slT {w : World} {B : Nat} {e : TypeId} {k : Nat} {v : Value} {n : Nat} {vs : List (List Value)} (hk : 0 < k) (hr : ∀ r ∈ vs, r.length = k) (hn : vs.length = n) (h : w.ownsRow B e k v n vs.flatten) :
    ∃ a c, v = .slice a n c ∧ SlT w k a n c vs := by
  obtain ⟨hl, h2⟩ := h
  rcases h2 with ⟨rfl, rfl⟩ | ⟨g, cap, cur, rfl, hg, hh, hnc, hcap, hcur, htake⟩
  · exact ⟨none, 0, rfl, hn, Nat.le_refl _, by omega, fun _ => ⟨rfl, rfl⟩, fun i x hx => by
      have := (List.getElem?_eq_some_iff.1 hx).1; omega⟩
  · refine ⟨_, _, rfl, hn, hnc, by unfold maxLen at hcap; omega, (fun h => by cases h), fun i r hi => ⟨hr r (List.mem_of_getElem? hi), g, 0, rfl, (Array.getElem?_eq_some_iff.1 hh).1, fun j x hx => ?_⟩⟩
    have hjk : j < k := by
      have h1 := (List.getElem?_eq_some_iff.1 hx).1
      rw [hr r (List.mem_of_getElem? hi)] at h1
      exact h1
    have hf : vs.flatten[i * k + j]? = some x := by rw [flat_at hr _ _ hjk, hi]; exact hx
    rw [← htake, List.getElem?_take] at hf
    rw [cell_of_row _ g (0 + i * k + j) cur e _ hh]
    split at hf
    · rw [Nat.zero_add]; simpa using hf
    · cases hf

/-- append of all of a slice to one's own, elements of k cells. -/
theorem wpL_appK {P : Program} {w : World} {ops : Array Oper} {rest : List Oper} {dst : Option Tmp} {ty : TypeId} {pos : String} {af : Array Edge} {a : Act} {Q : Exit → Act → World → Prop}
    {s x : Operand} {t e : TypeId} {z : Value} {k bytes : Nat} (hk : 0 < k) (B : Nat) (v : Value) (n : Nat) (vs : List (List Value)) (ao : Option Addr) (m c : Nat) (us : List (List Value))
    (hinfo : (P.info? e).map (fun i => (i.zero, i.size, i.bytes)) = some (some z, k, bytes)) (ht : P.underlying t = some (.slice e)) (hzs : z.cells.size = k)
    (hs : a.eval s = v) (hx : a.eval x = .slice ao m c) (hu : ∀ u ∈ us.flatten, u.oneCell' = true) (hur : ∀ r ∈ us, r.length = k)
    (hown : w.ownsRow B e k v n vs.flatten) (hsl : SlT w k ao m c us) (hB : B ≤ w.heap.size) (hn : (n + m) * bytes ≤ 140737488355328) (hn' : n + m ≤ 9223372036854775807) {W : World} (hb : Below B W w)
    (hK : ∀ a' c' w1, w1.ownsRow B e k (.slice a' (n + m) c') (n + m) (vs ++ us).flatten → Below B W w1 → w.heap.size ≤ w1.heap.size → wpList P ops Q rest (a.put dst (.slice a' (n + m) c')) w1) :
    wpList P ops Q (⟨dst, .call { callee := .builtin .append, args := #[s, x], argTypes := #[t, t] }, ty, pos, af, none⟩ :: rest) a w := by
  obtain ⟨i, hi, hz0, hz1, hz2⟩ := info_parts hinfo
  have shape : ∀ {w : World} {v : Value} {n : Nat} {xs : List Value}, w.ownsRow B e k v n xs → ∃ a c, v = .slice a n c := by
    intro w v n xs h
    rcases h.2 with ⟨rfl, rfl⟩ | ⟨g, cap, cur, rfl, _⟩
    · exact ⟨none, 0, rfl⟩
    · exact ⟨_, _, rfl⟩
  cases ao with
  | none =>
    obtain ⟨rfl, rfl⟩ := hsl.bare rfl
    have hus : us = [] := List.eq_nil_of_length_eq_zero hsl.len
    subst hus
    refine wpList_append_own_none rfl s x t rfl B e i k ht hi v n vs.flatten hs hown hx ?_
    obtain ⟨a', c', rfl⟩ := shape hown
    exact hK a' c' w (by simpa using hown) hb (Nat.le_refl _)
  | some ad =>
    have hl : us.flatten.length = m * k := by rw [flat_len hur, hsl.len]
    refine wpList_append_own _ rfl s x t rfl B e i z k bytes ht hi hz0 hz1 hz2 hzs hk v n vs.flatten hs hown ad m c us.flatten hx hl ?_ hu
      (by unfold maxLen; omega) hn hB ?_
    · exact hsl.flat hk
    · intro v' w1 hown' hgrow _
      obtain ⟨a', c', rfl⟩ := shape hown'
      exact hK a' c' w1 (by rw [List.flatten_append]; exact hown') (below_own hown hgrow hb hB) hgrow.size

/-- w2 is as w from block N on. -/
structure Holds (N : Nat) (w w2 : World) : Prop where
  size : w.heap.size ≤ w2.heap.size
  block : ∀ k, N ≤ k → k < w.heap.size → w2.heap[k]? = w.heap[k]?

theorem Holds.refl (N : Nat) (w : World) : Holds N w w := ⟨Nat.le_refl _, fun _ _ _ => rfl⟩
theorem Holds.of {N : Nat} {w w2 : World} (h : Below w.heap.size w w2) : Holds N w w2 := ⟨h.size, fun k _ hk => h.block k hk⟩
theorem Holds.trans {N : Nat} {w w1 w2 : World} (h : Holds N w w1) (h2 : Holds N w1 w2) : Holds N w w2 :=
  ⟨Nat.le_trans h.size h2.size, fun k hn hk => (h2.block k hn (Nat.lt_of_lt_of_le hk h.size)).trans (h.block k hn hk)⟩
theorem Holds.set {N : Nat} {w w2 : World} (h : Holds N w w2) {a : Addr} (hb : a.block < N) (u : Value) : Holds N w (w2.setCell a u) := by
  refine ⟨by simpa [World.setCell] using h.size, fun k hn hk => ?_⟩
  simp only [World.setCell, Array.getElem?_modify]
  rw [if_neg (by omega)]
  exact h.block k hn hk
theorem Holds.own {w w2 : World} {N B : Nat} {e : TypeId} {size : Nat} {v : Value} {n : Nat} {vs : List Value} (hk : Holds N w w2) (h : w.ownsRow B e size v n vs) (hN : N ≤ B) : w2.ownsRow B e size v n vs := by
  refine ⟨h.1, ?_⟩
  rcases h.2 with hn | ⟨g, cap, cur, rfl, hg, hh, r⟩
  · exact .inl hn
  · exact .inr ⟨g, cap, cur, rfl, hg, by rw [hk.block g (by omega) (Array.getElem?_eq_some_iff.1 hh).1]; exact hh, r⟩

/-- The first m cells of a slice may be written; they lie in a block from B to N. -/
def Writes (w : World) (B N : Nat) (a : Option Addr) (m : Nat) : Prop := m = 0 ∨ ∃ g, a = some ⟨g, 0, none⟩ ∧ B ≤ g ∧ g < N ∧ ∀ j, j < m → (∃ u, w.cell? ⟨g, j, none⟩ = some u) ∧ w.frozen? ⟨g, j, none⟩ = false

theorem Writes.set {w : World} {B N : Nat} {a : Option Addr} {m : Nat} (h : Writes w B N a m) (p : Addr) (u : Value) : Writes (w.setCell p u) B N a m := by
  rcases h with h | ⟨g, ha, h1, h2, hc⟩
  · exact .inl h
  · refine .inr ⟨g, ha, h1, h2, fun j hj => ⟨?_, by rw [World.frozen?_setCell]; exact (hc j hj).2⟩⟩
    obtain ⟨x, hx⟩ := (hc j hj).1
    exact cell?_setCell_some hx

theorem Writes.of {w : World} {B : Nat} {e : TypeId} {k : Nat} {a : Option Addr} {n c : Nat} {vs : List Value} (h : w.ownsRow B e k (.slice a n c) n vs) : Writes w B w.heap.size a (n * k) := by
  rcases h.2 with ⟨_, rfl⟩ | ⟨g, cap, cur, hv, hg, hh, hnc, hcap, hcur, htake⟩
  · exact .inl (by simp)
  · simp only [Value.slice.injEq, true_and] at hv
    obtain ⟨rfl, rfl⟩ := hv
    refine .inr ⟨g, rfl, hg, (Array.getElem?_eq_some_iff.1 hh).1, fun j hj => ⟨?_, ?_⟩⟩
    · rw [cell_of_row _ g j cur e _ hh]
      have hlt : j < cur.size := by rw [hcur]; exact Nat.lt_of_lt_of_le hj (Nat.mul_le_mul_right _ hnc)
      exact ⟨cur[j], by simp [hlt]⟩
    · simp [World.frozen?, hh]

theorem Writes.next {w w' : World} {B N : Nat} {a : Option Addr} {m : Nat} (h : Writes w B N a m) (hN : N ≤ w.heap.size) (hb : Below w.heap.size w w') : Writes w' B N a m := by
  rcases h with h | ⟨g, ha, h1, h2, hc⟩
  · exact .inl h
  · refine .inr ⟨g, ha, h1, h2, fun j hj => ⟨?_, ?_⟩⟩
    · obtain ⟨x, hx⟩ := (hc j hj).1
      exact ⟨x, (hb.cell (p := ⟨g, j, none⟩) (Nat.lt_of_lt_of_le h2 hN)).trans hx⟩
    · exact ((bcell hb).2 g j (Nat.lt_of_lt_of_le h2 hN)).trans (hc j hj).2
end Base
end Go.Proofs.YtninglnchengeaaGreat

/-
  A circuit in memory of one's own; a box of cells that may be written.
-/
namespace Go.Proofs.YtninglnchengeaaGreat
open Go.RowKit Base
set_option linter.unusedVariables false
set_option linter.unusedSimpArgs false
namespace Circuit

/-- All seven parts lie in memory from block B on, each its own. -/
structure OwnC (w : World) (B : Nat) (x : Circ) (p : At) : Prop where
  ins : w.ownsRow B 3 1 (.slice p.a1 x.ins.length p.c1) x.ins.length (ints x.ins)
  lats : w.ownsRow B 41 3 (.slice p.a2 x.lats.length p.c2) x.lats.length (tris x.lats).flatten
  outs : w.ownsRow B 3 1 (.slice p.a3 x.outs.length p.c3) x.outs.length (ints x.outs)
  bads : w.ownsRow B 3 1 (.slice p.a4 x.bads.length p.c4) x.bads.length (ints x.bads)
  invs : w.ownsRow B 3 1 (.slice p.a5 x.invs.length p.c5) x.invs.length (ints x.invs)
  ands : w.ownsRow B 43 3 (.slice p.a6 x.ands.length p.c6) x.ands.length (tris x.ands).flatten
  names : w.ownsRow B 67 3 (.slice p.a7 x.names.length p.c7) x.names.length (namesV x.names).flatten

theorem own_sl' {w : World} {B : Nat} {e : TypeId} {a : Option Addr} {n c : Nat} {vs : List Value} (h : w.ownsRow B e 1 (.slice a n c) n vs) : Sl w a n c vs := by
  obtain ⟨a', c', hv, hs⟩ := own_sl h
  simp only [Value.slice.injEq, true_and] at hv
  obtain ⟨rfl, rfl⟩ := hv
  exact hs
theorem own_slT' {w : World} {B : Nat} {e : TypeId} {a : Option Addr} {n c : Nat} {vs : List (List Value)} (hr : ∀ r ∈ vs, r.length = 3) (hn : vs.length = n) (h : w.ownsRow B e 3 (.slice a n c) n vs.flatten) : SlT w 3 a n c vs := by
  obtain ⟨a', c', hv, hs⟩ := own_slT (by decide) hr hn h
  simp only [Value.slice.injEq, true_and] at hv
  obtain ⟨rfl, rfl⟩ := hv
  exact hs

theorem OwnC.inC {w : World} {B : Nat} {x : Circ} {p : At} (h : OwnC w B x p) : InCirc w x p :=
  ⟨own_sl' h.ins, own_slT' (tris_row _) (tris_len _) h.lats, own_sl' h.outs, own_sl' h.bads, own_sl' h.invs, own_slT' (tris_row _) (tris_len _) h.ands, own_slT' (names_row _) (names_len _) h.names⟩
theorem OwnC.next {w w' : World} {B : Nat} {x : Circ} {p : At} (h : OwnC w B x p) (hb : Below w.heap.size w w') : OwnC w' B x p :=
  ⟨own_next h.ins hb, own_next h.lats hb, own_next h.outs hb, own_next h.bads hb, own_next h.invs hb, own_next h.ands hb, own_next h.names hb⟩
theorem OwnC.mono {w : World} {B B' : Nat} {x : Circ} {p : At} (h : OwnC w B x p) (hB : B' ≤ B) : OwnC w B' x p :=
  ⟨own_mono h.ins hB, own_mono h.lats hB, own_mono h.outs hB, own_mono h.bads hB, own_mono h.invs hB, own_mono h.ands hB, own_mono h.names hB⟩
theorem OwnC.holds {w w' : World} {B N : Nat} {x : Circ} {p : At} (h : OwnC w B x p) (hk : Holds N w w') (hN : N ≤ B) : OwnC w' B x p :=
  ⟨hk.own h.ins hN, hk.own h.lats hN, hk.own h.outs hN, hk.own h.bads hN, hk.own h.invs hN, hk.own h.ands hN, hk.own h.names hN⟩

theorem OwnC.set {w : World} {B : Nat} {x : Circ} {p : At} (h : OwnC w B x p) {a : Addr} (ha : a.block < B) (u : Value) : OwnC (w.setCell a u) B x p :=
  ⟨ownsRow_setCell_below h.ins ha u, ownsRow_setCell_below h.lats ha u, ownsRow_setCell_below h.outs ha u, ownsRow_setCell_below h.bads ha u, ownsRow_setCell_below h.invs ha u, ownsRow_setCell_below h.ands ha u, ownsRow_setCell_below h.names ha u⟩

/-- Each part is small enough to be made anew. -/
structure Fits (x : Circ) : Prop where
  ins : x.ins.length * 8 ≤ 140737488355328
  lats : x.lats.length * 24 ≤ 140737488355328
  outs : x.outs.length * 8 ≤ 140737488355328
  bads : x.bads.length * 8 ≤ 140737488355328
  invs : x.invs.length * 8 ≤ 140737488355328
  ands : x.ands.length * 24 ≤ 140737488355328
  names : x.names.length * 40 ≤ 140737488355328

/-- Block N holds these cells, and may be written. -/
structure BoxN (N : Nat) (cs : List Value) (w : World) : Prop where
  lt : N < w.heap.size
  at' : ∀ j u, cs[j]? = some u → w.cell? ⟨N, j, none⟩ = some u
  fz : ∀ j, w.frozen? ⟨N, j, none⟩ = false

theorem BoxN.new (w : World) (cs : Array Value) (t : TypeId) : BoxN w.heap.size cs.toList (w.alloc (.cells cs t)) := by
  refine ⟨by simp, fun j u hu => ?_, fun j => by simp [go_sem]⟩
  simp [go_sem]
  simpa using hu

theorem BoxN.next {N : Nat} {cs : List Value} {w w' : World} (h : BoxN N cs w) {B : Nat} (hb : Below B w w') (hB : N < B) : BoxN N cs w' :=
  ⟨Nat.lt_of_lt_of_le h.lt hb.size, fun j u hu => (hb.cell (p := ⟨N, j, none⟩) hB).trans (h.at' j u hu), fun j => (hb.frozen (p := ⟨N, j, none⟩) hB).trans (h.fz j)⟩

theorem BoxN.holds {N : Nat} {cs : List Value} {w w' : World} (h : BoxN N cs w) {B : Nat} (hb : Holds B w w') (hB : B ≤ N) : BoxN N cs w' := by
  have hblk := hb.block N hB h.lt
  refine ⟨Nat.lt_of_lt_of_le h.lt hb.size, fun j u hu => ?_, fun j => ?_⟩
  · exact (World.cell?_of_block (w := w) (a := ⟨N, j, none⟩) hblk).trans (h.at' j u hu)
  · exact (World.frozen?_of_block (w := w) (a := ⟨N, j, none⟩) hblk).trans (h.fz j)

theorem BoxN.set {N : Nat} {cs : List Value} {w : World} (h : BoxN N cs w) (j : Nat) (u : Value) : BoxN N (cs.set j u) (w.setCell ⟨N, j, none⟩ u) := by
  refine ⟨by simpa [World.setCell] using h.lt, fun i v hv => ?_, fun i => by rw [World.frozen?_setCell]; exact h.fz i⟩
  by_cases hij : j = i
  · subst hij
    obtain ⟨hl, he⟩ := List.getElem?_eq_some_iff.1 hv
    rw [List.length_set] at hl
    have h0 := h.at' j cs[j] (List.getElem?_eq_getElem hl)
    have : v = u := by rw [← he]; simp
    subst this
    exact World.cell?_setCell_same' _ _ _ (by rw [h0]; rfl)
  · rw [List.getElem?_set_ne hij] at hv
    rw [World.cell?_setCell_other _ _ _ _ (by intro e; simp only [Addr.mk.injEq, and_true, true_and] at e; exact hij e)]
    exact h.at' i v hv

theorem BoxN.other {N : Nat} {cs : List Value} {w : World} (h : BoxN N cs w) {a : Addr} (ha : a.block ≠ N) (u : Value) : BoxN N cs (w.setCell a u) := by
  refine ⟨by simpa [World.setCell] using h.lt, fun i v hv => ?_, fun i => by rw [World.frozen?_setCell]; exact h.fz i⟩
  rw [World.cell?_setCell_other _ _ _ _ (by intro e; apply ha; rw [e])]
  exact h.at' i v hv
end Circuit
end Go.Proofs.YtninglnchengeaaGreat

/-
  interlockref03.Cone, of a circuit that may be.
-/
namespace Go.Proofs.YtninglnchengeaaGreat
open Go.RowKit Base
set_option linter.unusedVariables false
set_option linter.unusedSimpArgs false
namespace Coi
open Circuit RefS

theorem tt_false {p : Prop} (h : tt p = false) : ¬ p := fun hp => by rw [tt_pos hp] at h; cases h

theorem ins_few (v : Int) (T : List Int) : (RefS.ins v T).length ≤ T.length + 1 := by
  induction T with
  | nil => simp [RefS.ins]
  | cons y r ih =>
    unfold RefS.ins
    split
    · simp only [List.length_cons]; omega
    · split
      · simp
      · simp

set_option maxRecDepth 8000 in
set_option maxHeartbeats 8000000 in
theorem refCone_any (w : World) (x : Circ) (p : At) (hin : InCirc w x p) (hok : CheckOk x) (a : Option Addr) (c : Nat) (L : List Int) (hsl : Sl w a L.length c (ints L)) (hL : ∀ y ∈ L, 0 ≤ y ∧ y ≤ 9223372036854775807)
    (hz : L.length + 2 * x.ands.length ≤ 1000000000000) :
    Calls Tryz.prog 33 #[.agg (cells x p), .slice a L.length c] w fun e w' => ∃ a' c' T, e = .returned (.slice a' T.length c') ∧ w'.ownsRow w.heap.size 3 1 (.slice a' T.length c') T.length (ints T) ∧ T.Pairwise (· < ·) ∧ (∀ v, v ∈ T ↔ v ≠ 0 ∧ Rch x.ands L v) ∧ Below w.heap.size w w' := by
  obtain ⟨W1, hW1⟩ : ∃ W1, w.alloc (.cells (cells x p) 27) = W1 := ⟨_, rfl⟩
  obtain ⟨hb1, hc1⟩ := cbox_new w x p W1 hW1
  have HB1 := Lib.hid hb1
  have HCB := Lib.hid (fun (U : World) (hU : Below W1.heap.size W1 U) => hc1.next hU (Nat.le_refl _))
  have HIN := Lib.hid (fun (U : World) (hU : Below W1.heap.size W1 U) => (hin.next hb1).next hU)
  have HSL := Lib.hid (fun (U : World) (hU : Below W1.heap.size W1 U) => (hsl.next hb1).next hU)
  have HLL := Lib.hid hL
  have HOK := Lib.hid hok
  have HORD := Lib.hid (StrashP.ord_of hok)
  have HZ := Lib.hid hz
  have HFI := fun (U : World) (hU : Below W1.heap.size W1 U) (i : Nat) (hi : i < x.ands.length) => RefF.refFirst_any U x p ((hin.next hb1).next hU) hok i hi
  have hmax : Hid (∀ t ∈ x.ands, t.1 ≤ 10000) := fun t ht => by
    have h1 := ((StrashP.ownOk_iff.1 hok.2.1.1).1 t.1 (by unfold ownL; exact List.mem_append_right _ (List.mem_map.2 ⟨t, ht, rfl⟩))).2.2
    have h2 := hok.1.2.1
    unfold var at h1
    omega
  have hcap := hsl.cap
  have hbig := hsl.big
  obtain ⟨m, hm⟩ : ∃ m, x.ands.length = m := ⟨_, rfl⟩
  have HM := Lib.hid hm
  obtain ⟨n, hn⟩ : ∃ m, L.length = m := ⟨_, rfl⟩
  have HN := Lib.hid hn
  rw [hn] at hcap HSL ⊢
  have HLEN : Hid (∀ T : List Int, RInv x L T → (T.length + 2) * 8 ≤ 140737488355328) := fun T hT => by have := rinv_few hT; have := HZ.out; omega
  obtain ⟨a1, c1, a2, c2, a3, c3, a4, c4, a5, c5, a6, c6, a7, c7⟩ := p
  simp only [cells] at hW1 HFI ⊢
  have HF := Lib.hid HFI
  clear hin hok hsl hL hz hb1 hc1 hm hn HFI
  go_enter Tryz.func33, Tryz.ntmps33
  go_wp2_with fail
  clear hW1
  go_loopw [5, 6] (fun s u wr => ∃ (j : Nat) (T : List Int) (a' : Option Addr) (c' : Nat), j ≤ n ∧ u = .int .i64 j ∧ s = .slice a' T.length c' ∧ Hid (wr.ownsRow W1.heap.size 3 1 (.slice a' T.length c') T.length (ints T)) ∧ Hid (RInv x L T) ∧ Hid (∀ t ∈ L.take j, var t = 0 ∨ var t ∈ T) ∧ Hid (Below W1.heap.size W1 wr)) (fun _ u _ => n - (intOf u).toNat)
  case atStart => exact ⟨0, [], none, 0, Nat.zero_le _, rfl, rfl, World.ownsRow_nil _ _ _ _, ⟨List.Pairwise.nil, fun v hv => by simp at hv⟩, fun t ht => by simp at ht, Below.refl _ _⟩
  case round =>
    obtain ⟨j, T, a', c', hj, rfl, rfl, hT, hI, hLt, hB⟩ := hrel
    by_cases hlt : j < n
    · have hs := HSL.out wr hB.out
      obtain ⟨b, o, hx, rfl, hbs, e0⟩ := hs.int hlt
      have hl := HLL.out L[j] (List.getElem_mem hx)
      have HTK := Lib.hid (List.take_succ_eq_append_getElem hx)
      have HMEM : Hid (L[j] ∈ L) := List.getElem_mem hx
      generalize L[j] = t at *
      have HV := Lib.hid (RefV.refVar_any t hl.1 hl.2)
      have HI2 := Lib.hid (rinv_lit hI.out HMEM.out)
      have HL2 : Hid (∀ u ∈ L.take (j + 1), var u = 0 ∨ var u ∈ pz (var t) T) := fun u hu => by
        rw [HTK.out, List.mem_append, List.mem_singleton] at hu
        rcases hu with hu | rfl
        · exact (hLt.out u hu).imp id fun h => pz_mem.2 (Or.inl h)
        · by_cases h0 : var u = 0
          · exact Or.inl h0
          · exact Or.inr (pz_mem.2 (Or.inr ⟨rfl, h0⟩))
      have hl64 : -9223372036854775808 ≤ var t ∧ var t ≤ 9223372036854775807 := by unfold var; omega
      have HPU := Lib.hid (RefS.put_any wr a' T.length c' T (own_sl' hT.out) (by have := HLEN.out T hI.out; omega) (var t))
      have hpzv : Hid (var t = 0 → pz (var t) T = T) := fun h => by unfold pz; rw [if_pos h]
      have hpzi : Hid (var t ≠ 0 → pz (var t) T = RefS.ins (var t) T) := fun h => by unfold pz; rw [if_neg h]
      generalize pz (var t) T = T2 at *
      generalize var t = v at *
      clear hs hl HTK hx
      go_wp2_with fail
      with_reducible refine (HV.out _).mono ?_
      rintro e w2 ⟨rfl, rfl⟩
      by_cases hv0 : v = 0
      · have hne : (v != 0) = false := by rw [hv0]; rfl
        have HE := Lib.hid (hpzv.out hv0)
        clear hv0
        go_wp2_with fail
        go_roundw
        case rel => exact ⟨j + 1, T, a', c', by omega, by go_num, rfl, hT.out, by rw [← HE.out]; exact HI2.out, by rw [← HE.out]; exact HL2.out, hB.out⟩
        case measure => simp [intOf]; omega
      · have hne : (v != 0) = true := by simpa using hv0
        have HE := Lib.hid (hpzi.out hv0)
        clear hv0
        go_wp2_with fail
        with_reducible refine (HV.out _).mono ?_
        rintro e w2 ⟨rfl, rfl⟩
        go_wp2_with fail
        with_reducible refine HPU.out.mono ?_
        rintro e w3 ⟨a3', c3', rfl, ho3, hb3⟩
        have HS3 := Lib.hid (own_mono ho3 hB.out.size)
        have HB3 := Lib.hid (hB.out.trans (hb3.mono hB.out.size))
        clear ho3 hb3
        go_wp2_with fail
        go_roundw
        case rel => exact ⟨j + 1, RefS.ins v T, a3', c3', by omega, by go_num, rfl, HS3.out, by rw [← HE.out]; exact HI2.out, by rw [← HE.out]; exact HL2.out, HB3.out⟩
        case measure => simp [intOf]; omega
    · have hall : Hid (∀ t ∈ L, var t = 0 ∨ var t ∈ T) := fun t ht => hLt.out t (by rw [List.take_of_length_le (by rw [HN.out]; omega)]; exact ht)
      have HB0 := hB
      have HT0 := hT
      have HI0 := hI
      generalize wr = w0 at *
      clear hLt hj hB hT hI
      go_wp2_with fail
      clear hlt
      go_loopw [5, 7] (fun s u wr => ∃ (T : List Int) (a' : Option Addr) (c' : Nat) (k : Int), s = .slice a' T.length c' ∧ u = .int .i64 k ∧ Hid (-1 ≤ k ∧ k ≤ T.length) ∧ Hid (wr.ownsRow W1.heap.size 3 1 (.slice a' T.length c') T.length (ints T)) ∧ Hid (RInv x L T) ∧ Hid (∀ t ∈ L, var t = 0 ∨ var t ∈ T) ∧ Hid (k = T.length → ∀ t ∈ x.ands, ClosedT T t) ∧ Hid (Below W1.heap.size W1 wr)) (fun _ u _ => L.length + 2 * x.ands.length + 1 - (intOf u + 1).toNat)
      case atStart => exact ⟨T, a', c', -1, rfl, rfl, ⟨by omega, by omega⟩, HT0.out, HI0.out, hall.out, (fun h => by omega), HB0.out⟩
      case round =>
        clear HB0 HT0 HI0 hall
        obtain ⟨T, a', c', k, rfl, rfl, hk, hT, hI, hall, hcl, hB⟩ := hrel
        by_cases hlt : k < T.length
        · clear hcl
          have hd : decide (k < (T.length : Int)) = true := decide_eq_true hlt
          have HK := Lib.hid hk.out
          have HLT := Lib.hid hlt
          have HB0 := hB
          have HT0 := hT
          have HI0 := hI
          have HA0 := hall
          have hT64 : T.length ≤ 9223372036854775807 := by have := HLEN.out T hI.out; omega
          generalize wr = w1 at *
          clear hB hT hI hall hlt hk
          go_wp2_with fail
          go_loopw [5, 8] (fun s u wr => ∃ (i : Nat) (T2 : List Int) (a2 : Option Addr) (c2 : Nat), i ≤ m ∧ u = .int .i64 i ∧ s = .slice a2 T2.length c2 ∧ Hid (T.length ≤ T2.length) ∧ Hid (T2.length ≤ T.length → ∀ t ∈ x.ands.take i, ClosedT T2 t) ∧ Hid (wr.ownsRow W1.heap.size 3 1 (.slice a2 T2.length c2) T2.length (ints T2)) ∧ Hid (RInv x L T2) ∧ Hid (∀ t ∈ L, var t = 0 ∨ var t ∈ T2) ∧ Hid (Below W1.heap.size W1 wr)) (fun _ u _ => m - (intOf u).toNat)
          case atStart => exact ⟨0, T, a', c', Nat.zero_le _, rfl, rfl, Nat.le_refl _, (fun _ t ht => by simp at ht), HT0.out, HI0.out, HA0.out, HB0.out⟩
          case round =>
            clear HB0 HT0 HI0 HA0
            obtain ⟨i, T2, a2', c2', hi, rfl, rfl, hle, hcl, hT, hI, hall, hB⟩ := hrel
            have h6 := (HCB.out wr hB.out).k6
            have hia := (HIN.out wr hB.out).ands
            have hcap := hia.cap
            have hbig := hia.big
            simp only [HM.out] at h6 hcap hbig
            by_cases hlt : i < m
            · have hix : i < x.ands.length := by rw [HM.out]; exact hlt
              obtain ⟨b, o, hx, hae, hbs, hc0, hc1, hc2⟩ := hia.tri hix
              simp only at hae
              subst hae
              have hmem : x.ands[i] ∈ x.ands := List.getElem_mem hx
              obtain ⟨f1, f2, f3, f4, f5, f6⟩ := HORD.out.fine _ hmem
              have hmx := hmax.out _ hmem
              have HTK := Lib.hid (List.take_succ_eq_append_getElem hx)
              have HG : Hid (∀ T, RInv x L T → var x.ands[i].1 ∈ T → RInv x L (pz (var x.ands[i].2.2) (pz (var x.ands[i].2.1) T))) := fun T hT hv => rinv_gate HOK.out hT hmem hv
              have HCL : Hid (ClosedT T2 x.ands[i] → T2.length ≤ T.length → ∀ t ∈ x.ands.take (i + 1), ClosedT T2 t) := fun h hl t ht => by
                rw [HTK.out, List.mem_append, List.mem_singleton] at ht
                rcases ht with ht | rfl
                · exact hcl.out hl t ht
                · exact h
              have HIX := Lib.hid hix
              clear hmem HTK hcl hia
              generalize x.ands[i] = t at *
              clear hx hix
              obtain ⟨U, hU⟩ : ∃ U, wr.alloc (.cells (triC t) 43) = U := ⟨_, rfl⟩
              obtain ⟨hbU, htb⟩ := tbox_new wr t 43 U hU
              have t0 := htb.t0
              have HTB := Lib.hid htb
              have HBU := Lib.hid (hB.out.trans (hbU.mono hB.out.size))
              have HSU := Lib.hid (own_next hT.out hbU)
              have HV := Lib.hid (RefV.refVar_any t.1 (by omega) (by omega))
              have HHAS := Lib.hid (Circuit.has_any U a2' T2.length c2' T2 (own_sl' HSU.out) (var t.1))
              have CB := HCB.out U HBU.out
              have m0 : U.cell? ⟨w.heap.size, 0, none⟩ = some (.int .i64 x.max) := CB.k0
              have m1 : U.cell? ⟨w.heap.size, 1, none⟩ = some (.slice a1 x.ins.length c1) := CB.k1
              have m2 : U.cell? ⟨w.heap.size, 2, none⟩ = some (.slice a2 x.lats.length c2) := CB.k2
              have m3 : U.cell? ⟨w.heap.size, 3, none⟩ = some (.slice a3 x.outs.length c3) := CB.k3
              have m4 : U.cell? ⟨w.heap.size, 4, none⟩ = some (.slice a4 x.bads.length c4) := CB.k4
              have m5 : U.cell? ⟨w.heap.size, 5, none⟩ = some (.slice a5 x.invs.length c5) := CB.k5
              have m6 : U.cell? ⟨w.heap.size, 6, none⟩ = some (.slice (some ⟨b, o, none⟩) x.ands.length c6) := CB.k6
              have m7 : U.cell? ⟨w.heap.size, 7, none⟩ = some (.slice a7 x.names.length c7) := CB.k7
              clear CB
              simp only [triC] at hU
              clear htb hbU hB hT
              go_wp2_with fail
              with_reducible refine (HV.out _).mono ?_
              rintro e w2 ⟨rfl, rfl⟩
              have hlt0 : decide (t.1 < 0) = false := decide_eq_false (by omega)
              have hge0 : 0 ≤ t.1 := by omega
              by_cases hin : var t.1 ∈ T2
              · rw [tt_pos hin] at HHAS
                have HEND : Hid (T.length ≤ (pz (var t.2.2) (pz (var t.2.1) T2)).length ∧ ((pz (var t.2.2) (pz (var t.2.1) T2)).length ≤ T.length → ∀ u ∈ x.ands.take (i + 1), ClosedT (pz (var t.2.2) (pz (var t.2.1) T2)) u) ∧ RInv x L (pz (var t.2.2) (pz (var t.2.1) T2)) ∧ (∀ u ∈ L, var u = 0 ∨ var u ∈ pz (var t.2.2) (pz (var t.2.1) T2))) := by
                  have hr := hI.out.rise
                  have l1 := pz_len (v := var t.2.1) hr
                  have l2 := pz_len (v := var t.2.2) (pz_rise (v := var t.2.1) hr)
                  have l0 := hle.out
                  refine ⟨by omega, fun h => ?_, HG.out T2 hI.out hin, fun u hu => (hall.out u hu).imp id fun h => pz_mem.2 (Or.inl (pz_mem.2 (Or.inl h)))⟩
                  obtain ⟨e1, e2⟩ := gate_same (t := t) hr (by omega)
                  rw [e1] at h ⊢
                  exact HCL.out e2 h
                have HZ1 : Hid (var t.2.1 = 0 → pz (var t.2.1) T2 = T2) := fun h => by unfold pz; rw [if_pos h]
                have HI1 : Hid (var t.2.1 ≠ 0 → pz (var t.2.1) T2 = RefS.ins (var t.2.1) T2) := fun h => by unfold pz; rw [if_neg h]
                have HZ2 : Hid (∀ M, var t.2.2 = 0 → pz (var t.2.2) M = M) := fun M h => by unfold pz; rw [if_pos h]
                have HI2 : Hid (∀ M, var t.2.2 ≠ 0 → pz (var t.2.2) M = RefS.ins (var t.2.2) M) := fun M h => by unfold pz; rw [if_neg h]
                have hv1 : -9223372036854775808 ≤ var t.2.1 ∧ var t.2.1 ≤ 9223372036854775807 := by unfold var; omega
                have hv2 : -9223372036854775808 ≤ var t.2.2 ∧ var t.2.2 ≤ 9223372036854775807 := by unfold var; omega
                have HV1 := Lib.hid (RefV.refVar_any t.2.1 (by omega) (by omega))
                have HV2 := Lib.hid (RefV.refVar_any t.2.2 (by omega) (by omega))
                have HQ := Lib.hid (HLEN.out T2 hI.out)
                clear hin HG HCL hle hall hI f1 f2 f3 f4 f5 f6 hmx
                go_wp2_with fail
                with_reducible refine HHAS.out.mono ?_
                rintro e w3 ⟨rfl, rfl⟩
                go_wp2_with fail
                with_reducible refine (HF.out _ HBU.out i HIX.out).mono ?_
                rintro e w3 ⟨rfl, hb3⟩
                have HB3 := Lib.hid (HBU.out.trans (hb3.mono HBU.out.size))
                have HT3 := Lib.hid (HTB.out.next hb3 (Nat.le_refl _))
                have HS3 := Lib.hid (own_next HSU.out hb3)
                have q1 := HT3.out.t1
                have q2 := HT3.out.t2
                generalize var t.2.1 = v1 at *
                generalize var t.2.2 = v2 at *
                clear hb3 t0 m0 m1 m2 m3 m4 m5 m6 m7 HTB HHAS HSU hU
                by_cases h1 : v1 = 0
                · have hne1 : (v1 != 0) = false := by rw [h1]; rfl
                  rw [HZ1.out h1] at HEND
                  clear h1
                  go_wp2_with fail
                  with_reducible refine (HV1.out _).mono ?_
                  rintro e w4 ⟨rfl, rfl⟩
                  by_cases h2 : v2 = 0
                  · have hne2 : (v2 != 0) = false := by rw [h2]; rfl
                    rw [HZ2.out _ h2] at HEND
                    clear h2
                    go_wp2_with fail
                    with_reducible refine (HV2.out _).mono ?_
                    rintro e w4 ⟨rfl, rfl⟩
                    go_wp2_with fail
                    go_roundw
                    case rel => exact ⟨i + 1, T2, a2', c2', by omega, by go_num, rfl, HEND.out.1, HEND.out.2.1, HS3.out, HEND.out.2.2.1, HEND.out.2.2.2, HB3.out⟩
                    case measure => simp [intOf]; omega
                  · have hne2 : (v2 != 0) = true := by simpa using h2
                    rw [HI2.out _ h2] at HEND
                    clear h2
                    go_wp2_with fail
                    with_reducible refine (HV2.out _).mono ?_
                    rintro e w4 ⟨rfl, rfl⟩
                    go_wp2_with fail
                    with_reducible refine (HV2.out _).mono ?_
                    rintro e w4 ⟨rfl, rfl⟩
                    go_wp2_with fail
                    with_reducible refine (RefS.put_any _ a2' T2.length c2' T2 (own_sl' HS3.out) (by have := HQ.out; omega) v2).mono ?_
                    rintro e w5 ⟨a5', c5', rfl, ho5, hb5⟩
                    have HS5 := Lib.hid (own_mono ho5 HB3.out.size)
                    have HB5 := Lib.hid (HB3.out.trans (hb5.mono HB3.out.size))
                    clear ho5 hb5
                    go_wp2_with fail
                    go_roundw
                    case rel => exact ⟨i + 1, RefS.ins v2 T2, a5', c5', by omega, by go_num, rfl, HEND.out.1, HEND.out.2.1, HS5.out, HEND.out.2.2.1, HEND.out.2.2.2, HB5.out⟩
                    case measure => simp [intOf]; omega
                · have hne1 : (v1 != 0) = true := by simpa using h1
                  rw [HI1.out h1] at HEND
                  clear h1
                  go_wp2_with fail
                  with_reducible refine (HV1.out _).mono ?_
                  rintro e w4 ⟨rfl, rfl⟩
                  go_wp2_with fail
                  with_reducible refine (HV1.out _).mono ?_
                  rintro e w4 ⟨rfl, rfl⟩
                  go_wp2_with fail
                  with_reducible refine (RefS.put_any _ a2' T2.length c2' T2 (own_sl' HS3.out) (by have := HQ.out; omega) v1).mono ?_
                  rintro e w5 ⟨a5', c5', rfl, ho5, hb5⟩
                  have HS5 := Lib.hid (own_mono ho5 HB3.out.size)
                  have HB5 := Lib.hid (HB3.out.trans (hb5.mono HB3.out.size))
                  have HL5 : Hid ((RefS.ins v1 T2).length ≤ T2.length + 1) := ins_few v1 T2
                  have s2 := (HT3.out.next hb5 (Nat.le_refl _)).t2
                  generalize RefS.ins v1 T2 = T3 at *
                  clear ho5 hb5 q1 q2
                  by_cases h2 : v2 = 0
                  · have hne2 : (v2 != 0) = false := by rw [h2]; rfl
                    rw [HZ2.out _ h2] at HEND
                    clear h2
                    go_wp2_with fail
                    with_reducible refine (HV2.out _).mono ?_
                    rintro e w6 ⟨rfl, rfl⟩
                    go_wp2_with fail
                    go_roundw
                    case rel => exact ⟨i + 1, T3, a5', c5', by omega, by go_num, rfl, HEND.out.1, HEND.out.2.1, HS5.out, HEND.out.2.2.1, HEND.out.2.2.2, HB5.out⟩
                    case measure => simp [intOf]; omega
                  · have hne2 : (v2 != 0) = true := by simpa using h2
                    rw [HI2.out _ h2] at HEND
                    clear h2
                    go_wp2_with fail
                    with_reducible refine (HV2.out _).mono ?_
                    rintro e w6 ⟨rfl, rfl⟩
                    go_wp2_with fail
                    with_reducible refine (HV2.out _).mono ?_
                    rintro e w6 ⟨rfl, rfl⟩
                    go_wp2_with fail
                    with_reducible refine (RefS.put_any _ a5' T3.length c5' T3 (own_sl' HS5.out) (by have := HQ.out; have := HL5.out; omega) v2).mono ?_
                    rintro e w7 ⟨a7', c7', rfl, ho7, hb7⟩
                    have HS7 := Lib.hid (own_mono ho7 HB5.out.size)
                    have HB7 := Lib.hid (HB5.out.trans (hb7.mono HB5.out.size))
                    clear ho7 hb7
                    go_wp2_with fail
                    go_roundw
                    case rel => exact ⟨i + 1, RefS.ins v2 T3, a7', c7', by omega, by go_num, rfl, HEND.out.1, HEND.out.2.1, HS7.out, HEND.out.2.2.1, HEND.out.2.2.2, HB7.out⟩
                    case measure => simp [intOf]; omega
              · rw [tt_neg hin] at HHAS
                have HCL2 := Lib.hid (HCL.out (fun h => absurd h hin))
                clear hin
                go_wp2_with fail
                with_reducible refine HHAS.out.mono ?_
                rintro e w3 ⟨rfl, rfl⟩
                go_wp2_with fail
                go_roundw
                case rel => exact ⟨i + 1, T2, a2', c2', by omega, by go_num, rfl, hle.out, HCL2.out, HSU.out, hI.out, hall.out, HBU.out⟩
                case measure => simp [intOf]; omega
            · have hall2 : Hid (T2.length ≤ T.length → ∀ t ∈ x.ands, ClosedT T2 t) := fun h t ht => hcl.out h t (by rw [List.take_of_length_le (by rw [HM.out]; omega)]; exact ht)
              go_wp2_with fail
              clear hlt hcl
              go_roundw
              case rel => exact ⟨T2, a2', c2', T.length, rfl, rfl, ⟨by omega, by have := hle.out; omega⟩, hT.out, hI.out, hall.out, (fun h => hall2.out (by omega)), hB.out⟩
              case measure => have := rinv_few hI.out; have := HLT.out; have := HK.out; have := hle.out; simp [intOf]; omega
        · have he : k = T.length := by have := hk.out; omega
          have hd : decide (k < (T.length : Int)) = false := decide_eq_false hlt
          have HE := Lib.hid (rinv_end hI.out hall.out (hcl.out he))
          clear hlt
          go_wp2_with fail
          go_ret
          exact ⟨a', c', T, rfl, own_mono hT.out HB1.out.size, hI.out.rise, HE.out, HB1.out.trans (hB.out.mono HB1.out.size)⟩
end Coi
end Go.Proofs.YtninglnchengeaaGreat

/-
  Plain: what the law's needed gathers, again and again.
-/
namespace Go.Proofs.YtninglnchengeaaGreat
open Go.RowKit Base
set_option linter.unusedVariables false
set_option linter.unusedSimpArgs false
namespace Coi
open Circuit RefS

theorem rch_more {ands : List Tri} {L L2 : List Int} (h : ∀ t ∈ L, t ∈ L2) {v : Int} (hv : Rch ands L v) : Rch ands L2 v := by
  induction hv with
  | lit ht => exact .lit (h _ ht)
  | left _ h0 hg ih => exact .left ih h0 hg
  | right _ h0 hg ih => exact .right ih h0 hg
theorem nr_more {x : Circ} {l l2 : List Int} (h : ∀ t ∈ l, t ∈ l2) {v : Int} (hv : NR x l v) : NR x l2 v := by
  induction hv with
  | lit ht => exact .lit (h _ ht)
  | left _ h0 hg ih => exact .left ih h0 hg
  | right _ h0 hg ih => exact .right ih h0 hg
  | next _ h0 ht ih => exact .next ih h0 ht
theorem nr_same {x : Circ} {l l2 : List Int} (h : ∀ t, t ∈ l ↔ t ∈ l2) (v : Int) : NR x l v ↔ NR x l2 v := ⟨nr_more fun t => (h t).1, nr_more fun t => (h t).2⟩

structure LInv (x : Circ) (l L T : List Int) : Prop where
  sub : ∀ t ∈ l, t ∈ L
  sound : ∀ t ∈ L, NR x l (var t)
  rise : T.Pairwise (· < ·)
  mem : ∀ v, v ∈ T ↔ v ≠ 0 ∧ Rch x.ands L v
/-- A latch that counts has its next value counted. -/
def LShut (x : Circ) (T : List Int) : Prop := ∀ t ∈ x.lats, var t.1 ∈ T → var t.2.1 = 0 ∨ var t.2.1 ∈ T
/-- The next values of the latches that count. -/
noncomputable def nexts (T : List Int) (l : List Tri) : List Int := (l.filter fun t => tt (var t.1 ∈ T)).map fun t => t.2.1
theorem nexts_len (T : List Int) (l : List Tri) : (nexts T l).length ≤ l.length := by unfold nexts; rw [List.length_map]; exact List.length_filter_le _ _
theorem nexts_mem {T : List Int} {l : List Tri} {y : Int} : y ∈ nexts T l ↔ ∃ t ∈ l, var t.1 ∈ T ∧ t.2.1 = y := by
  unfold nexts
  simp only [List.mem_map, List.mem_filter, tt_iff]
  constructor
  · rintro ⟨t, ⟨h1, h2⟩, h3⟩; exact ⟨t, h1, h2, h3⟩
  · rintro ⟨t, h1, h2, h3⟩; exact ⟨t, ⟨h1, h2⟩, h3⟩
theorem nexts_yes {T : List Int} {l : List Tri} {k : Nat} (hk : k < l.length) (h : var l[k].1 ∈ T) : nexts T (l.take (k + 1)) = nexts T (l.take k) ++ [l[k].2.1] := by
  unfold nexts
  rw [List.take_succ_eq_append_getElem hk, List.filter_append, List.map_append]
  simp [tt_pos h]
theorem nexts_no {T : List Int} {l : List Tri} {k : Nat} (hk : k < l.length) (h : ¬ var l[k].1 ∈ T) : nexts T (l.take (k + 1)) = nexts T (l.take k) := by
  unfold nexts
  rw [List.take_succ_eq_append_getElem hk, List.filter_append, List.map_append]
  simp [tt_neg h]
theorem linv_nr {x : Circ} {l L T : List Int} (h : LInv x l L T) {v : Int} (hv : v ∈ T) : v ≠ 0 ∧ NR x l v := ⟨((h.mem v).1 hv).1, nr_of_rch h.sound ((h.mem v).1 hv).2⟩
theorem linv_few {x : Circ} {l L T : List Int} (h : LInv x l L T) : T.length ≤ l.length + 2 * x.ands.length + x.lats.length := by
  have := nodup_len (rise_nodup h.rise) (C := uni x l) (fun v hv => nr_uni (linv_nr h hv).2)
  unfold uni at this
  simp only [List.length_append, List.length_map] at this
  omega
theorem linv_start {x : Circ} {l T : List Int} (h : T.Pairwise (· < ·)) (hm : ∀ v, v ∈ T ↔ v ≠ 0 ∧ Rch x.ands l v) : LInv x l l T := ⟨fun _ h => h, fun _ h => .lit h, h, hm⟩
theorem linv_next {x : Circ} {l L T T2 : List Int} (h : LInv x l L T) (h2 : T2.Pairwise (· < ·)) (hm : ∀ v, v ∈ T2 ↔ v ≠ 0 ∧ Rch x.ands (L ++ nexts T x.lats) v) :
    LInv x l (L ++ nexts T x.lats) T2 ∧ T.length ≤ T2.length ∧ (T2.length ≤ T.length → LShut x T2) := by
  have hs : ∀ v ∈ T, v ∈ T2 := fun v hv => (hm v).2 ⟨((h.mem v).1 hv).1, rch_more (fun t ht => List.mem_append_left _ ht) ((h.mem v).1 hv).2⟩
  refine ⟨⟨fun t ht => List.mem_append_left _ (h.sub t ht), fun t ht => ?_, h2, hm⟩, rise_sub h.rise hs, fun hl t ht hv => ?_⟩
  · rcases List.mem_append.1 ht with ht | ht
    · exact h.sound t ht
    · obtain ⟨u, hu, hv, rfl⟩ := nexts_mem.1 ht
      obtain ⟨h0, hn⟩ := linv_nr h hv
      exact .next hn h0 hu
  · have e := rise_same h.rise h2 hs hl
    by_cases h0 : var t.2.1 = 0
    · exact Or.inl h0
    · exact Or.inr ((hm _).2 ⟨h0, .lit (List.mem_append_right _ (nexts_mem.2 ⟨t, ht, e ▸ hv, rfl⟩))⟩)
theorem linv_end {x : Circ} {l L T : List Int} (h : LInv x l L T) (hs : LShut x T) (v : Int) : v ∈ T ↔ v ≠ 0 ∧ NR x l v := by
  refine ⟨linv_nr h, fun hh => ?_⟩
  obtain ⟨h0, hn⟩ := hh
  induction hn with
  | lit ht => exact (h.mem _).2 ⟨h0, .lit (h.sub _ ht)⟩
  | left _ hv hg ih => exact (h.mem _).2 ⟨h0, .left ((h.mem _).1 (ih hv)).2 hv hg⟩
  | right _ hv hg ih => exact (h.mem _).2 ⟨h0, .right ((h.mem _).1 (ih hv)).2 hv hg⟩
  | next _ hv ht ih => exact (hs _ ht (ih hv)).resolve_left h0
end Coi
end Go.Proofs.YtninglnchengeaaGreat

/-
  lits.Check, at whatever greatest variable may be.
-/
namespace Go.Proofs.YtninglnchengeaaGreat
open Go.RowKit Base
set_option linter.unusedVariables false
set_option linter.unusedSimpArgs false
namespace LitsC
open Circuit

def oddM (mx l : Int) : Bool := decide (l < 0) || decide (mx < var l)
theorem eg_chk : SlfI.Enters 70 := enters_of Tryz.func70 (by kernel_rfl) rfl
set_option maxHeartbeats 4000000 in
theorem chk1_any (w : World) (Bw Bm : Nat) (hw : w.cell? ⟨Bw, 0, none⟩ = some (.bool false)) (mx : Int) (hm : w.cell? ⟨Bm, 0, none⟩ = some (.int .i64 mx)) (hlw : Bw < w.heap.size) (hlm : Bm < w.heap.size) (x : Int) (hx0 : -9223372036854775808 ≤ x) (hx1 : x ≤ 9223372036854775807) :
    Calls Tryz.prog 70 #[.int .i64 x, .pointer (some ⟨Bw, 0, none⟩), .pointer (some ⟨Bm, 0, none⟩)] w fun e w' => e = .returned (.bool (oddM mx x)) ∧ Below w.heap.size w w' := by
  have HS := fun (U : World) (hU : Below w.heap.size w U) => (⟨hU, (hU.cell (p := ⟨Bw, 0, none⟩) hlw).trans hw, (hU.cell (p := ⟨Bm, 0, none⟩) hlm).trans hm⟩ : Below w.heap.size w U ∧ U.cell? ⟨Bw, 0, none⟩ = some (.bool false) ∧ U.cell? ⟨Bm, 0, none⟩ = some (.int .i64 mx))
  have LC1 := Lib.hid (fun (U : World) (hU : Below w.heap.size w U ∧ U.cell? ⟨Bw, 0, none⟩ = some (.bool false) ∧ U.cell? ⟨Bm, 0, none⟩ = some (.int .i64 mx)) => (var_any x hx0 hx1 U).mono (fun e w' h => (⟨h.1, h.2 ▸ hU⟩ : e = .returned (.int .i64 (var x)) ∧ Below w.heap.size w w' ∧ w'.cell? ⟨Bw, 0, none⟩ = some (.bool false) ∧ w'.cell? ⟨Bm, 0, none⟩ = some (.int .i64 mx))))
  have HF := Lib.hid (HS w.drew (Below.refl _ _).drew)
  have HOD : Hid (oddM mx x = (decide (x < 0) || decide (mx < var x))) := rfl
  clear HS hw hm hlw hlm hx0 hx1
  generalize hv : var x = v at *
  clear hv
  by_cases hx : x < 0
  · have hd : decide (x < 0) = true := decide_eq_true hx
    have HR : Hid (oddM mx x = true) := by show _ = _; rw [HOD.out, hd]; rfl
    clear hx
    go_enter Tryz.func70, Tryz.ntmps70
    go_upto_region 1 with fail
    refine Lex.region (fun w' => Below w.heap.size w w' ∧ w'.cell? ⟨Bw, 0, none⟩ = some (.bool false) ∧ w'.cell? ⟨Bm, 0, none⟩ = some (.int .i64 mx)) (by kernel_rfl) (by kernel_rfl) HF.out ?_
    repeat (first
      | (refine Lex.step_val (v := ?_) ?_ (fun w' hSw => ?_) ?_; rotate_left; (focus (go_simp; done)); (focus ((try dsimp only at hSw); go_simp; (try with_reducible rfl); done)); (try simp only [Act.put, List.setIfInBounds_toArray, List.set_cons_zero, List.set_cons_succ]))
      | (refine Lex.step_call (v := ?_) (f := ?_) (args := ?_) ?_ (fun w' hSw => ?_) ?_ ?_; rotate_left 3; (focus (go_simp; done)); (focus ((try dsimp only at hSw); go_simp; (refine And.intro ?_ ?_ <;> with_reducible rfl); done)); (focus (first | with_reducible exact LC1.out)); (try simp only [Act.put, List.setIfInBounds_toArray, List.set_cons_zero, List.set_cons_succ]))
      | (refine Lex.step_off ?_ ?_; (focus (first | (go_simp; done) | (simp [Region.wanted, yielded, undef]; done) | rfl)); (try simp only [Act.put, List.setIfInBounds_toArray, List.set_cons_zero, List.set_cons_succ]))
      | fail)
    refine Lex.step_nil ?_
    intro wz hz
    go_wp2_with fail
    go_ret
    exact ⟨ret_bool HR.out.symm, hz.1⟩
  · have hd : decide (x < 0) = false := decide_eq_false hx
    have HR : Hid (oddM mx x = decide (mx < v)) := by show _ = _; rw [HOD.out, hd]; rfl
    clear hx
    generalize hq : decide (mx < v) = q at *
    go_enter Tryz.func70, Tryz.ntmps70
    go_upto_region 1 with fail
    refine Lex.region (fun w' => Below w.heap.size w w' ∧ w'.cell? ⟨Bw, 0, none⟩ = some (.bool false) ∧ w'.cell? ⟨Bm, 0, none⟩ = some (.int .i64 mx)) (by kernel_rfl) (by kernel_rfl) HF.out ?_
    repeat (first
      | (refine Lex.step_val (v := ?_) ?_ (fun w' hSw => ?_) ?_; rotate_left; (focus (go_simp; done)); (focus ((try dsimp only at hSw); go_simp; (try with_reducible rfl); done)); (try simp only [Act.put, List.setIfInBounds_toArray, List.set_cons_zero, List.set_cons_succ]))
      | (refine Lex.step_call (v := ?_) (f := ?_) (args := ?_) ?_ (fun w' hSw => ?_) ?_ ?_; rotate_left 3; (focus (go_simp; done)); (focus ((try dsimp only at hSw); go_simp; (refine And.intro ?_ ?_ <;> with_reducible rfl); done)); (focus (first | with_reducible exact LC1.out)); (try simp only [Act.put, List.setIfInBounds_toArray, List.set_cons_zero, List.set_cons_succ]))
      | (refine Lex.step_off ?_ ?_; (focus (first | (go_simp; done) | (simp [Region.wanted, yielded, undef]; done) | rfl)); (try simp only [Act.put, List.setIfInBounds_toArray, List.set_cons_zero, List.set_cons_succ]))
      | fail)
    refine Lex.step_nil ?_
    intro wz hz
    go_wp2_with fail
    go_ret
    exact ⟨ret_bool HR.out.symm, hz.1⟩

set_option maxHeartbeats 2000000 in
theorem check_any (w : World) (a : Option Addr) (n c : Nat) (l : List Int) (hsl : Sl w a n c (ints l)) (hw : ∀ y ∈ l, Circuit.I64 y) (mx : Int) (hm0 : 0 ≤ mx) (hm1 : mx ≤ 2048) :
    Calls Tryz.prog 43 #[.int .i64 mx, .slice a n c] w fun e w' => e = .returned (.int .i64 (if l.any (oddM mx) = true then 4 else 0)) ∧ Below w.heap.size w w' := by
  have hlm : l.length = n := by have := hsl.len; rwa [ints_len] at this
  obtain ⟨W1, hW1⟩ : ∃ U, w.alloc (.cells #[.int .i64 mx] 3) = U := ⟨_, rfl⟩
  obtain ⟨U, hU⟩ : ∃ U, W1.alloc (.cells #[.bool false] 4) = U := ⟨_, rfl⟩
  have hb1 : Below w.heap.size w W1 := by rw [← hW1]; exact (Below.refl _ _).alloc (Nat.le_refl _) _
  have hb2 : Below W1.heap.size W1 U := by rw [← hU]; exact (Below.refl _ _).alloc (Nat.le_refl _) _
  have hz1 : w.heap.size < W1.heap.size := by rw [← hW1]; simp
  have hz2 : W1.heap.size < U.heap.size := by rw [← hU]; simp
  have u0 : U.cell? ⟨w.heap.size, 0, none⟩ = some (.int .i64 mx) := (hb2.cell (p := ⟨w.heap.size, 0, none⟩) hz1).trans (by rw [← hW1]; simp)
  have u1 : U.cell? ⟨W1.heap.size, 0, none⟩ = some (.bool false) := by rw [← hU]; simp
  have w0 : W1.cell? ⟨w.heap.size, 0, none⟩ = some (.int .i64 mx) := by rw [← hW1]; simp
  have hb := hb1.trans (hb2.mono hb1.size)
  have CF := SlfI.containsFunc U a n c (ints l) 70 #[] #[.pointer (some ⟨W1.heap.size, 0, none⟩), .pointer (some ⟨w.heap.size, 0, none⟩)] (l.map (oddM mx)) (hsl.next hb) (by rw [List.length_map, hlm]) eg_chk (by
    intro V hV j y q hy hq
    obtain ⟨hj, rfl⟩ := Base.ints_at hy
    rw [List.getElem?_map, List.getElem?_eq_getElem hj] at hq
    simp only [Option.map_some, Option.some.injEq] at hq
    subst hq
    have hzV := hV.size
    exact chk1_any V W1.heap.size w.heap.size ((hV.cell (p := ⟨W1.heap.size, 0, none⟩) hz2).trans u1) mx ((hV.cell (p := ⟨w.heap.size, 0, none⟩) (Nat.lt_trans hz1 hz2)).trans u0) (by omega) (by omega) l[j] (hw _ (List.getElem_mem hj)).1 (hw _ (List.getElem_mem hj)).2)
  have hall : ((l.map (oddM mx)).any id) = l.any (oddM mx) := by
    rw [List.any_map]
    rfl
  rw [hall] at CF
  have HCF := Lib.hid CF
  have HB := Lib.hid hb
  have HU := Lib.hid hU
  have HWR : Hid ((decide (mx < 0) || decide (2048 < mx)) = false) := by show _ = _; rw [decide_eq_false (by omega), decide_eq_false (by omega)]; rfl
  clear CF hall hb hb1 hb2 hz1 hz2 u0 u1 hsl hw hU
  generalize l.any (oddM mx) = q at *
  cases q
  all_goals
    go_enter Tryz.func43, Tryz.ntmps43
    go_wp2_with fail
    rw [HWR.out, HU.out]
    with_reducible refine HCF.out.mono ?_
    rintro e w3 ⟨rfl, hb3⟩
    have HB3 := Lib.hid (HB.out.trans (hb3.mono HB.out.size))
    clear hb3
    go_wp2_with fail
    go_ret
    exact ⟨rfl, HB3.out⟩

end LitsC
end Go.Proofs.YtninglnchengeaaGreat

/-
  slices.IndexFunc and slices.ContainsFunc at one instance (elements of one cell), whatever predicate is handed over: ps says of each element what the predicate gives.
-/
namespace Go.Proofs.YtninglnchengeaaGreat
open Go.RowKit Base
set_option linter.unusedVariables false
namespace SlfR

/-- A function value gives ps of the elements, and turns nothing that is there. -/
def Gives (w : World) (g : FuncId) (fs lb : Array Value) (vs : List Value) (ps : List Bool) : Prop :=
  ∀ W, Below w.heap.size w W → ∀ (k : Nat) (v : Value) (b : Bool), vs[k]? = some v → ps[k]? = some b → Calls Tryz.prog g (fs.push v ++ lb) W fun e w' => e = .returned (.bool b) ∧ Below W.heap.size W w'

def Enters (g : FuncId) : Prop := ∀ args w, (callFunc g args).run Tryz.prog w = .ok (.enter g args) w

theorem idx_hit (ps : List Bool) (k : Nat) (h : ps[k]? = some true) : idx id (ps.drop k) k = k := by
  obtain ⟨hk, e⟩ := List.getElem?_eq_some_iff.1 h
  rw [List.drop_eq_getElem_cons hk]; unfold idx; rw [e]; rfl
theorem idx_miss (ps : List Bool) (k : Nat) (h : ps[k]? = some false) : idx id (ps.drop k) k = idx id (ps.drop (k + 1)) (k + 1) := by
  obtain ⟨hk, e⟩ := List.getElem?_eq_some_iff.1 h
  rw [List.drop_eq_getElem_cons hk]
  show (if id ps[k] = true then _ else _) = _
  rw [e]; rfl

set_option maxHeartbeats 1000000 in
theorem indexFunc (w : World) (a : Option Addr) (n c : Nat) (vs : List Value) (g : FuncId) (fs lb : Array Value) (ps : List Bool)
    (hs : Sl w a n c vs) (hps : ps.length = n) (eg : Enters g) (hg : Gives w g fs lb vs ps) :
    Calls Tryz.prog 77 #[.slice a n c, .func (.func g) fs lb] w fun e w' => e = .returned (.int .i64 (idx id ps 0)) ∧ Below w.heap.size w w' := by
  have hcap := hs.cap
  have hbig := hs.big
  have HPS := Lib.hid hps
  have HG := Lib.hid hg
  clear hg hps
  unfold Enters at eg
  go_enter Tryz.func77, Tryz.ntmps77
  go_wp2
  go_loopw [5, 8] (fun _ i wr => ∃ k : Nat, k ≤ n ∧ i = .int .i64 k ∧ Below w.heap.size w wr ∧ Hid (idx id ps 0 = idx id (ps.drop k) k)) (fun _ i _ => n - (intOf i).toNat)
  case atStart => exact ⟨0, Nat.zero_le _, rfl, Below.refl _ _, rfl⟩
  case round =>
    obtain ⟨k, hk, rfl, hb, hI⟩ := hrel
    by_cases hlt : k < n
    · obtain ⟨b, o, v, rfl, hbs, hv, hc⟩ := hs.at hlt
      have hcr : wr.cell? ⟨b, o + k, none⟩ = some v := (hb.cell (p := ⟨b, o + k, none⟩) hbs).trans hc
      have HV := Lib.hid hv
      clear hc hv
      obtain ⟨q, hq⟩ : ∃ q, ps[k]? = some q := ⟨_, List.getElem?_eq_getElem (by have := HPS.out; omega)⟩
      have HQ := Lib.hid hq
      clear hq
      cases q
      all_goals
        go_wp2_with fail
        refine (HG.out wr hb k v _ HV.out HQ.out).mono ?_
        rintro e w1 ⟨rfl, hb1⟩
        go_wp2_with fail
      · go_roundw
        case rel => exact ⟨k + 1, by omega, by go_num, hb.trans (hb1.mono hb.size), hI.out.trans (idx_miss ps k HQ.out)⟩
        case measure => simp [intOf]; omega
      · go_ret
        exact ⟨ret_int (by rw [hI.out, idx_hit ps k HQ.out]), hb.trans (hb1.mono hb.size)⟩
    · go_wp2
      go_ret
      exact ⟨ret_int (by rw [hI.out, List.drop_of_length_le (by rw [HPS.out]; omega)]; rfl), hb⟩

set_option maxHeartbeats 400000 in
theorem containsFunc (w : World) (a : Option Addr) (n c : Nat) (vs : List Value) (g : FuncId) (fs lb : Array Value) (ps : List Bool)
    (hs : Sl w a n c vs) (hps : ps.length = n) (eg : Enters g) (hg : Gives w g fs lb vs ps) :
    Calls Tryz.prog 45 #[.slice a n c, .func (.func g) fs lb] w fun e w' => e = .returned (.bool (ps.any id)) ∧ Below w.heap.size w w' := by
  have H := Lib.hid (indexFunc w a n c vs g fs lb ps hs hps eg hg)
  clear hg hs eg hps
  go_enter Tryz.func45, Tryz.ntmps45
  go_wp2_with fail
  refine H.out.mono ?_
  rintro e w1 ⟨rfl, hb1⟩
  generalize hq : idx id ps 0 = q
  have HQ := Lib.hid hq
  clear hq
  go_wp2_with fail
  go_ret
  exact ⟨ret_bool (by rw [← idx_nn id ps 0, HQ.out]), hb1⟩
end SlfR
end Go.Proofs.YtninglnchengeaaGreat

/-
  coi.asked: may it be asked what counts?
-/
namespace Go.Proofs.YtninglnchengeaaGreat
open Go.RowKit Base
set_option linter.unusedVariables false
set_option linter.unusedSimpArgs false
namespace Coi
open Circuit LitsC

theorem eg_ask : SlfR.Enters 42 := enters_of Tryz.func42 (by kernel_rfl) rfl
def strangeL (mx : Int) (l : List Int) : Bool := l.any (oddM mx)

set_option maxHeartbeats 1000000 in
theorem ask1_any (w : World) (N : Nat) (mx : Int) (hm : w.cell? ⟨N, 0, none⟩ = some (.int .i64 mx)) (h0 : 0 ≤ mx) (h1 : mx ≤ 2048) (a : Option Addr) (n c : Nat) (l : List Int) (hsl : Sl w a n c (ints l)) (hl : ∀ y ∈ l, Circuit.I64 y) :
    Calls Tryz.prog 42 #[.slice a n c, .pointer (some ⟨N, 0, none⟩)] w fun e w' => e = .returned (.bool (strangeL mx l)) ∧ Below w.heap.size w w' := by
  have HC := Lib.hid (check_any w a n c l hsl hl mx h0 h1)
  unfold strangeL
  generalize l.any (oddM mx) = q at *
  clear hsl hl h0 h1
  cases q
  all_goals
    go_enter Tryz.func42, Tryz.ntmps42
    go_wp2_with fail
    with_reducible refine HC.out.mono ?_
    rintro e w2 ⟨rfl, hb2⟩
    go_wp2_with fail
    go_ret
    exact ⟨rfl, hb2⟩

/-- What asked tells. -/
noncomputable def askE (x : Circ) (A : List (List Int)) (bad : Int) : Int :=
  if tt (CheckOk x) = true then (if bad < 0 ∨ (x.bads.length : Int) ≤ bad then 4 else if A.any (strangeL x.max) = true then 23 else 0) else 9
theorem askE_no {x : Circ} (h : ¬ CheckOk x) (A : List (List Int)) (bad : Int) : askE x A bad = 9 := by unfold askE; rw [tt_neg h]; rfl
theorem askE_bad {x : Circ} (h : CheckOk x) (A : List (List Int)) {bad : Int} (hb : bad < 0 ∨ (x.bads.length : Int) ≤ bad) : askE x A bad = 4 := by unfold askE; rw [tt_pos h, if_pos rfl, if_pos hb]
theorem askE_kind {x : Circ} (h : CheckOk x) {A : List (List Int)} {bad : Int} (hb : ¬ (bad < 0 ∨ (x.bads.length : Int) ≤ bad)) (hA : A.any (strangeL x.max) = true) : askE x A bad = 23 := by unfold askE; rw [tt_pos h, if_pos rfl, if_neg hb, if_pos hA]
theorem askE_ok {x : Circ} (h : CheckOk x) {A : List (List Int)} {bad : Int} (hb : ¬ (bad < 0 ∨ (x.bads.length : Int) ≤ bad)) (hA : A.any (strangeL x.max) = false) : askE x A bad = 0 := by unfold askE; rw [tt_pos h, if_pos rfl, if_neg hb, if_neg (by rw [hA]; decide)]
theorem askE_zero {x : Circ} {A : List (List Int)} {bad : Int} (h : askE x A bad = 0) : CheckOk x ∧ 0 ≤ bad ∧ bad < x.bads.length ∧ A.any (strangeL x.max) = false := by
  by_cases hc : CheckOk x
  · by_cases hb : bad < 0 ∨ (x.bads.length : Int) ≤ bad
    · rw [askE_bad hc A hb] at h; omega
    · cases hA : A.any (strangeL x.max)
      · exact ⟨hc, by omega, by omega, rfl⟩
      · rw [askE_kind hc hb hA] at h; omega
  · rw [askE_no hc] at h; omega

set_option maxRecDepth 8000 in
set_option maxHeartbeats 4000000 in
theorem asked_any (w : World) (x : Circ) (p : At) (hin : InCirc w x p) (hw : WfC x) (aA : Option Addr) (n cA : Nat) (vals : List Value) (A : List (List Int)) (hA : Sl2 w aA n cA vals A) (hA64 : ∀ y ∈ A.flatten, Circuit.I64 y) (bad : Int) (hb0 : -9223372036854775808 ≤ bad) (hb1 : bad ≤ 9223372036854775807) :
    Calls Tryz.prog 17 #[.agg (cells x p), .slice aA n cA, .int .i64 bad] w fun e w' => e = .returned (.int .i64 (askE x A bad)) ∧ Below w.heap.size w w' := by
  obtain ⟨W1, hW1⟩ : ∃ W1, w.alloc (.cells (cells x p) 27) = W1 := ⟨_, rfl⟩
  obtain ⟨hb1', hc1⟩ := cbox_new w x p W1 hW1
  have HB1 := Lib.hid hb1'
  have HC := Lib.hid (check_any W1 x p (hin.next hb1') hw.ins hw.outs hw.bads hw.invs hw.lats hw.ands hw.mx)
  have HCB := Lib.hid (fun (U : World) (hU : Below W1.heap.size W1 U) => hc1.next hU (Nat.le_refl _))
  have HA := Lib.hid (fun (U : World) (hU : Below W1.heap.size W1 U) => (hA.next hb1').next hU)
  have HA64 := Lib.hid hA64
  have HAL := Lib.hid (hA.len)
  have HLB := Lib.hid (hin.bads.big)
  have k0 := hc1.k0
  have k1 := hc1.k1
  have k2 := hc1.k2
  have k3 := hc1.k3
  have k4 := hc1.k4
  have k5 := hc1.k5
  have k6 := hc1.k6
  have k7 := hc1.k7
  obtain ⟨a1, c1, a2, c2, a3, c3, a4, c4, a5, c5, a6, c6, a7, c7⟩ := p
  simp only [cells] at *
  by_cases hok : CheckOk x
  · rw [chk_pos hok] at HC
    have HOK := Lib.hid hok
    clear hin hw hA hA64 hb1' hc1 hok
    by_cases hlo : bad < 0
    · have HE : Hid (askE x A bad = 4) := askE_bad HOK.out A (Or.inl hlo)
      go_enter Tryz.func17, Tryz.ntmps17
      go_wp2_with fail
      with_reducible refine HC.out.mono ?_
      rintro e w2 ⟨rfl, hb2⟩
      have HB2 := Lib.hid hb2
      clear hb2 k0 k1 k2 k3 k4 k5 k6 k7 hW1
      go_wp2_with fail
      go_ret
      exact ⟨ret_int HE.out.symm, HB1.out.trans (HB2.out.mono HB1.out.size)⟩
    · by_cases hhi : (x.bads.length : Int) ≤ bad
      · have HE : Hid (askE x A bad = 4) := askE_bad HOK.out A (Or.inr hhi)
        go_enter Tryz.func17, Tryz.ntmps17
        go_wp2_with fail
        with_reducible refine HC.out.mono ?_
        rintro e w2 ⟨rfl, hb2⟩
        have HB2 := Lib.hid hb2
        have m4 := (HCB.out w2 hb2).k4
        clear hb2 k0 k1 k2 k3 k4 k5 k6 k7 hW1
        go_wp2_with fail
        go_ret
        exact ⟨ret_int HE.out.symm, HB1.out.trans (HB2.out.mono HB1.out.size)⟩
      · have HN : Hid (¬ (bad < 0 ∨ (x.bads.length : Int) ≤ bad)) := fun h => h.elim hlo hhi
        have HGV := Lib.hid (fun (U : World) (hU : Below W1.heap.size W1 U) => SlfR.containsFunc U aA n cA vals 42 #[] #[.pointer (some ⟨w.heap.size, 0, none⟩)] (A.map (strangeL x.max)) (HA.out U hU).sl (by rw [List.length_map, HAL.out]) eg_ask (by
          intro V hV j v q hv hq
          rw [List.getElem?_map, Option.map_eq_some_iff] at hq
          obtain ⟨l, hl, rfl⟩ := hq
          have hVU := hU.trans (hV.mono hU.size)
          obtain ⟨a', c', rfl, hs⟩ := (HA.out V hVU).row j v l hv hl
          exact ask1_any V w.heap.size x.max (HCB.out V hVU).k0 HOK.out.1.1 HOK.out.1.2.1 a' l.length c' l hs (fun y hy => HA64.out y (List.mem_flatten.2 ⟨l, List.mem_of_getElem? hl, hy⟩))))
        have hany : ((A.map (strangeL x.max)).any id) = A.any (strangeL x.max) := by rw [List.any_map]; rfl
        rw [hany] at HGV
        have hhi2 : bad < (x.bads.length : Int) := by omega
        clear hany
        cases hq : A.any (strangeL x.max)
        · have HE : Hid (askE x A bad = 0) := askE_ok HOK.out HN.out hq
          rw [hq] at HGV
          clear hq
          go_enter Tryz.func17, Tryz.ntmps17
          go_wp2_with fail
          with_reducible refine HC.out.mono ?_
          rintro e w2 ⟨rfl, hb2⟩
          have HB2 := Lib.hid hb2
          have m4 := (HCB.out w2 hb2).k4
          have HG2 := Lib.hid (HGV.out w2 hb2)
          clear hb2 k0 k1 k2 k3 k4 k5 k6 k7 hW1
          go_wp2_with fail
          with_reducible refine HG2.out.mono ?_
          rintro e w3 ⟨rfl, hb3⟩
          go_wp2_with fail
          go_ret
          exact ⟨ret_int HE.out.symm, HB1.out.trans ((HB2.out.trans (hb3.mono HB2.out.size)).mono HB1.out.size)⟩
        · have HE : Hid (askE x A bad = 23) := askE_kind HOK.out HN.out hq
          rw [hq] at HGV
          clear hq
          go_enter Tryz.func17, Tryz.ntmps17
          go_wp2_with fail
          with_reducible refine HC.out.mono ?_
          rintro e w2 ⟨rfl, hb2⟩
          have HB2 := Lib.hid hb2
          have m4 := (HCB.out w2 hb2).k4
          have HG2 := Lib.hid (HGV.out w2 hb2)
          clear hb2 k0 k1 k2 k3 k4 k5 k6 k7 hW1
          go_wp2_with fail
          with_reducible refine HG2.out.mono ?_
          rintro e w3 ⟨rfl, hb3⟩
          go_wp2_with fail
          go_ret
          exact ⟨ret_int HE.out.symm, HB1.out.trans ((HB2.out.trans (hb3.mono HB2.out.size)).mono HB1.out.size)⟩
  · rw [chk_neg hok] at HC
    have HE : Hid (askE x A bad = 9) := askE_no hok A bad
    clear hin hw hA hA64 hb1' hc1 hok
    go_enter Tryz.func17, Tryz.ntmps17
    go_wp2_with fail
    with_reducible refine HC.out.mono ?_
    rintro e w2 ⟨rfl, hb2⟩
    have HB2 := Lib.hid hb2
    clear hb2 k0 k1 k2 k3 k4 k5 k6 k7 hW1
    go_wp2_with fail
    go_ret
    exact ⟨ret_int HE.out.symm, HB1.out.trans (HB2.out.mono HB1.out.size)⟩
end Coi
end Go.Proofs.YtninglnchengeaaGreat

/-
  interlockref01.Within; the law's asked.
-/
namespace Go.Proofs.YtninglnchengeaaGreat
open Go.RowKit Base
set_option linter.unusedVariables false
set_option linter.unusedSimpArgs false
namespace Coi
open Circuit LitsC

set_option maxHeartbeats 1000000 in
theorem within_any (w : World) (mx : Int) (h0 : 0 ≤ mx) (h1 : mx ≤ 2048) (a : Option Addr) (n c : Nat) (l : List Int) (hsl : Sl w a n c (ints l)) (hl : ∀ y ∈ l, Circuit.I64 y) :
    Calls Tryz.prog 31 #[.int .i64 mx, .slice a n c] w fun e w' => e = .returned (.bool (!strangeL mx l)) ∧ w' = w := by
  have HN : Hid (l.length = n) := by have := hsl.len; rwa [ints_len] at this
  have hcap := hsl.cap
  have hbig := hsl.big
  have HSL := Lib.hid hsl
  have HL := Lib.hid hl
  have hm0 : decide (mx < 0) = false := decide_eq_false (by omega)
  have hm1 : decide ((2048 : Int) < mx) = false := decide_eq_false (by omega)
  clear hsl hl
  go_enter Tryz.func31, Tryz.ntmps31
  go_wp2_with fail
  have hw2 : IntKind.i64.wrap (2 * mx) = 2 * mx := IntWalk.i64_in _ (by omega)
  have hw3 : IntKind.i64.wrap (2 * mx + 1) = 2 * mx + 1 := IntWalk.i64_in _ (by omega)
  go_loopw [5] (fun u wr => ∃ j : Nat, j ≤ n ∧ u = .int .i64 j ∧ Hid (∀ i (h : i < l.length), i < j → oddM mx l[i] = false) ∧ wr = w) (fun u _ => n - (intOf u).toNat)
  case atStart => exact ⟨0, Nat.zero_le _, rfl, (fun i _ h => by omega), rfl⟩
  case round =>
    obtain ⟨j, hj, rfl, hI, rfl⟩ := hrel
    by_cases hlt : j < n
    · obtain ⟨b, o, hx, rfl, hbs, e0⟩ := HSL.out.int hlt
      have hy := HL.out l[j] (List.getElem_mem hx)
      have HBAD : Hid (oddM mx l[j] = true → strangeL mx l = true) := fun h => List.any_eq_true.2 ⟨_, List.getElem_mem hx, h⟩
      have HGO : Hid (oddM mx l[j] = false → ∀ i (h : i < l.length), i < j + 1 → oddM mx l[i] = false) := fun h i hi hij => by
        by_cases he : i = j
        · subst he; exact h
        · exact hI.out i hi (by omega)
      have hod : oddM mx l[j] = (decide (l[j] < 0) || decide (2 * mx + 1 < l[j])) := by
        unfold oddM
        rw [Bool.eq_iff_iff]
        simp only [Bool.or_eq_true, decide_eq_true_eq]
        unfold var
        omega
      clear hI
      generalize l[j] = y at *
      clear hx
      by_cases h1 : y < 0
      · have hd : decide (y < 0) = true := decide_eq_true h1
        rw [hd, Bool.true_or] at hod
        have HR := Lib.hid (HBAD.out hod)
        clear hod HBAD HGO h1
        go_wp2_with fail
        go_ret
        exact ⟨ret_bool (by rw [HR.out]; rfl), rfl⟩
      · have hd : decide (y < 0) = false := decide_eq_false h1
        by_cases h2 : 2 * mx + 1 < y
        · have hd2 : decide (2 * mx + 1 < y) = true := decide_eq_true h2
          rw [hd2, Bool.or_true] at hod
          have HR := Lib.hid (HBAD.out hod)
          clear hod HBAD HGO
          go_wp2_with fail
          go_ret
          exact ⟨ret_bool (by rw [HR.out]; rfl), rfl⟩
        · have hd2 : decide (2 * mx + 1 < y) = false := decide_eq_false h2
          rw [hd, hd2, Bool.or_false] at hod
          have HR := Lib.hid (HGO.out hod)
          clear hod HBAD HGO
          go_wp2_with fail
          go_roundw
          case rel => exact ⟨j + 1, by omega, by go_num, HR.out, trivial⟩
          case measure => simp [intOf]; omega
    · have HR : Hid (strangeL mx l = false) := by
        show _ = _
        unfold strangeL
        rw [List.any_eq_false]
        intro y hy
        obtain ⟨i, hi, rfl⟩ := List.getElem_of_mem hy
        rw [hI.out i hi (by have := HN.out; omega)]
        decide
      go_wp2_with fail
      go_ret
      exact ⟨ret_bool (by rw [HR.out]; rfl), rfl⟩

set_option maxRecDepth 8000 in
set_option maxHeartbeats 4000000 in
theorem lawAsked_any (w : World) (x : Circ) (p : At) (hin : InCirc w x p) (hw : WfC x) (aA : Option Addr) (n cA : Nat) (vals : List Value) (A : List (List Int)) (hA : Sl2 w aA n cA vals A) (hA64 : ∀ y ∈ A.flatten, Circuit.I64 y) (bad : Int) (hb0 : -9223372036854775808 ≤ bad) (hb1 : bad ≤ 9223372036854775807)
    (hza : x.ands.length * 24 ≤ 140737488355328) :
    Calls Tryz.prog 9 #[.agg (cells x p), .slice aA n cA, .int .i64 bad] w fun e w' => e = .returned (.int .i64 (askE x A bad)) ∧ Below w.heap.size w w' := by
  obtain ⟨W1, hW1⟩ : ∃ W1, w.alloc (.cells (cells x p) 27) = W1 := ⟨_, rfl⟩
  obtain ⟨hb1', hc1⟩ := cbox_new w x p W1 hW1
  have HB1 := Lib.hid hb1'
  have HC := Lib.hid (refCheck_any W1 x p (hin.next hb1') hw hza)
  rw [refchk_eq] at HC
  have HCB := Lib.hid (fun (U : World) (hU : Below W1.heap.size W1 U) => hc1.next hU (Nat.le_refl _))
  have HA := Lib.hid (fun (U : World) (hU : Below W1.heap.size W1 U) => (hA.next hb1').next hU)
  have HA64 := Lib.hid hA64
  have HAL := Lib.hid (hA.len)
  have hcapA := hA.sl.cap
  have hbigA := hA.sl.big
  have HLB := Lib.hid (hin.bads.big)
  have k0 := hc1.k0
  have k1 := hc1.k1
  have k2 := hc1.k2
  have k3 := hc1.k3
  have k4 := hc1.k4
  have k5 := hc1.k5
  have k6 := hc1.k6
  have k7 := hc1.k7
  obtain ⟨a1, c1, a2, c2, a3, c3, a4, c4, a5, c5, a6, c6, a7, c7⟩ := p
  simp only [cells] at *
  by_cases hok : CheckOk x
  · rw [chk_pos hok] at HC
    have HOK := Lib.hid hok
    clear hin hw hA hA64 hb1' hc1 hok
    by_cases hlo : bad < 0
    · have HE : Hid (askE x A bad = 4) := askE_bad HOK.out A (Or.inl hlo)
      go_enter Tryz.func9, Tryz.ntmps9
      go_wp2_with fail
      with_reducible refine HC.out.mono ?_
      rintro e w2 ⟨rfl, hb2⟩
      have HB2 := Lib.hid hb2
      clear hb2 k0 k1 k2 k3 k4 k5 k6 k7 hW1
      go_wp2_with fail
      go_ret
      exact ⟨ret_int HE.out.symm, HB1.out.trans (HB2.out.mono HB1.out.size)⟩
    · by_cases hhi : (x.bads.length : Int) ≤ bad
      · have HE : Hid (askE x A bad = 4) := askE_bad HOK.out A (Or.inr hhi)
        go_enter Tryz.func9, Tryz.ntmps9
        go_wp2_with fail
        with_reducible refine HC.out.mono ?_
        rintro e w2 ⟨rfl, hb2⟩
        have HB2 := Lib.hid hb2
        have m4 := (HCB.out w2 hb2).k4
        clear hb2 k0 k1 k2 k3 k4 k5 k6 k7 hW1
        go_wp2_with fail
        go_ret
        exact ⟨ret_int HE.out.symm, HB1.out.trans (HB2.out.mono HB1.out.size)⟩
      · have HN : Hid (¬ (bad < 0 ∨ (x.bads.length : Int) ≤ bad)) := fun h => h.elim hlo hhi
        go_enter Tryz.func9, Tryz.ntmps9
        go_wp2_with fail
        with_reducible refine HC.out.mono ?_
        rintro e w2 ⟨rfl, hb2⟩
        have HB2 := Lib.hid hb2
        have m4 := (HCB.out w2 hb2).k4
        clear hb2 k0 k1 k2 k3 k4 k5 k6 k7 hW1
        go_wp2_with fail
        clear m4
        go_loopw [7] (fun u wr => ∃ j : Nat, j ≤ n ∧ u = .int .i64 j ∧ Hid (∀ i (h : i < A.length), i < j → strangeL x.max A[i] = false) ∧ Hid (Below W1.heap.size W1 wr)) (fun u _ => n - (intOf u).toNat)
        case atStart => exact ⟨0, Nat.zero_le _, rfl, (fun i _ h => by omega), HB2.out⟩
        case round =>
          clear HB2
          obtain ⟨j, hj, rfl, hI, hB⟩ := hrel
          by_cases hlt : j < n
          · obtain ⟨b, o, a', c', hx, rfl, hbs, e0, hs0, hv⟩ := (HA.out wr hB.out).at hlt
            have m0 := (HCB.out wr hB.out).k0
            have hy : ∀ y ∈ A[j], Circuit.I64 y := fun y hy => HA64.out y (List.mem_flatten.2 ⟨_, List.getElem_mem hx, hy⟩)
            have HD := Lib.hid (hB.out.trans (Below.refl _ _).drew)
            have HWI := Lib.hid (within_any wr.drew x.max HOK.out.1.1 HOK.out.1.2.1 a' A[j].length c' A[j] (hs0.next (Below.refl _ _).drew) hy)
            have HBAD : Hid (strangeL x.max A[j] = true → askE x A bad = 23) := fun h => askE_kind HOK.out HN.out (List.any_eq_true.2 ⟨_, List.getElem_mem hx, h⟩)
            have HGO : Hid (strangeL x.max A[j] = false → ∀ i (h : i < A.length), i < j + 1 → strangeL x.max A[i] = false) := fun h i hi hij => by
              by_cases he : i = j
              · subst he; exact h
              · exact hI.out i hi (by omega)
            clear hs0 hv hy hI hB
            generalize A[j] = l at *
            clear hx
            by_cases hst : strangeL x.max l = true
            · rw [hst] at HWI
              have HR := Lib.hid (HBAD.out hst)
              clear HBAD HGO hst
              go_upto_region 8 with fail
              refine wp_region_still_tail 6 (by kernel_rfl) (by kernel_rfl) ?_
              simp only [List.take_succ_cons, List.take_zero, List.drop_succ_cons, List.drop_zero]
              repeat still_step
              refine wpStill_nil ?_
              clear m0 e0
              go_wp2_with fail
              with_reducible refine HWI.out.mono ?_
              rintro e w3 ⟨rfl, rfl⟩
              go_wp2_with fail
              go_ret
              exact ⟨ret_int HR.out.symm, HB1.out.trans (HD.out.mono HB1.out.size)⟩
            · have hst : strangeL x.max l = false := by simpa using hst
              rw [hst] at HWI
              have HR := Lib.hid (HGO.out hst)
              clear HBAD HGO hst
              go_upto_region 8 with fail
              refine wp_region_still_tail 6 (by kernel_rfl) (by kernel_rfl) ?_
              simp only [List.take_succ_cons, List.take_zero, List.drop_succ_cons, List.drop_zero]
              repeat still_step
              refine wpStill_nil ?_
              clear m0 e0
              go_wp2_with fail
              with_reducible refine HWI.out.mono ?_
              rintro e w3 ⟨rfl, rfl⟩
              go_wp2_with fail
              go_roundw
              case rel => exact ⟨j + 1, by omega, by go_num, HR.out, HD.out⟩
              case measure => simp [intOf]; omega
          · have HE : Hid (askE x A bad = 0) := askE_ok HOK.out HN.out (by
              rw [List.any_eq_false]
              intro y hy
              obtain ⟨i, hi, rfl⟩ := List.getElem_of_mem hy
              rw [hI.out i hi (by have := HAL.out; omega)]
              decide)
            go_wp2_with fail
            go_ret
            exact ⟨ret_int HE.out.symm, HB1.out.trans (hB.out.mono HB1.out.size)⟩
  · rw [chk_neg hok] at HC
    have HE : Hid (askE x A bad = 9) := askE_no hok A bad
    clear hin hw hA hA64 hb1' hc1 hok
    go_enter Tryz.func9, Tryz.ntmps9
    go_wp2_with fail
    with_reducible refine HC.out.mono ?_
    rintro e w2 ⟨rfl, hb2⟩
    have HB2 := Lib.hid hb2
    clear hb2 k0 k1 k2 k3 k4 k5 k6 k7 hW1
    go_wp2_with fail
    go_ret
    exact ⟨ret_int HE.out.symm, HB1.out.trans (HB2.out.mono HB1.out.size)⟩
end Coi
end Go.Proofs.YtninglnchengeaaGreat
