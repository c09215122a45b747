/-
  Several texts in one (written by merge2.py): XGetI XConeP XStrashP XStrashQ XRefFirst XRefVar XSortPl XRefSortP XPut XCoiP XCoiRP XTrip XOwnC XRefConeC XLawNeedP XLitsCheck XSlfR XCoiAsk XLawAsk XApp2 XHeldAll XLawNeed XGate XSetI XSortedKeys XCloneI XCone
-/
import Derived.Test.YtninglnchengeaaGreatBase
import Derived.Test.YtninglnchengeaaGreatGateP
import Derived.Test.YtninglnchengeaaGreatDefine
import Derived.Test.YtninglnchengeaaGreatCBox
import Derived.Test.YtninglnchengeaaGreatCheckC
import Derived.Deep.QuietTactic
import Derived.BigQuiet
import Derived.Lib.SlicesCompact
import Derived.Test.YtninglnchengeaaGreatLaws
import Derived.Test.YtninglnchengeaaGreatWfC
import Derived.Test.YtninglnchengeaaGreatCirc
import Derived.Test.YtninglnchengeaaGreatRefSmall
import Derived.Test.YtninglnchengeaaGreatSlfI
import Derived.Test.YtninglnchengeaaGreatLex
import Derived.Laws.EntriesVeiled
import Derived.Deep.DeepCutAuto
import Derived.Shelf.Abstract
import Derived.Test.YtninglnchengeaaGreatRefCheck
import Derived.Test.YtninglnchengeaaGreatCheckP
import Derived.Laws.AppendOwn
import Derived.Laws.OwnMore
import Derived.Maps.AppendAt
import Derived.OrdersHeld
import Derived.Tactics
import Derived.Maps.OwnOps
import Derived.Maps.Views
import Derived.Lib.SlKeysI
import Derived.Shelf.SlIterI.Nil
import Derived.Shelf.SortM.Plain
import Derived.Shelf.SortM.SortNone
import Derived.Ground.GgzProg
import Derived.Ground.SlgmProg
import Derived.WalkSmall
import Derived.Lib.AppendZeros
/-
  Plain: what is said of a key, the latest first.
-/
namespace Go.Proofs.YtninglnchengeaaGreat
namespace GetI

/-- The latest that is said of a key. -/
def getI {α : Type} [DecidableEq α] (D : List (α × Int)) (k : α) : Option Int := (D.find? fun p => decide (p.1 = k)).map (·.2)
theorem getI_nil {α : Type} [DecidableEq α] (k : α) : getI ([] : List (α × Int)) k = none := rfl
theorem getI_same {α : Type} [DecidableEq α] (D : List (α × Int)) (k : α) (v : Int) : getI ((k, v) :: D) k = some v := by simp [getI]
theorem getI_other {α : Type} [DecidableEq α] (D : List (α × Int)) {k k' : α} (v : Int) (h : k ≠ k') : getI ((k, v) :: D) k' = getI D k' := by simp [getI, h]
theorem getI_mem {α : Type} [DecidableEq α] {D : List (α × Int)} {k : α} {v : Int} (h : getI D k = some v) : (k, v) ∈ D := by
  unfold getI at h
  rw [Option.map_eq_some_iff] at h
  obtain ⟨p, hp, rfl⟩ := h
  have h1 := List.mem_of_find?_eq_some hp
  have h2 := List.find?_some hp
  simp only [decide_eq_true_eq] at h2
  rw [← h2]; exact h1
end GetI
end Go.Proofs.YtninglnchengeaaGreat

/-
  Plain: what literals hang on. No program's function.
-/
namespace Go.Proofs.YtninglnchengeaaGreat
open Go.RowKit Base
set_option linter.unusedVariables false
set_option linter.unusedSimpArgs false
namespace Circuit

/-- A variable that literals hang on (0 among them). -/
inductive Rch (ands : List Tri) (l : List Int) : Int → Prop
  | lit {t : Int} : t ∈ l → Rch ands l (var t)
  | left {v : Int} {g : Tri} : Rch ands l v → v ≠ 0 → gate ands v = some g → Rch ands l (var g.2.1)
  | right {v : Int} {g : Tri} : Rch ands l v → v ≠ 0 → gate ands v = some g → Rch ands l (var g.2.2)

/-- What is waited for: of variable 0, met, or in the list. -/
def Waits (T M : List Int) (o : Int) : Prop := var o = 0 ∨ var o ∈ M ∨ ∃ t ∈ T, var t = var o

structure ConeInv (ands : List Tri) (l T M : List Int) : Prop where
  nodup : M.Nodup
  met : ∀ v ∈ M, v ≠ 0 ∧ Rch ands l v
  todo : ∀ t ∈ T, Rch ands l (var t)
  lits : ∀ a ∈ l, Waits T M a
  gates : ∀ v ∈ M, ∀ g, gate ands v = some g → Waits T M g.2.1 ∧ Waits T M g.2.2
  few : T.length ≤ l.length + M.length

theorem cone_start (ands : List Tri) (l : List Int) : ConeInv ands l l [] :=
  ⟨List.nodup_nil, fun v h => by simp at h, fun t ht => .lit ht, fun a ha => Or.inr (Or.inr ⟨a, ha, rfl⟩), fun v h => by simp at h, by simp⟩

theorem waits_skip {T M : List Int} {t o : Int} (h : Waits (T ++ [t]) M o) (ht : var t = 0 ∨ var t ∈ M) : Waits T M o := by
  rcases h with h | h | ⟨u, hu, he⟩
  · exact Or.inl h
  · exact Or.inr (Or.inl h)
  · rw [List.mem_append, List.mem_singleton] at hu
    rcases hu with hu | rfl
    · exact Or.inr (Or.inr ⟨u, hu, he⟩)
    · rcases ht with h0 | hm
      · exact Or.inl (by rw [← he]; exact h0)
      · exact Or.inr (Or.inl (by rw [← he]; exact hm))

theorem cone_skip {ands : List Tri} {l T M : List Int} {t : Int} (h : ConeInv ands l (T ++ [t]) M) (ht : var t = 0 ∨ var t ∈ M) : ConeInv ands l T M :=
  ⟨h.nodup, h.met, fun u hu => h.todo u (List.mem_append_left _ hu), fun a ha => waits_skip (h.lits a ha) ht, fun v hv g hg => ⟨waits_skip (h.gates v hv g hg).1 ht, waits_skip (h.gates v hv g hg).2 ht⟩, by have := h.few; rw [List.length_append] at this; omega⟩

theorem waits_meet {T M : List Int} {t o : Int} (h : Waits (T ++ [t]) M o) (E : List Int) : Waits (T ++ E) (M ++ [var t]) o := by
  rcases h with h | h | ⟨u, hu, he⟩
  · exact Or.inl h
  · exact Or.inr (Or.inl (List.mem_append_left _ h))
  · rw [List.mem_append, List.mem_singleton] at hu
    rcases hu with hu | rfl
    · exact Or.inr (Or.inr ⟨u, List.mem_append_left _ hu, he⟩)
    · exact Or.inr (Or.inl (by rw [← he]; simp))

theorem cone_meet_none {ands : List Tri} {l T M : List Int} {t : Int} (h : ConeInv ands l (T ++ [t]) M) (h0 : var t ≠ 0) (hm : var t ∉ M) (hg : gate ands (var t) = none) : ConeInv ands l T (M ++ [var t]) := by
  have ht := h.todo t (by simp)
  have wm : ∀ o, Waits (T ++ [t]) M o → Waits T (M ++ [var t]) o := fun o ho => by
    have := waits_meet ho []
    rwa [List.append_nil] at this
  refine ⟨?_, fun v hv => ?_, fun u hu => h.todo u (List.mem_append_left _ hu), fun a ha => wm a (h.lits a ha), fun v hv g hgv => ?_, ?_⟩
  · rw [List.nodup_append]
    exact ⟨h.nodup, by simp, fun a ha b hb e => by rw [List.mem_singleton] at hb; subst hb; exact hm (e ▸ ha)⟩
  · rw [List.mem_append, List.mem_singleton] at hv
    rcases hv with hv | rfl
    · exact h.met v hv
    · exact ⟨h0, ht⟩
  · rw [List.mem_append, List.mem_singleton] at hv
    rcases hv with hv | rfl
    · exact ⟨wm _ (h.gates v hv g hgv).1, wm _ (h.gates v hv g hgv).2⟩
    · rw [hg] at hgv; cases hgv
  · have := h.few
    rw [List.length_append] at *
    simp only [List.length_singleton, List.length_cons, List.length_nil] at *
    omega

theorem cone_meet_some {ands : List Tri} {l T M : List Int} {t : Int} {g : Tri} (h : ConeInv ands l (T ++ [t]) M) (h0 : var t ≠ 0) (hm : var t ∉ M) (hg : gate ands (var t) = some g) : ConeInv ands l (T ++ [g.2.1, g.2.2]) (M ++ [var t]) := by
  have ht := h.todo t (by simp)
  refine ⟨?_, fun v hv => ?_, fun u hu => ?_, fun a ha => waits_meet (h.lits a ha) _, fun v hv g' hgv => ?_, ?_⟩
  · rw [List.nodup_append]
    exact ⟨h.nodup, by simp, fun a ha b hb e => by rw [List.mem_singleton] at hb; subst hb; exact hm (e ▸ ha)⟩
  · rw [List.mem_append, List.mem_singleton] at hv
    rcases hv with hv | rfl
    · exact h.met v hv
    · exact ⟨h0, ht⟩
  · rw [List.mem_append] at hu
    rcases hu with hu | hu
    · exact h.todo u (List.mem_append_left _ hu)
    · simp only [List.mem_cons, List.not_mem_nil, or_false] at hu
      rcases hu with rfl | rfl
      · exact .left ht h0 hg
      · exact .right ht h0 hg
  · rw [List.mem_append, List.mem_singleton] at hv
    rcases hv with hv | rfl
    · exact ⟨waits_meet (h.gates v hv g' hgv).1 _, waits_meet (h.gates v hv g' hgv).2 _⟩
    · rw [hg] at hgv
      simp only [Option.some.injEq] at hgv
      subst hgv
      exact ⟨Or.inr (Or.inr ⟨g.2.1, by simp, rfl⟩), Or.inr (Or.inr ⟨g.2.2, by simp, rfl⟩)⟩
  · have := h.few
    simp only [List.length_append, List.length_cons, List.length_nil] at *
    omega

/-- At the end what is met is what literals hang on. -/
theorem cone_end {ands : List Tri} {l M : List Int} (h : ConeInv ands l [] M) (v : Int) : v ∈ M ↔ v ≠ 0 ∧ Rch ands l v := by
  have hw : ∀ o, Waits [] M o → var o ≠ 0 → var o ∈ M := fun o ho h0 => by
    rcases ho with hz | hm | ⟨u, hu, _⟩
    · exact absurd hz h0
    · exact hm
    · simp at hu
  constructor
  · exact h.met v
  · rintro ⟨h0, hr⟩
    induction hr with
    | lit ht => exact hw _ (h.lits _ ht) h0
    | left hr' hv hg ih => exact hw _ (h.gates _ (ih hv) _ hg).1 h0
    | right hr' hv hg ih => exact hw _ (h.gates _ (ih hv) _ hg).2 h0

theorem nodup_len {M C : List Int} (hn : M.Nodup) (hs : ∀ v ∈ M, v ∈ C) : M.length ≤ C.length := by
  induction M generalizing C with
  | nil => simp
  | cons x r ih =>
    rw [List.nodup_cons] at hn
    have hx := hs x List.mem_cons_self
    have := ih hn.2 (C := C.erase x) (fun v hv => (List.mem_erase_of_ne (fun e => hn.1 (by rw [← e]; exact hv))).2 (hs v (List.mem_cons_of_mem _ hv)))
    rw [List.length_erase_of_mem hx] at this
    have hc : 0 < C.length := List.length_pos_of_mem hx
    rw [List.length_cons]
    omega

/-- All that may be met. -/
def cands (ands : List Tri) (l : List Int) : List Int := l.map var ++ ands.map (fun t => var t.2.1) ++ ands.map (fun t => var t.2.2)

theorem gate_mem {ands : List Tri} {v : Int} {g : Tri} (h : gate ands v = some g) : g ∈ ands := List.mem_of_find?_eq_some h

theorem rch_cand {ands : List Tri} {l : List Int} {v : Int} (h : Rch ands l v) : v ∈ cands ands l := by
  unfold cands
  rw [List.mem_append, List.mem_append]
  cases h with
  | lit ht => exact Or.inl (Or.inl (List.mem_map.2 ⟨_, ht, rfl⟩))
  | left hr hv hg => exact Or.inl (Or.inr (List.mem_map.2 ⟨_, gate_mem hg, rfl⟩))
  | right hr hv hg => exact Or.inr (List.mem_map.2 ⟨_, gate_mem hg, rfl⟩)

theorem cone_few {ands : List Tri} {l T M : List Int} (h : ConeInv ands l T M) : M.length ≤ l.length + 2 * ands.length := by
  have := nodup_len h.nodup (fun v hv => rch_cand (h.met v hv).2)
  unfold cands at this
  simp only [List.length_append, List.length_map] at this
  omega

/-- What hangs on it hangs on no more. -/
theorem rch_again {ands : List Tri} {l vs : List Int} (h : ∀ v, v ∈ vs ↔ v ≠ 0 ∧ Rch ands l v) (hv : ∀ v ∈ vs, 0 ≤ v) (v : Int) : (v ≠ 0 ∧ Rch ands (vs.map (2 * ·)) v) ↔ v ∈ vs := by
  have hvar : ∀ u ∈ vs, var (2 * u) = u := fun u hu => by have := hv u hu; unfold var; omega
  constructor
  · rintro ⟨h0, hr⟩
    induction hr with
    | lit ht =>
      obtain ⟨u, hu, rfl⟩ := List.mem_map.1 ht
      rw [hvar u hu]
      exact hu
    | left hr' hv' hg ih => exact (h _).2 ⟨h0, .left ((h _).1 (ih hv')).2 hv' hg⟩
    | right hr' hv' hg ih => exact (h _).2 ⟨h0, .right ((h _).1 (ih hv')).2 hv' hg⟩
  · intro hm
    refine ⟨((h v).1 hm).1, ?_⟩
    rw [← hvar v hm]
    exact .lit (List.mem_map.2 ⟨v, hm, rfl⟩)

end Circuit
end Go.Proofs.YtninglnchengeaaGreat

/-
  Plain: a circuit, hashed: what stands for what, what is kept; that it does what it did. No program's function.
-/
namespace Go.Proofs.YtninglnchengeaaGreat
open Go.RowKit Base
set_option linter.unusedVariables false
set_option linter.unusedSimpArgs false
namespace StrashP
open Circuit GetI

/-- A literal's opposite. -/
def notL (l : Int) : Int := if l < 0 then 1 else if l % 2 = 1 then l - 1 else l + 1
def posL (l : Int) : Int := max l 0
/-- What an and is that needs no gate. -/
def plainL (a b : Int) : Option Int :=
  if posL a = 0 ∨ posL b = 0 ∨ posL a = notL (posL b) then some 0
  else if posL a = 1 ∨ posL a = posL b then some (posL b)
  else if posL b = 1 then some (posL a) else none

structure St where
  S : List (Int × Int)
  M : List ((Int × Int) × Int)
  K : List Tri

/-- What stands for a literal. -/
def litS (S : List (Int × Int)) (l : Int) : Int :=
  match getI S (var l) with
  | some t => if neg l then notL t else t
  | none => l
def pairS (a b : Int) : Int × Int := (min a b, max a b)

def gateS (st : St) (t : Tri) : St :=
  match plainL (litS st.S t.2.1) (litS st.S t.2.2) with
  | some l => { st with S := (var t.1, l) :: st.S }
  | none => match getI st.M (pairS (litS st.S t.2.1) (litS st.S t.2.2)) with
    | some l => { st with S := (var t.1, l) :: st.S }
    | none => { st with M := (pairS (litS st.S t.2.1) (litS st.S t.2.2), t.1) :: st.M, K := st.K ++ [(t.1, litS st.S t.2.1, litS st.S t.2.2)] }
def foldG (ands : List Tri) : St := ands.foldl gateS ⟨[], [], []⟩
theorem foldG_snoc (A : List Tri) (t : Tri) : foldG (A ++ [t]) = gateS (foldG A) t := by unfold foldG; rw [List.foldl_append]; rfl

/-! ### Literals. -/
theorem var_not {s : Int} (h : 0 ≤ s) : var (notL s) = var s := by unfold var notL; split <;> (try split) <;> omega
theorem not_nn {s : Int} (h : 0 ≤ s) : 0 ≤ notL s := by unfold notL; split <;> (try split) <;> omega
theorem neg_not {s : Int} (h : 0 ≤ s) : neg (notL s) = !neg s := by
  unfold neg notL
  rw [if_neg (by omega)]
  by_cases h1 : s % 2 = 1
  · rw [if_pos h1, if_neg (by omega), if_neg (by omega)]
    have e1 : (s % 2 == 1) = true := by simp [h1]
    have e2 : ((s - 1) % 2 == 1) = false := by simp; omega
    rw [e1, e2]; rfl
  · rw [if_neg h1, if_neg (by omega), if_neg (by omega)]
    have e1 : (s % 2 == 1) = false := by simp; omega
    have e2 : ((s + 1) % 2 == 1) = true := by simp; omega
    rw [e1, e2]; rfl

/-- A literal's value. -/
def bitV (V : Int → Bool) (l : Int) : Bool := V (var l) != neg l
theorem bit_not (V : Int → Bool) {s : Int} (h : 0 ≤ s) : bitV V (notL s) = !bitV V s := by
  unfold bitV
  rw [var_not h, neg_not h]
  cases V (var s) <;> cases neg s <;> rfl
theorem bit_zero {V : Int → Bool} (h : V 0 = false) : bitV V 0 = false := by
  unfold bitV
  have e1 : var 0 = 0 := by decide
  have e2 : neg 0 = false := by decide
  rw [e1, e2, h]; rfl
theorem bit_one {V : Int → Bool} (h : V 0 = false) : bitV V 1 = true := by
  unfold bitV
  have e1 : var 1 = 0 := by decide
  have e2 : neg 1 = true := by decide
  rw [e1, e2, h]; rfl

theorem posL_eq {a : Int} (h : 0 ≤ a) : posL a = a := by unfold posL; omega
theorem plain_of {a b : Int} (ha : 0 ≤ a) (hb : 0 ≤ b) : plainL a b = if a = 0 ∨ b = 0 ∨ a = notL b then some 0 else if a = 1 ∨ a = b then some b else if b = 1 then some a else none := by
  unfold plainL; rw [posL_eq ha, posL_eq hb]
theorem plain_sem {V : Int → Bool} (h0 : V 0 = false) {a b r : Int} (ha : 0 ≤ a) (hb : 0 ≤ b) (h : plainL a b = some r) : bitV V r = (bitV V a && bitV V b) := by
  rw [plain_of ha hb] at h
  by_cases h1 : a = 0 ∨ b = 0 ∨ a = notL b
  · rw [if_pos h1] at h
    simp only [Option.some.injEq] at h
    subst h
    rw [bit_zero h0]
    rcases h1 with rfl | rfl | rfl
    · rw [bit_zero h0]; rfl
    · rw [bit_zero h0, Bool.and_false]
    · rw [bit_not V hb]; cases bitV V b <;> rfl
  · rw [if_neg h1] at h
    by_cases h2 : a = 1 ∨ a = b
    · rw [if_pos h2] at h
      simp only [Option.some.injEq] at h
      subst h
      rcases h2 with rfl | rfl
      · rw [bit_one h0, Bool.true_and]
      · rw [Bool.and_self]
    · rw [if_neg h2] at h
      by_cases h3 : b = 1
      · rw [if_pos h3] at h
        simp only [Option.some.injEq] at h
        subst h; subst h3
        rw [bit_one h0, Bool.and_true]
      · rw [if_neg h3] at h; cases h
theorem plain_res {a b r : Int} (ha : 0 ≤ a) (hb : 0 ≤ b) (h : plainL a b = some r) : r = 0 ∨ r = a ∨ r = b := by
  rw [plain_of ha hb] at h
  split at h
  · simp only [Option.some.injEq] at h; exact Or.inl h.symm
  · split at h
    · simp only [Option.some.injEq] at h; exact Or.inr (Or.inr h.symm)
    · split at h
      · simp only [Option.some.injEq] at h; exact Or.inr (Or.inl h.symm)
      · cases h
theorem notL_of {a : Int} (ha : 0 ≤ a) : notL a = if a % 2 = 1 then a - 1 else a + 1 := by unfold notL; rw [if_neg (by omega)]
theorem not_eq_iff {a b : Int} (ha : 0 ≤ a) (hb : 0 ≤ b) : a = notL b ↔ b = notL a := by
  rw [notL_of ha, notL_of hb]
  split <;> split <;> omega
theorem plain_comm {a b : Int} (ha : 0 ≤ a) (hb : 0 ≤ b) : plainL a b = plainL b a := by
  rw [plain_of ha hb, plain_of hb ha]
  by_cases h1 : a = 0 ∨ b = 0 ∨ a = notL b
  · have h2 : b = 0 ∨ a = 0 ∨ b = notL a := by
      rcases h1 with h | h | h
      · exact Or.inr (Or.inl h)
      · exact Or.inl h
      · exact Or.inr (Or.inr ((not_eq_iff ha hb).1 h))
    simp only [if_pos h1, if_pos h2]
  · have h2 : ¬ (b = 0 ∨ a = 0 ∨ b = notL a) := by
      rintro (h | h | h)
      · exact h1 (Or.inr (Or.inl h))
      · exact h1 (Or.inl h)
      · exact h1 (Or.inr (Or.inr ((not_eq_iff ha hb).2 h)))
    simp only [if_neg h1, if_neg h2]
    by_cases e : a = b
    · subst e; rfl
    · have e' : ¬ b = a := fun h => e h.symm
      by_cases e1 : a = 1
      · by_cases e2 : b = 1
        · exact absurd (e1.trans e2.symm) e
        · simp only [e1, e2, true_or, if_true]
          have : ¬ b = 1 := e2
          subst e1
          simp [e']
      · by_cases e2 : b = 1
        · subst e2
          simp [e1, e]
        · simp [e1, e2, e, e']
theorem pair_comm (a b : Int) : pairS a b = pairS b a := by unfold pairS; rw [Int.min_comm, Int.max_comm]

/-! ### The fold's invariant. -/
/-- The values are those of the gates. -/
def Sat (V : Int → Bool) (A : List Tri) : Prop := ∀ t ∈ A, V (var t.1) = (bitV V t.2.1 && bitV V t.2.2)
theorem Sat.left {V : Int → Bool} {A B : List Tri} (h : Sat V (A ++ B)) : Sat V A := fun t ht => h t (List.mem_append_left _ ht)

/-- A gate of rising literals. -/
def Fine (t : Tri) : Prop := 2 ≤ t.1 ∧ t.1 % 2 = 0 ∧ 0 ≤ t.2.1 ∧ t.2.1 < t.1 ∧ 0 ≤ t.2.2 ∧ t.2.2 < t.1
structure Ord (A : List Tri) : Prop where
  rise : A.Pairwise fun a b => a.1 < b.1
  fine : ∀ t ∈ A, Fine t

structure Inv (B : Int → Prop) (A : List Tri) (st : St) : Prop where
  dom : ∀ u s, getI st.S u = some s → (∃ t ∈ A, var t.1 = u) ∧ 0 ≤ s ∧ var s < u ∧ getI st.S (var s) = none ∧ (B (var s) ∨ ∃ k ∈ st.K, var k.1 = var s)
  kept : ∀ k ∈ st.K, Fine k ∧ getI st.S (var k.1) = none ∧ (getI st.S (var k.2.1) = none ∧ (B (var k.2.1) ∨ ∃ k' ∈ st.K, var k'.1 = var k.2.1)) ∧ (getI st.S (var k.2.2) = none ∧ (B (var k.2.2) ∨ ∃ k' ∈ st.K, var k'.1 = var k.2.2)) ∧
    plainL k.2.1 k.2.2 = none ∧ getI st.M (pairS k.2.1 k.2.2) = some k.1
  met : ∀ p l, getI st.M p = some l → ∃ k ∈ st.K, k.1 = l ∧ p = pairS k.2.1 k.2.2
  sub : (st.K.map (·.1)).Sublist (A.map (·.1))
  all : ∀ t ∈ A, (∃ s, getI st.S (var t.1) = some s) ∨ ∃ k ∈ st.K, k.1 = t.1
  at' : ∀ t ∈ A, (∀ r, plainL (litS st.S t.2.1) (litS st.S t.2.2) = some r → litS st.S t.1 = r) ∧
    (plainL (litS st.S t.2.1) (litS st.S t.2.2) = none → getI st.M (pairS (litS st.S t.2.1) (litS st.S t.2.2)) = some (litS st.S t.1))
  sem : ∀ V : Int → Bool, V 0 = false → Sat V A → (∀ u s, getI st.S u = some s → bitV V s = V u) ∧ Sat V st.K

theorem inv_nil (B : Int → Prop) : Inv B [] ⟨[], [], []⟩ :=
  ⟨fun u s h => (by cases h), fun k h => (by cases h), fun p l h => (by cases h), List.Sublist.refl _, fun t h => (by cases h), fun t h => (by cases h), fun V _ _ => ⟨fun u s h => (by cases h), fun k h => (by cases h)⟩⟩

theorem fine_neg {t : Tri} (h : Fine t) : neg t.1 = false := by
  unfold neg
  rw [if_neg (by have := h.1; omega)]
  have := h.2.1
  simp; omega

/-- What stands for a literal: it stands for itself. -/
theorem lit_facts {B : Int → Prop} {A : List Tri} {st : St} (h : Inv B A st) {l : Int} (hl : 0 ≤ l) (hb : B (var l) ∨ ∃ t ∈ A, var t.1 = var l) (hA : ∀ t ∈ A, Fine t) :
    0 ≤ litS st.S l ∧ var (litS st.S l) ≤ var l ∧ getI st.S (var (litS st.S l)) = none ∧ (B (var (litS st.S l)) ∨ ∃ k ∈ st.K, var k.1 = var (litS st.S l)) := by
  unfold litS
  cases hg : getI st.S (var l) with
  | none =>
    simp only
    refine ⟨hl, Int.le_refl _, hg, ?_⟩
    rcases hb with hb | ⟨t, ht, he⟩
    · exact Or.inl hb
    · rcases h.all t ht with ⟨s, hs⟩ | ⟨k, hk, hk1⟩
      · rw [he, hg] at hs; cases hs
      · exact Or.inr ⟨k, hk, by rw [hk1, he]⟩
  | some s =>
    simp only
    obtain ⟨_, h0, hv, hn, hbk⟩ := h.dom _ _ hg
    split
    · exact ⟨not_nn h0, by rw [var_not h0]; omega, by rw [var_not h0]; exact hn, by rw [var_not h0]; exact hbk⟩
    · exact ⟨h0, by omega, hn, hbk⟩

theorem lit_sem {B : Int → Prop} {A : List Tri} {st : St} (h : Inv B A st) {V : Int → Bool} (h0 : V 0 = false) (hs : Sat V A) (l : Int) : bitV V (litS st.S l) = bitV V l := by
  unfold litS
  cases hg : getI st.S (var l) with
  | none => rfl
  | some s =>
    simp only
    have h1 := (h.sem V h0 hs).1 _ _ hg
    have h2 := (h.dom _ _ hg).2.1
    cases hn : neg l
    · simp only [Bool.false_eq_true, if_false]
      rw [h1]; unfold bitV; rw [hn]; simp
    · simp only [if_true]
      rw [bit_not V h2, h1]; unfold bitV; rw [hn]; simp

theorem var_lt {t : Tri} (h : Fine t) {l : Int} (h0 : 0 ≤ l) (hl : l < t.1) : var l < var t.1 := by
  unfold var; have := h.1; have := h.2.1; omega
theorem lt_of_var {t : Tri} (h : Fine t) {l : Int} (h0 : 0 ≤ l) (hl : var l < var t.1) : l < t.1 := by
  unfold var at hl; have := h.1; have := h.2.1; omega

/-- A literal is as before, where one more variable is said of. -/
theorem lit_more (S : List (Int × Int)) (u s : Int) {l : Int} (h : var l ≠ u) : litS ((u, s) :: S) l = litS S l := by
  unfold litS
  rw [getI_other S s (fun e => h e.symm)]

theorem inv_stands {B : Int → Prop} {A : List Tri} {st : St} (h : Inv B A st) {t : Tri} (ht : Fine t) (hlt : ∀ t' ∈ A, t'.1 < t.1) (hA : ∀ t' ∈ A, Fine t') (hB : ¬ B (var t.1))
    (hl : B (var t.2.1) ∨ ∃ t' ∈ A, var t'.1 = var t.2.1) (hr : B (var t.2.2) ∨ ∃ t' ∈ A, var t'.1 = var t.2.2) (s : Int) (hs0 : 0 ≤ s) (hsv : var s < var t.1) (hsn : getI st.S (var s) = none) (hsb : B (var s) ∨ ∃ k ∈ st.K, var k.1 = var s)
    (hat : (∀ r, plainL (litS st.S t.2.1) (litS st.S t.2.2) = some r → s = r) ∧ (plainL (litS st.S t.2.1) (litS st.S t.2.2) = none → getI st.M (pairS (litS st.S t.2.1) (litS st.S t.2.2)) = some s))
    (hsem : ∀ V : Int → Bool, V 0 = false → Sat V A → bitV V s = (bitV V (litS st.S t.2.1) && bitV V (litS st.S t.2.2))) : Inv B (A ++ [t]) { st with S := (var t.1, s) :: st.S } := by
  have hvA : ∀ t' ∈ A, var t'.1 < var t.1 := fun t' h' => var_lt ht (by have := (hA t' h').1; omega) (hlt t' h')
  have hvl : var t.2.1 < var t.1 := var_lt ht ht.2.2.1 ht.2.2.2.1
  have hvr : var t.2.2 < var t.1 := var_lt ht ht.2.2.2.2.1 ht.2.2.2.2.2
  have hkA : ∀ k ∈ st.K, ∃ t' ∈ A, t'.1 = k.1 := fun k hk => by
    have := h.sub.subset (List.mem_map.2 ⟨k, hk, rfl⟩)
    obtain ⟨t', h1, h2⟩ := List.mem_map.1 this
    exact ⟨t', h1, h2⟩
  have hkv : ∀ k ∈ st.K, var k.1 < var t.1 := fun k hk => by
    obtain ⟨t', h1, h2⟩ := hkA k hk
    rw [← h2]; exact hvA t' h1
  have keep : ∀ u, u < var t.1 → getI ((var t.1, s) :: st.S) u = getI st.S u := fun u hu => getI_other _ _ (by omega)
  refine ⟨?_, ?_, h.met, ?_, ?_, ?_, ?_⟩
  · intro u s' hg
    by_cases hu : var t.1 = u
    · subst hu
      simp only at hg
      rw [getI_same] at hg
      simp only [Option.some.injEq] at hg
      subst hg
      exact ⟨⟨t, by simp, rfl⟩, hs0, hsv, by simp only; rw [keep _ hsv]; exact hsn, hsb⟩
    · simp only at hg
      rw [getI_other _ _ hu] at hg
      obtain ⟨⟨t', h1, h2⟩, h3, h4, h5, h6⟩ := h.dom u s' hg
      have := hvA t' h1
      exact ⟨⟨t', List.mem_append_left _ h1, h2⟩, h3, h4, by simp only; rw [keep _ (by omega)]; exact h5, h6⟩
  · intro k hk
    obtain ⟨h1, h2, ⟨h3, h4⟩, ⟨h5, h6⟩, h7, h8⟩ := h.kept k hk
    have hv := hkv k hk
    have hv1 := var_lt h1 h1.2.2.1 h1.2.2.2.1
    have hv2 := var_lt h1 h1.2.2.2.2.1 h1.2.2.2.2.2
    exact ⟨h1, by simp only; rw [keep _ hv]; exact h2, ⟨by simp only; rw [keep _ (by omega)]; exact h3, h4⟩, ⟨by simp only; rw [keep _ (by omega)]; exact h5, h6⟩, h7, h8⟩
  · rw [List.map_append]
    exact h.sub.trans (List.sublist_append_left _ _)
  · intro t' ht'
    rcases List.mem_append.1 ht' with h1 | h1
    · rcases h.all t' h1 with ⟨s', hs'⟩ | hk
      · exact Or.inl ⟨s', by simp only; rw [keep _ (hvA t' h1)]; exact hs'⟩
      · exact Or.inr hk
    · rw [List.mem_singleton] at h1
      subst h1
      exact Or.inl ⟨s, getI_same _ _ _⟩
  · intro t' ht'
    simp only
    rcases List.mem_append.1 ht' with h1 | h1
    · have hf := hA t' h1
      have hv := hvA t' h1
      have hv1 := var_lt hf hf.2.2.1 hf.2.2.2.1
      have hv2 := var_lt hf hf.2.2.2.2.1 hf.2.2.2.2.2
      rw [lit_more st.S _ _ (by omega), lit_more st.S _ _ (by omega), lit_more st.S _ _ (by omega)]
      exact h.at' t' h1
    · rw [List.mem_singleton] at h1
      subst h1
      rw [lit_more st.S _ _ (by omega), lit_more st.S _ _ (by omega)]
      have e : litS ((var t'.1, s) :: st.S) t'.1 = s := by
        unfold litS
        rw [getI_same]
        simp only [fine_neg ht, Bool.false_eq_true, if_false]
      rw [e]
      exact hat
  · intro V h0 hsat
    have hsA := hsat.left
    obtain ⟨g1, g2⟩ := h.sem V h0 hsA
    refine ⟨?_, g2⟩
    intro u s' hg
    by_cases hu : var t.1 = u
    · subst hu
      simp only at hg
      rw [getI_same] at hg
      simp only [Option.some.injEq] at hg
      subst hg
      rw [hsem V h0 hsA, lit_sem h h0 hsA, lit_sem h h0 hsA]
      exact (hsat t (by simp)).symm
    · simp only at hg
      rw [getI_other _ _ hu] at hg
      exact g1 u s' hg

theorem inv_kept {B : Int → Prop} {A : List Tri} {st : St} (h : Inv B A st) {t : Tri} (ht : Fine t) (hlt : ∀ t' ∈ A, t'.1 < t.1) (hA : ∀ t' ∈ A, Fine t') (hB : ¬ B (var t.1))
    (hl : B (var t.2.1) ∨ ∃ t' ∈ A, var t'.1 = var t.2.1) (hr : B (var t.2.2) ∨ ∃ t' ∈ A, var t'.1 = var t.2.2)
    (hp : plainL (litS st.S t.2.1) (litS st.S t.2.2) = none) (hm : getI st.M (pairS (litS st.S t.2.1) (litS st.S t.2.2)) = none) :
    Inv B (A ++ [t]) { st with M := (pairS (litS st.S t.2.1) (litS st.S t.2.2), t.1) :: st.M, K := st.K ++ [(t.1, litS st.S t.2.1, litS st.S t.2.2)] } := by
  have hvA : ∀ t' ∈ A, var t'.1 < var t.1 := fun t' h' => var_lt ht (by have := (hA t' h').1; omega) (hlt t' h')
  have hvl : var t.2.1 < var t.1 := var_lt ht ht.2.2.1 ht.2.2.2.1
  have hvr : var t.2.2 < var t.1 := var_lt ht ht.2.2.2.2.1 ht.2.2.2.2.2
  obtain ⟨a0, a1, a2, a3⟩ := lit_facts h ht.2.2.1 hl hA
  obtain ⟨b0, b1, b2, b3⟩ := lit_facts h ht.2.2.2.2.1 hr hA
  have hself : getI st.S (var t.1) = none := by
    cases hg : getI st.S (var t.1) with
    | none => rfl
    | some s =>
      obtain ⟨⟨t', h1, h2⟩, _⟩ := h.dom _ _ hg
      have := hvA t' h1
      omega
  have hkA : ∀ k ∈ st.K, ∃ t' ∈ A, t'.1 = k.1 := fun k hk => by
    have := h.sub.subset (List.mem_map.2 ⟨k, hk, rfl⟩)
    obtain ⟨t', h1, h2⟩ := List.mem_map.1 this
    exact ⟨t', h1, h2⟩
  have hmore : ∀ v, (B v ∨ ∃ k ∈ st.K, var k.1 = v) → (B v ∨ ∃ k ∈ st.K ++ [(t.1, litS st.S t.2.1, litS st.S t.2.2)], var k.1 = v) := by
    rintro v (hb | ⟨k, hk, he⟩)
    · exact Or.inl hb
    · exact Or.inr ⟨k, List.mem_append_left _ hk, he⟩
  have hkeep : ∀ p l, getI st.M p = some l → getI ((pairS (litS st.S t.2.1) (litS st.S t.2.2), t.1) :: st.M) p = some l := by
    intro p l hg
    rw [getI_other _ _ (by rintro rfl; rw [hm] at hg; cases hg)]
    exact hg
  refine ⟨?_, ?_, ?_, ?_, ?_, ?_, ?_⟩
  · intro u s' hg
    obtain ⟨⟨t', h1, h2⟩, h3, h4, h5, h6⟩ := h.dom u s' hg
    exact ⟨⟨t', List.mem_append_left _ h1, h2⟩, h3, h4, h5, hmore _ h6⟩
  · intro k hk
    rcases List.mem_append.1 hk with h1 | h1
    · obtain ⟨g1, g2, ⟨g3, g4⟩, ⟨g5, g6⟩, g7, g8⟩ := h.kept k h1
      exact ⟨g1, g2, ⟨g3, hmore _ g4⟩, ⟨g5, hmore _ g6⟩, g7, hkeep _ _ g8⟩
    · rw [List.mem_singleton] at h1
      subst h1
      have q1 : litS st.S t.2.1 < t.1 := lt_of_var ht a0 (by omega)
      have q2 : litS st.S t.2.2 < t.1 := lt_of_var ht b0 (by omega)
      exact ⟨⟨ht.1, ht.2.1, a0, q1, b0, q2⟩, hself, ⟨a2, hmore _ a3⟩, ⟨b2, hmore _ b3⟩, hp, getI_same _ _ _⟩
  · intro p l hg
    simp only at hg
    by_cases he : pairS (litS st.S t.2.1) (litS st.S t.2.2) = p
    · subst he
      rw [getI_same] at hg
      simp only [Option.some.injEq] at hg
      exact ⟨(t.1, litS st.S t.2.1, litS st.S t.2.2), by simp, hg, rfl⟩
    · rw [getI_other _ _ he] at hg
      obtain ⟨k, hk, g1, g2⟩ := h.met p l hg
      exact ⟨k, List.mem_append_left _ hk, g1, g2⟩
  · rw [List.map_append, List.map_append]
    exact h.sub.append (List.Sublist.refl _)
  · intro t' ht'
    rcases List.mem_append.1 ht' with h1 | h1
    · rcases h.all t' h1 with hs | ⟨k, hk, he⟩
      · exact Or.inl hs
      · exact Or.inr ⟨k, List.mem_append_left _ hk, he⟩
    · rw [List.mem_singleton] at h1
      subst h1
      exact Or.inr ⟨_, List.mem_append_right _ (List.mem_singleton.2 rfl), rfl⟩
  · intro t' ht'
    simp only
    rcases List.mem_append.1 ht' with h1 | h1
    · exact ⟨(h.at' t' h1).1, fun hn => hkeep _ _ ((h.at' t' h1).2 hn)⟩
    · rw [List.mem_singleton] at h1
      subst h1
      refine ⟨fun r hr' => (by rw [hp] at hr'; cases hr'), fun _ => ?_⟩
      rw [getI_same]
      unfold litS
      rw [hself]
  · intro V h0 hsat
    have hsA := hsat.left
    obtain ⟨g1, g2⟩ := h.sem V h0 hsA
    refine ⟨g1, fun k hk => ?_⟩
    rcases List.mem_append.1 hk with h1 | h1
    · exact g2 k h1
    · rw [List.mem_singleton] at h1
      subst h1
      show V (var t.1) = (bitV V (litS st.S t.2.1) && bitV V (litS st.S t.2.2))
      rw [lit_sem h h0 hsA, lit_sem h h0 hsA]
      exact hsat t (by simp)

theorem inv_gate {B : Int → Prop} {A : List Tri} {st : St} (hB0 : B 0) (h : Inv B A st) {t : Tri} (ht : Fine t) (hlt : ∀ t' ∈ A, t'.1 < t.1) (hA : ∀ t' ∈ A, Fine t') (hB : ¬ B (var t.1))
    (hl : B (var t.2.1) ∨ ∃ t' ∈ A, var t'.1 = var t.2.1) (hr : B (var t.2.2) ∨ ∃ t' ∈ A, var t'.1 = var t.2.2) : Inv B (A ++ [t]) (gateS st t) := by
  have hvl : var t.2.1 < var t.1 := var_lt ht ht.2.2.1 ht.2.2.2.1
  have hvr : var t.2.2 < var t.1 := var_lt ht ht.2.2.2.2.1 ht.2.2.2.2.2
  obtain ⟨a0, a1, a2, a3⟩ := lit_facts h ht.2.2.1 hl hA
  obtain ⟨b0, b1, b2, b3⟩ := lit_facts h ht.2.2.2.2.1 hr hA
  unfold gateS
  cases hp : plainL (litS st.S t.2.1) (litS st.S t.2.2) with
  | some r =>
    simp only
    have hz : getI st.S (0 : Int) = none := by
      cases hg : getI st.S (0 : Int) with
      | none => rfl
      | some s =>
        obtain ⟨⟨t', h1, h2⟩, _⟩ := h.dom _ _ hg
        have := (hA t' h1).1
        unfold var at h2
        omega
    have hv0 : var (0 : Int) = 0 := by decide
    have hpos : 0 < var t.1 := by have := ht.1; unfold var; omega
    have hres : 0 ≤ r ∧ var r < var t.1 ∧ getI st.S (var r) = none ∧ (B (var r) ∨ ∃ k ∈ st.K, var k.1 = var r) := by
      rcases plain_res a0 b0 hp with rfl | rfl | rfl
      · rw [hv0]; exact ⟨Int.le_refl _, hpos, hz, Or.inl hB0⟩
      · exact ⟨a0, by omega, a2, a3⟩
      · exact ⟨b0, by omega, b2, b3⟩
    exact inv_stands h ht hlt hA hB hl hr r hres.1 hres.2.1 hres.2.2.1 hres.2.2.2 ⟨fun r' hr' => by rw [hp] at hr'; simpa using hr', fun hn => (by rw [hp] at hn; cases hn)⟩
      (fun V h0 _ => plain_sem h0 a0 b0 hp)
  | none =>
    simp only
    cases hm : getI st.M (pairS (litS st.S t.2.1) (litS st.S t.2.2)) with
    | some l =>
      simp only
      obtain ⟨k, hk, rfl, hpk⟩ := h.met _ _ hm
      obtain ⟨g1, g2, ⟨g3, g4⟩, ⟨g5, g6⟩, g7, g8⟩ := h.kept k hk
      have hkA : ∃ t' ∈ A, t'.1 = k.1 := by
        have := h.sub.subset (List.mem_map.2 ⟨k, hk, rfl⟩)
        obtain ⟨t', h1, h2⟩ := List.mem_map.1 this
        exact ⟨t', h1, h2⟩
      obtain ⟨t', h1, h2⟩ := hkA
      refine inv_stands h ht hlt hA hB hl hr k.1 (by have := g1.1; omega) (by rw [← h2]; exact var_lt ht (by have := (hA t' h1).1; omega) (hlt t' h1)) g2 (Or.inr ⟨k, hk, rfl⟩)
        ⟨fun r' hr' => (by rw [hp] at hr'; cases hr'), fun _ => hm⟩ ?_
      intro V h0 hsA
      have hsk := (h.sem V h0 hsA).2 k hk
      have e1 : bitV V k.1 = V (var k.1) := by unfold bitV; rw [fine_neg g1]; simp
      rw [e1, hsk]
      unfold pairS at hpk
      simp only [Prod.mk.injEq] at hpk
      have hor : (litS st.S t.2.1 = k.2.1 ∧ litS st.S t.2.2 = k.2.2) ∨ (litS st.S t.2.1 = k.2.2 ∧ litS st.S t.2.2 = k.2.1) := by omega
      rcases hor with ⟨e1, e2⟩ | ⟨e1, e2⟩
      · rw [e1, e2]
      · rw [e1, e2, Bool.and_comm]
    | none => exact inv_kept h ht hlt hA hB hl hr hp hm

/-- All operands are something: a base's variable or a gate's ahead. -/
def Known (B : Int → Prop) (A : List Tri) : Prop := ∀ t ∈ A, (B (var t.2.1) ∨ ∃ t' ∈ A, var t'.1 = var t.2.1) ∧ (B (var t.2.2) ∨ ∃ t' ∈ A, var t'.1 = var t.2.2)

theorem inv_fold {B : Int → Prop} (hB0 : B 0) : ∀ (n : Nat) (A : List Tri), A.length = n → Ord A → (∀ t ∈ A, ¬ B (var t.1)) → Known B A → Inv B A (foldG A)
  | 0, A, hn, _, _, _ => by
    have : A = [] := List.eq_nil_of_length_eq_zero hn
    subst this
    exact inv_nil B
  | n + 1, A, hn, ho, hb, hk => by
    obtain ⟨A', t, rfl⟩ : ∃ A' t, A = A' ++ [t] := by
      rcases List.eq_nil_or_concat A with rfl | ⟨A', t, h⟩
      · simp at hn
      · exact ⟨A', t, by rw [h, List.concat_eq_append]⟩
    have hrise := List.pairwise_append.1 ho.rise
    have hlt : ∀ t' ∈ A', t'.1 < t.1 := fun t' ht' => hrise.2.2 t' ht' t (by simp)
    have hft := ho.fine t (by simp)
    have hA : ∀ t' ∈ A', Fine t' := fun t' ht' => ho.fine t' (List.mem_append_left _ ht')
    have hback : ∀ {l : Int}, 0 ≤ l → (u : Tri) → u ∈ A' ++ [t] → Fine u → l < u.1 → (B (var l) ∨ ∃ t' ∈ A' ++ [t], var t'.1 = var l) → (B (var l) ∨ ∃ t' ∈ A', var t'.1 = var l) := by
      intro l h0 u hu hfu hlu h
      rcases h with h | ⟨t', ht', he⟩
      · exact Or.inl h
      · rcases List.mem_append.1 ht' with h1 | h1
        · exact Or.inr ⟨t', h1, he⟩
        · rw [List.mem_singleton] at h1
          subst h1
          have h2 := var_lt hfu h0 hlu
          have h3 : var u.1 ≤ var t'.1 := by
            rcases List.mem_append.1 hu with h4 | h4
            · have := var_lt hft (by have := (hA u h4).1; omega) (hlt u h4); omega
            · rw [List.mem_singleton] at h4; rw [h4]; exact Int.le_refl _
          omega
    have hk' : Known B A' := fun t' ht' => by
      have hf := hA t' ht'
      obtain ⟨h1, h2⟩ := hk t' (List.mem_append_left _ ht')
      exact ⟨hback hf.2.2.1 t' (List.mem_append_left _ ht') hf hf.2.2.2.1 h1, hback hf.2.2.2.2.1 t' (List.mem_append_left _ ht') hf hf.2.2.2.2.2 h2⟩
    have ih := inv_fold hB0 n A' (by simp at hn; omega) ⟨hrise.1, hA⟩ (fun t' ht' => hb t' (List.mem_append_left _ ht')) hk'
    obtain ⟨h1, h2⟩ := hk t (by simp)
    rw [foldG_snoc]
    exact inv_gate hB0 ih hft hlt hA (hb t (by simp)) (hback hft.2.2.1 t (by simp) hft hft.2.2.2.1 h1) (hback hft.2.2.2.2.1 t (by simp) hft hft.2.2.2.2.2 h2)
end StrashP
end Go.Proofs.YtninglnchengeaaGreat

/-
  Plain: a circuit that may be, hashed, may be; its gates are not plain and differ; hashed again it stays; it tells what it told.
-/
namespace Go.Proofs.YtninglnchengeaaGreat
open Go.RowKit Base
set_option linter.unusedVariables false
set_option linter.unusedSimpArgs false
namespace StrashP
open Circuit GetI

theorem ownOk_iff {most : Int} {own : List Int} : OwnOk most own ↔ (∀ m ∈ own, 2 ≤ m ∧ neg m = false ∧ var m ≤ most) ∧ (own.map var).Nodup := by
  constructor
  · intro h
    refine ⟨fun m hm => ?_, ?_⟩
    · obtain ⟨j, hj, rfl⟩ := List.mem_iff_getElem.1 hm
      obtain ⟨h1, h2, h3, _⟩ := h j hj
      exact ⟨h1, h2, h3⟩
    · rw [List.Nodup, List.pairwise_iff_getElem]
      intro i j hi hj hij e
      rw [List.length_map] at hi hj
      simp only [List.getElem_map] at e
      refine (h j hj).2.2.2 (List.mem_map.2 ⟨own[i], ?_, e⟩)
      rw [List.mem_take_iff_getElem]
      exact ⟨i, by omega, rfl⟩
  · rintro ⟨h1, h2⟩ j hj
    obtain ⟨g1, g2, g3⟩ := h1 own[j] (List.getElem_mem hj)
    refine ⟨g1, g2, g3, fun hm => ?_⟩
    obtain ⟨a, ha, he⟩ := List.mem_map.1 hm
    rw [List.mem_take_iff_getElem] at ha
    obtain ⟨i, hi, rfl⟩ := ha
    rw [List.Nodup, List.pairwise_iff_getElem] at h2
    exact h2 i j (by simp; omega) (by simp; omega) (by omega) (by simp only [List.getElem_map]; exact he)

theorem pairwise_adj {l : List Tri} (h : ∀ j (hj : j + 1 < l.length), (l[j]'(by omega)).1 < l[j + 1].1) : l.Pairwise fun a b => a.1 < b.1 := by
  rw [List.pairwise_iff_getElem]
  intro i j hi hj hij
  obtain ⟨d, rfl⟩ : ∃ d, j = i + 1 + d := ⟨j - i - 1, by omega⟩
  induction d with
  | zero => exact h i hj
  | succ d ih =>
    have h1 := ih (by omega) (by omega)
    have h2 := h (i + 1 + d) (by omega)
    have e : i + 1 + d + 1 = i + 1 + (d + 1) := by omega
    simp only [e] at h2
    omega

/-- A base's variable: 0, an input's, a latch's. -/
def baseV (x : Circ) (v : Int) : Prop := v = 0 ∨ v ∈ x.ins.map var ∨ v ∈ (x.lats.map (·.1)).map var

theorem neg_even {m : Int} (h : 2 ≤ m) (hn : neg m = false) : m % 2 = 0 := by
  unfold neg at hn
  rw [if_neg (by omega)] at hn
  simp at hn; omega

theorem ord_of {x : Circ} (h : CheckOk x) : Ord x.ands := by
  obtain ⟨hf, ⟨hd, hr, hs⟩, hl, ha, _⟩ := h
  refine ⟨pairwise_adj hs, fun t ht => ?_⟩
  obtain ⟨g1, g2, g3⟩ := (ownOk_iff.1 hd).1 t.1 (by unfold ownL; exact List.mem_append_right _ (List.mem_map.2 ⟨t, ht, rfl⟩))
  obtain ⟨k1, k2, k3, k4⟩ := ha t ht
  exact ⟨g1, neg_even g1 g2, k1.1, k3, k2.1, k4⟩

theorem known_base {x : Circ} {l : Int} (h : knownV (vsOf x) l) : 0 ≤ l ∧ (baseV x (var l) ∨ ∃ t ∈ x.ands, var t.1 = var l) := by
  obtain ⟨h0, h | h⟩ := h
  · exact ⟨h0, Or.inl (Or.inl (by unfold var; omega))⟩
  · refine ⟨h0, ?_⟩
    unfold vsOf ownL at h
    rw [List.map_append, List.map_append, List.mem_append, List.mem_append] at h
    rcases h with (h | h) | h
    · exact Or.inl (Or.inr (Or.inl h))
    · exact Or.inl (Or.inr (Or.inr h))
    · right
      obtain ⟨m, hm, he⟩ := List.mem_map.1 h
      obtain ⟨t, ht, rfl⟩ := List.mem_map.1 hm
      exact ⟨t, ht, he⟩

theorem base_not {x : Circ} (h : CheckOk x) : ∀ t ∈ x.ands, ¬ baseV x (var t.1) := by
  intro t ht hb
  have hfine := (ord_of h).fine t ht
  have hn := (ownOk_iff.1 h.2.1.1).2
  unfold ownL at hn
  rw [List.map_append, List.nodup_append] at hn
  have hmem : var t.1 ∈ (x.ands.map (·.1)).map var := List.mem_map.2 ⟨t.1, List.mem_map.2 ⟨t, ht, rfl⟩, rfl⟩
  rcases hb with hb | hb | hb
  · have := hfine.1; unfold var at hb; omega
  · exact hn.2.2 _ (by rw [List.map_append]; exact List.mem_append_left _ hb) _ hmem rfl
  · exact hn.2.2 _ (by rw [List.map_append]; exact List.mem_append_right _ hb) _ hmem rfl

theorem inv_of {x : Circ} (h : CheckOk x) : Inv (baseV x) x.ands (foldG x.ands) := by
  refine inv_fold (Or.inl rfl) _ _ rfl (ord_of h) (base_not h) fun t ht => ?_
  obtain ⟨k1, k2, _, _⟩ := h.2.2.2.1 t ht
  exact ⟨(known_base k1).2, (known_base k2).2⟩

def stOf (x : Circ) : St := foldG x.ands
/-- A circuit, all its gates replaced. -/
def mid (x : Circ) : Circ := { x with lats := x.lats.map fun t => (t.1, litS (stOf x).S t.2.1, t.2.2), outs := x.outs.map (litS (stOf x).S), bads := x.bads.map (litS (stOf x).S), invs := x.invs.map (litS (stOf x).S), ands := (stOf x).K }
def told (x : Circ) : List Int := x.lats.map (·.2.1) ++ x.outs ++ x.bads ++ x.invs
noncomputable def wants (x : Circ) (t : Tri) : Bool := tt (Rch (mid x).ands (told (mid x)) (var t.1))
/-- A circuit, hashed. -/
noncomputable def hashed (x : Circ) : Circ := { mid x with ands := (stOf x).K.filter (wants x) }

theorem told_lit {x : Circ} {l : Int} (hl : l ∈ told (mid x)) : ∃ m ∈ told x, l = litS (stOf x).S m := by
  unfold told at hl ⊢
  simp only [List.mem_append] at hl ⊢
  rcases hl with ((hl | hl) | hl) | hl
  · obtain ⟨t, ht, rfl⟩ := List.mem_map.1 hl
    obtain ⟨t', ht', rfl⟩ := List.mem_map.1 ht
    exact ⟨t'.2.1, Or.inl (Or.inl (Or.inl (List.mem_map.2 ⟨t', ht', rfl⟩))), rfl⟩
  · obtain ⟨m, hm, rfl⟩ := List.mem_map.1 hl
    exact ⟨m, Or.inl (Or.inl (Or.inr hm)), rfl⟩
  · obtain ⟨m, hm, rfl⟩ := List.mem_map.1 hl
    exact ⟨m, Or.inl (Or.inr hm), rfl⟩
  · obtain ⟨m, hm, rfl⟩ := List.mem_map.1 hl
    exact ⟨m, Or.inr hm, rfl⟩
theorem lit_told {x : Circ} {m : Int} (hm : m ∈ told x) : litS (stOf x).S m ∈ told (mid x) := by
  unfold told at hm ⊢
  simp only [List.mem_append] at hm ⊢
  rcases hm with ((hm | hm) | hm) | hm
  · obtain ⟨t, ht, rfl⟩ := List.mem_map.1 hm
    exact Or.inl (Or.inl (Or.inl (List.mem_map.2 ⟨_, List.mem_map.2 ⟨t, ht, rfl⟩, rfl⟩)))
  · exact Or.inl (Or.inl (Or.inr (List.mem_map.2 ⟨m, hm, rfl⟩)))
  · exact Or.inl (Or.inr (List.mem_map.2 ⟨m, hm, rfl⟩))
  · exact Or.inr (List.mem_map.2 ⟨m, hm, rfl⟩)
theorem told_known {x : Circ} (h : CheckOk x) {m : Int} (hm : m ∈ told x) : knownV (vsOf x) m := by
  obtain ⟨_, _, hl, _, ho, hb, hv, _⟩ := h
  unfold told at hm
  simp only [List.mem_append] at hm
  rcases hm with ((hm | hm) | hm) | hm
  · obtain ⟨t, ht, rfl⟩ := List.mem_map.1 hm
    exact hl t ht
  · exact ho m hm
  · exact hb m hm
  · exact hv m hm
theorem told_facts {x : Circ} (h : CheckOk x) {l : Int} (hl : l ∈ told (mid x)) :
    0 ≤ l ∧ getI (stOf x).S (var l) = none ∧ (baseV x (var l) ∨ ∃ k ∈ (stOf x).K, var k.1 = var l) := by
  obtain ⟨m, hm, rfl⟩ := told_lit hl
  obtain ⟨h0, hb⟩ := known_base (told_known h hm)
  have := lit_facts (inv_of h) h0 hb (ord_of h).fine
  exact ⟨this.1, this.2.2⟩

theorem gate_of {A : List Tri} {v : Int} {g : Tri} (h : gate A v = some g) : g ∈ A ∧ 0 ≤ g.1 ∧ var g.1 = v := by
  refine ⟨gate_mem h, ?_⟩
  have := List.find?_some h
  simp only [Bool.and_eq_true, decide_eq_true_eq] at this
  exact this
theorem kOrd {x : Circ} (h : CheckOk x) : Ord (stOf x).K := by
  have hi := inv_of h
  refine ⟨?_, fun k hk => (hi.kept k hk).1⟩
  have h1 : (x.ands.map (·.1)).Pairwise (· < ·) := by rw [List.pairwise_map]; exact (ord_of h).rise
  have h2 := List.Pairwise.sublist hi.sub h1
  rw [List.pairwise_map] at h2
  exact h2
theorem ord_same {A : List Tri} (h : Ord A) {a b : Tri} (ha : a ∈ A) (hb : b ∈ A) (e : var a.1 = var b.1) : a = b := by
  obtain ⟨i, hi, rfl⟩ := List.mem_iff_getElem.1 ha
  obtain ⟨j, hj, rfl⟩ := List.mem_iff_getElem.1 hb
  have hr := List.pairwise_iff_getElem.1 h.rise
  have f1 := h.fine _ ha
  have f2 := h.fine _ hb
  have e' : A[i].1 = A[j].1 := by
    have := f1.1; have := f1.2.1; have := f2.1; have := f2.2.1
    unfold var at e; omega
  rcases Nat.lt_trichotomy i j with hij | hij | hij
  · have := hr i j hi hj hij; omega
  · subst hij; rfl
  · have := hr j i hj hi hij; omega
theorem gate_ord {A : List Tri} (h : Ord A) {g : Tri} (hg : g ∈ A) : gate A (var g.1) = some g := by
  cases hq : gate A (var g.1) with
  | none =>
    unfold gate at hq
    rw [List.find?_eq_none] at hq
    have := hq g hg
    have := (h.fine g hg).1
    simp at *
    omega
  | some g' =>
    obtain ⟨h1, _, h3⟩ := gate_of hq
    rw [ord_same h h1 hg h3]
theorem Ord.filter {A : List Tri} (h : Ord A) (p : Tri → Bool) : Ord (A.filter p) := ⟨h.rise.filter p, fun t ht => h.fine t (List.mem_filter.1 ht).1⟩

theorem rch_known {x : Circ} (h : CheckOk x) {v : Int} (hv : Rch (stOf x).K (told (mid x)) v) : getI (stOf x).S v = none ∧ (baseV x v ∨ ∃ k ∈ (stOf x).K, var k.1 = v) := by
  have hi := inv_of h
  cases hv with
  | lit ht => exact (told_facts h ht).2
  | left hr h0 hg =>
    obtain ⟨h1, _, _⟩ := gate_of hg
    exact (hi.kept _ h1).2.2.1
  | right hr h0 hg =>
    obtain ⟨h1, _, _⟩ := gate_of hg
    exact (hi.kept _ h1).2.2.2.1

theorem fands {x : Circ} {t : Tri} : t ∈ (hashed x).ands ↔ t ∈ (stOf x).K ∧ Rch (stOf x).K (told (mid x)) (var t.1) := by
  show t ∈ (stOf x).K.filter (wants x) ↔ _
  rw [List.mem_filter]
  unfold wants
  rw [tt_iff]
  exact Iff.rfl
theorem fOrd {x : Circ} (h : CheckOk x) : Ord (hashed x).ands := (kOrd h).filter _

/-- What hangs on it hangs on it without the rest. -/
theorem rch_less {x : Circ} (h : CheckOk x) {v : Int} (hv : Rch (stOf x).K (told (mid x)) v) : Rch (hashed x).ands (told (mid x)) v := by
  have key : ∀ {v : Int} {g : Tri}, Rch (stOf x).K (told (mid x)) v → gate (stOf x).K v = some g → gate (hashed x).ands v = some g := by
    intro v g hr hg
    obtain ⟨h1, _, h3⟩ := gate_of hg
    rw [← h3]
    exact gate_ord (fOrd h) (fands.2 ⟨h1, by rw [h3]; exact hr⟩)
  induction hv with
  | lit ht => exact .lit ht
  | left hr h0 hg ih => exact .left ih h0 (key hr hg)
  | right hr h0 hg ih => exact .right ih h0 (key hr hg)

theorem known_h {x : Circ} (h : CheckOk x) {l : Int} (h0 : 0 ≤ l) (hr : Rch (stOf x).K (told (mid x)) (var l)) : knownV (vsOf (hashed x)) l := by
  refine ⟨h0, ?_⟩
  rcases (rch_known h hr).2 with hb | ⟨k, hk, he⟩
  · rcases hb with hb | hb | hb
    · left; unfold var at hb; omega
    · right
      unfold vsOf ownL
      rw [List.map_append, List.map_append, List.mem_append, List.mem_append]
      exact Or.inl (Or.inl hb)
    · right
      unfold vsOf ownL
      rw [List.map_append, List.map_append, List.mem_append, List.mem_append]
      refine Or.inl (Or.inr ?_)
      have e : (hashed x).lats.map (·.1) = x.lats.map (·.1) := by
        show (x.lats.map fun t => (t.1, litS (stOf x).S t.2.1, t.2.2)).map (·.1) = _
        rw [List.map_map]; rfl
      rw [e]; exact hb
  · right
    unfold vsOf ownL
    rw [List.map_append, List.map_append, List.mem_append, List.mem_append]
    right
    refine List.mem_map.2 ⟨k.1, List.mem_map.2 ⟨k, fands.2 ⟨hk, by rw [he]; exact hr⟩, rfl⟩, he⟩

theorem countOf_mono {x y : Circ} (h1 : x.ins.length ≤ y.ins.length) (h2 : x.lats.length ≤ y.lats.length) (h3 : x.outs.length ≤ y.outs.length) (h4 : x.bads.length ≤ y.bads.length) (h5 : x.invs.length ≤ y.invs.length) (k : ByteArray) : countOf x k ≤ countOf y k := by
  unfold countOf
  split
  · exact h1
  · split
    · exact h2
    · split
      · exact h3
      · split
        · exact h4
        · exact h5
theorem names_mono {x y : Circ} (hn : x.names = y.names) (h : ∀ k, countOf x k ≤ countOf y k) (hx : NamesTo x x.names.length) : NamesTo y y.names.length := by
  obtain ⟨m, ins, lats, outs, bads, invs, ands, names⟩ := x
  obtain ⟨m', ins', lats', outs', bads', invs', ands', names'⟩ := y
  simp only at hn
  subst hn
  intro j hj hjk
  obtain ⟨⟨c, g1, g2, g3, g4, g5⟩, g6⟩ := hx j hj hjk
  exact ⟨⟨c, g1, g2, g3, Int.lt_of_lt_of_le g4 (Int.ofNat_le.2 (h (names[j]).1)), g5⟩, g6⟩

theorem hashed_ok {x : Circ} (h : CheckOk x) : CheckOk (hashed x) := by
  have hi := inv_of h
  have hlm : (hashed x).lats.map (·.1) = x.lats.map (·.1) := by
    show (x.lats.map fun t => (t.1, litS (stOf x).S t.2.1, t.2.2)).map (·.1) = _
    rw [List.map_map]; rfl
  have hl1 : (hashed x).lats.length = x.lats.length := by show (x.lats.map _).length = _; rw [List.length_map]
  have hl2 : (hashed x).outs.length = x.outs.length := by show (x.outs.map _).length = _; rw [List.length_map]
  have hl3 : (hashed x).bads.length = x.bads.length := by show (x.bads.map _).length = _; rw [List.length_map]
  have hl4 : (hashed x).invs.length = x.invs.length := by show (x.invs.map _).length = _; rw [List.length_map]
  have htold : ∀ m ∈ told x, knownV (vsOf (hashed x)) (litS (stOf x).S m) := fun m hm => by
    have h1 := lit_told hm
    exact known_h h (told_facts h h1).1 (.lit h1)
  obtain ⟨hf, ⟨hd, hr, hs⟩, hl, ha, ho, hb, hv, hn⟩ := h
  have h : CheckOk x := ⟨hf, ⟨hd, hr, hs⟩, hl, ha, ho, hb, hv, hn⟩
  obtain ⟨f0, f1, f2, f3, f4, f5, f6⟩ := hf
  refine ⟨⟨f0, f1, f2, by rw [hl1]; exact f3, by rw [hl2]; exact f4, by rw [hl3]; exact f5, by rw [hl4]; exact f6⟩, ⟨?_, ?_, ?_⟩, ?_, ?_, ?_, ?_, ?_, ?_⟩
  · have hsub : (ownL (hashed x)).Sublist (ownL x) := by
      unfold ownL
      rw [hlm]
      refine List.Sublist.append (List.Sublist.refl _) ?_
      show (((stOf x).K.filter (wants x)).map (·.1)).Sublist _
      exact ((List.filter_sublist).map _).trans hi.sub
    obtain ⟨g1, g2⟩ := ownOk_iff.1 hd
    exact ownOk_iff.2 ⟨fun m hm => g1 m (hsub.subset hm), List.Nodup.sublist (hsub.map var) g2⟩
  · intro t ht
    obtain ⟨t', ht', rfl⟩ := List.mem_map.1 ht
    exact hr t' ht'
  · intro j hj
    exact List.pairwise_iff_getElem.1 (fOrd h).rise j (j + 1) (by omega) hj (by omega)
  · intro t ht
    obtain ⟨t', ht', rfl⟩ := List.mem_map.1 ht
    exact htold t'.2.1 (by unfold told; simp only [List.mem_append]; exact Or.inl (Or.inl (Or.inl (List.mem_map.2 ⟨t', ht', rfl⟩))))
  · intro t ht
    obtain ⟨h1, h2⟩ := fands.1 ht
    obtain ⟨g1, g2, g3, g4, g5, g6⟩ := hi.kept t h1
    have hg := gate_ord (kOrd h) h1
    have h0 : var t.1 ≠ 0 := by have := g1.1; unfold var; omega
    exact ⟨known_h h g1.2.2.1 (.left h2 h0 hg), known_h h g1.2.2.2.2.1 (.right h2 h0 hg), g1.2.2.2.1, g1.2.2.2.2.2⟩
  · intro l hl'
    obtain ⟨m, hm, rfl⟩ := List.mem_map.1 hl'
    exact htold m (by unfold told; simp only [List.mem_append]; exact Or.inl (Or.inl (Or.inr hm)))
  · intro l hl'
    obtain ⟨m, hm, rfl⟩ := List.mem_map.1 hl'
    exact htold m (by unfold told; simp only [List.mem_append]; exact Or.inl (Or.inr hm))
  · intro l hl'
    obtain ⟨m, hm, rfl⟩ := List.mem_map.1 hl'
    exact htold m (by unfold told; simp only [List.mem_append]; exact Or.inr hm)
  · exact names_mono (x := x) (y := hashed x) rfl (fun k => countOf_mono (x := x) (y := hashed x) (Nat.le_refl _) (by rw [hl1]; exact Nat.le_refl _) (by rw [hl2]; exact Nat.le_refl _) (by rw [hl3]; exact Nat.le_refl _) (by rw [hl4]; exact Nat.le_refl _) k) hn

/-! ### Less, and again. -/
theorem f_plain {x : Circ} (h : CheckOk x) : ∀ t ∈ (hashed x).ands, plainL t.2.1 t.2.2 = none := fun t ht => ((inv_of h).kept t (fands.1 ht).1).2.2.2.2.1
theorem k_pairs {x : Circ} (h : CheckOk x) {a b : Tri} (ha : a ∈ (stOf x).K) (hb : b ∈ (stOf x).K) (e : pairS a.2.1 a.2.2 = pairS b.2.1 b.2.2) : a = b := by
  have h1 := ((inv_of h).kept a ha).2.2.2.2.2
  have h2 := ((inv_of h).kept b hb).2.2.2.2.2
  rw [e] at h1
  have e1 : some b.1 = some a.1 := h2.symm.trans h1
  simp only [Option.some.injEq] at e1
  exact ord_same (kOrd h) ha hb (by rw [e1])
theorem f_pairs {x : Circ} (h : CheckOk x) : (hashed x).ands.Pairwise fun a b => pairS a.2.1 a.2.2 ≠ pairS b.2.1 b.2.2 := by
  have hr := (fOrd h).rise
  refine hr.imp_of_mem fun {a b} ha hb hlt e => ?_
  have := k_pairs h (fands.1 ha).1 (fands.1 hb).1 e
  rw [this] at hlt
  omega
theorem f_few {x : Circ} (h : CheckOk x) : (hashed x).ands.length ≤ x.ands.length := by
  have h1 := (inv_of h).sub.length_le
  rw [List.length_map, List.length_map] at h1
  exact Nat.le_trans (List.length_filter_le _ _) h1

theorem fold_plain : ∀ (n : Nat) (A : List Tri), A.length = n → (∀ t ∈ A, plainL t.2.1 t.2.2 = none) → (A.Pairwise fun a b => pairS a.2.1 a.2.2 ≠ pairS b.2.1 b.2.2) →
    (foldG A).S = [] ∧ (foldG A).K = A ∧ ∀ p l, getI (foldG A).M p = some l → ∃ t ∈ A, pairS t.2.1 t.2.2 = p
  | 0, A, hn, _, _ => by
    have : A = [] := List.eq_nil_of_length_eq_zero hn
    subst this
    exact ⟨rfl, rfl, fun p l h => by cases h⟩
  | n + 1, A, hn, hp, hq => by
    obtain ⟨A', t, rfl⟩ : ∃ A' t, A = A' ++ [t] := by
      rcases List.eq_nil_or_concat A with rfl | ⟨A', t, h⟩
      · simp at hn
      · exact ⟨A', t, by rw [h, List.concat_eq_append]⟩
    rw [List.pairwise_append] at hq
    obtain ⟨g1, g2, g3⟩ := fold_plain n A' (by simp at hn; omega) (fun t' ht' => hp t' (List.mem_append_left _ ht')) hq.1
    have hl : ∀ l, litS (foldG A').S l = l := by
      intro l
      rw [g1]
      rfl
    have hm : getI (foldG A').M (pairS t.2.1 t.2.2) = none := by
      cases hg : getI (foldG A').M (pairS t.2.1 t.2.2) with
      | none => rfl
      | some l =>
        obtain ⟨t', ht', he⟩ := g3 _ _ hg
        exact absurd he (hq.2.2 t' ht' t (by simp))
    have hst : foldG (A' ++ [t]) = { foldG A' with M := (pairS t.2.1 t.2.2, t.1) :: (foldG A').M, K := (foldG A').K ++ [t] } := by
      rw [foldG_snoc]
      unfold gateS
      rw [hl, hl, hp t (by simp)]
      simp only
      rw [hm]
    rw [hst]
    refine ⟨g1, by simp only; rw [g2], ?_⟩
    intro p l hg
    simp only at hg
    by_cases e : pairS t.2.1 t.2.2 = p
    · exact ⟨t, by simp, e⟩
    · rw [getI_other _ _ e] at hg
      obtain ⟨t', ht', he⟩ := g3 p l hg
      exact ⟨t', List.mem_append_left _ ht', he⟩

theorem hashed_again {x : Circ} (h : CheckOk x) : hashed (hashed x) = hashed x := by
  obtain ⟨g1, g2, _⟩ := fold_plain _ (hashed x).ands rfl (f_plain h) (f_pairs h)
  have hS : (stOf (hashed x)).S = [] := g1
  have hK : (stOf (hashed x)).K = (hashed x).ands := g2
  have hl : ∀ l, litS (stOf (hashed x)).S l = l := by
    intro l; rw [hS]; rfl
  have hlf : litS (stOf (hashed x)).S = id := funext hl
  have hmid : mid (hashed x) = hashed x := by
    unfold mid
    rw [hlf, hK]
    have e1 : ((hashed x).lats.map fun t => (t.1, id t.2.1, t.2.2)) = (hashed x).lats := by
      have : (fun t : Tri => (t.1, id t.2.1, t.2.2)) = id := by funext t; rfl
      rw [this, List.map_id]
    rw [e1, List.map_id, List.map_id, List.map_id]
  unfold hashed
  rw [show mid { mid x with ands := (stOf x).K.filter (wants x) } = hashed x from hmid]
  have hK' : (stOf { mid x with ands := (stOf x).K.filter (wants x) }).K = (hashed x).ands := hK
  rw [hK']
  have hall : (hashed x).ands.filter (wants (hashed x)) = (hashed x).ands := by
    rw [List.filter_eq_self]
    intro t ht
    unfold wants
    rw [hmid]
    refine tt_pos ?_
    have htold : told (hashed x) = told (mid x) := rfl
    rw [htold]
    exact rch_less h (fands.1 ht).2
  rw [show ({ mid x with ands := (stOf x).K.filter (wants x) } : Circ) = hashed x from rfl, hall]

/-! ### Values. -/
def setV (V : Int → Bool) (u : Int) (b : Bool) : Int → Bool := fun k => if k = u then b else V k
def evalA (A : List Tri) (V : Int → Bool) : Int → Bool := A.foldl (fun V t => setV V (var t.1) (bitV V t.2.1 && bitV V t.2.2)) V
theorem evalA_snoc (A : List Tri) (t : Tri) (V : Int → Bool) : evalA (A ++ [t]) V = setV (evalA A V) (var t.1) (bitV (evalA A V) t.2.1 && bitV (evalA A V) t.2.2) := by unfold evalA; rw [List.foldl_append]; rfl
theorem bit_set {V : Int → Bool} {u : Int} {b : Bool} {l : Int} (h : var l ≠ u) : bitV (setV V u b) l = bitV V l := by unfold bitV setV; rw [if_neg h]

theorem eval_sat : ∀ (n : Nat) (A : List Tri), A.length = n → Ord A → ∀ V, Sat (evalA A V) A ∧ ∀ u, (∀ t ∈ A, var t.1 ≠ u) → evalA A V u = V u
  | 0, A, hn, _, V => by
    have : A = [] := List.eq_nil_of_length_eq_zero hn
    subst this
    exact ⟨fun t h => (by cases h), fun u _ => rfl⟩
  | n + 1, A, hn, ho, V => by
    obtain ⟨A', t, rfl⟩ : ∃ A' t, A = A' ++ [t] := by
      rcases List.eq_nil_or_concat A with rfl | ⟨A', t, h⟩
      · simp at hn
      · exact ⟨A', t, by rw [h, List.concat_eq_append]⟩
    have hrise := List.pairwise_append.1 ho.rise
    have hft := ho.fine t (by simp)
    have hA : ∀ t' ∈ A', Fine t' := fun t' ht' => ho.fine t' (List.mem_append_left _ ht')
    obtain ⟨h1, h2⟩ := eval_sat n A' (by simp at hn; omega) ⟨hrise.1, hA⟩ V
    have hlt : ∀ t' ∈ A', var t'.1 < var t.1 := fun t' ht' => var_lt hft (by have := (hA t' ht').1; omega) (hrise.2.2 t' ht' t (by simp))
    have hvl : var t.2.1 < var t.1 := var_lt hft hft.2.2.1 hft.2.2.2.1
    have hvr : var t.2.2 < var t.1 := var_lt hft hft.2.2.2.2.1 hft.2.2.2.2.2
    rw [evalA_snoc]
    refine ⟨fun t' ht' => ?_, fun u hu => ?_⟩
    · rcases List.mem_append.1 ht' with h | h
      · have hf := hA t' h
        have hv := hlt t' h
        have hv1 := var_lt hf hf.2.2.1 hf.2.2.2.1
        have hv2 := var_lt hf hf.2.2.2.2.1 hf.2.2.2.2.2
        rw [bit_set (by omega), bit_set (by omega)]
        have e : setV (evalA A' V) (var t.1) (bitV (evalA A' V) t.2.1 && bitV (evalA A' V) t.2.2) (var t'.1) = evalA A' V (var t'.1) := by unfold setV; rw [if_neg (by omega)]
        rw [e]
        exact h1 t' h
      · rw [List.mem_singleton] at h
        subst h
        rw [bit_set (by omega), bit_set (by omega)]
        unfold setV
        rw [if_pos rfl]
    · unfold setV
      rw [if_neg (fun e => hu t (by simp) e.symm)]
      exact h2 u fun t' ht' => hu t' (List.mem_append_left _ ht')

theorem sem_rch {x : Circ} (h : CheckOk x) {V0 : Int → Bool} (h0 : V0 0 = false) : ∀ (n : Nat) (v : Int), v.toNat = n → 0 ≤ v → Rch (stOf x).K (told (mid x)) v → evalA (hashed x).ands V0 v = evalA x.ands V0 v := by
  intro n
  induction n using Nat.strongRecOn with
  | _ n ih =>
    intro v hn hv hr
    obtain ⟨s1, s2⟩ := eval_sat _ x.ands rfl (ord_of h) V0
    obtain ⟨t1, t2⟩ := eval_sat _ (hashed x).ands rfl (fOrd h) V0
    have hV0 : evalA x.ands V0 0 = false := by
      rw [s2 0 (fun t ht => by have := ((ord_of h).fine t ht).1; unfold var; omega)]; exact h0
    have hi := inv_of h
    obtain ⟨hnone, hb⟩ := rch_known h hr
    by_cases hk : ∃ k ∈ (stOf x).K, var k.1 = v
    · obtain ⟨k, hk, rfl⟩ := hk
      have hkf := fands.2 ⟨hk, hr⟩
      have hfk := (hi.kept k hk).1
      have hg := gate_ord (kOrd h) hk
      have hne : var k.1 ≠ 0 := by have := hfk.1; unfold var; omega
      have e1 := t1 k hkf
      have e2 := (hi.sem _ hV0 s1).2 k hk
      have hv1 := var_lt hfk hfk.2.2.1 hfk.2.2.2.1
      have hv2 := var_lt hfk hfk.2.2.2.2.1 hfk.2.2.2.2.2
      have p1 : 0 ≤ var k.2.1 := by unfold var; omega
      have p2 : 0 ≤ var k.2.2 := by unfold var; omega
      have i1 := ih (var k.2.1).toNat (by omega) _ rfl p1 (.left hr hne hg)
      have i2 := ih (var k.2.2).toNat (by omega) _ rfl p2 (.right hr hne hg)
      rw [e1, e2]
      unfold bitV
      rw [i1, i2]
    · rw [t2 v (fun t ht e => hk ⟨t, (fands.1 ht).1, e⟩), s2 v (fun t ht e => ?_)]
      rcases hi.all t ht with ⟨s, hs⟩ | ⟨k, hkk, he⟩
      · rw [e] at hs
        have : getI (stOf x).S v = some s := hs
        rw [hnone] at this; cases this
      · exact hk ⟨k, hkk, by rw [he, e]⟩

/-- What is told is the same. -/
theorem sem_told {x : Circ} (h : CheckOk x) {V0 : Int → Bool} (h0 : V0 0 = false) {m : Int} (hm : m ∈ told x) : bitV (evalA (hashed x).ands V0) (litS (stOf x).S m) = bitV (evalA x.ands V0) m := by
  obtain ⟨s1, s2⟩ := eval_sat _ x.ands rfl (ord_of h) V0
  have hV0 : evalA x.ands V0 0 = false := by
    rw [s2 0 (fun t ht => by have := ((ord_of h).fine t ht).1; unfold var; omega)]; exact h0
  have hl := lit_told hm
  have hr : Rch (stOf x).K (told (mid x)) (var (litS (stOf x).S m)) := .lit hl
  have e := sem_rch h h0 _ _ rfl (by unfold var; omega) hr
  rw [← lit_sem (inv_of h) hV0 s1 m]
  show bitV _ (litS (stOf x).S m) = bitV _ (litS (stOf x).S m)
  unfold bitV
  rw [e]

/-! ### Twice. -/
/-- A circuit with one and more, its literals the other way round, and one output more. -/
def more (x : Circ) (a : Tri) (o : Int) : Circ := { x with max := x.max + 1, ands := x.ands ++ [(2 * (x.max + 1), a.2.2, a.2.1)], outs := x.outs ++ [o] }

theorem more_ok {x : Circ} (h : CheckOk x) {a : Tri} (ha : a ∈ x.ands) (hm : x.max ≤ 1000) (ho : x.outs.length + 1 ≤ 64) {o : Int} (hoo : o = a.1 ∨ o = 2 * (x.max + 1)) : CheckOk (more x a o) := by
  have hord := ord_of h
  obtain ⟨hf, ⟨hd, hr, hs⟩, hl, hand, hout, hb, hv, hn⟩ := h
  obtain ⟨f0, f1, f2, f3, f4, f5, f6⟩ := hf
  obtain ⟨d1, d2⟩ := ownOk_iff.1 hd
  have hown : ownL (more x a o) = ownL x ++ [2 * (x.max + 1)] := by unfold ownL more; simp
  have hvs : vsOf (more x a o) = vsOf x ++ [x.max + 1] := by
    unfold vsOf
    rw [hown, List.map_append]
    have : var (2 * (x.max + 1)) = x.max + 1 := by unfold var; omega
    simp [this]
  have hk : ∀ l, knownV (vsOf x) l → knownV (vsOf (more x a o)) l := fun l hl => ⟨hl.1, hl.2.imp id fun h => by rw [hvs]; exact List.mem_append_left _ h⟩
  have hmax : ∀ t ∈ x.ands, t.1 < 2 * (x.max + 1) := fun t ht => by
    have := (d1 t.1 (by unfold ownL; exact List.mem_append_right _ (List.mem_map.2 ⟨t, ht, rfl⟩))).2.2
    unfold var at this; omega
  obtain ⟨ka1, ka2, ka3, ka4⟩ := hand a ha
  have hma := hmax a ha
  refine ⟨⟨by show 0 ≤ x.max + 1; omega, by show x.max + 1 ≤ 2048; omega, f2, f3, by show (x.outs ++ [o]).length ≤ 64; simp; omega, f5, f6⟩, ⟨?_, hr, ?_⟩, fun t ht => hk _ (hl t ht), ?_, ?_, fun l hl' => hk _ (hb l hl'), fun l hl' => hk _ (hv l hl'), ?_⟩
  · rw [hown]
    refine ownOk_iff.2 ⟨fun m hmm => ?_, ?_⟩
    · rcases List.mem_append.1 hmm with h1 | h1
      · obtain ⟨g1, g2, g3⟩ := d1 m h1
        exact ⟨g1, g2, by show var m ≤ x.max + 1; omega⟩
      · rw [List.mem_singleton] at h1
        subst h1
        refine ⟨by omega, ?_, by show var (2 * (x.max + 1)) ≤ x.max + 1; unfold var; omega⟩
        unfold neg
        rw [if_neg (by omega)]
        simp
    · rw [List.map_append, List.nodup_append]
      refine ⟨d2, by simp, fun u hu v hv' e => ?_⟩
      subst e
      simp only [List.map_cons, List.map_nil, List.mem_singleton] at hv'
      obtain ⟨m, hmm, rfl⟩ := List.mem_map.1 hu
      have := (d1 m hmm).2.2
      unfold var at *
      omega
  · intro j hj
    have hj' : j + 1 < (x.ands ++ [(2 * (x.max + 1), a.2.2, a.2.1)]).length := hj
    rw [List.length_append, List.length_singleton] at hj'
    show ((x.ands ++ [(2 * (x.max + 1), a.2.2, a.2.1)])[j]'(by simp; omega)).1 < ((x.ands ++ [(2 * (x.max + 1), a.2.2, a.2.1)])[j + 1]'(by simp; omega)).1
    by_cases he : j + 1 < x.ands.length
    · rw [List.getElem_append_left he, List.getElem_append_left (by omega)]
      exact hs j he
    · rw [List.getElem_append_left (by omega), List.getElem_append_right (by omega)]
      simp only [List.getElem_singleton]
      exact hmax _ (List.getElem_mem _)
  · intro t ht
    rcases List.mem_append.1 ht with h1 | h1
    · obtain ⟨g1, g2, g3, g4⟩ := hand t h1
      exact ⟨hk _ g1, hk _ g2, g3, g4⟩
    · rw [List.mem_singleton] at h1
      subst h1
      exact ⟨hk _ ka2, hk _ ka1, by show a.2.2 < 2 * (x.max + 1); omega, by show a.2.1 < 2 * (x.max + 1); omega⟩
  · intro l hl'
    rcases List.mem_append.1 hl' with h1 | h1
    · exact hk _ (hout l h1)
    · rw [List.mem_singleton] at h1
      subst h1
      rcases hoo with rfl | rfl
      · refine hk _ ⟨by have := (hord.fine a ha).1; omega, Or.inr ?_⟩
        unfold vsOf ownL
        rw [List.map_append, List.mem_append]
        exact Or.inr (List.mem_map.2 ⟨a.1, List.mem_map.2 ⟨a, ha, rfl⟩, rfl⟩)
      · refine ⟨by omega, Or.inr ?_⟩
        rw [hvs]
        have : var (2 * (x.max + 1)) = x.max + 1 := by unfold var; omega
        rw [this]; simp
  · exact names_mono (x := x) (y := more x a o) rfl (fun k => countOf_mono (x := x) (y := more x a o) (Nat.le_refl _) (Nat.le_refl _) (by show x.outs.length ≤ (x.outs ++ [o]).length; simp) (Nat.le_refl _) (Nat.le_refl _) k) hn

theorem twice {x : Circ} (h : CheckOk x) {a : Tri} (ha : a ∈ x.ands) (hm : x.max ≤ 1000) (ho : x.outs.length + 1 ≤ 64) : hashed (more x a a.1) = hashed (more x a (2 * (x.max + 1))) := by
  have hok := more_ok h ha hm ho (o := a.1) (Or.inl rfl)
  have hi := inv_of hok
  have hst : stOf (more x a (2 * (x.max + 1))) = stOf (more x a a.1) := rfl
  have hfine := (ord_of hok).fine
  have e1 := hi.at' a (List.mem_append_left _ ha)
  have e2 := hi.at' (2 * (x.max + 1), a.2.2, a.2.1) (List.mem_append_right _ (List.mem_singleton.2 rfl))
  have hkn := hok.2.2.2.1 a (List.mem_append_left _ ha)
  have hl := (lit_facts hi hkn.1.1 (known_base hkn.1).2 hfine).1
  have hr := (lit_facts hi hkn.2.1.1 (known_base hkn.2.1).2 hfine).1
  have hlit : litS (stOf (more x a a.1)).S a.1 = litS (stOf (more x a a.1)).S (2 * (x.max + 1)) := by
    have hc := plain_comm hl hr
    cases hp : plainL (litS (foldG (more x a a.1).ands).S a.2.1) (litS (foldG (more x a a.1).ands).S a.2.2) with
    | some r =>
      have h1 := e1.1 r hp
      have h2 := e2.1 r (by show plainL (litS (foldG (more x a a.1).ands).S a.2.2) (litS (foldG (more x a a.1).ands).S a.2.1) = some r; rw [← hc]; exact hp)
      exact h1.trans h2.symm
    | none =>
      have h1 := e1.2 hp
      have h2 := e2.2 (by show plainL (litS (foldG (more x a a.1).ands).S a.2.2) (litS (foldG (more x a a.1).ands).S a.2.1) = none; rw [← hc]; exact hp)
      have h2' : getI (foldG (more x a a.1).ands).M (pairS (litS (foldG (more x a a.1).ands).S a.2.2) (litS (foldG (more x a a.1).ands).S a.2.1)) = some (litS (foldG (more x a a.1).ands).S (2 * (x.max + 1))) := h2
      rw [pair_comm] at h2'
      have h3 := h1.symm.trans h2'
      simp only [Option.some.injEq] at h3
      exact h3
  have hmid : mid (more x a a.1) = mid (more x a (2 * (x.max + 1))) := by
    unfold mid
    rw [hst]
    have : (more x a a.1).outs.map (litS (stOf (more x a a.1)).S) = (more x a (2 * (x.max + 1))).outs.map (litS (stOf (more x a a.1)).S) := by
      show (x.outs ++ [a.1]).map _ = (x.outs ++ [2 * (x.max + 1)]).map _
      rw [List.map_append, List.map_append]
      congr 1
      simp only [List.map_cons, List.map_nil]
      rw [hlit]
    rw [this]
    rfl
  unfold hashed
  have hw : wants (more x a a.1) = wants (more x a (2 * (x.max + 1))) := by
    funext t
    unfold wants
    rw [hmid]
  rw [hw, hst, hmid]
end StrashP
end Go.Proofs.YtninglnchengeaaGreat

/-
  interlockref03.first, of a circuit that may be.
-/
namespace Go.Proofs.YtninglnchengeaaGreat
open Go.RowKit Base
set_option linter.unusedVariables false
set_option linter.unusedSimpArgs false
namespace RefF
open Circuit

theorem refFirst_any (w : World) (x : Circ) (p : At) (hin : InCirc w x p) (hok : CheckOk x) (i : Nat) (hi : i < x.ands.length) :
    Calls Tryz.prog 58 #[.agg (cells x p), .int .i64 i] w fun e w' => e = .returned (.bool true) ∧ Below w.heap.size w w' := by
  obtain ⟨W1, hW1⟩ : ∃ W1, w.alloc (.cells (cells x p) 27) = W1 := ⟨_, rfl⟩
  obtain ⟨hb1, hc1⟩ := cbox_new w x p W1 hW1
  have HB1 := Lib.hid hb1
  have HC := Lib.hid hc1
  have HI := Lib.hid (hin.next hb1).ands
  have hord := StrashP.ord_of hok
  have HORD := Lib.hid hord
  have HLT : Hid (∀ j (hj : j < i), (x.ands[j]'(by omega)).1 < x.ands[i].1) := fun j hj => (List.pairwise_iff_getElem.1 hord.rise) j i (by omega) hi hj
  have hmax : x.ands[i].1 ≤ 10000 := by
    have h1 := ((StrashP.ownOk_iff.1 hok.2.1.1).1 x.ands[i].1 (by unfold ownL; exact List.mem_append_right _ (List.mem_map.2 ⟨_, List.getElem_mem _, rfl⟩))).2.2
    have h2 := hok.1.2.1
    unfold var at h1
    omega
  have hfi := hord.fine x.ands[i] (List.getElem_mem _)
  have HFI : Hid (x.ands[i].1 % 2 = 0 ∧ 2 ≤ x.ands[i].1 ∧ x.ands[i].1 ≤ 10000) := ⟨hfi.2.1, hfi.1, hmax⟩
  obtain ⟨m, hm⟩ : ∃ m, x.ands.length = m := ⟨_, rfl⟩
  have HM := Lib.hid hm
  have him : i < m := by omega
  obtain ⟨a1, c1, a2, c2, a3, c3, a4, c4, a5, c5, a6, c6, a7, c7⟩ := p
  simp only [cells] at hW1 ⊢
  clear hin hok hb1 hc1 hord hmax hfi hm
  go_enter Tryz.func58, Tryz.ntmps58
  go_wp2_with fail
  clear hW1
  go_loopw [5] (fun u wr => ∃ j : Nat, j ≤ i ∧ u = .int .i64 j ∧ ∃ q, wr = W1.drewN q) (fun u _ => i - (intOf u).toNat)
  case atStart => exact ⟨0, Nat.zero_le _, rfl, 0, rfl⟩
  case round =>
    obtain ⟨j, hj, rfl, q, rfl⟩ := hrel
    by_cases hlt : j < i
    · have h6 := HC.out.k6
      simp only [HM.out] at h6
      have hia := HI.out
      have hj2 : j < x.ands.length := by have := HM.out; omega
      obtain ⟨b, o, hx, hbo, hbs, e0, e1, e2⟩ := hia.tri hj2
      obtain ⟨b', o', hx', hbo', hbs', f0, f1, f2⟩ := hia.tri hi
      try simp only at hbo
      try simp only at hbo'
      have hcap := hia.cap
      have hbig : c6 ≤ 9223372036854775807 := hia.big
      simp only [HM.out] at hcap
      have hl := HLT.out j hlt
      have hfj := HORD.out.fine x.ands[j] (List.getElem_mem _)
      have hfi := HFI.out
      obtain ⟨g0, g1, g2⟩ := hfj
      subst hbo
      simp only [Option.some.injEq, Addr.mk.injEq, and_true] at hbo'
      obtain ⟨rfl, rfl⟩ := hbo'
      generalize x.ands[j].1 = tj at *
      generalize x.ands[i].1 = ti at *
      obtain ⟨s1, s2, s3⟩ := hfi
      obtain ⟨vj, hvj, hvj2⟩ : ∃ v : Int, Int.tdiv tj 2 = v ∧ v = tj / 2 := ⟨_, rfl, Int.tdiv_eq_ediv_of_nonneg (by omega)⟩
      obtain ⟨vi, hvi, hvi2⟩ : ∃ v : Int, Int.tdiv ti 2 = v ∧ v = ti / 2 := ⟨_, rfl, Int.tdiv_eq_ediv_of_nonneg (by omega)⟩
      have hwj : IntKind.i64.wrap vj = vj := IntWalk.i64_in _ (by omega)
      have hwi : IntKind.i64.wrap vi = vi := IntWalk.i64_in _ (by omega)
      have hne : (vj == vi) = false := by rw [beq_eq_false_iff_ne]; omega
      have hge : decide (0 ≤ tj) = true := decide_eq_true (by omega)
      have hge0 : 0 ≤ tj := by omega
      have hgi0 : 0 ≤ ti := by omega
      have hdj : tj / 2 = vj := hvj2.symm
      have hdi : ti / 2 = vi := hvi2.symm
      clear e1 e2 f1 f2 g2 hx hx' hj2 hia hl g0 g1 s1 s2 s3 hvj2 hvi2
      go_wp2_with fail
      go_quiet (fail)
      go_wp2_with fail
      go_roundw
      case rel => exact ⟨j + 1, by omega, by go_num, q + nq, by first | rfl | (rw [World.drewN_drewN])⟩
      case measure => simp [intOf]; omega
    · go_wp2_with fail
      go_ret
      exact ⟨rfl, HB1.out.trans ((below_drewN (Below.refl _ _) q).mono HB1.out.size)⟩
end RefF
end Go.Proofs.YtninglnchengeaaGreat

/-
  interlockref01.Var of a literal that is none below 0.
-/
namespace Go.Proofs.YtninglnchengeaaGreat
open Go.RowKit Base
set_option linter.unusedVariables false
set_option linter.unusedSimpArgs false
namespace RefV
open Circuit

theorem refVar_any (a : Int) (h0 : 0 ≤ a) (h1 : a ≤ 9223372036854775807) (w : World) : Calls Tryz.prog 56 #[.int .i64 a] w fun e w' => e = .returned (.int .i64 (var a)) ∧ w' = w := by
  have hn : ¬ a < 0 := by omega
  have HV : Hid (var a = a / 2) := by show _ = _; unfold var; omega
  have HD : Hid (Int.tdiv a 2 = a / 2) := Int.tdiv_eq_ediv_of_nonneg h0
  go_enter Tryz.func56, Tryz.ntmps56
  go_wp2
  all_goals
    go_ret
    exact ⟨ret_int (by have := HV.out; have := HD.out; first | omega | (rw [HV.out, HD.out]) | (rw [HV.out])), rfl⟩
end RefV
end Go.Proofs.YtninglnchengeaaGreat

/-
  Plain: sorted, each once. No program.
-/
namespace Go.Proofs.YtninglnchengeaaGreat.Vals
set_option linter.unusedVariables false
set_option linter.unusedSimpArgs false
open Go.Lib

theorem get_bang (xs : List Int) (j : Nat) (hj : j < xs.length) : xs.toArray[j]! = xs[j] := by
  simp [hj]

theorem compact_inv (xs : List Int) (hs : xs.Pairwise (· ≤ ·)) : ∀ m, m ≤ xs.length → (compactUpTo xs.toArray m).Pairwise (· < ·) ∧ (∀ x, x ∈ compactUpTo xs.toArray m ↔ ∃ j, j < m ∧ xs.toArray[j]! = x) := by
  intro m
  induction m with
  | zero => intro _; exact ⟨by simp [compactUpTo], by simp [compactUpTo]⟩
  | succ m ih =>
    intro hm
    obtain ⟨h1, h2⟩ := ih (by omega)
    rw [compactUpTo_succ]
    have hle : ∀ i j, i < j → j < xs.length → xs.toArray[i]! ≤ xs.toArray[j]! := by
      intro i j hij hj
      rw [get_bang xs i (by omega), get_bang xs j hj]
      exact List.pairwise_iff_getElem.1 hs i j (by omega) hj hij
    by_cases hk : keeps xs.toArray m = true
    · rw [if_pos hk]
      have hne : m = 0 ∨ xs.toArray[m]! ≠ xs.toArray[m - 1]! := by
        by_cases h0 : m = 0
        · exact .inl h0
        · refine .inr fun he => ?_
          rw [keeps_neg (by omega) he] at hk
          cases hk
      refine ⟨?_, ?_⟩
      · rw [List.pairwise_append]
        refine ⟨h1, by simp, ?_⟩
        intro y hy z hz
        rw [List.mem_singleton] at hz
        subst hz
        obtain ⟨j, hj, rfl⟩ := (h2 y).1 hy
        rcases hne with h0 | hne
        · omega
        · have h3 := hle (m - 1) m (by omega) (by omega)
          by_cases hjm : j = m - 1
          · subst hjm
            omega
          · have h4 := hle j (m - 1) (by omega) (by omega)
            omega
      · intro x
        rw [List.mem_append, h2, List.mem_singleton]
        constructor
        · rintro (⟨j, hj, rfl⟩ | rfl)
          · exact ⟨j, by omega, rfl⟩
          · exact ⟨m, by omega, rfl⟩
        · rintro ⟨j, hj, rfl⟩
          by_cases hjm : j = m
          · exact .inr (by rw [hjm])
          · exact .inl ⟨j, by omega, rfl⟩
    · rw [if_neg hk, List.append_nil]
      refine ⟨h1, fun x => ?_⟩
      rw [h2]
      have he : m ≠ 0 ∧ xs.toArray[m]! = xs.toArray[m - 1]! := by
        refine ⟨fun h0 => hk (keeps_lt_one _ _ (by omega)), ?_⟩
        exact Classical.byContradiction fun hne => hk (keeps_pos hne)
      constructor
      · rintro ⟨j, hj, rfl⟩
        exact ⟨j, by omega, rfl⟩
      · rintro ⟨j, hj, rfl⟩
        by_cases hjm : j = m
        · exact ⟨m - 1, by omega, by rw [hjm]; exact he.2.symm⟩
        · exact ⟨j, by omega, rfl⟩

/-- Rising, each once. -/
def srt (zs : List Int) : List Int := compactUpTo (zs.mergeSort (fun x y => decide (x ≤ y))).toArray (zs.mergeSort (fun x y => decide (x ≤ y))).length

theorem srt_spec (zs : List Int) : (srt zs).Pairwise (· < ·) ∧ ∀ x, x ∈ srt zs ↔ x ∈ zs := by
  have h1 : (zs.mergeSort (fun x y => decide (x ≤ y))).Pairwise (fun x y => decide (x ≤ y) = true) :=
    List.pairwise_mergeSort (fun a b c h1 h2 => by simp only [decide_eq_true_eq] at *; omega) (fun a b => by simp only [Bool.or_eq_true, decide_eq_true_eq]; omega) zs
  obtain ⟨h2, h3⟩ := compact_inv (zs.mergeSort (fun x y => decide (x ≤ y))) (h1.imp fun h => by simpa using h) _ (Nat.le_refl _)
  refine ⟨h2, fun x => ?_⟩
  have hm : x ∈ zs ↔ x ∈ zs.mergeSort (fun x y => decide (x ≤ y)) := (List.mergeSort_perm zs _).mem_iff.symm
  unfold srt
  rw [h3, hm]
  constructor
  · rintro ⟨j, hj, rfl⟩
    rw [get_bang _ j hj]
    exact List.getElem_mem hj
  · intro h
    obtain ⟨j, hj, rfl⟩ := List.mem_iff_getElem.1 h
    exact ⟨j, hj, get_bang _ j hj⟩

theorem srt_one (zs : List Int) {x : Int} (h : x ∈ srt zs) : x ∈ zs := ((srt_spec zs).2 x).1 h
end Go.Proofs.YtninglnchengeaaGreat.Vals

/-
  Plain: a number into a list that rises, once; a list, sorted so. No program.
-/
namespace Go.Proofs.YtninglnchengeaaGreat.RefS
set_option linter.unusedVariables false
open Vals (srt srt_spec)

def ins (n : Int) : List Int → List Int
  | [] => [n]
  | x :: r => if x < n then x :: ins n r else if x = n then n :: r else n :: x :: r

def sorted (l : List Int) : List Int := l.foldl (fun o x => ins x o) []

theorem mem_ins {n y : Int} {l : List Int} : y ∈ ins n l ↔ y = n ∨ y ∈ l := by
  induction l with
  | nil => simp [ins]
  | cons x r ih =>
    unfold ins
    split
    · rw [List.mem_cons, ih, List.mem_cons]
      exact ⟨fun h => h.elim (fun h => .inr (.inl h)) (fun h => h.elim .inl (fun h => .inr (.inr h))), fun h => h.elim (fun h => .inr (.inl h)) (fun h => h.elim .inl (fun h => .inr (.inr h)))⟩
    · split
      · rename_i h
        subst h
        simp
      · simp

theorem ins_sorted {n : Int} {l : List Int} (h : l.Pairwise (· < ·)) : (ins n l).Pairwise (· < ·) := by
  induction l with
  | nil => simp [ins]
  | cons x r ih =>
    obtain ⟨h1, h2⟩ := List.pairwise_cons.1 h
    unfold ins
    split
    · rename_i hx
      refine List.pairwise_cons.2 ⟨fun y hy => ?_, ih h2⟩
      rcases mem_ins.1 hy with rfl | hy
      · exact hx
      · exact h1 y hy
    · split
      · rename_i hx
        subst hx
        exact h
      · refine List.pairwise_cons.2 ⟨fun y hy => ?_, h⟩
        rcases List.mem_cons.1 hy with rfl | hy
        · omega
        · have := h1 y hy
          omega

theorem ins_len (n : Int) (l : List Int) : (ins n l).length ≤ l.length + 1 := by
  induction l with
  | nil => simp [ins]
  | cons x r ih =>
    unfold ins
    split
    · simp; omega
    · split <;> simp

theorem ins_split {n : Int} {l : List Int} {j : Nat} (h : ∀ y ∈ l.take j, y < n) : ins n l = l.take j ++ ins n (l.drop j) := by
  induction l generalizing j with
  | nil => simp
  | cons x r ih =>
    cases j with
    | zero => simp
    | succ j =>
      have hx : x < n := h x (by simp)
      rw [List.take_succ_cons, List.drop_succ_cons, List.cons_append, ← ih (fun y hy => h y (by simp [hy]))]
      show (if x < n then x :: ins n r else _) = _
      rw [if_pos hx]

theorem ins_end {n : Int} {l : List Int} (h : ∀ y ∈ l, y < n) : ins n l = l ++ [n] := by
  have := ins_split (n := n) (l := l) (j := l.length) (by rw [List.take_length]; exact h)
  rw [List.take_length, List.drop_length] at this
  exact this
theorem ins_hit {n : Int} {l : List Int} {j : Nat} (h : ∀ y ∈ l.take j, y < n) (hj : j < l.length) (he : l[j] = n) : ins n l = l.take j ++ [n] ++ l.drop (j + 1) := by
  rw [ins_split h, List.drop_eq_getElem_cons hj, List.append_assoc]
  show l.take j ++ (if l[j] < n then _ else if l[j] = n then n :: l.drop (j + 1) else _) = _
  rw [if_neg (by omega), if_pos he]
  rfl
theorem ins_gap {n : Int} {l : List Int} {j : Nat} (h : ∀ y ∈ l.take j, y < n) (hj : j < l.length) (he : n < l[j]) : ins n l = l.take j ++ [n] ++ l.drop j := by
  rw [ins_split h, List.append_assoc]
  congr 1
  rw [List.drop_eq_getElem_cons hj]
  show (if l[j] < n then _ else if l[j] = n then _ else n :: l[j] :: l.drop (j + 1)) = _
  rw [if_neg (by omega), if_neg (by omega)]
  rfl

theorem fold_spec (l o : List Int) (ho : o.Pairwise (· < ·)) : (l.foldl (fun o x => ins x o) o).Pairwise (· < ·) ∧ (∀ y, y ∈ l.foldl (fun o x => ins x o) o ↔ y ∈ o ∨ y ∈ l) ∧ (l.foldl (fun o x => ins x o) o).length ≤ o.length + l.length := by
  induction l generalizing o with
  | nil => exact ⟨ho, by simp, by simp⟩
  | cons x r ih =>
    obtain ⟨h1, h2, h3⟩ := ih (ins x o) (ins_sorted ho)
    refine ⟨h1, fun y => ?_, ?_⟩
    · rw [List.foldl_cons, h2, mem_ins, List.mem_cons]
      exact ⟨fun h => h.elim (fun h => h.elim (fun h => .inr (.inl h)) .inl) (fun h => .inr (.inr h)), fun h => h.elim (fun h => .inl (.inr h)) (fun h => h.elim (fun h => .inl (.inl h)) .inr)⟩
    · have := ins_len x o
      rw [List.foldl_cons, List.length_cons]
      omega

theorem sorted_spec (l : List Int) : (sorted l).Pairwise (· < ·) ∧ (∀ y, y ∈ sorted l ↔ y ∈ l) ∧ (sorted l).length ≤ l.length := by
  obtain ⟨h1, h2, h3⟩ := fold_spec l [] List.Pairwise.nil
  exact ⟨h1, fun y => by rw [sorted, h2]; simp, by unfold sorted; simpa using h3⟩

theorem strict_ext {a b : List Int} (ha : a.Pairwise (· < ·)) (hb : b.Pairwise (· < ·)) (h : ∀ v, v ∈ a ↔ v ∈ b) : a = b := by
  have na : a.Nodup := ha.imp (fun h => by omega)
  have nb : b.Nodup := hb.imp (fun h => by omega)
  have hp : a.Perm b := (List.perm_ext_iff_of_nodup na nb).2 h
  exact List.Perm.eq_of_pairwise (le := fun a b => a < b) (fun a b _ _ h1 h2 => by omega) ha hb hp

theorem sorted_eq (l : List Int) : sorted l = srt l := strict_ext (sorted_spec l).1 (srt_spec l).1 (fun v => ((sorted_spec l).2.1 v).trans ((srt_spec l).2 v).symm)

theorem sorted_more {l : List Int} {k : Nat} (h : k < l.length) : sorted (l.take (k + 1)) = ins l[k] (sorted (l.take k)) := by
  unfold sorted
  rw [List.take_succ_eq_append_getElem h, List.foldl_append]
  rfl
theorem sorted_take (l : List Int) (k : Nat) : (sorted (l.take k)).length ≤ k := by
  have := (sorted_spec (l.take k)).2.2
  rw [List.length_take] at this
  omega
end Go.Proofs.YtninglnchengeaaGreat.RefS

/-
  interlockref01.Put.
-/
namespace Go.Proofs.YtninglnchengeaaGreat
open Go.RowKit Base
set_option linter.unusedVariables false
set_option linter.unusedSimpArgs false
namespace RefS
open Vals (srt srt_spec)

theorem info_i : (Tryz.prog.info? 3).map (fun i => (i.zero, i.size, i.bytes)) = some (some (.int .i64 0), 1, 8) := by kernel_rfl
theorem ints_app (xs ys : List Int) : ints xs ++ ints ys = ints (xs ++ ys) := by simp [ints]
theorem sl_drop {w : World} {b o n c : Nat} {l : List Int} (h : Sl w (some ⟨b, o, none⟩) n c (ints l)) {k : Nat} (hk : k ≤ n) :
    Sl w (some ⟨b, o + k, none⟩) (n - k) (c - k) (ints (l.drop k)) := by
  have h2 : ints (l.drop k) = (ints l).drop k := by unfold ints; rw [List.map_drop]
  rw [h2]
  exact ⟨by rw [List.length_drop, h.len], by have := h.cap; omega, by have := h.big; omega, (by intro e; cases e), fun j x hx => by
    rw [List.getElem?_drop] at hx
    obtain ⟨b', o', ha, hs, hc⟩ := h.cell (k + j) x hx
    simp only [Option.some.injEq, Addr.mk.injEq] at ha
    obtain ⟨rfl, rfl, _⟩ := ha
    exact ⟨b, o + k, rfl, hs, by rw [Nat.add_assoc]; exact hc⟩⟩
theorem sl_empty (w : World) (x : Addr) (c : Nat) {n : Nat} (hn : n = 0) (hc : c ≤ 9223372036854775807) : Sl w (some x) n c (ints []) := by
  subst hn
  exact ⟨rfl, Nat.zero_le _, hc, (by intro e; cases e), fun k x h => by simp [ints] at h⟩
theorem take_lt {l : List Int} {n : Int} {j : Nat} (hj : j < l.length) (h : ∀ y ∈ l.take j, y < n) (he : l[j] < n) : ∀ y ∈ l.take (j + 1), y < n := fun y hy => by
  rw [List.take_succ_eq_append_getElem hj] at hy
  rcases List.mem_append.1 hy with hy | hy
  · exact h y hy
  · rw [List.mem_singleton.1 hy]; exact he

set_option maxHeartbeats 4000000 in
theorem put_any (w : World) (a : Option Addr) (n c : Nat) (l : List Int) (hsl : Sl w a n c (ints l)) (hn : (n + 1) * 8 ≤ 140737488355328) (x : Int) :
    Calls Tryz.prog 57 #[.slice a n c, .int .i64 x] w fun e w' => ∃ a' c', e = .returned (.slice a' (ins x l).length c') ∧ w'.ownsRow w.heap.size 3 1 (.slice a' (ins x l).length c') (ins x l).length (ints (ins x l)) ∧ Below w.heap.size w w' := by
  have HL : Hid (l.length = n) := by have := hsl.len; rwa [ints_len] at this
  have hcap := hsl.cap
  have hbig := hsl.big
  have HSL := Lib.hid hsl
  have HN := Lib.hid hn
  clear hsl hn
  go_enter Tryz.func57, Tryz.ntmps57
  go_wp2_with fail
  go_loopw [5, 6] (fun s i wr => ∃ (j : Nat) (a' : Option Addr) (c' : Nat), j ≤ n ∧ i = .int .i64 j ∧ s = .slice a' j c' ∧ Hid (∀ y ∈ l.take j, y < x) ∧ Hid (wr.ownsRow w.heap.size 3 1 (.slice a' j c') j (ints (l.take j))) ∧ Hid (Below w.heap.size w wr)) (fun _ i _ => n - (intOf i).toNat)
  case atStart => exact ⟨0, none, 0, Nat.zero_le _, rfl, rfl, (by intro y hy; simp at hy), World.ownsRow_nil _ _ _ _, Below.refl _ _⟩
  case round =>
    obtain ⟨j, a', c', hj, rfl, rfl, hA, hO, hB⟩ := hrel
    have HJ8 : Hid ((j + 1) * 8 ≤ 140737488355328) := by show _ ≤ _; have := HN.out; omega
    have hbz : w.heap.size ≤ wr.heap.size := hB.out.size
    have HBZ := Lib.hid hbz
    clear hbz
    have hcj : ¬ c < j := by omega
    by_cases hlt : j < n
    · obtain ⟨b, o, hx, rfl, hbs, hcw⟩ := HSL.out.int hlt
      have hc := (hB.out.cell (p := ⟨b, o + j, none⟩) hbs).trans hcw
      have HC3 := Lib.hid (fun (U : World) (hU : Below w.heap.size w U) => (hU.cell (p := ⟨b, o + j, none⟩) hbs).trans hcw)
      have HT := Lib.hid (List.take_succ_eq_append_getElem hx)
      clear hcw
      by_cases hq : l[j] < x
      · have HA2 := Lib.hid (take_lt hx hA.out hq)
        have v0 : decide (l[j] < x) = true := decide_eq_true hq
        generalize l[j] = p at *
        clear hx hq
        go_wp2_with (first | ((with_reducible refine wpL_push w.heap.size wr (.int .i64 p) (.slice a' j c') j (ints (l.take j)) info_i Tryz.underlying22 rfl ?_ ?_ ?_ rfl hO.out HBZ.out HJ8.out ?_ hB.out ?_); rfl; rfl; rfl; (have := HJ8.out; omega); (intro a3 c3 w3 hown3 hb3 hz3)))
        have HO3 := Lib.hid hown3
        have HB3 := Lib.hid hb3
        clear hown3 hb3 hz3 hc
        go_wp2_with fail
        go_roundw
        case rel => exact ⟨j + 1, a3, c3, by omega, by go_num, rfl, HA2.out, by rw [HT.out, ← ints_app]; exact HO3.out, HB3.out⟩
        case measure => simp [intOf]; omega
      · have v0 : decide (l[j] < x) = false := decide_eq_false hq
        by_cases he : l[j] = x
        · have v1 : (l[j] == x) = true := by simp [he]
          have HI := Lib.hid (ins_hit hA.out hx he)
          generalize l[j] = p at *
          clear hx hq he
          have hcj1 : ¬ c < j + 1 := by omega
          have hnj1 : ¬ n < j + 1 := by omega
          have HDL : Hid (l.drop (j + 1) = l.drop (j + 1)) := rfl
          by_cases hck : c = j + 1
          · have HE := Lib.hid (fun (U : World) => sl_empty U ⟨b, o, none⟩ 0 (n := n - (j + 1)) (by omega) (by omega))
            have HDE : Hid (l.drop (j + 1) = []) := List.drop_of_length_le (by have := HL.out; omega)
            go_wp2_with (first | ((with_reducible refine wpL_push w.heap.size wr (.int .i64 x) (.slice a' j c') j (ints (l.take j)) info_i Tryz.underlying22 rfl ?_ ?_ ?_ rfl hO.out HBZ.out HJ8.out ?_ hB.out ?_); rfl; rfl; rfl; (have := HJ8.out; omega); (intro a3 c3 w3 hown3 hb3 hz3; have HO3 := Lib.hid hown3; have HB3 := Lib.hid hb3; have HD3 := Lib.hid (HE.out w3); have hc3 := HC3.out w3 hb3; clear hown3 hb3 hz3 hc)) | ((with_reducible refine wpL_app w.heap.size (.slice a3 (j + 1) c3) (j + 1) (ints (l.take j) ++ [.int .i64 x]) (some ⟨b, o, none⟩) (n - (j + 1)) 0 (ints []) info_i Tryz.underlying22 rfl ?_ ?_ (ints_one _) HO3.out HD3.out HB3.out.size ?_ ?_ HB3.out ?_); rfl; rfl; (have := HN.out; omega); (have := HN.out; omega); (intro a4 c4 w4 hown4 hb4 hz4)))
            have HO4 := Lib.hid hown4
            have HB4 := Lib.hid hb4
            clear hown4 hb4 hz4 hc3
            go_ret
            have hlen : (ins x l).length = j + 1 + (n - (j + 1)) := by
              rw [HI.out]
              have h1 := HL.out
              simp only [List.length_append, List.length_take, List.length_drop, List.length_cons, List.length_nil]
              omega
            have hint : ints (ins x l) = ints (l.take j) ++ [.int .i64 x] ++ (ints []) := by rw [HI.out]; simp [ints, HDE.out]
            exact ⟨a4, c4, by rw [hlen]; rfl, by rw [hlen, hint]; exact HO4.out, HB4.out⟩
          · have HDR := Lib.hid (fun (U : World) (hU : Below w.heap.size w U) => sl_drop (HSL.out.next hU) (k := j + 1) (by omega))
            go_wp2_with (first | ((with_reducible refine wpL_push w.heap.size wr (.int .i64 x) (.slice a' j c') j (ints (l.take j)) info_i Tryz.underlying22 rfl ?_ ?_ ?_ rfl hO.out HBZ.out HJ8.out ?_ hB.out ?_); rfl; rfl; rfl; (have := HJ8.out; omega); (intro a3 c3 w3 hown3 hb3 hz3; have HO3 := Lib.hid hown3; have HB3 := Lib.hid hb3; have HD3 := Lib.hid (HDR.out w3 hb3); have hc3 := HC3.out w3 hb3; clear hown3 hb3 hz3 hc)) | ((with_reducible refine wpL_app w.heap.size (.slice a3 (j + 1) c3) (j + 1) (ints (l.take j) ++ [.int .i64 x]) (some ⟨b, o + (j + 1), none⟩) (n - (j + 1)) (c - (j + 1)) (ints (l.drop (j + 1))) info_i Tryz.underlying22 rfl ?_ ?_ (ints_one _) HO3.out HD3.out HB3.out.size ?_ ?_ HB3.out ?_); rfl; rfl; (have := HN.out; omega); (have := HN.out; omega); (intro a4 c4 w4 hown4 hb4 hz4)))
            have HO4 := Lib.hid hown4
            have HB4 := Lib.hid hb4
            clear hown4 hb4 hz4 hc3
            go_ret
            have hlen : (ins x l).length = j + 1 + (n - (j + 1)) := by
              rw [HI.out]
              have h1 := HL.out
              simp only [List.length_append, List.length_take, List.length_drop, List.length_cons, List.length_nil]
              omega
            have hint : ints (ins x l) = ints (l.take j) ++ [.int .i64 x] ++ (ints (l.drop (j + 1))) := by rw [HI.out]; simp [ints, HDL.out]
            exact ⟨a4, c4, by rw [hlen]; rfl, by rw [hlen, hint]; exact HO4.out, HB4.out⟩
        · have v1 : (l[j] == x) = false := by simp [he]
          have HI := Lib.hid (ins_gap hA.out hx (by omega))
          generalize l[j] = p at *
          clear hx hq he
          have hnj1 : ¬ n < j := by omega
          have HDL : Hid (l.drop (j) = l.drop (j)) := rfl
          by_cases hck : c = j
          · exact absurd hck (by omega)
          · have HDR := Lib.hid (fun (U : World) (hU : Below w.heap.size w U) => sl_drop (HSL.out.next hU) (k := j) (by omega))
            go_wp2_with (first | ((with_reducible refine wpL_push w.heap.size wr (.int .i64 x) (.slice a' j c') j (ints (l.take j)) info_i Tryz.underlying22 rfl ?_ ?_ ?_ rfl hO.out HBZ.out HJ8.out ?_ hB.out ?_); rfl; rfl; rfl; (have := HJ8.out; omega); (intro a3 c3 w3 hown3 hb3 hz3; have HO3 := Lib.hid hown3; have HB3 := Lib.hid hb3; have HD3 := Lib.hid (HDR.out w3 hb3); have hc3 := HC3.out w3 hb3; clear hown3 hb3 hz3 hc)) | ((with_reducible refine wpL_app w.heap.size (.slice a3 (j + 1) c3) (j + 1) (ints (l.take j) ++ [.int .i64 x]) (some ⟨b, o + (j), none⟩) (n - (j)) (c - (j)) (ints (l.drop (j))) info_i Tryz.underlying22 rfl ?_ ?_ (ints_one _) HO3.out HD3.out HB3.out.size ?_ ?_ HB3.out ?_); rfl; rfl; (have := HN.out; omega); (have := HN.out; omega); (intro a4 c4 w4 hown4 hb4 hz4)))
            have HO4 := Lib.hid hown4
            have HB4 := Lib.hid hb4
            clear hown4 hb4 hz4 hc3
            go_ret
            have hlen : (ins x l).length = j + 1 + (n - (j)) := by
              rw [HI.out]
              have h1 := HL.out
              simp only [List.length_append, List.length_take, List.length_drop, List.length_cons, List.length_nil]
              omega
            have hint : ints (ins x l) = ints (l.take j) ++ [.int .i64 x] ++ (ints (l.drop (j))) := by rw [HI.out]; simp [ints, HDL.out]
            exact ⟨a4, c4, by rw [hlen]; rfl, by rw [hlen, hint]; exact HO4.out, HB4.out⟩
    · have hke : j = n := by omega
      have HI : Hid (ins x l = l.take j ++ [x] ++ l.drop j) := by
        show _ = _
        rw [ins_end (by
          have h := hA.out
          rwa [List.take_of_length_le (by have := HL.out; omega)] at h), List.take_of_length_le (by have := HL.out; omega), List.drop_of_length_le (by have := HL.out; omega), List.append_nil]
      have hnj1 : ¬ n < j := by omega
      clear hke
      by_cases ha : a = none
      · have hbare := HSL.out.bare ha
        subst ha
        obtain ⟨rfl, rfl⟩ := hbare
        obtain rfl : j = 0 := by omega
        have HDL : Hid (l.drop 0 = []) := by show _ = _; rw [List.drop_zero]; exact List.eq_nil_of_length_eq_zero HL.out
        go_wp2_with (first | ((with_reducible refine wpL_push w.heap.size wr (.int .i64 x) (.slice a' 0 c') 0 (ints (l.take 0)) info_i Tryz.underlying22 rfl ?_ ?_ ?_ rfl hO.out HBZ.out HJ8.out ?_ hB.out ?_); rfl; rfl; rfl; (have := HJ8.out; omega); (intro a3 c3 w3 hown3 hb3 hz3; have HO3 : Hid (w3.ownsRow w.heap.size 3 1 (.slice a3 1 c3) 1 (ints (l.take 0) ++ [.int .i64 x])) := hown3; have HB3 := Lib.hid hb3; have HD3 : Hid (Sl w3 none 0 0 (ints [])) := Sl.nil w3; clear hown3 hb3 hz3)) | ((with_reducible refine wpL_app w.heap.size (.slice a3 1 c3) 1 (ints (l.take 0) ++ [.int .i64 x]) none 0 0 (ints []) info_i Tryz.underlying22 rfl ?_ ?_ (ints_one _) HO3.out HD3.out HB3.out.size ?_ ?_ HB3.out ?_); rfl; rfl; omega; omega; (intro a4 c4 w4 hown4 hb4 hz4)))
        have HO4 := Lib.hid hown4
        have HB4 := Lib.hid hb4
        clear hown4 hb4 hz4
        go_ret
        have hlen : (ins x l).length = 1 + 0 := by
          rw [HI.out]
          have h1 := HL.out
          simp only [List.length_append, List.length_take, List.length_drop, List.length_cons, List.length_nil]
          omega
        have hint : ints (ins x l) = ints (l.take 0) ++ [.int .i64 x] ++ (ints []) := by rw [HI.out]; simp [ints, HDL.out]
        exact ⟨a4, c4, by rw [hlen]; rfl, by rw [hlen, hint]; exact HO4.out, HB4.out⟩
      · by_cases hn0 : n = 0
        · subst hn0
          obtain rfl : j = 0 := by omega
          obtain ⟨ad, rfl⟩ := Option.ne_none_iff_exists'.1 ha
          have HDL : Hid (l.drop 0 = []) := by show _ = _; rw [List.drop_zero]; exact List.eq_nil_of_length_eq_zero HL.out
          have HE := Lib.hid (fun (U : World) (z : Addr) (d : Nat) (hd : d ≤ 9223372036854775807) => sl_empty U z d (n := 0) rfl hd)
          by_cases hc0 : c = 0
          · go_wp2_with (first | ((with_reducible refine wpL_push w.heap.size wr (.int .i64 x) (.slice a' 0 c') 0 (ints (l.take 0)) info_i Tryz.underlying22 rfl ?_ ?_ ?_ rfl hO.out HBZ.out HJ8.out ?_ hB.out ?_); rfl; rfl; rfl; (have := HJ8.out; omega); (intro a3 c3 w3 hown3 hb3 hz3; have HO3 : Hid (w3.ownsRow w.heap.size 3 1 (.slice a3 1 c3) 1 (ints (l.take 0) ++ [.int .i64 x])) := hown3; have HB3 := Lib.hid hb3; have HD3 := Lib.hid (HE.out w3 ad 0 (by omega)); clear hown3 hb3 hz3)) | ((with_reducible refine wpL_app w.heap.size (.slice a3 1 c3) 1 (ints (l.take 0) ++ [.int .i64 x]) (some ad) 0 0 (ints []) info_i Tryz.underlying22 rfl ?_ ?_ (ints_one _) HO3.out HD3.out HB3.out.size ?_ ?_ HB3.out ?_); rfl; rfl; omega; omega; (intro a4 c4 w4 hown4 hb4 hz4)))
            have HO4 := Lib.hid hown4
            have HB4 := Lib.hid hb4
            clear hown4 hb4 hz4
            go_ret
            have hlen : (ins x l).length = 1 + 0 := by
              rw [HI.out]
              have h1 := HL.out
              simp only [List.length_append, List.length_take, List.length_drop, List.length_cons, List.length_nil]
              omega
            have hint : ints (ins x l) = ints (l.take 0) ++ [.int .i64 x] ++ (ints []) := by rw [HI.out]; simp [ints, HDL.out]
            exact ⟨a4, c4, by rw [hlen]; rfl, by rw [hlen, hint]; exact HO4.out, HB4.out⟩
          · have hc0' : ¬ 0 = c := fun h => hc0 h.symm
            go_wp2_with (first | ((with_reducible refine wpL_push w.heap.size wr (.int .i64 x) (.slice a' 0 c') 0 (ints (l.take 0)) info_i Tryz.underlying22 rfl ?_ ?_ ?_ rfl hO.out HBZ.out HJ8.out ?_ hB.out ?_); rfl; rfl; rfl; (have := HJ8.out; omega); (intro a3 c3 w3 hown3 hb3 hz3; have HO3 : Hid (w3.ownsRow w.heap.size 3 1 (.slice a3 1 c3) 1 (ints (l.take 0) ++ [.int .i64 x])) := hown3; have HB3 := Lib.hid hb3; have HD3 := Lib.hid (HE.out w3 (ad.add 0) c hbig); clear hown3 hb3 hz3)) | ((with_reducible refine wpL_app w.heap.size (.slice a3 1 c3) 1 (ints (l.take 0) ++ [.int .i64 x]) (some (ad.add 0)) 0 c (ints []) info_i Tryz.underlying22 rfl ?_ ?_ (ints_one _) HO3.out HD3.out HB3.out.size ?_ ?_ HB3.out ?_); rfl; rfl; omega; omega; (intro a4 c4 w4 hown4 hb4 hz4)))
            have HO4 := Lib.hid hown4
            have HB4 := Lib.hid hb4
            clear hown4 hb4 hz4
            go_ret
            have hlen : (ins x l).length = 1 + 0 := by
              rw [HI.out]
              have h1 := HL.out
              simp only [List.length_append, List.length_take, List.length_drop, List.length_cons, List.length_nil]
              omega
            have hint : ints (ins x l) = ints (l.take 0) ++ [.int .i64 x] ++ (ints []) := by rw [HI.out]; simp [ints, HDL.out]
            exact ⟨a4, c4, by rw [hlen]; rfl, by rw [hlen, hint]; exact HO4.out, HB4.out⟩
        · obtain ⟨b, o, _, hab, _⟩ := HSL.out.int (k := 0) (by omega)
          subst hab
          have HDL : Hid (l.drop (j) = l.drop (j)) := rfl
          by_cases hck : c = j
          · have HE := Lib.hid (fun (U : World) => sl_empty U ⟨b, o, none⟩ 0 (n := n - (j)) (by omega) (by omega))
            have HDE : Hid (l.drop (j) = []) := List.drop_of_length_le (by have := HL.out; omega)
            go_wp2_with (first | ((with_reducible refine wpL_push w.heap.size wr (.int .i64 x) (.slice a' j c') j (ints (l.take j)) info_i Tryz.underlying22 rfl ?_ ?_ ?_ rfl hO.out HBZ.out HJ8.out ?_ hB.out ?_); rfl; rfl; rfl; (have := HJ8.out; omega); (intro a3 c3 w3 hown3 hb3 hz3; have HO3 := Lib.hid hown3; have HB3 := Lib.hid hb3; have HD3 := Lib.hid (HE.out w3); clear hown3 hb3 hz3)) | ((with_reducible refine wpL_app w.heap.size (.slice a3 (j + 1) c3) (j + 1) (ints (l.take j) ++ [.int .i64 x]) (some ⟨b, o, none⟩) (n - (j)) 0 (ints []) info_i Tryz.underlying22 rfl ?_ ?_ (ints_one _) HO3.out HD3.out HB3.out.size ?_ ?_ HB3.out ?_); rfl; rfl; (have := HN.out; omega); (have := HN.out; omega); (intro a4 c4 w4 hown4 hb4 hz4)))
            have HO4 := Lib.hid hown4
            have HB4 := Lib.hid hb4
            clear hown4 hb4 hz4
            go_ret
            have hlen : (ins x l).length = j + 1 + (n - (j)) := by
              rw [HI.out]
              have h1 := HL.out
              simp only [List.length_append, List.length_take, List.length_drop, List.length_cons, List.length_nil]
              omega
            have hint : ints (ins x l) = ints (l.take j) ++ [.int .i64 x] ++ (ints []) := by rw [HI.out]; simp [ints, HDE.out]
            exact ⟨a4, c4, by rw [hlen]; rfl, by rw [hlen, hint]; exact HO4.out, HB4.out⟩
          · have HDR := Lib.hid (fun (U : World) (hU : Below w.heap.size w U) => sl_drop (HSL.out.next hU) (k := j) (by omega))
            go_wp2_with (first | ((with_reducible refine wpL_push w.heap.size wr (.int .i64 x) (.slice a' j c') j (ints (l.take j)) info_i Tryz.underlying22 rfl ?_ ?_ ?_ rfl hO.out HBZ.out HJ8.out ?_ hB.out ?_); rfl; rfl; rfl; (have := HJ8.out; omega); (intro a3 c3 w3 hown3 hb3 hz3; have HO3 := Lib.hid hown3; have HB3 := Lib.hid hb3; have HD3 := Lib.hid (HDR.out w3 hb3); clear hown3 hb3 hz3)) | ((with_reducible refine wpL_app w.heap.size (.slice a3 (j + 1) c3) (j + 1) (ints (l.take j) ++ [.int .i64 x]) (some ⟨b, o + (j), none⟩) (n - (j)) (c - (j)) (ints (l.drop (j))) info_i Tryz.underlying22 rfl ?_ ?_ (ints_one _) HO3.out HD3.out HB3.out.size ?_ ?_ HB3.out ?_); rfl; rfl; (have := HN.out; omega); (have := HN.out; omega); (intro a4 c4 w4 hown4 hb4 hz4)))
            have HO4 := Lib.hid hown4
            have HB4 := Lib.hid hb4
            clear hown4 hb4 hz4
            go_ret
            have hlen : (ins x l).length = j + 1 + (n - (j)) := by
              rw [HI.out]
              have h1 := HL.out
              simp only [List.length_append, List.length_take, List.length_drop, List.length_cons, List.length_nil]
              omega
            have hint : ints (ins x l) = ints (l.take j) ++ [.int .i64 x] ++ (ints (l.drop (j))) := by rw [HI.out]; simp [ints, HDL.out]
            exact ⟨a4, c4, by rw [hlen]; rfl, by rw [hlen, hint]; exact HO4.out, HB4.out⟩

end RefS
end Go.Proofs.YtninglnchengeaaGreat

/-
  Plain: what a Bad hangs on: what counts; the circuit of that alone may be, and stays when it is reduced again.
-/
namespace Go.Proofs.YtninglnchengeaaGreat
open Go.RowKit Base
set_option linter.unusedVariables false
set_option linter.unusedSimpArgs false
namespace Coi
open Circuit

/-- What counts, of a circuit and literals. -/
inductive NR (x : Circ) (l : List Int) : Int → Prop
  | lit {t : Int} : t ∈ l → NR x l (var t)
  | left {v : Int} {g : Tri} : NR x l v → v ≠ 0 → gate x.ands v = some g → NR x l (var g.2.1)
  | right {v : Int} {g : Tri} : NR x l v → v ≠ 0 → gate x.ands v = some g → NR x l (var g.2.2)
  | next {t : Tri} : NR x l (var t.1) → var t.1 ≠ 0 → t ∈ x.lats → NR x l (var t.2.1)

theorem nr_of_rch {x : Circ} {l L : List Int} (hL : ∀ t ∈ L, NR x l (var t)) {v : Int} (h : Rch x.ands L v) : NR x l v := by
  induction h with
  | lit ht => exact hL _ ht
  | left _ h0 hg ih => exact .left ih h0 hg
  | right _ h0 hg ih => exact .right ih h0 hg

structure CInv (x : Circ) (l X : List Int) : Prop where
  nodup : X.Nodup
  sound : ∀ v ∈ X, v ≠ 0 ∧ NR x l v
  lits : ∀ t ∈ l, var t = 0 ∨ var t ∈ X
  gates : ∀ v ∈ X, ∀ g, gate x.ands v = some g → (var g.2.1 = 0 ∨ var g.2.1 ∈ X) ∧ (var g.2.2 = 0 ∨ var g.2.2 ∈ X)

/-- X2 is X and what L hangs on. -/
def Adds (x : Circ) (L X X2 : List Int) : Prop := X2.Nodup ∧ ∀ v, v ∈ X2 ↔ v ∈ X ∨ (v ≠ 0 ∧ Rch x.ands L v)

theorem adds_gates {x : Circ} {L X X2 : List Int} (h : Adds x L X X2) (hg : ∀ v ∈ X, ∀ g, gate x.ands v = some g → (var g.2.1 = 0 ∨ var g.2.1 ∈ X) ∧ (var g.2.2 = 0 ∨ var g.2.2 ∈ X)) :
    ∀ v ∈ X2, ∀ g, gate x.ands v = some g → (var g.2.1 = 0 ∨ var g.2.1 ∈ X2) ∧ (var g.2.2 = 0 ∨ var g.2.2 ∈ X2) := by
  intro v hv g hgv
  rcases (h.2 v).1 hv with h1 | ⟨h0, h1⟩
  · obtain ⟨a, b⟩ := hg v h1 g hgv
    exact ⟨a.imp id fun h2 => (h.2 _).2 (Or.inl h2), b.imp id fun h2 => (h.2 _).2 (Or.inl h2)⟩
  · constructor
    · by_cases e : var g.2.1 = 0
      · exact Or.inl e
      · exact Or.inr ((h.2 _).2 (Or.inr ⟨e, .left h1 h0 hgv⟩))
    · by_cases e : var g.2.2 = 0
      · exact Or.inl e
      · exact Or.inr ((h.2 _).2 (Or.inr ⟨e, .right h1 h0 hgv⟩))

theorem cinv_start {x : Circ} {l X2 : List Int} (h : Adds x l [] X2) : CInv x l X2 :=
  ⟨h.1, fun v hv => by
    rcases (h.2 v).1 hv with h1 | ⟨h0, h1⟩
    · simp at h1
    · exact ⟨h0, nr_of_rch (fun t ht => .lit ht) h1⟩, fun t ht => by
    by_cases e : var t = 0
    · exact Or.inl e
    · exact Or.inr ((h.2 _).2 (Or.inr ⟨e, .lit ht⟩)), adds_gates h (fun v hv => by simp at hv)⟩
theorem cinv_next {x : Circ} {l X X2 : List Int} (hi : CInv x l X) {t : Tri} (ht : t ∈ x.lats) (hm : var t.1 ∈ X) (h : Adds x [t.2.1] X X2) : CInv x l X2 :=
  ⟨h.1, fun v hv => by
    rcases (h.2 v).1 hv with h1 | ⟨h0, h1⟩
    · exact hi.sound v h1
    · refine ⟨h0, nr_of_rch (fun u hu => ?_) h1⟩
      rw [List.mem_singleton.1 hu]
      exact .next (hi.sound _ hm).2 (hi.sound _ hm).1 ht, fun u hu => (hi.lits u hu).imp id fun h2 => (h.2 _).2 (Or.inl h2), adds_gates h hi.gates⟩
/-- Nothing is new of a latch that is met. -/
def Shut (x : Circ) (X : List Int) (t : Tri) : Prop := var t.1 ∈ X → ∀ v, v ≠ 0 → Rch x.ands [t.2.1] v → v ∈ X
theorem cinv_end {x : Circ} {l X : List Int} (h : CInv x l X) (hs : ∀ t ∈ x.lats, Shut x X t) (v : Int) : v ∈ X ↔ v ≠ 0 ∧ NR x l v := by
  refine ⟨h.sound v, fun hh => ?_⟩
  obtain ⟨h0, hn⟩ := hh
  induction hn with
  | lit ht => exact (h.lits _ ht).resolve_left h0
  | left _ hv hg ih => exact ((h.gates _ (ih hv) _ hg).1).resolve_left h0
  | right _ hv hg ih => exact ((h.gates _ (ih hv) _ hg).2).resolve_left h0
  | next _ hv ht ih => exact hs _ ht (ih hv) _ h0 (.lit (List.mem_singleton.2 rfl))
def uni (x : Circ) (l : List Int) : List Int := l.map var ++ x.ands.map (fun t => var t.2.1) ++ x.ands.map (fun t => var t.2.2) ++ x.lats.map (fun t => var t.2.1)
theorem nr_uni {x : Circ} {l : List Int} {v : Int} (h : NR x l v) : v ∈ uni x l := by
  unfold uni
  simp only [List.mem_append, List.mem_map]
  cases h with
  | lit ht => exact Or.inl (Or.inl (Or.inl ⟨_, ht, rfl⟩))
  | left _ _ hg => exact Or.inl (Or.inl (Or.inr ⟨_, gate_mem hg, rfl⟩))
  | right _ _ hg => exact Or.inl (Or.inr ⟨_, gate_mem hg, rfl⟩)
  | next _ _ ht => exact Or.inr ⟨_, ht, rfl⟩
theorem cinv_few {x : Circ} {l X : List Int} (h : CInv x l X) : X.length ≤ l.length + 2 * x.ands.length + x.lats.length := by
  have := nodup_len h.nodup (C := uni x l) (fun v hv => nr_uni (h.sound v hv).2)
  unfold uni at this
  simp only [List.length_append, List.length_map] at this
  omega

/-! ### The circuit of that alone. -/
noncomputable def cnt (x : Circ) (l : List Int) (m : Int) : Bool := tt (var m ≠ 0 ∧ NR x l (var m))
noncomputable def reduced (x : Circ) (l : List Int) (b : Int) : Circ :=
  { max := x.max, ins := x.ins.filter (cnt x l), lats := x.lats.filter (fun t => cnt x l t.1), outs := [], bads := [b], invs := x.invs, ands := x.ands.filter (fun t => cnt x l t.1), names := [] }

theorem tt_iff {p : Prop} : tt p = true ↔ p := by
  constructor
  · intro h
    exact Classical.byContradiction fun hn => by rw [tt_neg hn] at h; cases h
  · exact tt_pos
theorem cnt_iff {x : Circ} {l : List Int} {m : Int} : cnt x l m = true ↔ var m ≠ 0 ∧ NR x l (var m) := tt_iff
theorem cnt_congr {x : Circ} {l : List Int} {m k : Int} (h : var m = var k) : cnt x l m = cnt x l k := by unfold cnt; rw [h]

theorem gate_red {x : Circ} {l : List Int} {b v : Int} (h0 : v ≠ 0) (hn : NR x l v) : gate (reduced x l b).ands v = gate x.ands v := by
  show gate (x.ands.filter _) v = _
  unfold gate
  rw [List.find?_filter]
  congr 1
  funext t
  by_cases e : var t.1 = v
  · have : cnt x l t.1 = true := cnt_iff.2 (by rw [e]; exact ⟨h0, hn⟩)
    simp [this]
  · simp [e]
theorem nr_red {x : Circ} {l : List Int} {b : Int} {v : Int} : NR (reduced x l b) l v ↔ NR x l v := by
  constructor
  · intro h
    induction h with
    | lit ht => exact .lit ht
    | left _ h0 hg ih => exact .left ih h0 (by rw [← gate_red h0 ih]; exact hg)
    | right _ h0 hg ih => exact .right ih h0 (by rw [← gate_red h0 ih]; exact hg)
    | next _ h0 ht ih => exact .next ih h0 (List.mem_filter.1 ht).1
  · intro h
    induction h with
    | lit ht => exact .lit ht
    | left hv h0 hg ih => exact .left ih h0 (by rw [gate_red h0 hv]; exact hg)
    | right hv h0 hg ih => exact .right ih h0 (by rw [gate_red h0 hv]; exact hg)
    | next hv h0 ht ih => exact .next ih h0 (List.mem_filter.2 ⟨ht, cnt_iff.2 ⟨h0, hv⟩⟩)
theorem cnt_red (x : Circ) (l : List Int) (b m : Int) : cnt (reduced x l b) l m = cnt x l m := by
  rw [Bool.eq_iff_iff, cnt_iff, cnt_iff, nr_red]
theorem red_again (x : Circ) (l : List Int) (b : Int) : reduced (reduced x l b) l b = reduced x l b := by
  have e1 : cnt (reduced x l b) l = cnt x l := funext (cnt_red x l b)
  have h1 : (reduced (reduced x l b) l b).ins = (reduced x l b).ins := by
    show (x.ins.filter (cnt x l)).filter (cnt (reduced x l b) l) = _
    rw [e1, List.filter_filter]
    simp only [Bool.and_self]
    rfl
  have h2 : (reduced (reduced x l b) l b).lats = (reduced x l b).lats := by
    show (x.lats.filter _).filter (fun t => cnt (reduced x l b) l t.1) = _
    rw [e1, List.filter_filter]
    simp only [Bool.and_self]
    rfl
  have h3 : (reduced (reduced x l b) l b).ands = (reduced x l b).ands := by
    show (x.ands.filter _).filter (fun t => cnt (reduced x l b) l t.1) = _
    rw [e1, List.filter_filter]
    simp only [Bool.and_self]
    rfl
  have : reduced (reduced x l b) l b = { reduced x l b with ins := (reduced (reduced x l b) l b).ins, lats := (reduced (reduced x l b) l b).lats, ands := (reduced (reduced x l b) l b).ands } := rfl
  rw [this, h1, h2, h3]

theorem own_red {x : Circ} {l : List Int} {b : Int} : (ownL (reduced x l b)) = (ownL x).filter (cnt x l) := by
  unfold ownL
  rw [List.filter_append, List.filter_append, List.filter_map, List.filter_map]
  rfl
theorem known_red {x : Circ} {l : List Int} {b m : Int} (hk : knownV (vsOf x) m) (hn : NR x l (var m)) : knownV (vsOf (reduced x l b)) m := by
  obtain ⟨h0, h1⟩ := hk
  refine ⟨h0, ?_⟩
  by_cases hv : var m = 0
  · left; unfold var at hv; omega
  · rcases h1 with h1 | h1
    · exact Or.inl h1
    · right
      unfold vsOf at h1 ⊢
      obtain ⟨u, hu, he⟩ := List.mem_map.1 h1
      refine List.mem_map.2 ⟨u, ?_, he⟩
      rw [own_red]
      exact List.mem_filter.2 ⟨hu, cnt_iff.2 (by rw [he]; exact ⟨hv, hn⟩)⟩
theorem red_ok {x : Circ} (h : CheckOk x) {l : List Int} {b : Int} (hb : b ∈ x.bads) (hbl : b ∈ l) (hi : ∀ m ∈ x.invs, m ∈ l) : CheckOk (reduced x l b) := by
  have hord := StrashP.ord_of h
  obtain ⟨⟨f0, f1, f2, f3, f4, f5, f6⟩, ⟨hd, hr, hs⟩, hl, ha, ho, hbk, hv, hn⟩ := h
  obtain ⟨d1, d2⟩ := StrashP.ownOk_iff.1 hd
  have hg : ∀ t ∈ x.ands, gate x.ands (var t.1) = some t := fun t ht => StrashP.gate_ord hord ht
  have fl : ∀ {α : Type} (p : α → Bool) (l : List α), (l.filter p).length ≤ l.length := fun p l => List.length_filter_le p l
  refine ⟨⟨f0, f1, Nat.le_trans (fl _ _) f2, Nat.le_trans (fl _ _) f3, by show ([] : List Int).length ≤ 64; simp, by show [b].length ≤ 64; simp, f6⟩, ⟨?_, ?_, ?_⟩, ?_, ?_, ?_, ?_, ?_, ?_⟩
  · rw [own_red]
    refine StrashP.ownOk_iff.2 ⟨fun m hm => d1 m (List.mem_filter.1 hm).1, ?_⟩
    exact List.Sublist.nodup (List.Sublist.map var (List.filter_sublist (l := ownL x))) d2
  · exact fun t ht => hr t (List.mem_filter.1 ht).1
  · intro j hj
    have hp : ((x.ands.filter fun t => cnt x l t.1)).Pairwise fun a b => a.1 < b.1 := List.Pairwise.sublist (List.filter_sublist (l := x.ands)) hord.rise
    exact (List.pairwise_iff_getElem.1 hp) j (j + 1) (Nat.lt_of_succ_lt hj) hj (Nat.lt_succ_self j)
  · intro t ht
    obtain ⟨h1, h2⟩ := List.mem_filter.1 ht
    exact known_red (hl t h1) (.next (cnt_iff.1 h2).2 (cnt_iff.1 h2).1 h1)
  · intro t ht
    obtain ⟨h1, h2⟩ := List.mem_filter.1 ht
    obtain ⟨g1, g2, g3, g4⟩ := ha t h1
    exact ⟨known_red g1 (.left (cnt_iff.1 h2).2 (cnt_iff.1 h2).1 (hg t h1)), known_red g2 (.right (cnt_iff.1 h2).2 (cnt_iff.1 h2).1 (hg t h1)), g3, g4⟩
  · intro m hm; cases hm
  · intro m hm
    rw [List.mem_singleton.1 hm]
    exact known_red (hbk b hb) (.lit hbl)
  · exact fun m hm => known_red (hv m hm) (.lit (hi m hm))
  · intro j hj
    exact absurd hj (by show ¬ j < ([] : List (ByteArray × Int × ByteArray)).length; simp)
end Coi
end Go.Proofs.YtninglnchengeaaGreat

/-
  Plain: the reference's way to what literals hang on: a list that rises, put into again and again.
-/
namespace Go.Proofs.YtninglnchengeaaGreat
open Go.RowKit Base
set_option linter.unusedVariables false
set_option linter.unusedSimpArgs false
namespace Coi
open Circuit RefS

/-- A variable put, but 0. -/
def pz (v : Int) (T : List Int) : List Int := if v = 0 then T else RefS.ins v T
theorem pz_rise {v : Int} {T : List Int} (h : T.Pairwise (· < ·)) : (pz v T).Pairwise (· < ·) := by
  unfold pz; split
  · exact h
  · exact ins_sorted h
theorem pz_mem {v u : Int} {T : List Int} : u ∈ pz v T ↔ u ∈ T ∨ (u = v ∧ v ≠ 0) := by
  unfold pz; split
  · rename_i h
    constructor
    · exact Or.inl
    · rintro (h1 | ⟨_, h2⟩)
      · exact h1
      · exact absurd h h2
  · rename_i h
    rw [mem_ins]
    constructor
    · rintro (h1 | h1)
      · exact Or.inr ⟨h1, h⟩
      · exact Or.inl h1
    · rintro (h1 | ⟨h1, _⟩)
      · exact Or.inr h1
      · exact Or.inl h1
theorem rise_nodup {T : List Int} (h : T.Pairwise (· < ·)) : T.Nodup := h.imp fun h => by omega
theorem rise_sub {T T2 : List Int} (h : T.Pairwise (· < ·)) (hs : ∀ v ∈ T, v ∈ T2) : T.length ≤ T2.length := nodup_len (rise_nodup h) hs
/-- A list that rises and holds another one and is no longer is that one. -/
theorem rise_same {T T2 : List Int} (h : T.Pairwise (· < ·)) (h2 : T2.Pairwise (· < ·)) (hs : ∀ v ∈ T, v ∈ T2) (hl : T2.length ≤ T.length) : T2 = T := by
  refine strict_ext h2 h fun v => ⟨fun hv => ?_, hs v⟩
  refine Classical.byContradiction fun hn => ?_
  have : (v :: T).length ≤ T2.length := nodup_len (by rw [List.nodup_cons]; exact ⟨hn, rise_nodup h⟩) (fun u hu => by
    rcases List.mem_cons.1 hu with rfl | hu
    · exact hv
    · exact hs u hu)
  simp only [List.length_cons] at this
  omega

structure RInv (x : Circ) (L T : List Int) : Prop where
  rise : T.Pairwise (· < ·)
  sound : ∀ v ∈ T, v ≠ 0 ∧ Rch x.ands L v
/-- What a gate wants is there. -/
def ClosedT (T : List Int) (t : Tri) : Prop := var t.1 ∈ T → (var t.2.1 = 0 ∨ var t.2.1 ∈ T) ∧ (var t.2.2 = 0 ∨ var t.2.2 ∈ T)
theorem rinv_few {x : Circ} {L T : List Int} (h : RInv x L T) : T.length ≤ L.length + 2 * x.ands.length := by
  have := nodup_len (rise_nodup h.rise) (C := cands x.ands L) (fun v hv => rch_cand (h.sound v hv).2)
  unfold cands at this
  simp only [List.length_append, List.length_map] at this
  omega
theorem rinv_lit {x : Circ} {L T : List Int} (h : RInv x L T) {t : Int} (ht : t ∈ L) : RInv x L (pz (var t) T) :=
  ⟨pz_rise h.rise, fun v hv => by
    rcases pz_mem.1 hv with h1 | ⟨rfl, h0⟩
    · exact h.sound v h1
    · exact ⟨h0, .lit ht⟩⟩
theorem rinv_gate {x : Circ} (hx : CheckOk x) {L T : List Int} (h : RInv x L T) {t : Tri} (ht : t ∈ x.ands) (hv : var t.1 ∈ T) : RInv x L (pz (var t.2.2) (pz (var t.2.1) T)) := by
  have hg := StrashP.gate_ord (StrashP.ord_of hx) ht
  obtain ⟨h0, hr⟩ := h.sound _ hv
  refine ⟨pz_rise (pz_rise h.rise), fun v hv => ?_⟩
  rcases pz_mem.1 hv with h1 | ⟨rfl, h1⟩
  · rcases pz_mem.1 h1 with h2 | ⟨rfl, h2⟩
    · exact h.sound v h2
    · exact ⟨h2, .left hr h0 hg⟩
  · exact ⟨h1, .right hr h0 hg⟩
theorem gate_same {T : List Int} {t : Tri} (h : T.Pairwise (· < ·)) (hl : (pz (var t.2.2) (pz (var t.2.1) T)).length ≤ T.length) : pz (var t.2.2) (pz (var t.2.1) T) = T ∧ ClosedT T t := by
  have e := rise_same h (pz_rise (pz_rise h)) (fun v hv => pz_mem.2 (Or.inl (pz_mem.2 (Or.inl hv)))) hl
  refine ⟨e, fun _ => ⟨?_, ?_⟩⟩
  · by_cases h0 : var t.2.1 = 0
    · exact Or.inl h0
    · right
      rw [← e]
      exact pz_mem.2 (Or.inl (pz_mem.2 (Or.inr ⟨rfl, h0⟩)))
  · by_cases h0 : var t.2.2 = 0
    · exact Or.inl h0
    · right
      rw [← e]
      exact pz_mem.2 (Or.inr ⟨rfl, h0⟩)
theorem pz_len {v : Int} {T : List Int} (h : T.Pairwise (· < ·)) : T.length ≤ (pz v T).length := rise_sub h fun u hu => pz_mem.2 (Or.inl hu)
theorem rinv_end {x : Circ} {L T : List Int} (h : RInv x L T) (hl : ∀ t ∈ L, var t = 0 ∨ var t ∈ T) (hc : ∀ t ∈ x.ands, ClosedT T t) (v : Int) : v ∈ T ↔ v ≠ 0 ∧ Rch x.ands L v := by
  refine ⟨h.sound v, fun hh => ?_⟩
  obtain ⟨h0, hr⟩ := hh
  have hgv : ∀ {v : Int} {g : Tri}, gate x.ands v = some g → var g.1 = v := fun {v g} hg => by
    have := List.find?_some hg
    simp only [Bool.and_eq_true, decide_eq_true_eq] at this
    exact this.2
  induction hr with
  | lit ht => exact (hl _ ht).resolve_left h0
  | left _ hv hg ih => exact ((hc _ (gate_mem hg)) (by rw [hgv hg]; exact ih hv)).1.resolve_left h0
  | right _ hv hg ih => exact ((hc _ (gate_mem hg)) (by rw [hgv hg]; exact ih hv)).2.resolve_left h0
end Coi
end Go.Proofs.YtninglnchengeaaGreat

/-
  Slices of structs of k cells in memory of one's own; what may be written; what lies from a block on stays. No program's function.
-/
namespace Go.Proofs.YtninglnchengeaaGreat
open Go.RowKit
set_option linter.unusedVariables false
set_option linter.unusedSimpArgs false
namespace Base

theorem flat_len {k : Nat} {vs : List (List Value)} (h : ∀ r ∈ vs, r.length = k) : vs.flatten.length = vs.length * k := by
  induction vs with
  | nil => simp
  | cons x r ih =>
    rw [List.flatten_cons, List.length_append, List.length_cons, ih (fun y hy => h y (List.mem_cons_of_mem _ hy)), h x List.mem_cons_self, Nat.succ_mul, Nat.add_comm]

theorem flat_at {k : Nat} {vs : List (List Value)} (h : ∀ r ∈ vs, r.length = k) (i j : Nat) (hj : j < k) : vs.flatten[i * k + j]? = (vs[i]?).bind (·[j]?) := by
  induction vs generalizing i with
  | nil => simp
  | cons x r ih =>
    have hx := h x List.mem_cons_self
    rw [List.flatten_cons]
    cases i with
    | zero =>
      rw [Nat.zero_mul, Nat.zero_add, List.getElem?_append_left (by omega)]
      rfl
    | succ i =>
      rw [List.getElem?_append_right (by rw [hx, Nat.succ_mul]; omega)]
      have e : (i + 1) * k + j - x.length = i * k + j := by rw [hx, Nat.succ_mul]; omega
      rw [e, ih (fun y hy => h y (List.mem_cons_of_mem _ hy)), List.getElem?_cons_succ]

theorem tris_row (l : List Tri) : ∀ r ∈ tris l, r.length = 3 := by
  intro r hr
  unfold tris at hr
  obtain ⟨t, _, rfl⟩ := List.mem_map.1 hr
  rfl
theorem names_row (l : List (ByteArray × Int × ByteArray)) : ∀ r ∈ namesV l, r.length = 3 := by
  intro r hr
  unfold namesV at hr
  obtain ⟨t, _, rfl⟩ := List.mem_map.1 hr
  rfl
theorem tris_len (l : List Tri) : (tris l).length = l.length := by simp [tris]
theorem names_len (l : List (ByteArray × Int × ByteArray)) : (namesV l).length = l.length := by simp [namesV]
theorem tris_one (l : List Tri) : ∀ u ∈ (tris l).flatten, u.oneCell' = true := by
  intro u hu
  obtain ⟨r, hr, hu⟩ := List.mem_flatten.1 hu
  unfold tris at hr
  obtain ⟨t, _, rfl⟩ := List.mem_map.1 hr
  simp only [List.mem_cons, List.not_mem_nil, or_false] at hu
  rcases hu with rfl | rfl | rfl <;> rfl
theorem names_one (l : List (ByteArray × Int × ByteArray)) : ∀ u ∈ (namesV l).flatten, u.oneCell' = true := by
  intro u hu
  obtain ⟨r, hr, hu⟩ := List.mem_flatten.1 hu
  unfold namesV at hr
  obtain ⟨t, _, rfl⟩ := List.mem_map.1 hr
  simp only [List.mem_cons, List.not_mem_nil, or_false] at hu
  rcases hu with rfl | rfl | rfl <;> rfl

/-- The cells of a slice that can be read, one behind another. -/
theorem SlT.flat {w : World} {k : Nat} (hk : 0 < k) {ad : Addr} {n c : Nat} {vs : List (List Value)} (h : SlT w k (some ad) n c vs) : ∀ j u, vs.flatten[j]? = some u → w.cell? (ad.add j) = some u := by
  intro j u hu
  have hr : ∀ r ∈ vs, r.length = k := fun r hr => by
    obtain ⟨i, hi⟩ := List.getElem?_of_mem hr
    exact (h.cell i r hi).1
  have hj : j = (j / k) * k + j % k := by rw [Nat.mul_comm]; exact (Nat.div_add_mod j k).symm
  rw [hj, flat_at hr _ _ (Nat.mod_lt _ hk)] at hu
  obtain ⟨r, h1, h2⟩ := Option.bind_eq_some_iff.1 hu
  obtain ⟨_, b, o, ha, _, hc⟩ := h.cell _ r h1
  simp only [Option.some.injEq] at ha
  subst ha
  have := hc _ u h2
  rw [Addr.add_lit, hj, ← Nat.add_assoc]
  exact this

/-- What is owned, as a slice that can be read. -/
theorem own_slT {w : World} {B : Nat} {e : TypeId} {k : Nat} {v : Value} {n : Nat} {vs : List (List Value)} (hk : 0 < k) (hr : ∀ r ∈ vs, r.length = k) (hn : vs.length = n) (h : w.ownsRow B e k v n vs.flatten) :
    ∃ a c, v = .slice a n c ∧ SlT w k a n c vs := by
  obtain ⟨hl, h2⟩ := h
  rcases h2 with ⟨rfl, rfl⟩ | ⟨g, cap, cur, rfl, hg, hh, hnc, hcap, hcur, htake⟩
  · exact ⟨none, 0, rfl, hn, Nat.le_refl _, by omega, fun _ => ⟨rfl, rfl⟩, fun i x hx => by
      have := (List.getElem?_eq_some_iff.1 hx).1; omega⟩
  · refine ⟨_, _, rfl, hn, hnc, by unfold maxLen at hcap; omega, (fun h => by cases h), fun i r hi => ⟨hr r (List.mem_of_getElem? hi), g, 0, rfl, (Array.getElem?_eq_some_iff.1 hh).1, fun j x hx => ?_⟩⟩
    have hjk : j < k := by
      have h1 := (List.getElem?_eq_some_iff.1 hx).1
      rw [hr r (List.mem_of_getElem? hi)] at h1
      exact h1
    have hf : vs.flatten[i * k + j]? = some x := by rw [flat_at hr _ _ hjk, hi]; exact hx
    rw [← htake, List.getElem?_take] at hf
    rw [cell_of_row _ g (0 + i * k + j) cur e _ hh]
    split at hf
    · rw [Nat.zero_add]; simpa using hf
    · cases hf

/-- append of all of a slice to one's own, elements of k cells. -/
theorem wpL_appK {P : Program} {w : World} {ops : Array Oper} {rest : List Oper} {dst : Option Tmp} {ty : TypeId} {pos : String} {af : Array Edge} {a : Act} {Q : Exit → Act → World → Prop}
    {s x : Operand} {t e : TypeId} {z : Value} {k bytes : Nat} (hk : 0 < k) (B : Nat) (v : Value) (n : Nat) (vs : List (List Value)) (ao : Option Addr) (m c : Nat) (us : List (List Value))
    (hinfo : (P.info? e).map (fun i => (i.zero, i.size, i.bytes)) = some (some z, k, bytes)) (ht : P.underlying t = some (.slice e)) (hzs : z.cells.size = k)
    (hs : a.eval s = v) (hx : a.eval x = .slice ao m c) (hu : ∀ u ∈ us.flatten, u.oneCell' = true) (hur : ∀ r ∈ us, r.length = k)
    (hown : w.ownsRow B e k v n vs.flatten) (hsl : SlT w k ao m c us) (hB : B ≤ w.heap.size) (hn : (n + m) * bytes ≤ 140737488355328) (hn' : n + m ≤ 9223372036854775807) {W : World} (hb : Below B W w)
    (hK : ∀ a' c' w1, w1.ownsRow B e k (.slice a' (n + m) c') (n + m) (vs ++ us).flatten → Below B W w1 → w.heap.size ≤ w1.heap.size → wpList P ops Q rest (a.put dst (.slice a' (n + m) c')) w1) :
    wpList P ops Q (⟨dst, .call { callee := .builtin .append, args := #[s, x], argTypes := #[t, t] }, ty, pos, af, none⟩ :: rest) a w := by
  obtain ⟨i, hi, hz0, hz1, hz2⟩ := info_parts hinfo
  have shape : ∀ {w : World} {v : Value} {n : Nat} {xs : List Value}, w.ownsRow B e k v n xs → ∃ a c, v = .slice a n c := by
    intro w v n xs h
    rcases h.2 with ⟨rfl, rfl⟩ | ⟨g, cap, cur, rfl, _⟩
    · exact ⟨none, 0, rfl⟩
    · exact ⟨_, _, rfl⟩
  cases ao with
  | none =>
    obtain ⟨rfl, rfl⟩ := hsl.bare rfl
    have hus : us = [] := List.eq_nil_of_length_eq_zero hsl.len
    subst hus
    refine wpList_append_own_none rfl s x t rfl B e i k ht hi v n vs.flatten hs hown hx ?_
    obtain ⟨a', c', rfl⟩ := shape hown
    exact hK a' c' w (by simpa using hown) hb (Nat.le_refl _)
  | some ad =>
    have hl : us.flatten.length = m * k := by rw [flat_len hur, hsl.len]
    refine wpList_append_own _ rfl s x t rfl B e i z k bytes ht hi hz0 hz1 hz2 hzs hk v n vs.flatten hs hown ad m c us.flatten hx hl ?_ hu
      (by unfold maxLen; omega) hn hB ?_
    · exact hsl.flat hk
    · intro v' w1 hown' hgrow _
      obtain ⟨a', c', rfl⟩ := shape hown'
      exact hK a' c' w1 (by rw [List.flatten_append]; exact hown') (below_own hown hgrow hb hB) hgrow.size

/-- w2 is as w from block N on. -/
structure Holds (N : Nat) (w w2 : World) : Prop where
  size : w.heap.size ≤ w2.heap.size
  block : ∀ k, N ≤ k → k < w.heap.size → w2.heap[k]? = w.heap[k]?

theorem Holds.refl (N : Nat) (w : World) : Holds N w w := ⟨Nat.le_refl _, fun _ _ _ => rfl⟩
theorem Holds.of {N : Nat} {w w2 : World} (h : Below w.heap.size w w2) : Holds N w w2 := ⟨h.size, fun k _ hk => h.block k hk⟩
theorem Holds.trans {N : Nat} {w w1 w2 : World} (h : Holds N w w1) (h2 : Holds N w1 w2) : Holds N w w2 :=
  ⟨Nat.le_trans h.size h2.size, fun k hn hk => (h2.block k hn (Nat.lt_of_lt_of_le hk h.size)).trans (h.block k hn hk)⟩
theorem Holds.set {N : Nat} {w w2 : World} (h : Holds N w w2) {a : Addr} (hb : a.block < N) (u : Value) : Holds N w (w2.setCell a u) := by
  refine ⟨by simpa [World.setCell] using h.size, fun k hn hk => ?_⟩
  simp only [World.setCell, Array.getElem?_modify]
  rw [if_neg (by omega)]
  exact h.block k hn hk
theorem Holds.own {w w2 : World} {N B : Nat} {e : TypeId} {size : Nat} {v : Value} {n : Nat} {vs : List Value} (hk : Holds N w w2) (h : w.ownsRow B e size v n vs) (hN : N ≤ B) : w2.ownsRow B e size v n vs := by
  refine ⟨h.1, ?_⟩
  rcases h.2 with hn | ⟨g, cap, cur, rfl, hg, hh, r⟩
  · exact .inl hn
  · exact .inr ⟨g, cap, cur, rfl, hg, by rw [hk.block g (by omega) (Array.getElem?_eq_some_iff.1 hh).1]; exact hh, r⟩

/-- The first m cells of a slice may be written; they lie in a block from B to N. -/
def Writes (w : World) (B N : Nat) (a : Option Addr) (m : Nat) : Prop := m = 0 ∨ ∃ g, a = some ⟨g, 0, none⟩ ∧ B ≤ g ∧ g < N ∧ ∀ j, j < m → (∃ u, w.cell? ⟨g, j, none⟩ = some u) ∧ w.frozen? ⟨g, j, none⟩ = false

theorem Writes.set {w : World} {B N : Nat} {a : Option Addr} {m : Nat} (h : Writes w B N a m) (p : Addr) (u : Value) : Writes (w.setCell p u) B N a m := by
  rcases h with h | ⟨g, ha, h1, h2, hc⟩
  · exact .inl h
  · refine .inr ⟨g, ha, h1, h2, fun j hj => ⟨?_, by rw [World.frozen?_setCell]; exact (hc j hj).2⟩⟩
    obtain ⟨x, hx⟩ := (hc j hj).1
    exact cell?_setCell_some hx

theorem Writes.of {w : World} {B : Nat} {e : TypeId} {k : Nat} {a : Option Addr} {n c : Nat} {vs : List Value} (h : w.ownsRow B e k (.slice a n c) n vs) : Writes w B w.heap.size a (n * k) := by
  rcases h.2 with ⟨_, rfl⟩ | ⟨g, cap, cur, hv, hg, hh, hnc, hcap, hcur, htake⟩
  · exact .inl (by simp)
  · simp only [Value.slice.injEq, true_and] at hv
    obtain ⟨rfl, rfl⟩ := hv
    refine .inr ⟨g, rfl, hg, (Array.getElem?_eq_some_iff.1 hh).1, fun j hj => ⟨?_, ?_⟩⟩
    · rw [cell_of_row _ g j cur e _ hh]
      have hlt : j < cur.size := by rw [hcur]; exact Nat.lt_of_lt_of_le hj (Nat.mul_le_mul_right _ hnc)
      exact ⟨cur[j], by simp [hlt]⟩
    · simp [World.frozen?, hh]

theorem Writes.next {w w' : World} {B N : Nat} {a : Option Addr} {m : Nat} (h : Writes w B N a m) (hN : N ≤ w.heap.size) (hb : Below w.heap.size w w') : Writes w' B N a m := by
  rcases h with h | ⟨g, ha, h1, h2, hc⟩
  · exact .inl h
  · refine .inr ⟨g, ha, h1, h2, fun j hj => ⟨?_, ?_⟩⟩
    · obtain ⟨x, hx⟩ := (hc j hj).1
      exact ⟨x, (hb.cell (p := ⟨g, j, none⟩) (Nat.lt_of_lt_of_le h2 hN)).trans hx⟩
    · exact ((bcell hb).2 g j (Nat.lt_of_lt_of_le h2 hN)).trans (hc j hj).2
end Base
end Go.Proofs.YtninglnchengeaaGreat

/-
  A circuit in memory of one's own; a box of cells that may be written.
-/
namespace Go.Proofs.YtninglnchengeaaGreat
open Go.RowKit Base
set_option linter.unusedVariables false
set_option linter.unusedSimpArgs false
namespace Circuit

/-- All seven parts lie in memory from block B on, each its own. -/
structure OwnC (w : World) (B : Nat) (x : Circ) (p : At) : Prop where
  ins : w.ownsRow B 3 1 (.slice p.a1 x.ins.length p.c1) x.ins.length (ints x.ins)
  lats : w.ownsRow B 41 3 (.slice p.a2 x.lats.length p.c2) x.lats.length (tris x.lats).flatten
  outs : w.ownsRow B 3 1 (.slice p.a3 x.outs.length p.c3) x.outs.length (ints x.outs)
  bads : w.ownsRow B 3 1 (.slice p.a4 x.bads.length p.c4) x.bads.length (ints x.bads)
  invs : w.ownsRow B 3 1 (.slice p.a5 x.invs.length p.c5) x.invs.length (ints x.invs)
  ands : w.ownsRow B 43 3 (.slice p.a6 x.ands.length p.c6) x.ands.length (tris x.ands).flatten
  names : w.ownsRow B 67 3 (.slice p.a7 x.names.length p.c7) x.names.length (namesV x.names).flatten

theorem own_sl' {w : World} {B : Nat} {e : TypeId} {a : Option Addr} {n c : Nat} {vs : List Value} (h : w.ownsRow B e 1 (.slice a n c) n vs) : Sl w a n c vs := by
  obtain ⟨a', c', hv, hs⟩ := own_sl h
  simp only [Value.slice.injEq, true_and] at hv
  obtain ⟨rfl, rfl⟩ := hv
  exact hs
theorem own_slT' {w : World} {B : Nat} {e : TypeId} {a : Option Addr} {n c : Nat} {vs : List (List Value)} (hr : ∀ r ∈ vs, r.length = 3) (hn : vs.length = n) (h : w.ownsRow B e 3 (.slice a n c) n vs.flatten) : SlT w 3 a n c vs := by
  obtain ⟨a', c', hv, hs⟩ := own_slT (by decide) hr hn h
  simp only [Value.slice.injEq, true_and] at hv
  obtain ⟨rfl, rfl⟩ := hv
  exact hs

theorem OwnC.inC {w : World} {B : Nat} {x : Circ} {p : At} (h : OwnC w B x p) : InCirc w x p :=
  ⟨own_sl' h.ins, own_slT' (tris_row _) (tris_len _) h.lats, own_sl' h.outs, own_sl' h.bads, own_sl' h.invs, own_slT' (tris_row _) (tris_len _) h.ands, own_slT' (names_row _) (names_len _) h.names⟩
theorem OwnC.next {w w' : World} {B : Nat} {x : Circ} {p : At} (h : OwnC w B x p) (hb : Below w.heap.size w w') : OwnC w' B x p :=
  ⟨own_next h.ins hb, own_next h.lats hb, own_next h.outs hb, own_next h.bads hb, own_next h.invs hb, own_next h.ands hb, own_next h.names hb⟩
theorem OwnC.mono {w : World} {B B' : Nat} {x : Circ} {p : At} (h : OwnC w B x p) (hB : B' ≤ B) : OwnC w B' x p :=
  ⟨own_mono h.ins hB, own_mono h.lats hB, own_mono h.outs hB, own_mono h.bads hB, own_mono h.invs hB, own_mono h.ands hB, own_mono h.names hB⟩
theorem OwnC.holds {w w' : World} {B N : Nat} {x : Circ} {p : At} (h : OwnC w B x p) (hk : Holds N w w') (hN : N ≤ B) : OwnC w' B x p :=
  ⟨hk.own h.ins hN, hk.own h.lats hN, hk.own h.outs hN, hk.own h.bads hN, hk.own h.invs hN, hk.own h.ands hN, hk.own h.names hN⟩

theorem OwnC.set {w : World} {B : Nat} {x : Circ} {p : At} (h : OwnC w B x p) {a : Addr} (ha : a.block < B) (u : Value) : OwnC (w.setCell a u) B x p :=
  ⟨ownsRow_setCell_below h.ins ha u, ownsRow_setCell_below h.lats ha u, ownsRow_setCell_below h.outs ha u, ownsRow_setCell_below h.bads ha u, ownsRow_setCell_below h.invs ha u, ownsRow_setCell_below h.ands ha u, ownsRow_setCell_below h.names ha u⟩

/-- Each part is small enough to be made anew. -/
structure Fits (x : Circ) : Prop where
  ins : x.ins.length * 8 ≤ 140737488355328
  lats : x.lats.length * 24 ≤ 140737488355328
  outs : x.outs.length * 8 ≤ 140737488355328
  bads : x.bads.length * 8 ≤ 140737488355328
  invs : x.invs.length * 8 ≤ 140737488355328
  ands : x.ands.length * 24 ≤ 140737488355328
  names : x.names.length * 40 ≤ 140737488355328

/-- Block N holds these cells, and may be written. -/
structure BoxN (N : Nat) (cs : List Value) (w : World) : Prop where
  lt : N < w.heap.size
  at' : ∀ j u, cs[j]? = some u → w.cell? ⟨N, j, none⟩ = some u
  fz : ∀ j, w.frozen? ⟨N, j, none⟩ = false

theorem BoxN.new (w : World) (cs : Array Value) (t : TypeId) : BoxN w.heap.size cs.toList (w.alloc (.cells cs t)) := by
  refine ⟨by simp, fun j u hu => ?_, fun j => by simp [go_sem]⟩
  simp [go_sem]
  simpa using hu

theorem BoxN.next {N : Nat} {cs : List Value} {w w' : World} (h : BoxN N cs w) {B : Nat} (hb : Below B w w') (hB : N < B) : BoxN N cs w' :=
  ⟨Nat.lt_of_lt_of_le h.lt hb.size, fun j u hu => (hb.cell (p := ⟨N, j, none⟩) hB).trans (h.at' j u hu), fun j => (hb.frozen (p := ⟨N, j, none⟩) hB).trans (h.fz j)⟩

theorem BoxN.holds {N : Nat} {cs : List Value} {w w' : World} (h : BoxN N cs w) {B : Nat} (hb : Holds B w w') (hB : B ≤ N) : BoxN N cs w' := by
  have hblk := hb.block N hB h.lt
  refine ⟨Nat.lt_of_lt_of_le h.lt hb.size, fun j u hu => ?_, fun j => ?_⟩
  · exact (World.cell?_of_block (w := w) (a := ⟨N, j, none⟩) hblk).trans (h.at' j u hu)
  · exact (World.frozen?_of_block (w := w) (a := ⟨N, j, none⟩) hblk).trans (h.fz j)

theorem BoxN.set {N : Nat} {cs : List Value} {w : World} (h : BoxN N cs w) (j : Nat) (u : Value) : BoxN N (cs.set j u) (w.setCell ⟨N, j, none⟩ u) := by
  refine ⟨by simpa [World.setCell] using h.lt, fun i v hv => ?_, fun i => by rw [World.frozen?_setCell]; exact h.fz i⟩
  by_cases hij : j = i
  · subst hij
    obtain ⟨hl, he⟩ := List.getElem?_eq_some_iff.1 hv
    rw [List.length_set] at hl
    have h0 := h.at' j cs[j] (List.getElem?_eq_getElem hl)
    have : v = u := by rw [← he]; simp
    subst this
    exact World.cell?_setCell_same' _ _ _ (by rw [h0]; rfl)
  · rw [List.getElem?_set_ne hij] at hv
    rw [World.cell?_setCell_other _ _ _ _ (by intro e; simp only [Addr.mk.injEq, and_true, true_and] at e; exact hij e)]
    exact h.at' i v hv

theorem BoxN.other {N : Nat} {cs : List Value} {w : World} (h : BoxN N cs w) {a : Addr} (ha : a.block ≠ N) (u : Value) : BoxN N cs (w.setCell a u) := by
  refine ⟨by simpa [World.setCell] using h.lt, fun i v hv => ?_, fun i => by rw [World.frozen?_setCell]; exact h.fz i⟩
  rw [World.cell?_setCell_other _ _ _ _ (by intro e; apply ha; rw [e])]
  exact h.at' i v hv
end Circuit
end Go.Proofs.YtninglnchengeaaGreat

/-
  interlockref03.Cone, of a circuit that may be.
-/
namespace Go.Proofs.YtninglnchengeaaGreat
open Go.RowKit Base
set_option linter.unusedVariables false
set_option linter.unusedSimpArgs false
namespace Coi
open Circuit RefS

theorem tt_false {p : Prop} (h : tt p = false) : ¬ p := fun hp => by rw [tt_pos hp] at h; cases h

theorem ins_few (v : Int) (T : List Int) : (RefS.ins v T).length ≤ T.length + 1 := by
  induction T with
  | nil => simp [RefS.ins]
  | cons y r ih =>
    unfold RefS.ins
    split
    · simp only [List.length_cons]; omega
    · split
      · simp
      · simp

set_option maxRecDepth 8000 in
set_option maxHeartbeats 8000000 in
theorem refCone_any (w : World) (x : Circ) (p : At) (hin : InCirc w x p) (hok : CheckOk x) (a : Option Addr) (c : Nat) (L : List Int) (hsl : Sl w a L.length c (ints L)) (hL : ∀ y ∈ L, 0 ≤ y ∧ y ≤ 9223372036854775807)
    (hz : L.length + 2 * x.ands.length ≤ 1000000000000) :
    Calls Tryz.prog 33 #[.agg (cells x p), .slice a L.length c] w fun e w' => ∃ a' c' T, e = .returned (.slice a' T.length c') ∧ w'.ownsRow w.heap.size 3 1 (.slice a' T.length c') T.length (ints T) ∧ T.Pairwise (· < ·) ∧ (∀ v, v ∈ T ↔ v ≠ 0 ∧ Rch x.ands L v) ∧ Below w.heap.size w w' := by
  obtain ⟨W1, hW1⟩ : ∃ W1, w.alloc (.cells (cells x p) 27) = W1 := ⟨_, rfl⟩
  obtain ⟨hb1, hc1⟩ := cbox_new w x p W1 hW1
  have HB1 := Lib.hid hb1
  have HCB := Lib.hid (fun (U : World) (hU : Below W1.heap.size W1 U) => hc1.next hU (Nat.le_refl _))
  have HIN := Lib.hid (fun (U : World) (hU : Below W1.heap.size W1 U) => (hin.next hb1).next hU)
  have HSL := Lib.hid (fun (U : World) (hU : Below W1.heap.size W1 U) => (hsl.next hb1).next hU)
  have HLL := Lib.hid hL
  have HOK := Lib.hid hok
  have HORD := Lib.hid (StrashP.ord_of hok)
  have HZ := Lib.hid hz
  have HFI := fun (U : World) (hU : Below W1.heap.size W1 U) (i : Nat) (hi : i < x.ands.length) => RefF.refFirst_any U x p ((hin.next hb1).next hU) hok i hi
  have hmax : Hid (∀ t ∈ x.ands, t.1 ≤ 10000) := fun t ht => by
    have h1 := ((StrashP.ownOk_iff.1 hok.2.1.1).1 t.1 (by unfold ownL; exact List.mem_append_right _ (List.mem_map.2 ⟨t, ht, rfl⟩))).2.2
    have h2 := hok.1.2.1
    unfold var at h1
    omega
  have hcap := hsl.cap
  have hbig := hsl.big
  obtain ⟨m, hm⟩ : ∃ m, x.ands.length = m := ⟨_, rfl⟩
  have HM := Lib.hid hm
  obtain ⟨n, hn⟩ : ∃ m, L.length = m := ⟨_, rfl⟩
  have HN := Lib.hid hn
  rw [hn] at hcap HSL ⊢
  have HLEN : Hid (∀ T : List Int, RInv x L T → (T.length + 2) * 8 ≤ 140737488355328) := fun T hT => by have := rinv_few hT; have := HZ.out; omega
  obtain ⟨a1, c1, a2, c2, a3, c3, a4, c4, a5, c5, a6, c6, a7, c7⟩ := p
  simp only [cells] at hW1 HFI ⊢
  have HF := Lib.hid HFI
  clear hin hok hsl hL hz hb1 hc1 hm hn HFI
  go_enter Tryz.func33, Tryz.ntmps33
  go_wp2_with fail
  clear hW1
  go_loopw [5, 6] (fun s u wr => ∃ (j : Nat) (T : List Int) (a' : Option Addr) (c' : Nat), j ≤ n ∧ u = .int .i64 j ∧ s = .slice a' T.length c' ∧ Hid (wr.ownsRow W1.heap.size 3 1 (.slice a' T.length c') T.length (ints T)) ∧ Hid (RInv x L T) ∧ Hid (∀ t ∈ L.take j, var t = 0 ∨ var t ∈ T) ∧ Hid (Below W1.heap.size W1 wr)) (fun _ u _ => n - (intOf u).toNat)
  case atStart => exact ⟨0, [], none, 0, Nat.zero_le _, rfl, rfl, World.ownsRow_nil _ _ _ _, ⟨List.Pairwise.nil, fun v hv => by simp at hv⟩, fun t ht => by simp at ht, Below.refl _ _⟩
  case round =>
    obtain ⟨j, T, a', c', hj, rfl, rfl, hT, hI, hLt, hB⟩ := hrel
    by_cases hlt : j < n
    · have hs := HSL.out wr hB.out
      obtain ⟨b, o, hx, rfl, hbs, e0⟩ := hs.int hlt
      have hl := HLL.out L[j] (List.getElem_mem hx)
      have HTK := Lib.hid (List.take_succ_eq_append_getElem hx)
      have HMEM : Hid (L[j] ∈ L) := List.getElem_mem hx
      generalize L[j] = t at *
      have HV := Lib.hid (RefV.refVar_any t hl.1 hl.2)
      have HI2 := Lib.hid (rinv_lit hI.out HMEM.out)
      have HL2 : Hid (∀ u ∈ L.take (j + 1), var u = 0 ∨ var u ∈ pz (var t) T) := fun u hu => by
        rw [HTK.out, List.mem_append, List.mem_singleton] at hu
        rcases hu with hu | rfl
        · exact (hLt.out u hu).imp id fun h => pz_mem.2 (Or.inl h)
        · by_cases h0 : var u = 0
          · exact Or.inl h0
          · exact Or.inr (pz_mem.2 (Or.inr ⟨rfl, h0⟩))
      have hl64 : -9223372036854775808 ≤ var t ∧ var t ≤ 9223372036854775807 := by unfold var; omega
      have HPU := Lib.hid (RefS.put_any wr a' T.length c' T (own_sl' hT.out) (by have := HLEN.out T hI.out; omega) (var t))
      have hpzv : Hid (var t = 0 → pz (var t) T = T) := fun h => by unfold pz; rw [if_pos h]
      have hpzi : Hid (var t ≠ 0 → pz (var t) T = RefS.ins (var t) T) := fun h => by unfold pz; rw [if_neg h]
      generalize pz (var t) T = T2 at *
      generalize var t = v at *
      clear hs hl HTK hx
      go_wp2_with fail
      with_reducible refine (HV.out _).mono ?_
      rintro e w2 ⟨rfl, rfl⟩
      by_cases hv0 : v = 0
      · have hne : (v != 0) = false := by rw [hv0]; rfl
        have HE := Lib.hid (hpzv.out hv0)
        clear hv0
        go_wp2_with fail
        go_roundw
        case rel => exact ⟨j + 1, T, a', c', by omega, by go_num, rfl, hT.out, by rw [← HE.out]; exact HI2.out, by rw [← HE.out]; exact HL2.out, hB.out⟩
        case measure => simp [intOf]; omega
      · have hne : (v != 0) = true := by simpa using hv0
        have HE := Lib.hid (hpzi.out hv0)
        clear hv0
        go_wp2_with fail
        with_reducible refine (HV.out _).mono ?_
        rintro e w2 ⟨rfl, rfl⟩
        go_wp2_with fail
        with_reducible refine HPU.out.mono ?_
        rintro e w3 ⟨a3', c3', rfl, ho3, hb3⟩
        have HS3 := Lib.hid (own_mono ho3 hB.out.size)
        have HB3 := Lib.hid (hB.out.trans (hb3.mono hB.out.size))
        clear ho3 hb3
        go_wp2_with fail
        go_roundw
        case rel => exact ⟨j + 1, RefS.ins v T, a3', c3', by omega, by go_num, rfl, HS3.out, by rw [← HE.out]; exact HI2.out, by rw [← HE.out]; exact HL2.out, HB3.out⟩
        case measure => simp [intOf]; omega
    · have hall : Hid (∀ t ∈ L, var t = 0 ∨ var t ∈ T) := fun t ht => hLt.out t (by rw [List.take_of_length_le (by rw [HN.out]; omega)]; exact ht)
      have HB0 := hB
      have HT0 := hT
      have HI0 := hI
      generalize wr = w0 at *
      clear hLt hj hB hT hI
      go_wp2_with fail
      clear hlt
      go_loopw [5, 7] (fun s u wr => ∃ (T : List Int) (a' : Option Addr) (c' : Nat) (k : Int), s = .slice a' T.length c' ∧ u = .int .i64 k ∧ Hid (-1 ≤ k ∧ k ≤ T.length) ∧ Hid (wr.ownsRow W1.heap.size 3 1 (.slice a' T.length c') T.length (ints T)) ∧ Hid (RInv x L T) ∧ Hid (∀ t ∈ L, var t = 0 ∨ var t ∈ T) ∧ Hid (k = T.length → ∀ t ∈ x.ands, ClosedT T t) ∧ Hid (Below W1.heap.size W1 wr)) (fun _ u _ => L.length + 2 * x.ands.length + 1 - (intOf u + 1).toNat)
      case atStart => exact ⟨T, a', c', -1, rfl, rfl, ⟨by omega, by omega⟩, HT0.out, HI0.out, hall.out, (fun h => by omega), HB0.out⟩
      case round =>
        clear HB0 HT0 HI0 hall
        obtain ⟨T, a', c', k, rfl, rfl, hk, hT, hI, hall, hcl, hB⟩ := hrel
        by_cases hlt : k < T.length
        · clear hcl
          have hd : decide (k < (T.length : Int)) = true := decide_eq_true hlt
          have HK := Lib.hid hk.out
          have HLT := Lib.hid hlt
          have HB0 := hB
          have HT0 := hT
          have HI0 := hI
          have HA0 := hall
          have hT64 : T.length ≤ 9223372036854775807 := by have := HLEN.out T hI.out; omega
          generalize wr = w1 at *
          clear hB hT hI hall hlt hk
          go_wp2_with fail
          go_loopw [5, 8] (fun s u wr => ∃ (i : Nat) (T2 : List Int) (a2 : Option Addr) (c2 : Nat), i ≤ m ∧ u = .int .i64 i ∧ s = .slice a2 T2.length c2 ∧ Hid (T.length ≤ T2.length) ∧ Hid (T2.length ≤ T.length → ∀ t ∈ x.ands.take i, ClosedT T2 t) ∧ Hid (wr.ownsRow W1.heap.size 3 1 (.slice a2 T2.length c2) T2.length (ints T2)) ∧ Hid (RInv x L T2) ∧ Hid (∀ t ∈ L, var t = 0 ∨ var t ∈ T2) ∧ Hid (Below W1.heap.size W1 wr)) (fun _ u _ => m - (intOf u).toNat)
          case atStart => exact ⟨0, T, a', c', Nat.zero_le _, rfl, rfl, Nat.le_refl _, (fun _ t ht => by simp at ht), HT0.out, HI0.out, HA0.out, HB0.out⟩
          case round =>
            clear HB0 HT0 HI0 HA0
            obtain ⟨i, T2, a2', c2', hi, rfl, rfl, hle, hcl, hT, hI, hall, hB⟩ := hrel
            have h6 := (HCB.out wr hB.out).k6
            have hia := (HIN.out wr hB.out).ands
            have hcap := hia.cap
            have hbig := hia.big
            simp only [HM.out] at h6 hcap hbig
            by_cases hlt : i < m
            · have hix : i < x.ands.length := by rw [HM.out]; exact hlt
              obtain ⟨b, o, hx, hae, hbs, hc0, hc1, hc2⟩ := hia.tri hix
              simp only at hae
              subst hae
              have hmem : x.ands[i] ∈ x.ands := List.getElem_mem hx
              obtain ⟨f1, f2, f3, f4, f5, f6⟩ := HORD.out.fine _ hmem
              have hmx := hmax.out _ hmem
              have HTK := Lib.hid (List.take_succ_eq_append_getElem hx)
              have HG : Hid (∀ T, RInv x L T → var x.ands[i].1 ∈ T → RInv x L (pz (var x.ands[i].2.2) (pz (var x.ands[i].2.1) T))) := fun T hT hv => rinv_gate HOK.out hT hmem hv
              have HCL : Hid (ClosedT T2 x.ands[i] → T2.length ≤ T.length → ∀ t ∈ x.ands.take (i + 1), ClosedT T2 t) := fun h hl t ht => by
                rw [HTK.out, List.mem_append, List.mem_singleton] at ht
                rcases ht with ht | rfl
                · exact hcl.out hl t ht
                · exact h
              have HIX := Lib.hid hix
              clear hmem HTK hcl hia
              generalize x.ands[i] = t at *
              clear hx hix
              obtain ⟨U, hU⟩ : ∃ U, wr.alloc (.cells (triC t) 43) = U := ⟨_, rfl⟩
              obtain ⟨hbU, htb⟩ := tbox_new wr t 43 U hU
              have t0 := htb.t0
              have HTB := Lib.hid htb
              have HBU := Lib.hid (hB.out.trans (hbU.mono hB.out.size))
              have HSU := Lib.hid (own_next hT.out hbU)
              have HV := Lib.hid (RefV.refVar_any t.1 (by omega) (by omega))
              have HHAS := Lib.hid (Circuit.has_any U a2' T2.length c2' T2 (own_sl' HSU.out) (var t.1))
              have CB := HCB.out U HBU.out
              have m0 : U.cell? ⟨w.heap.size, 0, none⟩ = some (.int .i64 x.max) := CB.k0
              have m1 : U.cell? ⟨w.heap.size, 1, none⟩ = some (.slice a1 x.ins.length c1) := CB.k1
              have m2 : U.cell? ⟨w.heap.size, 2, none⟩ = some (.slice a2 x.lats.length c2) := CB.k2
              have m3 : U.cell? ⟨w.heap.size, 3, none⟩ = some (.slice a3 x.outs.length c3) := CB.k3
              have m4 : U.cell? ⟨w.heap.size, 4, none⟩ = some (.slice a4 x.bads.length c4) := CB.k4
              have m5 : U.cell? ⟨w.heap.size, 5, none⟩ = some (.slice a5 x.invs.length c5) := CB.k5
              have m6 : U.cell? ⟨w.heap.size, 6, none⟩ = some (.slice (some ⟨b, o, none⟩) x.ands.length c6) := CB.k6
              have m7 : U.cell? ⟨w.heap.size, 7, none⟩ = some (.slice a7 x.names.length c7) := CB.k7
              clear CB
              simp only [triC] at hU
              clear htb hbU hB hT
              go_wp2_with fail
              with_reducible refine (HV.out _).mono ?_
              rintro e w2 ⟨rfl, rfl⟩
              have hlt0 : decide (t.1 < 0) = false := decide_eq_false (by omega)
              have hge0 : 0 ≤ t.1 := by omega
              by_cases hin : var t.1 ∈ T2
              · rw [tt_pos hin] at HHAS
                have HEND : Hid (T.length ≤ (pz (var t.2.2) (pz (var t.2.1) T2)).length ∧ ((pz (var t.2.2) (pz (var t.2.1) T2)).length ≤ T.length → ∀ u ∈ x.ands.take (i + 1), ClosedT (pz (var t.2.2) (pz (var t.2.1) T2)) u) ∧ RInv x L (pz (var t.2.2) (pz (var t.2.1) T2)) ∧ (∀ u ∈ L, var u = 0 ∨ var u ∈ pz (var t.2.2) (pz (var t.2.1) T2))) := by
                  have hr := hI.out.rise
                  have l1 := pz_len (v := var t.2.1) hr
                  have l2 := pz_len (v := var t.2.2) (pz_rise (v := var t.2.1) hr)
                  have l0 := hle.out
                  refine ⟨by omega, fun h => ?_, HG.out T2 hI.out hin, fun u hu => (hall.out u hu).imp id fun h => pz_mem.2 (Or.inl (pz_mem.2 (Or.inl h)))⟩
                  obtain ⟨e1, e2⟩ := gate_same (t := t) hr (by omega)
                  rw [e1] at h ⊢
                  exact HCL.out e2 h
                have HZ1 : Hid (var t.2.1 = 0 → pz (var t.2.1) T2 = T2) := fun h => by unfold pz; rw [if_pos h]
                have HI1 : Hid (var t.2.1 ≠ 0 → pz (var t.2.1) T2 = RefS.ins (var t.2.1) T2) := fun h => by unfold pz; rw [if_neg h]
                have HZ2 : Hid (∀ M, var t.2.2 = 0 → pz (var t.2.2) M = M) := fun M h => by unfold pz; rw [if_pos h]
                have HI2 : Hid (∀ M, var t.2.2 ≠ 0 → pz (var t.2.2) M = RefS.ins (var t.2.2) M) := fun M h => by unfold pz; rw [if_neg h]
                have hv1 : -9223372036854775808 ≤ var t.2.1 ∧ var t.2.1 ≤ 9223372036854775807 := by unfold var; omega
                have hv2 : -9223372036854775808 ≤ var t.2.2 ∧ var t.2.2 ≤ 9223372036854775807 := by unfold var; omega
                have HV1 := Lib.hid (RefV.refVar_any t.2.1 (by omega) (by omega))
                have HV2 := Lib.hid (RefV.refVar_any t.2.2 (by omega) (by omega))
                have HQ := Lib.hid (HLEN.out T2 hI.out)
                clear hin HG HCL hle hall hI f1 f2 f3 f4 f5 f6 hmx
                go_wp2_with fail
                with_reducible refine HHAS.out.mono ?_
                rintro e w3 ⟨rfl, rfl⟩
                go_wp2_with fail
                with_reducible refine (HF.out _ HBU.out i HIX.out).mono ?_
                rintro e w3 ⟨rfl, hb3⟩
                have HB3 := Lib.hid (HBU.out.trans (hb3.mono HBU.out.size))
                have HT3 := Lib.hid (HTB.out.next hb3 (Nat.le_refl _))
                have HS3 := Lib.hid (own_next HSU.out hb3)
                have q1 := HT3.out.t1
                have q2 := HT3.out.t2
                generalize var t.2.1 = v1 at *
                generalize var t.2.2 = v2 at *
                clear hb3 t0 m0 m1 m2 m3 m4 m5 m6 m7 HTB HHAS HSU hU
                by_cases h1 : v1 = 0
                · have hne1 : (v1 != 0) = false := by rw [h1]; rfl
                  rw [HZ1.out h1] at HEND
                  clear h1
                  go_wp2_with fail
                  with_reducible refine (HV1.out _).mono ?_
                  rintro e w4 ⟨rfl, rfl⟩
                  by_cases h2 : v2 = 0
                  · have hne2 : (v2 != 0) = false := by rw [h2]; rfl
                    rw [HZ2.out _ h2] at HEND
                    clear h2
                    go_wp2_with fail
                    with_reducible refine (HV2.out _).mono ?_
                    rintro e w4 ⟨rfl, rfl⟩
                    go_wp2_with fail
                    go_roundw
                    case rel => exact ⟨i + 1, T2, a2', c2', by omega, by go_num, rfl, HEND.out.1, HEND.out.2.1, HS3.out, HEND.out.2.2.1, HEND.out.2.2.2, HB3.out⟩
                    case measure => simp [intOf]; omega
                  · have hne2 : (v2 != 0) = true := by simpa using h2
                    rw [HI2.out _ h2] at HEND
                    clear h2
                    go_wp2_with fail
                    with_reducible refine (HV2.out _).mono ?_
                    rintro e w4 ⟨rfl, rfl⟩
                    go_wp2_with fail
                    with_reducible refine (HV2.out _).mono ?_
                    rintro e w4 ⟨rfl, rfl⟩
                    go_wp2_with fail
                    with_reducible refine (RefS.put_any _ a2' T2.length c2' T2 (own_sl' HS3.out) (by have := HQ.out; omega) v2).mono ?_
                    rintro e w5 ⟨a5', c5', rfl, ho5, hb5⟩
                    have HS5 := Lib.hid (own_mono ho5 HB3.out.size)
                    have HB5 := Lib.hid (HB3.out.trans (hb5.mono HB3.out.size))
                    clear ho5 hb5
                    go_wp2_with fail
                    go_roundw
                    case rel => exact ⟨i + 1, RefS.ins v2 T2, a5', c5', by omega, by go_num, rfl, HEND.out.1, HEND.out.2.1, HS5.out, HEND.out.2.2.1, HEND.out.2.2.2, HB5.out⟩
                    case measure => simp [intOf]; omega
                · have hne1 : (v1 != 0) = true := by simpa using h1
                  rw [HI1.out h1] at HEND
                  clear h1
                  go_wp2_with fail
                  with_reducible refine (HV1.out _).mono ?_
                  rintro e w4 ⟨rfl, rfl⟩
                  go_wp2_with fail
                  with_reducible refine (HV1.out _).mono ?_
                  rintro e w4 ⟨rfl, rfl⟩
                  go_wp2_with fail
                  with_reducible refine (RefS.put_any _ a2' T2.length c2' T2 (own_sl' HS3.out) (by have := HQ.out; omega) v1).mono ?_
                  rintro e w5 ⟨a5', c5', rfl, ho5, hb5⟩
                  have HS5 := Lib.hid (own_mono ho5 HB3.out.size)
                  have HB5 := Lib.hid (HB3.out.trans (hb5.mono HB3.out.size))
                  have HL5 : Hid ((RefS.ins v1 T2).length ≤ T2.length + 1) := ins_few v1 T2
                  have s2 := (HT3.out.next hb5 (Nat.le_refl _)).t2
                  generalize RefS.ins v1 T2 = T3 at *
                  clear ho5 hb5 q1 q2
                  by_cases h2 : v2 = 0
                  · have hne2 : (v2 != 0) = false := by rw [h2]; rfl
                    rw [HZ2.out _ h2] at HEND
                    clear h2
                    go_wp2_with fail
                    with_reducible refine (HV2.out _).mono ?_
                    rintro e w6 ⟨rfl, rfl⟩
                    go_wp2_with fail
                    go_roundw
                    case rel => exact ⟨i + 1, T3, a5', c5', by omega, by go_num, rfl, HEND.out.1, HEND.out.2.1, HS5.out, HEND.out.2.2.1, HEND.out.2.2.2, HB5.out⟩
                    case measure => simp [intOf]; omega
                  · have hne2 : (v2 != 0) = true := by simpa using h2
                    rw [HI2.out _ h2] at HEND
                    clear h2
                    go_wp2_with fail
                    with_reducible refine (HV2.out _).mono ?_
                    rintro e w6 ⟨rfl, rfl⟩
                    go_wp2_with fail
                    with_reducible refine (HV2.out _).mono ?_
                    rintro e w6 ⟨rfl, rfl⟩
                    go_wp2_with fail
                    with_reducible refine (RefS.put_any _ a5' T3.length c5' T3 (own_sl' HS5.out) (by have := HQ.out; have := HL5.out; omega) v2).mono ?_
                    rintro e w7 ⟨a7', c7', rfl, ho7, hb7⟩
                    have HS7 := Lib.hid (own_mono ho7 HB5.out.size)
                    have HB7 := Lib.hid (HB5.out.trans (hb7.mono HB5.out.size))
                    clear ho7 hb7
                    go_wp2_with fail
                    go_roundw
                    case rel => exact ⟨i + 1, RefS.ins v2 T3, a7', c7', by omega, by go_num, rfl, HEND.out.1, HEND.out.2.1, HS7.out, HEND.out.2.2.1, HEND.out.2.2.2, HB7.out⟩
                    case measure => simp [intOf]; omega
              · rw [tt_neg hin] at HHAS
                have HCL2 := Lib.hid (HCL.out (fun h => absurd h hin))
                clear hin
                go_wp2_with fail
                with_reducible refine HHAS.out.mono ?_
                rintro e w3 ⟨rfl, rfl⟩
                go_wp2_with fail
                go_roundw
                case rel => exact ⟨i + 1, T2, a2', c2', by omega, by go_num, rfl, hle.out, HCL2.out, HSU.out, hI.out, hall.out, HBU.out⟩
                case measure => simp [intOf]; omega
            · have hall2 : Hid (T2.length ≤ T.length → ∀ t ∈ x.ands, ClosedT T2 t) := fun h t ht => hcl.out h t (by rw [List.take_of_length_le (by rw [HM.out]; omega)]; exact ht)
              go_wp2_with fail
              clear hlt hcl
              go_roundw
              case rel => exact ⟨T2, a2', c2', T.length, rfl, rfl, ⟨by omega, by have := hle.out; omega⟩, hT.out, hI.out, hall.out, (fun h => hall2.out (by omega)), hB.out⟩
              case measure => have := rinv_few hI.out; have := HLT.out; have := HK.out; have := hle.out; simp [intOf]; omega
        · have he : k = T.length := by have := hk.out; omega
          have hd : decide (k < (T.length : Int)) = false := decide_eq_false hlt
          have HE := Lib.hid (rinv_end hI.out hall.out (hcl.out he))
          clear hlt
          go_wp2_with fail
          go_ret
          exact ⟨a', c', T, rfl, own_mono hT.out HB1.out.size, hI.out.rise, HE.out, HB1.out.trans (hB.out.mono HB1.out.size)⟩
end Coi
end Go.Proofs.YtninglnchengeaaGreat

/-
  Plain: what the law's needed gathers, again and again.
-/
namespace Go.Proofs.YtninglnchengeaaGreat
open Go.RowKit Base
set_option linter.unusedVariables false
set_option linter.unusedSimpArgs false
namespace Coi
open Circuit RefS

theorem rch_more {ands : List Tri} {L L2 : List Int} (h : ∀ t ∈ L, t ∈ L2) {v : Int} (hv : Rch ands L v) : Rch ands L2 v := by
  induction hv with
  | lit ht => exact .lit (h _ ht)
  | left _ h0 hg ih => exact .left ih h0 hg
  | right _ h0 hg ih => exact .right ih h0 hg
theorem nr_more {x : Circ} {l l2 : List Int} (h : ∀ t ∈ l, t ∈ l2) {v : Int} (hv : NR x l v) : NR x l2 v := by
  induction hv with
  | lit ht => exact .lit (h _ ht)
  | left _ h0 hg ih => exact .left ih h0 hg
  | right _ h0 hg ih => exact .right ih h0 hg
  | next _ h0 ht ih => exact .next ih h0 ht
theorem nr_same {x : Circ} {l l2 : List Int} (h : ∀ t, t ∈ l ↔ t ∈ l2) (v : Int) : NR x l v ↔ NR x l2 v := ⟨nr_more fun t => (h t).1, nr_more fun t => (h t).2⟩

structure LInv (x : Circ) (l L T : List Int) : Prop where
  sub : ∀ t ∈ l, t ∈ L
  sound : ∀ t ∈ L, NR x l (var t)
  rise : T.Pairwise (· < ·)
  mem : ∀ v, v ∈ T ↔ v ≠ 0 ∧ Rch x.ands L v
/-- A latch that counts has its next value counted. -/
def LShut (x : Circ) (T : List Int) : Prop := ∀ t ∈ x.lats, var t.1 ∈ T → var t.2.1 = 0 ∨ var t.2.1 ∈ T
/-- The next values of the latches that count. -/
noncomputable def nexts (T : List Int) (l : List Tri) : List Int := (l.filter fun t => tt (var t.1 ∈ T)).map fun t => t.2.1
theorem nexts_len (T : List Int) (l : List Tri) : (nexts T l).length ≤ l.length := by unfold nexts; rw [List.length_map]; exact List.length_filter_le _ _
theorem nexts_mem {T : List Int} {l : List Tri} {y : Int} : y ∈ nexts T l ↔ ∃ t ∈ l, var t.1 ∈ T ∧ t.2.1 = y := by
  unfold nexts
  simp only [List.mem_map, List.mem_filter, tt_iff]
  constructor
  · rintro ⟨t, ⟨h1, h2⟩, h3⟩; exact ⟨t, h1, h2, h3⟩
  · rintro ⟨t, h1, h2, h3⟩; exact ⟨t, ⟨h1, h2⟩, h3⟩
theorem nexts_yes {T : List Int} {l : List Tri} {k : Nat} (hk : k < l.length) (h : var l[k].1 ∈ T) : nexts T (l.take (k + 1)) = nexts T (l.take k) ++ [l[k].2.1] := by
  unfold nexts
  rw [List.take_succ_eq_append_getElem hk, List.filter_append, List.map_append]
  simp [tt_pos h]
theorem nexts_no {T : List Int} {l : List Tri} {k : Nat} (hk : k < l.length) (h : ¬ var l[k].1 ∈ T) : nexts T (l.take (k + 1)) = nexts T (l.take k) := by
  unfold nexts
  rw [List.take_succ_eq_append_getElem hk, List.filter_append, List.map_append]
  simp [tt_neg h]
theorem linv_nr {x : Circ} {l L T : List Int} (h : LInv x l L T) {v : Int} (hv : v ∈ T) : v ≠ 0 ∧ NR x l v := ⟨((h.mem v).1 hv).1, nr_of_rch h.sound ((h.mem v).1 hv).2⟩
theorem linv_few {x : Circ} {l L T : List Int} (h : LInv x l L T) : T.length ≤ l.length + 2 * x.ands.length + x.lats.length := by
  have := nodup_len (rise_nodup h.rise) (C := uni x l) (fun v hv => nr_uni (linv_nr h hv).2)
  unfold uni at this
  simp only [List.length_append, List.length_map] at this
  omega
theorem linv_start {x : Circ} {l T : List Int} (h : T.Pairwise (· < ·)) (hm : ∀ v, v ∈ T ↔ v ≠ 0 ∧ Rch x.ands l v) : LInv x l l T := ⟨fun _ h => h, fun _ h => .lit h, h, hm⟩
theorem linv_next {x : Circ} {l L T T2 : List Int} (h : LInv x l L T) (h2 : T2.Pairwise (· < ·)) (hm : ∀ v, v ∈ T2 ↔ v ≠ 0 ∧ Rch x.ands (L ++ nexts T x.lats) v) :
    LInv x l (L ++ nexts T x.lats) T2 ∧ T.length ≤ T2.length ∧ (T2.length ≤ T.length → LShut x T2) := by
  have hs : ∀ v ∈ T, v ∈ T2 := fun v hv => (hm v).2 ⟨((h.mem v).1 hv).1, rch_more (fun t ht => List.mem_append_left _ ht) ((h.mem v).1 hv).2⟩
  refine ⟨⟨fun t ht => List.mem_append_left _ (h.sub t ht), fun t ht => ?_, h2, hm⟩, rise_sub h.rise hs, fun hl t ht hv => ?_⟩
  · rcases List.mem_append.1 ht with ht | ht
    · exact h.sound t ht
    · obtain ⟨u, hu, hv, rfl⟩ := nexts_mem.1 ht
      obtain ⟨h0, hn⟩ := linv_nr h hv
      exact .next hn h0 hu
  · have e := rise_same h.rise h2 hs hl
    by_cases h0 : var t.2.1 = 0
    · exact Or.inl h0
    · exact Or.inr ((hm _).2 ⟨h0, .lit (List.mem_append_right _ (nexts_mem.2 ⟨t, ht, e ▸ hv, rfl⟩))⟩)
theorem linv_end {x : Circ} {l L T : List Int} (h : LInv x l L T) (hs : LShut x T) (v : Int) : v ∈ T ↔ v ≠ 0 ∧ NR x l v := by
  refine ⟨linv_nr h, fun hh => ?_⟩
  obtain ⟨h0, hn⟩ := hh
  induction hn with
  | lit ht => exact (h.mem _).2 ⟨h0, .lit (h.sub _ ht)⟩
  | left _ hv hg ih => exact (h.mem _).2 ⟨h0, .left ((h.mem _).1 (ih hv)).2 hv hg⟩
  | right _ hv hg ih => exact (h.mem _).2 ⟨h0, .right ((h.mem _).1 (ih hv)).2 hv hg⟩
  | next _ hv ht ih => exact (hs _ ht (ih hv)).resolve_left h0
end Coi
end Go.Proofs.YtninglnchengeaaGreat

/-
  lits.Check, at whatever greatest variable may be.
-/
namespace Go.Proofs.YtninglnchengeaaGreat
open Go.RowKit Base
set_option linter.unusedVariables false
set_option linter.unusedSimpArgs false
namespace LitsC
open Circuit

def oddM (mx l : Int) : Bool := decide (l < 0) || decide (mx < var l)
theorem eg_chk : SlfI.Enters 70 := enters_of Tryz.func70 (by kernel_rfl) rfl
set_option maxHeartbeats 4000000 in
theorem chk1_any (w : World) (Bw Bm : Nat) (hw : w.cell? ⟨Bw, 0, none⟩ = some (.bool false)) (mx : Int) (hm : w.cell? ⟨Bm, 0, none⟩ = some (.int .i64 mx)) (hlw : Bw < w.heap.size) (hlm : Bm < w.heap.size) (x : Int) (hx0 : -9223372036854775808 ≤ x) (hx1 : x ≤ 9223372036854775807) :
    Calls Tryz.prog 70 #[.int .i64 x, .pointer (some ⟨Bw, 0, none⟩), .pointer (some ⟨Bm, 0, none⟩)] w fun e w' => e = .returned (.bool (oddM mx x)) ∧ Below w.heap.size w w' := by
  have HS := fun (U : World) (hU : Below w.heap.size w U) => (⟨hU, (hU.cell (p := ⟨Bw, 0, none⟩) hlw).trans hw, (hU.cell (p := ⟨Bm, 0, none⟩) hlm).trans hm⟩ : Below w.heap.size w U ∧ U.cell? ⟨Bw, 0, none⟩ = some (.bool false) ∧ U.cell? ⟨Bm, 0, none⟩ = some (.int .i64 mx))
  have LC1 := Lib.hid (fun (U : World) (hU : Below w.heap.size w U ∧ U.cell? ⟨Bw, 0, none⟩ = some (.bool false) ∧ U.cell? ⟨Bm, 0, none⟩ = some (.int .i64 mx)) => (var_any x hx0 hx1 U).mono (fun e w' h => (⟨h.1, h.2 ▸ hU⟩ : e = .returned (.int .i64 (var x)) ∧ Below w.heap.size w w' ∧ w'.cell? ⟨Bw, 0, none⟩ = some (.bool false) ∧ w'.cell? ⟨Bm, 0, none⟩ = some (.int .i64 mx))))
  have HF := Lib.hid (HS w.drew (Below.refl _ _).drew)
  have HOD : Hid (oddM mx x = (decide (x < 0) || decide (mx < var x))) := rfl
  clear HS hw hm hlw hlm hx0 hx1
  generalize hv : var x = v at *
  clear hv
  by_cases hx : x < 0
  · have hd : decide (x < 0) = true := decide_eq_true hx
    have HR : Hid (oddM mx x = true) := by show _ = _; rw [HOD.out, hd]; rfl
    clear hx
    go_enter Tryz.func70, Tryz.ntmps70
    go_upto_region 1 with fail
    refine Lex.region (fun w' => Below w.heap.size w w' ∧ w'.cell? ⟨Bw, 0, none⟩ = some (.bool false) ∧ w'.cell? ⟨Bm, 0, none⟩ = some (.int .i64 mx)) (by kernel_rfl) (by kernel_rfl) HF.out ?_
    repeat (first
      | (refine Lex.step_val (v := ?_) ?_ (fun w' hSw => ?_) ?_; rotate_left; (focus (go_simp; done)); (focus ((try dsimp only at hSw); go_simp; (try with_reducible rfl); done)); (try simp only [Act.put, List.setIfInBounds_toArray, List.set_cons_zero, List.set_cons_succ]))
      | (refine Lex.step_call (v := ?_) (f := ?_) (args := ?_) ?_ (fun w' hSw => ?_) ?_ ?_; rotate_left 3; (focus (go_simp; done)); (focus ((try dsimp only at hSw); go_simp; (refine And.intro ?_ ?_ <;> with_reducible rfl); done)); (focus (first | with_reducible exact LC1.out)); (try simp only [Act.put, List.setIfInBounds_toArray, List.set_cons_zero, List.set_cons_succ]))
      | (refine Lex.step_off ?_ ?_; (focus (first | (go_simp; done) | (simp [Region.wanted, yielded, undef]; done) | rfl)); (try simp only [Act.put, List.setIfInBounds_toArray, List.set_cons_zero, List.set_cons_succ]))
      | fail)
    refine Lex.step_nil ?_
    intro wz hz
    go_wp2_with fail
    go_ret
    exact ⟨ret_bool HR.out.symm, hz.1⟩
  · have hd : decide (x < 0) = false := decide_eq_false hx
    have HR : Hid (oddM mx x = decide (mx < v)) := by show _ = _; rw [HOD.out, hd]; rfl
    clear hx
    generalize hq : decide (mx < v) = q at *
    go_enter Tryz.func70, Tryz.ntmps70
    go_upto_region 1 with fail
    refine Lex.region (fun w' => Below w.heap.size w w' ∧ w'.cell? ⟨Bw, 0, none⟩ = some (.bool false) ∧ w'.cell? ⟨Bm, 0, none⟩ = some (.int .i64 mx)) (by kernel_rfl) (by kernel_rfl) HF.out ?_
    repeat (first
      | (refine Lex.step_val (v := ?_) ?_ (fun w' hSw => ?_) ?_; rotate_left; (focus (go_simp; done)); (focus ((try dsimp only at hSw); go_simp; (try with_reducible rfl); done)); (try simp only [Act.put, List.setIfInBounds_toArray, List.set_cons_zero, List.set_cons_succ]))
      | (refine Lex.step_call (v := ?_) (f := ?_) (args := ?_) ?_ (fun w' hSw => ?_) ?_ ?_; rotate_left 3; (focus (go_simp; done)); (focus ((try dsimp only at hSw); go_simp; (refine And.intro ?_ ?_ <;> with_reducible rfl); done)); (focus (first | with_reducible exact LC1.out)); (try simp only [Act.put, List.setIfInBounds_toArray, List.set_cons_zero, List.set_cons_succ]))
      | (refine Lex.step_off ?_ ?_; (focus (first | (go_simp; done) | (simp [Region.wanted, yielded, undef]; done) | rfl)); (try simp only [Act.put, List.setIfInBounds_toArray, List.set_cons_zero, List.set_cons_succ]))
      | fail)
    refine Lex.step_nil ?_
    intro wz hz
    go_wp2_with fail
    go_ret
    exact ⟨ret_bool HR.out.symm, hz.1⟩

set_option maxHeartbeats 2000000 in
theorem check_any (w : World) (a : Option Addr) (n c : Nat) (l : List Int) (hsl : Sl w a n c (ints l)) (hw : ∀ y ∈ l, Circuit.I64 y) (mx : Int) (hm0 : 0 ≤ mx) (hm1 : mx ≤ 2048) :
    Calls Tryz.prog 43 #[.int .i64 mx, .slice a n c] w fun e w' => e = .returned (.int .i64 (if l.any (oddM mx) = true then 4 else 0)) ∧ Below w.heap.size w w' := by
  have hlm : l.length = n := by have := hsl.len; rwa [ints_len] at this
  obtain ⟨W1, hW1⟩ : ∃ U, w.alloc (.cells #[.int .i64 mx] 3) = U := ⟨_, rfl⟩
  obtain ⟨U, hU⟩ : ∃ U, W1.alloc (.cells #[.bool false] 4) = U := ⟨_, rfl⟩
  have hb1 : Below w.heap.size w W1 := by rw [← hW1]; exact (Below.refl _ _).alloc (Nat.le_refl _) _
  have hb2 : Below W1.heap.size W1 U := by rw [← hU]; exact (Below.refl _ _).alloc (Nat.le_refl _) _
  have hz1 : w.heap.size < W1.heap.size := by rw [← hW1]; simp
  have hz2 : W1.heap.size < U.heap.size := by rw [← hU]; simp
  have u0 : U.cell? ⟨w.heap.size, 0, none⟩ = some (.int .i64 mx) := (hb2.cell (p := ⟨w.heap.size, 0, none⟩) hz1).trans (by rw [← hW1]; simp)
  have u1 : U.cell? ⟨W1.heap.size, 0, none⟩ = some (.bool false) := by rw [← hU]; simp
  have w0 : W1.cell? ⟨w.heap.size, 0, none⟩ = some (.int .i64 mx) := by rw [← hW1]; simp
  have hb := hb1.trans (hb2.mono hb1.size)
  have CF := SlfI.containsFunc U a n c (ints l) 70 #[] #[.pointer (some ⟨W1.heap.size, 0, none⟩), .pointer (some ⟨w.heap.size, 0, none⟩)] (l.map (oddM mx)) (hsl.next hb) (by rw [List.length_map, hlm]) eg_chk (by
    intro V hV j y q hy hq
    obtain ⟨hj, rfl⟩ := Base.ints_at hy
    rw [List.getElem?_map, List.getElem?_eq_getElem hj] at hq
    simp only [Option.map_some, Option.some.injEq] at hq
    subst hq
    have hzV := hV.size
    exact chk1_any V W1.heap.size w.heap.size ((hV.cell (p := ⟨W1.heap.size, 0, none⟩) hz2).trans u1) mx ((hV.cell (p := ⟨w.heap.size, 0, none⟩) (Nat.lt_trans hz1 hz2)).trans u0) (by omega) (by omega) l[j] (hw _ (List.getElem_mem hj)).1 (hw _ (List.getElem_mem hj)).2)
  have hall : ((l.map (oddM mx)).any id) = l.any (oddM mx) := by
    rw [List.any_map]
    rfl
  rw [hall] at CF
  have HCF := Lib.hid CF
  have HB := Lib.hid hb
  have HU := Lib.hid hU
  have HWR : Hid ((decide (mx < 0) || decide (2048 < mx)) = false) := by show _ = _; rw [decide_eq_false (by omega), decide_eq_false (by omega)]; rfl
  clear CF hall hb hb1 hb2 hz1 hz2 u0 u1 hsl hw hU
  generalize l.any (oddM mx) = q at *
  cases q
  all_goals
    go_enter Tryz.func43, Tryz.ntmps43
    go_wp2_with fail
    rw [HWR.out, HU.out]
    with_reducible refine HCF.out.mono ?_
    rintro e w3 ⟨rfl, hb3⟩
    have HB3 := Lib.hid (HB.out.trans (hb3.mono HB.out.size))
    clear hb3
    go_wp2_with fail
    go_ret
    exact ⟨rfl, HB3.out⟩

end LitsC
end Go.Proofs.YtninglnchengeaaGreat

/-
  slices.IndexFunc and slices.ContainsFunc at one instance (elements of one cell), whatever predicate is handed over: ps says of each element what the predicate gives.
-/
namespace Go.Proofs.YtninglnchengeaaGreat
open Go.RowKit Base
set_option linter.unusedVariables false
namespace SlfR

/-- A function value gives ps of the elements, and turns nothing that is there. -/
def Gives (w : World) (g : FuncId) (fs lb : Array Value) (vs : List Value) (ps : List Bool) : Prop :=
  ∀ W, Below w.heap.size w W → ∀ (k : Nat) (v : Value) (b : Bool), vs[k]? = some v → ps[k]? = some b → Calls Tryz.prog g (fs.push v ++ lb) W fun e w' => e = .returned (.bool b) ∧ Below W.heap.size W w'

def Enters (g : FuncId) : Prop := ∀ args w, (callFunc g args).run Tryz.prog w = .ok (.enter g args) w

theorem idx_hit (ps : List Bool) (k : Nat) (h : ps[k]? = some true) : idx id (ps.drop k) k = k := by
  obtain ⟨hk, e⟩ := List.getElem?_eq_some_iff.1 h
  rw [List.drop_eq_getElem_cons hk]; unfold idx; rw [e]; rfl
theorem idx_miss (ps : List Bool) (k : Nat) (h : ps[k]? = some false) : idx id (ps.drop k) k = idx id (ps.drop (k + 1)) (k + 1) := by
  obtain ⟨hk, e⟩ := List.getElem?_eq_some_iff.1 h
  rw [List.drop_eq_getElem_cons hk]
  show (if id ps[k] = true then _ else _) = _
  rw [e]; rfl

set_option maxHeartbeats 1000000 in
theorem indexFunc (w : World) (a : Option Addr) (n c : Nat) (vs : List Value) (g : FuncId) (fs lb : Array Value) (ps : List Bool)
    (hs : Sl w a n c vs) (hps : ps.length = n) (eg : Enters g) (hg : Gives w g fs lb vs ps) :
    Calls Tryz.prog 77 #[.slice a n c, .func (.func g) fs lb] w fun e w' => e = .returned (.int .i64 (idx id ps 0)) ∧ Below w.heap.size w w' := by
  have hcap := hs.cap
  have hbig := hs.big
  have HPS := Lib.hid hps
  have HG := Lib.hid hg
  clear hg hps
  unfold Enters at eg
  go_enter Tryz.func77, Tryz.ntmps77
  go_wp2
  go_loopw [5, 8] (fun _ i wr => ∃ k : Nat, k ≤ n ∧ i = .int .i64 k ∧ Below w.heap.size w wr ∧ Hid (idx id ps 0 = idx id (ps.drop k) k)) (fun _ i _ => n - (intOf i).toNat)
  case atStart => exact ⟨0, Nat.zero_le _, rfl, Below.refl _ _, rfl⟩
  case round =>
    obtain ⟨k, hk, rfl, hb, hI⟩ := hrel
    by_cases hlt : k < n
    · obtain ⟨b, o, v, rfl, hbs, hv, hc⟩ := hs.at hlt
      have hcr : wr.cell? ⟨b, o + k, none⟩ = some v := (hb.cell (p := ⟨b, o + k, none⟩) hbs).trans hc
      have HV := Lib.hid hv
      clear hc hv
      obtain ⟨q, hq⟩ : ∃ q, ps[k]? = some q := ⟨_, List.getElem?_eq_getElem (by have := HPS.out; omega)⟩
      have HQ := Lib.hid hq
      clear hq
      cases q
      all_goals
        go_wp2_with fail
        refine (HG.out wr hb k v _ HV.out HQ.out).mono ?_
        rintro e w1 ⟨rfl, hb1⟩
        go_wp2_with fail
      · go_roundw
        case rel => exact ⟨k + 1, by omega, by go_num, hb.trans (hb1.mono hb.size), hI.out.trans (idx_miss ps k HQ.out)⟩
        case measure => simp [intOf]; omega
      · go_ret
        exact ⟨ret_int (by rw [hI.out, idx_hit ps k HQ.out]), hb.trans (hb1.mono hb.size)⟩
    · go_wp2
      go_ret
      exact ⟨ret_int (by rw [hI.out, List.drop_of_length_le (by rw [HPS.out]; omega)]; rfl), hb⟩

set_option maxHeartbeats 400000 in
theorem containsFunc (w : World) (a : Option Addr) (n c : Nat) (vs : List Value) (g : FuncId) (fs lb : Array Value) (ps : List Bool)
    (hs : Sl w a n c vs) (hps : ps.length = n) (eg : Enters g) (hg : Gives w g fs lb vs ps) :
    Calls Tryz.prog 45 #[.slice a n c, .func (.func g) fs lb] w fun e w' => e = .returned (.bool (ps.any id)) ∧ Below w.heap.size w w' := by
  have H := Lib.hid (indexFunc w a n c vs g fs lb ps hs hps eg hg)
  clear hg hs eg hps
  go_enter Tryz.func45, Tryz.ntmps45
  go_wp2_with fail
  refine H.out.mono ?_
  rintro e w1 ⟨rfl, hb1⟩
  generalize hq : idx id ps 0 = q
  have HQ := Lib.hid hq
  clear hq
  go_wp2_with fail
  go_ret
  exact ⟨ret_bool (by rw [← idx_nn id ps 0, HQ.out]), hb1⟩
end SlfR
end Go.Proofs.YtninglnchengeaaGreat

/-
  coi.asked: may it be asked what counts?
-/
namespace Go.Proofs.YtninglnchengeaaGreat
open Go.RowKit Base
set_option linter.unusedVariables false
set_option linter.unusedSimpArgs false
namespace Coi
open Circuit LitsC

theorem eg_ask : SlfR.Enters 42 := enters_of Tryz.func42 (by kernel_rfl) rfl
def strangeL (mx : Int) (l : List Int) : Bool := l.any (oddM mx)

set_option maxHeartbeats 1000000 in
theorem ask1_any (w : World) (N : Nat) (mx : Int) (hm : w.cell? ⟨N, 0, none⟩ = some (.int .i64 mx)) (h0 : 0 ≤ mx) (h1 : mx ≤ 2048) (a : Option Addr) (n c : Nat) (l : List Int) (hsl : Sl w a n c (ints l)) (hl : ∀ y ∈ l, Circuit.I64 y) :
    Calls Tryz.prog 42 #[.slice a n c, .pointer (some ⟨N, 0, none⟩)] w fun e w' => e = .returned (.bool (strangeL mx l)) ∧ Below w.heap.size w w' := by
  have HC := Lib.hid (check_any w a n c l hsl hl mx h0 h1)
  unfold strangeL
  generalize l.any (oddM mx) = q at *
  clear hsl hl h0 h1
  cases q
  all_goals
    go_enter Tryz.func42, Tryz.ntmps42
    go_wp2_with fail
    with_reducible refine HC.out.mono ?_
    rintro e w2 ⟨rfl, hb2⟩
    go_wp2_with fail
    go_ret
    exact ⟨rfl, hb2⟩

/-- What asked tells. -/
noncomputable def askE (x : Circ) (A : List (List Int)) (bad : Int) : Int :=
  if tt (CheckOk x) = true then (if bad < 0 ∨ (x.bads.length : Int) ≤ bad then 4 else if A.any (strangeL x.max) = true then 23 else 0) else 9
theorem askE_no {x : Circ} (h : ¬ CheckOk x) (A : List (List Int)) (bad : Int) : askE x A bad = 9 := by unfold askE; rw [tt_neg h]; rfl
theorem askE_bad {x : Circ} (h : CheckOk x) (A : List (List Int)) {bad : Int} (hb : bad < 0 ∨ (x.bads.length : Int) ≤ bad) : askE x A bad = 4 := by unfold askE; rw [tt_pos h, if_pos rfl, if_pos hb]
theorem askE_kind {x : Circ} (h : CheckOk x) {A : List (List Int)} {bad : Int} (hb : ¬ (bad < 0 ∨ (x.bads.length : Int) ≤ bad)) (hA : A.any (strangeL x.max) = true) : askE x A bad = 23 := by unfold askE; rw [tt_pos h, if_pos rfl, if_neg hb, if_pos hA]
theorem askE_ok {x : Circ} (h : CheckOk x) {A : List (List Int)} {bad : Int} (hb : ¬ (bad < 0 ∨ (x.bads.length : Int) ≤ bad)) (hA : A.any (strangeL x.max) = false) : askE x A bad = 0 := by unfold askE; rw [tt_pos h, if_pos rfl, if_neg hb, if_neg (by rw [hA]; decide)]
theorem askE_zero {x : Circ} {A : List (List Int)} {bad : Int} (h : askE x A bad = 0) : CheckOk x ∧ 0 ≤ bad ∧ bad < x.bads.length ∧ A.any (strangeL x.max) = false := by
  by_cases hc : CheckOk x
  · by_cases hb : bad < 0 ∨ (x.bads.length : Int) ≤ bad
    · rw [askE_bad hc A hb] at h; omega
    · cases hA : A.any (strangeL x.max)
      · exact ⟨hc, by omega, by omega, rfl⟩
      · rw [askE_kind hc hb hA] at h; omega
  · rw [askE_no hc] at h; omega

set_option maxRecDepth 8000 in
set_option maxHeartbeats 4000000 in
theorem asked_any (w : World) (x : Circ) (p : At) (hin : InCirc w x p) (hw : WfC x) (aA : Option Addr) (n cA : Nat) (vals : List Value) (A : List (List Int)) (hA : Sl2 w aA n cA vals A) (hA64 : ∀ y ∈ A.flatten, Circuit.I64 y) (bad : Int) (hb0 : -9223372036854775808 ≤ bad) (hb1 : bad ≤ 9223372036854775807) :
    Calls Tryz.prog 17 #[.agg (cells x p), .slice aA n cA, .int .i64 bad] w fun e w' => e = .returned (.int .i64 (askE x A bad)) ∧ Below w.heap.size w w' := by
  obtain ⟨W1, hW1⟩ : ∃ W1, w.alloc (.cells (cells x p) 27) = W1 := ⟨_, rfl⟩
  obtain ⟨hb1', hc1⟩ := cbox_new w x p W1 hW1
  have HB1 := Lib.hid hb1'
  have HC := Lib.hid (check_any W1 x p (hin.next hb1') hw.ins hw.outs hw.bads hw.invs hw.lats hw.ands hw.mx)
  have HCB := Lib.hid (fun (U : World) (hU : Below W1.heap.size W1 U) => hc1.next hU (Nat.le_refl _))
  have HA := Lib.hid (fun (U : World) (hU : Below W1.heap.size W1 U) => (hA.next hb1').next hU)
  have HA64 := Lib.hid hA64
  have HAL := Lib.hid (hA.len)
  have HLB := Lib.hid (hin.bads.big)
  have k0 := hc1.k0
  have k1 := hc1.k1
  have k2 := hc1.k2
  have k3 := hc1.k3
  have k4 := hc1.k4
  have k5 := hc1.k5
  have k6 := hc1.k6
  have k7 := hc1.k7
  obtain ⟨a1, c1, a2, c2, a3, c3, a4, c4, a5, c5, a6, c6, a7, c7⟩ := p
  simp only [cells] at *
  by_cases hok : CheckOk x
  · rw [chk_pos hok] at HC
    have HOK := Lib.hid hok
    clear hin hw hA hA64 hb1' hc1 hok
    by_cases hlo : bad < 0
    · have HE : Hid (askE x A bad = 4) := askE_bad HOK.out A (Or.inl hlo)
      go_enter Tryz.func17, Tryz.ntmps17
      go_wp2_with fail
      with_reducible refine HC.out.mono ?_
      rintro e w2 ⟨rfl, hb2⟩
      have HB2 := Lib.hid hb2
      clear hb2 k0 k1 k2 k3 k4 k5 k6 k7 hW1
      go_wp2_with fail
      go_ret
      exact ⟨ret_int HE.out.symm, HB1.out.trans (HB2.out.mono HB1.out.size)⟩
    · by_cases hhi : (x.bads.length : Int) ≤ bad
      · have HE : Hid (askE x A bad = 4) := askE_bad HOK.out A (Or.inr hhi)
        go_enter Tryz.func17, Tryz.ntmps17
        go_wp2_with fail
        with_reducible refine HC.out.mono ?_
        rintro e w2 ⟨rfl, hb2⟩
        have HB2 := Lib.hid hb2
        have m4 := (HCB.out w2 hb2).k4
        clear hb2 k0 k1 k2 k3 k4 k5 k6 k7 hW1
        go_wp2_with fail
        go_ret
        exact ⟨ret_int HE.out.symm, HB1.out.trans (HB2.out.mono HB1.out.size)⟩
      · have HN : Hid (¬ (bad < 0 ∨ (x.bads.length : Int) ≤ bad)) := fun h => h.elim hlo hhi
        have HGV := Lib.hid (fun (U : World) (hU : Below W1.heap.size W1 U) => SlfR.containsFunc U aA n cA vals 42 #[] #[.pointer (some ⟨w.heap.size, 0, none⟩)] (A.map (strangeL x.max)) (HA.out U hU).sl (by rw [List.length_map, HAL.out]) eg_ask (by
          intro V hV j v q hv hq
          rw [List.getElem?_map, Option.map_eq_some_iff] at hq
          obtain ⟨l, hl, rfl⟩ := hq
          have hVU := hU.trans (hV.mono hU.size)
          obtain ⟨a', c', rfl, hs⟩ := (HA.out V hVU).row j v l hv hl
          exact ask1_any V w.heap.size x.max (HCB.out V hVU).k0 HOK.out.1.1 HOK.out.1.2.1 a' l.length c' l hs (fun y hy => HA64.out y (List.mem_flatten.2 ⟨l, List.mem_of_getElem? hl, hy⟩))))
        have hany : ((A.map (strangeL x.max)).any id) = A.any (strangeL x.max) := by rw [List.any_map]; rfl
        rw [hany] at HGV
        have hhi2 : bad < (x.bads.length : Int) := by omega
        clear hany
        cases hq : A.any (strangeL x.max)
        · have HE : Hid (askE x A bad = 0) := askE_ok HOK.out HN.out hq
          rw [hq] at HGV
          clear hq
          go_enter Tryz.func17, Tryz.ntmps17
          go_wp2_with fail
          with_reducible refine HC.out.mono ?_
          rintro e w2 ⟨rfl, hb2⟩
          have HB2 := Lib.hid hb2
          have m4 := (HCB.out w2 hb2).k4
          have HG2 := Lib.hid (HGV.out w2 hb2)
          clear hb2 k0 k1 k2 k3 k4 k5 k6 k7 hW1
          go_wp2_with fail
          with_reducible refine HG2.out.mono ?_
          rintro e w3 ⟨rfl, hb3⟩
          go_wp2_with fail
          go_ret
          exact ⟨ret_int HE.out.symm, HB1.out.trans ((HB2.out.trans (hb3.mono HB2.out.size)).mono HB1.out.size)⟩
        · have HE : Hid (askE x A bad = 23) := askE_kind HOK.out HN.out hq
          rw [hq] at HGV
          clear hq
          go_enter Tryz.func17, Tryz.ntmps17
          go_wp2_with fail
          with_reducible refine HC.out.mono ?_
          rintro e w2 ⟨rfl, hb2⟩
          have HB2 := Lib.hid hb2
          have m4 := (HCB.out w2 hb2).k4
          have HG2 := Lib.hid (HGV.out w2 hb2)
          clear hb2 k0 k1 k2 k3 k4 k5 k6 k7 hW1
          go_wp2_with fail
          with_reducible refine HG2.out.mono ?_
          rintro e w3 ⟨rfl, hb3⟩
          go_wp2_with fail
          go_ret
          exact ⟨ret_int HE.out.symm, HB1.out.trans ((HB2.out.trans (hb3.mono HB2.out.size)).mono HB1.out.size)⟩
  · rw [chk_neg hok] at HC
    have HE : Hid (askE x A bad = 9) := askE_no hok A bad
    clear hin hw hA hA64 hb1' hc1 hok
    go_enter Tryz.func17, Tryz.ntmps17
    go_wp2_with fail
    with_reducible refine HC.out.mono ?_
    rintro e w2 ⟨rfl, hb2⟩
    have HB2 := Lib.hid hb2
    clear hb2 k0 k1 k2 k3 k4 k5 k6 k7 hW1
    go_wp2_with fail
    go_ret
    exact ⟨ret_int HE.out.symm, HB1.out.trans (HB2.out.mono HB1.out.size)⟩
end Coi
end Go.Proofs.YtninglnchengeaaGreat

/-
  interlockref01.Within; the law's asked.
-/
namespace Go.Proofs.YtninglnchengeaaGreat
open Go.RowKit Base
set_option linter.unusedVariables false
set_option linter.unusedSimpArgs false
namespace Coi
open Circuit LitsC

set_option maxHeartbeats 1000000 in
theorem within_any (w : World) (mx : Int) (h0 : 0 ≤ mx) (h1 : mx ≤ 2048) (a : Option Addr) (n c : Nat) (l : List Int) (hsl : Sl w a n c (ints l)) (hl : ∀ y ∈ l, Circuit.I64 y) :
    Calls Tryz.prog 31 #[.int .i64 mx, .slice a n c] w fun e w' => e = .returned (.bool (!strangeL mx l)) ∧ w' = w := by
  have HN : Hid (l.length = n) := by have := hsl.len; rwa [ints_len] at this
  have hcap := hsl.cap
  have hbig := hsl.big
  have HSL := Lib.hid hsl
  have HL := Lib.hid hl
  have hm0 : decide (mx < 0) = false := decide_eq_false (by omega)
  have hm1 : decide ((2048 : Int) < mx) = false := decide_eq_false (by omega)
  clear hsl hl
  go_enter Tryz.func31, Tryz.ntmps31
  go_wp2_with fail
  have hw2 : IntKind.i64.wrap (2 * mx) = 2 * mx := IntWalk.i64_in _ (by omega)
  have hw3 : IntKind.i64.wrap (2 * mx + 1) = 2 * mx + 1 := IntWalk.i64_in _ (by omega)
  go_loopw [5] (fun u wr => ∃ j : Nat, j ≤ n ∧ u = .int .i64 j ∧ Hid (∀ i (h : i < l.length), i < j → oddM mx l[i] = false) ∧ wr = w) (fun u _ => n - (intOf u).toNat)
  case atStart => exact ⟨0, Nat.zero_le _, rfl, (fun i _ h => by omega), rfl⟩
  case round =>
    obtain ⟨j, hj, rfl, hI, rfl⟩ := hrel
    by_cases hlt : j < n
    · obtain ⟨b, o, hx, rfl, hbs, e0⟩ := HSL.out.int hlt
      have hy := HL.out l[j] (List.getElem_mem hx)
      have HBAD : Hid (oddM mx l[j] = true → strangeL mx l = true) := fun h => List.any_eq_true.2 ⟨_, List.getElem_mem hx, h⟩
      have HGO : Hid (oddM mx l[j] = false → ∀ i (h : i < l.length), i < j + 1 → oddM mx l[i] = false) := fun h i hi hij => by
        by_cases he : i = j
        · subst he; exact h
        · exact hI.out i hi (by omega)
      have hod : oddM mx l[j] = (decide (l[j] < 0) || decide (2 * mx + 1 < l[j])) := by
        unfold oddM
        rw [Bool.eq_iff_iff]
        simp only [Bool.or_eq_true, decide_eq_true_eq]
        unfold var
        omega
      clear hI
      generalize l[j] = y at *
      clear hx
      by_cases h1 : y < 0
      · have hd : decide (y < 0) = true := decide_eq_true h1
        rw [hd, Bool.true_or] at hod
        have HR := Lib.hid (HBAD.out hod)
        clear hod HBAD HGO h1
        go_wp2_with fail
        go_ret
        exact ⟨ret_bool (by rw [HR.out]; rfl), rfl⟩
      · have hd : decide (y < 0) = false := decide_eq_false h1
        by_cases h2 : 2 * mx + 1 < y
        · have hd2 : decide (2 * mx + 1 < y) = true := decide_eq_true h2
          rw [hd2, Bool.or_true] at hod
          have HR := Lib.hid (HBAD.out hod)
          clear hod HBAD HGO
          go_wp2_with fail
          go_ret
          exact ⟨ret_bool (by rw [HR.out]; rfl), rfl⟩
        · have hd2 : decide (2 * mx + 1 < y) = false := decide_eq_false h2
          rw [hd, hd2, Bool.or_false] at hod
          have HR := Lib.hid (HGO.out hod)
          clear hod HBAD HGO
          go_wp2_with fail
          go_roundw
          case rel => exact ⟨j + 1, by omega, by go_num, HR.out, trivial⟩
          case measure => simp [intOf]; omega
    · have HR : Hid (strangeL mx l = false) := by
        show _ = _
        unfold strangeL
        rw [List.any_eq_false]
        intro y hy
        obtain ⟨i, hi, rfl⟩ := List.getElem_of_mem hy
        rw [hI.out i hi (by have := HN.out; omega)]
        decide
      go_wp2_with fail
      go_ret
      exact ⟨ret_bool (by rw [HR.out]; rfl), rfl⟩

set_option maxRecDepth 8000 in
set_option maxHeartbeats 4000000 in
theorem lawAsked_any (w : World) (x : Circ) (p : At) (hin : InCirc w x p) (hw : WfC x) (aA : Option Addr) (n cA : Nat) (vals : List Value) (A : List (List Int)) (hA : Sl2 w aA n cA vals A) (hA64 : ∀ y ∈ A.flatten, Circuit.I64 y) (bad : Int) (hb0 : -9223372036854775808 ≤ bad) (hb1 : bad ≤ 9223372036854775807)
    (hza : x.ands.length * 24 ≤ 140737488355328) :
    Calls Tryz.prog 9 #[.agg (cells x p), .slice aA n cA, .int .i64 bad] w fun e w' => e = .returned (.int .i64 (askE x A bad)) ∧ Below w.heap.size w w' := by
  obtain ⟨W1, hW1⟩ : ∃ W1, w.alloc (.cells (cells x p) 27) = W1 := ⟨_, rfl⟩
  obtain ⟨hb1', hc1⟩ := cbox_new w x p W1 hW1
  have HB1 := Lib.hid hb1'
  have HC := Lib.hid (refCheck_any W1 x p (hin.next hb1') hw hza)
  rw [refchk_eq] at HC
  have HCB := Lib.hid (fun (U : World) (hU : Below W1.heap.size W1 U) => hc1.next hU (Nat.le_refl _))
  have HA := Lib.hid (fun (U : World) (hU : Below W1.heap.size W1 U) => (hA.next hb1').next hU)
  have HA64 := Lib.hid hA64
  have HAL := Lib.hid (hA.len)
  have hcapA := hA.sl.cap
  have hbigA := hA.sl.big
  have HLB := Lib.hid (hin.bads.big)
  have k0 := hc1.k0
  have k1 := hc1.k1
  have k2 := hc1.k2
  have k3 := hc1.k3
  have k4 := hc1.k4
  have k5 := hc1.k5
  have k6 := hc1.k6
  have k7 := hc1.k7
  obtain ⟨a1, c1, a2, c2, a3, c3, a4, c4, a5, c5, a6, c6, a7, c7⟩ := p
  simp only [cells] at *
  by_cases hok : CheckOk x
  · rw [chk_pos hok] at HC
    have HOK := Lib.hid hok
    clear hin hw hA hA64 hb1' hc1 hok
    by_cases hlo : bad < 0
    · have HE : Hid (askE x A bad = 4) := askE_bad HOK.out A (Or.inl hlo)
      go_enter Tryz.func9, Tryz.ntmps9
      go_wp2_with fail
      with_reducible refine HC.out.mono ?_
      rintro e w2 ⟨rfl, hb2⟩
      have HB2 := Lib.hid hb2
      clear hb2 k0 k1 k2 k3 k4 k5 k6 k7 hW1
      go_wp2_with fail
      go_ret
      exact ⟨ret_int HE.out.symm, HB1.out.trans (HB2.out.mono HB1.out.size)⟩
    · by_cases hhi : (x.bads.length : Int) ≤ bad
      · have HE : Hid (askE x A bad = 4) := askE_bad HOK.out A (Or.inr hhi)
        go_enter Tryz.func9, Tryz.ntmps9
        go_wp2_with fail
        with_reducible refine HC.out.mono ?_
        rintro e w2 ⟨rfl, hb2⟩
        have HB2 := Lib.hid hb2
        have m4 := (HCB.out w2 hb2).k4
        clear hb2 k0 k1 k2 k3 k4 k5 k6 k7 hW1
        go_wp2_with fail
        go_ret
        exact ⟨ret_int HE.out.symm, HB1.out.trans (HB2.out.mono HB1.out.size)⟩
      · have HN : Hid (¬ (bad < 0 ∨ (x.bads.length : Int) ≤ bad)) := fun h => h.elim hlo hhi
        go_enter Tryz.func9, Tryz.ntmps9
        go_wp2_with fail
        with_reducible refine HC.out.mono ?_
        rintro e w2 ⟨rfl, hb2⟩
        have HB2 := Lib.hid hb2
        have m4 := (HCB.out w2 hb2).k4
        clear hb2 k0 k1 k2 k3 k4 k5 k6 k7 hW1
        go_wp2_with fail
        clear m4
        go_loopw [7] (fun u wr => ∃ j : Nat, j ≤ n ∧ u = .int .i64 j ∧ Hid (∀ i (h : i < A.length), i < j → strangeL x.max A[i] = false) ∧ Hid (Below W1.heap.size W1 wr)) (fun u _ => n - (intOf u).toNat)
        case atStart => exact ⟨0, Nat.zero_le _, rfl, (fun i _ h => by omega), HB2.out⟩
        case round =>
          clear HB2
          obtain ⟨j, hj, rfl, hI, hB⟩ := hrel
          by_cases hlt : j < n
          · obtain ⟨b, o, a', c', hx, rfl, hbs, e0, hs0, hv⟩ := (HA.out wr hB.out).at hlt
            have m0 := (HCB.out wr hB.out).k0
            have hy : ∀ y ∈ A[j], Circuit.I64 y := fun y hy => HA64.out y (List.mem_flatten.2 ⟨_, List.getElem_mem hx, hy⟩)
            have HD := Lib.hid (hB.out.trans (Below.refl _ _).drew)
            have HWI := Lib.hid (within_any wr.drew x.max HOK.out.1.1 HOK.out.1.2.1 a' A[j].length c' A[j] (hs0.next (Below.refl _ _).drew) hy)
            have HBAD : Hid (strangeL x.max A[j] = true → askE x A bad = 23) := fun h => askE_kind HOK.out HN.out (List.any_eq_true.2 ⟨_, List.getElem_mem hx, h⟩)
            have HGO : Hid (strangeL x.max A[j] = false → ∀ i (h : i < A.length), i < j + 1 → strangeL x.max A[i] = false) := fun h i hi hij => by
              by_cases he : i = j
              · subst he; exact h
              · exact hI.out i hi (by omega)
            clear hs0 hv hy hI hB
            generalize A[j] = l at *
            clear hx
            by_cases hst : strangeL x.max l = true
            · rw [hst] at HWI
              have HR := Lib.hid (HBAD.out hst)
              clear HBAD HGO hst
              go_upto_region 8 with fail
              refine wp_region_still_tail 6 (by kernel_rfl) (by kernel_rfl) ?_
              simp only [List.take_succ_cons, List.take_zero, List.drop_succ_cons, List.drop_zero]
              repeat still_step
              refine wpStill_nil ?_
              clear m0 e0
              go_wp2_with fail
              with_reducible refine HWI.out.mono ?_
              rintro e w3 ⟨rfl, rfl⟩
              go_wp2_with fail
              go_ret
              exact ⟨ret_int HR.out.symm, HB1.out.trans (HD.out.mono HB1.out.size)⟩
            · have hst : strangeL x.max l = false := by simpa using hst
              rw [hst] at HWI
              have HR := Lib.hid (HGO.out hst)
              clear HBAD HGO hst
              go_upto_region 8 with fail
              refine wp_region_still_tail 6 (by kernel_rfl) (by kernel_rfl) ?_
              simp only [List.take_succ_cons, List.take_zero, List.drop_succ_cons, List.drop_zero]
              repeat still_step
              refine wpStill_nil ?_
              clear m0 e0
              go_wp2_with fail
              with_reducible refine HWI.out.mono ?_
              rintro e w3 ⟨rfl, rfl⟩
              go_wp2_with fail
              go_roundw
              case rel => exact ⟨j + 1, by omega, by go_num, HR.out, HD.out⟩
              case measure => simp [intOf]; omega
          · have HE : Hid (askE x A bad = 0) := askE_ok HOK.out HN.out (by
              rw [List.any_eq_false]
              intro y hy
              obtain ⟨i, hi, rfl⟩ := List.getElem_of_mem hy
              rw [hI.out i hi (by have := HAL.out; omega)]
              decide)
            go_wp2_with fail
            go_ret
            exact ⟨ret_int HE.out.symm, HB1.out.trans (hB.out.mono HB1.out.size)⟩
  · rw [chk_neg hok] at HC
    have HE : Hid (askE x A bad = 9) := askE_no hok A bad
    clear hin hw hA hA64 hb1' hc1 hok
    go_enter Tryz.func9, Tryz.ntmps9
    go_wp2_with fail
    with_reducible refine HC.out.mono ?_
    rintro e w2 ⟨rfl, hb2⟩
    have HB2 := Lib.hid hb2
    clear hb2 k0 k1 k2 k3 k4 k5 k6 k7 hW1
    go_wp2_with fail
    go_ret
    exact ⟨ret_int HE.out.symm, HB1.out.trans (HB2.out.mono HB1.out.size)⟩
end Coi
end Go.Proofs.YtninglnchengeaaGreat

/-
  append(append([]T{}, l...), x): its two makings and two appends, in whatever order they come: their runs. No program's function.
-/
namespace Go.Proofs.YtninglnchengeaaGreat
open Go.RowKit Base
set_option linter.unusedVariables false
set_option linter.unusedSimpArgs false
namespace App2

theorem shape {w : World} {B : Nat} {e : TypeId} {k : Nat} {v : Value} {n : Nat} {xs : List Value} (h : w.ownsRow B e k v n xs) : ∃ a c, v = .slice a n c := by
  rcases h.2 with ⟨rfl, rfl⟩ | ⟨g, cap, cur, rfl, _⟩
  · exact ⟨none, 0, rfl⟩
  · exact ⟨_, _, rfl⟩

/-- append of a slice to a row of one's own: its run. -/
theorem runV {P : Program} {e t : TypeId} {k bytes : Nat} {z : Value} (ty : TypeId) (hk : 0 < k) (hinfo : (P.info? e).map (fun i => (i.zero, i.size, i.bytes)) = some (some z, k, bytes)) (ht : P.underlying t = some (.slice e)) (hzs : z.cells.size = k)
    (V : World) (B : Nat) (hB : B ≤ V.heap.size) (v : Value) (n : Nat) (vs : List (List Value)) (hown : V.ownsRow B e k v n vs.flatten) (ao : Option Addr) (m c : Nat) (us : List (List Value)) (hsl : SlT V k ao m c us) (hur : ∀ r ∈ us, r.length = k)
    (hu : ∀ u ∈ us.flatten, u.oneCell' = true) (hn : (n + m) * bytes ≤ 140737488355328) (hn' : n + m ≤ 9223372036854775807) :
    ∃ a' c' w1, (Builtin.append_ #[t, t] ty #[v, .slice ao m c]).run P V = .ok (.slice a' (n + m) c') w1 ∧ w1.ownsRow B e k (.slice a' (n + m) c') (n + m) (vs ++ us).flatten ∧ V.grownBy w1 v.ownBlock := by
  obtain ⟨i, hi, hz0, hz1, hz2⟩ := info_parts hinfo
  cases ao with
  | none =>
    obtain ⟨rfl, rfl⟩ := hsl.bare rfl
    have hus : us = [] := List.eq_nil_of_length_eq_zero hsl.len
    subst hus
    obtain ⟨a', c', rfl⟩ := shape hown
    exact ⟨a', c', V, run_append_owned_none (P := P) (w := V) B t ty e i k ht hi _ n _ hown, by simpa using hown, ⟨rfl, rfl, rfl, Nat.le_refl _, fun _ _ _ => rfl⟩⟩
  | some ad =>
    have hl : us.flatten.length = m * k := by rw [flat_len hur, hsl.len]
    obtain ⟨v', w1, hr, hown', hgrow, _, _⟩ := run_append_own_at (P := P) V B t ty e i z k bytes ht hi hz0 hz1 hz2 hzs hk v n vs.flatten hown ad m c us.flatten hl (hsl.flat hk) hu (by unfold maxLen; omega) hn hB
    obtain ⟨a', c', rfl⟩ := shape hown'
    exact ⟨a', c', w1, hr, by rw [List.flatten_append]; exact hown', hgrow⟩

theorem sl_grown {w w' : World} {k n c : Nat} {vs : List (List Value)} {g : Nat} (h : SlT w k (some ⟨g, 0, none⟩) n c vs) {ob : Option Nat} (hg : w.grownBy w' ob) (hne : some g ≠ ob) : SlT w' k (some ⟨g, 0, none⟩) n c vs :=
  ⟨h.len, h.cap, h.big, h.bare, fun i r hi => by
    obtain ⟨hl, b, o, ha, hs, hc⟩ := h.cell i r hi
    simp only [Option.some.injEq, Addr.mk.injEq] at ha
    obtain ⟨rfl, rfl, _⟩ := ha
    exact ⟨hl, g, 0, rfl, Nat.lt_of_lt_of_le hs hg.size, fun j x hx => (World.cell?_of_block (w := w) (a := ⟨g, 0 + i * k + j, none⟩) (hg.block g hs hne)).trans (hc j x hx)⟩⟩

theorem sl_one (w : World) (N : List Value) (e : TypeId) (k : Nat) (hN : N.length = k) : SlT (w.alloc (.cells N.toArray e)) k (some ⟨w.heap.size, 0, none⟩) 1 1 [N] :=
  ⟨rfl, Nat.le_refl _, by omega, fun h => (by cases h), fun i r hi => by
    obtain ⟨hi0, rfl⟩ := List.getElem?_eq_some_iff.1 hi
    have hi1 : i = 0 := by simp at hi0; omega
    subst hi1
    refine ⟨hN, w.heap.size, 0, rfl, by simp, fun j x hx => ?_⟩
    rw [World.cell?_alloc_new]
    simp at hx ⊢
    exact hx⟩

theorem exec_append {P : Program} {w : World} {o : Oper} {a : Act} {s x : Operand} {t : TypeId} {v vx v' : Value} {w' : World}
    (ho : o.op = .call { callee := .builtin .append, args := #[s, x], argTypes := #[t, t] }) (hs : a.eval s = v) (hx : a.eval x = vx)
    (hr : (Builtin.append_ #[t, t] o.type #[v, vx]).run P w = .ok v' w') : (execOp a.eval o).run P w = .ok (.value v') w' := by
  unfold execOp
  simp only [ho, resolve, invoke, builtin, Sem.run_bind, Sem.run_pure, Result.andThen_ok, List.map_toArray, List.map_cons, List.map_nil, hs, hx, hr]

def Good (U w : World) (B : Nat) (e : TypeId) (k m : Nat) (rows : List (List Value)) (A : Option Addr) (C : Nat) : Prop :=
  w.ownsRow B e k (.slice A (m + 1) C) (m + 1) rows.flatten ∧ Below B U w

theorem app2 {P : Program} {e t : TypeId} {k bytes : Nat} {z : Value} (ty : TypeId) (hk : 0 < k) (hinfo : (P.info? e).map (fun i => (i.zero, i.size, i.bytes)) = some (some z, k, bytes)) (ht : P.underlying t = some (.slice e)) (hzs : z.cells.size = k)
    (U : World) (ao : Option Addr) (m c : Nat) (us : List (List Value)) (hsl : SlT U k ao m c us) (hur : ∀ r ∈ us, r.length = k) (hu : ∀ u ∈ us.flatten, u.oneCell' = true)
    (N : List Value) (hN : N.length = k) (hN1 : ∀ u ∈ N, u.oneCell' = true) (hn : (m + 1) * bytes ≤ 140737488355328) (hn' : m + 1 ≤ 9223372036854775807) :
    (∃ A1 C1 w2, (Builtin.append_ #[t, t] ty #[.slice (some ⟨U.heap.size, 0, none⟩) 0 0, .slice ao m c]).run P (U.alloc (.cells #[] e)) = .ok (.slice A1 m C1) w2 ∧ Below U.heap.size U w2 ∧
      ∃ A2 C2 w4, (Builtin.append_ #[t, t] ty #[.slice A1 m C1, .slice (some ⟨w2.heap.size, 0, none⟩) 1 1]).run P (w2.alloc (.cells N.toArray e)) = .ok (.slice A2 (m + 1) C2) w4 ∧ Good U w4 U.heap.size e k m (us ++ [N]) A2 C2) ∧
    (∃ A1 C1 w2, (Builtin.append_ #[t, t] ty #[.slice (some ⟨U.heap.size, 0, none⟩) 0 0, .slice ao m c]).run P ((U.alloc (.cells #[] e)).alloc (.cells N.toArray e)) = .ok (.slice A1 m C1) w2 ∧ Below U.heap.size U w2 ∧
      ∃ A2 C2 w4, (Builtin.append_ #[t, t] ty #[.slice A1 m C1, .slice (some ⟨U.heap.size + 1, 0, none⟩) 1 1]).run P w2 = .ok (.slice A2 (m + 1) C2) w4 ∧ Good U w4 U.heap.size e k m (us ++ [N]) A2 C2) ∧
    (∃ A1 C1 w2, (Builtin.append_ #[t, t] ty #[.slice (some ⟨U.heap.size + 1, 0, none⟩) 0 0, .slice ao m c]).run P ((U.alloc (.cells N.toArray e)).alloc (.cells #[] e)) = .ok (.slice A1 m C1) w2 ∧ Below U.heap.size U w2 ∧
      ∃ A2 C2 w4, (Builtin.append_ #[t, t] ty #[.slice A1 m C1, .slice (some ⟨U.heap.size, 0, none⟩) 1 1]).run P w2 = .ok (.slice A2 (m + 1) C2) w4 ∧ Good U w4 U.heap.size e k m (us ++ [N]) A2 C2) := by
  have hm : (0 + m) * bytes ≤ 140737488355328 := by
    rw [Nat.zero_add]; exact Nat.le_trans (Nat.mul_le_mul_right _ (Nat.le_succ m)) hn
  have s1 : (U.alloc (.cells #[] e)).heap.size = U.heap.size + 1 := by simp
  have s2 : (U.alloc (.cells N.toArray e)).heap.size = U.heap.size + 1 := by simp
  have b1 : Below U.heap.size U (U.alloc (.cells #[] e)) := (Below.refl _ _).alloc (Nat.le_refl _) _
  have b2 : Below U.heap.size U (U.alloc (.cells N.toArray e)) := (Below.refl _ _).alloc (Nat.le_refl _) _
  have hone : ∀ u ∈ [N].flatten, u.oneCell' = true := fun u hu' => hN1 u (by simpa using hu')
  have hrow : ∀ r ∈ [N], r.length = k := fun r hr => by rw [List.mem_singleton.1 hr]; exact hN
  have o1 : (U.alloc (.cells #[] e)).ownsRow U.heap.size e k (.slice (some ⟨U.heap.size, 0, none⟩) 0 0) 0 ([] : List (List Value)).flatten :=
    World.ownsRow_lit U #[] 0 (Nat.le_refl _) (by unfold maxLen; omega) (by simp)
  have e1 : ∀ (v : Value) (ws : List (List Value)) (w : World), w.ownsRow U.heap.size e k v (0 + m) ([] ++ ws).flatten → w.ownsRow U.heap.size e k v m ws.flatten := fun v ws w h => by simpa using h
  refine ⟨?_, ?_, ?_⟩
  · obtain ⟨A1, C1, w2, r1, own1, g1⟩ := runV (P := P) ty hk hinfo ht hzs _ U.heap.size (by omega) _ 0 [] o1 ao m c us (hsl.next b1) hur hu hm (by omega)
    rw [Nat.zero_add] at r1 own1
    have bw2 : Below U.heap.size U w2 := b1.grown g1 (by omega) fun q hq => by simp [Value.ownBlock] at hq; omega
    have o2 : w2.ownsRow U.heap.size e k (.slice A1 m C1) m us.flatten := by simpa using own1
    obtain ⟨A2, C2, w4, r2, own2, g2⟩ := runV (P := P) ty hk hinfo ht hzs (w2.alloc (.cells N.toArray e)) U.heap.size (by simp; have := bw2.size; omega) _ m us (o2.alloc _) (some ⟨w2.heap.size, 0, none⟩) 1 1 [N] (sl_one w2 N e k hN) hrow hone hn hn'
    exact ⟨A1, C1, w2, r1, bw2, A2, C2, w4, r2, own2, (bw2.alloc bw2.size _).grown g2 (by simp; have := bw2.size; omega) fun q hq => (o2.lt q hq).1⟩
  · have o1' := o1.alloc (.cells N.toArray e)
    have hs2 : SlT ((U.alloc (.cells #[] e)).alloc (.cells N.toArray e)) k (some ⟨U.heap.size + 1, 0, none⟩) 1 1 [N] := by
      have h := sl_one (U.alloc (.cells #[] e)) N e k hN
      rw [s1] at h; exact h
    have b12 : Below U.heap.size U ((U.alloc (.cells #[] e)).alloc (.cells N.toArray e)) := b1.alloc (by omega) _
    obtain ⟨A1, C1, w2, r1, own1, g1⟩ := runV (P := P) ty hk hinfo ht hzs _ U.heap.size b12.size _ 0 [] o1' ao m c us (hsl.next b12) hur hu hm (by omega)
    rw [Nat.zero_add] at r1 own1
    have bw2 : Below U.heap.size U w2 := b12.grown g1 b12.size fun q hq => by simp [Value.ownBlock] at hq; omega
    have o2 : w2.ownsRow U.heap.size e k (.slice A1 m C1) m us.flatten := by simpa using own1
    have hs3 := sl_grown hs2 g1 (by simp [Value.ownBlock])
    obtain ⟨A2, C2, w4, r2, own2, g2⟩ := runV (P := P) ty hk hinfo ht hzs w2 U.heap.size bw2.size _ m us o2 (some ⟨U.heap.size + 1, 0, none⟩) 1 1 [N] hs3 hrow hone hn hn'
    exact ⟨A1, C1, w2, r1, bw2, A2, C2, w4, r2, own2, bw2.grown g2 bw2.size fun q hq => (o2.lt q hq).1⟩
  · have o1' : ((U.alloc (.cells N.toArray e)).alloc (.cells #[] e)).ownsRow U.heap.size e k (.slice (some ⟨U.heap.size + 1, 0, none⟩) 0 0) 0 ([] : List (List Value)).flatten := by
      have h := World.ownsRow_lit (base := U.heap.size) (size := k) (e := e) (U.alloc (.cells N.toArray e)) #[] 0 (by omega) (by unfold maxLen; omega) (by simp)
      rw [s2] at h; exact h
    have hs2 : SlT ((U.alloc (.cells N.toArray e)).alloc (.cells #[] e)) k (some ⟨U.heap.size, 0, none⟩) 1 1 [N] := (sl_one U N e k hN).next ((Below.refl _ _).alloc (Nat.le_refl _) _)
    have b12 : Below U.heap.size U ((U.alloc (.cells N.toArray e)).alloc (.cells #[] e)) := b2.alloc (by omega) _
    obtain ⟨A1, C1, w2, r1, own1, g1⟩ := runV (P := P) ty hk hinfo ht hzs _ U.heap.size b12.size _ 0 [] o1' ao m c us (hsl.next b12) hur hu hm (by omega)
    rw [Nat.zero_add] at r1 own1
    have bw2 : Below U.heap.size U w2 := b12.grown g1 b12.size fun q hq => by simp [Value.ownBlock] at hq; omega
    have o2 : w2.ownsRow U.heap.size e k (.slice A1 m C1) m us.flatten := by simpa using own1
    have hs3 := sl_grown hs2 g1 (by simp [Value.ownBlock])
    obtain ⟨A2, C2, w4, r2, own2, g2⟩ := runV (P := P) ty hk hinfo ht hzs w2 U.heap.size bw2.size _ m us o2 (some ⟨U.heap.size, 0, none⟩) 1 1 [N] hs3 hrow hone hn hn'
    exact ⟨A1, C1, w2, r1, bw2, A2, C2, w4, r2, own2, bw2.grown g2 bw2.size fun q hq => (o2.lt q hq).1⟩
/-- Elements of one cell. -/
theorem sl_t1 {w : World} {a : Option Addr} {n c : Nat} {vs : List Value} (h : Sl w a n c vs) : SlT w 1 a n c (vs.map fun v => [v]) :=
  ⟨by rw [List.length_map]; exact h.len, h.cap, h.big, h.bare, fun i r hi => by
    rw [List.getElem?_map, Option.map_eq_some_iff] at hi
    obtain ⟨v, hv, rfl⟩ := hi
    obtain ⟨b, o, ha, hs, hc⟩ := h.cell i v hv
    refine ⟨rfl, b, o, ha, hs, fun j x hx => ?_⟩
    have hj : j = 0 := by have := (List.getElem?_eq_some_iff.1 hx).1; simp at this; omega
    subst hj
    simp only [List.getElem?_cons_zero, Option.some.injEq] at hx
    subst hx
    rw [Nat.mul_one, Nat.add_zero]
    exact hc⟩
theorem flat1 (vs : List Value) : (vs.map fun v => [v]).flatten = vs := by
  induction vs with
  | nil => rfl
  | cons x r ih => rw [List.map_cons, List.flatten_cons, ih]; rfl
end App2
end Go.Proofs.YtninglnchengeaaGreat

/-
  A region that draws its order, with loads and operations that make memory: a condition S on the world that every operation keeps; a load under S may be taken first. No program's function.
-/
namespace Go.Proofs.YtninglnchengeaaGreat
open Go.RowKit
set_option linter.unusedVariables false
namespace HeldAll

section
variable {P : Program} {ops : Array Oper} {Q : Exit → Act → World → Prop} {md : Region.Mode} {S : World → Prop}

def wpAnyH (P : Program) (md : Region.Mode) (ops : Array Oper) (Q : Exit → Act → World → Prop) (S : World → Prop) : Nat → Array Bool → Act → World → Prop
  | 0, listed, a, w => Region.ready md ops listed = [] ∧ Q .normal a w
  | fuel + 1, listed, a, w =>
    (Region.ready md ops listed = [] → Q .normal a w) ∧
    ∀ i ∈ Region.ready md ops listed, wpOp P ops Q i (fun a' w' => S w' ∧ wpAnyH P md ops Q S fuel (listed.setIfInBounds i true) a' w') a w

theorem wpAny_of_H : ∀ (fuel : Nat) (listed : Array Bool) (a : Act) (w : World), wpAnyH P md ops Q S fuel listed a w → wpAny P md ops Q fuel listed a w
  | 0, _, _, _, h => h
  | fuel + 1, _, _, _, h => ⟨h.1, fun i hi => wpOp_mono (fun a' w' h' => wpAny_of_H fuel _ a' w' h'.2) (h.2 i hi)⟩

theorem first {i : Nat} {oi : Oper} {v : Value} (hi : ops[i]? = some oi) (hsel : ∀ (j : Nat) (o : Oper) cs b, ops[j]? = some o → o.op ≠ .select cs b)
    (hQ : ∀ c a w, Q (.panic c) (a.put oi.dst v) w → Q (.panic c) a w) :
    ∀ (fuel : Nat) (listed : Array Bool) (a : Act) (w : World),
      (∀ j oj, ops[j]? = some oj → j ≠ i → listed.getD j true = false → (∀ e ∈ oj.after, Region.binds md e = true → e.on ≠ i) → oi.apart ops oj = true) →
      i ∈ Region.ready md ops listed → YieldsIf P ops S oi v a → S w →
      wpAnyH P md ops Q S fuel (listed.setIfInBounds i true) (a.put oi.dst v) w → wpAnyH P md ops Q S (fuel + 1) listed a w := by
  intro fuel
  induction fuel with
  | zero =>
    intro listed a w _ hr hy hS H
    refine ⟨fun h => (by rw [h] at hr; cases hr), fun j hj => ?_⟩
    by_cases hji : j = i
    · subst hji; exact hy.wpOp hi hS ⟨hS, H⟩
    · have := ready_mono hj hji
      rw [H.1] at this
      cases this
  | succ fuel ih =>
    intro listed a w hfree hr hy hS H
    refine ⟨fun h => (by rw [h] at hr; cases hr), fun j hj => ?_⟩
    by_cases hji : j = i
    · subst hji; exact hy.wpOp hi hS ⟨hS, H⟩
    · have h1 := H.2 j (ready_mono hj hji)
      obtain ⟨hjun, oj, hoj, hall⟩ := mem_ready.1 hj
      have hnot : ∀ e ∈ oj.after, Region.binds md e = true → e.on ≠ i := fun e he hb heq => by
        have h1 := hall e he hb
        have h0 := (mem_ready.1 hr).1
        rw [heq] at h1
        rcases Nat.lt_or_ge i listed.size with h' | h'
        · simp [h'] at h0 h1; rw [h0] at h1; cases h1
        · simp [Array.getElem?_eq_none h'] at h1
      have h2 := wpOp_putIf hoj (hfree j oj hoj hji hjun hnot) (fun cs b => hsel i oi cs b hi) (fun cs b => hsel j oj cs b hoj) hQ hy h1
      have hfree' : ∀ k ok, ops[k]? = some ok → k ≠ i → (listed.setIfInBounds j true).getD k true = false →
          (∀ e ∈ ok.after, Region.binds md e = true → e.on ≠ i) → oi.apart ops ok = true := fun k ok hk hki hun hno => by
        refine hfree k ok hk hki ?_ hno
        by_cases hjk : j = k
        · subst hjk; exact hjun
        · rw [getD_set_ne true hjk] at hun; exact hun
      refine wpOp_mono (fun a' w' h3 => ⟨h3.2.1, ih (listed.setIfInBounds j true) a' w' hfree' (ready_mono hr (Ne.symm hji)) h3.1 h3.2.1 ?_⟩) h2
      rw [Array.setIfInBounds_comm _ _ hji]
      exact h3.2.2

/-- A load, or whatever yields under S, is taken first. -/
theorem take {i : Nat} {oi : Oper} {v : Value} {d : Option Tmp} {fuel : Nat} {listed : Array Bool} {a : Act} {w : World} (hi : ops[i]? = some oi) (hd : oi.dst = d)
    (hs : Region.noSelect ops = true) (hf : Region.free md ops listed i = true) (hr : (Region.ready md ops listed).contains i = true)
    (hQ : ∀ c a w, Q (.panic c) (a.put oi.dst v) w → Q (.panic c) a w) (hy : YieldsIf P ops S oi v a) (hS : S w)
    (h : wpAnyH P md ops Q S fuel (listed.setIfInBounds i true) (a.put d v) w) : wpAnyH P md ops Q S (fuel + 1) listed a w := by
  subst hd
  exact first hi (Region.noSelect_spec hs) hQ fuel listed a w (Region.free_spec hi hf) (by simpa using hr) hy hS h

def Nx (P : Program) (md : Region.Mode) (ops : Array Oper) (Q : Exit → Act → World → Prop) (S : World → Prop) (fuel : Nat) (listed : Array Bool) (i : Nat) (a : Act) (w : World) : Prop :=
  S w ∧ wpAnyH P md ops Q S fuel (listed.setIfInBounds i true) a w

theorem two {i j : Nat} {fuel : Nat} {listed : Array Bool} {a : Act} {w : World} (hr : Region.ready md ops listed = [i, j])
    (h1 : wpOp P ops Q i (Nx P md ops Q S fuel listed i) a w) (h2 : wpOp P ops Q j (Nx P md ops Q S fuel listed j) a w) : wpAnyH P md ops Q S (fuel + 1) listed a w := by
  refine ⟨fun h0 => absurd (hr ▸ h0) (by simp), ?_⟩
  rw [hr]
  intro k hk
  simp only [List.mem_cons, List.not_mem_nil, or_false] at hk
  rcases hk with rfl | rfl
  · exact h1
  · exact h2
theorem three {i j k : Nat} {fuel : Nat} {listed : Array Bool} {a : Act} {w : World} (hr : Region.ready md ops listed = [i, j, k])
    (h1 : wpOp P ops Q i (Nx P md ops Q S fuel listed i) a w) (h2 : wpOp P ops Q j (Nx P md ops Q S fuel listed j) a w) (h3 : wpOp P ops Q k (Nx P md ops Q S fuel listed k) a w) : wpAnyH P md ops Q S (fuel + 1) listed a w := by
  refine ⟨fun h0 => absurd (hr ▸ h0) (by simp), ?_⟩
  rw [hr]
  intro q hq
  simp only [List.mem_cons, List.not_mem_nil, or_false] at hq
  rcases hq with rfl | rfl | rfl
  · exact h1
  · exact h2
  · exact h3
theorem one {i : Nat} {fuel : Nat} {listed : Array Bool} {a : Act} {w : World} (hr : Region.ready md ops listed = [i])
    (h1 : wpOp P ops Q i (Nx P md ops Q S fuel listed i) a w) : wpAnyH P md ops Q S (fuel + 1) listed a w := by
  refine ⟨fun h0 => absurd (hr ▸ h0) (by simp), ?_⟩
  rw [hr]
  intro k hk
  simp only [List.mem_cons, List.not_mem_nil, or_false] at hk
  subst hk
  exact h1

theorem opCall {i : Nat} {oi : Oper} {d : Option Tmp} {fuel : Nat} {listed : Array Bool} {a : Act} {w : World} {f : FuncId} {args : Array Value} {R : Value → World → Prop} (hi : ops[i]? = some oi) (hd : oi.dst = d)
    (hw : Region.wanted oi (yielded ops a.tmps) = true) (hv : (execOp a.eval oi).run P w = .ok (.enter f args) w) (hc : Calls P f args w (fun e w'' => ∃ v, e = .returned v ∧ R v w''))
    (h : ∀ v w', R v w' → S w' ∧ wpAnyH P md ops Q S fuel (listed.setIfInBounds i true) (a.put d v) w') : wpOp P ops Q i (Nx P md ops Q S fuel listed i) a w := by
  subst hd
  unfold wpOp
  simp only [hi, hw, if_true]
  refine .inl ?_
  unfold Oper.wp
  rw [hv]
  simp only [Oper.upon]
  refine hc.mono fun e w'' ⟨v, he, hR⟩ => ?_
  subst he
  exact h v w'' hR

theorem opVal {i : Nat} {oi : Oper} {d : Option Tmp} {v : Value} {fuel : Nat} {listed : Array Bool} {a : Act} {w w2 : World} (hi : ops[i]? = some oi) (hd : oi.dst = d)
    (hw : Region.wanted oi (yielded ops a.tmps) = true) (hv : (execOp a.eval oi).run P w = .ok (.value v) w2) (hS : S w2)
    (h : wpAnyH P md ops Q S fuel (listed.setIfInBounds i true) (a.put d v) w2) : wpOp P ops Q i (Nx P md ops Q S fuel listed i) a w := by
  subst hd
  unfold wpOp
  simp only [hi, hw, if_true]
  refine .inl ?_
  unfold Oper.wp
  rw [hv]
  simp only [Oper.upon]
  exact ⟨hS, h⟩

theorem opStore {i : Nat} {oi : Oper} {d : Option Tmp} {fuel : Nat} {listed : Array Bool} {a : Act} {w w2 : World} (hi : ops[i]? = some oi) (hd : oi.dst = d)
    (hw : Region.wanted oi (yielded ops a.tmps) = true) (hv : (execOp a.eval oi).run P w = .ok .skip w2) (hS : S w2)
    (h : wpAnyH P md ops Q S fuel (listed.setIfInBounds i true) (a.put d undef) w2) : wpOp P ops Q i (Nx P md ops Q S fuel listed i) a w := by
  subst hd
  unfold wpOp
  simp only [hi, hw, if_true]
  refine .inl ?_
  unfold Oper.wp
  rw [hv]
  simp only [Oper.upon]
  exact ⟨hS, h⟩

theorem done {listed : Array Bool} {a : Act} {w : World} (hr : Region.ready md ops listed = []) (h : Q .normal a w) :
    ∀ fuel, wpAnyH P md ops Q S fuel listed a w
  | 0 => ⟨hr, h⟩
  | _ + 1 => ⟨fun _ => h, by rw [hr]; simp⟩

theorem region {id : Nat} {l : List Oper} {a : Act} {w : World} (S : World → Prop) (hm : P.follows .mixedOrders = true)
    (h : wpAnyH P .any l.toArray Q S l.toArray.size (Array.replicate l.toArray.size false) a w.drew) : (Code.region id l.toArray true).wp P Q a w :=
  wp_region_any hm (wpAny_of_H _ _ _ _ h)
end
end HeldAll
end Go.Proofs.YtninglnchengeaaGreat

/-
  The law's needed.
-/
namespace Go.Proofs.YtninglnchengeaaGreat
open Go.RowKit Base
set_option linter.unusedVariables false
set_option linter.unusedSimpArgs false
namespace Coi
open Circuit RefS App2

theorem info_i1 : (Tryz.prog.info? 3).map (fun i => (i.zero, i.size, i.bytes)) = some (some (.int .i64 0), 1, 8) := by kernel_rfl
/-- append of one to nothing, then of a list. -/
theorem one_all (U : World) (bl : Int) (ao : Option Addr) (m c : Nat) (us : List Int) (hsl : Sl U ao m c (ints us)) (hm : m ≤ 100000000) :
    ∃ A1 C1 w2, (Builtin.append_ #[22, 22] 22 #[.slice none 0 0, .slice (some ⟨U.heap.size, 0, none⟩) 1 1]).run Tryz.prog (U.alloc (.cells #[.int .i64 bl] 3)) = .ok (.slice A1 1 C1) w2 ∧ Below U.heap.size U w2 ∧
      ∃ A2 C2 w4, (Builtin.append_ #[22, 22] 22 #[.slice A1 1 C1, .slice ao m c]).run Tryz.prog w2 = .ok (.slice A2 (1 + m) C2) w4 ∧ w4.ownsRow U.heap.size 3 1 (.slice A2 (1 + m) C2) (1 + m) (ints ([bl] ++ us)) ∧ Below U.heap.size U w4 := by
  have b1 : Below U.heap.size U (U.alloc (.cells #[.int .i64 bl] 3)) := (Below.refl _ _).alloc (Nat.le_refl _) _
  have o0 : (U.alloc (.cells #[.int .i64 bl] 3)).ownsRow U.heap.size 3 1 (.slice none 0 0) 0 ([] : List (List Value)).flatten := World.ownsRow_nil _ _ _ _
  obtain ⟨A1, C1, w2, r1, own1, g1⟩ := runV (P := Tryz.prog) 22 (by decide) info_i1 Tryz.underlying22 rfl _ U.heap.size b1.size _ 0 [] o0 (some ⟨U.heap.size, 0, none⟩) 1 1 [[.int .i64 bl]] (sl_one U [.int .i64 bl] 3 1 rfl) (by simp) (by simp [Value.oneCell']) (by omega) (by omega)
  have bw2 : Below U.heap.size U w2 := b1.grown g1 b1.size fun q hq => by simp [Value.ownBlock] at hq
  have o2 : w2.ownsRow U.heap.size 3 1 (.slice A1 1 C1) 1 ([[.int .i64 bl]] : List (List Value)).flatten := by simpa using own1
  obtain ⟨A2, C2, w4, r2, own2, g2⟩ := runV (P := Tryz.prog) 22 (by decide) info_i1 Tryz.underlying22 rfl w2 U.heap.size bw2.size _ 1 _ o2 ao m c ((ints us).map fun v => [v]) (sl_t1 (hsl.next bw2)) (fun r hr => by obtain ⟨v, hv, rfl⟩ := List.mem_map.1 hr; rfl) (fun u hu => by obtain ⟨l, hl, hu⟩ := List.mem_flatten.1 hu; obtain ⟨v, hv, rfl⟩ := List.mem_map.1 hl; rw [List.mem_singleton.1 hu]; exact Base.ints_one _ v hv) (by omega) (by omega)
  refine ⟨A1, C1, w2, by simpa using r1, bw2, A2, C2, w4, r2, ?_, bw2.grown g2 bw2.size fun q hq => (o2.lt q hq).1⟩
  have e1 : ∀ l : List Value, (l.map fun v => [v]).flatten = l := fun l => by induction l with
    | nil => rfl
    | cons v r ih => rw [List.map_cons, List.flatten_cons, ih]; rfl
  have e : ([[Value.int .i64 bl]] ++ (ints us).map fun v => [v]).flatten = ints ([bl] ++ us) := by
    rw [List.flatten_append, e1]
    rfl
  rw [← e]
  exact own2

theorem sl_far {w w' : World} {a : Option Addr} {n c : Nat} {vs : List Value} (h : Sl w a n c vs) {ob : Option Nat} (hg : w.grownBy w' ob) (hne : ∀ b o, a = some ⟨b, o, none⟩ → some b ≠ ob) : Sl w' a n c vs :=
  ⟨h.len, h.cap, h.big, h.bare, fun k v hv => by
    obtain ⟨b, o, ha, hs, hc⟩ := h.cell k v hv
    exact ⟨b, o, ha, Nat.lt_of_lt_of_le hs hg.size, (World.cell?_of_block (w := w) (a := ⟨b, o + k, none⟩) (hg.block b hs (hne b o ha))).trans hc⟩⟩
theorem lat_in {x : Circ} (hok : CheckOk x) {t : Tri} (ht : t ∈ x.lats) : 0 ≤ t.1 ∧ t.1 ≤ 9223372036854775807 := by
  have h1 := ((StrashP.ownOk_iff.1 hok.2.1.1).1 t.1 (by unfold ownL; exact List.mem_append_left _ (List.mem_append_right _ (List.mem_map.2 ⟨t, ht, rfl⟩))))
  have h2 := hok.1.2.1
  have h3 := h1.2.2
  have h4 := h1.1
  unfold var at h3
  omega
theorem lits_in {x : Circ} (hok : CheckOk x) (hw : WfC x) : (∀ y ∈ x.bads, 0 ≤ y ∧ y ≤ 9223372036854775807) ∧ (∀ y ∈ x.invs, 0 ≤ y ∧ y ≤ 9223372036854775807) ∧ (∀ t ∈ x.lats, 0 ≤ t.2.1 ∧ t.2.1 ≤ 9223372036854775807) := by
  obtain ⟨_, _, _, _, _, hl, _, _, _, _, hb, hi⟩ := (check_iff x).1 hok
  exact ⟨fun y hy => ⟨(hb.1 y hy).1, (hw.bads y hy).2⟩, fun y hy => ⟨(hi.1 y hy).1, (hw.invs y hy).2⟩, fun t ht => ⟨(hl t ht).2.1, (hw.lats t ht).2.1.2⟩⟩

theorem wpL_pushW {P : Program} {w : World} {ops : Array Oper} {rest : List Oper} {dst : Option Tmp} {ty : TypeId} {pos : String} {af : Array Edge} {a : Act} {Q : Exit → Act → World → Prop}
    {s x : Operand} {t e : TypeId} {z : Value} {bytes : Nat} (B : Nat) (w0 : World) (u : Value) (v : Value) (n : Nat) (vs : List Value)
    (hinfo : (P.info? e).map (fun i => (i.zero, i.size, i.bytes)) = some (some z, 1, bytes)) (ht : P.underlying t = some (.slice e)) (hzs : z.cells.size = 1)
    (hw : w = w0.alloc (.cells #[u] e)) (hs : a.eval s = v) (hx : a.eval x = .slice (some ⟨w0.heap.size, 0, none⟩) 1 1) (hu : u.oneCell' = true)
    (hown : w0.ownsRow B e 1 v n vs) (hB : B ≤ w0.heap.size) (hn : (n + 1) * bytes ≤ 140737488355328) (hn' : n + 1 ≤ 9223372036854775807)
    (hK : ∀ a' c w1, w1.ownsRow B e 1 (.slice a' (n + 1) c) (n + 1) (vs ++ [u]) → w0.grownBy w1 v.ownBlock → (Value.slice a' (n + 1) c).ownBlock = v.ownBlock ∨ (Value.slice a' (n + 1) c).ownBlock = some (w0.heap.size + 1) → wpList P ops Q rest (a.put dst (.slice a' (n + 1) c)) w1) :
    wpList P ops Q (⟨dst, .call { callee := .builtin .append, args := #[s, x], argTypes := #[t, t] }, ty, pos, af, none⟩ :: rest) a w := by
  obtain ⟨i, hi, hz0, hz1, hz2⟩ := info_parts hinfo
  subst hw
  obtain ⟨v', w1, hr, hown', hgrow, _, hob⟩ := run_append_own_at (P := P) (w0.alloc (.cells #[u] e)) B t ty e i z 1 bytes ht hi hz0 hz1 hz2 hzs (by decide) v n vs (hown.alloc _) ⟨w0.heap.size, 0, none⟩ 1 1 [u] rfl
    (cell_one_new _ _ _) (by intro q hq; simp at hq; subst hq; exact hu) (by unfold maxLen; omega) hn (by simp; omega)
  obtain ⟨a', c, rfl, _⟩ := own_sl hown'
  refine Lib.wpList_append_run _ rfl _ _ _ _ rfl _ _ hs hx _ _ hr ?_
  exact hK a' c w1 hown' (grown_alC hgrow) (by simpa using hob)

set_option maxRecDepth 8000 in
set_option maxHeartbeats 8000000 in
theorem lawNeeded_any (w : World) (x : Circ) (p : At) (hin : InCirc w x p) (hw : WfC x) (hok : CheckOk x) (aA : Option Addr) (n cA : Nat) (vals : List Value) (A : List (List Int)) (hA : Sl2 w aA n cA vals A) (hA64 : ∀ y ∈ A.flatten, 0 ≤ y ∧ y ≤ 9223372036854775807) (k : Nat) (hk : k < x.bads.length)
    (hz1 : A.flatten.length ≤ 4000000) (hz2 : x.ands.length ≤ 4000000) :
    Calls Tryz.prog 11 #[.agg (cells x p), .slice aA n cA, .int .i64 k] w fun e w' => ∃ a' c' T, e = .returned (.slice a' T.length c') ∧ w'.ownsRow w.heap.size 3 1 (.slice a' T.length c') T.length (ints T) ∧ T.Pairwise (· < ·) ∧ (∀ v, v ∈ T ↔ v ≠ 0 ∧ NR x (A.flatten ++ x.invs ++ [x.bads[k]]) v) ∧ Below w.heap.size w w' := by
  obtain ⟨W1, hW1⟩ : ∃ W1, w.alloc (.cells (cells x p) 27) = W1 := ⟨_, rfl⟩
  obtain ⟨hb1, hc1⟩ := cbox_new w x p W1 hW1
  have HB1 := Lib.hid hb1
  have HCB := Lib.hid (fun (U : World) (hU : Below W1.heap.size W1 U) => hc1.next hU (Nat.le_refl _))
  have HIN := Lib.hid (fun (U : World) (hU : Below W1.heap.size W1 U) => (hin.next hb1).next hU)
  have HA := Lib.hid (fun (U : World) (hU : Below W1.heap.size W1 U) => (hA.next hb1).next hU)
  have HA64 := Lib.hid hA64
  have HOK := Lib.hid hok
  have HLI := Lib.hid (lits_in hok hw)
  have HBI : Hid (x.bads[k] ∈ x.bads) := List.getElem_mem hk
  have HK := Lib.hid hk
  have k4 := hc1.k4
  have k5 := hc1.k5
  have hsb := (hin.next hb1).bads
  have hcb := hsb.cap
  have hbb := hsb.big
  obtain ⟨b, o, hx, hae, hbs, e0⟩ := hsb.int hk
  obtain ⟨a1, c1, a2, c2, a3, c3, a4, c4, a5, c5, a6, c6, a7, c7⟩ := p
  simp only [cells] at *
  clear hin hok hw hA hA64 hb1 hc1 hsb
  subst hae
  go_enter Tryz.func11, Tryz.ntmps11
  go_wp2_with fail
  have hD := (Below.refl W1.heap.size W1).drew
  have hSK : ∀ U : World, Below W1.heap.size W1 U → U.cell? ⟨w.heap.size, 4, none⟩ = some (.slice (some ⟨b, o, none⟩) x.bads.length c4) ∧ U.cell? ⟨w.heap.size, 5, none⟩ = some (.slice a5 x.invs.length c5) ∧ U.cell? ⟨b, o + k, none⟩ = some (.int .i64 x.bads[k]) := fun U hU => ⟨(HCB.out U hU).k4, (HCB.out U hU).k5, (hU.cell (p := ⟨b, o + k, none⟩) hbs).trans e0⟩
  have hS0 := hSK _ hD
  obtain ⟨A1, C1, u1, r1, hu1, A2, C2, u2, r2, ho2, hu2⟩ := one_all W1.drew x.bads[k] a5 x.invs.length c5 x.invs (HIN.out _ hD).invs (by have := HOK.out.1.2.2.2.2.2.2; omega)
  generalize hbl : x.bads[k] = bl at *
  have HBL := Lib.hid hbl
  clear hbl
  have hB0 : Below W1.heap.size W1 (W1.drew.alloc (.cells #[.int .i64 bl] 3)) := hD.alloc hD.size _
  have hB1 : Below W1.heap.size W1 u1 := hD.trans hu1
  have hB2 : Below W1.heap.size W1 u2 := hD.trans hu2
  have hkl : (k : Int) < (x.bads.length : Int) := by omega
  refine HeldAll.region (fun U : World => U.cell? ⟨w.heap.size, 4, none⟩ = some (.slice (some ⟨b, o, none⟩) x.bads.length c4) ∧ U.cell? ⟨w.heap.size, 5, none⟩ = some (.slice a5 x.invs.length c5) ∧ U.cell? ⟨b, o + k, none⟩ = some (.int .i64 bl)) (by kernel_rfl) ?_
  (refine HeldAll.take (i := 0) (oi := _) (d := some 12) (v := ?_) rfl rfl (by kernel_rfl) (by kernel_rfl) (by kernel_rfl) (fun _ _ _ h => h) (Or.inl ⟨by rfl, ?_⟩) hS0 ?_; rotate_left; (focus (intro w hSw; clear hSw; go_simp; (try with_reducible rfl); done)); (try simp only [Act.put, List.setIfInBounds_toArray, List.set_cons_zero, List.set_cons_succ]))
  (refine HeldAll.take (i := 1) (oi := _) (d := some 13) (v := ?_) rfl rfl (by kernel_rfl) (by kernel_rfl) (by kernel_rfl) (fun _ _ _ h => h) (Or.inl ⟨by rfl, ?_⟩) hS0 ?_; rotate_left; (focus (intro w hSw; clear hSw; go_simp; (try with_reducible rfl); done)); (try simp only [Act.put, List.setIfInBounds_toArray, List.set_cons_zero, List.set_cons_succ]))
  (refine HeldAll.take (i := 2) (oi := _) (d := some 14) (v := ?_) rfl rfl (by kernel_rfl) (by kernel_rfl) (by kernel_rfl) (fun _ _ _ h => h) (Or.inl ⟨by rfl, ?_⟩) hS0 ?_; rotate_left; (focus (intro w hSw; (try dsimp only at hSw); go_simp; (try with_reducible rfl); done)); (try simp only [Act.put, List.setIfInBounds_toArray, List.set_cons_zero, List.set_cons_succ]))
  (refine HeldAll.take (i := 3) (oi := _) (d := some 15) (v := ?_) rfl rfl (by kernel_rfl) (by kernel_rfl) (by kernel_rfl) (fun _ _ _ h => h) (Or.inl ⟨by rfl, ?_⟩) hS0 ?_; rotate_left; (focus (intro w hSw; clear hSw; go_simp; (try with_reducible rfl); done)); (try simp only [Act.put, List.setIfInBounds_toArray, List.set_cons_zero, List.set_cons_succ]))
  (refine HeldAll.take (i := 4) (oi := _) (d := some 16) (v := ?_) rfl rfl (by kernel_rfl) (by kernel_rfl) (by kernel_rfl) (fun _ _ _ h => h) (Or.inl ⟨by rfl, ?_⟩) hS0 ?_; rotate_left; (focus (intro w hSw; clear hSw; go_simp; (try with_reducible rfl); done)); (try simp only [Act.put, List.setIfInBounds_toArray, List.set_cons_zero, List.set_cons_succ]))
  (refine HeldAll.take (i := 5) (oi := _) (d := some 17) (v := ?_) rfl rfl (by kernel_rfl) (by kernel_rfl) (by kernel_rfl) (fun _ _ _ h => h) (Or.inl ⟨by rfl, ?_⟩) hS0 ?_; rotate_left; (focus (intro w hSw; (try dsimp only at hSw); go_simp; (try with_reducible rfl); done)); (try simp only [Act.put, List.setIfInBounds_toArray, List.set_cons_zero, List.set_cons_succ]))
  (refine HeldAll.take (i := 8) (oi := _) (d := some 20) (v := ?_) rfl rfl (by kernel_rfl) (by kernel_rfl) (by kernel_rfl) (fun _ _ _ h => h) (Or.inl ⟨by rfl, ?_⟩) hS0 ?_; rotate_left; (focus (intro w hSw; clear hSw; go_simp; (try with_reducible rfl); done)); (try simp only [Act.put, List.setIfInBounds_toArray, List.set_cons_zero, List.set_cons_succ]))
  (refine HeldAll.take (i := 9) (oi := _) (d := some 21) (v := ?_) rfl rfl (by kernel_rfl) (by kernel_rfl) (by kernel_rfl) (fun _ _ _ h => h) (Or.inl ⟨by rfl, ?_⟩) hS0 ?_; rotate_left; (focus (intro w hSw; (try dsimp only at hSw); go_simp; (try with_reducible rfl); done)); (try simp only [Act.put, List.setIfInBounds_toArray, List.set_cons_zero, List.set_cons_succ]))
  refine HeldAll.one (i := 6) (by kernel_rfl) ?_
  refine HeldAll.opVal (i := 6) (oi := _) (d := some 18) (v := .slice (some ⟨W1.drew.heap.size, 0, none⟩) 1 1) (w2 := W1.drew.alloc (.cells #[.int .i64 bl] 3)) rfl rfl (by rfl) (by go_simp; done) (hSK _ hB0) ?_
  (try simp only [Act.put, List.setIfInBounds_toArray, List.set_cons_zero, List.set_cons_succ])
  refine HeldAll.one (i := 7) (by kernel_rfl) ?_
  refine HeldAll.opVal (i := 7) (oi := _) (d := some 19) (v := .slice A1 1 C1) (w2 := u1) rfl rfl (by rfl) (App2.exec_append rfl rfl rfl r1) (hSK _ hB1) ?_
  (try simp only [Act.put, List.setIfInBounds_toArray, List.set_cons_zero, List.set_cons_succ])
  refine HeldAll.one (i := 10) (by kernel_rfl) ?_
  refine HeldAll.opVal (i := 10) (oi := _) (d := some 22) (v := .slice A2 (1 + x.invs.length) C2) (w2 := u2) rfl rfl (by rfl) (App2.exec_append rfl rfl rfl r2) (hSK _ hB2) ?_
  (try simp only [Act.put, List.setIfInBounds_toArray, List.set_cons_zero, List.set_cons_succ])
  refine HeldAll.one (i := 11) (by kernel_rfl) ?_
  refine HeldAll.opVal (i := 11) (oi := _) (d := some 7) (v := .slice A2 (1 + x.invs.length) C2) (w2 := u2) rfl rfl (by rfl) (by go_simp; done) (hSK _ hB2) ?_
  (try simp only [Act.put, List.setIfInBounds_toArray, List.set_cons_zero, List.set_cons_succ])
  refine HeldAll.done (by kernel_rfl) ?_ _
  have HB2 := Lib.hid hB2
  have HO2 := Lib.hid (own_mono ho2 hD.size)
  clear hSK hS0 r1 r2 hu1 hu2 hB0 hB1 hB2 ho2 hD k4 k5 e0 hW1
  have hcapA := (HA.out W1 (Below.refl _ _)).sl.cap
  have hbigA := (HA.out W1 (Below.refl _ _)).sl.big
  have HAL := Lib.hid (HA.out W1 (Below.refl _ _)).len
  have HFI : Hid (x.invs.length ≤ 64) := by show _ ≤ _; have := HOK.out.1.2.2.2.2.2.2; omega
  have HZ := Lib.hid (And.intro hz1 hz2)
  have HTF : Hid (∀ j, ((A.take j).flatten).length ≤ A.flatten.length) := fun j => by
    have e : A.flatten = (A.take j).flatten ++ (A.drop j).flatten := by rw [← List.flatten_append, List.take_append_drop]
    rw [e, List.length_append]; omega
  clear hz1 hz2
  go_wp2_with fail
  go_loopw [7, 8] (fun s u wr => ∃ (j : Nat) (M : List Int) (a' : Option Addr) (c' : Nat), j ≤ n ∧ u = .int .i64 j ∧ s = .slice a' M.length c' ∧ Hid (M = [bl] ++ x.invs ++ (A.take j).flatten) ∧ Hid (wr.ownsRow W1.heap.size 3 1 (.slice a' M.length c') M.length (ints M)) ∧ Hid (Below W1.heap.size W1 wr)) (fun _ u _ => n - (intOf u).toNat)
  case atStart =>
    have e : ([bl] ++ x.invs : List Int).length = 1 + x.invs.length := by simp; omega
    exact ⟨0, [bl] ++ x.invs, A2, C2, Nat.zero_le _, rfl, by rw [e], (by show _ = _; simp), by show World.ownsRow _ _ _ _ _ _ _; rw [e]; exact HO2.out, HB2.out⟩
  case round =>
    clear HO2 HB2
    obtain ⟨j, M, a', c', hj, rfl, rfl, hM, hO, hB⟩ := hrel
    by_cases hlt : j < n
    · obtain ⟨b', o', a2', c2', hx2, rfl, hbs2, e0, hs0, hv⟩ := (HA.out wr hB.out).at hlt
      have HM2 : Hid (M ++ A[j] = [bl] ++ x.invs ++ (A.take (j + 1)).flatten) := by
        show _ = _
        rw [hM.out, List.take_succ_eq_append_getElem hx2, List.flatten_append]; simp
      have hml : M.length + A[j].length ≤ 4000065 := by
        have h := congrArg List.length HM2.out
        simp only [List.length_append, List.length_singleton] at h
        have := HTF.out (j + 1); have := HZ.out.1; have := HFI.out
        omega
      have HBS := Lib.hid hB.out.size
      have hown := hO.out
      have hbb2 := hB.out
      have hsz := hB.out.size
      clear hM hO hv
      generalize A[j] = l at *
      clear hx2
      go_wp2_with ((with_reducible refine wpL_app W1.heap.size (.slice a' M.length c') M.length (ints M) a2' l.length c2' (ints l) info_i1 Tryz.underlying22 ?_ ?_ ?_ (Base.ints_one _) hown hs0 hsz ?_ ?_ hbb2 ?_); rfl; rfl; rfl; omega; omega; (intro a5' c5' w5 hown5 hb5 hs5))
      have e5 : (M ++ l).length = M.length + l.length := List.length_append
      have HO5 : Hid (w5.ownsRow W1.heap.size 3 1 (.slice a5' (M ++ l).length c5') (M ++ l).length (ints (M ++ l))) := by
        show World.ownsRow _ _ _ _ _ _ _
        rw [e5, ← ints_app]; exact hown5
      have HB5 := Lib.hid hb5
      clear hown hbb2 hsz hown5 hb5 hs5 hs0
      go_roundw
      case rel =>
        refine ⟨_, _, _, _, _, _, _, _, _, _, _, _, _, _, ?_, rfl⟩
        exact ⟨j + 1, M ++ l, a5', c5', by omega, by go_num, by rw [e5], HM2.out, HO5.out, HB5.out⟩
      case measure => simp [intOf]; omega
    · have HMM : Hid (M = [bl] ++ x.invs ++ A.flatten) := by
        show _ = _
        rw [hM.out, List.take_of_length_le (by have := HAL.out; omega)]
      generalize wr = w3 at *
      have CB := HCB.out w3 hB.out
      have m0 : w3.cell? ⟨w.heap.size, 0, none⟩ = some (.int .i64 x.max) := CB.k0
      have m1 : w3.cell? ⟨w.heap.size, 1, none⟩ = some (.slice a1 x.ins.length c1) := CB.k1
      have m2 : w3.cell? ⟨w.heap.size, 2, none⟩ = some (.slice a2 x.lats.length c2) := CB.k2
      have m3 : w3.cell? ⟨w.heap.size, 3, none⟩ = some (.slice a3 x.outs.length c3) := CB.k3
      have m4 : w3.cell? ⟨w.heap.size, 4, none⟩ = some (.slice (some ⟨b, o, none⟩) x.bads.length c4) := CB.k4
      have m5 : w3.cell? ⟨w.heap.size, 5, none⟩ = some (.slice a5 x.invs.length c5) := CB.k5
      have m6 : w3.cell? ⟨w.heap.size, 6, none⟩ = some (.slice a6 x.ands.length c6) := CB.k6
      have m7 : w3.cell? ⟨w.heap.size, 7, none⟩ = some (.slice a7 x.names.length c7) := CB.k7
      have HMR : Hid (∀ y ∈ M, 0 ≤ y ∧ y ≤ 9223372036854775807) := fun y hy => by
        rw [HMM.out, List.mem_append, List.mem_append, List.mem_singleton] at hy
        rcases hy with (rfl | hy) | hy
        · exact HLI.out.1 _ HBI.out
        · exact HLI.out.2.1 y hy
        · exact HA64.out y hy
      have HML : Hid (M.length ≤ 4000065) := by
        show _ ≤ _
        have h := congrArg List.length HMM.out
        simp only [List.length_append, List.length_singleton] at h
        have := HZ.out.1; have := HFI.out
        omega
      have HCO := Lib.hid (refCone_any w3 x (⟨a1, c1, a2, c2, a3, c3, some ⟨b, o, none⟩, c4, a5, c5, a6, c6, a7, c7⟩ : At) (HIN.out w3 hB.out) HOK.out a' c' M (own_sl' hO.out) HMR.out (by have := HML.out; have := HZ.out.2; omega))
      simp only [cells] at HCO
      clear hM CB
      go_wp2_with fail
      with_reducible refine HCO.out.mono ?_
      rintro e w4 ⟨aT, cT, T, rfl, hsT, hT1, hT2, hb4⟩
      have HST := Lib.hid (own_mono hsT hB.out.size)
      have HDJ : Hid (∀ g, (Value.slice aT T.length cT).ownBlock = some g → (Value.slice a' M.length c').ownBlock ≠ some g) := fun g h1 h2 => by
        have := (hsT.lt g h1).1
        have := (hO.out.lt g h2).2
        omega
      have HLV := Lib.hid (linv_start hT1 hT2)
      have HB4 := Lib.hid (hB.out.trans (hb4.mono hB.out.size))
      have HO4 := Lib.hid (own_next hO.out hb4)
      clear hsT hT1 hT2 hb4 hB hO m0 m1 m2 m3 m4 m5 m6 m7 HCO
      go_wp2_with fail
      go_loopw [7, 9, 10] (fun s7 s9 s10 wr => ∃ (L T : List Int) (aL : Option Addr) (cL : Nat) (aT : Option Addr) (cT : Nat) (q : Int), s7 = .slice aL L.length cL ∧ s9 = .slice aT T.length cT ∧ s10 = .int .i64 q ∧ Hid (-1 ≤ q ∧ q ≤ T.length ∧ L.length ≤ M.length + 64 * (q + 1)) ∧ Hid (wr.ownsRow W1.heap.size 3 1 (.slice aL L.length cL) L.length (ints L)) ∧ Hid (wr.ownsRow W1.heap.size 3 1 (.slice aT T.length cT) T.length (ints T)) ∧ Hid (∀ g, (Value.slice aT T.length cT).ownBlock = some g → (Value.slice aL L.length cL).ownBlock ≠ some g) ∧ Hid (LInv x M L T) ∧ Hid (∀ y ∈ L, 0 ≤ y ∧ y ≤ 9223372036854775807) ∧ Hid (q = T.length → LShut x T) ∧ Hid (Below W1.heap.size W1 wr)) (fun _ _ u _ => M.length + 2 * x.ands.length + x.lats.length + 1 - (intOf u + 1).toNat)
      case atStart => exact ⟨M, T, a', c', aT, cT, -1, rfl, rfl, rfl, ⟨by omega, by omega, by omega⟩, HO4.out, own_next HST.out (Below.refl _ _), HDJ.out, HLV.out, HMR.out, (fun h => by omega), HB4.out⟩
      case round =>
        clear HO4 HST HDJ HLV HMR HB4
        obtain ⟨L, T2, aL, cL, aT2, cT2, q, rfl, rfl, rfl, hq, hO, hT, hdj, hLV, hLR, hsh, hB⟩ := hrel
        by_cases hlt : q < T2.length
        · have hd : decide (q < (T2.length : Int)) = true := decide_eq_true hlt
          have HT := Lib.hid (own_sl' hT.out)
          have HNE : Hid (∀ b o, aT2 = some ⟨b, o, none⟩ → b < wr.heap.size ∧ some b ≠ (Value.slice aL L.length cL).ownBlock) := fun b o e => ⟨(hT.out.lt b (by rw [e]; rfl)).2, fun h => hdj.out b (by rw [e]; rfl) h.symm⟩
          have HLO := hO
          have HB0 := hB
          have hT64 : T2.length ≤ 9223372036854775807 := by have := linv_few hLV.out; have := HML.out; have := HZ.out.2; have := HOK.out.1.2.2.2.1; omega
          generalize wr = w5 at *
          clear hsh hdj hT hO hB
          go_wp2_with fail
          go_loopw [7, 11] (fun s7 u wq => ∃ (i : Nat) (L2 : List Int) (aL2 : Option Addr) (cL2 : Nat), i ≤ x.lats.length ∧ u = .int .i64 i ∧ s7 = .slice aL2 L2.length cL2 ∧ Hid (L2 = L ++ nexts T2 (x.lats.take i)) ∧ Hid (wq.ownsRow W1.heap.size 3 1 (.slice aL2 L2.length cL2) L2.length (ints L2)) ∧ Hid (Sl wq aT2 T2.length cT2 (ints T2)) ∧ Hid (∀ b o, aT2 = some ⟨b, o, none⟩ → b < wq.heap.size ∧ some b ≠ (Value.slice aL2 L2.length cL2).ownBlock) ∧ Hid (Below W1.heap.size W1 wq)) (fun _ u _ => x.lats.length - (intOf u).toNat)
          case atStart => exact ⟨0, L, aL, cL, Nat.zero_le _, rfl, rfl, (by show _ = _; simp [nexts]), HLO.out, HT.out, HNE.out, HB0.out⟩
          case round =>
            clear HLO HT HNE HB0
            obtain ⟨i, L2, aL2, cL2, hi, rfl, rfl, hL2, hO, hS, hne, hB⟩ := hrel
            have m2 := (HCB.out wr hB.out).k2
            have hla := (HIN.out wr hB.out).lats
            have hca := hla.cap
            have hga := hla.big
            simp only at m2 hca hga
            by_cases hil : i < x.lats.length
            · obtain ⟨bt, ot, hxt, hae, hbt, d0, d1, d2⟩ := hla.tri hil
              simp only at hae
              subst hae
              have hlit : 0 ≤ x.lats[i].1 ∧ x.lats[i].1 ≤ 9223372036854775807 := lat_in HOK.out (List.getElem_mem hxt)
              obtain ⟨vq, hvq, hvq2⟩ : ∃ v : Int, Int.tdiv x.lats[i].1 2 = v ∧ v = var x.lats[i].1 := ⟨_, rfl, by unfold var; rw [Int.max_eq_left hlit.1]; exact Int.tdiv_eq_ediv_of_nonneg hlit.1⟩
              have hwq : IntKind.i64.wrap vq = vq := IntWalk.i64_in _ (by rw [hvq2]; unfold var; omega)
              have HHAS := Lib.hid (Circuit.has_any wr aT2 T2.length cT2 T2 hS.out vq)
              by_cases hin : var x.lats[i].1 ∈ T2
              · have HN2 : Hid (L2 ++ [x.lats[i].2.1] = L ++ nexts T2 (x.lats.take (i + 1))) := by show _ = _; rw [nexts_yes hxt hin, hL2.out, List.append_assoc]
                rw [← hvq2] at hin
                rw [tt_pos hin] at HHAS
                clear hin hL2 hvq2 hlit
                generalize x.lats[i] = t at *
                go_wp2_with fail
                with_reducible refine HHAS.out.mono ?_
                rintro e wx ⟨rfl, rfl⟩
                have hownL := hO.out
                have hszL := hB.out.size
                have hlenL : L2.length ≤ 1000000000000 := by
                  have h := congrArg List.length HN2.out
                  simp only [List.length_append, List.length_singleton] at h
                  have h2 := nexts_len T2 (x.lats.take (i + 1))
                  rw [List.length_take] at h2
                  have := hq.out; have := HML.out; have := HOK.out.1.2.2.2.1; have := linv_few hLV.out; have := HZ.out.2
                  omega
                go_wp2_with ((with_reducible refine wpL_pushW (B := W1.heap.size) _ (.int .i64 t.2.1) _ L2.length (ints L2) info_i1 Tryz.underlying22 ?_ ?_ ?_ ?_ ?_ hownL ?_ ?_ ?_ ?_); rfl; rfl; rfl; rfl; rfl; (exact hszL); omega; omega; (intro a7' c7' w6 hown6 hg6 how6))
                have hS6 := sl_far hS.out hg6 (fun b o e => (hne.out b o e).2)
                have hB6 := hB.out.grown hg6 hszL (fun q hq => (hownL.lt q hq).1)
                have hne6 : Hid (∀ b o, aT2 = some ⟨b, o, none⟩ → b < w6.heap.size ∧ some b ≠ (Value.slice a7' (L2.length + 1) c7').ownBlock) := fun b o e => ⟨Nat.lt_of_lt_of_le (hne.out b o e).1 hg6.size, fun h => by
                  rcases how6 with h6 | h6
                  · exact (hne.out b o e).2 (h.trans h6)
                  · rw [h6] at h
                    have h1 := (hne.out b o e).1
                    injection h with h
                    omega⟩
                have e6 : (L2 ++ [t.2.1]).length = L2.length + 1 := List.length_append
                have HO6 : Hid (w6.ownsRow W1.heap.size 3 1 (.slice a7' (L2 ++ [t.2.1]).length c7') (L2 ++ [t.2.1]).length (ints (L2 ++ [t.2.1]))) := by
                  show World.ownsRow _ _ _ _ _ _ _
                  rw [e6, ← ints_app]; exact hown6
                have HS6 := Lib.hid hS6
                have HB6 := Lib.hid hB6
                clear hownL hszL hown6 hg6 how6 hS6 hB6
                go_roundw
                case rel =>
                  exact ⟨i + 1, L2 ++ [t.2.1], a7', c7', by omega, by go_num, by rw [e6], HN2.out, HO6.out, HS6.out, (by rw [e6]; exact hne6.out), HB6.out⟩
                case measure => simp [intOf]; omega
              · have HN2 : Hid (L2 = L ++ nexts T2 (x.lats.take (i + 1))) := by show _ = _; rw [nexts_no hxt hin, hL2.out]
                rw [← hvq2] at hin
                rw [tt_neg hin] at HHAS
                clear hin hL2 hvq2 hlit
                generalize x.lats[i] = t at *
                go_wp2_with fail
                with_reducible refine HHAS.out.mono ?_
                rintro e wx ⟨rfl, rfl⟩
                go_wp2_with fail
                go_roundw
                case rel => exact ⟨i + 1, L2, aL2, cL2, by omega, by go_num, rfl, HN2.out, hO.out, hS.out, hne.out, hB.out⟩
                case measure => simp [intOf]; omega
            · have HL3 : Hid (L2 = L ++ nexts T2 x.lats) := by
                show _ = _
                rw [hL2.out, List.take_of_length_le (by omega)]
              clear m2 hla hca hga hL2
              generalize wr = w7 at *
              have CB := HCB.out w7 hB.out
              have m0 : w7.cell? ⟨w.heap.size, 0, none⟩ = some (.int .i64 x.max) := CB.k0
              have m1 : w7.cell? ⟨w.heap.size, 1, none⟩ = some (.slice a1 x.ins.length c1) := CB.k1
              have m2 : w7.cell? ⟨w.heap.size, 2, none⟩ = some (.slice a2 x.lats.length c2) := CB.k2
              have m3 : w7.cell? ⟨w.heap.size, 3, none⟩ = some (.slice a3 x.outs.length c3) := CB.k3
              have m4 : w7.cell? ⟨w.heap.size, 4, none⟩ = some (.slice (some ⟨b, o, none⟩) x.bads.length c4) := CB.k4
              have m5 : w7.cell? ⟨w.heap.size, 5, none⟩ = some (.slice a5 x.invs.length c5) := CB.k5
              have m6 : w7.cell? ⟨w.heap.size, 6, none⟩ = some (.slice a6 x.ands.length c6) := CB.k6
              have m7 : w7.cell? ⟨w.heap.size, 7, none⟩ = some (.slice a7 x.names.length c7) := CB.k7
              have HLR2 : Hid (∀ y ∈ L2, 0 ≤ y ∧ y ≤ 9223372036854775807) := fun y hy => by
                rw [HL3.out] at hy
                rcases List.mem_append.1 hy with hy | hy
                · exact hLR.out y hy
                · obtain ⟨t, ht, _, rfl⟩ := nexts_mem.1 hy
                  exact HLI.out.2.2 t ht
              have HLL : Hid (L2.length ≤ M.length + 64 * (T2.length + 1)) := by
                show _ ≤ _
                have h := congrArg List.length HL3.out
                rw [List.length_append] at h
                have h2 := nexts_len T2 x.lats
                have := hq.out; have := HOK.out.1.2.2.2.1
                omega
              have HCO := Lib.hid (refCone_any w7 x (⟨a1, c1, a2, c2, a3, c3, some ⟨b, o, none⟩, c4, a5, c5, a6, c6, a7, c7⟩ : At) (HIN.out w7 hB.out) HOK.out aL2 cL2 L2 (own_sl' hO.out) HLR2.out (by have := HLL.out; have := HML.out; have := HZ.out.2; have := linv_few hLV.out; have := HOK.out.1.2.2.2.1; omega))
              simp only [cells] at HCO
              clear CB
              go_wp2_with fail
              with_reducible refine HCO.out.mono ?_
              rintro e w8 ⟨aT3, cT3, T3, rfl, hsT, hT1, hT2, hb8⟩
              have HN := Lib.hid (linv_next hLV.out hT1 (by rw [← HL3.out]; exact hT2))
              rw [← HL3.out] at HN
              have HST := Lib.hid (own_mono hsT hB.out.size)
              have HDJ : Hid (∀ g, (Value.slice aT3 T3.length cT3).ownBlock = some g → (Value.slice aL2 L2.length cL2).ownBlock ≠ some g) := fun g h1 h2 => by
                have := (hsT.lt g h1).1
                have := (hO.out.lt g h2).2
                omega
              have HB8 := Lib.hid (hB.out.trans (hb8.mono hB.out.size))
              have HO8 := Lib.hid (own_next hO.out hb8)
              clear hsT hT1 hT2 hb8 hB hO m0 m1 m2 m3 m4 m5 m6 m7 HCO
              have hqq : (-1 : Int) ≤ (T2.length : Int) ∧ (T2.length : Int) ≤ T3.length ∧ (L2.length : Int) ≤ M.length + 64 * ((T2.length : Int) + 1) := ⟨by omega, by have := HN.out.2.1; omega, by have := HLL.out; omega⟩
              have HQQ := Lib.hid hqq
              have HME := Lib.hid (And.intro (linv_few hLV.out) hq.out.1)
              clear hqq
              go_wp2_with fail
              go_roundw
              case rel => exact ⟨L2, T3, aL2, cL2, aT3, cT3, T2.length, rfl, rfl, rfl, HQQ.out, HO8.out, HST.out, HDJ.out, HN.out.1, HLR2.out, (fun h => HN.out.2.2 (by omega)), HB8.out⟩
              case measure => have := HME.out; simp [intOf]; omega
        · have hd : decide (q < (T2.length : Int)) = false := decide_eq_false hlt
          have HE := Lib.hid (linv_end hLV.out (hsh.out (by have := hq.out; omega)))
          have HNS := Lib.hid (fun v => nr_same (x := x) (l := M) (l2 := A.flatten ++ x.invs ++ [bl]) (fun t => by rw [HMM.out]; simp only [List.mem_append, List.mem_singleton]; constructor <;> intro h <;> (rcases h with (h | h) | h) <;> simp [h]) v)
          go_wp2_with fail
          go_ret
          exact ⟨aT2, cT2, T2, rfl, own_mono hT.out HB1.out.size, hLV.out.rise, fun v => (HE.out v).trans (and_congr Iff.rfl (by rw [HBL.out, ← List.append_assoc]; exact HNS.out v)), HB1.out.trans (hB.out.mono HB1.out.size)⟩
end Coi
end Go.Proofs.YtninglnchengeaaGreat

/-
  circuit.gate: a variable's and.
-/
namespace Go.Proofs.YtninglnchengeaaGreat
open Go.RowKit Base
set_option linter.unusedVariables false
set_option linter.unusedSimpArgs false
namespace Circuit

set_option maxRecDepth 8000 in
set_option maxHeartbeats 8000000 in
theorem gate_any (w : World) (x : Circ) (p : At) (hin : InCirc w x p) (hw : WfT x.ands) (v : Int) :
    Calls Tryz.prog 101 #[.agg (cells x p), .int .i64 v] w (GateOut w (gate x.ands v)) := by
  have hand := hin.ands
  obtain ⟨mx, ins, lats, outs, bads, invs, ands, names⟩ := x
  obtain ⟨a1, c1, a2, c2, a3, c3, a4, c4, a5, c5, a6, c6, a7, c7⟩ := p
  simp only [cells] at *
  obtain ⟨W1, hW1⟩ : ∃ W1, w.alloc (.cells #[.int .i64 mx, .slice a1 ins.length c1, .slice a2 lats.length c2, .slice a3 outs.length c3, .slice a4 bads.length c4, .slice a5 invs.length c5, .slice a6 ands.length c6, .slice a7 names.length c7] 27) = W1 := ⟨_, rfl⟩
  obtain ⟨W2, hW2⟩ : ∃ W2, W1.alloc (.cells #[.int .i64 0, .int .i64 0, .int .i64 0] 43) = W2 := ⟨_, rfl⟩
  have h1 : Below w.heap.size w W1 := by rw [← hW1]; exact (Below.refl _ _).alloc (Nat.le_refl _) _
  have h2 : Below W1.heap.size W1 W2 := by rw [← hW2]; exact (Below.refl _ _).alloc (Nat.le_refl _) _
  have z1 : W1.heap.size = w.heap.size + 1 := by rw [← hW1]; simp
  have z2 : W2.heap.size = w.heap.size + 2 := by rw [← hW2]; simp [z1]
  have k6 : W2.cell? ⟨w.heap.size, 6, none⟩ = some (.slice a6 ands.length c6) := by rw [← hW2, ← hW1]; simp [go_sem]
  have q0 : W2.cell? ⟨w.heap.size + 1, 0, none⟩ = some (.int .i64 0) := by rw [← z1, ← hW2]; simp [go_sem]
  have q1 : W2.cell? ⟨w.heap.size + 1, 1, none⟩ = some (.int .i64 0) := by rw [← z1, ← hW2]; simp [go_sem]
  have q2 : W2.cell? ⟨w.heap.size + 1, 2, none⟩ = some (.int .i64 0) := by rw [← z1, ← hW2]; simp [go_sem]
  have f0 : W2.frozen? ⟨w.heap.size + 1, 0, none⟩ = false := by rw [← z1, ← hW2]; simp [go_sem]
  have f1 : W2.frozen? ⟨w.heap.size + 1, 1, none⟩ = false := by rw [← z1, ← hW2]; simp [go_sem]
  have f2 : W2.frozen? ⟨w.heap.size + 1, 2, none⟩ = false := by rw [← z1, ← hW2]; simp [go_sem]
  have HB2 := Lib.hid (h1.trans (h2.mono h1.size))
  have HS := Lib.hid (hand.next (h1.trans (h2.mono h1.size)))
  have hcap := hand.cap
  have hbig := hand.big
  have HW := Lib.hid hw
  clear hin hand hw h1 h2
  go_enter Tryz.func101, Tryz.ntmps101
  go_wp2_with fail
  clear hW1 hW2
  go_loopw [11] (fun s wr => ∃ k : Nat, k ≤ ands.length ∧ s = .int .i64 k ∧ Hid (gate (ands.take k) v = none) ∧ Hid (Below W2.heap.size W2 wr)) (fun s _ => ands.length - (intOf s).toNat)
  case atStart => exact ⟨0, Nat.zero_le _, rfl, rfl, Below.refl _ _⟩
  case round =>
    obtain ⟨k, hk, rfl, hI, hbr⟩ := hrel
    by_cases hlt : k < ands.length
    · obtain ⟨b, o, hx, rfl, hbs, hc0, hc1, hc2⟩ := HS.out.tri hlt
      have d0 := (hbr.out.cell (p := ⟨b, o + k * 3, none⟩) hbs).trans hc0
      have d1 := (hbr.out.cell (p := ⟨b, o + k * 3 + 1, none⟩) hbs).trans hc1
      have d2 := (hbr.out.cell (p := ⟨b, o + k * 3 + 2, none⟩) hbs).trans hc2
      have VA := Lib.hid (fun U => var_any ands[k].1 (HW.out _ (List.getElem_mem hx)).1.1 (HW.out _ (List.getElem_mem hx)).1.2 U)
      clear hc0 hc1 hc2
      have HGM := Lib.hid (fun hn => gate_more (v := v) hx hI.out hn)
      have HGH := Lib.hid (fun h0 h1 => gate_hit (v := v) hx hI.out h0 h1)
      generalize ands[k] = t at *
      obtain ⟨t0, t1, t2⟩ := t
      simp only at d0 d1 d2 VA HGM HGH
      obtain ⟨U, hU⟩ : ∃ U, wr.alloc (.cells #[.int .i64 t0, .int .i64 t1, .int .i64 t2] 43) = U := ⟨_, rfl⟩
      have hbU : Below wr.heap.size wr U := by rw [← hU]; exact (Below.refl _ _).alloc (Nat.le_refl _) _
      have u0 : U.cell? ⟨wr.heap.size, 0, none⟩ = some (.int .i64 t0) := by rw [← hU]; simp [go_sem]
      have u1 : U.cell? ⟨wr.heap.size, 1, none⟩ = some (.int .i64 t1) := by rw [← hU]; simp [go_sem]
      have u2 : U.cell? ⟨wr.heap.size, 2, none⟩ = some (.int .i64 t2) := by rw [← hU]; simp [go_sem]
      have hbW : Below W2.heap.size W2 U := hbr.out.trans (hbU.mono hbr.out.size)
      have r0 := (hbW.cell (p := ⟨w.heap.size + 1, 0, none⟩) (by show w.heap.size + 1 < W2.heap.size; omega)).trans q0
      have r1 := (hbW.cell (p := ⟨w.heap.size + 1, 1, none⟩) (by show w.heap.size + 1 < W2.heap.size; omega)).trans q1
      have r2 := (hbW.cell (p := ⟨w.heap.size + 1, 2, none⟩) (by show w.heap.size + 1 < W2.heap.size; omega)).trans q2
      have s0 := (hbW.frozen (p := ⟨w.heap.size + 1, 0, none⟩) (by show w.heap.size + 1 < W2.heap.size; omega)).trans f0
      have s1 := (hbW.frozen (p := ⟨w.heap.size + 1, 1, none⟩) (by show w.heap.size + 1 < W2.heap.size; omega)).trans f1
      have s2 := (hbW.frozen (p := ⟨w.heap.size + 1, 2, none⟩) (by show w.heap.size + 1 < W2.heap.size; omega)).trans f2
      have HBU := Lib.hid hbW
      clear hbU hbW
      by_cases hg : 0 ≤ t0
      · by_cases hv : var t0 = v
        · have HG := Lib.hid (HGH.out hg hv)
          clear HGM HGH
          subst hv
          go_wp2_with fail
          refine (VA.out U).mono ?_
          rintro e w5 ⟨rfl, rfl⟩
          go_wp2_with fail
          refine bodyPost_ret (v := .tuple #[.agg #[.int .i64 t0, .int .i64 t1, .int .i64 t2], .bool true]) (by simp [results, Tryz.results101, go_sem, r0, r1, r2]) rfl ?_
          refine ⟨?_, (((HB2.out.trans (HBU.out.mono HB2.out.size)).setCell (by show w.heap.size ≤ w.heap.size + 1; omega) _).setCell (by show w.heap.size ≤ w.heap.size + 1; omega) _).setCell (by show w.heap.size ≤ w.heap.size + 1; omega) _⟩
          rw [HG.out]
          rfl
        · have HG := Lib.hid (HGM.out (fun h => hv h.2))
          clear HGM HGH
          go_wp2_with fail
          refine (VA.out U).mono ?_
          rintro e w5 ⟨rfl, rfl⟩
          go_wp2_with fail
          go_roundw
          case rel => exact ⟨k + 1, by omega, by go_num, HG.out, HBU.out⟩
          case measure => simp [intOf]; omega
      · have HG := Lib.hid (HGM.out (fun h => hg h.1))
        clear HGM HGH
        go_wp2_with fail
        go_roundw
        case rel => exact ⟨k + 1, by omega, by go_num, HG.out, HBU.out⟩
        case measure => simp [intOf]; omega
    · have HG : Hid (gate ands v = none) := by
        have h := hI.out
        rw [List.take_of_length_le (by omega)] at h
        exact h
      have r0 := (hbr.out.cell (p := ⟨w.heap.size + 1, 0, none⟩) (by show w.heap.size + 1 < W2.heap.size; omega)).trans q0
      have r1 := (hbr.out.cell (p := ⟨w.heap.size + 1, 1, none⟩) (by show w.heap.size + 1 < W2.heap.size; omega)).trans q1
      have r2 := (hbr.out.cell (p := ⟨w.heap.size + 1, 2, none⟩) (by show w.heap.size + 1 < W2.heap.size; omega)).trans q2
      have s0 := (hbr.out.frozen (p := ⟨w.heap.size + 1, 0, none⟩) (by show w.heap.size + 1 < W2.heap.size; omega)).trans f0
      have s1 := (hbr.out.frozen (p := ⟨w.heap.size + 1, 1, none⟩) (by show w.heap.size + 1 < W2.heap.size; omega)).trans f1
      have s2 := (hbr.out.frozen (p := ⟨w.heap.size + 1, 2, none⟩) (by show w.heap.size + 1 < W2.heap.size; omega)).trans f2
      go_wp2_with fail
      refine bodyPost_ret (v := .tuple #[.agg #[.int .i64 0, .int .i64 0, .int .i64 0], .bool false]) (by simp [results, Tryz.results101, go_sem, r0, r1, r2]) rfl ?_
      refine ⟨?_, (((HB2.out.trans (hbr.out.mono HB2.out.size)).setCell (by show w.heap.size ≤ w.heap.size + 1; omega) _).setCell (by show w.heap.size ≤ w.heap.size + 1; omega) _).setCell (by show w.heap.size ≤ w.heap.size + 1; omega) _⟩
      rw [HG.out]
      rfl

end Circuit
end Go.Proofs.YtninglnchengeaaGreat

/-
  A map[int]bool of the call's own that says true at just some integers.
-/
namespace Go.Proofs.YtninglnchengeaaGreat
open Go.RowKit Base Go.Maps
set_option linter.unusedVariables false
set_option linter.unusedSimpArgs false
namespace SetI

theorem law : Keyed Tryz.prog 3 := int_keyed Tryz.underlying3
theorem zeroE (w : World) : (zeroValue 4).run Tryz.prog w = .ok (.bool false) w := by kernel_rfl

def I64 (x : Int) : Prop := -9223372036854775808 ≤ x ∧ x ≤ 9223372036854775807

theorem wf_lit {x : Int} (h : I64 x) : (Lit.int .i64 x).wf = true := by
  unfold I64 at h
  simp [Lit.wf, IntKind.min, IntKind.max, IntKind.signed, IntKind.bits]
  omega

/-- Is an integer one of some? -/
def inX (X : List Int) (x : Int) : Bool := X.any fun y => y == x

theorem inX_iff {X : List Int} {x : Int} : inX X x = true ↔ x ∈ X := by
  unfold inX
  rw [List.any_eq_true]
  constructor
  · rintro ⟨y, hy, he⟩
    rw [beq_iff_eq] at he
    rw [← he]
    exact hy
  · intro h
    exact ⟨x, h, by simp⟩

/-- A map of the call's own that says true at just these; its keys are these, each once. -/
def SetIs (w : World) (b n : Nat) (X : List Int) : Prop :=
  ∃ D : DataW Unit, w.ownsMap Tryz.prog 3 (plainElem Tryz.prog 4) b n D ∧ IsMap D ∧ ∀ x, I64 x → D.atKey (.int .i64 x) (.lit (.bool false)) = .lit (.bool (inX X x))

theorem bool_inv {e : TypeId} (he : Tryz.prog.underlying e = some .bool) {v : Value} {z : DataW Unit × List MemPlace} (h : plainElem Tryz.prog e v = some z) : ∃ y, v = .bool y ∧ z = (.lit (.bool y), []) := by
  unfold plainElem at h
  rw [he] at h
  cases v <;> simp at h
  exact ⟨_, rfl, h.symm⟩

theorem set_look {w : World} {b n : Nat} {X : List Int} (h : SetIs w b n X) {x : Int} (hx : I64 x) :
    (Instr.lookup 53 (.map (some b)) (.int .i64 x) false).run Tryz.prog w = .ok (.bool (inX X x)) w := by
  obtain ⟨D, ho, _, hat⟩ := h
  obtain ⟨v, ps, hrun, hv⟩ := ho.lookup law Tryz.underlying53 (zeroE w) (plainElem_bool Tryz.underlying4 false) (keyOf_int_mk Tryz.underlying3 (wf_lit hx))
  obtain ⟨y, rfl, hz⟩ := bool_inv Tryz.underlying4 hv
  simp only [Prod.mk.injEq] at hz
  have := hz.1.symm.trans (hat x hx)
  simp only [DataW.lit.injEq, Lit.bool.injEq] at this
  rw [hrun, this]

theorem SetIs.next {w w' : World} {b n : Nat} {X : List Int} (h : SetIs w b n X) (hb : Below w.heap.size w w') : SetIs w' b n X := by
  obtain ⟨D, ⟨es, cl, hh, r⟩, hm, hat⟩ := h
  exact ⟨D, ⟨es, cl, (hb.block b (Array.getElem?_eq_some_iff.1 hh).1).trans hh, r⟩, hm, hat⟩

theorem set_made (w : World) : SetIs (w.alloc (.map #[] 0)) w.heap.size 0 [] :=
  ⟨.map [], World.ownsMap_made _ _ _ _, ⟨_, rfl⟩, fun x _ => by simp [DataW.atKey, inX]⟩

theorem set_put {D : DataW Unit} {X : List Int} (hm : IsMap D) (hat : ∀ x, I64 x → D.atKey (.int .i64 x) (.lit (.bool false)) = .lit (.bool (inX X x))) (y : Int) :
    IsMap (D.put (.int .i64 y) (.lit (.bool true))) ∧ ∀ x, I64 x → (D.put (.int .i64 y) (.lit (.bool true))).atKey (.int .i64 x) (.lit (.bool false)) = .lit (.bool (inX (X ++ [y]) x)) := by
  refine ⟨hm.put _ _, fun x hx => ?_⟩
  unfold inX
  rw [List.any_append]
  by_cases hxy : x = y
  · subst hxy
    rw [atKey_put_same hm (by trivial)]
    simp
  · rw [atKey_put_other (by intro e; simp at e; exact hxy e), hat x hx]
    have : (y == x) = false := by simp; exact fun e => hxy e.symm
    simp [inX, this]

/-- The keys of a map are these. -/
def KeysAre (D : DataW Unit) (X : List Int) : Prop := ∃ es : List (Lit × DataW Unit), D = .map es ∧ (∀ p ∈ es, ∃ x, p.1 = .int .i64 x) ∧ (Go.intKeys D).Perm X

theorem insert_perm (x : Lit × DataW Unit) (l : List (Lit × DataW Unit)) : (DataW.insert x l).Perm (x :: l) := by
  induction l with
  | nil => exact List.Perm.refl _
  | cons y r ih =>
    unfold DataW.insert
    split
    · exact List.Perm.refl _
    · exact (List.Perm.cons y ih).trans (List.Perm.swap x y r)

theorem keys_nil : KeysAre (.map []) [] := ⟨[], rfl, fun p h => by simp at h, List.Perm.refl _⟩

theorem keys_put {D : DataW Unit} {X : List Int} (h : KeysAre D X) {y : Int} (hy : y ∉ X) (d : DataW Unit) : KeysAre (D.put (.int .i64 y) d) (X ++ [y]) := by
  obtain ⟨es, rfl, hk, hp⟩ := h
  have hf : es.filter (fun p => !p.1.sameKey (.int .i64 y)) = es := by
    rw [List.filter_eq_self]
    intro p hpm
    obtain ⟨x, hx⟩ := hk p hpm
    rw [hx]
    have hne : x ≠ y := fun e => by
      apply hy
      rw [← e]
      apply hp.subset
      unfold Go.intKeys
      exact List.mem_map.2 ⟨p, hpm, by rw [hx]; rfl⟩
    simp [Lit.sameKey, hne]
  unfold DataW.put
  simp only [hf]
  refine ⟨_, rfl, fun p hpm => ?_, ?_⟩
  · have := (insert_perm _ _).subset hpm
    rw [List.mem_cons] at this
    rcases this with rfl | hm
    · exact ⟨y, rfl⟩
    · exact hk p hm
  · unfold Go.intKeys at *
    refine ((insert_perm (.int .i64 y, d) es).map _).trans ?_
    rw [List.map_cons]
    exact (List.Perm.cons _ hp).trans (List.perm_append_comm (l₁ := [y]) (l₂ := X))

end SetI
end Go.Proofs.YtninglnchengeaaGreat

/-
  slices.Sorted(maps.Keys(m)) at map[int]bool: the keys, sorted.
-/
namespace Go.Proofs.YtninglnchengeaaGreat
open Go.RowKit Base
set_option linter.unusedVariables false
namespace SortedK
open Go.Maps Go.Sort Go.Shelf

def keysA_ren : Go.Shelf.Ren := ⟨fun | 7 => 102 | 10 => 113 | n => n, fun | 23 => 53 | 26 => 3 | 3 => 4 | 28 => 51 | 0 => 0 | 27 => 50 | 33 => 58 | 4 => 4 | n => n, fun | n => n⟩
theorem keysA : Go.Proofs.SlLaysZI.n7 Tryz.prog keysA_ren := {
  mixed := by kernel_rfl
  f7 := ⟨Tryz.f102.name, by decide, Tryz.func102.trans (congrArg some (by kernel_rfl))⟩
  f10 := ⟨Tryz.f113.name, by decide, Tryz.func113.trans (congrArg some (by kernel_rfl))⟩
  t0 := Tryz.underlying0
  a0 := Tryz.isAgg0
  z0 := Tryz.sizeOf0
  v0 := Tryz.zeroValue0
  t4 := Tryz.underlying4
  a4 := Tryz.isAgg4
  z4 := Tryz.sizeOf4
  v4 := Tryz.zeroValue4
  t23 := Tryz.underlying53
  a23 := Tryz.isAgg53
  z23 := Tryz.sizeOf53
  v23 := Tryz.zeroValue53
  t26 := Tryz.underlying3
  a26 := Tryz.isAgg3
  z26 := Tryz.sizeOf3
  v26 := Tryz.zeroValue3
  t27 := Tryz.underlying50
  a27 := Tryz.isAgg50
  z27 := Tryz.sizeOf50
  v27 := Tryz.zeroValue50
  t28 := Tryz.underlying51
  a28 := Tryz.isAgg51
  z28 := Tryz.sizeOf51
  v28 := Tryz.zeroValue51
  t33 := Tryz.underlying58
  a33 := Tryz.isAgg58
  z33 := Tryz.sizeOf58
  v33 := Tryz.zeroValue58 }
def sortedA_ren : Go.Shelf.Ren := ⟨fun | 6 => 18 | 8 => 46 | 9 => 47 | 11 => 78 | 13 => 80 | 12 => 79 | 23 => 99 | 24 => 100 | 14 => 90 | 15 => 91 | 16 => 92 | 17 => 93 | 18 => 94 | 19 => 95 | 20 => 96 | 21 => 97 | 22 => 98 | 25 => 107 | 26 => 108 | 27 => 109 | 28 => 110 | 29 => 111 | 30 => 112 | 31 => 116 | n => n, fun | 26 => 3 | 28 => 51 | 24 => 22 | 0 => 0 | 3 => 3 | 37 => 105 | 48 => 126 | 50 => 128 | 4 => 4 | 40 => 118 | 39 => 117 | 45 => 123 | 5 => 5 | 9 => 9 | 51 => 135 | 55 => 139 | 57 => 142 | 58 => 143 | 33 => 58 | n => n, fun | n => n⟩
theorem sortedA : Go.Proofs.SlLaysZI.n6 Tryz.prog sortedA_ren := {
  mixed := by kernel_rfl
  f6 := ⟨Tryz.f18.name, by decide, Tryz.func18.trans (congrArg some (by kernel_rfl))⟩
  f8 := ⟨Tryz.f46.name, by decide, Tryz.func46.trans (congrArg some (by kernel_rfl))⟩
  f11 := ⟨Tryz.f78.name, by decide, Tryz.func78.trans (congrArg some (by kernel_rfl))⟩
  t0 := Tryz.underlying0
  a0 := Tryz.isAgg0
  z0 := Tryz.sizeOf0
  v0 := Tryz.zeroValue0
  t24 := Tryz.underlying22
  a24 := Tryz.isAgg22
  z24 := Tryz.sizeOf22
  v24 := Tryz.zeroValue22
  t26 := Tryz.underlying3
  a26 := Tryz.isAgg3
  z26 := Tryz.sizeOf3
  v26 := Tryz.zeroValue3
  t28 := Tryz.underlying51
  a28 := Tryz.isAgg51
  z28 := Tryz.sizeOf51
  v28 := Tryz.zeroValue51
  i26 := by kernel_rfl }
def sortA_ren : Go.Shelf.Ren := ⟨fun | 5 => 47 | 8 => 80 | 7 => 79 | 19 => 99 | 20 => 100 | 10 => 90 | 11 => 91 | 12 => 92 | 13 => 93 | 14 => 94 | 15 => 95 | 16 => 96 | 17 => 97 | 18 => 98 | 30 => 107 | 31 => 108 | 32 => 109 | 33 => 110 | 34 => 111 | 35 => 112 | 40 => 116 | n => n, fun | 23 => 22 | 25 => 3 | 3 => 3 | 32 => 105 | 22 => 22 | 0 => 0 | 44 => 126 | 46 => 128 | 4 => 4 | 36 => 118 | 35 => 117 | 41 => 123 | 5 => 5 | 9 => 9 | 53 => 135 | 57 => 139 | 63 => 142 | 64 => 143 | n => n, fun | n => n⟩
theorem sortA : Go.Proofs.SlLaysM.n5 Tryz.prog sortA_ren := {
  mixed := by kernel_rfl
  f5 := ⟨Tryz.f47.name, by decide, Tryz.func47.trans (congrArg some (by kernel_rfl))⟩
  f7 := ⟨Tryz.f79.name, by decide, Tryz.func79.trans (congrArg some (by kernel_rfl))⟩
  f8 := Tryz.func80.trans (congrArg some (by kernel_rfl))
  f10 := ⟨Tryz.f90.name, by decide, Tryz.func90.trans (congrArg some (by kernel_rfl))⟩
  f11 := ⟨Tryz.f91.name, by decide, Tryz.func91.trans (congrArg some (by kernel_rfl))⟩
  f12 := ⟨Tryz.f92.name, by decide, Tryz.func92.trans (congrArg some (by kernel_rfl))⟩
  f13 := ⟨Tryz.f93.name, by decide, Tryz.func93.trans (congrArg some (by kernel_rfl))⟩
  f14 := ⟨Tryz.f94.name, by decide, Tryz.func94.trans (congrArg some (by kernel_rfl))⟩
  f15 := ⟨Tryz.f95.name, by decide, Tryz.func95.trans (congrArg some (by kernel_rfl))⟩
  f16 := ⟨Tryz.f96.name, by decide, Tryz.func96.trans (congrArg some (by kernel_rfl))⟩
  f17 := ⟨Tryz.f97.name, by decide, Tryz.func97.trans (congrArg some (by kernel_rfl))⟩
  f18 := ⟨Tryz.f98.name, by decide, Tryz.func98.trans (congrArg some (by kernel_rfl))⟩
  f19 := Tryz.func99.trans (congrArg some (by kernel_rfl))
  f20 := Tryz.func100.trans (congrArg some (by kernel_rfl))
  f30 := ⟨Tryz.f107.name, by decide, Tryz.func107.trans (congrArg some (by kernel_rfl))⟩
  f31 := Tryz.func108.trans (congrArg some (by kernel_rfl))
  f32 := Tryz.func109.trans (congrArg some (by kernel_rfl))
  f33 := ⟨Tryz.f110.name, by decide, Tryz.func110.trans (congrArg some (by kernel_rfl))⟩
  f34 := ⟨Tryz.f111.name, by decide, Tryz.func111.trans (congrArg some (by kernel_rfl))⟩
  f35 := ⟨Tryz.f112.name, by decide, Tryz.func112.trans (congrArg some (by kernel_rfl))⟩
  f40 := ⟨Tryz.f116.name, by decide, Tryz.func116.trans (congrArg some (by kernel_rfl))⟩
  t0 := Tryz.underlying0
  a0 := Tryz.isAgg0
  z0 := Tryz.sizeOf0
  v0 := Tryz.zeroValue0
  t3 := Tryz.underlying3
  a3 := Tryz.isAgg3
  z3 := Tryz.sizeOf3
  v3 := Tryz.zeroValue3
  t4 := Tryz.underlying4
  a4 := Tryz.isAgg4
  z4 := Tryz.sizeOf4
  v4 := Tryz.zeroValue4
  t5 := Tryz.underlying5
  a5 := Tryz.isAgg5
  z5 := Tryz.sizeOf5
  v5 := Tryz.zeroValue5
  t9 := Tryz.underlying9
  a9 := Tryz.isAgg9
  z9 := Tryz.sizeOf9
  v9 := Tryz.zeroValue9
  t22 := Tryz.underlying22
  a22 := Tryz.isAgg22
  z22 := Tryz.sizeOf22
  v22 := Tryz.zeroValue22
  t23 := Tryz.underlying22
  a23 := Tryz.isAgg22
  z23 := Tryz.sizeOf22
  v23 := Tryz.zeroValue22
  t25 := Tryz.underlying3
  a25 := Tryz.isAgg3
  z25 := Tryz.sizeOf3
  v25 := Tryz.zeroValue3
  t32 := Tryz.underlying105
  a32 := Tryz.isAgg105
  z32 := Tryz.sizeOf105
  v32 := Tryz.zeroValue105
  t35 := Tryz.underlying117
  a35 := Tryz.isAgg117
  z35 := Tryz.sizeOf117
  v35 := Tryz.zeroValue117
  t36 := Tryz.underlying118
  a36 := Tryz.isAgg118
  z36 := Tryz.sizeOf118
  v36 := Tryz.zeroValue118
  t41 := Tryz.underlying123
  a41 := Tryz.isAgg123
  z41 := Tryz.sizeOf123
  v41 := Tryz.zeroValue123
  t44 := Tryz.underlying126
  a44 := Tryz.isAgg126
  z44 := Tryz.sizeOf126
  v44 := Tryz.zeroValue126
  t46 := Tryz.underlying128
  a46 := Tryz.isAgg128
  z46 := Tryz.sizeOf128
  v46 := Tryz.zeroValue128
  t53 := Tryz.underlying135
  a53 := Tryz.isAgg135
  z53 := Tryz.sizeOf135
  v53 := Tryz.zeroValue135
  t57 := Tryz.underlying139
  a57 := Tryz.isAgg139
  z57 := Tryz.sizeOf139
  v57 := Tryz.zeroValue139
  t63 := Tryz.underlying142
  a63 := Tryz.isAgg142
  z63 := Tryz.sizeOf142
  v63 := Tryz.zeroValue142
  t64 := Tryz.underlying143
  a64 := Tryz.isAgg143
  z64 := Tryz.sizeOf143
  v64 := Tryz.zeroValue143 }

theorem sortsA (m : Nat) : AnyZI.SortsIn Tryz.prog sortedA_ren Fence.wide m :=
  ⟨fun blk off cap ss W hH hblk hsz => callsIn_wide.2 (AnyM.slices_Sort_int sortA blk off cap ss W hH hblk hsz),
   fun p cap W => callsIn_wide.2 (AnyM.slices_Sort_int_none sortA p cap W)⟩

theorem keys_any (mb : Option Nat) (w : World) : Calls Tryz.prog 102 #[.map mb] w fun e w' => e = .returned (.func (.func 113) #[] #[.pointer (some ⟨w.heap.size, 0, none⟩)]) ∧ w' = w.alloc (.cells #[.map mb] 53) :=
  (callsIn_wide (n := 5)).1 (AnyZI.keys_in keysA Fence.wide 5 trivial rfl mb w)

set_option maxHeartbeats 1000000 in
theorem sorted_any {H : Type} (b nn : Nat) (D0 : DataW H) (R : Value → Option (DataW H × List MemPlace)) (w : World) (hown : w.ownsMap Tryz.prog 3 R b nn D0) (hmax : Maps.size D0 ≤ maxLen) (hbytes : Maps.size D0 * 8 ≤ 140737488355328) :
    Calls Tryz.prog 18 #[.func (.func 113) #[] #[.pointer (some ⟨w.heap.size, 0, none⟩)]] (w.alloc (.cells #[.map (some b)] 53)) fun e w' => ∃ (v : Value) (ss : List Int), e = .returned v ∧ ss.Perm (intKeys D0) ∧
      w'.ownsRow w.heap.size 3 1 v ss.length ((ss.mergeSort (fun x y => decide (x ≤ y))).map encZ) ∧ (v = .slice none 0 0 ↔ ss = []) ∧ Below w.heap.size w w' := by
  refine (callsIn_wide (n := 5)).1 ?_
  have hbl := hown.lt
  have hseq : SeqGives Fence.wide 2 Tryz.prog 113 #[.pointer (some ⟨w.heap.size, 0, none⟩)] encZ (fun ss => ss.Perm (intKeys D0)) (Maps.size D0) (w.alloc (.cells #[.map (some b)] 53)) :=
    AnyZI.keys_gives (ρ := keysA_ren) { keysA with } Fence.wide _ trivial rfl (by omega) w.heap.size b nn D0 _ (by simp) (by simp) (by
      obtain ⟨es, clock, hb, Ft, hs, hD⟩ := hown
      exact ⟨es, clock, (Below.heap_alloc _ _ b hbl).trans hb, Ft, hs, hD⟩)
  have cS := AnyZI.sorted_in sortedA Fence.wide 5 trivial trivial trivial trivial rfl (by omega) (sortsA _) (enters_of Tryz.func47 (by kernel_rfl) rfl) 113 #[.pointer (some ⟨w.heap.size, 0, none⟩)] trivial (enters_of Tryz.func113 (by kernel_rfl) rfl) _ _ hmax hbytes _ hseq
  refine cS.mono ?_
  rintro e w' ⟨v, ss, he, hS, hrow, hnil, hb⟩
  exact ⟨v, ss, he, hS, ownsRow_base_a hrow (by simp), hnil, ((Below.refl _ w).alloc (Nat.le_refl _) _).trans (hb.mono (by simp))⟩

end SortedK
end Go.Proofs.YtninglnchengeaaGreat

/-
  slices.Clone at one instance (elements of one cell): a slice of its own with the same elements; of nil nil.
-/
namespace Go.Proofs.YtninglnchengeaaGreat
open Go.RowKit Base
set_option linter.unusedVariables false
namespace CloneI

theorem info : (Tryz.prog.info? 3).map (fun i => (i.zero, i.size, i.bytes)) = some (some (.int .i64 0), 1, 8) := by kernel_rfl

set_option maxHeartbeats 1000000 in
theorem clone (w : World) (a : Option Addr) (n c : Nat) (vs : List Value) (hsl : Sl w a n c vs) (h1 : ∀ u ∈ vs, u.oneCell' = true) (hn : n * 8 ≤ 140737488355328) :
    Calls Tryz.prog 21 #[.slice a n c] w fun e w' => ∃ a' c', e = .returned (.slice a' n c') ∧ w'.ownsRow w.heap.size 3 1 (.slice a' n c') n vs ∧ Below w.heap.size w w' := by
  have heq := fun (W : World) (x : Option Addr) => Lib.run_eql_slice_nil (P := Tryz.prog) W 22 3 x n c 0 0 Tryz.underlying22
  cases a with
  | none =>
    obtain ⟨rfl, rfl⟩ := hsl.bare rfl
    have hv : vs = [] := List.eq_nil_of_length_eq_zero hsl.len
    subst hv
    go_enter Tryz.func21, Tryz.ntmps21
    go_wp2_with fail
    go_ret
    exact ⟨none, 0, rfl, World.ownsRow_nil _ _ _ _, Below.refl _ _⟩
  | some ad =>
    have hal : Below w.heap.size w (w.alloc (.cells #[] 3)) := (Below.refl _ _).alloc (Nat.le_refl _) _
    have hsl' := hsl.next hal
    have hown : (w.alloc (.cells #[] 3)).ownsRow w.heap.size 3 1 (.slice (some ⟨w.heap.size, 0, none⟩) 0 0) 0 [] := World.ownsRow_lit w #[] 0 (Nat.le_refl _) (by unfold maxLen; omega) rfl
    have H1 := Lib.hid h1
    clear h1 hsl
    go_enter Tryz.func21, Tryz.ntmps21
    go_wp2_with ((with_reducible refine wpL_app (B := w.heap.size) (W := w) _ 0 [] _ n c vs info Tryz.underlying22 ?_ ?_ ?_ H1.out hown hsl' ?_ ?_ ?_ hal ?_); rfl; rfl; rfl; exact hal.size; omega; omega; (rw [Nat.zero_add, List.nil_append]; intro a2 c2 w2 hown2 hb2 _))
    go_ret
    exact ⟨a2, c2, rfl, hown2, hb2⟩
end CloneI
end Go.Proofs.YtninglnchengeaaGreat

/-
  circuit.Cone: what literals hang on.
-/
namespace Go.Proofs.YtninglnchengeaaGreat
open Go.RowKit Base Go.Maps
set_option linter.unusedVariables false
set_option linter.unusedSimpArgs false
namespace Circuit

theorem info_intC : (Tryz.prog.info? 3).map (fun i => (i.zero, i.size, i.bytes)) = some (some (.int .i64 0), 1, 8) := by kernel_rfl

/-- The set of what is met, and its keys. -/
def SetK (w : World) (b n : Nat) (M : List Int) : Prop :=
  ∃ D : DataW Unit, w.ownsMap Tryz.prog 3 (plainElem Tryz.prog 4) b n D ∧ IsMap D ∧ (∀ x, SetI.I64 x → D.atKey (.int .i64 x) (.lit (.bool false)) = .lit (.bool (SetI.inX M x))) ∧ SetI.KeysAre D M

theorem SetK.set {w : World} {b n : Nat} {M : List Int} (h : SetK w b n M) : SetI.SetIs w b n M := by
  obtain ⟨D, h1, h2, h3, _⟩ := h
  exact ⟨D, h1, h2, h3⟩
theorem SetK.next {w w' : World} {b n : Nat} {M : List Int} (h : SetK w b n M) (hb : Below w.heap.size w w') : SetK w' b n M := by
  obtain ⟨D, ⟨es, cl, hh, r⟩, hm, hat, hk⟩ := h
  exact ⟨D, ⟨es, cl, (hb.block b (Array.getElem?_eq_some_iff.1 hh).1).trans hh, r⟩, hm, hat, hk⟩

theorem _root_.Go.Proofs.YtninglnchengeaaGreat.SetI.keys_size {D : DataW Unit} {X : List Int} (h : SetI.KeysAre D X) : Maps.size D = X.length := by
  obtain ⟨es, rfl, _, hp⟩ := h
  have := hp.length_eq
  unfold Go.intKeys at this
  rw [List.length_map] at this
  exact this

theorem sorted_strict {ss M : List Int} (hp : ss.Perm M) (hn : M.Nodup) : (ss.mergeSort (fun x y => decide (x ≤ y))).Pairwise (· < ·) ∧ (∀ v, v ∈ ss.mergeSort (fun x y => decide (x ≤ y)) ↔ v ∈ M) ∧ (ss.mergeSort (fun x y => decide (x ≤ y))).length = ss.length := by
  have hperm : (ss.mergeSort (fun x y => decide (x ≤ y))).Perm M := (List.mergeSort_perm _ _).trans hp
  have h1 : (ss.mergeSort (fun x y => decide (x ≤ y))).Pairwise (fun x y => decide (x ≤ y) = true) :=
    List.pairwise_mergeSort (fun a b c h1 h2 => by simp only [decide_eq_true_eq] at *; omega) (fun a b => by simp only [Bool.or_eq_true, decide_eq_true_eq]; omega) ss
  have h2 : (ss.mergeSort (fun x y => decide (x ≤ y))).Nodup := hperm.nodup_iff.2 hn
  refine ⟨?_, fun v => hperm.mem_iff, by simp⟩
  refine (h1.and h2).imp ?_
  intro a b h
  simp only [decide_eq_true_eq] at h
  omega

theorem SetK.keep {w w' : World} {b n : Nat} {M : List Int} (h : SetK w b n M) {B : Nat} (hb : Below B w w') (hB : b < B) : SetK w' b n M := by
  obtain ⟨D, ⟨es, cl, hh, r⟩, hm, hat, hk⟩ := h
  exact ⟨D, ⟨es, cl, (hb.block b hB).trans hh, r⟩, hm, hat, hk⟩

theorem pop_last {T : List Int} (h : 0 < T.length) : ∃ T' t, T = T' ++ [t] ∧ T'.length + 1 = T.length := by
  refine ⟨T.dropLast, T.getLast (by intro e; rw [e] at h; simp at h), (List.dropLast_concat_getLast _).symm, ?_⟩
  rw [List.length_dropLast]
  omega

set_option maxRecDepth 8000 in
set_option maxHeartbeats 16000000 in
theorem cone_any (w : World) (x : Circ) (p : At) (hin : InCirc w x p) (hwa : WfT x.ands) (a : Option Addr) (c : Nat) (l : List Int) (hsl : Sl w a l.length c (ints l)) (hl : ∀ y ∈ l, I64 y) (hsz : (2 * l.length + 2 * x.ands.length + 2) * 8 ≤ 140737488355328) :
    Calls Tryz.prog 81 #[.agg (cells x p), .slice a l.length c] w fun e w' => ∃ a' c' vs, e = .returned (.slice a' vs.length c') ∧ w'.ownsRow w.heap.size 3 1 (.slice a' vs.length c') vs.length (ints vs) ∧ (vs.Pairwise (· < ·)) ∧ (∀ v, v ∈ vs ↔ v ≠ 0 ∧ Rch x.ands l v) ∧ Below w.heap.size w w' := by
  obtain ⟨W1, hW1⟩ : ∃ W1, w.alloc (.cells (cells x p) 27) = W1 := ⟨_, rfl⟩
  obtain ⟨hb1, hcb⟩ := cbox_new w x p W1 hW1
  obtain ⟨W2, hW2⟩ : ∃ W2, W1.alloc (.map #[] 0) = W2 := ⟨_, rfl⟩
  have hb2 : Below W1.heap.size W1 W2 := by rw [← hW2]; exact (Below.refl _ _).alloc (Nat.le_refl _) _
  have z2 : W2.heap.size = W1.heap.size + 1 := by rw [← hW2]; simp
  have hset : SetK W2 W1.heap.size 0 [] := by rw [← hW2]; exact ⟨.map [], World.ownsMap_made _ _ _ _, ⟨_, rfl⟩, fun x _ => by simp [DataW.atKey, SetI.inX], SetI.keys_nil⟩
  have CL := CloneI.clone W2 a l.length c (ints l) (hsl.next (hb1.trans (hb2.mono hb1.size))) (fun u hu => by unfold ints at hu; obtain ⟨y, _, rfl⟩ := List.mem_map.1 hu; rfl) (by omega)
  have HCL := Lib.hid CL
  have HB1 := Lib.hid hb1
  have HB2 := Lib.hid hb2
  have HZ2 := Lib.hid z2
  have HSET := Lib.hid hset
  have KB := Lib.hid (fun (U : World) (hU : Below W1.heap.size W1 U) => hcb.next hU (Nat.le_refl _))
  have HGA := fun (U : World) (hU : Below W1.heap.size W1 U) (v : Int) => gate_any U x p ((hin.next hb1).next hU) hwa v
  have HSZ := Lib.hid hsz
  have HWA := Lib.hid hwa
  have HL := Lib.hid hl
  obtain ⟨a1, c1, a2, c2, a3, c3, a4, c4, a5, c5, a6, c6, a7, c7⟩ := p
  simp only [cells] at hW1 HGA ⊢
  have HG := Lib.hid HGA
  have hmm := @run_makeMap Tryz.prog
  clear hin hwa hsl hl hsz hb1 hcb hb2 z2 hset CL HGA
  go_enter Tryz.func81, Tryz.ntmps81
  go_wp2_with fail
  with_reducible refine HCL.out.mono ?_
  rintro e w3 ⟨a3', c3', rfl, hown3, hb3⟩
  have hset3 := HSET.out.next hb3
  have hb13 := HB2.out.trans (hb3.mono HB2.out.size)
  have hz3 := hb3.size
  have HST : Hid (∃ (T M : List Int) (a' : Option Addr) (c' n : Nat), (.slice a3' l.length c3' : Value) = .slice a' n c' ∧ Hid (T.length = n) ∧ Hid (w3.ownsRow W2.heap.size 3 1 (.slice a' n c') n (ints T)) ∧ Hid (ConeInv x.ands l T M) ∧ Hid (SetK w3 W1.heap.size M.length M) ∧ Hid (∀ t ∈ T, I64 t) ∧ Hid (l.length + 3 * (l.length + 2 * x.ands.length) = T.length + 3 * (l.length + 2 * x.ands.length - M.length)) ∧ Hid (Below W1.heap.size W1 w3) ∧ Hid (W2.heap.size ≤ w3.heap.size)) :=
    ⟨l, [], a3', c3', l.length, rfl, rfl, hown3, cone_start _ _, hset3, HL.out, by show _ = _; simp, hb13, hz3⟩
  clear hW1 hW2 hmm HCL hset3 hb13 hz3 hown3 hb3
  go_wp2_with fail
  go_loopg [6] (l.length + 3 * (l.length + 2 * x.ands.length)) (fun gk s6 wr => ∃ (T M : List Int) (a' : Option Addr) (c' n : Nat), s6 = .slice a' n c' ∧ Hid (T.length = n) ∧ Hid (wr.ownsRow W2.heap.size 3 1 (.slice a' n c') n (ints T)) ∧ Hid (ConeInv x.ands l T M) ∧ Hid (SetK wr W1.heap.size M.length M) ∧ Hid (∀ t ∈ T, I64 t) ∧ Hid (gk = T.length + 3 * (l.length + 2 * x.ands.length - M.length)) ∧ Hid (Below W1.heap.size W1 wr) ∧ Hid (W2.heap.size ≤ wr.heap.size))
  case atStart => exact HST.out
  case round =>
    clear HST
    obtain ⟨T, M, a', c', n, rfl, hn, hown, hI, hS, h64, hgk, hB, hZ⟩ := hrel
    by_cases hpos : 0 < n
    · obtain ⟨T', t, hT, hlen⟩ := pop_last (T := T) (by have := hn.out; omega)
      obtain ⟨m, rfl⟩ : ∃ m, n = m + 1 := ⟨n - 1, by omega⟩
      have hm : T'.length = m := by have := hn.out; omega
      have HTM := Lib.hid hm
      subst hT
      obtain ⟨g, rfl, hgl, hgs⟩ := own_addr hown.out hpos
      have HPOP : Hid (wr.ownsRow W2.heap.size 3 1 (.slice (some ⟨g, 0, none⟩) m c') m (ints T')) := by
        have h := hown.out
        have e : ints (T' ++ [t]) = ints T' ++ [.int .i64 t] := by unfold ints; rw [List.map_append]; rfl
        rw [e] at h
        exact ownsRow_pop (by rw [ints_len, hm, Nat.mul_one]) h
      obtain ⟨a4, c4', hae, hsl⟩ := own_sl hown.out
      simp only [Value.slice.injEq, true_and] at hae
      obtain ⟨rfl, rfl⟩ := hae
      have HGK : Hid (gk = m + 1 + 3 * (l.length + 2 * x.ands.length - M.length)) := by
        have h := hgk.out
        rw [List.length_append, hm] at h
        exact h
      have H64' : Hid (∀ u ∈ T', I64 u) := fun u hu => h64.out u (List.mem_append_left _ hu)
      obtain ⟨b, o, hx, hae2, hbs, d0⟩ := hsl.int (show m < m + 1 by omega)
      simp only [Option.some.injEq, Addr.mk.injEq, and_true] at hae2
      obtain ⟨rfl, rfl⟩ := hae2
      have het : (T' ++ [t])[m] = t := by simp [← hm]
      rw [het, Nat.zero_add] at d0
      have hcap := hsl.cap
      have hbig := hsl.big
      have ht64 := h64.out t (by simp)
      have HV := Lib.hid (fun U => var_any t ht64.1 ht64.2 U)
      have hv64 : SetI.I64 (var t) := by have := ht64; unfold I64 at this; unfold SetI.I64 var; omega
      have HLK := SetI.set_look hS.out.set hv64
      clear hsl hx het hm
      generalize hgv : var t = v at *
      have HGV := Lib.hid hgv
      clear hgv hpos
      by_cases hv0 : v = 0
      · have hv0' : (v == 0) = true := by rw [hv0]; rfl
        have HVZ := Lib.hid hv0
        clear hv0
        go_wp2_with fail
        with_reducible refine (HV.out _).mono ?_
        rintro e w5 ⟨rfl, rfl⟩
        go_wp2_with fail
        go_roundg (m + 3 * (l.length + 2 * x.ands.length - M.length))
        case measure => have := HGK.out; omega
        case rel => exact ⟨T', M, _, c', m, rfl, HTM.out, HPOP.out, cone_skip hI.out (Or.inl (HGV.out.trans HVZ.out)), hS.out, H64'.out, by show _ = _; rw [HTM.out], hB.out, hZ.out⟩
      · have hv0' : (v == 0) = false := by simpa using hv0
        have HV0 := Lib.hid hv0
        clear hv0
        cases hin : SetI.inX M v
        · rw [hin] at HLK
          have HNM : Hid (v ∉ M) := fun hm => by
            have := SetI.inX_iff.2 hm
            rw [hin] at this
            cases this
          have HIN := Lib.hid hin
          clear hin
          obtain ⟨D, hown6, hD1, hD2, hD3⟩ := hS.out
          have hfew := cone_few hI.out
          have HFEW := Lib.hid hfew
          have HML : Hid (M.length < maxLen) := by show _ < _; have := HSZ.out; unfold maxLen; omega
          have HWF := Lib.hid (SetI.wf_lit hv64)
          go_upto_region 8 with ((first | (go_at_call 53; with_reducible refine (HV.out _).mono ?_; rintro e w5 ⟨rfl, rfl⟩) | (at_mapUpdate; refine wpList_mapUpdate_own _ rfl _ _ _ 53 rfl 3 4 SetI.law Tryz.underlying53 _ W1.heap.size M.length _ rfl hown6 HML.out _ _ _ rfl rfl (keyOf_int_mk Tryz.underlying3 HWF.out) _ [] (plainElem_bool Tryz.underlying4 true) ?_; intro w6 hmap6 hgrow6)))
          have hput := SetI.set_put hD1 hD2 v
          have hS6 : SetK w6 W1.heap.size (M.length + 1) (M ++ [v]) := ⟨_, hmap6, hput.1, hput.2, SetI.keys_put hD3 HNM.out _⟩
          have hgB : g ≠ W1.heap.size := by have := HZ2.out; omega
          have hown7 := HPOP.out.kept hgrow6 (Or.inr (by simpa [Value.ownBlock] using hgB))
          have hB6 := hB.out.grown hgrow6 hB.out.size (fun q hq => by cases hq; exact Nat.le_refl _)
          have HB6 := Lib.hid hB6
          have HS6 := Lib.hid hS6
          have HO6 := Lib.hid hown7
          have HZ6 := Lib.hid (Nat.le_trans hZ.out hgrow6.size)
          have CB := KB.out w6 hB6
          have HG6 := Lib.hid (HG.out w6 hB6 v)
          have HI := Lib.hid hI.out
          clear hput hS6 hown7 hB6 hgrow6 hmap6 hown6 hD1 hD2 hD3 HLK d0 hown hS
          have m0 : w6.cell? ⟨w.heap.size, 0, none⟩ = some (.int .i64 x.max) := CB.k0
          have m1 : w6.cell? ⟨w.heap.size, 1, none⟩ = some (.slice a1 x.ins.length c1) := CB.k1
          have m2 : w6.cell? ⟨w.heap.size, 2, none⟩ = some (.slice a2 x.lats.length c2) := CB.k2
          have m3 : w6.cell? ⟨w.heap.size, 3, none⟩ = some (.slice a3 x.outs.length c3) := CB.k3
          have m4 : w6.cell? ⟨w.heap.size, 4, none⟩ = some (.slice a4 x.bads.length c4) := CB.k4
          have m5 : w6.cell? ⟨w.heap.size, 5, none⟩ = some (.slice a5 x.invs.length c5) := CB.k5
          have m6 : w6.cell? ⟨w.heap.size, 6, none⟩ = some (.slice a6 x.ands.length c6) := CB.k6
          have m7 : w6.cell? ⟨w.heap.size, 7, none⟩ = some (.slice a7 x.names.length c7) := CB.k7
          clear CB
          cases hgt : gate x.ands v
          · rw [hgt] at HG6
            have HIN := Lib.hid (cone_meet_none HI.out (by rw [HGV.out]; exact HV0.out) (by rw [HGV.out]; exact HNM.out) (by rw [HGV.out]; exact hgt))
            have HG7 : Hid (Calls Tryz.prog 101 #[.agg #[.int .i64 x.max, .slice a1 x.ins.length c1, .slice a2 x.lats.length c2, .slice a3 x.outs.length c3, .slice a4 x.bads.length c4, .slice a5 x.invs.length c5, .slice a6 x.ands.length c6, .slice a7 x.names.length c7], .int .i64 v] w6 fun e w' => e = .returned (.tuple #[.agg #[.int .i64 0, .int .i64 0, .int .i64 0], .bool false]) ∧ Below w6.heap.size w6 w') := HG6.out
            clear HG6 hgt
            go_wp2_with fail
            with_reducible refine HG7.out.mono ?_
            rintro e w7 ⟨rfl, hb7⟩
            obtain ⟨W8, hW8⟩ : ∃ W8, w7.alloc (.cells #[.int .i64 0, .int .i64 0, .int .i64 0] 43) = W8 := ⟨_, rfl⟩
            obtain ⟨hb8, htb⟩ := tbox_new w7 (0, 0, 0) 43 W8 hW8
            have f0 : W8.frozen? ⟨w7.heap.size, 0, none⟩ = false := by rw [← hW8]; simp [go_sem]
            have f1 : W8.frozen? ⟨w7.heap.size, 1, none⟩ = false := by rw [← hW8]; simp [go_sem]
            have f2 : W8.frozen? ⟨w7.heap.size, 2, none⟩ = false := by rw [← hW8]; simp [go_sem]
            have s0 : W8.setCell ⟨w7.heap.size, 0, none⟩ (.int .i64 0) = W8 := setCell_same _ _ _ htb.t0
            have s1 : W8.setCell ⟨w7.heap.size, 1, none⟩ (.int .i64 0) = W8 := setCell_same _ _ _ htb.t1
            have s2 : W8.setCell ⟨w7.heap.size, 2, none⟩ (.int .i64 0) = W8 := setCell_same _ _ _ htb.t2
            have hb68 := hb7.trans (hb8.mono hb7.size)
            have HB68 := Lib.hid hb68
            have q0 : W8.cell? ⟨w7.heap.size, 0, none⟩ = some (.int .i64 0) := htb.t0
            have q1 : W8.cell? ⟨w7.heap.size, 1, none⟩ = some (.int .i64 0) := htb.t1
            have q2 : W8.cell? ⟨w7.heap.size, 2, none⟩ = some (.int .i64 0) := htb.t2
            clear hb7 hb8 htb hb68 m0 m1 m2 m3 m4 m5 m6 m7
            go_wp2_with fail
            go_roundg (m + 3 * (l.length + 2 * x.ands.length - (M.length + 1)))
            case measure => have := HGK.out; have := cone_few HIN.out; simp only [List.length_append, List.length_singleton] at this; omega
            case rel => exact ⟨T', M ++ [v], _, c', m, rfl, HTM.out, own_next HO6.out HB68.out, by have h := HIN.out; rw [HGV.out] at h; exact h, by show SetK _ _ (M ++ [v]).length _; rw [List.length_append]; exact HS6.out.next HB68.out, H64'.out, by show _ = _; rw [HTM.out, List.length_append]; rfl, HB6.out.trans (HB68.out.mono HB6.out.size), Nat.le_trans HZ6.out HB68.out.size⟩
          · rename_i gy
            obtain ⟨y0, y1, y2⟩ := gy
            rw [hgt] at HG6
            have HIN := Lib.hid (cone_meet_some HI.out (by rw [HGV.out]; exact HV0.out) (by rw [HGV.out]; exact HNM.out) (by rw [HGV.out]; exact hgt))
            have HY := Lib.hid (HWA.out _ (gate_mem hgt))
            have HG7 : Hid (Calls Tryz.prog 101 #[.agg #[.int .i64 x.max, .slice a1 x.ins.length c1, .slice a2 x.lats.length c2, .slice a3 x.outs.length c3, .slice a4 x.bads.length c4, .slice a5 x.invs.length c5, .slice a6 x.ands.length c6, .slice a7 x.names.length c7], .int .i64 v] w6 fun e w' => e = .returned (.tuple #[.agg #[.int .i64 y0, .int .i64 y1, .int .i64 y2], .bool true]) ∧ Below w6.heap.size w6 w') := HG6.out
            clear HG6 hgt
            go_wp2_with fail
            with_reducible refine HG7.out.mono ?_
            rintro e w7 ⟨rfl, hb7⟩
            obtain ⟨W8, hW8⟩ : ∃ W8, w7.alloc (.cells #[.int .i64 y0, .int .i64 y1, .int .i64 y2] 43) = W8 := ⟨_, rfl⟩
            obtain ⟨hb8, htb⟩ := tbox_new w7 (y0, y1, y2) 43 W8 hW8
            have hb68 := hb7.trans (hb8.mono hb7.size)
            have HB68 := Lib.hid hb68
            have q0 : W8.cell? ⟨w7.heap.size, 0, none⟩ = some (.int .i64 y0) := htb.t0
            have q1 : W8.cell? ⟨w7.heap.size, 1, none⟩ = some (.int .i64 y1) := htb.t1
            have q2 : W8.cell? ⟨w7.heap.size, 2, none⟩ = some (.int .i64 y2) := htb.t2
            clear hb7 hb8 htb hb68 m0 m1 m2 m3 m4 m5 m6 m7
            go_upto_region 10 with fail
            obtain ⟨W9, hW9⟩ : ∃ W9, W8.alloc (.cells #[.int .i64 y1, .int .i64 y2] 3) = W9 := ⟨_, rfl⟩
            have hb9 : Below W8.heap.size W8 W9 := by rw [← hW9]; exact (Below.refl _ _).alloc (Nat.le_refl _) _
            have hsl9 : Sl W9 (some ⟨W8.heap.size, 0, none⟩) 2 2 [.int .i64 y1, .int .i64 y2] := by rw [← hW9]; exact sl_new W8 _ _ 2 rfl (by omega)
            have hb69 := HB68.out.trans (hb9.mono HB68.out.size)
            have HO9 := Lib.hid (own_next HO6.out hb69)
            have HZ9 := Lib.hid (Nat.le_trans HZ6.out hb69.size)
            have HB69 := Lib.hid hb69
            have HSL9 := Lib.hid hsl9
            have HAN : Hid ((m + 2) * 8 ≤ 140737488355328) := by
              show _ ≤ _
              have h1 := HI.out.few
              have h2 := cone_few HIN.out
              have h3 := HSZ.out
              have h4 := HTM.out
              rw [List.length_append, h4] at h1
              rw [List.length_append] at h2
              simp only [List.length_singleton] at h1 h2
              omega
            clear hb9 hsl9 hb69
            go_wp2_with ((with_reducible refine wpL_app W2.heap.size (.slice (some ⟨g, 0, none⟩) m c') m (ints T') (some ⟨W8.heap.size, 0, none⟩) 2 2 [.int .i64 y1, .int .i64 y2] info_intC Tryz.underlying22 rfl ?_ ?_ ?_ HO9.out HSL9.out HZ9.out HAN.out ?_ (Below.refl _ W9) ?_); rfl; rfl; (intro u hu; simp only [List.mem_cons, List.not_mem_nil, or_false] at hu; rcases hu with rfl | rfl <;> rfl); (have := HAN.out; omega); (intro a10 c10 w10 hown10 hb10 hz10))
            have hb610 : Below W2.heap.size w6 w10 := (HB69.out.mono (by have := HZ6.out; omega)).trans hb10
            have hB10 : Below W1.heap.size W1 w10 := HB6.out.trans (hb610.mono (by have := HZ2.out; omega))
            have hS10 : SetK w10 W1.heap.size (M.length + 1) (M ++ [v]) := HS6.out.keep hb610 (by have := HZ2.out; omega)
            have h10 : ∀ u ∈ T' ++ [y1, y2], I64 u := fun u hu => by
              rw [List.mem_append] at hu
              rcases hu with hu | hu
              · exact H64'.out u hu
              · simp only [List.mem_cons, List.not_mem_nil, or_false] at hu
                rcases hu with rfl | rfl
                · exact HY.out.2.1
                · exact HY.out.2.2
            have hI10 : ConeInv x.ands l (T' ++ [y1, y2]) (M ++ [v]) := by have h := HIN.out; rw [HGV.out] at h; exact h
            have hO10 : w10.ownsRow W2.heap.size 3 1 (.slice a10 (m + 2) c10) (m + 2) (ints (T' ++ [y1, y2])) := by
              have e : ints (T' ++ [y1, y2]) = ints T' ++ [.int .i64 y1, .int .i64 y2] := by unfold ints; rw [List.map_append]; rfl
              rw [e]
              exact hown10
            have HZ10 := Lib.hid (Nat.le_trans HZ9.out hz10)
            have HB10 := Lib.hid hB10
            have HS10 := Lib.hid hS10
            have H10 := Lib.hid h10
            have HI10 := Lib.hid hI10
            have HO10 := Lib.hid hO10
            clear hb610 hB10 hS10 h10 hI10 hO10 hown10 hb10 hz10 q0 q1 q2
            go_wp2_with fail
            go_roundg (m + 2 + 3 * (l.length + 2 * x.ands.length - (M.length + 1)))
            case measure => have := HGK.out; have := cone_few HI10.out; simp only [List.length_append, List.length_singleton] at this; omega
            case rel => exact ⟨T' ++ [y1, y2], M ++ [v], a10, c10, m + 2, rfl, by show (_ : List Int).length = _; rw [List.length_append, HTM.out]; rfl, HO10.out, HI10.out, by show SetK _ _ (M ++ [v]).length _; rw [List.length_append]; exact HS10.out, H10.out, by show _ = _; rw [List.length_append, List.length_append, HTM.out]; rfl, HB10.out, HZ10.out⟩
        · rw [hin] at HLK
          have HMEM := Lib.hid (SetI.inX_iff.1 hin)
          clear hin
          go_wp2_with fail
          with_reducible refine (HV.out _).mono ?_
          rintro e w5 ⟨rfl, rfl⟩
          go_wp2_with fail
          go_roundg (m + 3 * (l.length + 2 * x.ands.length - M.length))
          case measure => have := HGK.out; omega
          case rel => exact ⟨T', M, _, c', m, rfl, HTM.out, HPOP.out, cone_skip hI.out (Or.inr (by rw [HGV.out]; exact HMEM.out)), hS.out, H64'.out, by show _ = _; rw [HTM.out], hB.out, hZ.out⟩
    · have hn0 : n = 0 := by omega
      subst hn0
      have hT : T = [] := List.eq_nil_of_length_eq_zero hn.out
      subst hT
      obtain ⟨D, hown6, hD1, hD2, hD3⟩ := hS.out
      have hfew := cone_few hI.out
      have hds := SetI.keys_size hD3
      have HKS := Lib.hid (fun (U : World) => SortedK.keys_any (some W1.heap.size) U)
      have HSS := Lib.hid (SortedK.sorted_any W1.heap.size M.length D (plainElem Tryz.prog 4) wr hown6 (by rw [hds]; have := HSZ.out; unfold maxLen; omega) (by rw [hds]; have := HSZ.out; omega))
      have HD3 := Lib.hid hD3
      clear hfew hds hown6 hD1 hD2 hD3
      go_wp2_with fail
      with_reducible refine (HKS.out _).mono ?_
      rintro e w5 ⟨rfl, rfl⟩
      go_wp2_with fail
      with_reducible refine HSS.out.mono ?_
      rintro e w6 ⟨v, ss, rfl, hperm, hrow, hnil, hb⟩
      obtain ⟨a9, c9, rfl, _⟩ := own_sl hrow
      have HROW := Lib.hid hrow
      have HBB := Lib.hid hb
      clear hrow hb hnil
      go_wp2_with fail
      go_ret
      have hpm : (intKeys D).Perm M := by obtain ⟨es, rfl, _, h⟩ := HD3.out; exact h
      obtain ⟨hs1, hs2, hs3⟩ := sorted_strict (hperm.trans hpm) hI.out.nodup
      refine ⟨a9, c9, ss.mergeSort (fun x y => decide (x ≤ y)), by rw [hs3]; rfl, ?_, hs1, fun v => (hs2 v).trans (cone_end hI.out v), ?_⟩
      · rw [hs3]
        exact own_mono HROW.out (by have h1 := hB.out.size; have h2 := HB1.out.size; omega)
      · exact (HB1.out.trans (hB.out.mono HB1.out.size)).trans (HBB.out.mono (by have h1 := hB.out.size; have h2 := HB1.out.size; omega))
end Circuit
end Go.Proofs.YtninglnchengeaaGreat
