/-
  circuit.defined: all variables are defined, or a fault panics.
-/
import Derived.Test.YtjmmhbmbafjneaaGreatDoorCBox
import Derived.Test.YtjmmhbmbafjneaaGreatDoorDefine
import Derived.Deep.RegionHeld3
import Derived.Deep.DeepCutAuto
namespace Go.Proofs.YtjmmhbmbafjneaaGreatDoor
open Go.RowKit Base Go.Maps
set_option linter.unusedVariables false
set_option linter.unusedSimpArgs false
namespace Circuit

/-- A variable, not yet met. -/
def okV (vs : List Int) (l most : Int) : Prop := 2 ≤ l ∧ neg l = false ∧ var l ≤ most ∧ ¬ var l ∈ vs

/-- The literals may be defined one behind another. -/
def OwnOk (most : Int) (own : List Int) : Prop := ∀ j (h : j < own.length), okV ((own.take j).map var) own[j] most

theorem ownOk_more {most : Int} {own : List Int} {k : Nat} (h : OwnOk most (own.take k)) (hk : k < own.length) (hok : okV ((own.take k).map var) own[k] most) : OwnOk most (own.take (k + 1)) := by
  intro j hj
  rw [List.length_take] at hj
  rw [List.take_take, List.getElem_take]
  by_cases he : j = k
  · subst he
    rw [show min j (j + 1) = j by omega]
    exact hok
  · have h2 := h j (by rw [List.length_take]; omega)
    rw [List.take_take, List.getElem_take] at h2
    rw [show min j (k + 1) = min j k by omega]
    exact h2

theorem ownOk_at {most : Int} {own : List Int} (h : OwnOk most own) {k : Nat} (hk : k < own.length) : okV ((own.take k).map var) own[k] most := h k hk

/-- What is said tells the variables. -/
def Tells (D : List (Int × ByteArray)) (vs : List Int) : Prop := ∀ v, (get D v).toList.isEmpty = false ↔ v ∈ vs

theorem tells_nil : Tells [] [] := by intro v; simp [get]

theorem tells_more {D : List (Int × ByteArray)} {vs : List Int} (h : Tells D vs) (v : Int) (s : ByteArray) (hs : s.toList.isEmpty = false) : Tells ((v, s) :: D) (vs ++ [v]) := by
  intro u
  unfold get
  rw [List.find?_cons]
  by_cases hv : v = u
  · subst hv
    simp [hs]
  · have hne : (v == u) = false := by simpa using hv
    simp only [hne]
    rw [List.mem_append, List.mem_singleton]
    have := h u
    unfold get at this
    rw [this]
    constructor
    · exact Or.inl
    · rintro (h1 | h1)
      · exact h1
      · exact absurd h1.symm hv

theorem okD_iff {D : List (Int × ByteArray)} {vs : List Int} (h : Tells D vs) (l most : Int) : okD D l most = true ↔ okV vs l most := by
  unfold okD okV
  have h2 := h (var l)
  cases he : (get D (var l)).toList.isEmpty
  · simp only [Bool.and_eq_true, decide_eq_true_eq, Bool.not_eq_true', Bool.false_eq_true]
    have := h2.1 he
    constructor
    · rintro ⟨_, _, _, h⟩; exact h.elim
    · rintro ⟨_, _, _, h⟩; exact (h this).elim
  · simp only [Bool.and_eq_true, decide_eq_true_eq, Bool.not_eq_true', and_true]
    constructor
    · rintro ⟨h1, h3, h4⟩
      exact ⟨h1, h3, h4, fun hm => by have := h2.2 hm; rw [he] at this; cases this⟩
    · rintro ⟨h1, h3, h4, _⟩
      exact ⟨h1, h3, h4⟩

def ownL (x : Circ) : List Int := x.ins ++ x.lats.map (·.1) ++ x.ands.map (·.1)

/-- All of a circuit's variables may be defined. -/
def DefOk (x : Circ) : Prop := OwnOk x.max (ownL x) ∧ (∀ t ∈ x.lats, t.2.2 = 0 ∨ t.2.2 = 1 ∨ t.2.2 = t.1) ∧ ∀ j (h : j + 1 < x.ands.length), (x.ands[j]'(by omega)).1 < x.ands[j + 1].1

end Circuit
end Go.Proofs.YtjmmhbmbafjneaaGreatDoor
