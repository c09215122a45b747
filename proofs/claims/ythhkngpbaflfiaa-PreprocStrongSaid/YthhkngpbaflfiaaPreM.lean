/-
  The models of a formula that is cleaned, subsumed, strengthened: the same. Plain lists, no program.
-/
import Derived.Test.YthhkngpbaflfiaaPreQ
import Derived.Test.YthhkngpbaflfiaaModelsP
import Derived.Test.YthhkngpbaflfiaaFormulaOk
namespace Go.Proofs.Ythhkngpbaflfiaa.Pre
set_option linter.unusedVariables false
set_option linter.unusedSimpArgs false
open ModelsP (models holds allS allS_size)

theorem inR_of {vars : Int} {cls : List (List Int)} (h : Formula.check vars cls = 0) : InR vars.toNat cls := by
  have hk := Formula.check_ok h
  intro l hl x hx
  have := (hk.2.2.2 l hl).2 x hx
  omega

theorem models_same {V : Nat} {a b : List (List Int)} (h : ∀ s : List UInt8, s.length = V → allT s a = allT s b) (l : List Int) : models V a l = models V b l := by
  unfold models
  have e : (V : Int).toNat = V := by omega
  rw [e]
  refine List.filter_congr fun s hs => ?_
  have hz := allS_size V s hs
  have h1 := h s.data.toList (by simpa using hz)
  unfold holds True.tru
  have ea : a.all (True.one s) = allT s.data.toList a := rfl
  have eb : b.all (True.one s) = allT s.data.toList b := rfl
  rw [ea, eb, h1]

theorem models_cleaned {V : Nat} {cls : List (List Int)} (hw : Formula.Wf2 cls) (h : InR V cls) (l : List Int) : models V (cleaned cls) l = models V cls l :=
  models_same (fun s hs => allT_cleaned hw (by rw [hs]; exact h)) l

theorem models_subsumed {V : Nat} {cls : List (List Int)} (hw : Formula.Wf2 cls) (h : InR V cls) (l : List Int) : models V (subsumed cls) l = models V cls l :=
  models_same (fun s hs => allT_subsumed hw (by rw [hs]; exact h)) l

theorem models_steps {V : Nat} {cls L : List (List Int)} (hw : Formula.Wf2 cls) (h : InR V cls) (hs : Pre.Steps (subsumed cls) L) (l : List Int) : models V L l = models V cls l :=
  models_same (fun s hl => by
    rw [allT_steps (neat_subsumed hw (by rw [hl]; exact h)) hs, allT_subsumed hw (by rw [hl]; exact h)]) l

end Go.Proofs.Ythhkngpbaflfiaa.Pre
