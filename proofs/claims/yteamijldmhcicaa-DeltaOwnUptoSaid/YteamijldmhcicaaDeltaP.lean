/-
  Frames of clauses, as plain lists. No program.
-/
import Derived.Test.YteamijldmhcicaaClauseP
import Derived.Test.YteamijldmhcicaaSubP
namespace Go.Proofs.Yteamijldmhcicaa.Delta
set_option linter.unusedVariables false
set_option linter.unusedSimpArgs false
open RefC (norm always)
open Clause (subs)

/-- What holds at a level. -/
def atL (F : List (List (List Int))) (i : Nat) : List (List Int) := (F.drop i).flatten

def covered (F : List (List (List Int))) (i : Nat) (l : List Int) : Bool := (atL F i).any fun x => subs x l

/-- Up to level k: without what x says. -/
def cut (F : List (List (List Int))) (x : List Int) (k : Nat) : List (List (List Int)) := (F.take k).map (fun r => r.filter fun y => !subs x y) ++ F.drop k

def addL (F : List (List (List Int))) (lev : Nat) (x : List Int) : List (List (List Int)) := (cut F x (lev + 1)).set lev ((cut F x (lev + 1)).getD lev [] ++ [x])

def add (F : List (List (List Int))) (level : Int) (l : List Int) : List (List (List Int)) × Int :=
  if level < 0 ∨ (F.length : Int) ≤ level then ([], 4)
  else if always (norm l) = true then ([], 23)
  else if covered F level.toNat (norm l) = true then (F, 0)
  else (addL F level.toNat (norm l), 0)

theorem cut_len (F : List (List (List Int))) (x : List Int) (k : Nat) : (cut F x k).length = F.length := by
  unfold cut; simp; omega

theorem cut_more {F : List (List (List Int))} {x : List Int} {k : Nat} (hk : k < F.length) : cut F x (k + 1) = (cut F x k).set k (F[k].filter fun y => !subs x y) := by
  unfold cut
  rw [List.take_succ_eq_append_getElem hk, List.map_append]
  have hl : ((F.take k).map fun r => r.filter fun y => !subs x y).length = k := by simp; omega
  have hd : F.drop k = F[k] :: F.drop (k + 1) := List.drop_eq_getElem_cons hk
  rw [hd, List.set_append_right _ _ (by omega), hl, Nat.sub_self, List.set_cons_zero]
  simp

theorem cut_at {F : List (List (List Int))} {x : List Int} {k : Nat} (hk : k < F.length) : (cut F x k)[k]? = some F[k] := by
  unfold cut
  have hl : ((F.take k).map fun r => r.filter fun y => !subs x y).length = k := by simp; omega
  rw [List.getElem?_append_right (by omega), hl, Nat.sub_self, List.getElem?_drop, Nat.add_zero, List.getElem?_eq_getElem hk]

theorem cut_last {F : List (List (List Int))} {x : List Int} {k : Nat} (hk : k < F.length) : (cut F x (k + 1))[k]? = some (F[k].filter fun y => !subs x y) := by
  rw [cut_more hk, List.getElem?_set_self (by rw [cut_len]; exact hk)]

theorem cut_zero (F : List (List (List Int))) (x : List Int) : cut F x 0 = F := by simp [cut]

end Go.Proofs.Yteamijldmhcicaa.Delta
