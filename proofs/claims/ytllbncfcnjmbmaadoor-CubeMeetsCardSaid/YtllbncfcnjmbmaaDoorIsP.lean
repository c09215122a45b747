/-
  Is a literal so in a text of bits? The plain facts that the walks of the functions that ask it use. No program's function.
-/
import Derived.Test.YtllbncfcnjmbmaaDoorLaws
import Derived.Test.YtllbncfcnjmbmaaDoorCubeP
namespace Go.Proofs.YtllbncfcnjmbmaaDoor
open Go.RowKit Base
set_option linter.unusedVariables false
namespace IsP

theorem getD_at (s : ByteArray) (k : Nat) (h : k < s.size) : s.data.toList.getD k 0 = s[k] := by
  rw [List.getD_eq_getElem?_getD, List.getElem?_eq_getElem (by simpa using h)]
  rfl

theorem is_out (s : ByteArray) (l : Int) (h : max l (-l) < 1 ∨ (s.size : Int) < max l (-l)) : CubeP.is s.data.toList l = false := by
  have hl : (s.data.toList.length : Int) = s.size := by simp
  unfold CubeP.is
  rcases h with h | h
  · rw [decide_eq_false (by omega)]; rfl
  · rw [decide_eq_false (p := max l (-l) ≤ (s.data.toList.length : Int)) (by omega)]; simp
theorem is_pos (s : ByteArray) (k : Nat) (h : k < s.size) : CubeP.is s.data.toList ((k : Int) + 1) = ((s[k].toNat : Int) == 49) := by
  have hl : (s.data.toList.length : Int) = s.size := by simp
  have e : max ((k : Int) + 1) (-((k : Int) + 1)) = (k : Int) + 1 := by omega
  unfold CubeP.is
  rw [e, decide_eq_true (by omega), decide_eq_true (p := (k : Int) + 1 ≤ (s.data.toList.length : Int)) (by omega), decide_eq_true (p := 0 < (k : Int) + 1) (by omega)]
  have e2 : ((k : Int) + 1).toNat - 1 = k := by omega
  rw [e2, getD_at s k h]
  refine Eq.trans ?_ (byte_eq s[k] 49).symm
  cases (s[k] == 49) <;> rfl
theorem is_neg (s : ByteArray) (k : Nat) (h : k < s.size) : CubeP.is s.data.toList (-((k : Int) + 1)) = !((s[k].toNat : Int) == 49) := by
  have hl : (s.data.toList.length : Int) = s.size := by simp
  have e : max (-((k : Int) + 1)) (-(-((k : Int) + 1))) = (k : Int) + 1 := by omega
  unfold CubeP.is
  rw [e, decide_eq_true (by omega), decide_eq_true (p := (k : Int) + 1 ≤ (s.data.toList.length : Int)) (by omega), decide_eq_false (p := 0 < -((k : Int) + 1)) (by omega)]
  have e2 : ((k : Int) + 1).toNat - 1 = k := by omega
  rw [e2, getD_at s k h]
  refine Eq.trans ?_ (congrArg Bool.not (byte_eq s[k] 49).symm)
  cases (s[k] == 49) <;> rfl

end IsP
end Go.Proofs.YtllbncfcnjmbmaaDoor
