/-
  lits.Var; what a variable's and is (plain).
-/
import Derived.Test.YtjmmhbmbafjneaaGreatDoorCirc
namespace Go.Proofs.YtjmmhbmbafjneaaGreatDoor
open Go.RowKit Base
set_option linter.unusedVariables false
set_option linter.unusedSimpArgs false
namespace Circuit

/-- A literal's variable. -/
def var (l : Int) : Int := max l 0 / 2

set_option maxHeartbeats 1000000 in
theorem var_any (l : Int) (h0 : -9223372036854775808 ≤ l) (h1 : l ≤ 9223372036854775807) (w : World) :
    Calls Tryz.prog 89 #[.int .i64 l] w fun e w' => e = .returned (.int .i64 (var l)) ∧ w = w' := by
  go_enter Tryz.func89, Tryz.ntmps89
  go_wp2
  all_goals
    go_ret
    exact ⟨ret_int (by unfold var; omega), rfl⟩

/-- The first and of a variable. -/
def gate (ands : List Tri) (v : Int) : Option Tri := ands.find? fun t => decide (0 ≤ t.1) && decide (var t.1 = v)

theorem gate_more {ands : List Tri} {v : Int} {k : Nat} (hk : k < ands.length) (h : gate (ands.take k) v = none) (hn : ¬ (0 ≤ ands[k].1 ∧ var ands[k].1 = v)) : gate (ands.take (k + 1)) v = none := by
  unfold gate at *
  rw [List.take_succ_eq_append_getElem hk, List.find?_append, h]
  simp only [Option.none_or, List.find?_cons, List.find?_nil]
  have : (decide (0 ≤ ands[k].1) && decide (var ands[k].1 = v)) = false := by
    rw [Bool.eq_false_iff]
    intro hb
    simp at hb
    exact hn hb
  rw [this]

theorem gate_hit {ands : List Tri} {v : Int} {k : Nat} (hk : k < ands.length) (h : gate (ands.take k) v = none) (h0 : 0 ≤ ands[k].1) (h1 : var ands[k].1 = v) : gate ands v = some ands[k] := by
  unfold gate at *
  conv => lhs; rw [← List.take_append_drop k ands]
  rw [List.find?_append, h, List.drop_eq_getElem_cons hk, Option.none_or, List.find?_cons]
  have : (decide (0 ≤ ands[k].1) && decide (var ands[k].1 = v)) = true := by simp [h0, h1]
  rw [this]

def andV (t : Tri) : Value := .agg #[.int .i64 t.1, .int .i64 t.2.1, .int .i64 t.2.2]

def GateOut (w : World) (g : Option Tri) (e : Ending) (w' : World) : Prop :=
  (match g with
    | some t => e = .returned (.tuple #[andV t, .bool true])
    | none => e = .returned (.tuple #[andV (0, 0, 0), .bool false])) ∧ Below w.heap.size w w'

def I64 (n : Int) : Prop := -9223372036854775808 ≤ n ∧ n ≤ 9223372036854775807
def WfT (l : List Tri) : Prop := ∀ t ∈ l, I64 t.1 ∧ I64 t.2.1 ∧ I64 t.2.2

end Circuit
end Go.Proofs.YtjmmhbmbafjneaaGreatDoor
