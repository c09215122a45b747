/-
  interlocklaw38.few: may a formula's models be gone through?
-/
import Derived.Test.YthhkngpbaflfiaaFormulaCheck
namespace Go.Proofs.Ythhkngpbaflfiaa
open Go.RowKit Base
set_option linter.unusedVariables false
set_option linter.unusedSimpArgs false
namespace Pre

def few (vars : Int) (cls : List (List Int)) : Bool := decide (vars ≤ 8) && (Formula.check vars cls == 0)

set_option maxHeartbeats 1000000 in
theorem few_any (w : World) (vars : Int) (a : Option Addr) (n c : Nat) (vs : List Value) (cls : List (List Int)) (hsl : Sl2 w a n c vs cls) (hw : Formula.Wf2 cls) :
    Calls Try.prog 20 #[.agg #[.int .i64 vars, .slice a n c]] w fun e w' => e = .returned (.bool (few vars cls)) ∧ Below w.heap.size w w' := by
  obtain ⟨W, hW⟩ : ∃ W, w.alloc (.cells #[.int .i64 vars, .slice a n c] 24) = W := ⟨_, rfl⟩
  have hb : Below w.heap.size w W := by rw [← hW]; exact (Below.refl _ _).alloc (Nat.le_refl _) _
  have k0 : W.cell? ⟨w.heap.size, 0, none⟩ = some (.int .i64 vars) := by rw [← hW]; simp [go_sem]
  have k1 : W.cell? ⟨w.heap.size, 1, none⟩ = some (.slice a n c) := by rw [← hW]; simp [go_sem]
  have HR := Lib.hid (Formula.ref_any W vars a n c vs cls (hsl.next hb) hw)
  have HB := Lib.hid hb
  have HF : Hid (few vars cls = (decide (vars ≤ 8) && (Formula.check vars cls == 0))) := rfl
  clear hsl hw hb
  generalize Formula.check vars cls = q at *
  by_cases h8 : vars ≤ 8
  · have hd : decide (vars ≤ 8) = true := decide_eq_true h8
    rw [hd, Bool.true_and] at HF
    clear hd
    go_enter Try.func20, Try.ntmps20
    go_wp2_with fail
    refine HR.out.mono ?_
    rintro e w1 ⟨rfl, hb1⟩
    go_wp2_with fail
    go_ret
    exact ⟨ret_bool HF.out.symm, HB.out.trans (hb1.mono HB.out.size)⟩
  · have hd : decide (vars ≤ 8) = false := decide_eq_false h8
    rw [hd, Bool.false_and] at HF
    clear hd
    go_enter Try.func20, Try.ntmps20
    go_wp2_with fail
    go_ret
    exact ⟨ret_bool HF.out.symm, HB.out⟩
end Pre
end Go.Proofs.Ythhkngpbaflfiaa
