/-
  A formula that comes in, opened.
-/
import Derived.Test.YthhkngpbaflfiaaOpen
import Derived.Test.YthhkngpbaflfiaaFormulaCheck
import Derived.Lib.SmallJoins
namespace Go.Proofs.Ythhkngpbaflfiaa.Open
open Go.ChangeShapes Go.WideShapes Go.ChangeAt Go.RowKit Go.Deep Base
set_option linter.unusedVariables false

theorem formula_type : fields Try.prog 24 = some [(3, 0), (22, 1)] := by kernel_rfl

set_option maxRecDepth 100000 in
theorem open_formula {H : Type} {enc : TypeId × Value → H} {w : World} {base b0 : Nat} {held : Bool} {r : Reach} {v : Value} {d : DataW H} {p : List MemPlace}
    (hv : Value.okWide Try.prog w r b0 24 v) (h : DataW.Trod enc Try.prog w base (fun _ => true) held 24 v d p) :
    ∃ vars a c vs cls, v = .agg #[.int .i64 vars, .slice a cls.length c] ∧ -9223372036854775808 ≤ vars ∧ vars ≤ 9223372036854775807 ∧ Sl2 w a cls.length c vs cls ∧ Formula.Wf2 cls ∧ bulkRows cls ≤ Rows.uptoBulk d := by
  obtain ⟨fs, hfs, _⟩ := fields_of formula_type
  obtain ⟨cs, rfl, hs⟩ := okWide_struct hfs hv
  obtain ⟨y, ⟨hl, ⟨h0, hlo, hhi⟩, h1⟩, hf⟩ := trod_cells (reads_struct2 formula_type (reads_int (by kernel_rfl)) (reads_slice1 (e := 29) (by kernel_rfl) (by kernel_rfl) (reads_slice1 (e := 3) (by kernel_rfl) (by kernel_rfl) (reads_int (by kernel_rfl))))) h
  obtain ⟨a, c, vs, h1, hsl, hw⟩ := rows_of h1
  have hc : Try.prog.cellsOf 24 = 2 := by kernel_rfl
  have hc0 : Try.prog.cellsOf 3 = 1 := by kernel_rfl
  have hc1 : Try.prog.cellsOf 22 = 1 := by kernel_rfl
  rw [hc] at hs
  obtain ⟨c0, c1, rfl⟩ := Joins.array2 hs
  simp only [Value.cells] at h0 h1
  rw [hc0] at h0
  rw [hc1] at h1
  simp at h0 h1
  obtain ⟨rfl, rfl⟩ := (⟨h0, h1⟩ : c0 = _ ∧ c1 = _)
  exact ⟨y.1, a, c, vs, y.2, rfl, hlo, hhi, hsl, hw, by unfold bulkRows; exact Nat.le_trans (by show (y.2.map fun l => (l.map fun _ => 1).sum + 1).sum + 1 ≤ 1 + ((y.2.map fun l => (l.map fun _ => 1).sum + 1).sum + 1) + 1; omega) hf⟩
end Go.Proofs.Ythhkngpbaflfiaa.Open
