/-
  Several texts in one (written by merge.py): XClean XBoxF XEliminate XPreM XElimQ XPlainInts XPreAlive XRefHas XNorm XPlainLists XRefSame XLawCleaned XFew XFormulaTrue XModels XBrute XPreprocEliminates
-/
import Derived.Test.YthhkngpbaflfiaaSubsumed
import Derived.Test.YthhkngpbaflfiaaFormulaOk
import Derived.Test.YthhkngpbaflfiaaLaws
import Derived.Test.YthhkngpbaflfiaaResolved
import Derived.Test.YthhkngpbaflfiaaSlfR
import Derived.Test.YthhkngpbaflfiaaPreQ
import Derived.Test.YthhkngpbaflfiaaModelsP
import Derived.Test.YthhkngpbaflfiaaElimP
import Derived.Test.YthhkngpbaflfiaaBruteP
import Derived.Deep.QuietTactic
import Derived.BigQuiet
import Derived.Test.YthhkngpbaflfiaaRefAbs
import Derived.Test.YthhkngpbaflfiaaRefHasP
import Derived.Test.YthhkngpbaflfiaaNormP
import Derived.Test.YthhkngpbaflfiaaStep
import Derived.Test.YthhkngpbaflfiaaPreP
import Derived.Test.YthhkngpbaflfiaaMix
import Derived.Test.YthhkngpbaflfiaaFormulaCheck
import Derived.Test.YthhkngpbaflfiaaTrue
import Derived.Deep.RegionHeld3
import Derived.Deep.DeepCutAuto
/-
  preproc.Clean, preproc.Subsume: a formula's clauses, cleaned; without those that another one says.
-/
namespace Go.Proofs.Ythhkngpbaflfiaa
open Go.RowKit Base
set_option linter.unusedVariables false
set_option linter.unusedSimpArgs false
namespace Pre

def FormOut (w : World) (vars : Int) (cls res : List (List Int)) (e : Ending) (w' : World) : Prop :=
  (if Formula.check vars cls = 0 then ∃ a' c' vals, e = .returned (.tuple #[.agg #[.int .i64 vars, .slice a' res.length c'], .int .i64 0]) ∧ Own2 w' w.heap.size 29 3 (.slice a' res.length c') res.length vals res
    else e = .returned (.tuple #[.agg #[.int .i64 0, .slice none 0 0], .int .i64 9])) ∧ Below w.heap.size w w'

/-- The world behind such a function's first rows: the formula's box, the result's. -/
theorem boxes (w : World) (vars : Int) (a : Option Addr) (n c : Nat) (W2 : World) (hW : W2 = (w.alloc (.cells #[.int .i64 vars, .slice a n c] 24)).alloc (.cells #[.int .i64 0, .slice none 0 0] 24)) :
    Below w.heap.size w W2 ∧ W2.cell? ⟨w.heap.size, 0, none⟩ = some (.int .i64 vars) ∧ W2.cell? ⟨w.heap.size, 1, none⟩ = some (.slice a n c) ∧
    W2.frozen? ⟨w.heap.size + 1, 0, none⟩ = false ∧ W2.frozen? ⟨w.heap.size + 1, 1, none⟩ = false ∧ W2.heap.size = w.heap.size + 2 ∧
    W2.cell? ⟨w.heap.size + 1, 0, none⟩ = some (.int .i64 0) ∧ W2.cell? ⟨w.heap.size + 1, 1, none⟩ = some (.slice none 0 0) := by
  subst hW
  refine ⟨((Below.refl _ _).alloc (Nat.le_refl _) _).alloc (by simp) _, ?_, ?_, ?_, ?_, ?_, ?_, ?_⟩ <;> simp [go_sem]

theorem out0 {w : World} {vars : Int} {cls res : List (List Int)} (h : Formula.check vars cls = 0) {a' : Option Addr} {m c' : Nat} {vals : List Value} {w' : World} (hm : res.length = m) (ho : Own2 w' w.heap.size 29 3 (.slice a' m c') m vals res) (hb : Below w.heap.size w w') :
    FormOut w vars cls res (.returned (.tuple #[.agg #[.int .i64 vars, .slice a' m c'], .int .i64 0])) w' := by
  subst hm
  refine ⟨?_, hb⟩
  rw [if_pos h]
  exact ⟨a', c', vals, rfl, ho⟩

theorem out9 {w : World} {vars : Int} {cls res : List (List Int)} (h : Formula.check vars cls = 9) {w' : World} (hb : Below w.heap.size w w') :
    FormOut w vars cls res (.returned (.tuple #[.agg #[.int .i64 0, .slice none 0 0], .int .i64 9])) w' := by
  refine ⟨?_, hb⟩
  rw [if_neg (by rw [h]; decide)]

set_option maxHeartbeats 4000000 in
theorem clean_any (w : World) (vars : Int) (a : Option Addr) (n c : Nat) (vs : List Value) (cls : List (List Int)) (hsl : Sl2 w a n c vs cls) (hw : Formula.Wf2 cls) :
    Calls Try.prog 8 #[.agg #[.int .i64 vars, .slice a n c]] w (FormOut w vars cls (cleaned cls)) := by
  obtain ⟨W2, hW2⟩ : ∃ W2, W2 = (w.alloc (.cells #[.int .i64 vars, .slice a n c] 24)).alloc (.cells #[.int .i64 0, .slice none 0 0] 24) := ⟨_, rfl⟩
  obtain ⟨h2, b0, b1, f0, f1, hz, q0, q1⟩ := boxes w vars a n c W2 hW2
  have hs2 := hsl.next h2
  have HCH := Lib.hid (Formula.check_any W2 vars a n c vs cls hs2 hw)
  have HB2 := Lib.hid h2
  have HOK := Lib.hid (@Formula.check_ok vars cls)
  have H9 := Lib.hid (Formula.check_or vars cls)
  have HLN := Lib.hid hsl.len
  have HCL := Lib.hid (fun (V : World) (hV : Below W2.heap.size W2 V) (h0 : n * 24 ≤ 140737488355328) (h1 : ∀ l ∈ cls, l.length * 8 ≤ 140737488355328) => cleaned_any V a n c vs cls (hs2.next hV) hw h0 h1)
  have hW2' := hW2.symm
  have HF0 := Lib.hid (fun h => @out0 w vars cls (cleaned cls) h)
  have HF9 := Lib.hid (fun h => @out9 w vars cls (cleaned cls) h)
  generalize FormOut w vars cls (cleaned cls) = R at *
  generalize Formula.check vars cls = q at *
  clear hsl hs2 h2 hw hW2
  go_enter Try.func8, Try.ntmps8
  go_wp2_with fail
  refine HCH.out.mono ?_
  rintro e w3 ⟨rfl, hb3⟩
  have c0 := (hb3.cell (p := ⟨w.heap.size, 0, none⟩) (by show w.heap.size < _; rw [hz]; omega)).trans b0
  have c1 := (hb3.cell (p := ⟨w.heap.size, 1, none⟩) (by show w.heap.size < _; rw [hz]; omega)).trans b1
  have g0 := (hb3.frozen (p := ⟨w.heap.size + 1, 0, none⟩) (by show w.heap.size + 1 < _; rw [hz]; omega)).trans f0
  have g1 := (hb3.frozen (p := ⟨w.heap.size + 1, 1, none⟩) (by show w.heap.size + 1 < _; rw [hz]; omega)).trans f1
  have r0 := (hb3.cell (p := ⟨w.heap.size + 1, 0, none⟩) (by show w.heap.size + 1 < _; rw [hz]; omega)).trans q0
  have r1 := (hb3.cell (p := ⟨w.heap.size + 1, 1, none⟩) (by show w.heap.size + 1 < _; rw [hz]; omega)).trans q1
  have HB3 := Lib.hid (HB2.out.trans (hb3.mono HB2.out.size))
  have HZ3 : Hid (w.heap.size + 2 ≤ w3.heap.size) := by have := hb3.size; rw [hz] at this; exact this
  have HBB := Lib.hid hb3
  clear b0 b1 f0 f1 q0 q1 hW2' hb3 hz
  rcases H9.out with h0 | h9
  · have HK := HOK.out h0
    have HC := Lib.hid (fun (V : World) (hV : Below w3.heap.size w3 V) => HCL.out V (HBB.out.trans (hV.mono HBB.out.size)) (by have := HK.2.2.1; have := HLN.out; omega) (fun l hl => by have := (HK.2.2.2 l hl).1; omega))
    subst h0
    clear HK HCL HCH HF9
    generalize cleaned cls = L at *
    obtain ⟨N, hN⟩ : ∃ N, N = w3.heap.size := ⟨_, rfl⟩
    have HNN := Lib.hid hN
    clear hN
    go_wp2_with fail
    go_region_law (first | (go_simp; go_at_call 27; refine (HC.out _ (by first | exact Below.refl _ _ | exact (Below.refl _ _).drew)).mono ?_; rintro e w4 ⟨a4, c4, vals, rfl, ho4, hb4'⟩; (have hb4 : Below w3.heap.size w3 w4 := by first | exact hb4' | exact undrew hb4'); (have d0 := (hb4.cell (p := ⟨w.heap.size, 0, none⟩) (by show w.heap.size < w3.heap.size; have := HZ3.out; omega)).trans c0); (have d1 := (hb4.cell (p := ⟨w.heap.size, 1, none⟩) (by show w.heap.size < w3.heap.size; have := HZ3.out; omega)).trans c1); (have e0 := (hb4.frozen (p := ⟨w.heap.size + 1, 0, none⟩) (by show w.heap.size + 1 < w3.heap.size; have := HZ3.out; omega)).trans g0); (have e1 := (hb4.frozen (p := ⟨w.heap.size + 1, 1, none⟩) (by show w.heap.size + 1 < w3.heap.size; have := HZ3.out; omega)).trans g1); (have e2 := (hb4.cell (p := ⟨w.heap.size + 1, 0, none⟩) (by show w.heap.size + 1 < w3.heap.size; have := HZ3.out; omega)).trans r0); (have e3 := (hb4.cell (p := ⟨w.heap.size + 1, 1, none⟩) (by show w.heap.size + 1 < w3.heap.size; have := HZ3.out; omega)).trans r1)))
    all_goals
      go_wp2_with fail
      refine bodyPost_ret (v := .tuple #[.agg #[.int .i64 vars, .slice a4 L.length c4], .int .i64 0]) (by simp [results, Try.results8, go_sem, e2, e3]) rfl ?_
      have hz1 : w.heap.size + 1 < w3.heap.size := by have := HZ3.out; omega
      have hset := ((ho4.set (a := ⟨w.heap.size + 1, 0, none⟩) hz1 (.int .i64 vars)).set (a := ⟨w.heap.size + 1, 1, none⟩) hz1 (.slice a4 L.length c4)).mono (N' := w.heap.size) (show w.heap.size ≤ w3.heap.size by omega)
      have hbf : Below w.heap.size w ((w4.setCell ⟨w.heap.size + 1, 0, none⟩ (.int .i64 vars)).setCell ⟨w.heap.size + 1, 1, none⟩ (.slice a4 L.length c4)) := ((HB3.out.trans (hb4.mono HB3.out.size)).setCell (by show w.heap.size ≤ w.heap.size + 1; omega) _).setCell (by show w.heap.size ≤ w.heap.size + 1; omega) _
      first | exact HF0.out rfl rfl hset hbf | exact HF0.out trivial rfl hset hbf
  · subst h9
    clear HCL HCH HF0
    go_wp2_with fail
    refine bodyPost_ret (v := .tuple #[.agg #[.int .i64 0, .slice none 0 0], .int .i64 9]) (by simp [results, Try.results8, go_sem, r0, r1]) rfl ?_
    have hbf : Below w.heap.size w ((w3.setCell ⟨w.heap.size + 1, 0, none⟩ (.int .i64 0)).setCell ⟨w.heap.size + 1, 1, none⟩ (.slice none 0 0)) := (HB3.out.setCell (by show w.heap.size ≤ w.heap.size + 1; omega) _).setCell (by show w.heap.size ≤ w.heap.size + 1; omega) _
    first | exact HF9.out rfl hbf | exact HF9.out trivial hbf

set_option maxHeartbeats 4000000 in
theorem subsume_any (w : World) (vars : Int) (a : Option Addr) (n c : Nat) (vs : List Value) (cls : List (List Int)) (hsl : Sl2 w a n c vs cls) (hw : Formula.Wf2 cls) :
    Calls Try.prog 9 #[.agg #[.int .i64 vars, .slice a n c]] w (FormOut w vars cls (subsumed cls)) := by
  obtain ⟨W2, hW2⟩ : ∃ W2, W2 = (w.alloc (.cells #[.int .i64 vars, .slice a n c] 24)).alloc (.cells #[.int .i64 0, .slice none 0 0] 24) := ⟨_, rfl⟩
  obtain ⟨h2, b0, b1, f0, f1, hz, q0, q1⟩ := boxes w vars a n c W2 hW2
  have hs2 := hsl.next h2
  have HCH := Lib.hid (Formula.check_any W2 vars a n c vs cls hs2 hw)
  have HB2 := Lib.hid h2
  have HOK := Lib.hid (@Formula.check_ok vars cls)
  have H9 := Lib.hid (Formula.check_or vars cls)
  have HLN := Lib.hid hsl.len
  have HCL := Lib.hid (fun (V : World) (hV : Below W2.heap.size W2 V) (h0 : n * 24 ≤ 140737488355328) (h1 : ∀ l ∈ cls, l.length * 8 ≤ 140737488355328) => subsumed_any V a n c vs cls (hs2.next hV) hw h0 h1)
  have hW2' := hW2.symm
  have HF0 := Lib.hid (fun h => @out0 w vars cls (subsumed cls) h)
  have HF9 := Lib.hid (fun h => @out9 w vars cls (subsumed cls) h)
  generalize FormOut w vars cls (subsumed cls) = R at *
  generalize Formula.check vars cls = q at *
  clear hsl hs2 h2 hw hW2
  go_enter Try.func9, Try.ntmps9
  go_wp2_with fail
  refine HCH.out.mono ?_
  rintro e w3 ⟨rfl, hb3⟩
  have c0 := (hb3.cell (p := ⟨w.heap.size, 0, none⟩) (by show w.heap.size < _; rw [hz]; omega)).trans b0
  have c1 := (hb3.cell (p := ⟨w.heap.size, 1, none⟩) (by show w.heap.size < _; rw [hz]; omega)).trans b1
  have g0 := (hb3.frozen (p := ⟨w.heap.size + 1, 0, none⟩) (by show w.heap.size + 1 < _; rw [hz]; omega)).trans f0
  have g1 := (hb3.frozen (p := ⟨w.heap.size + 1, 1, none⟩) (by show w.heap.size + 1 < _; rw [hz]; omega)).trans f1
  have r0 := (hb3.cell (p := ⟨w.heap.size + 1, 0, none⟩) (by show w.heap.size + 1 < _; rw [hz]; omega)).trans q0
  have r1 := (hb3.cell (p := ⟨w.heap.size + 1, 1, none⟩) (by show w.heap.size + 1 < _; rw [hz]; omega)).trans q1
  have HB3 := Lib.hid (HB2.out.trans (hb3.mono HB2.out.size))
  have HZ3 : Hid (w.heap.size + 2 ≤ w3.heap.size) := by have := hb3.size; rw [hz] at this; exact this
  have HBB := Lib.hid hb3
  clear b0 b1 f0 f1 q0 q1 hW2' hb3 hz
  rcases H9.out with h0 | h9
  · have HK := HOK.out h0
    have HC := Lib.hid (fun (V : World) (hV : Below w3.heap.size w3 V) => HCL.out V (HBB.out.trans (hV.mono HBB.out.size)) (by have := HK.2.2.1; have := HLN.out; omega) (fun l hl => by have := (HK.2.2.2 l hl).1; omega))
    subst h0
    clear HK HCL HCH HF9
    generalize subsumed cls = L at *
    obtain ⟨N, hN⟩ : ∃ N, N = w3.heap.size := ⟨_, rfl⟩
    have HNN := Lib.hid hN
    clear hN
    go_wp2_with fail
    go_region_law (first | (go_simp; go_at_call 28; refine (HC.out _ (by first | exact Below.refl _ _ | exact (Below.refl _ _).drew)).mono ?_; rintro e w4 ⟨a4, c4, vals, rfl, ho4, hb4'⟩; (have hb4 : Below w3.heap.size w3 w4 := by first | exact hb4' | exact undrew hb4'); (have d0 := (hb4.cell (p := ⟨w.heap.size, 0, none⟩) (by show w.heap.size < w3.heap.size; have := HZ3.out; omega)).trans c0); (have d1 := (hb4.cell (p := ⟨w.heap.size, 1, none⟩) (by show w.heap.size < w3.heap.size; have := HZ3.out; omega)).trans c1); (have e0 := (hb4.frozen (p := ⟨w.heap.size + 1, 0, none⟩) (by show w.heap.size + 1 < w3.heap.size; have := HZ3.out; omega)).trans g0); (have e1 := (hb4.frozen (p := ⟨w.heap.size + 1, 1, none⟩) (by show w.heap.size + 1 < w3.heap.size; have := HZ3.out; omega)).trans g1); (have e2 := (hb4.cell (p := ⟨w.heap.size + 1, 0, none⟩) (by show w.heap.size + 1 < w3.heap.size; have := HZ3.out; omega)).trans r0); (have e3 := (hb4.cell (p := ⟨w.heap.size + 1, 1, none⟩) (by show w.heap.size + 1 < w3.heap.size; have := HZ3.out; omega)).trans r1)))
    all_goals
      go_wp2_with fail
      refine bodyPost_ret (v := .tuple #[.agg #[.int .i64 vars, .slice a4 L.length c4], .int .i64 0]) (by simp [results, Try.results9, go_sem, e2, e3]) rfl ?_
      have hz1 : w.heap.size + 1 < w3.heap.size := by have := HZ3.out; omega
      have hset := ((ho4.set (a := ⟨w.heap.size + 1, 0, none⟩) hz1 (.int .i64 vars)).set (a := ⟨w.heap.size + 1, 1, none⟩) hz1 (.slice a4 L.length c4)).mono (N' := w.heap.size) (show w.heap.size ≤ w3.heap.size by omega)
      have hbf : Below w.heap.size w ((w4.setCell ⟨w.heap.size + 1, 0, none⟩ (.int .i64 vars)).setCell ⟨w.heap.size + 1, 1, none⟩ (.slice a4 L.length c4)) := ((HB3.out.trans (hb4.mono HB3.out.size)).setCell (by show w.heap.size ≤ w.heap.size + 1; omega) _).setCell (by show w.heap.size ≤ w.heap.size + 1; omega) _
      first | exact HF0.out rfl rfl hset hbf | exact HF0.out trivial rfl hset hbf
  · subst h9
    clear HCL HCH HF0
    go_wp2_with fail
    refine bodyPost_ret (v := .tuple #[.agg #[.int .i64 0, .slice none 0 0], .int .i64 9]) (by simp [results, Try.results9, go_sem, r0, r1]) rfl ?_
    have hbf : Below w.heap.size w ((w3.setCell ⟨w.heap.size + 1, 0, none⟩ (.int .i64 0)).setCell ⟨w.heap.size + 1, 1, none⟩ (.slice none 0 0)) := (HB3.out.setCell (by show w.heap.size ≤ w.heap.size + 1; omega) _).setCell (by show w.heap.size ≤ w.heap.size + 1; omega) _
    first | exact HF9.out rfl hbf | exact HF9.out trivial hbf

end Pre
end Go.Proofs.Ythhkngpbaflfiaa

/-
  A formula's box, just laid.
-/
namespace Go.Proofs.Ythhkngpbaflfiaa
open Go.RowKit Base
set_option linter.unusedVariables false
set_option linter.unusedSimpArgs false
namespace BoxF

/-- A formula's box, just laid. -/
theorem box_new (w : World) (u : Int) (a : Option Addr) (m c : Nat) (W : World) (hW : w.alloc (.cells #[.int .i64 u, .slice a m c] 24) = W) :
    Below w.heap.size w W ∧ W.cell? ⟨w.heap.size, 0, none⟩ = some (.int .i64 u) ∧ W.cell? ⟨w.heap.size, 1, none⟩ = some (.slice a m c) ∧ w.heap.size < W.heap.size := by
  subst hW
  exact ⟨(Below.refl _ _).alloc (Nat.le_refl _) _, by simp [go_sem], by simp [go_sem], by simp⟩

/-- A zero formula stored where a zero formula is. -/
theorem box_zero (w : World) (W : World) (hW : w.alloc (.cells #[.int .i64 0, .slice none 0 0] 24) = W) :
    W.frozen? ⟨w.heap.size, 0, none⟩ = false ∧ W.frozen? ⟨w.heap.size, 1, none⟩ = false ∧ W.setCell ⟨w.heap.size, 0, none⟩ (.int .i64 0) = W ∧ W.setCell ⟨w.heap.size, 1, none⟩ (.slice none 0 0) = W := by
  obtain ⟨_, h0, h1, _⟩ := box_new w 0 none 0 0 W hW
  refine ⟨by rw [← hW]; simp [go_sem], by rw [← hW]; simp [go_sem], setCell_same _ _ _ h0, setCell_same _ _ _ h1⟩

end BoxF
end Go.Proofs.Ythhkngpbaflfiaa

/-
  preproc.Eliminate: a formula without a variable.
-/
namespace Go.Proofs.Ythhkngpbaflfiaa
open Go.RowKit Base
set_option linter.unusedVariables false
set_option linter.unusedSimpArgs false
namespace Elim
open Pre (cleaned boxes)

theorem eg_long : SlfR.Enters 37 := enters_of Try.func37 (by kernel_rfl) rfl

set_option maxHeartbeats 400000 in
theorem long_any (w : World) (a : Option Addr) (n c : Nat) (x : List Int) (hsl : Sl w a n c (ints x)) :
    Calls Try.prog 37 #[.slice a n c] w fun e w' => e = .returned (.bool (decide (1024 < x.length))) ∧ w = w' := by
  have HL : Hid (x.length = n) := by have := hsl.len; rwa [ints_len] at this
  have HD : Hid (decide (1024 < x.length) = decide ((1024 : Int) < (n : Int))) := by
    show _ = _
    rw [HL.out, Bool.eq_iff_iff]
    simp only [decide_eq_true_eq]
    omega
  clear hsl
  go_enter Try.func37, Try.ntmps37
  go_wp2
  go_ret
  exact ⟨ret_bool HD.out.symm, rfl⟩

/-- What Eliminate comes to. -/
def spec (vars v most : Int) (cls : List (List Int)) : Int × List (List Int) × Bool × Int :=
  if Formula.check vars cls = 0 then
    if v < 1 ∨ vars < v ∨ most < 0 then (0, [], false, 4)
    else if (((elim (cleaned cls) v).length : Nat) : Int) ≤ ((cleaned cls).length : Int) + min most 1048576 then
      if (elim (cleaned cls) v).any (fun x => decide (1024 < x.length)) = true then (0, [], false, 5) else (vars, elim (cleaned cls) v, true, 0)
    else (vars, cleaned cls, false, 0)
  else (0, [], false, 9)

def Out (w : World) (s : Int × List (List Int) × Bool × Int) (e : Ending) (w' : World) : Prop :=
  ∃ a' c' vals, e = .returned (.tuple #[.agg #[.int .i64 s.1, .slice a' s.2.1.length c'], .bool s.2.2.1, .int .i64 s.2.2.2]) ∧ Sl2 w' a' s.2.1.length c' vals s.2.1 ∧ Below w.heap.size w w'

theorem out_of {w w' : World} {u er : Int} {L : List (List Int)} {ok : Bool} {m : Nat} (hm : L.length = m) {a' : Option Addr} {c' : Nat} {vals : List Value} (hs : Sl2 w' a' m c' vals L) (hb : Below w.heap.size w w') :
    Out w (u, L, ok, er) (.returned (.tuple #[.agg #[.int .i64 u, .slice a' m c'], .bool ok, .int .i64 er])) w' := by
  subst hm
  exact ⟨a', c', vals, rfl, hs, hb⟩

set_option maxRecDepth 8000 in
set_option maxHeartbeats 8000000 in
theorem eliminate_any (w : World) (vars : Int) (a : Option Addr) (n c : Nat) (vs : List Value) (cls : List (List Int)) (hsl : Sl2 w a n c vs cls) (hw : Formula.Wf2 cls) (v most : Int) (hv0 : -9223372036854775808 ≤ v) (hv1 : v ≤ 9223372036854775807) (hm0 : -9223372036854775808 ≤ most) (hm1 : most ≤ 9223372036854775807) :
    Calls Try.prog 23 #[.agg #[.int .i64 vars, .slice a n c], .int .i64 v, .int .i64 most] w (Out w (spec vars v most cls)) := by
  obtain ⟨W2, hW2⟩ : ∃ W2, W2 = (w.alloc (.cells #[.int .i64 vars, .slice a n c] 24)).alloc (.cells #[.int .i64 0, .slice none 0 0] 24) := ⟨_, rfl⟩
  obtain ⟨h2, b0, b1, f0, f1, hz, q0, q1⟩ := boxes w vars a n c W2 hW2
  have CLN := Pre.clean_any W2 vars a n c vs cls (hsl.next h2) hw
  unfold Pre.FormOut at CLN
  have HB2 := Lib.hid h2
  have HOK := Lib.hid (@Formula.check_ok vars cls)
  have H9 := Lib.hid (Formula.check_or vars cls)
  have HW := Lib.hid hw
  have hW2' := hW2.symm
  have HSP : Hid (spec vars v most cls = if Formula.check vars cls = 0 then
    if v < 1 ∨ vars < v ∨ most < 0 then (0, [], false, 4)
    else if (((elim (cleaned cls) v).length : Nat) : Int) ≤ ((cleaned cls).length : Int) + min most 1048576 then
      if (elim (cleaned cls) v).any (fun x => decide (1024 < x.length)) = true then (0, [], false, 5) else (vars, elim (cleaned cls) v, true, 0)
    else (vars, cleaned cls, false, 0)
    else (0, [], false, 9)) := rfl
  generalize spec vars v most cls = R at *
  clear hsl h2 hw hW2
  rcases H9.out with h0 | h9
  · rw [if_pos h0] at HSP
    simp only [if_pos h0] at CLN
    have HCLN := Lib.hid CLN
    have HK := Lib.hid (HOK.out h0)
    clear CLN h0 HOK H9
    go_enter Try.func23, Try.ntmps23
    go_wp2_with fail
    refine HCLN.out.mono ?_
    rintro e w3 ⟨⟨a3, c3, v3, rfl, ho3⟩, hb3⟩
    have c10 := (hb3.cell (p := ⟨w.heap.size, 0, none⟩) (by show w.heap.size < _; rw [hz]; omega)).trans b0
    have c11 := (hb3.cell (p := ⟨w.heap.size, 1, none⟩) (by show w.heap.size < _; rw [hz]; omega)).trans b1
    have g0 := (hb3.frozen (p := ⟨w.heap.size + 1, 0, none⟩) (by show w.heap.size + 1 < _; rw [hz]; omega)).trans f0
    have g1 := (hb3.frozen (p := ⟨w.heap.size + 1, 1, none⟩) (by show w.heap.size + 1 < _; rw [hz]; omega)).trans f1
    have r0 := (hb3.cell (p := ⟨w.heap.size + 1, 0, none⟩) (by show w.heap.size + 1 < _; rw [hz]; omega)).trans q0
    have r1 := (hb3.cell (p := ⟨w.heap.size + 1, 1, none⟩) (by show w.heap.size + 1 < _; rw [hz]; omega)).trans q1
    have HB3 := Lib.hid (HB2.out.trans (hb3.mono HB2.out.size))
    have hz3 : w.heap.size + 2 ≤ w3.heap.size := by have := hb3.size; rw [hz] at this; exact this
    obtain ⟨U3, hU3⟩ : ∃ U3, w3.alloc (.cells #[.int .i64 vars, .slice a3 (cleaned cls).length c3] 24) = U3 := ⟨_, rfl⟩
    obtain ⟨hn3, p0, p1, hzU⟩ := BoxF.box_new w3 vars a3 _ c3 U3 hU3
    have cc10 := (hn3.cell (p := ⟨w.heap.size, 0, none⟩) (by show w.heap.size < w3.heap.size; omega)).trans c10
    have cc11 := (hn3.cell (p := ⟨w.heap.size, 1, none⟩) (by show w.heap.size < w3.heap.size; omega)).trans c11
    have gg0 := (hn3.frozen (p := ⟨w.heap.size + 1, 0, none⟩) (by show w.heap.size + 1 < w3.heap.size; omega)).trans g0
    have gg1 := (hn3.frozen (p := ⟨w.heap.size + 1, 1, none⟩) (by show w.heap.size + 1 < w3.heap.size; omega)).trans g1
    have rr0 := (hn3.cell (p := ⟨w.heap.size + 1, 0, none⟩) (by show w.heap.size + 1 < w3.heap.size; omega)).trans r0
    have rr1 := (hn3.cell (p := ⟨w.heap.size + 1, 1, none⟩) (by show w.heap.size + 1 < w3.heap.size; omega)).trans r1
    have HU := Lib.hid (HB3.out.trans (hn3.mono HB3.out.size))
    have HO3 : Hid (Own2 U3 (w.heap.size + 2) 29 3 (.slice a3 (cleaned cls).length c3) (cleaned cls).length v3 (cleaned cls)) := by
      show Own2 _ _ _ _ _ _ _ _
      rw [← hz]
      exact ho3.next hn3
    have hcap3 := ho3.sl2'.sl.cap
    have hbig3 := ho3.sl2'.sl.big
    have HLW : Hid (∀ x ∈ cleaned cls, Clause.Wf x) := Pre.wf_cleaned HW.out
    have HLL : Hid (∀ x ∈ cleaned cls, x.length ≤ 1024) := by
      intro x hx
      obtain ⟨y, hy, rfl, _⟩ := Pre.mem_cleaned.1 hx
      exact Nat.le_trans (Clause.norm_len y) (HK.out.2.2.2 y hy).1
    have hLN : (cleaned cls).length ≤ 1048576 := Nat.le_trans (Pre.len_cleaned cls) HK.out.2.2.1
    have HLN := Lib.hid hLN
    have HVB : Hid (vars ≤ 262144) := HK.out.2.1
    clear ho3 hb3 hn3 c10 c11 g0 g1 r0 r1 b0 b1 f0 f1 q0 q1 hW2' HCLN HK hLN
    have hzz : w.heap.size + 2 ≤ U3.heap.size := by have := HU.out.size; omega
    generalize cleaned cls = L at *
    by_cases hbad : v < 1 ∨ vars < v ∨ most < 0
    · rw [if_pos hbad] at HSP
      have hRR := HSP.out
      subst hRR
      clear HSP
      rcases hbad with hb | hb | hb
      all_goals
        go_wp2_with fail
      all_goals
        refine bodyPost_ret (v := .tuple #[.agg #[.int .i64 0, .slice none 0 0], .bool false, .int .i64 4]) (by simp [results, Try.results23, go_sem, rr0, rr1]) rfl ?_
        exact out_of rfl (Sl2.nil _) ((HU.out.setCell (by show w.heap.size ≤ w.heap.size + 1; omega) _).setCell (by show w.heap.size ≤ w.heap.size + 1; omega) _)
    · rw [if_neg hbad] at HSP
      have n1 : ¬ v < 1 := fun h => hbad (.inl h)
      have n2 : ¬ vars < v := fun h => hbad (.inr (.inl h))
      have n3 : ¬ most < 0 := fun h => hbad (.inr (.inr h))
      clear hbad
      have HRES := Lib.hid (fun (mo : Int) => resolved_any U3 a3 _ c3 v3 L HO3.out.sl2' HLW.out HLL.out HLN.out v (by omega) (by have := HVB.out; omega) mo)
      unfold ResolvedOut at HRES
      generalize hG : elim L v = G at *
      clear hG
      have hmi : -9223372036854775808 ≤ min most 1048576 ∧ min most 1048576 ≤ 1048576 := by omega
      have hlni : ((L.length : Nat) : Int) ≤ 1048576 := by have := HLN.out; omega
      go_wp2_with fail
      refine (HRES.out _).mono ?_
      rintro e w5 ⟨a5, c5, v5, rfl, ho5, hb5⟩
      have d0 := (hb5.cell (p := ⟨w3.heap.size, 0, none⟩) hzU).trans p0
      have d1 := (hb5.cell (p := ⟨w3.heap.size, 1, none⟩) hzU).trans p1
      have s10 := (hb5.cell (p := ⟨w.heap.size, 0, none⟩) (by show w.heap.size < U3.heap.size; omega)).trans cc10
      have t0 := (hb5.frozen (p := ⟨w.heap.size + 1, 0, none⟩) (by show w.heap.size + 1 < U3.heap.size; omega)).trans gg0
      have t1 := (hb5.frozen (p := ⟨w.heap.size + 1, 1, none⟩) (by show w.heap.size + 1 < U3.heap.size; omega)).trans gg1
      have e0 := (hb5.cell (p := ⟨w.heap.size + 1, 0, none⟩) (by show w.heap.size + 1 < U3.heap.size; omega)).trans rr0
      have e1 := (hb5.cell (p := ⟨w.heap.size + 1, 1, none⟩) (by show w.heap.size + 1 < U3.heap.size; omega)).trans rr1
      have HB5 := Lib.hid (HU.out.trans (hb5.mono HU.out.size))
      have HO35 := Lib.hid (HO3.out.next hb5)
      have HO5 := Lib.hid (ho5.mono (N' := w.heap.size + 2) hzz)
      have hcap5 := ho5.sl2'.sl.cap
      have hbig5 := ho5.sl2'.sl.big
      have hw5 : w.heap.size + 2 ≤ w5.heap.size := Nat.le_trans hzz hb5.size
      clear ho5 hb5 HRES p0 p1 cc10 cc11 gg0 gg1 rr0 rr1 hU3
      have h12 : w.heap.size + 1 < w.heap.size + 2 := Nat.lt_succ_self _
      by_cases hle : ((G.length : Nat) : Int) ≤ ((L.length : Nat) : Int) + min most 1048576
      · rw [if_pos hle] at HSP
        rw [decide_eq_true hle]
        have CF := SlfR.containsFunc w5 a5 _ c5 v5 37 #[] #[] (G.map fun x => decide (1024 < x.length)) HO5.out.sl2'.sl (by rw [List.length_map]) eg_long (by
          intro U hU j v b hv hb
          rw [List.getElem?_map, Option.map_eq_some_iff] at hb
          obtain ⟨ys, hys, rfl⟩ := hb
          obtain ⟨a6, c6, rfl, hs6⟩ := HO5.out.sl2'.row j v ys hv hys
          exact (long_any U a6 _ c6 ys (hs6.next hU)).mono (fun e w' h => ⟨h.1, h.2 ▸ Below.refl _ _⟩))
        have hany : ((G.map fun x => decide (1024 < x.length)).any id) = G.any fun x => decide (1024 < x.length) := by rw [List.any_map]; rfl
        rw [hany] at CF
        have HCF := Lib.hid CF
        clear CF hany hle
        cases hlong : G.any fun x => decide (1024 < x.length)
        · rw [hlong] at HCF
          rw [if_neg (by rw [hlong]; decide)] at HSP
          have hRR := HSP.out
          subst hRR
          clear HSP hlong
          go_wp2_with fail
          refine HCF.out.mono ?_
          rintro e w6 ⟨rfl, hb6⟩
          have y10 := (hb6.cell (p := ⟨w.heap.size, 0, none⟩) (by show w.heap.size < w5.heap.size; omega)).trans s10
          have z0 := (hb6.frozen (p := ⟨w.heap.size + 1, 0, none⟩) (by show w.heap.size + 1 < w5.heap.size; omega)).trans t0
          have z1 := (hb6.frozen (p := ⟨w.heap.size + 1, 1, none⟩) (by show w.heap.size + 1 < w5.heap.size; omega)).trans t1
          have x0 := (hb6.cell (p := ⟨w.heap.size + 1, 0, none⟩) (by show w.heap.size + 1 < w5.heap.size; omega)).trans e0
          have x1 := (hb6.cell (p := ⟨w.heap.size + 1, 1, none⟩) (by show w.heap.size + 1 < w5.heap.size; omega)).trans e1
          have HB6 := Lib.hid (HB5.out.trans (hb6.mono HB5.out.size))
          have HO6 := Lib.hid (HO5.out.next hb6)
          clear hb6 d0 d1 s10 t0 t1 e0 e1
          go_wp2_with fail
          refine bodyPost_ret (v := .tuple #[.agg #[.int .i64 vars, .slice a5 G.length c5], .bool true, .int .i64 0]) (by simp [results, Try.results23, go_sem, x0, x1]) rfl ?_
          exact out_of rfl ((HO6.out.set (a := ⟨w.heap.size + 1, 0, none⟩) h12 _).set (a := ⟨w.heap.size + 1, 1, none⟩) h12 _).sl2' ((HB6.out.setCell (by show w.heap.size ≤ w.heap.size + 1; omega) _).setCell (by show w.heap.size ≤ w.heap.size + 1; omega) _)
        · rw [hlong] at HCF
          rw [if_pos (by rw [hlong])] at HSP
          have hRR := HSP.out
          subst hRR
          clear HSP hlong
          go_wp2_with fail
          refine HCF.out.mono ?_
          rintro e w6 ⟨rfl, hb6⟩
          have z0 := (hb6.frozen (p := ⟨w.heap.size + 1, 0, none⟩) (by show w.heap.size + 1 < w5.heap.size; omega)).trans t0
          have z1 := (hb6.frozen (p := ⟨w.heap.size + 1, 1, none⟩) (by show w.heap.size + 1 < w5.heap.size; omega)).trans t1
          have x0 := (hb6.cell (p := ⟨w.heap.size + 1, 0, none⟩) (by show w.heap.size + 1 < w5.heap.size; omega)).trans e0
          have x1 := (hb6.cell (p := ⟨w.heap.size + 1, 1, none⟩) (by show w.heap.size + 1 < w5.heap.size; omega)).trans e1
          have HB6 := Lib.hid (HB5.out.trans (hb6.mono HB5.out.size))
          clear hb6 d0 d1 s10 t0 t1 e0 e1
          go_wp2_with fail
          refine bodyPost_ret (v := .tuple #[.agg #[.int .i64 0, .slice none 0 0], .bool false, .int .i64 5]) (by simp [results, Try.results23, go_sem, x0, x1]) rfl ?_
          exact out_of rfl (Sl2.nil _) ((HB6.out.setCell (by show w.heap.size ≤ w.heap.size + 1; omega) _).setCell (by show w.heap.size ≤ w.heap.size + 1; omega) _)
      · rw [if_neg hle] at HSP
        rw [decide_eq_false hle]
        have hRR := HSP.out
        subst hRR
        clear HSP hle
        go_wp2_with fail
        refine bodyPost_ret (v := .tuple #[.agg #[.int .i64 vars, .slice a3 L.length c3], .bool false, .int .i64 0]) (by simp [results, Try.results23, go_sem, e0, e1]) rfl ?_
        exact out_of rfl ((HO35.out.set (a := ⟨w.heap.size + 1, 0, none⟩) h12 _).set (a := ⟨w.heap.size + 1, 1, none⟩) h12 _).sl2' ((HB5.out.setCell (by show w.heap.size ≤ w.heap.size + 1; omega) _).setCell (by show w.heap.size ≤ w.heap.size + 1; omega) _)
  · have hne : ¬ Formula.check vars cls = 0 := by rw [h9]; decide
    rw [if_neg hne] at HSP
    simp only [if_neg hne] at CLN
    have hRR := HSP.out
    subst hRR
    have HCLN := Lib.hid CLN
    clear CLN hne HOK H9 HSP
    go_enter Try.func23, Try.ntmps23
    go_wp2_with fail
    refine HCLN.out.mono ?_
    rintro e w3 ⟨rfl, hb3⟩
    have g0 := (hb3.frozen (p := ⟨w.heap.size + 1, 0, none⟩) (by show w.heap.size + 1 < _; rw [hz]; omega)).trans f0
    have g1 := (hb3.frozen (p := ⟨w.heap.size + 1, 1, none⟩) (by show w.heap.size + 1 < _; rw [hz]; omega)).trans f1
    have r0 := (hb3.cell (p := ⟨w.heap.size + 1, 0, none⟩) (by show w.heap.size + 1 < _; rw [hz]; omega)).trans q0
    have r1 := (hb3.cell (p := ⟨w.heap.size + 1, 1, none⟩) (by show w.heap.size + 1 < _; rw [hz]; omega)).trans q1
    have HB3 := Lib.hid (HB2.out.trans (hb3.mono HB2.out.size))
    have hz3 : w.heap.size + 2 ≤ w3.heap.size := by have := hb3.size; rw [hz] at this; exact this
    obtain ⟨U3, hU3⟩ : ∃ U3, w3.alloc (.cells #[.int .i64 0, .slice none 0 0] 24) = U3 := ⟨_, rfl⟩
    obtain ⟨hn3, p0, p1, hzU⟩ := BoxF.box_new w3 0 none 0 0 U3 hU3
    obtain ⟨y0, y1, y2, y3⟩ := BoxF.box_zero w3 U3 hU3
    have gg0 := (hn3.frozen (p := ⟨w.heap.size + 1, 0, none⟩) (by show w.heap.size + 1 < w3.heap.size; omega)).trans g0
    have gg1 := (hn3.frozen (p := ⟨w.heap.size + 1, 1, none⟩) (by show w.heap.size + 1 < w3.heap.size; omega)).trans g1
    have rr0 := (hn3.cell (p := ⟨w.heap.size + 1, 0, none⟩) (by show w.heap.size + 1 < w3.heap.size; omega)).trans r0
    have rr1 := (hn3.cell (p := ⟨w.heap.size + 1, 1, none⟩) (by show w.heap.size + 1 < w3.heap.size; omega)).trans r1
    have HU := Lib.hid (HB3.out.trans (hn3.mono HB3.out.size))
    clear hb3 hn3 g0 g1 r0 r1 b0 b1 f0 f1 q0 q1 hW2' HCLN
    go_wp2_with fail
    refine bodyPost_ret (v := .tuple #[.agg #[.int .i64 0, .slice none 0 0], .bool false, .int .i64 9]) (by simp [results, Try.results23, go_sem, rr0, rr1]) rfl ?_
    exact out_of rfl (Sl2.nil _) ((HU.out.setCell (by show w.heap.size ≤ w.heap.size + 1; omega) _).setCell (by show w.heap.size ≤ w.heap.size + 1; omega) _)

end Elim
end Go.Proofs.Ythhkngpbaflfiaa

/-
  The models of a formula that is cleaned, subsumed, strengthened: the same. Plain lists, no program.
-/
namespace Go.Proofs.Ythhkngpbaflfiaa.Pre
set_option linter.unusedVariables false
set_option linter.unusedSimpArgs false
open ModelsP (models holds allS allS_size)

theorem inR_of {vars : Int} {cls : List (List Int)} (h : Formula.check vars cls = 0) : InR vars.toNat cls := by
  have hk := Formula.check_ok h
  intro l hl x hx
  have := (hk.2.2.2 l hl).2 x hx
  omega

theorem models_same {V : Nat} {a b : List (List Int)} (h : ∀ s : List UInt8, s.length = V → allT s a = allT s b) (l : List Int) : models V a l = models V b l := by
  unfold models
  have e : (V : Int).toNat = V := by omega
  rw [e]
  refine List.filter_congr fun s hs => ?_
  have hz := allS_size V s hs
  have h1 := h s.data.toList (by simpa using hz)
  unfold holds True.tru
  have ea : a.all (True.one s) = allT s.data.toList a := rfl
  have eb : b.all (True.one s) = allT s.data.toList b := rfl
  rw [ea, eb, h1]

theorem models_cleaned {V : Nat} {cls : List (List Int)} (hw : Formula.Wf2 cls) (h : InR V cls) (l : List Int) : models V (cleaned cls) l = models V cls l :=
  models_same (fun s hs => allT_cleaned hw (by rw [hs]; exact h)) l

theorem models_subsumed {V : Nat} {cls : List (List Int)} (hw : Formula.Wf2 cls) (h : InR V cls) (l : List Int) : models V (subsumed cls) l = models V cls l :=
  models_same (fun s hs => allT_subsumed hw (by rw [hs]; exact h)) l

theorem models_steps {V : Nat} {cls L : List (List Int)} (hw : Formula.Wf2 cls) (h : InR V cls) (hs : Pre.Steps (subsumed cls) L) (l : List Int) : models V L l = models V cls l :=
  models_same (fun s hl => by
    rw [allT_steps (neat_subsumed hw (by rw [hl]; exact h)) hs, allT_subsumed hw (by rw [hl]; exact h)]) l

end Go.Proofs.Ythhkngpbaflfiaa.Pre

/-
  A formula without a variable has a model just if it had one with it: of few variables, as the law asks it. No program.
-/
namespace Go.Proofs.Ythhkngpbaflfiaa.Elim
set_option linter.unusedVariables false
set_option linter.unusedSimpArgs false
open RefC (norm always)
open Clause (Wf both absI)
open Pre
open ModelsP (models holds allS allS_size two b0 b1)

theorem check_of {vars : Int} {cls : List (List Int)} (h0 : 0 ≤ vars) (h1 : vars ≤ 262144) (h2 : cls.length ≤ 1048576) (h3 : ∀ l ∈ cls, l.length ≤ 1024) (h4 : InR vars.toNat cls) : Formula.check vars cls = 0 := by
  unfold Formula.check
  rw [if_neg]
  unfold Formula.bad
  simp only [Bool.or_eq_true, decide_eq_true_eq, not_or, List.any_eq_true, not_exists, not_and]
  refine ⟨⟨⟨by omega, by omega⟩, by omega⟩, fun l hl => ?_⟩
  have hc : Clause.check vars l = 0 := by
    unfold Clause.check
    rw [if_neg (by have := h3 l hl; omega), if_neg]
    rw [List.any_eq_true]
    rintro ⟨x, hx, hb⟩
    have := h4 l hl x hx
    unfold Clause.badL at hb
    simp at hb
    omega
  simp [hc]

theorem mem_allS : ∀ (n : Nat) (l : List UInt8), l.length = n → l.all CubeP.bit = true → (⟨l.toArray⟩ : ByteArray) ∈ allS n
  | 0, l, h, _ => by
    have : l = [] := List.eq_nil_of_length_eq_zero h
    subst this
    simp [allS]
  | n + 1, l, h, hb => by
    have hne : l ≠ [] := by rintro rfl; simp at h
    have hl := List.dropLast_concat_getLast hne
    rw [← hl] at hb
    rw [List.all_append, Bool.and_eq_true] at hb
    have ih := mem_allS n l.dropLast (by simp [h]) hb.1
    have hc : CubeP.bit (l.getLast hne) = true := by simpa using hb.2
    have he : (⟨l.toArray⟩ : ByteArray) = ⟨l.dropLast.toArray⟩ ++ (⟨#[l.getLast hne]⟩ : ByteArray) := by
      apply ByteArray.ext
      rw [ByteArray.data_append]
      conv => lhs; rw [← hl]
      simp
    simp only [allS, List.mem_flatMap]
    refine ⟨_, ih, ?_⟩
    unfold two
    rw [he]
    have h48 : l.getLast hne = 48 ∨ l.getLast hne = 49 := by
      unfold CubeP.bit at hc
      simpa using hc
    rcases h48 with e | e
    · rw [e]; simp [b0]
    · rw [e]; simp [b1]

theorem models_some {V : Nat} {cls : List (List Int)} : 0 < (models V cls []).length ↔ ∃ s ∈ allS V, True.tru V cls s = true := by
  rw [List.length_pos_iff_exists_mem]
  unfold models
  have e : (V : Int).toNat = V := by omega
  rw [e]
  constructor
  · rintro ⟨s, hs⟩
    rw [List.mem_filter] at hs
    refine ⟨s, hs.1, ?_⟩
    have h := hs.2
    unfold holds at h
    simpa using h
  · rintro ⟨s, hs, h⟩
    exact ⟨s, List.mem_filter.2 ⟨hs, by unfold holds; simpa using h⟩⟩

theorem tru_iff {V : Nat} {cls : List (List Int)} {s : ByteArray} : True.tru V cls s = true ↔ s.data.toList.all CubeP.bit = true ∧ s.size = V ∧ allT s.data.toList cls = true := by
  unfold True.tru
  rw [Bool.and_eq_true, Bool.and_eq_true, decide_eq_true_eq]
  have e : cls.all (True.one s) = allT s.data.toList cls := rfl
  rw [e]
  constructor
  · rintro ⟨⟨h1, h2⟩, h3⟩; exact ⟨h1, by omega, h3⟩
  · rintro ⟨h1, h2, h3⟩; exact ⟨⟨h1, by omega⟩, h3⟩

theorem put_bits {s : List UInt8} {v : Int} {b : Bool} (h : s.all CubeP.bit = true) : (put s v b).all CubeP.bit = true := by
  rw [List.all_eq_true] at h ⊢
  intro c hc
  rcases List.mem_or_eq_of_mem_set hc with hc | rfl
  · exact h c hc
  · cases b <;> decide

theorem put_len (s : List UInt8) (v : Int) (b : Bool) : (put s v b).length = s.length := by unfold put; rw [List.length_set]

/-- What makes the formula true makes what is left true. -/
theorem tru_elim {V : Nat} {cls : List (List Int)} (hw : Formula.Wf2 cls) (hr : InR V cls) {v : Int} (hv : 1 ≤ v) {s : ByteArray} (h : True.tru V cls s = true) : True.tru V (elim (cleaned cls) v) s = true := by
  obtain ⟨h1, h2, h3⟩ := tru_iff.1 h
  have hl : s.data.toList.length = V := by simpa using h2
  have hwc := wf_cleaned hw
  have hrc := inR_cleaned hr
  refine tru_iff.2 ⟨h1, h2, ?_⟩
  unfold elim
  rw [allT_cleaned (all_wf hv hwc) (by rw [hl]; exact all_inR hv hrc)]
  refine sound hv ?_
  rw [allT_cleaned hw (by rw [hl]; exact hr)]
  exact h3

/-- And there is one of the formula if there is one of that. -/
theorem some_elim {V : Nat} {cls : List (List Int)} (hw : Formula.Wf2 cls) (hr : InR V cls) {v : Int} (hv : 1 ≤ v) (hvV : v ≤ V) : 0 < (models V (elim (cleaned cls) v) []).length ↔ 0 < (models V cls []).length := by
  have hwc := wf_cleaned hw
  have hrc := inR_cleaned hr
  rw [models_some, models_some]
  constructor
  · rintro ⟨s, hs, h⟩
    obtain ⟨h1, h2, h3⟩ := tru_iff.1 h
    have hl : s.data.toList.length = V := by simpa using h2
    unfold elim at h3
    rw [allT_cleaned (all_wf hv hwc) (by rw [hl]; exact all_inR hv hrc)] at h3
    obtain ⟨b, hb⟩ := complete hv (by rw [hl]; exact hvV) (apt_cleaned hw hv) h3
    have hpl : (put s.data.toList v b).length = V := by rw [put_len, hl]
    rw [allT_cleaned hw (by rw [hpl]; exact hr)] at hb
    refine ⟨⟨(put s.data.toList v b).toArray⟩, mem_allS V _ hpl (put_bits h1), tru_iff.2 ⟨?_, ?_, ?_⟩⟩
    · exact put_bits h1
    · show (put s.data.toList v b).toArray.size = V
      rw [List.size_toArray, hpl]
    · exact hb
  · rintro ⟨s, hs, h⟩
    exact ⟨s, hs, tru_elim hw hr hv h⟩

theorem found_iff {V : Nat} {cls : List (List Int)} : (BruteP.found V cls).isSome = decide (0 < (models V cls []).length) := by
  rw [← BruteP.models_nil]
  cases models V cls [] <;> simp

theorem check_elim {V : Nat} {cls : List (List Int)} (h : Formula.check V cls = 0) (hw : Formula.Wf2 cls) (hV : V ≤ 8) {v : Int} (hv : 1 ≤ v) (hlong : ((elim (cleaned cls) v).any fun x => decide (1024 < x.length)) = false) : Formula.check V (elim (cleaned cls) v) = 0 := by
  have hr := inR_of h
  have e : (V : Int).toNat = V := by omega
  rw [e] at hr
  have hrc := all_inR (n := V) hv (inR_cleaned hr)
  have hG : InR V (elim (cleaned cls) v) := inR_cleaned hrc
  refine check_of (by omega) (by omega) ?_ (fun l hl => ?_) (by rw [e]; exact hG)
  · have := few_len (clean_cleaned (all (cleaned cls) v)) (fun l hl x hx => by have := hG l hl x hx; omega)
    unfold elim
    omega
  · rw [List.any_eq_false] at hlong
    have := hlong l hl
    simpa using this

end Go.Proofs.Ythhkngpbaflfiaa.Elim

/-
  interlockplain.Ints: are two lists of integers one?
-/
namespace Go.Proofs.Ythhkngpbaflfiaa
open Go.RowKit Base
set_option linter.unusedVariables false
namespace Plain

theorem take_all {xs ys : List Int} (h : xs.length = ys.length) : xs.take xs.length = ys.take xs.length → xs = ys := by
  intro e
  rw [List.take_length, h, List.take_length] at e
  exact e

theorem take_more {xs ys : List Int} {k : Nat} (hx : k < xs.length) (hy : k < ys.length) (h : xs.take k = ys.take k) (e : xs[k] = ys[k]) : xs.take (k + 1) = ys.take (k + 1) := by
  rw [List.take_succ_eq_append_getElem hx, List.take_succ_eq_append_getElem hy, h, e]

set_option maxHeartbeats 1000000 in
theorem ints_any (w : World) (a1 a2 : Option Addr) (n1 n2 c1 c2 : Nat) (xs ys : List Int) (h1 : Sl w a1 n1 c1 (ints xs)) (h2 : Sl w a2 n2 c2 (ints ys)) :
    Calls Try.prog 17 #[.slice a1 n1 c1, .slice a2 n2 c2] w fun e w' => e = .returned (.bool (decide (xs = ys))) ∧ Below w.heap.size w w' := by
  have l1 : xs.length = n1 := by have := h1.len; rw [ints_len] at this; exact this
  have l2 : ys.length = n2 := by have := h2.len; rw [ints_len] at this; exact this
  have hb1 := h1.cap
  have hb2 := h1.big
  by_cases hn : n1 = n2
  · subst hn
    subst l1
    have L2 := Lib.hid l2
    have l2' : ys.length ≤ xs.length := by omega
    have l2'' : xs.length ≤ ys.length := by omega
    clear l2
    go_enter Try.func17, Try.ntmps17
    go_wp2
    go_loopw [5] (fun i wr => ∃ k : Nat, k ≤ xs.length ∧ i = .int .i64 k ∧ Hid (xs.take k = ys.take k) ∧ Below w.heap.size w wr) (fun i _ => xs.length - (intOf i).toNat)
    case atStart => exact ⟨0, Nat.zero_le _, rfl, rfl, Below.refl _ _⟩
    case round =>
      obtain ⟨k, hk, rfl, hI, hbr⟩ := hrel
      by_cases hlt : k < xs.length
      · obtain ⟨b, o, hx, rfl, hbs, hc⟩ := h1.int hlt
        obtain ⟨b', o', hy, rfl, hbs', hc'⟩ := h2.int hlt
        have hcr : wr.cell? ⟨b, o + k, none⟩ = some (.int .i64 xs[k]) := (hbr.cell (p := ⟨b, o + k, none⟩) hbs).trans hc
        have hcr' : wr.cell? ⟨b', o' + k, none⟩ = some (.int .i64 ys[k]) := (hbr.cell (p := ⟨b', o' + k, none⟩) hbs').trans hc'
        clear hc hc'
        generalize hp : xs[k] = p at *
        generalize hq : ys[k] = q at *
        have HP := Lib.hid hp
        have HQ := Lib.hid hq
        clear hp hq
        by_cases hpq : p = q
        · have hv : (p != q) = false := by simp [hpq]
          have E := Lib.hid hpq
          clear hpq
          go_wp2_with fail
          go_quiet (fail)
          go_wp2
          go_roundw
          case rel => exact ⟨k + 1, by omega, by go_num, take_more hx hy hI.out (by rw [HP.out, HQ.out, E.out]), below_drewN hbr _⟩
          case measure => simp [intOf]; omega
        · have hv : (p != q) = true := by simp [hpq]
          have E := Lib.hid hpq
          clear hpq
          go_wp2_with fail
          go_quiet (fail)
          go_wp2
          go_ret
          refine ⟨ret_bool ?_, below_drewN hbr _⟩
          symm
          apply decide_eq_false
          intro h
          apply E.out
          rw [← HP.out, ← HQ.out]
          subst h
          rfl
      · go_wp2
        go_ret
        refine ⟨ret_bool ?_, hbr⟩
        symm
        apply decide_eq_true
        have hk' : k = xs.length := by omega
        subst hk'
        exact take_all L2.out.symm hI.out
  · have hne : ((n1 : Int) != (n2 : Int)) = true := by simp; omega
    have hne' : ((n1 : Int) == (n2 : Int)) = false := by simp; omega
    have hd : decide (xs = ys) = false := decide_eq_false (fun h => hn (by rw [← l1, ← l2, h]))
    have HD := Lib.hid hd
    clear hd
    go_enter Try.func17, Try.ntmps17
    go_wp2
    go_ret
    exact ⟨ret_bool HD.out.symm, Below.refl _ _⟩
end Plain
end Go.Proofs.Ythhkngpbaflfiaa

/-
  interlocklaw38.alive: the page's example.
-/
namespace Go.Proofs.Ythhkngpbaflfiaa
open Go.RowKit Base
set_option linter.unusedVariables false
set_option linter.unusedSimpArgs false
namespace Pre

theorem sub_ex : subsumed [[1, 2], [1]] = [[1]] := by decide +kernel
theorem chk_ex : Formula.check 2 [[1, 2], [1]] = 0 := by decide

theorem wf_ex : Formula.Wf2 [[1, 2], [1]] := by
  intro l hl x hx
  simp at hl
  rcases hl with rfl | rfl
  · simp at hx; rcases hx with rfl | rfl <;> omega
  · simp at hx; subst hx; omega

set_option maxHeartbeats 2000000 in
theorem alive_any (w : World) :
    Calls Try.prog 12 #[] w fun e w' => e = .returned (.bool true) ∧ Below w.heap.size w w' := by
  obtain ⟨W1, hW1⟩ : ∃ W1, w.alloc (.cells #[.int .i64 1, .int .i64 2] 3) = W1 := ⟨_, rfl⟩
  obtain ⟨W2, hW2⟩ : ∃ W2, W1.alloc (.cells #[.int .i64 1] 3) = W2 := ⟨_, rfl⟩
  have h1 : Below w.heap.size w W1 := by rw [← hW1]; exact (Below.refl _ _).alloc (Nat.le_refl _) _
  have h2 : Below W1.heap.size W1 W2 := by rw [← hW2]; exact (Below.refl _ _).alloc (Nat.le_refl _) _
  have z1 : W1.heap.size = w.heap.size + 1 := by rw [← hW1]; simp
  have z2 : W2.heap.size = w.heap.size + 2 := by rw [← hW2]; simp [z1]
  have s1 : Sl W1 (some ⟨w.heap.size, 0, none⟩) 2 2 (ints [1, 2]) := by rw [← hW1]; exact sl_new w #[.int .i64 1, .int .i64 2] 3 2 rfl (by decide)
  have s2 : Sl W2 (some ⟨w.heap.size + 1, 0, none⟩) 1 1 (ints [1]) := by rw [← z1, ← hW2]; exact sl_new W1 #[.int .i64 1] 3 1 rfl (by decide)
  obtain ⟨W3, hW3⟩ : ∃ W3, W2.alloc (.cells #[.slice (some ⟨w.heap.size, 0, none⟩) 2 2, .slice (some ⟨w.heap.size + 1, 0, none⟩) 1 1] 29) = W3 := ⟨_, rfl⟩
  have h3 : Below W2.heap.size W2 W3 := by rw [← hW3]; exact (Below.refl _ _).alloc (Nat.le_refl _) _
  have s3 : Sl W3 (some ⟨w.heap.size + 2, 0, none⟩) 2 2 [.slice (some ⟨w.heap.size, 0, none⟩) 2 2, .slice (some ⟨w.heap.size + 1, 0, none⟩) 1 1] := by rw [← z2, ← hW3]; exact sl_new W2 _ 29 2 rfl (by decide)
  have ss : Sl2 W3 (some ⟨w.heap.size + 2, 0, none⟩) 2 2 [.slice (some ⟨w.heap.size, 0, none⟩) 2 2, .slice (some ⟨w.heap.size + 1, 0, none⟩) 1 1] [[1, 2], [1]] := by
    refine ⟨s3, rfl, fun k v xs hv hx => ?_⟩
    match k, hv, hx with
    | 0, hv, hx =>
      simp at hv hx; subst hv; subst hx
      exact ⟨_, _, rfl, (s1.next h2).next h3⟩
    | 1, hv, hx =>
      simp at hv hx; subst hv; subst hx
      exact ⟨_, _, rfl, s2.next h3⟩
  have S := subsume_any W3 2 _ 2 2 _ _ ss wf_ex
  unfold FormOut at S
  rw [chk_ex, sub_ex] at S
  simp only [if_true] at S
  have HS := Lib.hid S
  have HB := Lib.hid (h1.trans ((h2.trans (h3.mono h2.size)).mono h1.size))
  clear S ss s1 s2 s3 h1 h2 h3
  go_enter Try.func12, Try.ntmps12
  go_wp2_with fail
  try rw [z1]
  try rw [z2]
  refine HS.out.mono ?_
  rintro e w4 ⟨⟨a4, c4, vals4, rfl, ho4⟩, hb4⟩
  have hs4 := ho4.sl2'
  obtain ⟨b, o, a5, c5, hx, rfl, hbs, hc, hs5, _⟩ := hs4.at (k := 0) (by decide)
  have HB4 := Lib.hid (HB.out.trans (hb4.mono HB.out.size))
  have hal : Below w4.heap.size w4 (w4.alloc (.cells #[.int .i64 2, .slice (some ⟨b, o, none⟩) 1 c4] 24)) := (Below.refl _ _).alloc (Nat.le_refl _) _
  have hcap := hs4.sl.cap
  have hbig := hs4.sl.big
  have k0 := (hal.cell (p := ⟨b, o + 0, none⟩) hbs).trans hc
  have k1 : (w4.alloc (.cells #[.int .i64 2, .slice (some ⟨b, o, none⟩) 1 c4] 24)).cell? ⟨w4.heap.size, 1, none⟩ = some (.slice (some ⟨b, o, none⟩) 1 c4) := by simp [go_sem]
  have hs6 := hs5.next hal
  have hm1 := HB4.out.trans (hal.mono HB4.out.size)
  simp only [List.length_cons, List.length_nil, Nat.zero_add, Nat.add_zero, List.getElem_cons_zero] at *
  generalize hW4 : w4.alloc (.cells #[.int .i64 2, .slice (some ⟨b, o, none⟩) 1 c4] 24) = W4 at *
  have hal2 : Below W4.heap.size W4 (W4.alloc (.cells #[.int .i64 1] 3)) := (Below.refl _ _).alloc (Nat.le_refl _) _
  have s6 := sl_new W4 #[.int .i64 1] 3 1 rfl (by decide)
  have PI := Lib.hid (Plain.ints_any (W4.alloc (.cells #[.int .i64 1] 3)) a5 _ 1 1 c5 1 [1] [1] (hs6.next hal2) s6)
  have HB5 := Lib.hid (hm1.trans (hal2.mono hm1.size))
  clear ho4 hb4 hs4 hs5 hs6 hal hal2 s6 hm1 hc
  go_wp2_with fail
  refine PI.out.mono ?_
  rintro e w7 ⟨rfl, hb7⟩
  have HB7 := Lib.hid (HB5.out.trans (hb7.mono HB5.out.size))
  clear hb7
  go_wp2_with fail
  go_ret
  exact ⟨ret_bool (by simp), HB7.out⟩

end Pre
end Go.Proofs.Ythhkngpbaflfiaa

/-
  interlockref01.Has, interlockref10.less.
-/
namespace Go.Proofs.Ythhkngpbaflfiaa
open Go.RowKit Base
set_option linter.unusedVariables false
set_option linter.unusedSimpArgs false
namespace RefC

set_option maxHeartbeats 1000000 in
theorem has_any (w : World) (a : Option Addr) (n c : Nat) (xs : List Int) (hsl : Sl w a n c (ints xs)) (x : Int) :
    Calls Try.prog 15 #[.slice a n c, .int .i64 x] w fun e w' => e = .returned (.bool (decide (x ∈ xs))) ∧ w = w' := by
  have HL : Hid (xs.length = n) := by have := hsl.len; rwa [ints_len] at this
  have hcap := hsl.cap
  have hbig := hsl.big
  have HSL := Lib.hid hsl
  clear hsl
  go_enter Try.func15, Try.ntmps15
  go_wp2
  go_loop [5] (fun i => ∃ k : Nat, k ≤ n ∧ i = .int .i64 k ∧ Hid (decide (x ∈ xs.take k) = false)) (fun i => n - (intOf i).toNat)
  case atStart => exact ⟨0, Nat.zero_le _, rfl, by show _ = _; simp⟩
  case round =>
    obtain ⟨k, hk, rfl, hI⟩ := hrel
    by_cases hlt : k < n
    · obtain ⟨b, o, hx, rfl, hbs, hc⟩ := HSL.out.int hlt
      generalize hp : xs[k] = p at *
      have HP := Lib.hid hp
      clear hp
      by_cases hq : p = x
      · have v0 : (p == x) = true := by simp [hq]
        have HF : Hid (decide (x ∈ xs) = true) := by
          show _ = _
          rw [← hq, ← HP.out]
          simp
        clear hq
        go_wp2
        go_ret
        exact ⟨ret_bool HF.out.symm, rfl⟩
      · have v0 : (p == x) = false := by simp [hq]
        have HF : Hid (decide (x ∈ xs.take (k + 1)) = false) := mem_take_more hx hI.out (by rw [HP.out]; exact hq)
        clear hq
        go_wp2
        go_round
        case rel => exact ⟨k + 1, by omega, by go_num, HF⟩
        case measure => simp [intOf]; omega
    · have HF : Hid (decide (x ∈ xs) = false) := by
        show _ = _
        have h := hI.out
        rwa [List.take_of_length_le (by have := HL.out; omega)] at h
      go_wp2
      go_ret
      exact ⟨ret_bool HF.out.symm, rfl⟩

set_option maxHeartbeats 1000000 in
theorem less_any (w : World) (a b : Int) (ha : I64 a) (hb : I64 b) :
    Calls Try.prog 51 #[.int .i64 a, .int .i64 b] w fun e w' => e = .returned (.bool (lessB a b)) ∧ w = w' := by
  have HA := Lib.hid (Clause.refAbs_any a ha.1 ha.2 w)
  have HB := Lib.hid (Clause.refAbs_any b hb.1 hb.2 w)
  have HR : Hid (lessB a b = (decide (Clause.absI a < Clause.absI b) || (decide (Clause.absI a = Clause.absI b) && decide (a < b)))) := rfl
  clear ha hb
  generalize Clause.absI a = A at *
  generalize Clause.absI b = B at *
  by_cases h1 : A < B
  · go_enter Try.func51, Try.ntmps51
    go_wp2_with fail
    refine HA.out.mono ?_; rintro e w1 ⟨rfl, rfl⟩
    go_wp2_with fail
    refine HB.out.mono ?_; rintro e w1 ⟨rfl, rfl⟩
    go_wp2_with fail
    go_ret
    exact ⟨ret_bool (by rw [HR.out, decide_eq_true h1]; rfl), rfl⟩
  · have hd : decide (A < B) = false := decide_eq_false h1
    by_cases h2 : A = B
    · have hd2 : (A == B) = true := by simp [h2]
      have H2 := Lib.hid h2
      clear h1 h2
      go_enter Try.func51, Try.ntmps51
      go_wp2_with fail
      refine HA.out.mono ?_; rintro e w1 ⟨rfl, rfl⟩
      go_wp2_with fail
      refine HB.out.mono ?_; rintro e w1 ⟨rfl, rfl⟩
      go_wp2_with fail
      refine HA.out.mono ?_; rintro e w1 ⟨rfl, rfl⟩
      go_wp2_with fail
      refine HB.out.mono ?_; rintro e w1 ⟨rfl, rfl⟩
      go_wp2_with fail
      go_ret
      refine ⟨ret_bool ?_, rfl⟩
      rw [HR.out, hd, decide_eq_true H2.out]; rfl
    · have hd2 : (A == B) = false := by simp [h2]
      have H2 := Lib.hid h2
      clear h1 h2
      go_enter Try.func51, Try.ntmps51
      go_wp2_with fail
      refine HA.out.mono ?_; rintro e w1 ⟨rfl, rfl⟩
      go_wp2_with fail
      refine HB.out.mono ?_; rintro e w1 ⟨rfl, rfl⟩
      go_wp2_with fail
      refine HA.out.mono ?_; rintro e w1 ⟨rfl, rfl⟩
      go_wp2_with fail
      refine HB.out.mono ?_; rintro e w1 ⟨rfl, rfl⟩
      go_wp2_with fail
      go_ret
      refine ⟨ret_bool ?_, rfl⟩
      rw [HR.out, hd, decide_eq_false H2.out]; rfl

end RefC
end Go.Proofs.Ythhkngpbaflfiaa

/-
  interlockref10.Norm.
-/
namespace Go.Proofs.Ythhkngpbaflfiaa
open Go.RowKit Base
set_option linter.unusedVariables false
set_option linter.unusedSimpArgs false
namespace RefC

theorem info_int : (Try.prog.info? 3).map (fun i => (i.zero, i.size, i.bytes)) = some (some (.int .i64 0), 1, 8) := by kernel_rfl

theorem ints_app (xs ys : List Int) : ints xs ++ ints ys = ints (xs ++ ys) := by simp [ints]

theorem Sl.drop {w : World} {b o n c : Nat} {vs : List Value} (h : Sl w (some ⟨b, o, none⟩) n c vs) {k : Nat} (hk : k ≤ n) :
    Sl w (some ⟨b, o + k, none⟩) (n - k) (c - k) (vs.drop k) :=
  ⟨by rw [List.length_drop, h.len], by have := h.cap; omega, by have := h.big; omega, (by intro e; cases e), fun j x hx => by
    rw [List.getElem?_drop] at hx
    obtain ⟨b', o', ha, hs, hc⟩ := h.cell (k + j) x hx
    simp only [Option.some.injEq, Addr.mk.injEq] at ha
    obtain ⟨rfl, rfl, _⟩ := ha
    exact ⟨b, o + k, rfl, hs, by rw [Nat.add_assoc]; exact hc⟩⟩

theorem Sl.empty (w : World) (x : Addr) (c : Nat) {n : Nat} (hn : n = 0) (hc : c ≤ 9223372036854775807) : Sl w (some x) n c (ints []) := by
  subst hn
  exact ⟨rfl, Nat.zero_le _, hc, (by intro e; cases e), fun k x h => by simp [ints] at h⟩

/-- The head's address is of the call's own, or none. -/
theorem own_form {w : World} {B : Nat} {e : TypeId} {size : Nat} {a : Option Addr} {n c : Nat} {vs : List Value} (h : w.ownsRow B e size (.slice a n c) n vs) :
    (a = none ∧ n = 0 ∧ c = 0) ∨ ∃ g, a = some ⟨g, 0, none⟩ ∧ B ≤ g ∧ g < w.heap.size := by
  rcases h.2 with ⟨hv, h0⟩ | ⟨g, cap, cur, hv, hg, hh, _⟩
  · simp only [Value.slice.injEq] at hv
    exact .inl ⟨hv.1, h0, hv.2.2⟩
  · simp only [Value.slice.injEq] at hv
    exact .inr ⟨g, hv.1, hg, (Array.getElem?_eq_some_iff.1 hh).1⟩

def NormOut (w : World) (L : List Int) (e : Ending) (w' : World) : Prop :=
  ∃ a c, e = .returned (.tuple #[.slice a L.length c, .bool (always L)]) ∧ w'.ownsRow w.heap.size 3 1 (.slice a L.length c) L.length (ints L) ∧ Below w.heap.size w w'

set_option maxHeartbeats 4000000 in
theorem norm_any (w : World) (a : Option Addr) (n c : Nat) (l : List Int) (hsl : Sl w a n c (ints l)) (hw : Clause.Wf l) (hn : n ≤ 1073741824) :
    Calls Try.prog 31 #[.slice a n c] w (NormOut w (norm l)) := by
  have HL : Hid (l.length = n) := by have := hsl.len; rwa [ints_len] at this
  have hcap := hsl.cap
  have hbig := hsl.big
  have HSL := Lib.hid hsl
  have HW := Lib.hid hw
  clear hsl hw
  go_enter Try.func31, Try.ntmps31
  go_wp2
  go_loopw [4, 5] (fun s i wr => ∃ (k m : Nat) (L : List Int), k ≤ n ∧ i = .int .i64 k ∧ Hid (norm (l.take k) = L) ∧ Hid (L.length = m) ∧ m ≤ k ∧ (∃ a' c', s = .slice a' m c' ∧ wr.ownsRow w.heap.size 3 1 (.slice a' m c') m (ints L)) ∧ Below w.heap.size w wr) (fun _ i _ => n - (intOf i).toNat)
  case atStart => exact ⟨0, 0, [], Nat.zero_le _, rfl, rfl, rfl, Nat.le_refl _, ⟨none, 0, rfl, World.ownsRow_nil _ _ _ _⟩, Below.refl _ _⟩
  case round =>
    obtain ⟨k, m, L, hk, rfl, hI, hM, hmk, ⟨a', c', rfl, hown⟩, hbr⟩ := hrel
    obtain ⟨a9, c9, e9, hs9⟩ := own_sl hown
    simp only [Value.slice.injEq] at e9
    obtain ⟨rfl, _, rfl⟩ := e9
    have hcap' := hs9.cap
    have hbig' := hs9.big
    have HS := Lib.hid hs9
    have HO := Lib.hid hown
    clear hs9 hown
    have hbase : w.heap.size ≤ wr.heap.size := hbr.size
    by_cases hlt : k < n
    · obtain ⟨b, o, hx, rfl, hbs, hc⟩ := HSL.out.int hlt
      have hc0 : wr.cell? ⟨b, o + k, none⟩ = some (.int .i64 l[k]) := (hbr.cell (p := ⟨b, o + k, none⟩) hbs).trans hc
      have HN := Lib.hid (norm_more l k hx)
      have HXR := Lib.hid (HW.out _ (List.getElem_mem hx))
      clear hc
      generalize hp : l[k] = p at *
      have HP := Lib.hid hp
      clear hp
      have HLR : Hid (∀ y ∈ L, I64 y) := by
        intro y hy
        rw [← hI.out] at hy
        exact HW.out y (norm_mem l k y hy)
      by_cases h0 : p = 0
      · have v0 : (p == 0) = true := by simp [h0]
        have HF : Hid (norm (l.take (k + 1)) = L) := by show _ = _; rw [HN.out, hI.out]; unfold put1; rw [if_pos (.inl h0)]
        clear h0
        go_wp2_with fail
        go_roundw
        case rel => exact ⟨k + 1, m, L, by omega, by go_num, HF, hM, by omega, ⟨a', c', rfl, HO.out⟩, hbr⟩
        case measure => simp [intOf]; omega
      · have v0 : (p == 0) = false := by simp [h0]
        have HH := Lib.hid (has_any wr a' m c' L HS.out p)
        by_cases hin : p ∈ L
        · have HF : Hid (norm (l.take (k + 1)) = L) := by show _ = _; rw [HN.out, hI.out]; unfold put1; rw [if_pos (.inr hin)]
          rw [decide_eq_true hin] at HH
          clear h0 hin
          go_wp2_with fail
          refine HH.out.mono ?_; rintro e w1 ⟨rfl, rfl⟩
          go_wp2_with fail
          go_roundw
          case rel => exact ⟨k + 1, m, L, by omega, by go_num, HF, hM, by omega, ⟨a', c', rfl, HO.out⟩, hbr⟩
          case measure => simp [intOf]; omega
        · have HF : Hid (norm (l.take (k + 1)) = ins p L) := by show _ = _; rw [HN.out, hI.out]; unfold put1; rw [if_neg (by rintro (h | h); exact h0 h; exact hin h)]
          rw [decide_eq_false hin] at HH
          clear h0 hin
          go_wp2_with fail
          refine HH.out.mono ?_; rintro e w1 ⟨rfl, rfl⟩
          clear hc0
          go_wp2_with fail
          generalize wr = wo at *
          go_loopw [7, 8] (fun s i wq => ∃ (j : Nat), j ≤ m ∧ i = .int .i64 j ∧ Hid (∀ y ∈ L.take j, lessB y p = true) ∧ (∃ a2 c2, s = .slice a2 j c2 ∧ wq.ownsRow wo.heap.size 3 1 (.slice a2 j c2) j (ints (L.take j))) ∧ Below wo.heap.size wo wq) (fun _ i _ => m - (intOf i).toNat)
          case atStart => exact ⟨0, Nat.zero_le _, rfl, by intro y hy; simp at hy, ⟨none, 0, rfl, World.ownsRow_nil _ _ _ _⟩, Below.refl _ _⟩
          case round =>
            obtain ⟨j, hj, rfl, hA, ⟨a2, c2, rfl, hown2⟩, hbq⟩ := hrel
            have HO2 := Lib.hid hown2
            clear hown2
            have hbase2 : wo.heap.size ≤ wr.heap.size := hbq.size
            have HSq := Lib.hid (HS.out.next hbq)
            by_cases hjm : j < m
            · obtain ⟨g, q, hy, rfl, hgs, hcy⟩ := HSq.out.int hjm
              have HLE := Lib.hid (less_any wr L[j] p (HLR.out _ (List.getElem_mem hy)) HXR.out)
              have HT := Lib.hid (List.take_succ_eq_append_getElem hy)
              have HY := Lib.hid (List.getElem?_eq_getElem hy)
              generalize hz : L[j] = z at *
              have HZ := Lib.hid hz
              clear hz
              cases hlz : lessB z p
              · rw [hlz] at HLE
                have hcj : ¬ c' = j := by omega
                have HI2 : Hid (ins p L = L.take j ++ p :: L.drop j) := by
                  have h := tw (p := fun y => lessB y p) (l := L) (j := j) (by omega) hA.out (.inr ⟨hy, by rw [HZ.out]; exact hlz⟩)
                  show _ = _
                  unfold ins
                  rw [h.1, h.2]
                have HDR : Hid (Sl wo (some ⟨g, q + j, none⟩) (m - j) (c' - j) (ints (L.drop j))) := by
                  have h := Sl.drop HS.out (k := j) (by omega)
                  unfold ints at h ⊢
                  rw [← List.map_drop] at h
                  exact h
                clear hlz
                go_wp2_with fail
                refine HLE.out.mono ?_; rintro e w1 ⟨rfl, rfl⟩
                clear hcy
                go_wp2_with fail
                go_region_law (first | (refine step_push (by rfl) (by rfl) wo.heap.size _ _ (.slice a2 j c2) j (ints (L.take j)) info_int Try.underlying29 (by rfl) (by rfl) (by rfl) (by rfl) (by rfl) HO2.out.drew (by show wo.heap.size ≤ wr.heap.size; exact hbase2) (by omega) (by omega) hbq.drew ?_; intro a3 c3 w3 hown3 hb3 hz3; have hs3 : Sl w3 (some ⟨g, q + j, none⟩) (m - j) (c' - j) (ints (L.drop j)) := (HDR.out.next hb3)) | (refine step_pushD (by rfl) (by rfl) wo.heap.size _ _ (.slice a2 j c2) j (ints (L.take j)) info_int Try.underlying29 (by rfl) (by rfl) (by rfl) (by rfl) (by rfl) HO2.out (by exact hbase2) (by omega) (by omega) hbq ?_; intro a3 c3 w3 hown3 hb3 hz3; have hs3 : Sl w3 (some ⟨g, q + j, none⟩) (m - j) (c' - j) (ints (L.drop j)) := (HDR.out.next hb3)) | (refine step_app (by rfl) (by rfl) wo.heap.size _ (j + 1) _ (some ⟨g, q + j, none⟩) (m - j) (c' - j) (ints (L.drop j)) info_int Try.underlying29 (by rfl) (by rfl) (by rfl) (ints_one _) hown3 hs3 hb3.size (by omega) (by omega) hb3 ?_; intro a4 c4 w4 hown4 hb4 hz4))
                all_goals
                  go_wp2_with fail
                  go_roundw
                  case rel =>
                    refine ⟨k + 1, j + 1 + ((m - j)), ins p L, by omega, by go_num, HF, ?_, by omega, ⟨a4, c4, rfl, ?_⟩, hbr.trans (hb4.mono hbase)⟩
                    · show _ = _
                      rw [ins_len, hM.out]
                      all_goals omega
                    · rw [HI2.out]
                      have e : ints (L.take j ++ p :: L.drop j) = ints (L.take j) ++ [.int .i64 p] ++ ints (L.drop j) := by simp [ints]
                      rw [e]
                      exact own_mono hown4 hbase
                  case measure => simp [intOf]; omega
              · rw [hlz] at HLE
                have HLZ := Lib.hid hlz
                clear hlz
                have hcy' := hcy
                go_wp2_with fail
                refine HLE.out.mono ?_; rintro e w1 ⟨rfl, rfl⟩
                go_wp2_with ((with_reducible refine wpL_push (B := wo.heap.size) (W := wo) wr (.int .i64 z) _ j (ints (L.take j)) info_int Try.underlying29 ?_ ?_ ?_ ?_ ?_ HO2.out ?_ ?_ ?_ hbq ?_); rfl; rfl; rfl; rfl; rfl; (exact hbase2); omega; omega; (intro a3 c3 w3 hown3 hb3 hsz3))
                go_roundw
                case rel =>
                  refine ⟨j + 1, by omega, by go_num, ?_, ⟨a3, c3, rfl, ?_⟩, hb3⟩
                  · intro y hy
                    rw [HT.out, List.mem_append, List.mem_singleton] at hy
                    rcases hy with h | h
                    · exact hA.out y h
                    · rw [h, HLZ.out]
                  · rw [HT.out, ← ints_app]; exact hown3
                case measure => simp [intOf]; omega
            · have hjm' : j = m := by omega
              have HI2 : Hid (ins p L = L.take j ++ p :: L.drop j) := by
                have h := tw (p := fun y => lessB y p) (l := L) (j := j) (by have := hM.out; omega) hA.out (.inl (by rw [hM.out]; exact hjm'))
                show _ = _
                unfold ins
                rw [h.1, h.2]
              have hdr : L.drop j = [] := List.drop_eq_nil_of_le (by have := hM.out; omega)
              have HD0 := Lib.hid hdr
              subst hjm'
              clear hdr
              rcases own_form HO.out with ⟨rfl, rfl, rfl⟩ | ⟨g, rfl, hg1, hg2⟩
              · go_wp2_with fail
                go_region_law (first | (refine step_push (by rfl) (by rfl) wo.heap.size _ _ (.slice a2 0 c2) 0 (ints (L.take 0)) info_int Try.underlying29 (by rfl) (by rfl) (by rfl) (by rfl) (by rfl) HO2.out.drew (by show wo.heap.size ≤ wr.heap.size; exact hbase2) (by omega) (by omega) hbq.drew ?_; intro a3 c3 w3 hown3 hb3 hz3; have hs3 : Sl w3 none 0 0 (ints (L.drop 0)) := (by rw [HD0.out]; exact Sl.nil _)) | (refine step_pushD (by rfl) (by rfl) wo.heap.size _ _ (.slice a2 0 c2) 0 (ints (L.take 0)) info_int Try.underlying29 (by rfl) (by rfl) (by rfl) (by rfl) (by rfl) HO2.out (by exact hbase2) (by omega) (by omega) hbq ?_; intro a3 c3 w3 hown3 hb3 hz3; have hs3 : Sl w3 none 0 0 (ints (L.drop 0)) := (by rw [HD0.out]; exact Sl.nil _)) | (refine step_app (by rfl) (by rfl) wo.heap.size _ (0 + 1) _ none 0 0 (ints (L.drop 0)) info_int Try.underlying29 (by rfl) (by rfl) (by rfl) (ints_one _) hown3 hs3 hb3.size (by omega) (by omega) hb3 ?_; intro a4 c4 w4 hown4 hb4 hz4))
                all_goals
                  go_wp2_with fail
                  go_roundw
                  case rel =>
                    refine ⟨k + 1, 0 + 1 + (0), ins p L, by omega, by go_num, HF, ?_, by omega, ⟨a4, c4, rfl, ?_⟩, hbr.trans (hb4.mono hbase)⟩
                    · show _ = _
                      rw [ins_len, hM.out]
                      all_goals omega
                    · rw [HI2.out]
                      have e : ints (L.take 0 ++ p :: L.drop 0) = ints (L.take 0) ++ [.int .i64 p] ++ ints (L.drop 0) := by simp [ints]
                      rw [e]
                      exact own_mono hown4 hbase
                  case measure => simp [intOf]; omega
              · by_cases hcj : c' = j
                · go_wp2_with fail
                  go_region_law (first | (refine step_push (by rfl) (by rfl) wo.heap.size _ _ (.slice a2 j c2) j (ints (L.take j)) info_int Try.underlying29 (by rfl) (by rfl) (by rfl) (by rfl) (by rfl) HO2.out.drew (by show wo.heap.size ≤ wr.heap.size; exact hbase2) (by omega) (by omega) hbq.drew ?_; intro a3 c3 w3 hown3 hb3 hz3; have hs3 : Sl w3 (some ⟨g, 0, none⟩) 0 0 (ints (L.drop j)) := (by rw [HD0.out]; exact Sl.empty _ _ _ (by omega) (by omega))) | (refine step_pushD (by rfl) (by rfl) wo.heap.size _ _ (.slice a2 j c2) j (ints (L.take j)) info_int Try.underlying29 (by rfl) (by rfl) (by rfl) (by rfl) (by rfl) HO2.out (by exact hbase2) (by omega) (by omega) hbq ?_; intro a3 c3 w3 hown3 hb3 hz3; have hs3 : Sl w3 (some ⟨g, 0, none⟩) 0 0 (ints (L.drop j)) := (by rw [HD0.out]; exact Sl.empty _ _ _ (by omega) (by omega))) | (refine step_app (by rfl) (by rfl) wo.heap.size _ (j + 1) _ (some ⟨g, 0, none⟩) 0 0 (ints (L.drop j)) info_int Try.underlying29 (by rfl) (by rfl) (by rfl) (ints_one _) hown3 hs3 hb3.size (by omega) (by omega) hb3 ?_; intro a4 c4 w4 hown4 hb4 hz4))
                  all_goals
                    go_wp2_with fail
                    go_roundw
                    case rel =>
                      refine ⟨k + 1, j + 1 + (0), ins p L, by omega, by go_num, HF, ?_, by omega, ⟨a4, c4, rfl, ?_⟩, hbr.trans (hb4.mono hbase)⟩
                      · show _ = _
                        rw [ins_len, hM.out]
                        all_goals omega
                      · rw [HI2.out]
                        have e : ints (L.take j ++ p :: L.drop j) = ints (L.take j) ++ [.int .i64 p] ++ ints (L.drop j) := by simp [ints]
                        rw [e]
                        exact own_mono hown4 hbase
                    case measure => simp [intOf]; omega
                · go_wp2_with fail
                  go_region_law (first | (refine step_push (by rfl) (by rfl) wo.heap.size _ _ (.slice a2 j c2) j (ints (L.take j)) info_int Try.underlying29 (by rfl) (by rfl) (by rfl) (by rfl) (by rfl) HO2.out.drew (by show wo.heap.size ≤ wr.heap.size; exact hbase2) (by omega) (by omega) hbq.drew ?_; intro a3 c3 w3 hown3 hb3 hz3; have hs3 : Sl w3 (some ⟨g, j, none⟩) 0 (c' - j) (ints (L.drop j)) := (by rw [HD0.out]; exact Sl.empty _ _ _ (by omega) (by omega))) | (refine step_pushD (by rfl) (by rfl) wo.heap.size _ _ (.slice a2 j c2) j (ints (L.take j)) info_int Try.underlying29 (by rfl) (by rfl) (by rfl) (by rfl) (by rfl) HO2.out (by exact hbase2) (by omega) (by omega) hbq ?_; intro a3 c3 w3 hown3 hb3 hz3; have hs3 : Sl w3 (some ⟨g, j, none⟩) 0 (c' - j) (ints (L.drop j)) := (by rw [HD0.out]; exact Sl.empty _ _ _ (by omega) (by omega))) | (refine step_app (by rfl) (by rfl) wo.heap.size _ (j + 1) _ (some ⟨g, j, none⟩) 0 (c' - j) (ints (L.drop j)) info_int Try.underlying29 (by rfl) (by rfl) (by rfl) (ints_one _) hown3 hs3 hb3.size (by omega) (by omega) hb3 ?_; intro a4 c4 w4 hown4 hb4 hz4))
                  all_goals
                    go_wp2_with fail
                    go_roundw
                    case rel =>
                      refine ⟨k + 1, j + 1 + (0), ins p L, by omega, by go_num, HF, ?_, by omega, ⟨a4, c4, rfl, ?_⟩, hbr.trans (hb4.mono hbase)⟩
                      · show _ = _
                        rw [ins_len, hM.out]
                        all_goals omega
                      · rw [HI2.out]
                        have e : ints (L.take j ++ p :: L.drop j) = ints (L.take j) ++ [.int .i64 p] ++ ints (L.drop j) := by simp [ints]
                        rw [e]
                        exact own_mono hown4 hbase
                    case measure => simp [intOf]; omega
    · have hI2 : norm l = L := by
        have h := hI.out
        rwa [List.take_of_length_le (by have := HL.out; omega)] at h
      have HI2 := Lib.hid hI2
      clear hI2
      have hkn : ¬ ((k : Int) < n) := by omega
      have hm30 : m ≤ 1073741824 := by omega
      clear hk hlt
      go_wp2_with fail
      generalize wr = wo at *
      go_loopw [9, 10] (fun v i wr => ∃ (j : Nat), j ≤ m - 1 ∧ i = .int .i64 ((j : Int) + 1) ∧ (∃ b, v = .bool b ∧ Hid (b = alw L j)) ∧ Below wo.heap.size wo wr) (fun _ i _ => m - (intOf i).toNat)
      case atStart => exact ⟨0, Nat.zero_le _, rfl, ⟨false, rfl, rfl⟩, Below.refl _ _⟩
      case round =>
        obtain ⟨j, hj, rfl, ⟨b, rfl, hb⟩, hbq⟩ := hrel
        have hj30 : j ≤ 1073741824 := by omega
        have HJ := Lib.hid hj
        clear hj
        by_cases hjm : j + 1 < m
        · cases b
          · obtain ⟨g, q, hy, rfl, hgs, hcy⟩ := HS.out.int (k := j) (by omega)
            obtain ⟨g', q', hy', e', hgs', hcy'⟩ := HS.out.int (k := j + 1) (by omega)
            simp only [Option.some.injEq, Addr.mk.injEq] at e'
            obtain ⟨rfl, rfl, _⟩ := e'
            have c0 := (hbq.cell (p := ⟨g, q + j, none⟩) hgs).trans hcy
            have c1 := (hbq.cell (p := ⟨g, q + (j + 1), none⟩) hgs).trans hcy'
            have HA : Hid (alw L (j + 1) = (L[j] == wrap64 (-L[j + 1]))) := by
              show _ = _
              rw [alw_more, ← hb.out, List.getD_eq_getElem?_getD, List.getD_eq_getElem?_getD, List.getElem?_eq_getElem hy, List.getElem?_eq_getElem hy']
              rfl
            clear hcy hcy'
            generalize L[j] = y at *
            generalize L[j + 1] = z at *
            go_wp2_with fail
            go_quiet (fail)
            go_wp2_with fail
            go_roundw
            case rel => exact ⟨j + 1, by have := HJ.out; omega, by go_num, ⟨_, rfl, HA.out.symm⟩, below_drewN hbq _⟩
            case measure => simp [intOf]; omega
          · have HA : Hid (true = alw L (j + 1)) := by show _ = _; rw [alw_more, ← hb.out]; rfl
            go_wp2_with fail
            go_quiet (fail)
            go_wp2_with fail
            go_roundw
            case rel => exact ⟨j + 1, by have := HJ.out; omega, by go_num, ⟨_, rfl, HA⟩, below_drewN hbq _⟩
            case measure => simp [intOf]; omega
        · have HA : Hid (b = always L) := by show _ = _; rw [hb.out]; unfold always; rw [hM.out]; congr 1; have := HJ.out; omega
          have HM := hM
          have HO3 := Lib.hid (own_next HO.out hbq)
          go_wp2_with fail
          refine bodyPost_ret (v := .tuple #[.slice a' m c', .bool b]) (by simp [results, Try.results31, go_sem]) rfl ?_
          refine ⟨a', c', ?_, ?_, hbr.trans (hbq.mono hbase)⟩
          · rw [HI2.out, ← HA.out, HM.out]
          · rw [HI2.out, HM.out]; exact HO3.out
end RefC
end Go.Proofs.Ythhkngpbaflfiaa

/-
  interlockplain.Lists: are two lists of lists of integers one?
-/
namespace Go.Proofs.Ythhkngpbaflfiaa
open Go.RowKit Base
set_option linter.unusedVariables false
namespace Plain

theorem drew_more {w wr : World} (h : ∃ m, wr = w.drewN m) (k : Nat) : ∃ m, wr.drewN k = w.drewN m := by
  obtain ⟨m, rfl⟩ := h
  exact ⟨m + k, World.drewN_drewN _ _ _⟩

set_option maxHeartbeats 1000000 in
theorem ints_q (w : World) (a1 a2 : Option Addr) (n1 n2 c1 c2 : Nat) (xs ys : List Int) (h1 : Sl w a1 n1 c1 (ints xs)) (h2 : Sl w a2 n2 c2 (ints ys)) :
    Calls Try.prog 17 #[.slice a1 n1 c1, .slice a2 n2 c2] w fun e w' => e = .returned (.bool (decide (xs = ys))) ∧ ∃ m, w' = w.drewN m := by
  have l1 : xs.length = n1 := by have := h1.len; rw [ints_len] at this; exact this
  have l2 : ys.length = n2 := by have := h2.len; rw [ints_len] at this; exact this
  have hb1 := h1.cap
  have hb2 := h1.big
  by_cases hn : n1 = n2
  · subst hn
    subst l1
    have L2 := Lib.hid l2
    have l2' : ys.length ≤ xs.length := by omega
    have l2'' : xs.length ≤ ys.length := by omega
    clear l2
    go_enter Try.func17, Try.ntmps17
    go_wp2
    go_loopw [5] (fun i wr => ∃ k : Nat, k ≤ xs.length ∧ i = .int .i64 k ∧ Hid (xs.take k = ys.take k) ∧ Hid (∃ m, wr = w.drewN m)) (fun i _ => xs.length - (intOf i).toNat)
    case atStart => exact ⟨0, Nat.zero_le _, rfl, rfl, 0, rfl⟩
    case round =>
      obtain ⟨k, hk, rfl, hI, hdr⟩ := hrel
      have hbr : Below w.heap.size w wr := by obtain ⟨q, rfl⟩ := hdr.out; exact below_drewN (Below.refl _ _) q
      by_cases hlt : k < xs.length
      · obtain ⟨b, o, hx, rfl, hbs, hc⟩ := h1.int hlt
        obtain ⟨b', o', hy, rfl, hbs', hc'⟩ := h2.int hlt
        have hcr : wr.cell? ⟨b, o + k, none⟩ = some (.int .i64 xs[k]) := (hbr.cell (p := ⟨b, o + k, none⟩) hbs).trans hc
        have hcr' : wr.cell? ⟨b', o' + k, none⟩ = some (.int .i64 ys[k]) := (hbr.cell (p := ⟨b', o' + k, none⟩) hbs').trans hc'
        clear hc hc'
        generalize hp : xs[k] = p at *
        generalize hq : ys[k] = q at *
        have HP := Lib.hid hp
        have HQ := Lib.hid hq
        clear hp hq
        by_cases hpq : p = q
        · have hv : (p != q) = false := by simp [hpq]
          have E := Lib.hid hpq
          clear hpq
          go_wp2_with fail
          go_quiet (fail)
          go_wp2
          go_roundw
          case rel => exact ⟨k + 1, by omega, by go_num, take_more hx hy hI.out (by rw [HP.out, HQ.out, E.out]), drew_more hdr.out _⟩
          case measure => simp [intOf]; omega
        · have hv : (p != q) = true := by simp [hpq]
          have E := Lib.hid hpq
          clear hpq
          go_wp2_with fail
          go_quiet (fail)
          go_wp2
          go_ret
          refine ⟨ret_bool ?_, drew_more hdr.out _⟩
          symm
          apply decide_eq_false
          intro h
          apply E.out
          rw [← HP.out, ← HQ.out]
          subst h
          rfl
      · go_wp2
        go_ret
        refine ⟨ret_bool ?_, hdr.out⟩
        symm
        apply decide_eq_true
        have hk' : k = xs.length := by omega
        subst hk'
        exact take_all L2.out.symm hI.out
  · have hne : ((n1 : Int) != (n2 : Int)) = true := by simp; omega
    have hne' : ((n1 : Int) == (n2 : Int)) = false := by simp; omega
    have hd : decide (xs = ys) = false := decide_eq_false (fun h => hn (by rw [← l1, ← l2, h]))
    have HD := Lib.hid hd
    clear hd
    go_enter Try.func17, Try.ntmps17
    go_wp2
    go_ret
    exact ⟨ret_bool HD.out.symm, 0, rfl⟩

theorem take_more2 {α : Type} {xs ys : List α} {k : Nat} (hx : k < xs.length) (hy : k < ys.length) (h : xs.take k = ys.take k) (e : xs[k] = ys[k]) : xs.take (k + 1) = ys.take (k + 1) := by
  rw [List.take_succ_eq_append_getElem hx, List.take_succ_eq_append_getElem hy, h, e]

set_option maxHeartbeats 2000000 in
theorem lists_any (w : World) (a1 a2 : Option Addr) (n1 n2 c1 c2 : Nat) (v1 v2 : List Value) (xs ys : List (List Int)) (h1 : Sl2 w a1 n1 c1 v1 xs) (h2 : Sl2 w a2 n2 c2 v2 ys) :
    Calls Try.prog 16 #[.slice a1 n1 c1, .slice a2 n2 c2] w fun e w' => e = .returned (.bool (decide (xs = ys))) ∧ ∃ m, w' = w.drewN m := by
  have hb1 := h1.sl.cap
  have hb2 := h1.sl.big
  have H1 := Lib.hid h1
  have H2 := Lib.hid h2
  have L1 := Lib.hid h1.len
  have L2 := Lib.hid h2.len
  clear h1 h2
  by_cases hn : n1 = n2
  · subst hn
    go_enter Try.func16, Try.ntmps16
    go_wp2
    go_loopw [5] (fun i wr => ∃ k : Nat, k ≤ n1 ∧ i = .int .i64 k ∧ Hid (xs.take k = ys.take k) ∧ Hid (∃ m, wr = w.drewN m)) (fun i _ => n1 - (intOf i).toNat)
    case atStart => exact ⟨0, Nat.zero_le _, rfl, rfl, 0, rfl⟩
    case round =>
      obtain ⟨k, hk, rfl, hI, hdr⟩ := hrel
      have hbr : Below w.heap.size w wr := by obtain ⟨q, rfl⟩ := hdr.out; exact below_drewN (Below.refl _ _) q
      by_cases hlt : k < n1
      · obtain ⟨b, o, a3, c3, hx, rfl, hbs, hc, hr1, _⟩ := (H1.out.next hbr).at hlt
        obtain ⟨b', o', a4, c4, hy, rfl, hbs', hc', hr2, _⟩ := (H2.out.next hbr).at hlt
        have HQ := Lib.hid (fun (m : Nat) => ints_q (wr.drewN m) a3 a4 xs[k].length ys[k].length c3 c4 xs[k] ys[k] (hr1.next (below_drewN (Below.refl _ _) m)) (hr2.next (below_drewN (Below.refl _ _) m)))
        have HM : Hid (xs[k] = ys[k] → xs.take (k + 1) = ys.take (k + 1)) := fun e => take_more2 hx hy hI.out e
        have HD : Hid (xs[k] ≠ ys[k] → xs ≠ ys) := fun e he => e (by subst he; rfl)
        clear hr1 hr2
        generalize xs[k] = p at *
        generalize ys[k] = q at *
        generalize p.length = lp at *
        generalize q.length = lq at *
        by_cases hpq : p = q
        · rw [decide_eq_true hpq] at HQ
          have HE := Lib.hid hpq
          clear hpq
          go_wp2_with fail
          go_quiet ((go_at_call 17; exact Calls.quiet_of (HQ.out _)))
          go_wp2_with fail
          go_roundw
          case rel => exact ⟨k + 1, by omega, by go_num, HM.out HE.out, drew_more hdr.out _⟩
          case measure => simp [intOf]; omega
        · rw [decide_eq_false hpq] at HQ
          have HE := Lib.hid hpq
          clear hpq
          go_wp2_with fail
          go_quiet ((go_at_call 17; exact Calls.quiet_of (HQ.out _)))
          go_wp2_with fail
          go_ret
          exact ⟨ret_bool (decide_eq_false (HD.out HE.out)).symm, drew_more hdr.out _⟩
      · have HE : Hid (xs = ys) := by
          show _ = _
          have h := hI.out
          rwa [List.take_of_length_le (by have := L1.out; omega), List.take_of_length_le (by have := L2.out; omega)] at h
        go_wp2_with fail
        go_ret
        exact ⟨ret_bool (decide_eq_true HE.out).symm, hdr.out⟩
  · have hne : ((n1 : Int) != (n2 : Int)) = true := by simp; omega
    have hne' : ((n1 : Int) == (n2 : Int)) = false := by simp; omega
    have HD : Hid (decide (xs = ys) = false) := decide_eq_false (fun h => hn (by rw [← L1.out, ← L2.out, h]))
    go_enter Try.func16, Try.ntmps16
    go_wp2
    go_ret
    exact ⟨ret_bool HD.out.symm, 0, rfl⟩
end Plain
end Go.Proofs.Ythhkngpbaflfiaa

/-
  interlockref10.SameInts.
-/
namespace Go.Proofs.Ythhkngpbaflfiaa
open Go.RowKit Base
set_option linter.unusedVariables false
set_option linter.unusedSimpArgs false
namespace Plain

set_option maxHeartbeats 1000000 in
theorem sameInts_q (w : World) (a1 a2 : Option Addr) (n1 n2 c1 c2 : Nat) (xs ys : List Int) (h1 : Sl w a1 n1 c1 (ints xs)) (h2 : Sl w a2 n2 c2 (ints ys)) :
    Calls Try.prog 32 #[.slice a1 n1 c1, .slice a2 n2 c2] w fun e w' => e = .returned (.bool (decide (xs = ys))) ∧ ∃ m, w' = w.drewN m := by
  have l1 : xs.length = n1 := by have := h1.len; rw [ints_len] at this; exact this
  have l2 : ys.length = n2 := by have := h2.len; rw [ints_len] at this; exact this
  have hb1 := h1.cap
  have hb2 := h1.big
  by_cases hn : n1 = n2
  · subst hn
    subst l1
    have L2 := Lib.hid l2
    have l2' : ys.length ≤ xs.length := by omega
    have l2'' : xs.length ≤ ys.length := by omega
    clear l2
    go_enter Try.func32, Try.ntmps32
    go_wp2
    go_loopw [5] (fun i wr => ∃ k : Nat, k ≤ xs.length ∧ i = .int .i64 k ∧ Hid (xs.take k = ys.take k) ∧ Hid (∃ m, wr = w.drewN m)) (fun i _ => xs.length - (intOf i).toNat)
    case atStart => exact ⟨0, Nat.zero_le _, rfl, rfl, 0, rfl⟩
    case round =>
      obtain ⟨k, hk, rfl, hI, hdr⟩ := hrel
      have hbr : Below w.heap.size w wr := by obtain ⟨q, rfl⟩ := hdr.out; exact below_drewN (Below.refl _ _) q
      by_cases hlt : k < xs.length
      · obtain ⟨b, o, hx, rfl, hbs, hc⟩ := h1.int hlt
        obtain ⟨b', o', hy, rfl, hbs', hc'⟩ := h2.int hlt
        have hcr : wr.cell? ⟨b, o + k, none⟩ = some (.int .i64 xs[k]) := (hbr.cell (p := ⟨b, o + k, none⟩) hbs).trans hc
        have hcr' : wr.cell? ⟨b', o' + k, none⟩ = some (.int .i64 ys[k]) := (hbr.cell (p := ⟨b', o' + k, none⟩) hbs').trans hc'
        clear hc hc'
        generalize hp : xs[k] = p at *
        generalize hq : ys[k] = q at *
        have HP := Lib.hid hp
        have HQ := Lib.hid hq
        clear hp hq
        by_cases hpq : p = q
        · have hv : (p != q) = false := by simp [hpq]
          have E := Lib.hid hpq
          clear hpq
          go_wp2_with fail
          go_quiet (fail)
          go_wp2
          go_roundw
          case rel => exact ⟨k + 1, by omega, by go_num, take_more hx hy hI.out (by rw [HP.out, HQ.out, E.out]), drew_more hdr.out _⟩
          case measure => simp [intOf]; omega
        · have hv : (p != q) = true := by simp [hpq]
          have E := Lib.hid hpq
          clear hpq
          go_wp2_with fail
          go_quiet (fail)
          go_wp2
          go_ret
          refine ⟨ret_bool ?_, drew_more hdr.out _⟩
          symm
          apply decide_eq_false
          intro h
          apply E.out
          rw [← HP.out, ← HQ.out]
          subst h
          rfl
      · go_wp2
        go_ret
        refine ⟨ret_bool ?_, hdr.out⟩
        symm
        apply decide_eq_true
        have hk' : k = xs.length := by omega
        subst hk'
        exact take_all L2.out.symm hI.out
  · have hne : ((n1 : Int) != (n2 : Int)) = true := by simp; omega
    have hne' : ((n1 : Int) == (n2 : Int)) = false := by simp; omega
    have hd : decide (xs = ys) = false := decide_eq_false (fun h => hn (by rw [← l1, ← l2, h]))
    have HD := Lib.hid hd
    clear hd
    go_enter Try.func32, Try.ntmps32
    go_wp2
    go_ret
    exact ⟨ret_bool HD.out.symm, 0, rfl⟩

end Plain
end Go.Proofs.Ythhkngpbaflfiaa

/-
  interlocklaw38.cleaned: clauses in order, each once, by the law.
-/
namespace Go.Proofs.Ythhkngpbaflfiaa
open Go.RowKit Base
set_option linter.unusedVariables false
set_option linter.unusedSimpArgs false
namespace Pre
open RefC (norm always)

theorem infoC : (Try.prog.info? 29).map (fun i => (i.zero, i.size, i.bytes)) = some (some (.slice none 0 0), 1, 24) := by kernel_rfl

/-- Is it among the first k? -/
def tw (x : List Int) (O : List (List Int)) (k : Nat) : Bool := (O.take k).any fun y => decide (y = x)

theorem tw_more {O : List (List Int)} {x : List Int} {k : Nat} (hk : k < O.length) : tw x O (k + 1) = (tw x O k || decide (O[k] = x)) := by
  unfold tw
  rw [List.take_succ_eq_append_getElem hk, List.any_append]
  simp

theorem tw_all {O : List (List Int)} {x : List Int} {k : Nat} (hk : O.length ≤ k) : tw x O k = decide (x ∈ O) := by
  unfold tw
  rw [List.take_of_length_le hk, Bool.eq_iff_iff]
  simp

set_option maxRecDepth 4000 in
set_option maxHeartbeats 8000000 in
theorem lawCleaned_any (w : World) (a : Option Addr) (n c : Nat) (vs : List Value) (cls : List (List Int)) (hsl : Sl2 w a n c vs cls) (hw : ∀ l ∈ cls, Clause.Wf l) (hn : n * 24 ≤ 140737488355328) (hrow : ∀ l ∈ cls, l.length ≤ 1073741824) :
    Calls Try.prog 13 #[.slice a n c] w fun e w' => ∃ a' c' vals, e = .returned (.slice a' (cleaned cls).length c') ∧ Own2 w' w.heap.size 29 3 (.slice a' (cleaned cls).length c') (cleaned cls).length vals (cleaned cls) ∧ Below w.heap.size w w' := by
  have hcap := hsl.sl.cap
  have hbig := hsl.sl.big
  have HS := Lib.hid hsl
  have HL := Lib.hid hsl.len
  have HW := Lib.hid hw
  have HN := Lib.hid hn
  have HR := Lib.hid hrow
  clear hsl hw hn hrow
  go_enter Try.func13, Try.ntmps13
  go_wp2_with fail
  go_loopw [3, 4] (fun v s wr => ∃ i m : Nat, i ≤ n ∧ m ≤ i ∧ s = .int .i64 i ∧ ∃ a' c' vals, v = .slice a' m c' ∧ Hid (Own2 wr w.heap.size 29 3 (.slice a' m c') m vals (cleaned (cls.take i))) ∧ Hid (Below w.heap.size w wr)) (fun _ s _ => n - (intOf s).toNat)
  case atStart => exact ⟨0, 0, Nat.zero_le _, Nat.le_refl _, rfl, none, 0, [], rfl, Own2.nil _ _ _ _, Below.refl _ _⟩
  case round =>
    obtain ⟨i, m, hi, hmi, rfl, a', c', vals, rfl, hown, hbr⟩ := hrel
    by_cases hlt : i < n
    · obtain ⟨b, o, a2, c2, hx, rfl, hbs, hc, hs2, _⟩ := (HS.out).at hlt
      have hcr := (hbr.out.cell (p := ⟨b, o + i, none⟩) hbs).trans hc
      have NM := Lib.hid (RefC.norm_any wr a2 _ c2 cls[i] (hs2.next hbr.out) (HW.out _ (List.getElem_mem hx)) (HR.out _ (List.getElem_mem hx)))
      have HST := Lib.hid (cleaned_more cls i hx)
      unfold step at HST
      clear hc hs2
      generalize norm cls[i] = x at *
      generalize hal : always x = alw at *
      have HAL := Lib.hid hal
      clear hal
      generalize hO : cleaned (cls.take i) = O at *
      have HOL : Hid (O.length = m) := hown.out.len
      clear hO
      go_wp2_with fail
      refine NM.out.mono ?_
      rintro e w3 ⟨a3, c3, rfl, hox, hb3⟩
      rw [HAL.out] at *
      have HO3 := Lib.hid (hown.out.next hb3)
      have HX3 : Hid (w3.ownsRow w.heap.size 3 1 (.slice a3 x.length c3) x.length (ints x)) := own_mono hox hbr.out.size
      have HB3 := Lib.hid (hbr.out.trans (hb3.mono hbr.out.size))
      have hcapO := (HO3.out).sl2'.sl.cap
      have hbigO := (HO3.out).sl2'.sl.big
      clear hox hb3 hown hbr NM
      generalize wr = wq at *
      go_wp2_with fail
      go_loopw [7, 8] (fun t s wr => ∃ k : Nat, k ≤ m ∧ s = .int .i64 k ∧ t = .bool (tw x O k) ∧ Hid (Below w3.heap.size w3 wr)) (fun _ s _ => m - (intOf s).toNat)
      case atStart => exact ⟨0, Nat.zero_le _, rfl, rfl, Below.refl _ _⟩
      case round =>
        obtain ⟨k, hk, rfl, rfl, hbk⟩ := hrel
        by_cases hkm : k < m
        · obtain ⟨b5, o5, a5, c5, hxk, e5, hbs5, hc5, hs5, _⟩ := (HO3.out).sl2'.at hkm
          subst e5
          have hcr5 := (hbk.out.cell (p := ⟨b5, o5 + k, none⟩) hbs5).trans hc5
          have SI := Lib.hid (Plain.sameInts_q wr a5 a3 _ _ c5 c3 O[k] x (hs5.next hbk.out) ((Base.own_ints HX3.out).next hbk.out))
          have HMT := Lib.hid (tw_more (x := x) hxk)
          clear hc5 hs5
          generalize hdt : tw x O k = d at *
          generalize hde : decide (O[k] = x) = f at *
          clear hdt hde
          cases d
          · go_wp2_with fail
            refine SI.out.mono ?_
            rintro e w6 ⟨rfl, q, rfl⟩
            have HB6 := Lib.hid (below_drewN hbk.out q)
            clear hbk
            go_wp2_with fail
            go_roundw
            case rel => exact ⟨k + 1, by omega, by go_num, by rw [HMT.out]; rfl, HB6.out⟩
            case measure => simp [intOf]; omega
          · go_wp2_with fail
            go_roundw
            case rel => exact ⟨k + 1, by omega, by go_num, by rw [HMT.out]; rfl, hbk.out⟩
            case measure => simp [intOf]; omega
        · have hkm2 : k = m := by omega
          rw [tw_all (k := k) (by rw [HOL.out]; omega)]
          have HOr := Lib.hid (HO3.out.next hbk.out)
          have HXr := Lib.hid (own_next HX3.out hbk.out)
          have HBr := Lib.hid (HB3.out.trans (hbk.out.mono HB3.out.size))
          clear hkm2
          by_cases hin : x ∈ O
          · rw [decide_eq_true hin]
            have HE : Hid (cleaned (cls.take (i + 1)) = O) := by show _ = _; rw [HST.out, if_pos (.inr hin)]
            clear hin
            cases alw
            all_goals
              go_wp2_with fail
              go_roundw
              case rel => exact ⟨i + 1, m, by omega, by omega, by go_num, a', c', vals, rfl, by show Own2 _ _ _ _ _ _ _ _; rw [HE.out]; exact HOr.out, HBr.out⟩
              case measure => simp [intOf]; omega
          · rw [decide_eq_false hin]
            cases alw
            · have HE : Hid (cleaned (cls.take (i + 1)) = O ++ [x]) := by show _ = _; rw [HST.out, if_neg (by rintro (h | h); exact absurd h (by simp); exact hin h)]
              clear hin
              have HM3 : Hid ((m + 1) * 24 ≤ 140737488355328) := by have := HN.out; show _ ≤ _; omega
              have hsz : w.heap.size ≤ wr.heap.size := HBr.out.size
              go_wp2_with ((with_reducible refine wpL_pushO (B := w.heap.size) (W := w) wr a3 c3 x x.length rfl _ m vals O infoC Try.underlying22 ?_ ?_ ?_ ?_ HOr.out HXr.out ?_ ?_ ?_ HBr.out ?_); decide; rfl; rfl; rfl; exact hsz; exact HM3.out; (have := HM3.out; omega); (intro a6 c6 w6 hmix6 hb6 hs6))
              go_roundw
              case rel => exact ⟨i + 1, m + 1, by omega, by omega, by go_num, a6, c6, _, rfl, by show Own2 _ _ _ _ _ _ _ _; rw [HE.out]; exact hmix6, hb6⟩
              case measure => simp [intOf]; omega
            · have HE : Hid (cleaned (cls.take (i + 1)) = O) := by show _ = _; rw [HST.out, if_pos (.inl rfl)]
              clear hin
              go_wp2_with fail
              go_roundw
              case rel => exact ⟨i + 1, m, by omega, by omega, by go_num, a', c', vals, rfl, by show Own2 _ _ _ _ _ _ _ _; rw [HE.out]; exact HOr.out, HBr.out⟩
              case measure => simp [intOf]; omega
    · have HTK : Hid (cls.take i = cls) := List.take_of_length_le (by rw [HL.out]; omega)
      have hO := hown.out
      rw [HTK.out] at hO
      have HO := Lib.hid hO
      have hml := hO.len
      clear hO
      go_wp2_with fail
      go_ret
      have h := HO.out
      rw [← hml] at h
      exact ⟨a', c', vals, by rw [hml]; rfl, h, hbr.out⟩

end Pre
end Go.Proofs.Ythhkngpbaflfiaa

/-
  interlocklaw38.few: may a formula's models be gone through?
-/
namespace Go.Proofs.Ythhkngpbaflfiaa
open Go.RowKit Base
set_option linter.unusedVariables false
set_option linter.unusedSimpArgs false
namespace Pre

def few (vars : Int) (cls : List (List Int)) : Bool := decide (vars ≤ 8) && (Formula.check vars cls == 0)

set_option maxHeartbeats 1000000 in
theorem few_any (w : World) (vars : Int) (a : Option Addr) (n c : Nat) (vs : List Value) (cls : List (List Int)) (hsl : Sl2 w a n c vs cls) (hw : Formula.Wf2 cls) :
    Calls Try.prog 20 #[.agg #[.int .i64 vars, .slice a n c]] w fun e w' => e = .returned (.bool (few vars cls)) ∧ Below w.heap.size w w' := by
  obtain ⟨W, hW⟩ : ∃ W, w.alloc (.cells #[.int .i64 vars, .slice a n c] 24) = W := ⟨_, rfl⟩
  have hb : Below w.heap.size w W := by rw [← hW]; exact (Below.refl _ _).alloc (Nat.le_refl _) _
  have k0 : W.cell? ⟨w.heap.size, 0, none⟩ = some (.int .i64 vars) := by rw [← hW]; simp [go_sem]
  have k1 : W.cell? ⟨w.heap.size, 1, none⟩ = some (.slice a n c) := by rw [← hW]; simp [go_sem]
  have HR := Lib.hid (Formula.ref_any W vars a n c vs cls (hsl.next hb) hw)
  have HB := Lib.hid hb
  have HF : Hid (few vars cls = (decide (vars ≤ 8) && (Formula.check vars cls == 0))) := rfl
  clear hsl hw hb
  generalize Formula.check vars cls = q at *
  by_cases h8 : vars ≤ 8
  · have hd : decide (vars ≤ 8) = true := decide_eq_true h8
    rw [hd, Bool.true_and] at HF
    clear hd
    go_enter Try.func20, Try.ntmps20
    go_wp2_with fail
    refine HR.out.mono ?_
    rintro e w1 ⟨rfl, hb1⟩
    go_wp2_with fail
    go_ret
    exact ⟨ret_bool HF.out.symm, HB.out.trans (hb1.mono HB.out.size)⟩
  · have hd : decide (vars ≤ 8) = false := decide_eq_false h8
    rw [hd, Bool.false_and] at HF
    clear hd
    go_enter Try.func20, Try.ntmps20
    go_wp2_with fail
    go_ret
    exact ⟨ret_bool HF.out.symm, HB.out⟩
end Pre
end Go.Proofs.Ythhkngpbaflfiaa

/-
  formula.True: what it gives is what the reference's True gives.
-/
namespace Go.Proofs.Ythhkngpbaflfiaa
open Go.RowKit Base
set_option linter.unusedVariables false
namespace True

theorem byteVal (b : UInt8) : (b.toNat : Int) = ((b.toNat : Nat) : Int) := rfl

set_option maxHeartbeats 400000 in
theorem notBit_any (q : UInt8) (w : World) :
    Calls Try.prog 60 #[.int .u8 (q.toNat : Nat)] w fun e w' => e = .returned (.bool (!CubeP.bit q)) ∧ w = w' := by
  by_cases h0 : q = 48
  · have v0 : ((q.toNat : Int) != 48) = false := by rw [h0]; rfl
    have HB : Hid ((!CubeP.bit q) = false) := by show _ = _; rw [h0]; rfl
    clear h0
    go_enter Try.func60, Try.ntmps60
    go_wp2
    go_ret
    exact ⟨ret_bool HB.out.symm, rfl⟩
  · have v0 : ((q.toNat : Int) != 48) = true := byte_neB q 48 h0
    by_cases h1 : q = 49
    · have v1 : ((q.toNat : Int) != 49) = false := by rw [h1]; rfl
      have HB : Hid ((!CubeP.bit q) = false) := by show _ = _; rw [h1]; rfl
      clear h0 h1
      go_enter Try.func60, Try.ntmps60
      go_wp2
      go_ret
      exact ⟨ret_bool HB.out.symm, rfl⟩
    · have v1 : ((q.toNat : Int) != 49) = true := byte_neB q 49 h1
      have HB : Hid ((!CubeP.bit q) = true) := by show _ = _; unfold CubeP.bit; simp [h0, h1]
      clear h0 h1
      go_enter Try.func60, Try.ntmps60
      go_wp2
      go_ret
      exact ⟨ret_bool HB.out.symm, rfl⟩

theorem gives_bytes {w : World} {g : FuncId} {fs lb : Array Value} {s : ByteArray} {p : UInt8 → Bool}
    (h : ∀ W, Below w.heap.size w W → ∀ q : UInt8, Calls Try.prog g (fs.push (.int .u8 (q.toNat : Nat)) ++ lb) W fun e w' => e = .returned (.bool (p q)) ∧ Below W.heap.size W w') :
    SlfB.Gives w g fs lb (bytesV s) (s.data.toList.map p) := by
  intro W hW k v b hv hb
  unfold bytesV at hv
  rw [List.getElem?_map, Option.map_eq_some_iff] at hv hb
  obtain ⟨q, hq, rfl⟩ := hv
  obtain ⟨q', hq', rfl⟩ := hb
  rw [hq] at hq'
  simp only [Option.some.injEq] at hq'
  subst hq'
  exact h W hW q

set_option maxHeartbeats 400000 in
theorem broken_any (w : World) (s : ByteArray) (hs : s.size ≤ 9223372036854775807) (a : Option Addr) (n c : Nat) (xs : List Int) (hsl : Sl w a n c (ints xs)) (hx : Clause.Wf xs) :
    Calls Try.prog 61 #[.string s, .slice a n c] w fun e w' => e = .returned (.bool (!one s xs)) ∧ Below w.heap.size w w' := by
  have H := Lib.hid (SlfI.containsFunc w a n c (ints xs) 78 #[.string s] #[] (xs.map (CubeP.is s.data.toList)) hsl (by rw [List.length_map]; have := hsl.len; rwa [ints_len] at this)
    (enters_of Try.func78 (by kernel_rfl) rfl)
    (Clause.gives_of fun W hW x hm => (is_any s hs x (hx x hm).1 (hx x hm).2 W).mono fun e w' h => ⟨h.1, h.2 ▸ Below.refl _ _⟩))
  rw [Clause.map_any] at H
  have hmf : ∀ (fn : Fn) (first cap : Array Value) (w : World), (Instr.makeFunc fn first cap).run Try.prog w = .ok (.func fn first cap) w := fun _ _ _ _ => rfl
  have HO : Hid (one s xs = xs.any (CubeP.is s.data.toList)) := rfl
  clear hsl hx hs
  generalize xs.any (CubeP.is s.data.toList) = q at *
  go_enter Try.func61, Try.ntmps61
  go_wp2_with fail
  refine H.out.mono ?_
  rintro e w1 ⟨rfl, hb⟩
  go_wp2_with fail
  go_ret
  exact ⟨ret_bool (by rw [HO.out]), hb⟩

theorem any_not_all {α : Type} (l : List α) (p : α → Bool) : ((l.map fun x => !p x).any id) = !(l.all p) := by
  induction l with
  | nil => rfl
  | cons x r ih => simp only [List.map_cons, List.any_cons, List.all_cons, ih]; cases p x <;> rfl

set_option maxHeartbeats 2000000 in
theorem true_any (w : World) (vars : Int) (a : Option Addr) (n c : Nat) (vs : List Value) (cls : List (List Int)) (hsl : Sl2 w a n c vs cls) (hw : Formula.Wf2 cls) (s : ByteArray) (hs : s.size ≤ 9223372036854775807) :
    Calls Try.prog 39 #[.agg #[.int .i64 vars, .slice a n c], .string s] w fun e w' => e = .returned (.bool (tru vars cls s)) ∧ Below w.heap.size w w' := by
  have hal : Below w.heap.size w (w.alloc (.cells #[.int .i64 vars, .slice a n c] 24)) := (Below.refl _ _).alloc (Nat.le_refl _) _
  have HSL := Lib.hid hsl
  have hc0 : (w.alloc (.cells #[.int .i64 vars, .slice a n c] 24)).cell? ⟨w.heap.size, 0, none⟩ = some (.int .i64 vars) := by simp
  have hc1 : (w.alloc (.cells #[.int .i64 vars, .slice a n c] 24)).cell? ⟨w.heap.size, 1, none⟩ = some (.slice a n c) := by simp
  have hNs : w.heap.size < (w.alloc (.cells #[.int .i64 vars, .slice a n c] 24)).heap.size := by simp
  have HC0 := Lib.hid hc0
  have HC1 := Lib.hid hc1
  have HAL := Lib.hid hal
  have HWF := Lib.hid hw
  have HNS := Lib.hid hNs
  have hmf : ∀ (fn : Fn) (first cap : Array Value) (w : World), (Instr.makeFunc fn first cap).run Try.prog w = .ok (.func fn first cap) w := fun _ _ _ _ => rfl
  clear hc0 hc1 hal hsl hw hNs
  go_enter Try.func39, Try.ntmps39
  go_wp2_with ((with_reducible refine wpL_bytes (s := s) ?_ ?_ Try.underlying9 Try.underlying72 Try.underlying5 ?_); rfl; omega; intro b c1 w1 hsb hb1 hbb)
  generalize w.alloc (.cells #[.int .i64 vars, .slice a n c] 24) = W at *
  have HB := Lib.hid (SlfB.containsFunc w1 _ s.size c1 (bytesV s) 60 #[] #[] (s.data.toList.map fun q => !CubeP.bit q) hsb (by simp)
    (enters_of Try.func60 (by kernel_rfl) rfl) (gives_bytes fun W' hW' q => (notBit_any q W').mono fun e w' h => ⟨h.1, h.2 ▸ Below.refl _ _⟩))
  rw [any_not_all] at HB
  have hbw1 : Below w.heap.size w w1 := HAL.out.trans (hb1.mono HAL.out.size)
  have HBITS : Hid (tru vars cls s = (s.data.toList.all CubeP.bit && (decide ((s.size : Int) = vars) && cls.all (one s)))) := by show _ = _; unfold tru; rw [Bool.and_assoc]
  refine HB.out.mono ?_
  rintro e w2 ⟨rfl, hb2⟩
  have hbw2 : Below w.heap.size w w2 := hbw1.trans (hb2.mono hbw1.size)
  have c0 : w2.cell? ⟨w.heap.size, 0, none⟩ = some (.int .i64 vars) := (hb2.cell (p := ⟨w.heap.size, 0, none⟩) (Nat.lt_of_lt_of_le HNS.out hb1.size)).trans ((hb1.cell (p := ⟨w.heap.size, 0, none⟩) HNS.out).trans HC0.out)
  have c1' : w2.cell? ⟨w.heap.size, 1, none⟩ = some (.slice a n c) := (hb2.cell (p := ⟨w.heap.size, 1, none⟩) (Nat.lt_of_lt_of_le HNS.out hb1.size)).trans ((hb1.cell (p := ⟨w.heap.size, 1, none⟩) HNS.out).trans HC1.out)
  have HR := Lib.hid (SlfR.containsFunc w2 a n c vs 61 #[.string s] #[] (cls.map fun l => !one s l) (HSL.out.next hbw2).sl (by rw [List.length_map]; exact HSL.out.len)
    (enters_of Try.func61 (by kernel_rfl) rfl)
    (Formula.gives_rows (HSL.out.next hbw2) HWF.out fun W' hW' a' n' c' xs hm hs' hx => broken_any W' s hs a' n' c' xs hs' hx))
  rw [any_not_all] at HR
  generalize s.data.toList.all CubeP.bit = q1 at *
  generalize cls.all (one s) = q2 at *
  cases q1
  · go_wp2_with fail
    go_ret
    exact ⟨ret_bool (by rw [HBITS.out]; rfl), hbw2⟩
  · by_cases hv : (s.size : Int) = vars
    · have t1 : ((s.size : Int) == vars) = true := beq_iff_eq.2 hv
      have HV := Lib.hid hv
      clear hv
      go_wp2_with fail
      refine HR.out.mono ?_
      rintro e w3 ⟨rfl, hb3⟩
      go_wp2_with fail
      go_ret
      exact ⟨ret_bool (by rw [HBITS.out, decide_eq_true HV.out]; cases q2 <;> rfl), hbw2.trans (hb3.mono hbw2.size)⟩
    · have t1 : ((s.size : Int) == vars) = false := beq_eq_false_iff_ne.2 hv
      have HV := Lib.hid hv
      clear hv
      go_wp2_with fail
      go_ret
      exact ⟨ret_bool (by rw [HBITS.out, decide_eq_false HV.out]; rfl), hbw2⟩
end True
end Go.Proofs.Ythhkngpbaflfiaa

/-
  interlockref10.Models.
-/
namespace Go.Proofs.Ythhkngpbaflfiaa
open Go.RowKit Base ModelsP
set_option linter.unusedVariables false
set_option linter.unusedSimpArgs false
namespace Models

theorem info_str : (Try.prog.info? 9).map (fun i => (i.zero, i.size, i.bytes)) = some (some (.string ⟨#[]⟩), 1, 16) := by kernel_rfl

def Out (w : World) (L : List ByteArray) (e : Ending) (w' : World) : Prop :=
  ∃ a c, e = .returned (.slice a L.length c) ∧ Sl w' a L.length c (strs L) ∧ Below w.heap.size w w'

/-- The formula's box. -/
structure Box (W : World) (N : Nat) (vars : Int) (a : Option Addr) (n c : Nat) : Prop where
  c0 : W.cell? ⟨N, 0, none⟩ = some (.int .i64 vars)
  c1 : W.cell? ⟨N, 1, none⟩ = some (.slice a n c)
  lt : N < W.heap.size

theorem Box.next {W W' : World} {N : Nat} {vars : Int} {a : Option Addr} {n c : Nat} (h : Box W N vars a n c) (hb : Below W.heap.size W W') : Box W' N vars a n c :=
  ⟨(hb.cell (p := ⟨N, 0, none⟩) h.lt).trans h.c0, (hb.cell (p := ⟨N, 1, none⟩) h.lt).trans h.c1, Nat.lt_of_lt_of_le h.lt hb.size⟩

/-- What is held through the call of True. -/
structure Held (B N : Nat) (wq : World) (V : Int) (a : Option Addr) (n c g q : Nat) (y : ByteArray) (w' : World) : Prop where
  below : Below B wq w'
  c0 : w'.cell? ⟨N, 0, none⟩ = some (.int .i64 V)
  c1 : w'.cell? ⟨N, 1, none⟩ = some (.slice a n c)
  cs : w'.cell? ⟨g, q, none⟩ = some (.string y)

theorem held_in {B N : Nat} {wq : World} {V : Int} {a : Option Addr} {n c g q : Nat} {y : ByteArray} {w' : World} (h : Held B N wq V a n c g q y w' ∧ w'.cell? ⟨N, 0, none⟩ = some (.int .i64 V) ∧ w'.cell? ⟨N, 1, none⟩ = some (.slice a n c) ∧ w'.cell? ⟨g, q, none⟩ = some (.string y)) : Held B N wq V a n c g q y w' := h.1
theorem held_all {B N : Nat} {wq : World} {V : Int} {a : Option Addr} {n c g q : Nat} {y : ByteArray} {w' : World} (h : Held B N wq V a n c g q y w') : Held B N wq V a n c g q y w' ∧ w'.cell? ⟨N, 0, none⟩ = some (.int .i64 V) ∧ w'.cell? ⟨N, 1, none⟩ = some (.slice a n c) ∧ w'.cell? ⟨g, q, none⟩ = some (.string y) := ⟨h, h.c0, h.c1, h.cs⟩
theorem held_first {N : Nat} {wq : World} {V : Int} {a : Option Addr} {n c g q : Nat} {y : ByteArray} (c0 : wq.cell? ⟨N, 0, none⟩ = some (.int .i64 V)) (c1 : wq.cell? ⟨N, 1, none⟩ = some (.slice a n c)) (cs : wq.cell? ⟨g, q, none⟩ = some (.string y)) :
    Held wq.heap.size N wq V a n c g q y wq.drew ∧ wq.drew.cell? ⟨N, 0, none⟩ = some (.int .i64 V) ∧ wq.drew.cell? ⟨N, 1, none⟩ = some (.slice a n c) ∧ wq.drew.cell? ⟨g, q, none⟩ = some (.string y) := held_all ⟨(Below.refl _ _).drew, c0, c1, cs⟩

theorem drew_more {w wr : World} (h : ∃ m, wr = w.drewN m) (k : Nat) : ∃ m, wr.drewN k = w.drewN m := by
  obtain ⟨m, rfl⟩ := h
  exact ⟨m + k, World.drewN_drewN _ _ _⟩

theorem holds_eq (V : Int) (cls : List (List Int)) (l : List Int) (y : ByteArray) : (True.tru V cls y && (l.take l.length).all (CubeP.is y.data.toList)) = holds V cls l y := by rw [List.take_length]; rfl

theorem all_more {T : Bool} {l : List Int} {p : Int → Bool} {j : Nat} (hj : j < l.length) : (T && (l.take (j + 1)).all p) = ((T && (l.take j).all p) && p l[j]) := by
  rw [List.take_succ_eq_append_getElem hj, List.all_append]; simp [Bool.and_assoc]

set_option maxRecDepth 4000 in
set_option maxHeartbeats 8000000 in
theorem models_any (w : World) (V : Nat) (hV : V ≤ 16) (a : Option Addr) (n c : Nat) (vs : List Value) (cls : List (List Int)) (hsl : Sl2 w a n c vs cls) (hw : Formula.Wf2 cls)
    (a1 : Option Addr) (n1 c1 : Nat) (l : List Int) (hl : Sl w a1 n1 c1 (ints l)) (hlw : Clause.Wf l) :
    Calls Try.prog 21 #[.agg #[.int .i64 V, .slice a n c], .slice a1 n1 c1] w (Out w (models V cls l)) := by
  have hal : Below w.heap.size w (w.alloc (.cells #[.int .i64 V, .slice a n c] 24)) := (Below.refl _ _).alloc (Nat.le_refl _) _
  have hbox : Box (w.alloc (.cells #[.int .i64 V, .slice a n c] 24)) w.heap.size V a n c := ⟨by simp, by simp, by simp⟩
  have HBOX := Lib.hid hbox
  have HSL := Lib.hid (hsl.next hal)
  have HSL1 := Lib.hid (hl.next hal)
  have HAL := Lib.hid hal
  have HL1 : Hid (l.length = n1) := by have := hl.len; rwa [ints_len] at this
  have HWF := Lib.hid hw
  have HLW := Lib.hid hlw
  have hcap1 := hl.cap
  have hbig1 := hl.big
  have hz0 : (w.alloc (.cells #[.int .i64 V, .slice a n c] 24)).heap.size = w.heap.size + 1 := by simp
  have HZ0 := Lib.hid hz0
  have hown0 : Hid (((w.alloc (.cells #[.int .i64 V, .slice a n c] 24)).alloc (.cells #[.string ⟨#[]⟩] 9)).ownsRow (w.heap.size + 1) 9 1 (.slice (some ⟨w.heap.size + 1, 0, none⟩) 1 1) 1 (strs (allS 0))) := by
    have h := World.ownsRow_lit (base := w.heap.size + 1) (e := 9) (size := 1) (w.alloc (.cells #[.int .i64 V, .slice a n c] 24)) #[.string ⟨#[]⟩] 1 (by simp) (by unfold maxLen; omega) (by simp)
    rw [hz0] at h
    exact h
  clear hal hbox hsl hl hw hlw hz0
  go_enter Try.func21, Try.ntmps21
  go_wp2_with fail
  generalize w.alloc (.cells #[.int .i64 V, .slice a n c] 24) = W at *
  have HBW : Hid (Below (w.heap.size + 1) W (W.alloc (.cells #[.string ⟨#[]⟩] 9))) := (Below.refl _ _).alloc (by rw [HZ0.out]; exact Nat.le_refl _) _
  generalize W.alloc (.cells #[.string ⟨#[]⟩] 9) = W2 at *
  go_loopw [5, 6] (fun s i wr => ∃ (k m : Nat), k ≤ V ∧ i = .int .i64 k ∧ Hid ((allS k).length = m) ∧ m ≤ 65536 ∧ (∃ a' c', s = .slice a' m c' ∧ wr.ownsRow (w.heap.size + 1) 9 1 (.slice a' m c') m (strs (allS k))) ∧ Below (w.heap.size + 1) W wr) (fun _ i _ => V - (intOf i).toNat)
  case atStart => exact ⟨0, 1, Nat.zero_le _, rfl, rfl, by omega, ⟨_, 1, rfl, hown0.out⟩, HBW.out⟩
  case round =>
    obtain ⟨k, m, hk, rfl, hM, hm, ⟨a', c', rfl, hown⟩, hbr⟩ := hrel
    obtain ⟨a9, c9, e9, hs9⟩ := own_sl hown
    simp only [Value.slice.injEq] at e9
    obtain ⟨rfl, _, rfl⟩ := e9
    have hcap' := hs9.cap
    have hbig' := hs9.big
    have HS := Lib.hid hs9
    have HO := Lib.hid hown
    clear hs9 hown
    have hbrW : Below W.heap.size W wr := by rw [HZ0.out]; exact hbr
    have c0 := (HBOX.out.next hbrW).c0
    have hbase : w.heap.size + 1 ≤ wr.heap.size := by have := hbr.size; have := HZ0.out; omega
    by_cases hlt : k < V
    · have hm2 : m ≤ 32768 := by
        have h := hM.out
        rw [allS_len] at h
        have h2 : 2 ^ k ≤ 2 ^ 15 := Nat.pow_le_pow_right (by decide) (by omega)
        omega
      go_wp2_with fail
      generalize wr = wo at *
      go_loopw [7, 8] (fun s i wq => ∃ (j : Nat), j ≤ m ∧ i = .int .i64 j ∧ (∃ a2 c2, s = .slice a2 (2 * j) c2 ∧ wq.ownsRow wo.heap.size 9 1 (.slice a2 (2 * j) c2) (2 * j) (strs (((allS k).take j).flatMap two))) ∧ Below wo.heap.size wo wq) (fun _ i _ => m - (intOf i).toNat)
      case atStart => exact ⟨0, Nat.zero_le _, rfl, ⟨none, 0, rfl, World.ownsRow_nil _ _ _ _⟩, Below.refl _ _⟩
      case round =>
        obtain ⟨j, hj, rfl, ⟨a2, c2, rfl, hown2⟩, hbq⟩ := hrel
        have HO2 := Lib.hid hown2
        clear hown2
        have hbase2 : wo.heap.size ≤ wr.heap.size := hbq.size
        by_cases hjm : j < m
        · obtain ⟨g, q, hy, rfl, hgs, hcy⟩ := str_at (HS.out.next hbq) hjm
          have HT := Lib.hid (take_two (allS k) j hy)
          have hys : (allS k)[j].size ≤ 16 := by rw [allS_size k _ (List.getElem_mem hy)]; omega
          generalize (allS k)[j] = y at *
          have hys2 : ¬ 9223372036854775807 < y.size + 1 := by omega
          go_wp2_with fail
          go_region_law (first | (refine step_lit (by rfl) (by rfl) wo.heap.size _ #[.string (y ++ b0), .string (y ++ b1)] 2 (.slice a2 (2 * j) c2) (2 * j) (strs (((allS k).take j).flatMap two)) info_str Try.underlying38 (by rfl) (by rfl) (by omega) (by rfl) (by rfl) (by rfl) (by intro u hu; simp at hu; rcases hu with rfl | rfl <;> rfl) HO2.out.drew (by exact hbase2) (by omega) (by omega) hbq.drew ?_; intro a3 c3 w3 hown3 hb3 hz3) | fail)
          all_goals
            go_wp2_with fail
            go_roundw
            case rel =>
              refine ⟨j + 1, by omega, by go_num, ⟨a3, c3, by congr 1, ?_⟩, hb3⟩
              rw [HT.out, strs_app]
              exact hown3
            case measure => simp [intOf]; omega
        · have hjm' : j = m := by omega
          have HF : Hid (((allS k).take j).flatMap two = allS (k + 1)) := by
            show _ = _
            rw [hjm', ← hM.out, List.take_length]; rfl
          have HM2 : Hid ((allS (k + 1)).length = 2 * j) := by
            show _ = _
            rw [allS, two_len, hM.out, hjm']
          clear hjm'
          go_wp2_with fail
          go_roundw
          case rel =>
            refine ⟨k + 1, 2 * j, by omega, by go_num, HM2, by omega, ⟨a2, c2, rfl, ?_⟩, hbr.trans (hbq.mono hbase)⟩
            rw [← HF.out]
            exact own_mono HO2.out hbase
          case measure => simp [intOf]; omega
    · have hkV : k = V := by omega
      have HMV : Hid ((allS V).length = m) := by rw [← hkV]; exact hM
      have HSV : Hid (Sl wr a' m c' (strs (allS V))) := by rw [← hkV]; exact HS
      have hkn : ¬ ((k : Int) < V) := by omega
      clear hkV hlt hk
      go_wp2_with fail
      generalize wr = wo at *
      have HBX := Lib.hid (HBOX.out.next hbrW)
      go_loopw [9, 10] (fun s i wr => ∃ (k m2 : Nat), k ≤ m ∧ i = .int .i64 k ∧ Hid ((((allS V).take k).filter (holds V cls l)).length = m2) ∧ m2 ≤ k ∧ (∃ a2 c2, s = .slice a2 m2 c2 ∧ wr.ownsRow wo.heap.size 9 1 (.slice a2 m2 c2) m2 (strs (((allS V).take k).filter (holds V cls l)))) ∧ Below wo.heap.size wo wr) (fun _ i _ => m - (intOf i).toNat)
      case atStart => exact ⟨0, 0, Nat.zero_le _, rfl, rfl, Nat.le_refl _, ⟨none, 0, rfl, World.ownsRow_nil _ _ _ _⟩, Below.refl _ _⟩
      case round =>
        obtain ⟨k, m2, hk, rfl, hM2, hmk, ⟨a2, c2, rfl, hown2⟩, hbq⟩ := hrel
        have HO2 := Lib.hid hown2
        clear hown2
        have hbase2 : wo.heap.size ≤ wr.heap.size := hbq.size
        by_cases hlt : k < m
        · obtain ⟨g, q, hy, rfl, hgs, hcy0⟩ := str_at HSV.out hlt
          have hcy : wr.cell? ⟨g, q + k, none⟩ = some (.string (allS V)[k]) := (hbq.cell (p := ⟨g, q + k, none⟩) hgs).trans hcy0
          have hbx := HBX.out.next hbq
          have d0 := hbx.c0
          have d1 := hbx.c1
          have hbWr : Below W.heap.size W wr := hbrW.trans (hbq.mono hbrW.size)
          have HTF := Lib.hid (take_filter (allS V) (holds V cls l) k hy)
          have hys : (allS V)[k].size ≤ 16 := by rw [allS_size V _ (List.getElem_mem hy)]; omega
          generalize (allS V)[k] = y at *
          have HTR := Lib.hid (fun (U : World) (hU : Held wr.heap.size w.heap.size wr V a n c g (q + k) y U) => (True.refTrue_any U V a n c vs cls ((HSL.out.next hbWr).next hU.below) HWF.out y (by omega)).mono (fun e w' h => (⟨h.1, ⟨hU.below.trans (h.2.mono hU.below.size), (h.2.cell (p := ⟨w.heap.size, 0, none⟩) (Nat.lt_of_lt_of_le hbx.lt hU.below.size)).trans hU.c0, (h.2.cell (p := ⟨w.heap.size, 1, none⟩) (Nat.lt_of_lt_of_le hbx.lt hU.below.size)).trans hU.c1, (h.2.cell (p := ⟨g, q + k, none⟩) (Nat.lt_of_lt_of_le (Nat.lt_of_lt_of_le hgs hbase2) hU.below.size)).trans hU.cs⟩⟩ : e = .returned (.bool (True.tru V cls y)) ∧ Held wr.heap.size w.heap.size wr V a n c g (q + k) y w')))
          have HH := Lib.hid (holds_eq V cls l y)
          generalize True.tru V cls y = T at *
          generalize holds V cls l y = hh at *
          clear hbx
          go_upto_region 15 with fail
          go_cut [11] (fun s11 wx => s11 = .bool T ∧ Below wr.heap.size wr wx)
          case first =>
            go_region_held3 (fun w' => Held wr.heap.size w.heap.size wr V a n c g (q + k) y w' ∧ w'.cell? ⟨w.heap.size, 0, none⟩ = some (.int .i64 V) ∧ w'.cell? ⟨w.heap.size, 1, none⟩ = some (.slice a n c) ∧ w'.cell? ⟨g, q + k, none⟩ = some (.string y)) (first | exact held_all (by assumption) | exact held_first d0 d1 hcy)
              (first | (go_at_call 25; refine (HTR.out _ (held_in (by assumption))).mono ?_; rintro e w' ⟨rfl, hS'⟩) | fail)
            all_goals (go_wp2_with fail; go_meet; exact ⟨rfl, (held_in (by assumption)).below⟩)
          case rest =>
            obtain ⟨rfl, hbc⟩ := hcut
            clear HTR d0 d1 hcy
            have hlc : wo.heap.size ≤ wc.heap.size := Nat.le_trans hbase2 hbc.size
            have hbqc : Below wo.heap.size wo wc := hbq.trans (hbc.mono hbase2)
            have HOc := Lib.hid (own_next HO2.out hbc)
            go_wp2_with fail
            generalize wr = wp at *
            go_loopw [11, 12] (fun s i wr => ∃ (j : Nat), j ≤ n1 ∧ i = .int .i64 j ∧ (∃ b, s = .bool b ∧ Hid (b = (T && (l.take j).all (CubeP.is y.data.toList)))) ∧ Hid (∃ z, wr = wc.drewN z)) (fun _ i _ => n1 - (intOf i).toNat)
            case atStart => exact ⟨0, Nat.zero_le _, rfl, ⟨T, rfl, by show _ = _; simp⟩, 0, rfl⟩
            case round =>
              obtain ⟨j, hj, rfl, ⟨b, rfl, hB⟩, hdr⟩ := hrel
              have hbcr : Below wc.heap.size wc wr := by obtain ⟨z, rfl⟩ := hdr.out; exact below_drewN (Below.refl _ _) z
              have hbor : Below wo.heap.size wo wr := hbqc.trans (hbcr.mono hlc)
              have hcy := (hbor.cell (p := ⟨g, q + k, none⟩) hgs).trans hcy0
              by_cases hjn : j < n1
              · have hbWr2 : Below W.heap.size W wr := hbrW.trans (hbor.mono hbrW.size)
                obtain ⟨g1, q1, hx1, rfl, hgs1, hcl⟩ := (HSL1.out.next hbWr2).int hjn
                have HIS := Lib.hid (fun (U : World) => True.refIs_any y (by omega) l[j] (HLW.out _ (List.getElem_mem hx1)).1 (HLW.out _ (List.getElem_mem hx1)).2 U)
                have HAM := Lib.hid (all_more (T := T) (p := CubeP.is y.data.toList) hx1)
                rw [← hB.out] at HAM
                generalize l[j] = x at *
                generalize CubeP.is y.data.toList x = bi at *
                cases b
                · have HAM' : Hid (false = (T && (l.take (j + 1)).all (CubeP.is y.data.toList))) := by show _ = _; rw [HAM.out]; rfl
                  go_wp2_with fail
                  go_quiet (fail)
                  go_wp2_with fail
                  go_roundw
                  case rel => exact ⟨j + 1, by omega, by go_num, ⟨_, rfl, HAM'⟩, drew_more hdr.out _⟩
                  case measure => simp [intOf]; omega
                · have HAM' : Hid (bi = (T && (l.take (j + 1)).all (CubeP.is y.data.toList))) := by show _ = _; rw [HAM.out]; rfl
                  go_wp2_with fail
                  go_quiet ((go_at_call 34; exact Calls.quiet_of_same ((HIS.out _).mono fun e w' h => ⟨h.1, h.2.symm⟩)))
                  go_wp2_with fail
                  go_roundw
                  case rel => exact ⟨j + 1, by omega, by go_num, ⟨_, rfl, HAM'⟩, drew_more hdr.out _⟩
                  case measure => simp [intOf]; omega
              · have HBH : Hid (b = hh) := by
                  show _ = _
                  rw [hB.out, ← HH.out, List.take_of_length_le (by have := HL1.out; omega), List.take_of_length_le (Nat.le_refl _)]
                cases b
                · have HF : Hid (((allS V).take (k + 1)).filter (holds V cls l) = ((allS V).take k).filter (holds V cls l)) := by
                    show _ = _; rw [HTF.out, ← HBH.out]; simp
                  go_wp2_with fail
                  go_roundw
                  case rel =>
                    refine ⟨k + 1, m2, by omega, by go_num, ?_, by omega, ⟨a2, c2, rfl, ?_⟩, hbor⟩
                    · show _ = _; rw [HF.out, hM2.out]
                    · rw [HF.out]; exact own_next HOc.out hbcr
                  case measure => simp [intOf]; omega
                · have HF : Hid (((allS V).take (k + 1)).filter (holds V cls l) = ((allS V).take k).filter (holds V cls l) ++ [y]) := by
                    show _ = _; rw [HTF.out, ← HBH.out]; simp
                  have HOr := Lib.hid (own_next HOc.out hbcr)
                  go_wp2_with ((with_reducible refine wpL_push (B := wo.heap.size) (W := wo) wr (.string y) _ m2 (strs (((allS V).take k).filter (holds V cls l))) info_str Try.underlying38 ?_ ?_ ?_ ?_ ?_ HOr.out ?_ ?_ ?_ hbor ?_); rfl; rfl; rfl; rfl; rfl; (exact hbor.size); omega; omega; (intro a3 c3 w3 hown3 hb3 hsz3))
                  go_roundw
                  case rel =>
                    refine ⟨k + 1, m2 + 1, by omega, by go_num, ?_, by omega, ⟨a3, c3, rfl, ?_⟩, hb3⟩
                    · show _ = _; rw [HF.out, List.length_append, hM2.out]; rfl
                    · rw [HF.out, strs_app]; exact hown3
                  case measure => simp [intOf]; omega
        · have HF : Hid (((allS V).take k).filter (holds V cls l) = models V cls l) := by
            show _ = _
            rw [List.take_of_length_le (by have := HMV.out; omega)]
            unfold models
            rw [Int.toNat_natCast]
          have hM3 := hM2.out
          rw [HF.out] at HO2 hM3
          obtain ⟨a9, c9, e9, hs9⟩ := own_sl HO2.out
          simp only [Value.slice.injEq] at e9
          obtain ⟨rfl, _, rfl⟩ := e9
          have HS9 := Lib.hid hs9
          have HM3 := Lib.hid hM3
          clear hs9 hM3
          go_wp2_with fail
          go_ret
          refine ⟨a2, c2, by rw [HM3.out]; rfl, by rw [HM3.out]; exact HS9.out, HAL.out.trans ((hbrW.trans (hbq.mono hbrW.size)).mono HAL.out.size)⟩
end Models
end Go.Proofs.Ythhkngpbaflfiaa

/-
  formula.Brute: the least model of few variables.
-/
namespace Go.Proofs.Ythhkngpbaflfiaa
open Go.RowKit Base ModelsP BruteP
set_option linter.unusedVariables false
set_option linter.unusedSimpArgs false
namespace Brute

theorem bits_any (N V : Nat) (hN : N ≤ 1073741824) (hV : V ≤ 1073741824) (w : World) :
    Calls Try.prog 38 #[.int .i64 N, .int .i64 V] w fun e w' => e = .returned (.string ⟨(digits V N).toArray⟩) ∧ Below w.heap.size w w' := by
  have h := (callsIn_wide (n := 3)).1 (Back.bits_in Fence.wide 3 trivial trivial trivial rfl (by omega) N V hN hV w)
  rw [st_all] at h
  exact h

/-- What Brute comes to. -/
def spec (vars : Int) (cls : List (List Int)) : ByteArray × Bool × Int :=
  if Formula.check vars cls = 0 then
    if 14 < vars then (⟨#[]⟩, false, 5)
    else match found vars cls with
      | some s => (s, true, 0)
      | none => (⟨#[]⟩, false, 0)
  else (⟨#[]⟩, false, 9)

def Out (w : World) (s : ByteArray × Bool × Int) (e : Ending) (w' : World) : Prop := e = .returned (.tuple #[.string s.1, .bool s.2.1, .int .i64 s.2.2]) ∧ Below w.heap.size w w'

set_option maxRecDepth 4000 in
set_option maxHeartbeats 4000000 in
theorem any (w : World) (vars : Int) (a : Option Addr) (n c : Nat) (vs : List Value) (cls : List (List Int)) (hsl : Sl2 w a n c vs cls) (hw : Formula.Wf2 cls) :
    Calls Try.prog 24 #[.agg #[.int .i64 vars, .slice a n c]] w (Out w (spec vars cls)) := by
  have hal : Below w.heap.size w (w.alloc (.cells #[.int .i64 vars, .slice a n c] 24)) := (Below.refl _ _).alloc (Nat.le_refl _) _
  have hbox : Models.Box (w.alloc (.cells #[.int .i64 vars, .slice a n c] 24)) w.heap.size vars a n c := ⟨by simp, by simp, by simp⟩
  have HBOX := Lib.hid hbox
  have HSL := Lib.hid (hsl.next hal)
  have HAL := Lib.hid hal
  have HWF := Lib.hid hw
  clear hal hbox hsl hw
  go_enter Try.func24, Try.ntmps24
  go_wp2_with fail
  generalize w.alloc (.cells #[.int .i64 vars, .slice a n c] 24) = W at *
  have c0 := HBOX.out.c0
  have k1 := HBOX.out.c1
  refine (Formula.check_any W vars a n c vs cls HSL.out HWF.out).mono ?_
  rintro e w1 ⟨rfl, hb1⟩
  have hx1 := HBOX.out.next hb1
  have HEND1 : Hid (Below w.heap.size w w1) := HAL.out.trans (hb1.mono HAL.out.size)
  clear c0 k1
  have c0 := hx1.c0
  have k1 := hx1.c1
  by_cases hc : Formula.check vars cls = 0
  · have t1 : (Formula.check vars cls != 0) = false := by rw [bne, beq_iff_eq.2 hc]; rfl
    have hv : 0 ≤ vars ∧ vars ≤ 262144 := by
      have h := hc
      unfold Formula.check at h
      split at h
      · omega
      · rename_i hb
        unfold Formula.bad at hb
        simp only [Bool.not_eq_true, Bool.or_eq_false_iff, decide_eq_false_iff_not] at hb
        omega
    have HSP : Hid (spec vars cls = ((if 14 < vars then (⟨#[]⟩, false, 5) else match found vars cls with | some s => (s, true, 0) | none => (⟨#[]⟩, false, 0)) : ByteArray × Bool × Int)) := if_pos hc
    have HC := Lib.hid hc
    clear hc
    generalize hq : Formula.check vars cls = q at *
    have HQ := Lib.hid hq
    clear hq
    obtain ⟨V, rfl⟩ : ∃ V : Nat, vars = V := ⟨vars.toNat, by omega⟩
    by_cases h14 : (14 : Int) < V
    · have HS2 := Lib.hid (HSP.out.trans (if_pos h14))
      go_wp2_with fail
      exact bodyPost_ret (v := .tuple #[.string ⟨#[]⟩, .bool false, .int .i64 5]) (by simp [results, Try.results24, go_sem]) rfl ⟨by rw [HS2.out], HEND1.out⟩
    · have hV14 : V ≤ 14 := by omega
      have HS2 := Lib.hid (HSP.out.trans (if_neg h14))
      have HPOW : Hid ((2 : Nat) ^ V ≤ 16384) := by show _ ≤ _; exact Nat.le_trans (Nat.pow_le_pow_right (by decide) hV14) (by decide)
      clear hv HSP
      go_wp2_with fail
      obtain ⟨P, hP⟩ : ∃ P : Nat, P = 2 ^ V := ⟨_, rfl⟩
      have hPb : P ≤ 16384 := by rw [hP]; exact HPOW.out
      have hwr : wrap64 ((2 : Int) ^ V) = (P : Int) := by
        have e : ((2 : Int) ^ V) = ((2 ^ V : Nat) : Int) := by simp
        rw [e, ← hP]
        unfold wrap64
        omega
      rw [hwr]
      have HP := Lib.hid hP
      have HX1 := Lib.hid hx1
      clear hwr hP c0 k1 hx1
      go_loopw [19] (fun i wr => ∃ k : Nat, k ≤ P ∧ i = .int .i64 k ∧ Hid (∀ t ∈ (allS V).take k, True.tru V cls t = false) ∧ Below w1.heap.size w1 wr) (fun i _ => P - (intOf i).toNat)
      case atStart => exact ⟨0, Nat.zero_le _, rfl, by intro t ht; simp at ht, Below.refl _ _⟩
      case round =>
        obtain ⟨k, hk, rfl, hI, hbr⟩ := hrel
        have hx := HX1.out.next hbr
        have c0 := hx.c0
        by_cases hlt : k < P
        · have hget := allS_get V k (by rw [← HP.out]; exact hlt)
          have HGET := Lib.hid hget
          have HBI := Lib.hid (bits_any k V (by omega) (by omega) wr)
          have hsz : (⟨(digits V k).toArray⟩ : ByteArray).size ≤ 14 := by
            have : (⟨(digits V k).toArray⟩ : ByteArray).size = (digits V k).length := by simp [ByteArray.size]
            rw [this, digits_len]; omega
          clear hget
          generalize (⟨(digits V k).toArray⟩ : ByteArray) = y at *
          go_wp2_with fail
          refine HBI.out.mono ?_; rintro e w2 ⟨rfl, hb2⟩
          have hx2 := hx.next hb2
          clear c0
          have c0 := hx2.c0
          have k1 := hx2.c1
          have hbW2 : Below W.heap.size W w2 := (hb1.trans (hbr.mono hb1.size)).trans (hb2.mono (Nat.le_trans hb1.size hbr.size))
          have HTR := Lib.hid (True.true_any w2 V a n c vs cls (HSL.out.next hbW2) HWF.out y (by omega))
          have hb12 : Below w1.heap.size w1 w2 := hbr.trans (hb2.mono hbr.size)
          cases hT : True.tru V cls y
          · rw [hT] at HTR
            have HI2 : Hid (∀ t ∈ (allS V).take (k + 1), True.tru V cls t = false) := by
              intro t ht
              rw [List.take_add_one, List.mem_append] at ht
              rcases ht with h | h
              · exact hI.out t h
              · rw [HGET.out] at h
                simp at h
                rw [h]; exact hT
            clear hT
            go_wp2_with fail
            refine HTR.out.mono ?_; rintro e w3 ⟨rfl, hb3⟩
            go_wp2_with fail
            go_roundw
            case rel => exact ⟨k + 1, by omega, by go_num, HI2, hb12.trans (hb3.mono hb12.size)⟩
            case measure => simp [intOf]; omega
          · rw [hT] at HTR
            have HF : Hid (spec V cls = (y, true, 0)) := by
              show _ = _
              rw [HS2.out, found_here (s := y) (k := k) (by rw [Int.toNat_natCast]; exact HGET.out) (by rw [Int.toNat_natCast]; exact hI.out) hT]
            clear hT
            go_wp2_with fail
            refine HTR.out.mono ?_; rintro e w3 ⟨rfl, hb3⟩
            go_wp2_with fail
            exact bodyPost_ret (v := .tuple #[.string y, .bool true, .int .i64 0]) (by simp [results, Try.results24, go_sem]) rfl ⟨by rw [HF.out], HEND1.out.trans ((hb12.trans (hb3.mono hb12.size)).mono HEND1.out.size)⟩
        · have HF : Hid (spec V cls = (⟨#[]⟩, false, 0)) := by
            show _ = _
            have h := hI.out
            rw [List.take_of_length_le (by rw [allS_len, ← HP.out]; omega)] at h
            rw [HS2.out, found_none (by rw [Int.toNat_natCast]; exact h)]
          go_wp2_with fail
          exact bodyPost_ret (v := .tuple #[.string ⟨#[]⟩, .bool false, .int .i64 0]) (by simp [results, Try.results24, go_sem]) rfl ⟨by rw [HF.out], HEND1.out.trans (hbr.mono HEND1.out.size)⟩
  · have HQ : Hid (Formula.check vars cls = 9) := by
      show _ = _
      have h := hc
      unfold Formula.check at h ⊢
      split at h
      · rename_i hb; rw [if_pos hb]
      · exact absurd rfl h
    have HS : Hid (spec vars cls = (⟨#[]⟩, false, 9)) := if_neg hc
    rw [HQ.out]
    clear hc
    go_wp2_with fail
    exact bodyPost_ret (v := .tuple #[.string ⟨#[]⟩, .bool false, .int .i64 9]) (by simp [results, Try.results24, go_sem]) rfl ⟨by rw [HS.out], HEND1.out⟩
end Brute
end Go.Proofs.Ythhkngpbaflfiaa

/-
  interlocklaw38.PreprocEliminates: the walk: without a variable a formula has just the models, but for that variable, that it had with it; no clause has it, and there are no more than may be.
-/
namespace Go.Proofs.Ythhkngpbaflfiaa.preprocEliminates
open Go.RowKit Base
set_option linter.unusedVariables false
set_option linter.unusedSimpArgs false
open Pre BoxF

theorem spec_cases {u v most : Int} {cls : List (List Int)} (h : Formula.check u cls = 0) :
    ((v < 1 ∨ u < v ∨ most < 0) ∧ Elim.spec u v most cls = (0, [], false, 4)) ∨
    (1 ≤ v ∧ v ≤ u ∧ 0 ≤ most ∧ (Elim.spec u v most cls = (u, cleaned cls, false, 0) ∨ Elim.spec u v most cls = (0, [], false, 5) ∨
      (Elim.spec u v most cls = (u, Elim.elim (cleaned cls) v, true, 0) ∧ ((Elim.elim (cleaned cls) v).length : Int) - ((cleaned cls).length : Int) ≤ most ∧ ((Elim.elim (cleaned cls) v).any fun x => decide (1024 < x.length)) = false))) := by
  unfold Elim.spec
  rw [if_pos h]
  by_cases hb : v < 1 ∨ u < v ∨ most < 0
  · rw [if_pos hb]; exact .inl ⟨hb, rfl⟩
  · rw [if_neg hb]
    refine .inr ⟨by omega, by omega, by omega, ?_⟩
    by_cases hl : (((Elim.elim (cleaned cls) v).length : Nat) : Int) ≤ ((cleaned cls).length : Int) + min most 1048576
    · rw [if_pos hl]
      cases ha : (Elim.elim (cleaned cls) v).any fun x => decide (1024 < x.length)
      · rw [if_neg (by decide)]
        exact .inr (.inr ⟨rfl, by omega, rfl⟩)
      · rw [if_pos rfl]
        exact .inr (.inl rfl)
    · rw [if_neg hl]
      exact .inl rfl

theorem few_facts {nv : Nat} {x0 : List (List Int)} (h0 : Formula.check nv x0 = 0) (hw : Formula.Wf2 x0) (h8 : nv ≤ 8) {v : Int} (hv1 : 1 ≤ v) (hv2 : v ≤ nv) (hlong : ((Elim.elim (cleaned x0) v).any fun x => decide (1024 < x.length)) = false) :
    ∃ (xs ys : ByteArray) (isf b : Bool) (ef eg : Int), Brute.spec nv x0 = (xs, isf, ef) ∧ Brute.spec nv (Elim.elim (cleaned x0) v) = (ys, b, eg) ∧
      decide (0 < (ModelsP.models nv x0 []).length) = b ∧ decide (0 < (ModelsP.models nv (Elim.elim (cleaned x0) v) []).length) = b ∧
      (b = true → True.tru nv (Elim.elim (cleaned x0) v) xs = true ∧ ys.size = nv) ∧ xs.size ≤ 9223372036854775807 := by
  have hr := inR_of h0
  have e : (nv : Int).toNat = nv := by omega
  rw [e] at hr
  have hc := Elim.check_elim h0 hw h8 hv1 hlong
  have hi := Elim.some_elim hw hr hv1 hv2
  have f1 := Elim.found_iff (V := nv) (cls := x0)
  have f2 := Elim.found_iff (V := nv) (cls := Elim.elim (cleaned x0) v)
  have hd : decide (0 < (ModelsP.models nv x0 []).length) = decide (0 < (ModelsP.models nv (Elim.elim (cleaned x0) v) []).length) := by
    rw [Bool.eq_iff_iff, decide_eq_true_eq, decide_eq_true_eq]; exact hi.symm
  have s1 : Brute.spec nv x0 = (match BruteP.found nv x0 with | some s => (s, true, 0) | none => (⟨#[]⟩, false, 0)) := by
    unfold Brute.spec; rw [if_pos h0, if_neg (by omega)]; all_goals rfl
  have s2 : Brute.spec nv (Elim.elim (cleaned x0) v) = (match BruteP.found nv (Elim.elim (cleaned x0) v) with | some s => (s, true, 0) | none => (⟨#[]⟩, false, 0)) := by
    unfold Brute.spec; rw [if_pos hc, if_neg (by omega)]; all_goals rfl
  cases hg : BruteP.found nv (Elim.elim (cleaned x0) v) with
  | none =>
    rw [hg] at f2 s2
    have f2' : false = decide (0 < (ModelsP.models nv (Elim.elim (cleaned x0) v) []).length) := f2
    cases hf : BruteP.found nv x0 with
    | none =>
      rw [hf] at s1
      exact ⟨_, _, _, _, _, _, s1, s2, hd.trans f2'.symm, f2'.symm, (fun h => by cases h), by decide⟩
    | some s =>
      rw [hf] at f1
      have f1' : true = decide (0 < (ModelsP.models nv x0 []).length) := f1
      rw [← f1', ← f2'] at hd
      cases hd
  | some y =>
    rw [hg] at f2 s2
    have f2' : true = decide (0 < (ModelsP.models nv (Elim.elim (cleaned x0) v) []).length) := f2
    cases hf : BruteP.found nv x0 with
    | none =>
      rw [hf] at f1
      have f1' : false = decide (0 < (ModelsP.models nv x0 []).length) := f1
      rw [← f1', ← f2'] at hd
      cases hd
    | some s =>
      rw [hf] at s1
      have ht := BruteP.found_true hf
      have hty := BruteP.found_true hg
      have hz := (Elim.tru_iff.1 ht).2.1
      exact ⟨_, _, _, _, _, _, s1, s2, hd.trans f2'.symm, f2'.symm, fun _ => ⟨Elim.tru_elim hw hr hv1 ht, (Elim.tru_iff.1 hty).2.1⟩, by rw [hz]; omega⟩

set_option maxRecDepth 10000 in
set_option maxHeartbeats 16000000 in
theorem walk (u0 : Int) (l0 : -9223372036854775808 ≤ u0) (g0 : u0 ≤ 9223372036854775807) (a0 : Option Addr) (c0 : Nat) (x0 : List (List Int)) (y0 : List Value) {w : World} (s0 : Sl2 w a0 x0.length c0 y0 x0) (w0 : Formula.Wf2 x0)
    (a1 : Int) (w1 : -9223372036854775808 ≤ a1 ∧ a1 ≤ 9223372036854775807) (a2 : Int) (w2 : -9223372036854775808 ≤ a2 ∧ a2 ≤ 9223372036854775807) (W : World) (hW : W = w) :
    Calls Try.prog 7 #[.agg #[.int .i64 u0, .slice a0 x0.length c0], .int .i64 a1, .int .i64 a2] W fun e w' => e = .returned (.bool true) ∧ Below W.heap.size W w' := by
  subst hW
  obtain ⟨V, hV⟩ : ∃ V, W.alloc (.cells #[.int .i64 u0, .slice a0 x0.length c0] 24) = V := ⟨_, rfl⟩
  obtain ⟨hWV, k0, k1, hzV⟩ := box_new W u0 a0 _ c0 V hV
  have HA := Lib.hid (alive_any V)
  have EL := fun U (hU : Below V.heap.size V U) => Elim.eliminate_any U u0 a0 _ c0 y0 x0 ((s0.next hWV).next hU) w0 a1 a2 w1.1 w1.2 w2.1 w2.2
  have RF := fun U (hU : Below V.heap.size V U) => Formula.ref_any U u0 a0 _ c0 y0 x0 ((s0.next hWV).next hU) w0
  have HS := Lib.hid (s0.next hWV)
  have HWV := Lib.hid hWV
  have HOK := Lib.hid (@Formula.check_ok u0 x0)
  have hcap0 := s0.sl.cap
  have hbig0 := s0.sl.big
  have H9 := Lib.hid (Formula.check_or u0 x0)
  have HW0 := Lib.hid w0
  have HSC := Lib.hid (fun h => spec_cases (u := u0) (v := a1) (most := a2) (cls := x0) h)
  have HS9 : Hid (Formula.check u0 x0 = 9 → Elim.spec u0 a1 a2 x0 = (0, [], false, 9)) := by
    intro h
    unfold Elim.spec
    rw [if_neg (by rw [h]; decide)]
  unfold Elim.Out at EL
  clear s0 w0 hWV
  generalize Elim.spec u0 a1 a2 x0 = R at *
  obtain ⟨gu, G, ok, er⟩ := R
  have HEL := Lib.hid EL
  have HRF := Lib.hid RF
  clear EL RF
  go_enter Try.func7, Try.ntmps7
  go_wp2_with fail
  refine HA.out.mono ?_; rintro e v1 ⟨rfl, hb1⟩
  have d0 := (hb1.cell (p := ⟨W.heap.size, 0, none⟩) hzV).trans k0
  have d1 := (hb1.cell (p := ⟨W.heap.size, 1, none⟩) hzV).trans k1
  have hz1 : W.heap.size < v1.heap.size := Nat.lt_of_lt_of_le hzV hb1.size
  have HB1 := Lib.hid hb1
  clear hb1 k0 k1 hV
  go_wp2_with fail
  refine (HEL.out v1 HB1.out).mono ?_
  rintro e v2 ⟨a', c', vals, rfl, hs2, hb2⟩
  obtain ⟨U2, hU2⟩ : ∃ U2, v2.alloc (.cells #[.int .i64 gu, .slice a' G.length c'] 24) = U2 := ⟨_, rfl⟩
  obtain ⟨hn2, p0, p1, hz2⟩ := box_new v2 gu a' _ c' U2 hU2
  have hb12 := hb2.trans (hn2.mono hb2.size)
  have e0 := (hb12.cell (p := ⟨W.heap.size, 0, none⟩) hz1).trans d0
  have e1 := (hb12.cell (p := ⟨W.heap.size, 1, none⟩) hz1).trans d1
  have hzU2 : W.heap.size < U2.heap.size := Nat.lt_of_lt_of_le hz1 hb12.size
  have HB2 := Lib.hid (HB1.out.trans (hb12.mono HB1.out.size))
  have HG2 := Lib.hid (hs2.next hn2)
  have hcapG := hs2.sl.cap
  have hbigG := hs2.sl.big
  clear hb2 hn2 hb12 d0 d1 hs2
  go_wp2_with fail
  refine (HRF.out U2 HB2.out).mono ?_
  rintro e v3 ⟨rfl, hb3⟩
  have f0 := (hb3.cell (p := ⟨W.heap.size, 0, none⟩) hzU2).trans e0
  have f1 := (hb3.cell (p := ⟨W.heap.size, 1, none⟩) hzU2).trans e1
  have r0 := (hb3.cell (p := ⟨v2.heap.size, 0, none⟩) hz2).trans p0
  have r1 := (hb3.cell (p := ⟨v2.heap.size, 1, none⟩) hz2).trans p1
  have hz3 : W.heap.size < v3.heap.size ∧ v2.heap.size < v3.heap.size := ⟨Nat.lt_of_lt_of_le hzU2 hb3.size, Nat.lt_of_lt_of_le hz2 hb3.size⟩
  have HB3 := Lib.hid (HB2.out.trans (hb3.mono HB2.out.size))
  have HG3 := Lib.hid (HG2.out.next hb3)
  clear hb3 e0 e1 p0 p1 hU2 HA HEL HRF
  rcases H9.out with h0 | h9
  · have HC := HSC.out h0
    have HK := Lib.hid (HOK.out h0)
    generalize hq : Formula.check u0 x0 = q at *
    subst h0
    have HQ0 := Lib.hid hq
    clear hq
    clear HS9 HSC H9
    rcases HC with ⟨hbad, hR⟩ | ⟨hv1, hv2, hm0, hR⟩
    · simp only [Prod.mk.injEq] at hR
      obtain ⟨rfl, rfl, rfl, rfl⟩ := hR
      rcases hbad with hb | hb | hb
      all_goals
        go_wp2_with fail
      all_goals
        go_ret
        exact ⟨ret_bool (by simp), HWV.out.trans (HB3.out.mono HWV.out.size)⟩
    · have n1 : ¬ a1 < 1 := by omega
      have n2 : ¬ u0 < a1 := by omega
      have n3 : ¬ a2 < 0 := by omega
      have LC := Lib.hid (lawCleaned_any v3 a0 _ c0 y0 x0 (HS.out.next HB3.out) HW0.out (by have := HK.out.2.2.1; omega) (fun l hl => by have := (HK.out.2.2.2 l hl).1; omega))
      have HRR := Lib.hid hR
      clear hR
      go_wp2_with fail
      refine LC.out.mono ?_
      rintro e v4 ⟨a4, c4, vals4, rfl, ho4, hb4⟩
      have g0' := (hb4.cell (p := ⟨W.heap.size, 0, none⟩) hz3.1).trans f0
      have g1 := (hb4.cell (p := ⟨W.heap.size, 1, none⟩) hz3.1).trans f1
      have q0 := (hb4.cell (p := ⟨v2.heap.size, 0, none⟩) hz3.2).trans r0
      have q1 := (hb4.cell (p := ⟨v2.heap.size, 1, none⟩) hz3.2).trans r1
      have hz4 : W.heap.size < v4.heap.size ∧ v2.heap.size < v4.heap.size := ⟨Nat.lt_of_lt_of_le hz3.1 hb4.size, Nat.lt_of_lt_of_le hz3.2 hb4.size⟩
      have HB4 := Lib.hid (HB3.out.trans (hb4.mono HB3.out.size))
      have HG4 := Lib.hid (HG3.out.next hb4)
      have HL4 := Lib.hid ho4.sl2'
      have hcapL := ho4.sl2'.sl.cap
      have hbigL := ho4.sl2'.sl.big
      clear hb4 ho4 f0 f1 r0 r1 hz3 LC
      rcases HRR.out with hR | hR | ⟨hR, hle, hlong⟩
      · simp only [Prod.mk.injEq] at hR
        obtain ⟨rfl, rfl, rfl, rfl⟩ := hR
        have LS := Plain.lists_any v4 a' a4 _ _ c' c4 vals vals4 _ _ HG4.out HL4.out
        simp only [decide_true] at LS
        have HLS := Lib.hid LS
        clear LS HRR
        generalize cleaned x0 = L at *
        go_wp2_with fail
        refine HLS.out.mono ?_
        rintro e v5 ⟨rfl, n5, rfl⟩
        go_wp2_with fail
        go_ret
        exact ⟨rfl, below_drewN (HWV.out.trans (HB4.out.mono HWV.out.size)) _⟩
      · simp only [Prod.mk.injEq] at hR
        obtain ⟨rfl, rfl, rfl, rfl⟩ := hR
        clear HRR
        generalize cleaned x0 = L at *
        go_wp2_with fail
        go_ret
        exact ⟨ret_bool (by simp), HWV.out.trans (HB4.out.mono HWV.out.size)⟩
      · simp only [Prod.mk.injEq] at hR
        obtain ⟨rfl, rfl, rfl, rfl⟩ := hR
        clear HRR
        have HNO := Lib.hid (Elim.elim_no hv1 (Elim.apt_cleaned HW0.out hv1))
        have HWG : Hid (Formula.Wf2 (Elim.elim (cleaned x0) a1)) := wf_cleaned (Elim.all_wf hv1 (wf_cleaned HW0.out))
        have hn0 := HK.out.1
        obtain ⟨nv, rfl⟩ := Int.eq_ofNat_of_zero_le hn0
        have HFF := Lib.hid (fun (h8 : nv ≤ 8) => few_facts HQ0.out HW0.out h8 hv1 hv2 hlong)
        have hgt : ¬ a2 < ((Elim.elim (cleaned x0) a1).length : Int) - ((cleaned x0).length : Int) := by omega
        have hneg : -9223372036854775808 ≤ -a1 := by omega
        clear hle hlong hn0
        generalize Elim.elim (cleaned x0) a1 = G at *
        generalize cleaned x0 = L at *
        go_wp2_with fail
        go_loopw [11] (fun s wr => ∃ i : Nat, i ≤ G.length ∧ s = .int .i64 i ∧ wr = v4) (fun s _ => G.length - (intOf s).toNat)
        case atStart => exact ⟨0, Nat.zero_le _, rfl, rfl⟩
        case round =>
          obtain ⟨i, hi, rfl, rfl⟩ := hrel
          by_cases hlt : i < G.length
          · obtain ⟨b, o, a5, c5, hx, rfl, hbs, hc, hs5, _⟩ := HG4.out.at hlt
            have hno := HNO.out _ (List.getElem_mem hx)
            have C1 := RefC.has_any wr a5 _ c5 G[i] hs5 a1
            have C2 := RefC.has_any wr a5 _ c5 G[i] hs5 (-a1)
            rw [decide_eq_false hno.1] at C1
            rw [decide_eq_false hno.2] at C2
            have HC1 := Lib.hid C1
            have HC2 := Lib.hid C2
            clear C1 C2 hno hs5
            go_wp2_with fail
            refine HC1.out.mono ?_
            rintro e v5 ⟨rfl, rfl⟩
            go_wp2_with fail
            refine HC2.out.mono ?_
            rintro e v5 ⟨rfl, rfl⟩
            go_wp2_with fail
            go_roundw
            case rel => exact ⟨i + 1, by omega, by go_num, trivial⟩
            case measure => simp [intOf]; omega
          · have FW := few_any wr nv a0 _ c0 y0 x0 (HS.out.next HB4.out) HW0.out
            have hfew : few nv x0 = decide (nv ≤ 8) := by
              unfold few
              rw [HQ0.out]
              have e8 : decide ((nv : Int) ≤ 8) = decide (nv ≤ 8) := by
                rw [Bool.eq_iff_iff, decide_eq_true_eq, decide_eq_true_eq]
                omega
              rw [e8]
              simp
            rw [hfew] at FW
            have HFW := Lib.hid FW
            clear FW hfew HNO
            by_cases h8 : nv ≤ 8
            · rw [decide_eq_true h8] at HFW
              obtain ⟨xs, ys, isf, b, ef, eg, sp1, sp2, m1, m2, hb1, hxs⟩ := HFF.out h8
              have HM1 := Lib.hid m1
              have HM2 := Lib.hid m2
              have HBT := Lib.hid hb1
              have HXS := Lib.hid hxs
              have BF := fun U (hU : Below wr.heap.size wr U) => Brute.any U nv a0 _ c0 y0 x0 ((HS.out.next HB4.out).next hU) HW0.out
              have BG := fun U (hU : Below wr.heap.size wr U) => Brute.any U nv a' _ c' vals G (HG4.out.next hU) HWG.out
              unfold Brute.Out at BF BG
              rw [sp1] at BF
              rw [sp2] at BG
              have HBF := Lib.hid BF
              have HBG := Lib.hid BG
              have MF := Lib.hid (fun U (hU : Below wr.heap.size wr U) => Models.models_any U nv (by omega) a0 _ c0 y0 x0 ((HS.out.next HB4.out).next hU) HW0.out none 0 0 [] (Sl.nil U) (by intro x hx; simp at hx))
              have MG := Lib.hid (fun U (hU : Below wr.heap.size wr U) => Models.models_any U nv (by omega) a' _ c' vals G (HG4.out.next hU) HWG.out none 0 0 [] (Sl.nil U) (by intro x hx; simp at hx))
              have TG := Lib.hid (fun U (hU : Below wr.heap.size wr U) => True.refTrue_any U nv a' _ c' vals G (HG4.out.next hU) HWG.out xs HXS.out)
              clear sp1 sp2 m1 m2 hb1 hxs BF BG HFF
              unfold Models.Out at MF MG
              generalize ModelsP.models nv x0 [] = mF at *
              generalize ModelsP.models nv G [] = mG at *
              have hnv : (nv : Int) ≤ 8 := by omega
              go_wp2_with fail
              refine HFW.out.mono ?_
              rintro e v5 ⟨rfl, hb5⟩
              have g5 := (hb5.cell (p := ⟨W.heap.size, 0, none⟩) hz4.1).trans g0'
              have g5' := (hb5.cell (p := ⟨W.heap.size, 1, none⟩) hz4.1).trans g1
              have q5 := (hb5.cell (p := ⟨v2.heap.size, 0, none⟩) hz4.2).trans q0
              have q5' := (hb5.cell (p := ⟨v2.heap.size, 1, none⟩) hz4.2).trans q1
              have hz5 : W.heap.size < v5.heap.size ∧ v2.heap.size < v5.heap.size := ⟨Nat.lt_of_lt_of_le hz4.1 hb5.size, Nat.lt_of_lt_of_le hz4.2 hb5.size⟩
              have HB5 := Lib.hid hb5
              clear hb5 g0' g1 q0 q1 hz4
              go_wp2_with fail
              refine (HBF.out v5 HB5.out).mono ?_
              rintro e v6 ⟨rfl, hb6⟩
              have g6 := (hb6.cell (p := ⟨W.heap.size, 0, none⟩) hz5.1).trans g5
              have g6' := (hb6.cell (p := ⟨W.heap.size, 1, none⟩) hz5.1).trans g5'
              have q6 := (hb6.cell (p := ⟨v2.heap.size, 0, none⟩) hz5.2).trans q5
              have q6' := (hb6.cell (p := ⟨v2.heap.size, 1, none⟩) hz5.2).trans q5'
              have hz6 : W.heap.size < v6.heap.size ∧ v2.heap.size < v6.heap.size := ⟨Nat.lt_of_lt_of_le hz5.1 hb6.size, Nat.lt_of_lt_of_le hz5.2 hb6.size⟩
              have HB6 := Lib.hid (HB5.out.trans (hb6.mono HB5.out.size))
              clear hb6 g5 g5' q5 q5' hz5
              go_wp2_with fail
              refine (HBG.out v6 HB6.out).mono ?_
              rintro e v7 ⟨rfl, hb7⟩
              have g7 := (hb7.cell (p := ⟨W.heap.size, 0, none⟩) hz6.1).trans g6
              have g7' := (hb7.cell (p := ⟨W.heap.size, 1, none⟩) hz6.1).trans g6'
              have q7 := (hb7.cell (p := ⟨v2.heap.size, 0, none⟩) hz6.2).trans q6
              have q7' := (hb7.cell (p := ⟨v2.heap.size, 1, none⟩) hz6.2).trans q6'
              have hz7 : W.heap.size < v7.heap.size ∧ v2.heap.size < v7.heap.size := ⟨Nat.lt_of_lt_of_le hz6.1 hb7.size, Nat.lt_of_lt_of_le hz6.2 hb7.size⟩
              have HB7 := Lib.hid (HB6.out.trans (hb7.mono HB6.out.size))
              clear hb7 g6 g6' q6 q6' hz6
              go_wp2_with fail
              refine (MF.out v7 HB7.out).mono ?_
              rintro e v8 ⟨a8, c8, rfl, _, hb8⟩
              have g8 := (hb8.cell (p := ⟨W.heap.size, 0, none⟩) hz7.1).trans g7
              have q8 := (hb8.cell (p := ⟨v2.heap.size, 0, none⟩) hz7.2).trans q7
              have q8' := (hb8.cell (p := ⟨v2.heap.size, 1, none⟩) hz7.2).trans q7'
              have hz8 : W.heap.size < v8.heap.size ∧ v2.heap.size < v8.heap.size := ⟨Nat.lt_of_lt_of_le hz7.1 hb8.size, Nat.lt_of_lt_of_le hz7.2 hb8.size⟩
              have HB8 := Lib.hid (HB7.out.trans (hb8.mono HB7.out.size))
              clear hb8 g7 g7' q7 q7' hz7
              have HBT' := HBT.out
              have hm1 := HM1.out
              have hm2 := HM2.out
              cases b
              · have n1 : mF.length = 0 := by have := of_decide_eq_false hm1; omega
                have n2 : mG.length = 0 := by have := of_decide_eq_false hm2; omega
                clear hm1 hm2 HBT' HBT HM1 HM2
                go_wp2_with fail
                refine (MG.out v8 HB8.out).mono ?_
                rintro e v9 ⟨a9, c9, rfl, _, hb9⟩
                have HB9 := Lib.hid (HB8.out.trans (hb9.mono HB8.out.size))
                clear hb9
                go_wp2_with fail
                go_ret
                exact ⟨ret_bool (by simp), HWV.out.trans ((HB4.out.trans (HB9.out.mono HB4.out.size)).mono HWV.out.size)⟩
              · have n1 : (0 : Int) < (mF.length : Int) := by have := of_decide_eq_true hm1; omega
                have n2 : (0 : Int) < (mG.length : Int) := by have := of_decide_eq_true hm2; omega
                have n1n : 0 < mF.length := by omega
                have n2n : 0 < mG.length := by omega
                have hbt := HBT' rfl
                have HYS := Lib.hid hbt.2
                have TG' := TG.out
                rw [hbt.1] at TG'
                have HTG := Lib.hid TG'
                clear hm1 hm2 HBT' HBT HM1 HM2 hbt TG' TG
                go_wp2_with fail
                refine (MG.out v8 HB8.out).mono ?_
                rintro e v9 ⟨a9, c9, rfl, _, hb9⟩
                have g9 := (hb9.cell (p := ⟨W.heap.size, 0, none⟩) hz8.1).trans g8
                have q9 := (hb9.cell (p := ⟨v2.heap.size, 0, none⟩) hz8.2).trans q8
                have q9' := (hb9.cell (p := ⟨v2.heap.size, 1, none⟩) hz8.2).trans q8'
                have hz9 : W.heap.size < v9.heap.size := Nat.lt_of_lt_of_le hz8.1 hb9.size
                have HB9 := Lib.hid (HB8.out.trans (hb9.mono HB8.out.size))
                clear hb9 g8 q8 q8' hz8
                go_wp2_with fail
                refine (HTG.out v9 HB9.out).mono ?_
                rintro e v10 ⟨rfl, hb10⟩
                have g10 := (hb10.cell (p := ⟨W.heap.size, 0, none⟩) hz9).trans g9
                have HB10 := Lib.hid (HB9.out.trans (hb10.mono HB9.out.size))
                have hys : ((ys.size : Nat) : Int) = (nv : Int) := by have := HYS.out; omega
                clear hb10 g9 q9 q9'
                go_wp2_with fail
                go_ret
                exact ⟨ret_bool (by simp [HYS.out]), HWV.out.trans ((HB4.out.trans (HB10.out.mono HB4.out.size)).mono HWV.out.size)⟩
            · rw [decide_eq_false h8] at HFW
              clear HFF
              go_wp2_with fail
              refine HFW.out.mono ?_
              rintro e v5 ⟨rfl, hb5⟩
              have HB5 := Lib.hid (HB4.out.trans (hb5.mono HB4.out.size))
              clear hb5
              go_wp2_with fail
              go_ret
              exact ⟨rfl, HWV.out.trans (HB5.out.mono HWV.out.size)⟩
  · have hR := HS9.out h9
    simp only [Prod.mk.injEq] at hR
    obtain ⟨rfl, rfl, rfl, rfl⟩ := hR
    rw [h9]
    go_wp2_with fail
    go_ret
    exact ⟨ret_bool (by simp), HWV.out.trans (HB3.out.mono HWV.out.size)⟩
end Go.Proofs.Ythhkngpbaflfiaa.preprocEliminates
