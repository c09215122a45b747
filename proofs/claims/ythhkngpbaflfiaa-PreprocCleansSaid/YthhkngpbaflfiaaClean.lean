/-
  preproc.Clean, preproc.Subsume: a formula's clauses, cleaned; without those that another one says.
-/
import Derived.Test.YthhkngpbaflfiaaSubsumed
import Derived.Test.YthhkngpbaflfiaaFormulaOk
namespace Go.Proofs.Ythhkngpbaflfiaa
open Go.RowKit Base
set_option linter.unusedVariables false
set_option linter.unusedSimpArgs false
namespace Pre

def FormOut (w : World) (vars : Int) (cls res : List (List Int)) (e : Ending) (w' : World) : Prop :=
  (if Formula.check vars cls = 0 then ∃ a' c' vals, e = .returned (.tuple #[.agg #[.int .i64 vars, .slice a' res.length c'], .int .i64 0]) ∧ Own2 w' w.heap.size 29 3 (.slice a' res.length c') res.length vals res
    else e = .returned (.tuple #[.agg #[.int .i64 0, .slice none 0 0], .int .i64 9])) ∧ Below w.heap.size w w'

/-- The world behind such a function's first rows: the formula's box, the result's. -/
theorem boxes (w : World) (vars : Int) (a : Option Addr) (n c : Nat) (W2 : World) (hW : W2 = (w.alloc (.cells #[.int .i64 vars, .slice a n c] 24)).alloc (.cells #[.int .i64 0, .slice none 0 0] 24)) :
    Below w.heap.size w W2 ∧ W2.cell? ⟨w.heap.size, 0, none⟩ = some (.int .i64 vars) ∧ W2.cell? ⟨w.heap.size, 1, none⟩ = some (.slice a n c) ∧
    W2.frozen? ⟨w.heap.size + 1, 0, none⟩ = false ∧ W2.frozen? ⟨w.heap.size + 1, 1, none⟩ = false ∧ W2.heap.size = w.heap.size + 2 ∧
    W2.cell? ⟨w.heap.size + 1, 0, none⟩ = some (.int .i64 0) ∧ W2.cell? ⟨w.heap.size + 1, 1, none⟩ = some (.slice none 0 0) := by
  subst hW
  refine ⟨((Below.refl _ _).alloc (Nat.le_refl _) _).alloc (by simp) _, ?_, ?_, ?_, ?_, ?_, ?_, ?_⟩ <;> simp [go_sem]

theorem out0 {w : World} {vars : Int} {cls res : List (List Int)} (h : Formula.check vars cls = 0) {a' : Option Addr} {m c' : Nat} {vals : List Value} {w' : World} (hm : res.length = m) (ho : Own2 w' w.heap.size 29 3 (.slice a' m c') m vals res) (hb : Below w.heap.size w w') :
    FormOut w vars cls res (.returned (.tuple #[.agg #[.int .i64 vars, .slice a' m c'], .int .i64 0])) w' := by
  subst hm
  refine ⟨?_, hb⟩
  rw [if_pos h]
  exact ⟨a', c', vals, rfl, ho⟩

theorem out9 {w : World} {vars : Int} {cls res : List (List Int)} (h : Formula.check vars cls = 9) {w' : World} (hb : Below w.heap.size w w') :
    FormOut w vars cls res (.returned (.tuple #[.agg #[.int .i64 0, .slice none 0 0], .int .i64 9])) w' := by
  refine ⟨?_, hb⟩
  rw [if_neg (by rw [h]; decide)]

set_option maxHeartbeats 4000000 in
theorem clean_any (w : World) (vars : Int) (a : Option Addr) (n c : Nat) (vs : List Value) (cls : List (List Int)) (hsl : Sl2 w a n c vs cls) (hw : Formula.Wf2 cls) :
    Calls Try.prog 8 #[.agg #[.int .i64 vars, .slice a n c]] w (FormOut w vars cls (cleaned cls)) := by
  obtain ⟨W2, hW2⟩ : ∃ W2, W2 = (w.alloc (.cells #[.int .i64 vars, .slice a n c] 24)).alloc (.cells #[.int .i64 0, .slice none 0 0] 24) := ⟨_, rfl⟩
  obtain ⟨h2, b0, b1, f0, f1, hz, q0, q1⟩ := boxes w vars a n c W2 hW2
  have hs2 := hsl.next h2
  have HCH := Lib.hid (Formula.check_any W2 vars a n c vs cls hs2 hw)
  have HB2 := Lib.hid h2
  have HOK := Lib.hid (@Formula.check_ok vars cls)
  have H9 := Lib.hid (Formula.check_or vars cls)
  have HLN := Lib.hid hsl.len
  have HCL := Lib.hid (fun (V : World) (hV : Below W2.heap.size W2 V) (h0 : n * 24 ≤ 140737488355328) (h1 : ∀ l ∈ cls, l.length * 8 ≤ 140737488355328) => cleaned_any V a n c vs cls (hs2.next hV) hw h0 h1)
  have hW2' := hW2.symm
  have HF0 := Lib.hid (fun h => @out0 w vars cls (cleaned cls) h)
  have HF9 := Lib.hid (fun h => @out9 w vars cls (cleaned cls) h)
  generalize FormOut w vars cls (cleaned cls) = R at *
  generalize Formula.check vars cls = q at *
  clear hsl hs2 h2 hw hW2
  go_enter Try.func8, Try.ntmps8
  go_wp2_with fail
  refine HCH.out.mono ?_
  rintro e w3 ⟨rfl, hb3⟩
  have c0 := (hb3.cell (p := ⟨w.heap.size, 0, none⟩) (by show w.heap.size < _; rw [hz]; omega)).trans b0
  have c1 := (hb3.cell (p := ⟨w.heap.size, 1, none⟩) (by show w.heap.size < _; rw [hz]; omega)).trans b1
  have g0 := (hb3.frozen (p := ⟨w.heap.size + 1, 0, none⟩) (by show w.heap.size + 1 < _; rw [hz]; omega)).trans f0
  have g1 := (hb3.frozen (p := ⟨w.heap.size + 1, 1, none⟩) (by show w.heap.size + 1 < _; rw [hz]; omega)).trans f1
  have r0 := (hb3.cell (p := ⟨w.heap.size + 1, 0, none⟩) (by show w.heap.size + 1 < _; rw [hz]; omega)).trans q0
  have r1 := (hb3.cell (p := ⟨w.heap.size + 1, 1, none⟩) (by show w.heap.size + 1 < _; rw [hz]; omega)).trans q1
  have HB3 := Lib.hid (HB2.out.trans (hb3.mono HB2.out.size))
  have HZ3 : Hid (w.heap.size + 2 ≤ w3.heap.size) := by have := hb3.size; rw [hz] at this; exact this
  have HBB := Lib.hid hb3
  clear b0 b1 f0 f1 q0 q1 hW2' hb3 hz
  rcases H9.out with h0 | h9
  · have HK := HOK.out h0
    have HC := Lib.hid (fun (V : World) (hV : Below w3.heap.size w3 V) => HCL.out V (HBB.out.trans (hV.mono HBB.out.size)) (by have := HK.2.2.1; have := HLN.out; omega) (fun l hl => by have := (HK.2.2.2 l hl).1; omega))
    subst h0
    clear HK HCL HCH HF9
    generalize cleaned cls = L at *
    obtain ⟨N, hN⟩ : ∃ N, N = w3.heap.size := ⟨_, rfl⟩
    have HNN := Lib.hid hN
    clear hN
    go_wp2_with fail
    go_region_law (first | (go_simp; go_at_call 27; refine (HC.out _ (by first | exact Below.refl _ _ | exact (Below.refl _ _).drew)).mono ?_; rintro e w4 ⟨a4, c4, vals, rfl, ho4, hb4'⟩; (have hb4 : Below w3.heap.size w3 w4 := by first | exact hb4' | exact undrew hb4'); (have d0 := (hb4.cell (p := ⟨w.heap.size, 0, none⟩) (by show w.heap.size < w3.heap.size; have := HZ3.out; omega)).trans c0); (have d1 := (hb4.cell (p := ⟨w.heap.size, 1, none⟩) (by show w.heap.size < w3.heap.size; have := HZ3.out; omega)).trans c1); (have e0 := (hb4.frozen (p := ⟨w.heap.size + 1, 0, none⟩) (by show w.heap.size + 1 < w3.heap.size; have := HZ3.out; omega)).trans g0); (have e1 := (hb4.frozen (p := ⟨w.heap.size + 1, 1, none⟩) (by show w.heap.size + 1 < w3.heap.size; have := HZ3.out; omega)).trans g1); (have e2 := (hb4.cell (p := ⟨w.heap.size + 1, 0, none⟩) (by show w.heap.size + 1 < w3.heap.size; have := HZ3.out; omega)).trans r0); (have e3 := (hb4.cell (p := ⟨w.heap.size + 1, 1, none⟩) (by show w.heap.size + 1 < w3.heap.size; have := HZ3.out; omega)).trans r1)))
    all_goals
      go_wp2_with fail
      refine bodyPost_ret (v := .tuple #[.agg #[.int .i64 vars, .slice a4 L.length c4], .int .i64 0]) (by simp [results, Try.results8, go_sem, e2, e3]) rfl ?_
      have hz1 : w.heap.size + 1 < w3.heap.size := by have := HZ3.out; omega
      have hset := ((ho4.set (a := ⟨w.heap.size + 1, 0, none⟩) hz1 (.int .i64 vars)).set (a := ⟨w.heap.size + 1, 1, none⟩) hz1 (.slice a4 L.length c4)).mono (N' := w.heap.size) (show w.heap.size ≤ w3.heap.size by omega)
      have hbf : Below w.heap.size w ((w4.setCell ⟨w.heap.size + 1, 0, none⟩ (.int .i64 vars)).setCell ⟨w.heap.size + 1, 1, none⟩ (.slice a4 L.length c4)) := ((HB3.out.trans (hb4.mono HB3.out.size)).setCell (by show w.heap.size ≤ w.heap.size + 1; omega) _).setCell (by show w.heap.size ≤ w.heap.size + 1; omega) _
      first | exact HF0.out rfl rfl hset hbf | exact HF0.out trivial rfl hset hbf
  · subst h9
    clear HCL HCH HF0
    go_wp2_with fail
    refine bodyPost_ret (v := .tuple #[.agg #[.int .i64 0, .slice none 0 0], .int .i64 9]) (by simp [results, Try.results8, go_sem, r0, r1]) rfl ?_
    have hbf : Below w.heap.size w ((w3.setCell ⟨w.heap.size + 1, 0, none⟩ (.int .i64 0)).setCell ⟨w.heap.size + 1, 1, none⟩ (.slice none 0 0)) := (HB3.out.setCell (by show w.heap.size ≤ w.heap.size + 1; omega) _).setCell (by show w.heap.size ≤ w.heap.size + 1; omega) _
    first | exact HF9.out rfl hbf | exact HF9.out trivial hbf

set_option maxHeartbeats 4000000 in
theorem subsume_any (w : World) (vars : Int) (a : Option Addr) (n c : Nat) (vs : List Value) (cls : List (List Int)) (hsl : Sl2 w a n c vs cls) (hw : Formula.Wf2 cls) :
    Calls Try.prog 9 #[.agg #[.int .i64 vars, .slice a n c]] w (FormOut w vars cls (subsumed cls)) := by
  obtain ⟨W2, hW2⟩ : ∃ W2, W2 = (w.alloc (.cells #[.int .i64 vars, .slice a n c] 24)).alloc (.cells #[.int .i64 0, .slice none 0 0] 24) := ⟨_, rfl⟩
  obtain ⟨h2, b0, b1, f0, f1, hz, q0, q1⟩ := boxes w vars a n c W2 hW2
  have hs2 := hsl.next h2
  have HCH := Lib.hid (Formula.check_any W2 vars a n c vs cls hs2 hw)
  have HB2 := Lib.hid h2
  have HOK := Lib.hid (@Formula.check_ok vars cls)
  have H9 := Lib.hid (Formula.check_or vars cls)
  have HLN := Lib.hid hsl.len
  have HCL := Lib.hid (fun (V : World) (hV : Below W2.heap.size W2 V) (h0 : n * 24 ≤ 140737488355328) (h1 : ∀ l ∈ cls, l.length * 8 ≤ 140737488355328) => subsumed_any V a n c vs cls (hs2.next hV) hw h0 h1)
  have hW2' := hW2.symm
  have HF0 := Lib.hid (fun h => @out0 w vars cls (subsumed cls) h)
  have HF9 := Lib.hid (fun h => @out9 w vars cls (subsumed cls) h)
  generalize FormOut w vars cls (subsumed cls) = R at *
  generalize Formula.check vars cls = q at *
  clear hsl hs2 h2 hw hW2
  go_enter Try.func9, Try.ntmps9
  go_wp2_with fail
  refine HCH.out.mono ?_
  rintro e w3 ⟨rfl, hb3⟩
  have c0 := (hb3.cell (p := ⟨w.heap.size, 0, none⟩) (by show w.heap.size < _; rw [hz]; omega)).trans b0
  have c1 := (hb3.cell (p := ⟨w.heap.size, 1, none⟩) (by show w.heap.size < _; rw [hz]; omega)).trans b1
  have g0 := (hb3.frozen (p := ⟨w.heap.size + 1, 0, none⟩) (by show w.heap.size + 1 < _; rw [hz]; omega)).trans f0
  have g1 := (hb3.frozen (p := ⟨w.heap.size + 1, 1, none⟩) (by show w.heap.size + 1 < _; rw [hz]; omega)).trans f1
  have r0 := (hb3.cell (p := ⟨w.heap.size + 1, 0, none⟩) (by show w.heap.size + 1 < _; rw [hz]; omega)).trans q0
  have r1 := (hb3.cell (p := ⟨w.heap.size + 1, 1, none⟩) (by show w.heap.size + 1 < _; rw [hz]; omega)).trans q1
  have HB3 := Lib.hid (HB2.out.trans (hb3.mono HB2.out.size))
  have HZ3 : Hid (w.heap.size + 2 ≤ w3.heap.size) := by have := hb3.size; rw [hz] at this; exact this
  have HBB := Lib.hid hb3
  clear b0 b1 f0 f1 q0 q1 hW2' hb3 hz
  rcases H9.out with h0 | h9
  · have HK := HOK.out h0
    have HC := Lib.hid (fun (V : World) (hV : Below w3.heap.size w3 V) => HCL.out V (HBB.out.trans (hV.mono HBB.out.size)) (by have := HK.2.2.1; have := HLN.out; omega) (fun l hl => by have := (HK.2.2.2 l hl).1; omega))
    subst h0
    clear HK HCL HCH HF9
    generalize subsumed cls = L at *
    obtain ⟨N, hN⟩ : ∃ N, N = w3.heap.size := ⟨_, rfl⟩
    have HNN := Lib.hid hN
    clear hN
    go_wp2_with fail
    go_region_law (first | (go_simp; go_at_call 28; refine (HC.out _ (by first | exact Below.refl _ _ | exact (Below.refl _ _).drew)).mono ?_; rintro e w4 ⟨a4, c4, vals, rfl, ho4, hb4'⟩; (have hb4 : Below w3.heap.size w3 w4 := by first | exact hb4' | exact undrew hb4'); (have d0 := (hb4.cell (p := ⟨w.heap.size, 0, none⟩) (by show w.heap.size < w3.heap.size; have := HZ3.out; omega)).trans c0); (have d1 := (hb4.cell (p := ⟨w.heap.size, 1, none⟩) (by show w.heap.size < w3.heap.size; have := HZ3.out; omega)).trans c1); (have e0 := (hb4.frozen (p := ⟨w.heap.size + 1, 0, none⟩) (by show w.heap.size + 1 < w3.heap.size; have := HZ3.out; omega)).trans g0); (have e1 := (hb4.frozen (p := ⟨w.heap.size + 1, 1, none⟩) (by show w.heap.size + 1 < w3.heap.size; have := HZ3.out; omega)).trans g1); (have e2 := (hb4.cell (p := ⟨w.heap.size + 1, 0, none⟩) (by show w.heap.size + 1 < w3.heap.size; have := HZ3.out; omega)).trans r0); (have e3 := (hb4.cell (p := ⟨w.heap.size + 1, 1, none⟩) (by show w.heap.size + 1 < w3.heap.size; have := HZ3.out; omega)).trans r1)))
    all_goals
      go_wp2_with fail
      refine bodyPost_ret (v := .tuple #[.agg #[.int .i64 vars, .slice a4 L.length c4], .int .i64 0]) (by simp [results, Try.results9, go_sem, e2, e3]) rfl ?_
      have hz1 : w.heap.size + 1 < w3.heap.size := by have := HZ3.out; omega
      have hset := ((ho4.set (a := ⟨w.heap.size + 1, 0, none⟩) hz1 (.int .i64 vars)).set (a := ⟨w.heap.size + 1, 1, none⟩) hz1 (.slice a4 L.length c4)).mono (N' := w.heap.size) (show w.heap.size ≤ w3.heap.size by omega)
      have hbf : Below w.heap.size w ((w4.setCell ⟨w.heap.size + 1, 0, none⟩ (.int .i64 vars)).setCell ⟨w.heap.size + 1, 1, none⟩ (.slice a4 L.length c4)) := ((HB3.out.trans (hb4.mono HB3.out.size)).setCell (by show w.heap.size ≤ w.heap.size + 1; omega) _).setCell (by show w.heap.size ≤ w.heap.size + 1; omega) _
      first | exact HF0.out rfl rfl hset hbf | exact HF0.out trivial rfl hset hbf
  · subst h9
    clear HCL HCH HF0
    go_wp2_with fail
    refine bodyPost_ret (v := .tuple #[.agg #[.int .i64 0, .slice none 0 0], .int .i64 9]) (by simp [results, Try.results9, go_sem, r0, r1]) rfl ?_
    have hbf : Below w.heap.size w ((w3.setCell ⟨w.heap.size + 1, 0, none⟩ (.int .i64 0)).setCell ⟨w.heap.size + 1, 1, none⟩ (.slice none 0 0)) := (HB3.out.setCell (by show w.heap.size ≤ w.heap.size + 1; omega) _).setCell (by show w.heap.size ≤ w.heap.size + 1; omega) _
    first | exact HF9.out rfl hbf | exact HF9.out trivial hbf

end Pre
end Go.Proofs.Ythhkngpbaflfiaa
