/-
  digits.Print and the reference's Print: one text.
-/
import Derived.Test.YtmiklgekcmeedaaDoorRefDig
namespace Go.Proofs.YtmiklgekcmeedaaDoor
open Go.RowKit Base
set_option linter.unusedVariables false
set_option linter.unusedSimpArgs false
namespace Dig

set_option maxHeartbeats 1000000 in
theorem print_any (w : World) (x : Int) (hx : -9223372036854775808 ≤ x ∧ x ≤ 9223372036854775807) :
    Calls Tryd.prog 12 #[.int .i64 x] w fun e w' => e = .returned (.string (str (pr x))) ∧ Below w.heap.size w w' := by
  have HU := Lib.hid (unsigned_any w x.natAbs (by omega))
  have hl := pr_len hx
  by_cases hneg : x < 0
  · have hd : decide (x < 0) = true := decide_eq_true hneg
    have hp : pr x = 45 :: dg x.natAbs := by unfold pr; rw [if_pos hneg]
    have h1 : IntKind.u64.wrap x = x + 18446744073709551616 := by rw [IntKind.wrap_u64]; omega
    have h2 : IntKind.u64.wrap (-(x + 18446744073709551616)) = (x.natAbs : Int) := by rw [IntKind.wrap_u64]; omega
    have HS : Hid ((⟨#[45]⟩ : ByteArray) ++ str (dg x.natAbs) = str (pr x)) := by show str [45] ++ _ = _; rw [str_app, hp]; rfl
    have hz : ¬ 9223372036854775807 < 1 + (str (dg x.natAbs)).size := by
      rw [hp] at hl
      rw [str_size]
      simp at hl
      omega
    generalize str (dg x.natAbs) = s1 at *
    generalize x.natAbs = m at *
    clear hp hl hx hneg
    go_enter Tryd.func12, Tryd.ntmps12
    go_wp2_with fail
    with_reducible refine HU.out.mono ?_
    rintro e w1 ⟨rfl, hb1⟩
    go_wp2_with fail
    go_ret
    exact ⟨by rw [← HS.out]; rfl, hb1⟩
  · have hd : decide (x < 0) = false := decide_eq_false hneg
    have hp : pr x = dg x.natAbs := by unfold pr; rw [if_neg hneg]
    have h1 : IntKind.u64.wrap x = (x.natAbs : Int) := by rw [IntKind.wrap_u64]; omega
    have HS : Hid (str (dg x.natAbs) = str (pr x)) := by show _ = _; rw [hp]
    generalize str (dg x.natAbs) = s1 at *
    generalize x.natAbs = m at *
    clear hp hl hx hneg
    go_enter Tryd.func12, Tryd.ntmps12
    go_wp2_with fail
    with_reducible refine HU.out.mono ?_
    rintro e w1 ⟨rfl, hb1⟩
    go_wp2_with fail
    go_ret
    exact ⟨by rw [← HS.out]; rfl, hb1⟩

set_option maxHeartbeats 1000000 in
theorem refPrint_any (w : World) (x : Int) (hx : -9223372036854775808 ≤ x ∧ x ≤ 9223372036854775807) :
    Calls Tryd.prog 9 #[.int .i64 x] w fun e w' => e = .returned (.string (str (pr x))) ∧ Below w.heap.size w w' := by
  have HU := Lib.hid (digits_any x.natAbs w (by omega))
  have hl := pr_len hx
  by_cases hneg : x < 0
  · have hd : decide (x < 0) = true := decide_eq_true hneg
    have hp : pr x = 45 :: dg x.natAbs := by unfold pr; rw [if_pos hneg]
    have h1 : IntKind.i64.wrap (x + 1) = x + 1 := by rw [IntKind.wrap_i64]; omega
    have h2 : IntKind.i64.wrap (-(x + 1)) = -(x + 1) := by rw [IntKind.wrap_i64]; omega
    have h3 : IntKind.u64.wrap (-(x + 1)) = -(x + 1) := by rw [IntKind.wrap_u64]; omega
    have h4 : IntKind.u64.wrap (-(x + 1) + 1) = (x.natAbs : Int) := by rw [IntKind.wrap_u64]; omega
    have HS : Hid ((⟨#[45]⟩ : ByteArray) ++ str (dg x.natAbs) = str (pr x)) := by show str [45] ++ _ = _; rw [str_app, hp]; rfl
    have hz : ¬ 9223372036854775807 < 1 + (str (dg x.natAbs)).size := by
      rw [hp] at hl
      rw [str_size]
      simp at hl
      omega
    generalize str (dg x.natAbs) = s1 at *
    generalize x.natAbs = m at *
    clear hp hl hx hneg
    go_enter Tryd.func9, Tryd.ntmps9
    go_wp2_with fail
    with_reducible refine HU.out.mono ?_
    rintro e w1 ⟨rfl, hb1⟩
    go_wp2_with fail
    go_ret
    exact ⟨by rw [← HS.out]; rfl, hb1⟩
  · have hd : decide (x < 0) = false := decide_eq_false hneg
    have hp : pr x = dg x.natAbs := by unfold pr; rw [if_neg hneg]
    have h1 : IntKind.u64.wrap x = (x.natAbs : Int) := by rw [IntKind.wrap_u64]; omega
    have HS : Hid (str (dg x.natAbs) = str (pr x)) := by show _ = _; rw [hp]
    generalize str (dg x.natAbs) = s1 at *
    generalize x.natAbs = m at *
    clear hp hl hx hneg
    go_enter Tryd.func9, Tryd.ntmps9
    go_wp2_with fail
    with_reducible refine HU.out.mono ?_
    rintro e w1 ⟨rfl, hb1⟩
    go_wp2_with fail
    go_ret
    exact ⟨by rw [← HS.out]; rfl, hb1⟩
end Dig
end Go.Proofs.YtmiklgekcmeedaaDoor
