/-
  The walks of the two laws on literals, LitsBack and LitsMakes: each returns true, for every integer and sign.
-/
import Derived.Test.YtmpeppgljjjmdaaLits
import Derived.Lib.Hide
namespace Go.Proofs.Ytmpeppgljjjmdaa
open Go.RowKit Lits
set_option linter.unusedVariables false

namespace Lits
theorem flip_nn (x : Int) (h : 0 ≤ x) : 0 ≤ flip x := by unfold flip; split <;> omega
theorem flip_up (x : Int) (h : x ≤ 9223372036854775807) : flip x ≤ 9223372036854775807 := by unfold flip; split <;> omega
theorem flip_flip (x : Int) (h : 0 ≤ x) : flip (flip x) = x := by unfold flip; split <;> split <;> omega
theorem var_flip (x : Int) (h : 0 ≤ x) : var (flip x) = var x := by
  have := flip_nn x h
  unfold var; rw [if_neg (by omega), if_neg (by omega)]; unfold flip; split <;> omega
theorem neg_flip (x : Int) (h : 0 ≤ x) : (neg (flip x) == neg x) = false := by
  have := flip_nn x h
  unfold neg; rw [if_neg (by omega), if_neg (by omega)]; unfold flip
  split <;> rename_i g
  · have : (x - 1) % 2 = 0 := by omega
    rw [this, g]; rfl
  · have g1 : x % 2 = 0 := by omega
    have : (x + 1) % 2 = 1 := by omega
    rw [this, g1]; rfl
theorem make_back (x : Int) (h : 0 ≤ x) (hx : x ≤ 2199023255552) : make (var x) (neg x) = x := by
  unfold make var neg
  rw [if_neg (by omega), if_neg (by omega : ¬ x < 0), if_neg (by omega : ¬ x < 0)]
  split <;> rename_i g
  · have : x % 2 = 1 := by simpa using g
    omega
  · have : x % 2 ≠ 1 := by simpa using g
    omega
end Lits

set_option maxHeartbeats 400000 in
theorem alive02 (w : World) : Calls Try.prog 5 #[] w fun e w' => e = .returned (.bool true) ∧ w = w' := by
  go_enter Try.func5, Try.ntmps5
  go_wp2_with fail
  refine (not_any 6 _ (by omega)).mono ?_; rintro e w' ⟨rfl, rfl⟩
  go_wp2_with fail
  refine (var_any 7 _).mono ?_; rintro e w' ⟨rfl, rfl⟩
  go_wp2_with fail
  go_ret
  exact ⟨rfl, rfl⟩

namespace litsBack
set_option maxHeartbeats 1000000 in
theorem walk_neg (x : Int) (h0 : x < 0) (w : World) :
    Calls Try.prog 3 #[.int .i64 x] w fun e w' => e = .returned (.bool true) ∧ w = w' := by
  have e1 : var x = 0 := if_pos h0
  have e2 : neg x = false := if_pos h0
  have e3 : not x = 1 := if_pos h0
  go_enter Try.func3, Try.ntmps3
  go_wp2_with fail
  refine (alive02 _).mono ?_; rintro e w' ⟨rfl, rfl⟩
  go_wp2_with fail
  refine (var_any _ _).mono ?_; rintro e w' ⟨rfl, rfl⟩
  go_wp2_with fail
  refine (neg_any _ _).mono ?_; rintro e w' ⟨rfl, rfl⟩
  go_wp2_with fail
  refine (not_any _ _ (by omega)).mono ?_; rintro e w' ⟨rfl, rfl⟩
  go_wp2_with fail
  go_ret
  exact ⟨rfl, rfl⟩

set_option maxHeartbeats 1000000 in
theorem walk_nn (x : Int) (h0 : 0 ≤ x) (hx : x ≤ 9223372036854775807) (w : World) :
    Calls Try.prog 3 #[.int .i64 x] w fun e w' => e = .returned (.bool true) ∧ w = w' := by
  have g0 := flip_nn x h0
  have g1 : ¬ flip x < 0 := by omega
  have e1 : not x = flip x := if_neg (by omega)
  have e2 : not (flip x) = x := (if_neg (by omega)).trans (flip_flip x h0)
  have e3 : var (flip x) = var x := var_flip x h0
  have e4 : (neg (flip x) == neg x) = false := neg_flip x h0
  have g2 := flip_up x hx
  clear g1
  by_cases hm : 2199023255552 < x
  · go_enter Try.func3, Try.ntmps3
    go_wp2_with fail
    refine (alive02 _).mono ?_; rintro e w' ⟨rfl, rfl⟩
    go_wp2_with fail
    refine (not_any _ _ hx).mono ?_; rintro e w' ⟨rfl, rfl⟩
    go_wp2_with fail
    refine (not_any _ _ g2).mono ?_; rintro e w' ⟨rfl, rfl⟩
    go_wp2_with fail
    refine (var_any _ _).mono ?_; rintro e w' ⟨rfl, rfl⟩
    go_wp2_with fail
    refine (var_any _ _).mono ?_; rintro e w' ⟨rfl, rfl⟩
    go_wp2_with fail
    refine (neg_any _ _).mono ?_; rintro e w' ⟨rfl, rfl⟩
    go_wp2_with fail
    refine (neg_any _ _).mono ?_; rintro e w' ⟨rfl, rfl⟩
    go_wp2_with fail
    go_ret
    exact ⟨rfl, rfl⟩
  · have e5 := make_back x h0 (by omega)
    go_enter Try.func3, Try.ntmps3
    go_wp2_with fail
    refine (alive02 _).mono ?_; rintro e w' ⟨rfl, rfl⟩
    go_wp2_with fail
    refine (not_any _ _ hx).mono ?_; rintro e w' ⟨rfl, rfl⟩
    go_wp2_with fail
    refine (not_any _ _ g2).mono ?_; rintro e w' ⟨rfl, rfl⟩
    go_wp2_with fail
    refine (var_any _ _).mono ?_; rintro e w' ⟨rfl, rfl⟩
    go_wp2_with fail
    refine (var_any _ _).mono ?_; rintro e w' ⟨rfl, rfl⟩
    go_wp2_with fail
    refine (neg_any _ _).mono ?_; rintro e w' ⟨rfl, rfl⟩
    go_wp2_with fail
    refine (neg_any _ _).mono ?_; rintro e w' ⟨rfl, rfl⟩
    go_wp2_with fail
    refine (var_any _ _).mono ?_; rintro e w' ⟨rfl, rfl⟩
    go_wp2_with fail
    refine (neg_any _ _).mono ?_; rintro e w' ⟨rfl, rfl⟩
    go_wp2_with fail
    refine (make_any _ _ _).mono ?_; rintro e w' ⟨rfl, rfl⟩
    go_wp2_with fail
    go_ret
    exact ⟨rfl, rfl⟩

theorem walk (x : Int) (w0 : (Lit.int .i64 x).wf = true) (w : World) :
    Calls Try.prog 3 #[.int .i64 x] w fun e w' => e = .returned (.bool true) ∧ w = w' := by
  by_cases h : x < 0
  · exact walk_neg x h w
  · exact walk_nn x (by omega) (wf_bd w0).2 w
end litsBack

namespace litsMakes
theorem make_out (v : Int) (b : Bool) (h : v < 0 ∨ 1099511627776 < v) : make v b = if b then 1 else 0 := by
  unfold make; rw [if_pos h]
theorem var_make (v : Int) (b : Bool) (h : ¬ (v < 0 ∨ 1099511627776 < v)) : var (make v b) = v := by
  unfold make; rw [if_neg h]; unfold var; cases b <;> simp <;> omega
theorem neg_make (v : Int) (b : Bool) (h : ¬ (v < 0 ∨ 1099511627776 < v)) : neg (make v b) = b := by
  unfold make; rw [if_neg h]; unfold neg
  cases b
  · simp only [Bool.false_eq_true, if_false]; rw [if_neg (by omega)]; simp
  · simp only [if_true]; rw [if_neg (by omega)]; simp

set_option maxHeartbeats 1000000 in
theorem walk (v : Int) (b : Bool) (w0 : (Lit.int .i64 v).wf = true) (w : World) :
    Calls Try.prog 4 #[.int .i64 v, .bool b] w fun e w' => e = .returned (.bool true) ∧ w = w' := by
  by_cases h0 : v < 0
  · have e1 := make_out v b (.inl h0)
    cases b
    all_goals
      simp only [if_true, Bool.false_eq_true, if_false] at e1
      go_enter Try.func4, Try.ntmps4
      go_wp2_with fail
      refine (make_any _ _ _).mono ?_; rintro e w' ⟨rfl, rfl⟩
      go_wp2_with fail
      refine (alive02 _).mono ?_; rintro e w' ⟨rfl, rfl⟩
      go_wp2_with fail
      go_ret
      exact ⟨rfl, rfl⟩
  by_cases h1 : 1099511627776 < v
  · have e1 := make_out v b (.inr h1)
    cases b
    all_goals
      simp only [if_true, Bool.false_eq_true, if_false] at e1
      go_enter Try.func4, Try.ntmps4
      go_wp2_with fail
      refine (make_any _ _ _).mono ?_; rintro e w' ⟨rfl, rfl⟩
      go_wp2_with fail
      refine (alive02 _).mono ?_; rintro e w' ⟨rfl, rfl⟩
      go_wp2_with fail
      go_ret
      exact ⟨rfl, rfl⟩
  · have h2 : ¬ (v < 0 ∨ 1099511627776 < v) := by omega
    have e1 := var_make v b h2
    have e2 := neg_make v b h2
    have H2 := Lib.hid h2
    clear h2
    go_enter Try.func4, Try.ntmps4
    go_wp2_with fail
    refine (make_any _ _ _).mono ?_; rintro e w' ⟨rfl, rfl⟩
    go_wp2_with fail
    refine (var_any _ _).mono ?_; rintro e w' ⟨rfl, rfl⟩
    go_wp2_with fail
    refine (neg_any _ _).mono ?_; rintro e w' ⟨rfl, rfl⟩
    go_wp2_with fail
    refine (alive02 _).mono ?_; rintro e w' ⟨rfl, rfl⟩
    go_wp2_with fail
    go_ret
    exact ⟨rfl, rfl⟩
end litsMakes
end Go.Proofs.Ytmpeppgljjjmdaa
