/-
  interlocklaw10.alive: the page's example.
-/
import Derived.Test.YtdkclipjlleacaaResolve
import Derived.Test.YtdkclipjlleacaaSameC
import Derived.Test.YtdkclipjlleacaaPlainInts
namespace Go.Proofs.Ytdkclipjlleacaa
open Go.RowKit Base
set_option linter.unusedVariables false
set_option linter.unusedSimpArgs false
namespace ClauseLaw

theorem resolve_ex : Clause.resolve [1, 2] [-1, 3] 1 = ([2, 3], 0) := by decide

theorem wf2 (x y : Int) (h : -9223372036854775808 ≤ x ∧ x ≤ 9223372036854775807) (h' : -9223372036854775808 ≤ y ∧ y ≤ 9223372036854775807) : Clause.Wf [x, y] := by
  intro z hz
  rcases List.mem_cons.1 hz with rfl | hz
  · exact h
  · rw [List.mem_singleton] at hz; subst hz; exact h'

set_option maxHeartbeats 400000 in
theorem num_any (x : Int) (w : World) (h0 : -9223372036854775808 ≤ x) (h1 : x ≤ 9223372036854775807) :
    Calls Try.prog 11 #[.int .i64 x] w fun e w' => e = .returned (.int .i64 x) ∧ w = w' := by
  go_enter Try.func11, Try.ntmps11
  go_wp2
  go_ret
  exact ⟨rfl, rfl⟩

set_option maxHeartbeats 2000000 in
theorem alive_any (w : World) :
    Calls Try.prog 6 #[] w fun e w' => e = .returned (.bool true) ∧ Below w.heap.size w w' := by
  have h1 : Below w.heap.size w (w.alloc (.cells #[.int .i64 1, .int .i64 2] 3)) := (Below.refl _ _).alloc (Nat.le_refl _) _
  have s1 := sl_new w #[.int .i64 1, .int .i64 2] 3 2 rfl (by decide)
  generalize hW1 : w.alloc (.cells #[.int .i64 1, .int .i64 2] 3) = W1 at *
  have h2 : Below W1.heap.size W1 (W1.alloc (.cells #[.int .i64 (-1), .int .i64 3] 3)) := (Below.refl _ _).alloc (Nat.le_refl _) _
  have s2 := sl_new W1 #[.int .i64 (-1), .int .i64 3] 3 2 rfl (by decide)
  have z1 : W1.heap.size = w.heap.size + 1 := by rw [← hW1]; simp
  have s1' := s1.next h2
  generalize hW2 : W1.alloc (.cells #[.int .i64 (-1), .int .i64 3] 3) = W2 at *
  have R := Clause.resolve_any W2 _ 2 2 [1, 2] s1' (wf2 _ _ (by omega) (by omega)) _ 2 2 [-1, 3] s2 (wf2 _ _ (by omega) (by omega)) (by omega) 1 (by omega) (by omega)
  rw [resolve_ex] at R
  have HR := Lib.hid R
  have HB := Lib.hid (h1.trans (h2.mono h1.size))
  clear R s1 s1' s2 h1 h2
  go_enter Try.func6, Try.ntmps6
  go_wp2_with fail
  rw [← z1]
  refine HR.out.mono ?_
  rintro e w3 ⟨a3, c3, rfl, hown3, hb3⟩
  have HO3 := Lib.hid (Clause.own_ints hown3)
  have HB3 := Lib.hid (HB.out.trans (hb3.mono HB.out.size))
  have NM := Lib.hid (num_any 0 w3 (by omega) (by omega))
  have h4 : Below w3.heap.size w3 (w3.alloc (.cells #[.int .i64 2, .int .i64 3] 3)) := (Below.refl _ _).alloc (Nat.le_refl _) _
  have s4 := sl_new w3 #[.int .i64 2, .int .i64 3] 3 2 rfl (by decide)
  have PI := Lib.hid (Plain.ints_any (w3.alloc (.cells #[.int .i64 2, .int .i64 3] 3)) a3 _ 2 2 c3 2 [2, 3] [2, 3] (HO3.out.next h4) s4)
  have HB4 := Lib.hid (HB3.out.trans (h4.mono HB3.out.size))
  clear hown3 hb3 h4 s4
  go_wp2_with fail
  refine NM.out.mono ?_; rintro e w4 ⟨rfl, rfl⟩
  go_wp2_with fail
  refine PI.out.mono ?_; rintro e w5 ⟨rfl, hb5⟩
  go_wp2_with fail
  go_ret
  exact ⟨ret_bool (by simp), HB4.out.trans (hb5.mono HB4.out.size)⟩

end ClauseLaw
end Go.Proofs.Ytdkclipjlleacaa
