/-
  clause.Same: are two clauses one, in order?
-/
import Derived.Test.YtdpmfcfelncbeaaCNorm
import Derived.Test.YtdpmfcfelncbeaaEqI
import Derived.Test.YtdpmfcfelncbeaaClauseP
namespace Go.Proofs.Ytdpmfcfelncbeaa
open Go.RowKit Base
set_option linter.unusedVariables false
set_option linter.unusedSimpArgs false
namespace Clause
open RefC (norm)

theorem own_ints {w : World} {B : Nat} {a : Option Addr} {n c : Nat} {xs : List Int} (h : w.ownsRow B 3 1 (.slice a n c) n (ints xs)) : Sl w a n c (ints xs) := by
  obtain ⟨a', c', hv, hsl⟩ := own_sl h
  simp only [Value.slice.injEq] at hv
  obtain ⟨rfl, _, rfl⟩ := hv
  exact hsl

set_option maxHeartbeats 2000000 in
theorem same_any (w : World) (a : Option Addr) (n c : Nat) (xs : List Int) (hsl : Sl w a n c (ints xs)) (hw : Wf xs) (a2 : Option Addr) (n2 c2 : Nat) (ys : List Int) (hsl2 : Sl w a2 n2 c2 (ints ys)) (hw2 : Wf ys)
    (hn : n * 8 ≤ 140737488355328) (hn2 : n2 * 8 ≤ 140737488355328) :
    Calls Try.prog 38 #[.slice a n c, .slice a2 n2 c2] w fun e w' => e = .returned (.bool (decide (norm xs = norm ys))) ∧ Below w.heap.size w w' := by
  have N1 := Lib.hid (norm_any w a n c xs hsl hw hn)
  have HS2 := Lib.hid hsl2
  have HW2 := Lib.hid hw2
  have HN2 := Lib.hid hn2
  clear hsl hsl2 hw hw2 hn hn2
  go_enter Try.func38, Try.ntmps38
  go_wp2_with fail
  refine N1.out.mono ?_; rintro e w1 ⟨a1, c1, rfl, hown1, hb1⟩
  have N2 := Lib.hid (norm_any w1 a2 n2 c2 ys (HS2.out.next hb1) HW2.out HN2.out)
  have HSL1 := Lib.hid (own_ints hown1)
  have HB1 := Lib.hid hb1
  clear hown1 hb1
  generalize hL1 : norm xs = L1 at *
  generalize hL2 : norm ys = L2 at *
  have HLL := Lib.hid (And.intro hL1 hL2)
  clear hL1 hL2
  generalize hl1 : L1.length = m1 at *
  generalize hl2 : L2.length = m2 at *
  clear hl1
  go_wp2_with fail
  refine N2.out.mono ?_; rintro e w2 ⟨a3, c3, rfl, hown2, hb2⟩
  rw [hl2] at hown2 ⊢
  have E := Lib.hid (EqI.equal_any w2 a1 a3 m1 m2 c1 c3 L1 L2 (HSL1.out.next hb2) (own_ints hown2))
  have HB2 := Lib.hid (HB1.out.trans (hb2.mono HB1.out.size))
  clear hown2 hb2 hl2
  go_wp2_with fail
  refine E.out.mono ?_; rintro e w3 ⟨rfl, q, rfl⟩
  go_wp2_with fail
  go_ret
  exact ⟨ret_bool (by rw [HLL.out.1, HLL.out.2]), below_drewN HB2.out q⟩

end Clause
end Go.Proofs.Ytdpmfcfelncbeaa
