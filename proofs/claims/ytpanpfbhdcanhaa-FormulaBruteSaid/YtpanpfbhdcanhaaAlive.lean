/-
  interlocklaw11.alive: the page's example.
-/
import Derived.Test.YtpanpfbhdcanhaaUnitsTop
import Derived.Test.YtpanpfbhdcanhaaPlainInts
namespace Go.Proofs.Ytpanpfbhdcanhaa
open Go.RowKit Base
set_option linter.unusedVariables false
set_option linter.unusedSimpArgs false
namespace Alive

theorem num_any (w : World) (x : Int) : Calls Try.prog 9 #[.int .i64 x] w fun e w' => e = .returned (.int .i64 x) ∧ w = w' := by
  go_enter Try.func9, Try.ntmps9
  go_wp2
  go_ret
  exact ⟨rfl, rfl⟩

def W3 (w : World) : World :=
  ((w.alloc (.cells #[.int .i64 1] 3)).alloc (.cells #[.int .i64 (-1), .int .i64 2] 3)).alloc (.cells #[.slice (some ⟨w.heap.size, 0, none⟩) 1 1, .slice (some ⟨w.heap.size + 1, 0, none⟩) 2 2] 25)

theorem three (w : World) : Sl2 (W3 w) (some ⟨w.heap.size + 1 + 1, 0, none⟩) 2 2 [.slice (some ⟨w.heap.size, 0, none⟩) 1 1, .slice (some ⟨w.heap.size + 1, 0, none⟩) 2 2] [[1], [-1, 2]] ∧ Below w.heap.size w (W3 w) := by
  have h1 := sl_new w #[.int .i64 1] 3 1 rfl (by decide)
  have h2 := sl_new (w.alloc (.cells #[.int .i64 1] 3)) #[.int .i64 (-1), .int .i64 2] 3 2 rfl (by decide)
  have h3 := sl_new ((w.alloc (.cells #[.int .i64 1] 3)).alloc (.cells #[.int .i64 (-1), .int .i64 2] 3)) #[.slice (some ⟨w.heap.size, 0, none⟩) 1 1, .slice (some ⟨w.heap.size + 1, 0, none⟩) 2 2] 25 2 rfl (by decide)
  have s1 : (w.alloc (.cells #[.int .i64 1] 3)).heap.size = w.heap.size + 1 := by simp
  have s2 : ((w.alloc (.cells #[.int .i64 1] 3)).alloc (.cells #[.int .i64 (-1), .int .i64 2] 3)).heap.size = w.heap.size + 1 + 1 := by simp
  rw [s1] at h2
  rw [s2] at h3
  have b1 : Below w.heap.size w (w.alloc (.cells #[.int .i64 1] 3)) := (Below.refl _ _).alloc (Nat.le_refl _) _
  have b2 : Below w.heap.size w ((w.alloc (.cells #[.int .i64 1] 3)).alloc (.cells #[.int .i64 (-1), .int .i64 2] 3)) := b1.alloc (by rw [s1]; omega) _
  have b3 := b2.alloc (by rw [s2]; omega) (.cells #[.slice (some ⟨w.heap.size, 0, none⟩) 1 1, .slice (some ⟨w.heap.size + 1, 0, none⟩) 2 2] 25)
  refine ⟨⟨h3, rfl, ?_⟩, b3⟩
  intro k v xs hv hxs
  match k, hv, hxs with
  | 0, hv, hxs =>
    simp at hv hxs
    subst hv; subst hxs
    refine ⟨_, _, rfl, ?_⟩
    exact (h1.next ((Below.refl _ _).alloc (Nat.le_refl _) _)).next ((Below.refl _ _).alloc (Nat.le_refl _) _)
  | 1, hv, hxs =>
    simp at hv hxs
    subst hv; subst hxs
    refine ⟨_, _, rfl, ?_⟩
    exact h2.next ((Below.refl _ _).alloc (Nat.le_refl _) _)

theorem spec_one : Units.spec 2 [[1], [-1, 2]] [] = ([1, 2], true, 0) := by decide

theorem wf_one : Formula.Wf2 [[1], [-1, 2]] := by
  intro l hl x hx
  simp at hl
  rcases hl with rfl | rfl <;> simp at hx <;> omega

set_option maxHeartbeats 1000000 in
theorem alive_any (w : World) : Calls Try.prog 7 #[] w fun e w' => e = .returned (.bool true) ∧ Below w.heap.size w w' := by
  obtain ⟨h3, hb3⟩ := three w
  obtain ⟨W, hW⟩ : ∃ W, W = W3 w := ⟨_, rfl⟩
  rw [← hW] at h3 hb3
  have H := Lib.hid (Units.units_any W 2 _ 2 2 _ _ h3 wf_one none 0 0 [] (Sl.nil _) (fun x hx => by cases hx))
  rw [spec_one] at H
  have HW := Lib.hid hW
  clear hW h3
  go_enter Try.func7, Try.ntmps7
  go_wp2_with fail
  have e : ((w.alloc (.cells #[.int .i64 1] 3)).alloc (.cells #[.int .i64 (-1), .int .i64 2] 3)).alloc (.cells #[.slice (some ⟨w.heap.size, 0, none⟩) 1 1, .slice (some ⟨w.heap.size + 1, 0, none⟩) 2 2] 25) = W := HW.out.symm
  rw [e]
  clear e
  refine H.out.mono ?_
  rintro e w1 ⟨a1, c1, rfl, hs1, hb1⟩
  go_wp2_with fail
  refine (num_any _ _).mono ?_
  rintro e w2 ⟨rfl, rfl⟩
  go_wp2_with fail
  have hs3 := sl_new w1 #[.int .i64 1, .int .i64 2] 3 2 rfl (by decide)
  refine (Plain.ints_any _ _ _ _ _ _ _ [1, 2] [1, 2] (hs1.next ((Below.refl _ _).alloc (Nat.le_refl _) _)) hs3).mono ?_
  rintro e w3 ⟨rfl, hb3'⟩
  go_wp2_with fail
  go_ret
  refine ⟨by rfl, ?_⟩
  have hbw1 : Below w.heap.size w w1 := hb3.trans (hb1.mono hb3.size)
  exact (hbw1.alloc hbw1.size _).trans (hb3'.mono (by have := hbw1.size; simp; omega))
end Alive
end Go.Proofs.Ytpanpfbhdcanhaa
