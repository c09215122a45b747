/-
  interlocklaw38.alive: the page's example.
-/
import Derived.Test.YthhkngpbaflfiaaClean
import Derived.Test.YthhkngpbaflfiaaPlainInts
namespace Go.Proofs.Ythhkngpbaflfiaa
open Go.RowKit Base
set_option linter.unusedVariables false
set_option linter.unusedSimpArgs false
namespace Pre

theorem sub_ex : subsumed [[1, 2], [1]] = [[1]] := by decide +kernel
theorem chk_ex : Formula.check 2 [[1, 2], [1]] = 0 := by decide

theorem wf_ex : Formula.Wf2 [[1, 2], [1]] := by
  intro l hl x hx
  simp at hl
  rcases hl with rfl | rfl
  · simp at hx; rcases hx with rfl | rfl <;> omega
  · simp at hx; subst hx; omega

set_option maxHeartbeats 2000000 in
theorem alive_any (w : World) :
    Calls Try.prog 12 #[] w fun e w' => e = .returned (.bool true) ∧ Below w.heap.size w w' := by
  obtain ⟨W1, hW1⟩ : ∃ W1, w.alloc (.cells #[.int .i64 1, .int .i64 2] 3) = W1 := ⟨_, rfl⟩
  obtain ⟨W2, hW2⟩ : ∃ W2, W1.alloc (.cells #[.int .i64 1] 3) = W2 := ⟨_, rfl⟩
  have h1 : Below w.heap.size w W1 := by rw [← hW1]; exact (Below.refl _ _).alloc (Nat.le_refl _) _
  have h2 : Below W1.heap.size W1 W2 := by rw [← hW2]; exact (Below.refl _ _).alloc (Nat.le_refl _) _
  have z1 : W1.heap.size = w.heap.size + 1 := by rw [← hW1]; simp
  have z2 : W2.heap.size = w.heap.size + 2 := by rw [← hW2]; simp [z1]
  have s1 : Sl W1 (some ⟨w.heap.size, 0, none⟩) 2 2 (ints [1, 2]) := by rw [← hW1]; exact sl_new w #[.int .i64 1, .int .i64 2] 3 2 rfl (by decide)
  have s2 : Sl W2 (some ⟨w.heap.size + 1, 0, none⟩) 1 1 (ints [1]) := by rw [← z1, ← hW2]; exact sl_new W1 #[.int .i64 1] 3 1 rfl (by decide)
  obtain ⟨W3, hW3⟩ : ∃ W3, W2.alloc (.cells #[.slice (some ⟨w.heap.size, 0, none⟩) 2 2, .slice (some ⟨w.heap.size + 1, 0, none⟩) 1 1] 29) = W3 := ⟨_, rfl⟩
  have h3 : Below W2.heap.size W2 W3 := by rw [← hW3]; exact (Below.refl _ _).alloc (Nat.le_refl _) _
  have s3 : Sl W3 (some ⟨w.heap.size + 2, 0, none⟩) 2 2 [.slice (some ⟨w.heap.size, 0, none⟩) 2 2, .slice (some ⟨w.heap.size + 1, 0, none⟩) 1 1] := by rw [← z2, ← hW3]; exact sl_new W2 _ 29 2 rfl (by decide)
  have ss : Sl2 W3 (some ⟨w.heap.size + 2, 0, none⟩) 2 2 [.slice (some ⟨w.heap.size, 0, none⟩) 2 2, .slice (some ⟨w.heap.size + 1, 0, none⟩) 1 1] [[1, 2], [1]] := by
    refine ⟨s3, rfl, fun k v xs hv hx => ?_⟩
    match k, hv, hx with
    | 0, hv, hx =>
      simp at hv hx; subst hv; subst hx
      exact ⟨_, _, rfl, (s1.next h2).next h3⟩
    | 1, hv, hx =>
      simp at hv hx; subst hv; subst hx
      exact ⟨_, _, rfl, s2.next h3⟩
  have S := subsume_any W3 2 _ 2 2 _ _ ss wf_ex
  unfold FormOut at S
  rw [chk_ex, sub_ex] at S
  simp only [if_true] at S
  have HS := Lib.hid S
  have HB := Lib.hid (h1.trans ((h2.trans (h3.mono h2.size)).mono h1.size))
  clear S ss s1 s2 s3 h1 h2 h3
  go_enter Try.func12, Try.ntmps12
  go_wp2_with fail
  try rw [z1]
  try rw [z2]
  refine HS.out.mono ?_
  rintro e w4 ⟨⟨a4, c4, vals4, rfl, ho4⟩, hb4⟩
  have hs4 := ho4.sl2'
  obtain ⟨b, o, a5, c5, hx, rfl, hbs, hc, hs5, _⟩ := hs4.at (k := 0) (by decide)
  have HB4 := Lib.hid (HB.out.trans (hb4.mono HB.out.size))
  have hal : Below w4.heap.size w4 (w4.alloc (.cells #[.int .i64 2, .slice (some ⟨b, o, none⟩) 1 c4] 24)) := (Below.refl _ _).alloc (Nat.le_refl _) _
  have hcap := hs4.sl.cap
  have hbig := hs4.sl.big
  have k0 := (hal.cell (p := ⟨b, o + 0, none⟩) hbs).trans hc
  have k1 : (w4.alloc (.cells #[.int .i64 2, .slice (some ⟨b, o, none⟩) 1 c4] 24)).cell? ⟨w4.heap.size, 1, none⟩ = some (.slice (some ⟨b, o, none⟩) 1 c4) := by simp [go_sem]
  have hs6 := hs5.next hal
  have hm1 := HB4.out.trans (hal.mono HB4.out.size)
  simp only [List.length_cons, List.length_nil, Nat.zero_add, Nat.add_zero, List.getElem_cons_zero] at *
  generalize hW4 : w4.alloc (.cells #[.int .i64 2, .slice (some ⟨b, o, none⟩) 1 c4] 24) = W4 at *
  have hal2 : Below W4.heap.size W4 (W4.alloc (.cells #[.int .i64 1] 3)) := (Below.refl _ _).alloc (Nat.le_refl _) _
  have s6 := sl_new W4 #[.int .i64 1] 3 1 rfl (by decide)
  have PI := Lib.hid (Plain.ints_any (W4.alloc (.cells #[.int .i64 1] 3)) a5 _ 1 1 c5 1 [1] [1] (hs6.next hal2) s6)
  have HB5 := Lib.hid (hm1.trans (hal2.mono hm1.size))
  clear ho4 hb4 hs4 hs5 hs6 hal hal2 s6 hm1 hc
  go_wp2_with fail
  refine PI.out.mono ?_
  rintro e w7 ⟨rfl, hb7⟩
  have HB7 := Lib.hid (HB5.out.trans (hb7.mono HB5.out.size))
  clear hb7
  go_wp2_with fail
  go_ret
  exact ⟨ret_bool (by simp), HB7.out⟩

end Pre
end Go.Proofs.Ythhkngpbaflfiaa
