/-
  interlocklaw22.alive: the page's example.
-/
import Derived.Test.YteamijldmhcicaaDeltaAdd
import Derived.Test.YteamijldmhcicaaDeltaAt
import Derived.Test.YteamijldmhcicaaDeltaNew
namespace Go.Proofs.Yteamijldmhcicaa
open Go.RowKit Base Own3N
set_option linter.unusedVariables false
set_option linter.unusedSimpArgs false
namespace Delta

theorem ex_one : add (empties 3) 1 [1, 2] = ([[], [[1, 2]], []], 0) := by decide +kernel
theorem ex_two : add [[], [[1, 2]], []] 2 [1] = ([[], [], [[1]]], 0) := by decide +kernel
theorem ex_at : atL [[], [], [[1]]] 1 = [[1]] := by decide +kernel

theorem ex_wf2 : Clause.Wf [1, 2] := by intro z hz; simp at hz; rcases hz with rfl | rfl <;> omega
theorem ex_wf1 : Clause.Wf [1] := by intro z hz; simp at hz; subst hz; omega

set_option maxRecDepth 4000 in
set_option maxHeartbeats 4000000 in
theorem alive_any (w : World) :
    Calls Try.prog 6 #[] w fun e w' => e = .returned (.bool true) ∧ Below w.heap.size w w' := by
  have NW := Lib.hid (new_any w 3 (by omega))
  go_enter Try.func6, Try.ntmps6
  go_wp2_with fail
  refine NW.out.mono ?_
  rintro e w1 ⟨a1, c1, vs1, rfl, hs1, hb1⟩
  have HB1 := Lib.hid hb1
  obtain ⟨W2, hW2⟩ : ∃ W2, w1.alloc (.cells #[.slice a1 3 c1] 24) = W2 := ⟨_, rfl⟩
  have hb2 : Below w1.heap.size w1 W2 := by rw [← hW2]; exact (Below.refl _ _).alloc (Nat.le_refl _) _
  have k2 : W2.cell? ⟨w1.heap.size, 0, none⟩ = some (.slice a1 3 c1) := by rw [← hW2]; simp [go_sem]
  have f2 : W2.frozen? ⟨w1.heap.size, 0, none⟩ = false := by rw [← hW2]; simp [go_sem]
  have z2 : W2.heap.size = w1.heap.size + 1 := by rw [← hW2]; simp
  obtain ⟨W3, hW3⟩ : ∃ W3, W2.alloc (.cells #[.int .i64 1, .int .i64 2] 3) = W3 := ⟨_, rfl⟩
  have hb3 : Below W2.heap.size W2 W3 := by rw [← hW3]; exact (Below.refl _ _).alloc (Nat.le_refl _) _
  have s3 : Sl W3 (some ⟨w1.heap.size + 1, 0, none⟩) 2 2 (ints [1, 2]) := by rw [← z2, ← hW3]; exact sl_new W2 #[.int .i64 1, .int .i64 2] 3 2 rfl (by decide)
  have k3 := (hb3.cell (p := ⟨w1.heap.size, 0, none⟩) (by show w1.heap.size < W2.heap.size; omega)).trans k2
  have f3 := (hb3.frozen (p := ⟨w1.heap.size, 0, none⟩) (by show w1.heap.size < W2.heap.size; omega)).trans f2
  have z3 : W3.heap.size = w1.heap.size + 2 := by rw [← hW3]; simp [z2]
  have A1 := add_any W3 a1 3 c1 vs1 (empties 3) ((hs1.next hb2).next hb3) (by omega) (by decide) (by decide) (by decide) 1 (by omega) (by omega) _ 2 2 [1, 2] s3 ex_wf2 (by omega)
  rw [ex_one] at A1
  have HA1 := Lib.hid A1
  have HB3 := Lib.hid (hb1.trans ((hb2.trans (hb3.mono hb2.size)).mono hb1.size))
  clear A1 hb1 hb2 hb3 s3 hs1
  go_wp2_with fail
  try rw [z2]
  refine HA1.out.mono ?_
  rintro e w4 ⟨a4, c4, vs4, rfl, hs4, hb4⟩
  have k4 := (hb4.cell (p := ⟨w1.heap.size, 0, none⟩) (by show w1.heap.size < W3.heap.size; omega)).trans k3
  have f4 := (hb4.frozen (p := ⟨w1.heap.size, 0, none⟩) (by show w1.heap.size < W3.heap.size; omega)).trans f3
  have hlt4 : w1.heap.size < w4.heap.size := by have := hb4.size; omega
  have HZ3 := Lib.hid (And.intro z3 HB3.out.size)
  have HB4 := Lib.hid (HB3.out.trans (hb4.mono HB3.out.size))
  have hlt4 : w1.heap.size < w4.heap.size := by have := hb4.size; omega
  clear hb4 k3 f3 k2 f2 z2 hW2 hW3
  obtain ⟨W4, hW4⟩ : ∃ W4, w4.setCell ⟨w1.heap.size, 0, none⟩ (.slice a4 3 c4) = W4 := ⟨_, rfl⟩
  obtain ⟨W5, hW5⟩ : ∃ W5, W4.alloc (.cells #[.int .i64 1] 3) = W5 := ⟨_, rfl⟩
  have z4 : W4.heap.size = w4.heap.size := by rw [← hW4]; simp [World.setCell]
  have k4' : W4.cell? ⟨w1.heap.size, 0, none⟩ = some (.slice a4 3 c4) := by rw [← hW4]; exact World.cell?_setCell_same _ _ _ k4
  have f4' : W4.frozen? ⟨w1.heap.size, 0, none⟩ = false := by rw [← hW4, World.frozen?_setCell]; exact f4
  have s4 : Sl3 W4 a4 3 c4 vs4 [[], [[1, 2]], []] := hs4 W4 (by rw [← hW4]; exact Keeps.set (by have := HZ3.out; omega) _ _)
  have hb5 : Below W4.heap.size W4 W5 := by rw [← hW5]; exact (Below.refl _ _).alloc (Nat.le_refl _) _
  have s5 : Sl W5 (some ⟨w4.heap.size, 0, none⟩) 1 1 (ints [1]) := by rw [← z4, ← hW5]; exact sl_new W4 #[.int .i64 1] 3 1 rfl (by decide)
  have k5 := (hb5.cell (p := ⟨w1.heap.size, 0, none⟩) (by show w1.heap.size < W4.heap.size; omega)).trans k4'
  have f5 := (hb5.frozen (p := ⟨w1.heap.size, 0, none⟩) (by show w1.heap.size < W4.heap.size; omega)).trans f4'
  have z5 : W5.heap.size = w4.heap.size + 1 := by rw [← hW5]; simp [z4]
  have A2 := add_any W5 a4 3 c4 vs4 [[], [[1, 2]], []] (s4.next hb5) (by omega) (by decide) (by decide) (by decide) 2 (by omega) (by omega) _ 1 1 [1] s5 ex_wf1 (by omega)
  rw [ex_two] at A2
  have HA2 := Lib.hid A2
  have HBW4 : Hid (Below w.heap.size w W4) := by
    show Below _ _ _
    rw [← hW4]
    exact HB4.out.setCell (by show w.heap.size ≤ w1.heap.size; have := HB1.out.size; exact this) _
  have HB5 := Lib.hid (HBW4.out.trans (hb5.mono HBW4.out.size))
  clear A2 hb5 s4 s5 hs4
  go_wp2_with fail
  try rw [z4]
  refine HA2.out.mono ?_
  rintro e w6 ⟨a6, c6, vs6, rfl, hs6, hb6⟩
  have k6 := (hb6.cell (p := ⟨w1.heap.size, 0, none⟩) (by show w1.heap.size < W5.heap.size; omega)).trans k5
  have f6 := (hb6.frozen (p := ⟨w1.heap.size, 0, none⟩) (by show w1.heap.size < W5.heap.size; omega)).trans f5
  have HB6 := Lib.hid (HB5.out.trans (hb6.mono HB5.out.size))
  have HZ5 : Hid (w1.heap.size < W5.heap.size) := by show _ < _; omega
  clear hb6 k5 f5 k4 f4 k4' f4' z4 hW4 hW5 hlt4 z5
  obtain ⟨W7, hW7⟩ : ∃ W7, w6.setCell ⟨w1.heap.size, 0, none⟩ (.slice a6 3 c6) = W7 := ⟨_, rfl⟩
  have k7 : W7.cell? ⟨w1.heap.size, 0, none⟩ = some (.slice a6 3 c6) := by rw [← hW7]; exact World.cell?_setCell_same _ _ _ k6
  have s7 : Sl3 W7 a6 3 c6 vs6 [[], [], [[1]]] := hs6 W7 (by rw [← hW7]; exact Keeps.set (by have := HZ5.out; omega) _ _)
  have A7 := at_any W7 a6 3 c6 vs6 [[], [], [[1]]] s7 (by decide) (by decide) 1
  have e1 : (1 : Int).toNat = 1 := rfl
  rw [e1, ex_at] at A7
  have HA7 := Lib.hid A7
  have HB7 : Hid (Below w.heap.size w W7) := by
    show Below _ _ _
    rw [← hW7]
    exact HB6.out.setCell (by show w.heap.size ≤ w1.heap.size; have := HB1.out.size; exact this) _
  clear A7 s7 hs6 e1
  go_wp2_with fail
  refine HA7.out.mono ?_
  rintro e w8 ⟨a8, c8, vs8, rfl, ho8, hb8⟩
  obtain ⟨b, o, a9, c9, hx, rfl, hbs, hc, hs9, _⟩ := ho8.sl2'.at (k := 0) (by decide)
  have hcap8 := ho8.sl2'.sl.cap
  have hbig8 := ho8.sl2'.sl.big
  have HB8 := Lib.hid (HB7.out.trans (hb8.mono HB7.out.size))
  simp only [List.length_cons, List.length_nil, Nat.zero_add, Nat.add_zero, List.getElem_cons_zero] at *
  clear ho8 hb8 hs9 k7 hW7 k6 f6
  go_wp2_with fail
  go_ret
  exact ⟨ret_bool (by simp), HB8.out⟩

end Delta
end Go.Proofs.Yteamijldmhcicaa
