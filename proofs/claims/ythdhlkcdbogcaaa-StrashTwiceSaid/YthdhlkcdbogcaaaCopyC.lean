/-
  circuit.Copy: a circuit in memory of its own.
-/
import Derived.Test.YthdhlkcdbogcaaaOwnC
import Derived.Test.YthdhlkcdbogcaaaCloneT
import Derived.Test.YthdhlkcdbogcaaaCloneI
import Derived.Test.YthdhlkcdbogcaaaHeldTo
import Derived.Deep.DeepCutAuto
import Derived.BigQuiet
namespace Go.Proofs.Ythdhlkcdbogcaaa
open Go.RowKit Base
set_option linter.unusedVariables false
set_option linter.unusedSimpArgs false
namespace Circuit

set_option maxRecDepth 8000 in
set_option maxHeartbeats 16000000 in
theorem copy_any (w : World) (x : Circ) (p : At) (hin : InCirc w x p) (hfit : Fits x) :
    Calls Try.prog 17 #[.agg (cells x p)] w fun e w' => ∃ p', e = .returned (.agg (cells x p')) ∧ OwnC w' w.heap.size x p' ∧ Below w.heap.size w w' := by
  obtain ⟨a1, c1, a2, c2, a3, c3, a4, c4, a5, c5, a6, c6, a7, c7⟩ := p
  obtain ⟨mx, ins, lats, outs, bads, invs, ands, names⟩ := x
  obtain ⟨i1, i2, i3, i4, i5, i6, i7⟩ := hin
  obtain ⟨z1, z2, z3, z4, z5, z6, z7⟩ := hfit
  simp only [cells] at *
  obtain ⟨W1, hW1⟩ : ∃ W1, w.alloc (.cells #[.int .i64 mx, .slice a1 ins.length c1, .slice a2 lats.length c2, .slice a3 outs.length c3, .slice a4 bads.length c4, .slice a5 invs.length c5, .slice a6 ands.length c6, .slice a7 names.length c7] 27) = W1 := ⟨_, rfl⟩
  obtain ⟨W2, hW2⟩ : ∃ W2, W1.alloc (.cells #[.int .i64 0, .slice none 0 0, .slice none 0 0, .slice none 0 0, .slice none 0 0, .slice none 0 0, .slice none 0 0, .slice none 0 0] 27) = W2 := ⟨_, rfl⟩
  have h1 : Below w.heap.size w W1 := by rw [← hW1]; exact (Below.refl _ _).alloc (Nat.le_refl _) _
  have h2 : Below W1.heap.size W1 W2 := by rw [← hW2]; exact (Below.refl _ _).alloc (Nat.le_refl _) _
  have e1 : W1.heap.size = w.heap.size + 1 := by rw [← hW1]; simp
  have e2 : W2.heap.size = w.heap.size + 2 := by rw [← hW2]; simp [e1]
  have X1 : BoxN w.heap.size [.int .i64 mx, .slice a1 ins.length c1, .slice a2 lats.length c2, .slice a3 outs.length c3, .slice a4 bads.length c4, .slice a5 invs.length c5, .slice a6 ands.length c6, .slice a7 names.length c7] W2 := by
    have h := BoxN.new w #[.int .i64 mx, .slice a1 ins.length c1, .slice a2 lats.length c2, .slice a3 outs.length c3, .slice a4 bads.length c4, .slice a5 invs.length c5, .slice a6 ands.length c6, .slice a7 names.length c7] 27
    rw [hW1] at h
    exact h.next h2 h.lt
  have X2 : BoxN W1.heap.size [.int .i64 0, .slice none 0 0, .slice none 0 0, .slice none 0 0, .slice none 0 0, .slice none 0 0, .slice none 0 0, .slice none 0 0] W2 := by
    have h := BoxN.new W1 #[.int .i64 0, .slice none 0 0, .slice none 0 0, .slice none 0 0, .slice none 0 0, .slice none 0 0, .slice none 0 0, .slice none 0 0] 27
    rw [hW2] at h
    exact h
  have h12 := h1.trans (h2.mono h1.size)
  have HI1 := Lib.hid i1
  have HI2 := Lib.hid i2
  have HI3 := Lib.hid i3
  have HI4 := Lib.hid i4
  have HI5 := Lib.hid i5
  have HI6 := Lib.hid i6
  have HI7 := Lib.hid i7
  have HB2 := Lib.hid h12
  have HE1 := Lib.hid e1
  have HE2 := Lib.hid e2
  have HX1 := Lib.hid X1
  have HX2 := Lib.hid X2
  have Z1 := Lib.hid z1
  have Z2 := Lib.hid z2
  have Z3 := Lib.hid z3
  have Z4 := Lib.hid z4
  have Z5 := Lib.hid z5
  have Z6 := Lib.hid z6
  have Z7 := Lib.hid z7
  clear i1 i2 i3 i4 i5 i6 i7 h1 h2 e1 e2 X1 X2 h12 z1 z2 z3 z4 z5 z6 z7
  go_enter Try.func17, Try.ntmps17
  go_upto_region 1 with fail
  clear hW1 hW2

  have hB2 : Below W2.heap.size W2 W2.drew := (Below.refl _ _).drew
  have hSK : ∀ U : World, Below W2.heap.size W2 U → U.cell? ⟨w.heap.size, 1, none⟩ = some (.slice a1 ins.length c1) ∧ U.cell? ⟨w.heap.size, 2, none⟩ = some (.slice a2 lats.length c2) ∧ U.cell? ⟨w.heap.size, 3, none⟩ = some (.slice a3 outs.length c3) := fun U hU => by
    have h := HX1.out.next hU HX1.out.lt
    exact ⟨h.at' 1 _ rfl, h.at' 2 _ rfl, h.at' 3 _ rfl⟩
  have hS := hSK _ hB2
  refine HeldTo.region (fun U : World => U.cell? ⟨w.heap.size, 1, none⟩ = some (.slice a1 ins.length c1) ∧ U.cell? ⟨w.heap.size, 2, none⟩ = some (.slice a2 lats.length c2) ∧ U.cell? ⟨w.heap.size, 3, none⟩ = some (.slice a3 outs.length c3)) 10 (by kernel_rfl) ?_
  (refine HeldTo.plain (i := 0) (oi := _) (d := some 3) (v := ?_) rfl rfl (by kernel_rfl) (by kernel_rfl) (by kernel_rfl) (by kernel_rfl) (fun _ _ _ h => h) (Or.inl ⟨by rfl, ?_⟩) (fun _ => hS) ?_; rotate_left; (focus (intro w hSw; clear hSw; go_simp; (try with_reducible rfl); done)); (try simp only [Act.put, List.setIfInBounds_toArray, List.set_cons_zero, List.set_cons_succ]))
  (refine HeldTo.take (i := 1) (oi := _) (d := some 4) (v := ?_) rfl rfl (by kernel_rfl) (by kernel_rfl) (by kernel_rfl) (by kernel_rfl) (by kernel_rfl) (by kernel_rfl) (fun _ _ _ h => h) (Or.inl ⟨by rfl, ?_⟩) hS ?_; rotate_left; (focus (intro w hSw; (try dsimp only at hSw); go_simp; (try with_reducible rfl); done)); (try simp only [Act.put, List.setIfInBounds_toArray, List.set_cons_zero, List.set_cons_succ]))
  (refine HeldTo.plain (i := 3) (oi := _) (d := some 6) (v := ?_) rfl rfl (by kernel_rfl) (by kernel_rfl) (by kernel_rfl) (by kernel_rfl) (fun _ _ _ h => h) (Or.inl ⟨by rfl, ?_⟩) (fun _ => hS) ?_; rotate_left; (focus (intro w hSw; clear hSw; go_simp; (try with_reducible rfl); done)); (try simp only [Act.put, List.setIfInBounds_toArray, List.set_cons_zero, List.set_cons_succ]))
  (refine HeldTo.take (i := 4) (oi := _) (d := some 7) (v := ?_) rfl rfl (by kernel_rfl) (by kernel_rfl) (by kernel_rfl) (by kernel_rfl) (by kernel_rfl) (by kernel_rfl) (fun _ _ _ h => h) (Or.inl ⟨by rfl, ?_⟩) hS ?_; rotate_left; (focus (intro w hSw; (try dsimp only at hSw); go_simp; (try with_reducible rfl); done)); (try simp only [Act.put, List.setIfInBounds_toArray, List.set_cons_zero, List.set_cons_succ]))
  (refine HeldTo.plain (i := 6) (oi := _) (d := some 9) (v := ?_) rfl rfl (by kernel_rfl) (by kernel_rfl) (by kernel_rfl) (by kernel_rfl) (fun _ _ _ h => h) (Or.inl ⟨by rfl, ?_⟩) (fun _ => hS) ?_; rotate_left; (focus (intro w hSw; clear hSw; go_simp; (try with_reducible rfl); done)); (try simp only [Act.put, List.setIfInBounds_toArray, List.set_cons_zero, List.set_cons_succ]))
  (refine HeldTo.take (i := 7) (oi := _) (d := some 10) (v := ?_) rfl rfl (by kernel_rfl) (by kernel_rfl) (by kernel_rfl) (by kernel_rfl) (by kernel_rfl) (by kernel_rfl) (fun _ _ _ h => h) (Or.inl ⟨by rfl, ?_⟩) hS ?_; rotate_left; (focus (intro w hSw; (try dsimp only at hSw); go_simp; (try with_reducible rfl); done)); (try simp only [Act.put, List.setIfInBounds_toArray, List.set_cons_zero, List.set_cons_succ]))
  refine HeldTo.call (i := 2) (oi := _) (d := some 5) (R := fun v w' => ∃ a' c', v = .slice a' ins.length c' ∧ w'.ownsRow W2.drew.heap.size 3 1 (.slice a' ins.length c') ins.length (ints ins) ∧ Below W2.drew.heap.size W2.drew w') rfl rfl (by kernel_rfl) (by rfl) (by go_simp; done) ((CloneI.clone W2.drew a1 ins.length c1 (ints ins) (HI1.out.next (HB2.out.trans (hB2.mono HB2.out.size))) (ints_one ins) Z1.out).mono (fun e w' ⟨a', c', he, ho, hb⟩ => ⟨_, he, a', c', rfl, ho, hb⟩)) ?_
  rintro v w3 ⟨b3, d3, rfl, ho3, hb3⟩
  have hB3 := hB2.trans (hb3.mono hB2.size)
  refine ⟨hSK w3 hB3, ?_⟩
  have hS3 := hSK w3 hB3
  (try simp only [Act.put, List.setIfInBounds_toArray, List.set_cons_zero, List.set_cons_succ])
  (refine HeldTo.plain (i := 9) (oi := _) (d := some 12) (v := ?_) rfl rfl (by kernel_rfl) (by kernel_rfl) (by kernel_rfl) (by kernel_rfl) (fun _ _ _ h => h) (Or.inl ⟨by rfl, ?_⟩) (fun _ => hS3) ?_; rotate_left; (focus (intro w hSw; clear hSw; go_simp; (try with_reducible rfl); done)); (try simp only [Act.put, List.setIfInBounds_toArray, List.set_cons_zero, List.set_cons_succ]))
  refine HeldTo.call (i := 5) (oi := _) (d := some 8) (R := fun v w' => ∃ a' c', v = .slice a' lats.length c' ∧ w'.ownsRow w3.heap.size 39 3 (.slice a' lats.length c') lats.length ((tris lats).flatten) ∧ Below w3.heap.size w3 w') rfl rfl (by kernel_rfl) (by rfl) (by go_simp; done) ((CloneT.latches w3 a2 lats.length c2 (tris lats) (HI2.out.next (HB2.out.trans (hB3.mono HB2.out.size))) (tris_one lats) (tris_row lats) Z2.out).mono (fun e w' ⟨a', c', he, ho, hb⟩ => ⟨_, he, a', c', rfl, ho, hb⟩)) ?_
  rintro v w4 ⟨b4, d4, rfl, ho4, hb4⟩
  have hB4 := hB3.trans (hb4.mono hB3.size)
  refine ⟨hSK w4 hB4, ?_⟩
  have hS4 := hSK w4 hB4
  (try simp only [Act.put, List.setIfInBounds_toArray, List.set_cons_zero, List.set_cons_succ])
  refine HeldTo.call (i := 8) (oi := _) (d := some 11) (R := fun v w' => ∃ a' c', v = .slice a' outs.length c' ∧ w'.ownsRow w4.heap.size 3 1 (.slice a' outs.length c') outs.length (ints outs) ∧ Below w4.heap.size w4 w') rfl rfl (by kernel_rfl) (by rfl) (by go_simp; done) ((CloneI.clone w4 a3 outs.length c3 (ints outs) (HI3.out.next (HB2.out.trans (hB4.mono HB2.out.size))) (ints_one outs) Z3.out).mono (fun e w' ⟨a', c', he, ho, hb⟩ => ⟨_, he, a', c', rfl, ho, hb⟩)) ?_
  rintro v w5 ⟨b5, d5, rfl, ho5, hb5⟩
  have hB5 := hB4.trans (hb5.mono hB4.size)
  refine ⟨hSK w5 hB5, ?_⟩
  have hS5 := hSK w5 hB5
  (try simp only [Act.put, List.setIfInBounds_toArray, List.set_cons_zero, List.set_cons_succ])
  have X5 := HX1.out.next hB5 HX1.out.lt
  obtain ⟨w6, hw6⟩ : ∃ U, w5.setCell ⟨w.heap.size, 1, none⟩ (.slice b3 ins.length d3) = U := ⟨_, rfl⟩
  have X6 := X5.set 1 (.slice b3 ins.length d3)
  rw [hw6] at X6
  have g6 := X5.at' 1 _ rfl
  have f6 := X5.fz 1
  (refine HeldTo.store (i := 10) (oi := _) (d := none) (w2 := w6) rfl rfl (by kernel_rfl) (by kernel_rfl) (by rfl) (by go_simp; done) ?_; (try simp only [Act.put, List.setIfInBounds_toArray, List.set_cons_zero, List.set_cons_succ]))
  clear g6 f6
  (refine HeldTo.plain (i := 11) (oi := _) (d := some 13) (v := ?_) rfl rfl (by kernel_rfl) (by kernel_rfl) (by kernel_rfl) (by kernel_rfl) (fun _ _ _ h => h) (Or.inl ⟨by rfl, ?_⟩) (fun h => absurd h (by decide)) ?_; rotate_left; (focus (intro w hSw; clear hSw; go_simp; (try with_reducible rfl); done)); (try simp only [Act.put, List.setIfInBounds_toArray, List.set_cons_zero, List.set_cons_succ]))
  obtain ⟨w12, hw12⟩ : ∃ U, w6.setCell ⟨w.heap.size, 2, none⟩ (.slice b4 lats.length d4) = U := ⟨_, rfl⟩
  have X12 := X6.set 2 (.slice b4 lats.length d4)
  rw [hw12] at X12
  have g12 := X6.at' 2 _ rfl
  have f12 := X6.fz 2
  (refine HeldTo.store (i := 12) (oi := _) (d := none) (w2 := w12) rfl rfl (by kernel_rfl) (by kernel_rfl) (by rfl) (by go_simp; done) ?_; (try simp only [Act.put, List.setIfInBounds_toArray, List.set_cons_zero, List.set_cons_succ]))
  clear g12 f12
  (refine HeldTo.plain (i := 13) (oi := _) (d := some 14) (v := ?_) rfl rfl (by kernel_rfl) (by kernel_rfl) (by kernel_rfl) (by kernel_rfl) (fun _ _ _ h => h) (Or.inl ⟨by rfl, ?_⟩) (fun h => absurd h (by decide)) ?_; rotate_left; (focus (intro w hSw; clear hSw; go_simp; (try with_reducible rfl); done)); (try simp only [Act.put, List.setIfInBounds_toArray, List.set_cons_zero, List.set_cons_succ]))
  obtain ⟨w13, hw13⟩ : ∃ U, w12.setCell ⟨w.heap.size, 3, none⟩ (.slice b5 outs.length d5) = U := ⟨_, rfl⟩
  have X13 := X12.set 3 (.slice b5 outs.length d5)
  rw [hw13] at X13
  have g13 := X12.at' 3 _ rfl
  have f13 := X12.fz 3
  (refine HeldTo.store (i := 14) (oi := _) (d := none) (w2 := w13) rfl rfl (by kernel_rfl) (by kernel_rfl) (by rfl) (by go_simp; done) ?_; (try simp only [Act.put, List.setIfInBounds_toArray, List.set_cons_zero, List.set_cons_succ]))
  clear g13 f13
  refine HeldTo.done (by kernel_rfl) ?_ _
  have hlt : w.heap.size < W2.heap.size := HX1.out.lt
  have hlt1 : W1.heap.size < W2.heap.size := HX2.out.lt
  have hne : w.heap.size ≠ W1.heap.size := by have := HE1.out; omega
  have o3 := own_next (own_next ho3 hb4) hb5
  have o4 := own_next ho4 hb5
  have o5 := ho5
  have O3 := ownsRow_setCell_below (ownsRow_setCell_below (ownsRow_setCell_below (o3) (a := ⟨w.heap.size, 1, none⟩) hlt (.slice b3 ins.length d3)) (a := ⟨w.heap.size, 2, none⟩) hlt (.slice b4 lats.length d4)) (a := ⟨w.heap.size, 3, none⟩) hlt (.slice b5 outs.length d5)
  rw [hw6, hw12, hw13] at O3
  have O4 := ownsRow_setCell_below (ownsRow_setCell_below (ownsRow_setCell_below (own_mono o4 hB3.size) (a := ⟨w.heap.size, 1, none⟩) hlt (.slice b3 ins.length d3)) (a := ⟨w.heap.size, 2, none⟩) hlt (.slice b4 lats.length d4)) (a := ⟨w.heap.size, 3, none⟩) hlt (.slice b5 outs.length d5)
  rw [hw6, hw12, hw13] at O4
  have O5 := ownsRow_setCell_below (ownsRow_setCell_below (ownsRow_setCell_below (own_mono o5 hB4.size) (a := ⟨w.heap.size, 1, none⟩) hlt (.slice b3 ins.length d3)) (a := ⟨w.heap.size, 2, none⟩) hlt (.slice b4 lats.length d4)) (a := ⟨w.heap.size, 3, none⟩) hlt (.slice b5 outs.length d5)
  rw [hw6, hw12, hw13] at O5
  have Y := (((HX2.out.next hB5 hlt1).other (a := ⟨w.heap.size, 1, none⟩) hne (.slice b3 ins.length d3)).other (a := ⟨w.heap.size, 2, none⟩) hne (.slice b4 lats.length d4)).other (a := ⟨w.heap.size, 3, none⟩) hne (.slice b5 outs.length d5)
  rw [hw6, hw12, hw13] at Y
  have BV := (((HB2.out.trans (hB5.mono HB2.out.size)).setCell (p := ⟨w.heap.size, 1, none⟩) (Nat.le_refl _) (.slice b3 ins.length d3)).setCell (p := ⟨w.heap.size, 2, none⟩) (Nat.le_refl _) (.slice b4 lats.length d4)).setCell (p := ⟨w.heap.size, 3, none⟩) (Nat.le_refl _) (.slice b5 outs.length d5)
  rw [hw6, hw12, hw13] at BV
  have ZV : W2.heap.size ≤ w13.heap.size := by rw [← hw13, ← hw12, ← hw6]; simpa [World.setCell] using hB5.size
  have HO3 := Lib.hid O3
  have HO4 := Lib.hid O4
  have HO5 := Lib.hid O5
  have HY := Lib.hid Y
  have HBV := Lib.hid BV
  have HX13 := Lib.hid X13
  have HZV := Lib.hid ZV
  clear O3 O4 O5 Y BV ZV X13 X12 X6 X5 o3 o4 o5 ho3 ho4 ho5 hb3 hb4 hb5 hB2 hB3 hB4 hB5 hS hS3 hS4 hS5 hSK hw6 hw12 hw13 hlt hlt1 hne
  go_upto_region 2 with fail
  have hB7 : Below w13.heap.size w13 w13.drew := (Below.refl _ _).drew
  have hSK : ∀ U : World, Below w13.heap.size w13 U → U.cell? ⟨w.heap.size, 4, none⟩ = some (.slice a4 bads.length c4) ∧ U.cell? ⟨w.heap.size, 5, none⟩ = some (.slice a5 invs.length c5) ∧ U.cell? ⟨w.heap.size, 6, none⟩ = some (.slice a6 ands.length c6) ∧ U.cell? ⟨w.heap.size, 7, none⟩ = some (.slice a7 names.length c7) := fun U hU => by
    have h := HX13.out.next hU HX13.out.lt
    exact ⟨h.at' 4 _ rfl, h.at' 5 _ rfl, h.at' 6 _ rfl, h.at' 7 _ rfl⟩
  have hS := hSK _ hB7
  refine HeldTo.region (fun U : World => U.cell? ⟨w.heap.size, 4, none⟩ = some (.slice a4 bads.length c4) ∧ U.cell? ⟨w.heap.size, 5, none⟩ = some (.slice a5 invs.length c5) ∧ U.cell? ⟨w.heap.size, 6, none⟩ = some (.slice a6 ands.length c6) ∧ U.cell? ⟨w.heap.size, 7, none⟩ = some (.slice a7 names.length c7)) 13 (by kernel_rfl) ?_
  (refine HeldTo.plain (i := 0) (oi := _) (d := some 15) (v := ?_) rfl rfl (by kernel_rfl) (by kernel_rfl) (by kernel_rfl) (by kernel_rfl) (fun _ _ _ h => h) (Or.inl ⟨by rfl, ?_⟩) (fun _ => hS) ?_; rotate_left; (focus (intro w hSw; clear hSw; go_simp; (try with_reducible rfl); done)); (try simp only [Act.put, List.setIfInBounds_toArray, List.set_cons_zero, List.set_cons_succ]))
  (refine HeldTo.take (i := 1) (oi := _) (d := some 16) (v := ?_) rfl rfl (by kernel_rfl) (by kernel_rfl) (by kernel_rfl) (by kernel_rfl) (by kernel_rfl) (by kernel_rfl) (fun _ _ _ h => h) (Or.inl ⟨by rfl, ?_⟩) hS ?_; rotate_left; (focus (intro w hSw; (try dsimp only at hSw); go_simp; (try with_reducible rfl); done)); (try simp only [Act.put, List.setIfInBounds_toArray, List.set_cons_zero, List.set_cons_succ]))
  (refine HeldTo.plain (i := 3) (oi := _) (d := some 18) (v := ?_) rfl rfl (by kernel_rfl) (by kernel_rfl) (by kernel_rfl) (by kernel_rfl) (fun _ _ _ h => h) (Or.inl ⟨by rfl, ?_⟩) (fun _ => hS) ?_; rotate_left; (focus (intro w hSw; clear hSw; go_simp; (try with_reducible rfl); done)); (try simp only [Act.put, List.setIfInBounds_toArray, List.set_cons_zero, List.set_cons_succ]))
  (refine HeldTo.take (i := 4) (oi := _) (d := some 19) (v := ?_) rfl rfl (by kernel_rfl) (by kernel_rfl) (by kernel_rfl) (by kernel_rfl) (by kernel_rfl) (by kernel_rfl) (fun _ _ _ h => h) (Or.inl ⟨by rfl, ?_⟩) hS ?_; rotate_left; (focus (intro w hSw; (try dsimp only at hSw); go_simp; (try with_reducible rfl); done)); (try simp only [Act.put, List.setIfInBounds_toArray, List.set_cons_zero, List.set_cons_succ]))
  (refine HeldTo.plain (i := 6) (oi := _) (d := some 21) (v := ?_) rfl rfl (by kernel_rfl) (by kernel_rfl) (by kernel_rfl) (by kernel_rfl) (fun _ _ _ h => h) (Or.inl ⟨by rfl, ?_⟩) (fun _ => hS) ?_; rotate_left; (focus (intro w hSw; clear hSw; go_simp; (try with_reducible rfl); done)); (try simp only [Act.put, List.setIfInBounds_toArray, List.set_cons_zero, List.set_cons_succ]))
  (refine HeldTo.take (i := 7) (oi := _) (d := some 22) (v := ?_) rfl rfl (by kernel_rfl) (by kernel_rfl) (by kernel_rfl) (by kernel_rfl) (by kernel_rfl) (by kernel_rfl) (fun _ _ _ h => h) (Or.inl ⟨by rfl, ?_⟩) hS ?_; rotate_left; (focus (intro w hSw; (try dsimp only at hSw); go_simp; (try with_reducible rfl); done)); (try simp only [Act.put, List.setIfInBounds_toArray, List.set_cons_zero, List.set_cons_succ]))
  (refine HeldTo.plain (i := 9) (oi := _) (d := some 24) (v := ?_) rfl rfl (by kernel_rfl) (by kernel_rfl) (by kernel_rfl) (by kernel_rfl) (fun _ _ _ h => h) (Or.inl ⟨by rfl, ?_⟩) (fun _ => hS) ?_; rotate_left; (focus (intro w hSw; clear hSw; go_simp; (try with_reducible rfl); done)); (try simp only [Act.put, List.setIfInBounds_toArray, List.set_cons_zero, List.set_cons_succ]))
  (refine HeldTo.take (i := 10) (oi := _) (d := some 25) (v := ?_) rfl rfl (by kernel_rfl) (by kernel_rfl) (by kernel_rfl) (by kernel_rfl) (by kernel_rfl) (by kernel_rfl) (fun _ _ _ h => h) (Or.inl ⟨by rfl, ?_⟩) hS ?_; rotate_left; (focus (intro w hSw; (try dsimp only at hSw); go_simp; (try with_reducible rfl); done)); (try simp only [Act.put, List.setIfInBounds_toArray, List.set_cons_zero, List.set_cons_succ]))
  refine HeldTo.call (i := 2) (oi := _) (d := some 17) (R := fun v w' => ∃ a' c', v = .slice a' bads.length c' ∧ w'.ownsRow w13.drew.heap.size 3 1 (.slice a' bads.length c') bads.length (ints bads) ∧ Below w13.drew.heap.size w13.drew w') rfl rfl (by kernel_rfl) (by rfl) (by go_simp; done) ((CloneI.clone w13.drew a4 bads.length c4 (ints bads) (HI4.out.next (HBV.out.trans (hB7.mono HBV.out.size))) (ints_one bads) Z4.out).mono (fun e w' ⟨a', c', he, ho, hb⟩ => ⟨_, he, a', c', rfl, ho, hb⟩)) ?_
  rintro v w8 ⟨b8, d8, rfl, ho8, hb8⟩
  have hB8 := hB7.trans (hb8.mono hB7.size)
  refine ⟨hSK w8 hB8, ?_⟩
  have hS8 := hSK w8 hB8
  (try simp only [Act.put, List.setIfInBounds_toArray, List.set_cons_zero, List.set_cons_succ])
  (refine HeldTo.plain (i := 12) (oi := _) (d := some 27) (v := ?_) rfl rfl (by kernel_rfl) (by kernel_rfl) (by kernel_rfl) (by kernel_rfl) (fun _ _ _ h => h) (Or.inl ⟨by rfl, ?_⟩) (fun _ => hS8) ?_; rotate_left; (focus (intro w hSw; clear hSw; go_simp; (try with_reducible rfl); done)); (try simp only [Act.put, List.setIfInBounds_toArray, List.set_cons_zero, List.set_cons_succ]))
  refine HeldTo.call (i := 5) (oi := _) (d := some 20) (R := fun v w' => ∃ a' c', v = .slice a' invs.length c' ∧ w'.ownsRow w8.heap.size 3 1 (.slice a' invs.length c') invs.length (ints invs) ∧ Below w8.heap.size w8 w') rfl rfl (by kernel_rfl) (by rfl) (by go_simp; done) ((CloneI.clone w8 a5 invs.length c5 (ints invs) (HI5.out.next (HBV.out.trans (hB8.mono HBV.out.size))) (ints_one invs) Z5.out).mono (fun e w' ⟨a', c', he, ho, hb⟩ => ⟨_, he, a', c', rfl, ho, hb⟩)) ?_
  rintro v w9 ⟨b9, d9, rfl, ho9, hb9⟩
  have hB9 := hB8.trans (hb9.mono hB8.size)
  refine ⟨hSK w9 hB9, ?_⟩
  have hS9 := hSK w9 hB9
  (try simp only [Act.put, List.setIfInBounds_toArray, List.set_cons_zero, List.set_cons_succ])
  refine HeldTo.call (i := 8) (oi := _) (d := some 23) (R := fun v w' => ∃ a' c', v = .slice a' ands.length c' ∧ w'.ownsRow w9.heap.size 43 3 (.slice a' ands.length c') ands.length ((tris ands).flatten) ∧ Below w9.heap.size w9 w') rfl rfl (by kernel_rfl) (by rfl) (by go_simp; done) ((CloneT.ands w9 a6 ands.length c6 (tris ands) (HI6.out.next (HBV.out.trans (hB9.mono HBV.out.size))) (tris_one ands) (tris_row ands) Z6.out).mono (fun e w' ⟨a', c', he, ho, hb⟩ => ⟨_, he, a', c', rfl, ho, hb⟩)) ?_
  rintro v w10 ⟨b10, d10, rfl, ho10, hb10⟩
  have hB10 := hB9.trans (hb10.mono hB9.size)
  refine ⟨hSK w10 hB10, ?_⟩
  have hS10 := hSK w10 hB10
  (try simp only [Act.put, List.setIfInBounds_toArray, List.set_cons_zero, List.set_cons_succ])
  refine HeldTo.call (i := 11) (oi := _) (d := some 26) (R := fun v w' => ∃ a' c', v = .slice a' names.length c' ∧ w'.ownsRow w10.heap.size 65 3 (.slice a' names.length c') names.length ((namesV names).flatten) ∧ Below w10.heap.size w10 w') rfl rfl (by kernel_rfl) (by rfl) (by go_simp; done) ((CloneT.names w10 a7 names.length c7 (namesV names) (HI7.out.next (HBV.out.trans (hB10.mono HBV.out.size))) (names_one names) (names_row names) Z7.out).mono (fun e w' ⟨a', c', he, ho, hb⟩ => ⟨_, he, a', c', rfl, ho, hb⟩)) ?_
  rintro v w11 ⟨b11, d11, rfl, ho11, hb11⟩
  have hB11 := hB10.trans (hb11.mono hB10.size)
  refine ⟨hSK w11 hB11, ?_⟩
  have hS11 := hSK w11 hB11
  (try simp only [Act.put, List.setIfInBounds_toArray, List.set_cons_zero, List.set_cons_succ])
  have X11 := HX13.out.next hB11 HX13.out.lt
  obtain ⟨w20, hw20⟩ : ∃ U, w11.setCell ⟨w.heap.size, 4, none⟩ (.slice b8 bads.length d8) = U := ⟨_, rfl⟩
  have X20 := X11.set 4 (.slice b8 bads.length d8)
  rw [hw20] at X20
  have g20 := X11.at' 4 _ rfl
  have f20 := X11.fz 4
  (refine HeldTo.store (i := 13) (oi := _) (d := none) (w2 := w20) rfl rfl (by kernel_rfl) (by kernel_rfl) (by rfl) (by go_simp; done) ?_; (try simp only [Act.put, List.setIfInBounds_toArray, List.set_cons_zero, List.set_cons_succ]))
  clear g20 f20
  (refine HeldTo.plain (i := 14) (oi := _) (d := some 28) (v := ?_) rfl rfl (by kernel_rfl) (by kernel_rfl) (by kernel_rfl) (by kernel_rfl) (fun _ _ _ h => h) (Or.inl ⟨by rfl, ?_⟩) (fun h => absurd h (by decide)) ?_; rotate_left; (focus (intro w hSw; clear hSw; go_simp; (try with_reducible rfl); done)); (try simp only [Act.put, List.setIfInBounds_toArray, List.set_cons_zero, List.set_cons_succ]))
  obtain ⟨w21, hw21⟩ : ∃ U, w20.setCell ⟨w.heap.size, 5, none⟩ (.slice b9 invs.length d9) = U := ⟨_, rfl⟩
  have X21 := X20.set 5 (.slice b9 invs.length d9)
  rw [hw21] at X21
  have g21 := X20.at' 5 _ rfl
  have f21 := X20.fz 5
  (refine HeldTo.store (i := 15) (oi := _) (d := none) (w2 := w21) rfl rfl (by kernel_rfl) (by kernel_rfl) (by rfl) (by go_simp; done) ?_; (try simp only [Act.put, List.setIfInBounds_toArray, List.set_cons_zero, List.set_cons_succ]))
  clear g21 f21
  (refine HeldTo.plain (i := 16) (oi := _) (d := some 29) (v := ?_) rfl rfl (by kernel_rfl) (by kernel_rfl) (by kernel_rfl) (by kernel_rfl) (fun _ _ _ h => h) (Or.inl ⟨by rfl, ?_⟩) (fun h => absurd h (by decide)) ?_; rotate_left; (focus (intro w hSw; clear hSw; go_simp; (try with_reducible rfl); done)); (try simp only [Act.put, List.setIfInBounds_toArray, List.set_cons_zero, List.set_cons_succ]))
  obtain ⟨w22, hw22⟩ : ∃ U, w21.setCell ⟨w.heap.size, 6, none⟩ (.slice b10 ands.length d10) = U := ⟨_, rfl⟩
  have X22 := X21.set 6 (.slice b10 ands.length d10)
  rw [hw22] at X22
  have g22 := X21.at' 6 _ rfl
  have f22 := X21.fz 6
  (refine HeldTo.store (i := 17) (oi := _) (d := none) (w2 := w22) rfl rfl (by kernel_rfl) (by kernel_rfl) (by rfl) (by go_simp; done) ?_; (try simp only [Act.put, List.setIfInBounds_toArray, List.set_cons_zero, List.set_cons_succ]))
  clear g22 f22
  (refine HeldTo.plain (i := 18) (oi := _) (d := some 30) (v := ?_) rfl rfl (by kernel_rfl) (by kernel_rfl) (by kernel_rfl) (by kernel_rfl) (fun _ _ _ h => h) (Or.inl ⟨by rfl, ?_⟩) (fun h => absurd h (by decide)) ?_; rotate_left; (focus (intro w hSw; clear hSw; go_simp; (try with_reducible rfl); done)); (try simp only [Act.put, List.setIfInBounds_toArray, List.set_cons_zero, List.set_cons_succ]))
  obtain ⟨w23, hw23⟩ : ∃ U, w22.setCell ⟨w.heap.size, 7, none⟩ (.slice b11 names.length d11) = U := ⟨_, rfl⟩
  have X23 := X22.set 7 (.slice b11 names.length d11)
  rw [hw23] at X23
  have g23 := X22.at' 7 _ rfl
  have f23 := X22.fz 7
  (refine HeldTo.store (i := 19) (oi := _) (d := none) (w2 := w23) rfl rfl (by kernel_rfl) (by kernel_rfl) (by rfl) (by go_simp; done) ?_; (try simp only [Act.put, List.setIfInBounds_toArray, List.set_cons_zero, List.set_cons_succ]))
  clear g23 f23
  refine HeldTo.done (by kernel_rfl) ?_ _
  have hlt : w.heap.size < w13.heap.size := HX13.out.lt
  have hlt1 : W1.heap.size < w13.heap.size := HY.out.lt
  have hne : w.heap.size ≠ W1.heap.size := by have := HE1.out; omega
  have hlt2 : w.heap.size < W2.heap.size := HX1.out.lt
  have hlt1w : W1.heap.size < W2.heap.size := HX2.out.lt
  have P8 := ownsRow_setCell_below (ownsRow_setCell_below (ownsRow_setCell_below (ownsRow_setCell_below (own_next (own_next (own_next ho8 hb9) hb10) hb11) (a := ⟨w.heap.size, 4, none⟩) hlt (.slice b8 bads.length d8)) (a := ⟨w.heap.size, 5, none⟩) hlt (.slice b9 invs.length d9)) (a := ⟨w.heap.size, 6, none⟩) hlt (.slice b10 ands.length d10)) (a := ⟨w.heap.size, 7, none⟩) hlt (.slice b11 names.length d11)
  rw [hw20, hw21, hw22, hw23] at P8
  have P9 := ownsRow_setCell_below (ownsRow_setCell_below (ownsRow_setCell_below (ownsRow_setCell_below (own_mono (own_next (own_next ho9 hb10) hb11) hB8.size) (a := ⟨w.heap.size, 4, none⟩) hlt (.slice b8 bads.length d8)) (a := ⟨w.heap.size, 5, none⟩) hlt (.slice b9 invs.length d9)) (a := ⟨w.heap.size, 6, none⟩) hlt (.slice b10 ands.length d10)) (a := ⟨w.heap.size, 7, none⟩) hlt (.slice b11 names.length d11)
  rw [hw20, hw21, hw22, hw23] at P9
  have P10 := ownsRow_setCell_below (ownsRow_setCell_below (ownsRow_setCell_below (ownsRow_setCell_below (own_mono (own_next ho10 hb11) hB9.size) (a := ⟨w.heap.size, 4, none⟩) hlt (.slice b8 bads.length d8)) (a := ⟨w.heap.size, 5, none⟩) hlt (.slice b9 invs.length d9)) (a := ⟨w.heap.size, 6, none⟩) hlt (.slice b10 ands.length d10)) (a := ⟨w.heap.size, 7, none⟩) hlt (.slice b11 names.length d11)
  rw [hw20, hw21, hw22, hw23] at P10
  have P11 := ownsRow_setCell_below (ownsRow_setCell_below (ownsRow_setCell_below (ownsRow_setCell_below (own_mono ho11 hB10.size) (a := ⟨w.heap.size, 4, none⟩) hlt (.slice b8 bads.length d8)) (a := ⟨w.heap.size, 5, none⟩) hlt (.slice b9 invs.length d9)) (a := ⟨w.heap.size, 6, none⟩) hlt (.slice b10 ands.length d10)) (a := ⟨w.heap.size, 7, none⟩) hlt (.slice b11 names.length d11)
  rw [hw20, hw21, hw22, hw23] at P11
  have P3 := ownsRow_setCell_below (ownsRow_setCell_below (ownsRow_setCell_below (ownsRow_setCell_below (own_next HO3.out hB11) (a := ⟨w.heap.size, 4, none⟩) hlt2 (.slice b8 bads.length d8)) (a := ⟨w.heap.size, 5, none⟩) hlt2 (.slice b9 invs.length d9)) (a := ⟨w.heap.size, 6, none⟩) hlt2 (.slice b10 ands.length d10)) (a := ⟨w.heap.size, 7, none⟩) hlt2 (.slice b11 names.length d11)
  rw [hw20, hw21, hw22, hw23] at P3
  have P4 := ownsRow_setCell_below (ownsRow_setCell_below (ownsRow_setCell_below (ownsRow_setCell_below (own_next HO4.out hB11) (a := ⟨w.heap.size, 4, none⟩) hlt2 (.slice b8 bads.length d8)) (a := ⟨w.heap.size, 5, none⟩) hlt2 (.slice b9 invs.length d9)) (a := ⟨w.heap.size, 6, none⟩) hlt2 (.slice b10 ands.length d10)) (a := ⟨w.heap.size, 7, none⟩) hlt2 (.slice b11 names.length d11)
  rw [hw20, hw21, hw22, hw23] at P4
  have P5 := ownsRow_setCell_below (ownsRow_setCell_below (ownsRow_setCell_below (ownsRow_setCell_below (own_next HO5.out hB11) (a := ⟨w.heap.size, 4, none⟩) hlt2 (.slice b8 bads.length d8)) (a := ⟨w.heap.size, 5, none⟩) hlt2 (.slice b9 invs.length d9)) (a := ⟨w.heap.size, 6, none⟩) hlt2 (.slice b10 ands.length d10)) (a := ⟨w.heap.size, 7, none⟩) hlt2 (.slice b11 names.length d11)
  rw [hw20, hw21, hw22, hw23] at P5
  have Y3 := HY.out.next hB11 hlt1
  have Y20 := Y3.other (a := ⟨w.heap.size, 4, none⟩) hne (.slice b8 bads.length d8)
  rw [hw20] at Y20
  have Y21 := Y20.other (a := ⟨w.heap.size, 5, none⟩) hne (.slice b9 invs.length d9)
  rw [hw21] at Y21
  have Y22 := Y21.other (a := ⟨w.heap.size, 6, none⟩) hne (.slice b10 ands.length d10)
  rw [hw22] at Y22
  have Y23 := Y22.other (a := ⟨w.heap.size, 7, none⟩) hne (.slice b11 names.length d11)
  rw [hw23] at Y23
  have B3 := HBV.out.trans (hB11.mono HBV.out.size)
  have B20 := B3.setCell (p := ⟨w.heap.size, 4, none⟩) (Nat.le_refl _) (.slice b8 bads.length d8)
  rw [hw20] at B20
  have B21 := B20.setCell (p := ⟨w.heap.size, 5, none⟩) (Nat.le_refl _) (.slice b9 invs.length d9)
  rw [hw21] at B21
  have B22 := B21.setCell (p := ⟨w.heap.size, 6, none⟩) (Nat.le_refl _) (.slice b10 ands.length d10)
  rw [hw22] at B22
  have B23 := B22.setCell (p := ⟨w.heap.size, 7, none⟩) (Nat.le_refl _) (.slice b11 names.length d11)
  rw [hw23] at B23
  have HQ : Hid (OwnC w23 W2.heap.size ⟨mx, ins, lats, outs, bads, invs, ands, names⟩ ⟨b3, d3, b4, d4, b5, d5, b8, d8, b9, d9, b10, d10, b11, d11⟩) := ⟨P3, P4, P5, own_mono P8 HZV.out, own_mono P9 HZV.out, own_mono P10 HZV.out, own_mono P11 HZV.out⟩
  have HL1 := Lib.hid hlt1w
  have m0 := X23.at' 0 _ rfl
  have m1 := X23.at' 1 _ rfl
  have m2 := X23.at' 2 _ rfl
  have m3 := X23.at' 3 _ rfl
  have m4 := X23.at' 4 _ rfl
  have m5 := X23.at' 5 _ rfl
  have m6 := X23.at' 6 _ rfl
  have m7 := X23.at' 7 _ rfl
  have r0 := Y23.at' 0 _ rfl
  have r1 := Y23.at' 1 _ rfl
  have r2 := Y23.at' 2 _ rfl
  have r3 := Y23.at' 3 _ rfl
  have r4 := Y23.at' 4 _ rfl
  have r5 := Y23.at' 5 _ rfl
  have r6 := Y23.at' 6 _ rfl
  have r7 := Y23.at' 7 _ rfl
  have f0 := Y23.fz 0
  have f1 := Y23.fz 1
  have f2 := Y23.fz 2
  have f3 := Y23.fz 3
  have f4 := Y23.fz 4
  have f5 := Y23.fz 5
  have f6 := Y23.fz 6
  have f7 := Y23.fz 7
  have HB23 := Lib.hid B23
  clear P3 P4 P5 P8 P9 P10 P11 Y3 Y20 Y21 Y22 Y23 B3 B20 B21 B22 B23 X11 X20 X21 X22 X23 ho8 ho9 ho10 ho11 hb8 hb9 hb10 hb11 hB7 hB8 hB9 hB10 hB11 hS hS8 hS9 hS10 hS11 hSK hw20 hw21 hw22 hw23 hlt hlt1 hne hlt2 hlt1w
  go_wp2_with fail
  refine bodyPost_ret (v := .agg #[.int .i64 mx, .slice b3 ins.length d3, .slice b4 lats.length d4, .slice b5 outs.length d5, .slice b8 bads.length d8, .slice b9 invs.length d9, .slice b10 ands.length d10, .slice b11 names.length d11]) (by simp [results, Try.results17, go_sem, r0, r1, r2, r3, r4, r5, r6, r7]) rfl ?_
  refine ⟨⟨b3, d3, b4, d4, b5, d5, b8, d8, b9, d9, b10, d10, b11, d11⟩, rfl, ?_, ?_⟩
  · exact ((((((((HQ.out.set HL1.out _).set HL1.out _).set HL1.out _).set HL1.out _).set HL1.out _).set HL1.out _).set HL1.out _).set HL1.out _).mono (by have := HE2.out; omega)
  · have hle : w.heap.size ≤ W1.heap.size := by have := HE1.out; omega
    exact (((((((HB23.out.setCell hle _).setCell hle _).setCell hle _).setCell hle _).setCell hle _).setCell hle _).setCell hle _).setCell hle _
end Circuit
end Go.Proofs.Ythdhlkcdbogcaaa
