/-
  Several texts in one (written by merge.py): XCloneI XCopyC XGate XSetI XSortedKeys XCone XHashM XHashH XHashN XStrashM XStrashSame
-/
import Derived.Test.YthdhlkcdbogcaaaLaws
import Derived.Test.YthdhlkcdbogcaaaOwnC
import Derived.Test.YthdhlkcdbogcaaaCloneT
import Derived.Test.YthdhlkcdbogcaaaHeldTo
import Derived.Deep.DeepCutAuto
import Derived.BigQuiet
import Derived.Test.YthdhlkcdbogcaaaGateP
import Derived.Maps.OwnOps
import Derived.Maps.Views
import Derived.Lib.SlKeysI
import Derived.Test.YthdhlkcdbogcaaaBase
import Derived.Shelf.SlIterI.Nil
import Derived.Shelf.SortM.Plain
import Derived.Shelf.SortM.SortNone
import Derived.Ground.GgzProg
import Derived.Ground.SlgmProg
import Derived.Test.YthdhlkcdbogcaaaConeP
import Derived.Test.YthdhlkcdbogcaaaCBox
import Derived.WalkSmall
import Derived.Lib.AppendZeros
import Derived.Test.YthdhlkcdbogcaaaHashA
import Derived.Test.YthdhlkcdbogcaaaStrashQ
import Derived.Test.YthdhlkcdbogcaaaRefSmall
import Derived.Test.YthdhlkcdbogcaaaHeldBr
import Derived.Test.YthdhlkcdbogcaaaBitL
import Derived.Test.YthdhlkcdbogcaaaSameR
import Derived.Test.YthdhlkcdbogcaaaRefCheck
import Derived.Test.YthdhlkcdbogcaaaCheckP
import Derived.Test.YthdhlkcdbogcaaaOpenCirc
import Derived.Test.YthdhlkcdbogcaaaLex
import Derived.Test.YthdhlkcdbogcaaaValW
/-
  slices.Clone at one instance (elements of one cell): a slice of its own with the same elements; of nil nil.
-/
namespace Go.Proofs.Ythdhlkcdbogcaaa
open Go.RowKit Base
set_option linter.unusedVariables false
namespace CloneI

theorem info : (Try.prog.info? 3).map (fun i => (i.zero, i.size, i.bytes)) = some (some (.int .i64 0), 1, 8) := by kernel_rfl

set_option maxHeartbeats 1000000 in
theorem clone (w : World) (a : Option Addr) (n c : Nat) (vs : List Value) (hsl : Sl w a n c vs) (h1 : ∀ u ∈ vs, u.oneCell' = true) (hn : n * 8 ≤ 140737488355328) :
    Calls Try.prog 37 #[.slice a n c] w fun e w' => ∃ a' c', e = .returned (.slice a' n c') ∧ w'.ownsRow w.heap.size 3 1 (.slice a' n c') n vs ∧ Below w.heap.size w w' := by
  have heq := fun (W : World) (x : Option Addr) => Lib.run_eql_slice_nil (P := Try.prog) W 22 3 x n c 0 0 Try.underlying22
  cases a with
  | none =>
    obtain ⟨rfl, rfl⟩ := hsl.bare rfl
    have hv : vs = [] := List.eq_nil_of_length_eq_zero hsl.len
    subst hv
    go_enter Try.func37, Try.ntmps37
    go_wp2_with fail
    go_ret
    exact ⟨none, 0, rfl, World.ownsRow_nil _ _ _ _, Below.refl _ _⟩
  | some ad =>
    have hal : Below w.heap.size w (w.alloc (.cells #[] 3)) := (Below.refl _ _).alloc (Nat.le_refl _) _
    have hsl' := hsl.next hal
    have hown : (w.alloc (.cells #[] 3)).ownsRow w.heap.size 3 1 (.slice (some ⟨w.heap.size, 0, none⟩) 0 0) 0 [] := World.ownsRow_lit w #[] 0 (Nat.le_refl _) (by unfold maxLen; omega) rfl
    have H1 := Lib.hid h1
    clear h1 hsl
    go_enter Try.func37, Try.ntmps37
    go_wp2_with ((with_reducible refine wpL_app (B := w.heap.size) (W := w) _ 0 [] _ n c vs info Try.underlying22 ?_ ?_ ?_ H1.out hown hsl' ?_ ?_ ?_ hal ?_); rfl; rfl; rfl; exact hal.size; omega; omega; (rw [Nat.zero_add, List.nil_append]; intro a2 c2 w2 hown2 hb2 _))
    go_ret
    exact ⟨a2, c2, rfl, hown2, hb2⟩
end CloneI
end Go.Proofs.Ythdhlkcdbogcaaa

/-
  circuit.Copy: a circuit in memory of its own.
-/
namespace Go.Proofs.Ythdhlkcdbogcaaa
open Go.RowKit Base
set_option linter.unusedVariables false
set_option linter.unusedSimpArgs false
namespace Circuit

set_option maxRecDepth 8000 in
set_option maxHeartbeats 16000000 in
theorem copy_any (w : World) (x : Circ) (p : At) (hin : InCirc w x p) (hfit : Fits x) :
    Calls Try.prog 17 #[.agg (cells x p)] w fun e w' => ∃ p', e = .returned (.agg (cells x p')) ∧ OwnC w' w.heap.size x p' ∧ Below w.heap.size w w' := by
  obtain ⟨a1, c1, a2, c2, a3, c3, a4, c4, a5, c5, a6, c6, a7, c7⟩ := p
  obtain ⟨mx, ins, lats, outs, bads, invs, ands, names⟩ := x
  obtain ⟨i1, i2, i3, i4, i5, i6, i7⟩ := hin
  obtain ⟨z1, z2, z3, z4, z5, z6, z7⟩ := hfit
  simp only [cells] at *
  obtain ⟨W1, hW1⟩ : ∃ W1, w.alloc (.cells #[.int .i64 mx, .slice a1 ins.length c1, .slice a2 lats.length c2, .slice a3 outs.length c3, .slice a4 bads.length c4, .slice a5 invs.length c5, .slice a6 ands.length c6, .slice a7 names.length c7] 27) = W1 := ⟨_, rfl⟩
  obtain ⟨W2, hW2⟩ : ∃ W2, W1.alloc (.cells #[.int .i64 0, .slice none 0 0, .slice none 0 0, .slice none 0 0, .slice none 0 0, .slice none 0 0, .slice none 0 0, .slice none 0 0] 27) = W2 := ⟨_, rfl⟩
  have h1 : Below w.heap.size w W1 := by rw [← hW1]; exact (Below.refl _ _).alloc (Nat.le_refl _) _
  have h2 : Below W1.heap.size W1 W2 := by rw [← hW2]; exact (Below.refl _ _).alloc (Nat.le_refl _) _
  have e1 : W1.heap.size = w.heap.size + 1 := by rw [← hW1]; simp
  have e2 : W2.heap.size = w.heap.size + 2 := by rw [← hW2]; simp [e1]
  have X1 : BoxN w.heap.size [.int .i64 mx, .slice a1 ins.length c1, .slice a2 lats.length c2, .slice a3 outs.length c3, .slice a4 bads.length c4, .slice a5 invs.length c5, .slice a6 ands.length c6, .slice a7 names.length c7] W2 := by
    have h := BoxN.new w #[.int .i64 mx, .slice a1 ins.length c1, .slice a2 lats.length c2, .slice a3 outs.length c3, .slice a4 bads.length c4, .slice a5 invs.length c5, .slice a6 ands.length c6, .slice a7 names.length c7] 27
    rw [hW1] at h
    exact h.next h2 h.lt
  have X2 : BoxN W1.heap.size [.int .i64 0, .slice none 0 0, .slice none 0 0, .slice none 0 0, .slice none 0 0, .slice none 0 0, .slice none 0 0, .slice none 0 0] W2 := by
    have h := BoxN.new W1 #[.int .i64 0, .slice none 0 0, .slice none 0 0, .slice none 0 0, .slice none 0 0, .slice none 0 0, .slice none 0 0, .slice none 0 0] 27
    rw [hW2] at h
    exact h
  have h12 := h1.trans (h2.mono h1.size)
  have HI1 := Lib.hid i1
  have HI2 := Lib.hid i2
  have HI3 := Lib.hid i3
  have HI4 := Lib.hid i4
  have HI5 := Lib.hid i5
  have HI6 := Lib.hid i6
  have HI7 := Lib.hid i7
  have HB2 := Lib.hid h12
  have HE1 := Lib.hid e1
  have HE2 := Lib.hid e2
  have HX1 := Lib.hid X1
  have HX2 := Lib.hid X2
  have Z1 := Lib.hid z1
  have Z2 := Lib.hid z2
  have Z3 := Lib.hid z3
  have Z4 := Lib.hid z4
  have Z5 := Lib.hid z5
  have Z6 := Lib.hid z6
  have Z7 := Lib.hid z7
  clear i1 i2 i3 i4 i5 i6 i7 h1 h2 e1 e2 X1 X2 h12 z1 z2 z3 z4 z5 z6 z7
  go_enter Try.func17, Try.ntmps17
  go_upto_region 1 with fail
  clear hW1 hW2

  have hB2 : Below W2.heap.size W2 W2.drew := (Below.refl _ _).drew
  have hSK : ∀ U : World, Below W2.heap.size W2 U → U.cell? ⟨w.heap.size, 1, none⟩ = some (.slice a1 ins.length c1) ∧ U.cell? ⟨w.heap.size, 2, none⟩ = some (.slice a2 lats.length c2) ∧ U.cell? ⟨w.heap.size, 3, none⟩ = some (.slice a3 outs.length c3) := fun U hU => by
    have h := HX1.out.next hU HX1.out.lt
    exact ⟨h.at' 1 _ rfl, h.at' 2 _ rfl, h.at' 3 _ rfl⟩
  have hS := hSK _ hB2
  refine HeldTo.region (fun U : World => U.cell? ⟨w.heap.size, 1, none⟩ = some (.slice a1 ins.length c1) ∧ U.cell? ⟨w.heap.size, 2, none⟩ = some (.slice a2 lats.length c2) ∧ U.cell? ⟨w.heap.size, 3, none⟩ = some (.slice a3 outs.length c3)) 10 (by kernel_rfl) ?_
  (refine HeldTo.plain (i := 0) (oi := _) (d := some 3) (v := ?_) rfl rfl (by kernel_rfl) (by kernel_rfl) (by kernel_rfl) (by kernel_rfl) (fun _ _ _ h => h) (Or.inl ⟨by rfl, ?_⟩) (fun _ => hS) ?_; rotate_left; (focus (intro w hSw; clear hSw; go_simp; (try with_reducible rfl); done)); (try simp only [Act.put, List.setIfInBounds_toArray, List.set_cons_zero, List.set_cons_succ]))
  (refine HeldTo.take (i := 1) (oi := _) (d := some 4) (v := ?_) rfl rfl (by kernel_rfl) (by kernel_rfl) (by kernel_rfl) (by kernel_rfl) (by kernel_rfl) (by kernel_rfl) (fun _ _ _ h => h) (Or.inl ⟨by rfl, ?_⟩) hS ?_; rotate_left; (focus (intro w hSw; (try dsimp only at hSw); go_simp; (try with_reducible rfl); done)); (try simp only [Act.put, List.setIfInBounds_toArray, List.set_cons_zero, List.set_cons_succ]))
  (refine HeldTo.plain (i := 3) (oi := _) (d := some 6) (v := ?_) rfl rfl (by kernel_rfl) (by kernel_rfl) (by kernel_rfl) (by kernel_rfl) (fun _ _ _ h => h) (Or.inl ⟨by rfl, ?_⟩) (fun _ => hS) ?_; rotate_left; (focus (intro w hSw; clear hSw; go_simp; (try with_reducible rfl); done)); (try simp only [Act.put, List.setIfInBounds_toArray, List.set_cons_zero, List.set_cons_succ]))
  (refine HeldTo.take (i := 4) (oi := _) (d := some 7) (v := ?_) rfl rfl (by kernel_rfl) (by kernel_rfl) (by kernel_rfl) (by kernel_rfl) (by kernel_rfl) (by kernel_rfl) (fun _ _ _ h => h) (Or.inl ⟨by rfl, ?_⟩) hS ?_; rotate_left; (focus (intro w hSw; (try dsimp only at hSw); go_simp; (try with_reducible rfl); done)); (try simp only [Act.put, List.setIfInBounds_toArray, List.set_cons_zero, List.set_cons_succ]))
  (refine HeldTo.plain (i := 6) (oi := _) (d := some 9) (v := ?_) rfl rfl (by kernel_rfl) (by kernel_rfl) (by kernel_rfl) (by kernel_rfl) (fun _ _ _ h => h) (Or.inl ⟨by rfl, ?_⟩) (fun _ => hS) ?_; rotate_left; (focus (intro w hSw; clear hSw; go_simp; (try with_reducible rfl); done)); (try simp only [Act.put, List.setIfInBounds_toArray, List.set_cons_zero, List.set_cons_succ]))
  (refine HeldTo.take (i := 7) (oi := _) (d := some 10) (v := ?_) rfl rfl (by kernel_rfl) (by kernel_rfl) (by kernel_rfl) (by kernel_rfl) (by kernel_rfl) (by kernel_rfl) (fun _ _ _ h => h) (Or.inl ⟨by rfl, ?_⟩) hS ?_; rotate_left; (focus (intro w hSw; (try dsimp only at hSw); go_simp; (try with_reducible rfl); done)); (try simp only [Act.put, List.setIfInBounds_toArray, List.set_cons_zero, List.set_cons_succ]))
  refine HeldTo.call (i := 2) (oi := _) (d := some 5) (R := fun v w' => ∃ a' c', v = .slice a' ins.length c' ∧ w'.ownsRow W2.drew.heap.size 3 1 (.slice a' ins.length c') ins.length (ints ins) ∧ Below W2.drew.heap.size W2.drew w') rfl rfl (by kernel_rfl) (by rfl) (by go_simp; done) ((CloneI.clone W2.drew a1 ins.length c1 (ints ins) (HI1.out.next (HB2.out.trans (hB2.mono HB2.out.size))) (ints_one ins) Z1.out).mono (fun e w' ⟨a', c', he, ho, hb⟩ => ⟨_, he, a', c', rfl, ho, hb⟩)) ?_
  rintro v w3 ⟨b3, d3, rfl, ho3, hb3⟩
  have hB3 := hB2.trans (hb3.mono hB2.size)
  refine ⟨hSK w3 hB3, ?_⟩
  have hS3 := hSK w3 hB3
  (try simp only [Act.put, List.setIfInBounds_toArray, List.set_cons_zero, List.set_cons_succ])
  (refine HeldTo.plain (i := 9) (oi := _) (d := some 12) (v := ?_) rfl rfl (by kernel_rfl) (by kernel_rfl) (by kernel_rfl) (by kernel_rfl) (fun _ _ _ h => h) (Or.inl ⟨by rfl, ?_⟩) (fun _ => hS3) ?_; rotate_left; (focus (intro w hSw; clear hSw; go_simp; (try with_reducible rfl); done)); (try simp only [Act.put, List.setIfInBounds_toArray, List.set_cons_zero, List.set_cons_succ]))
  refine HeldTo.call (i := 5) (oi := _) (d := some 8) (R := fun v w' => ∃ a' c', v = .slice a' lats.length c' ∧ w'.ownsRow w3.heap.size 39 3 (.slice a' lats.length c') lats.length ((tris lats).flatten) ∧ Below w3.heap.size w3 w') rfl rfl (by kernel_rfl) (by rfl) (by go_simp; done) ((CloneT.latches w3 a2 lats.length c2 (tris lats) (HI2.out.next (HB2.out.trans (hB3.mono HB2.out.size))) (tris_one lats) (tris_row lats) Z2.out).mono (fun e w' ⟨a', c', he, ho, hb⟩ => ⟨_, he, a', c', rfl, ho, hb⟩)) ?_
  rintro v w4 ⟨b4, d4, rfl, ho4, hb4⟩
  have hB4 := hB3.trans (hb4.mono hB3.size)
  refine ⟨hSK w4 hB4, ?_⟩
  have hS4 := hSK w4 hB4
  (try simp only [Act.put, List.setIfInBounds_toArray, List.set_cons_zero, List.set_cons_succ])
  refine HeldTo.call (i := 8) (oi := _) (d := some 11) (R := fun v w' => ∃ a' c', v = .slice a' outs.length c' ∧ w'.ownsRow w4.heap.size 3 1 (.slice a' outs.length c') outs.length (ints outs) ∧ Below w4.heap.size w4 w') rfl rfl (by kernel_rfl) (by rfl) (by go_simp; done) ((CloneI.clone w4 a3 outs.length c3 (ints outs) (HI3.out.next (HB2.out.trans (hB4.mono HB2.out.size))) (ints_one outs) Z3.out).mono (fun e w' ⟨a', c', he, ho, hb⟩ => ⟨_, he, a', c', rfl, ho, hb⟩)) ?_
  rintro v w5 ⟨b5, d5, rfl, ho5, hb5⟩
  have hB5 := hB4.trans (hb5.mono hB4.size)
  refine ⟨hSK w5 hB5, ?_⟩
  have hS5 := hSK w5 hB5
  (try simp only [Act.put, List.setIfInBounds_toArray, List.set_cons_zero, List.set_cons_succ])
  have X5 := HX1.out.next hB5 HX1.out.lt
  obtain ⟨w6, hw6⟩ : ∃ U, w5.setCell ⟨w.heap.size, 1, none⟩ (.slice b3 ins.length d3) = U := ⟨_, rfl⟩
  have X6 := X5.set 1 (.slice b3 ins.length d3)
  rw [hw6] at X6
  have g6 := X5.at' 1 _ rfl
  have f6 := X5.fz 1
  (refine HeldTo.store (i := 10) (oi := _) (d := none) (w2 := w6) rfl rfl (by kernel_rfl) (by kernel_rfl) (by rfl) (by go_simp; done) ?_; (try simp only [Act.put, List.setIfInBounds_toArray, List.set_cons_zero, List.set_cons_succ]))
  clear g6 f6
  (refine HeldTo.plain (i := 11) (oi := _) (d := some 13) (v := ?_) rfl rfl (by kernel_rfl) (by kernel_rfl) (by kernel_rfl) (by kernel_rfl) (fun _ _ _ h => h) (Or.inl ⟨by rfl, ?_⟩) (fun h => absurd h (by decide)) ?_; rotate_left; (focus (intro w hSw; clear hSw; go_simp; (try with_reducible rfl); done)); (try simp only [Act.put, List.setIfInBounds_toArray, List.set_cons_zero, List.set_cons_succ]))
  obtain ⟨w12, hw12⟩ : ∃ U, w6.setCell ⟨w.heap.size, 2, none⟩ (.slice b4 lats.length d4) = U := ⟨_, rfl⟩
  have X12 := X6.set 2 (.slice b4 lats.length d4)
  rw [hw12] at X12
  have g12 := X6.at' 2 _ rfl
  have f12 := X6.fz 2
  (refine HeldTo.store (i := 12) (oi := _) (d := none) (w2 := w12) rfl rfl (by kernel_rfl) (by kernel_rfl) (by rfl) (by go_simp; done) ?_; (try simp only [Act.put, List.setIfInBounds_toArray, List.set_cons_zero, List.set_cons_succ]))
  clear g12 f12
  (refine HeldTo.plain (i := 13) (oi := _) (d := some 14) (v := ?_) rfl rfl (by kernel_rfl) (by kernel_rfl) (by kernel_rfl) (by kernel_rfl) (fun _ _ _ h => h) (Or.inl ⟨by rfl, ?_⟩) (fun h => absurd h (by decide)) ?_; rotate_left; (focus (intro w hSw; clear hSw; go_simp; (try with_reducible rfl); done)); (try simp only [Act.put, List.setIfInBounds_toArray, List.set_cons_zero, List.set_cons_succ]))
  obtain ⟨w13, hw13⟩ : ∃ U, w12.setCell ⟨w.heap.size, 3, none⟩ (.slice b5 outs.length d5) = U := ⟨_, rfl⟩
  have X13 := X12.set 3 (.slice b5 outs.length d5)
  rw [hw13] at X13
  have g13 := X12.at' 3 _ rfl
  have f13 := X12.fz 3
  (refine HeldTo.store (i := 14) (oi := _) (d := none) (w2 := w13) rfl rfl (by kernel_rfl) (by kernel_rfl) (by rfl) (by go_simp; done) ?_; (try simp only [Act.put, List.setIfInBounds_toArray, List.set_cons_zero, List.set_cons_succ]))
  clear g13 f13
  refine HeldTo.done (by kernel_rfl) ?_ _
  have hlt : w.heap.size < W2.heap.size := HX1.out.lt
  have hlt1 : W1.heap.size < W2.heap.size := HX2.out.lt
  have hne : w.heap.size ≠ W1.heap.size := by have := HE1.out; omega
  have o3 := own_next (own_next ho3 hb4) hb5
  have o4 := own_next ho4 hb5
  have o5 := ho5
  have O3 := ownsRow_setCell_below (ownsRow_setCell_below (ownsRow_setCell_below (o3) (a := ⟨w.heap.size, 1, none⟩) hlt (.slice b3 ins.length d3)) (a := ⟨w.heap.size, 2, none⟩) hlt (.slice b4 lats.length d4)) (a := ⟨w.heap.size, 3, none⟩) hlt (.slice b5 outs.length d5)
  rw [hw6, hw12, hw13] at O3
  have O4 := ownsRow_setCell_below (ownsRow_setCell_below (ownsRow_setCell_below (own_mono o4 hB3.size) (a := ⟨w.heap.size, 1, none⟩) hlt (.slice b3 ins.length d3)) (a := ⟨w.heap.size, 2, none⟩) hlt (.slice b4 lats.length d4)) (a := ⟨w.heap.size, 3, none⟩) hlt (.slice b5 outs.length d5)
  rw [hw6, hw12, hw13] at O4
  have O5 := ownsRow_setCell_below (ownsRow_setCell_below (ownsRow_setCell_below (own_mono o5 hB4.size) (a := ⟨w.heap.size, 1, none⟩) hlt (.slice b3 ins.length d3)) (a := ⟨w.heap.size, 2, none⟩) hlt (.slice b4 lats.length d4)) (a := ⟨w.heap.size, 3, none⟩) hlt (.slice b5 outs.length d5)
  rw [hw6, hw12, hw13] at O5
  have Y := (((HX2.out.next hB5 hlt1).other (a := ⟨w.heap.size, 1, none⟩) hne (.slice b3 ins.length d3)).other (a := ⟨w.heap.size, 2, none⟩) hne (.slice b4 lats.length d4)).other (a := ⟨w.heap.size, 3, none⟩) hne (.slice b5 outs.length d5)
  rw [hw6, hw12, hw13] at Y
  have BV := (((HB2.out.trans (hB5.mono HB2.out.size)).setCell (p := ⟨w.heap.size, 1, none⟩) (Nat.le_refl _) (.slice b3 ins.length d3)).setCell (p := ⟨w.heap.size, 2, none⟩) (Nat.le_refl _) (.slice b4 lats.length d4)).setCell (p := ⟨w.heap.size, 3, none⟩) (Nat.le_refl _) (.slice b5 outs.length d5)
  rw [hw6, hw12, hw13] at BV
  have ZV : W2.heap.size ≤ w13.heap.size := by rw [← hw13, ← hw12, ← hw6]; simpa [World.setCell] using hB5.size
  have HO3 := Lib.hid O3
  have HO4 := Lib.hid O4
  have HO5 := Lib.hid O5
  have HY := Lib.hid Y
  have HBV := Lib.hid BV
  have HX13 := Lib.hid X13
  have HZV := Lib.hid ZV
  clear O3 O4 O5 Y BV ZV X13 X12 X6 X5 o3 o4 o5 ho3 ho4 ho5 hb3 hb4 hb5 hB2 hB3 hB4 hB5 hS hS3 hS4 hS5 hSK hw6 hw12 hw13 hlt hlt1 hne
  go_upto_region 2 with fail
  have hB7 : Below w13.heap.size w13 w13.drew := (Below.refl _ _).drew
  have hSK : ∀ U : World, Below w13.heap.size w13 U → U.cell? ⟨w.heap.size, 4, none⟩ = some (.slice a4 bads.length c4) ∧ U.cell? ⟨w.heap.size, 5, none⟩ = some (.slice a5 invs.length c5) ∧ U.cell? ⟨w.heap.size, 6, none⟩ = some (.slice a6 ands.length c6) ∧ U.cell? ⟨w.heap.size, 7, none⟩ = some (.slice a7 names.length c7) := fun U hU => by
    have h := HX13.out.next hU HX13.out.lt
    exact ⟨h.at' 4 _ rfl, h.at' 5 _ rfl, h.at' 6 _ rfl, h.at' 7 _ rfl⟩
  have hS := hSK _ hB7
  refine HeldTo.region (fun U : World => U.cell? ⟨w.heap.size, 4, none⟩ = some (.slice a4 bads.length c4) ∧ U.cell? ⟨w.heap.size, 5, none⟩ = some (.slice a5 invs.length c5) ∧ U.cell? ⟨w.heap.size, 6, none⟩ = some (.slice a6 ands.length c6) ∧ U.cell? ⟨w.heap.size, 7, none⟩ = some (.slice a7 names.length c7)) 13 (by kernel_rfl) ?_
  (refine HeldTo.plain (i := 0) (oi := _) (d := some 15) (v := ?_) rfl rfl (by kernel_rfl) (by kernel_rfl) (by kernel_rfl) (by kernel_rfl) (fun _ _ _ h => h) (Or.inl ⟨by rfl, ?_⟩) (fun _ => hS) ?_; rotate_left; (focus (intro w hSw; clear hSw; go_simp; (try with_reducible rfl); done)); (try simp only [Act.put, List.setIfInBounds_toArray, List.set_cons_zero, List.set_cons_succ]))
  (refine HeldTo.take (i := 1) (oi := _) (d := some 16) (v := ?_) rfl rfl (by kernel_rfl) (by kernel_rfl) (by kernel_rfl) (by kernel_rfl) (by kernel_rfl) (by kernel_rfl) (fun _ _ _ h => h) (Or.inl ⟨by rfl, ?_⟩) hS ?_; rotate_left; (focus (intro w hSw; (try dsimp only at hSw); go_simp; (try with_reducible rfl); done)); (try simp only [Act.put, List.setIfInBounds_toArray, List.set_cons_zero, List.set_cons_succ]))
  (refine HeldTo.plain (i := 3) (oi := _) (d := some 18) (v := ?_) rfl rfl (by kernel_rfl) (by kernel_rfl) (by kernel_rfl) (by kernel_rfl) (fun _ _ _ h => h) (Or.inl ⟨by rfl, ?_⟩) (fun _ => hS) ?_; rotate_left; (focus (intro w hSw; clear hSw; go_simp; (try with_reducible rfl); done)); (try simp only [Act.put, List.setIfInBounds_toArray, List.set_cons_zero, List.set_cons_succ]))
  (refine HeldTo.take (i := 4) (oi := _) (d := some 19) (v := ?_) rfl rfl (by kernel_rfl) (by kernel_rfl) (by kernel_rfl) (by kernel_rfl) (by kernel_rfl) (by kernel_rfl) (fun _ _ _ h => h) (Or.inl ⟨by rfl, ?_⟩) hS ?_; rotate_left; (focus (intro w hSw; (try dsimp only at hSw); go_simp; (try with_reducible rfl); done)); (try simp only [Act.put, List.setIfInBounds_toArray, List.set_cons_zero, List.set_cons_succ]))
  (refine HeldTo.plain (i := 6) (oi := _) (d := some 21) (v := ?_) rfl rfl (by kernel_rfl) (by kernel_rfl) (by kernel_rfl) (by kernel_rfl) (fun _ _ _ h => h) (Or.inl ⟨by rfl, ?_⟩) (fun _ => hS) ?_; rotate_left; (focus (intro w hSw; clear hSw; go_simp; (try with_reducible rfl); done)); (try simp only [Act.put, List.setIfInBounds_toArray, List.set_cons_zero, List.set_cons_succ]))
  (refine HeldTo.take (i := 7) (oi := _) (d := some 22) (v := ?_) rfl rfl (by kernel_rfl) (by kernel_rfl) (by kernel_rfl) (by kernel_rfl) (by kernel_rfl) (by kernel_rfl) (fun _ _ _ h => h) (Or.inl ⟨by rfl, ?_⟩) hS ?_; rotate_left; (focus (intro w hSw; (try dsimp only at hSw); go_simp; (try with_reducible rfl); done)); (try simp only [Act.put, List.setIfInBounds_toArray, List.set_cons_zero, List.set_cons_succ]))
  (refine HeldTo.plain (i := 9) (oi := _) (d := some 24) (v := ?_) rfl rfl (by kernel_rfl) (by kernel_rfl) (by kernel_rfl) (by kernel_rfl) (fun _ _ _ h => h) (Or.inl ⟨by rfl, ?_⟩) (fun _ => hS) ?_; rotate_left; (focus (intro w hSw; clear hSw; go_simp; (try with_reducible rfl); done)); (try simp only [Act.put, List.setIfInBounds_toArray, List.set_cons_zero, List.set_cons_succ]))
  (refine HeldTo.take (i := 10) (oi := _) (d := some 25) (v := ?_) rfl rfl (by kernel_rfl) (by kernel_rfl) (by kernel_rfl) (by kernel_rfl) (by kernel_rfl) (by kernel_rfl) (fun _ _ _ h => h) (Or.inl ⟨by rfl, ?_⟩) hS ?_; rotate_left; (focus (intro w hSw; (try dsimp only at hSw); go_simp; (try with_reducible rfl); done)); (try simp only [Act.put, List.setIfInBounds_toArray, List.set_cons_zero, List.set_cons_succ]))
  refine HeldTo.call (i := 2) (oi := _) (d := some 17) (R := fun v w' => ∃ a' c', v = .slice a' bads.length c' ∧ w'.ownsRow w13.drew.heap.size 3 1 (.slice a' bads.length c') bads.length (ints bads) ∧ Below w13.drew.heap.size w13.drew w') rfl rfl (by kernel_rfl) (by rfl) (by go_simp; done) ((CloneI.clone w13.drew a4 bads.length c4 (ints bads) (HI4.out.next (HBV.out.trans (hB7.mono HBV.out.size))) (ints_one bads) Z4.out).mono (fun e w' ⟨a', c', he, ho, hb⟩ => ⟨_, he, a', c', rfl, ho, hb⟩)) ?_
  rintro v w8 ⟨b8, d8, rfl, ho8, hb8⟩
  have hB8 := hB7.trans (hb8.mono hB7.size)
  refine ⟨hSK w8 hB8, ?_⟩
  have hS8 := hSK w8 hB8
  (try simp only [Act.put, List.setIfInBounds_toArray, List.set_cons_zero, List.set_cons_succ])
  (refine HeldTo.plain (i := 12) (oi := _) (d := some 27) (v := ?_) rfl rfl (by kernel_rfl) (by kernel_rfl) (by kernel_rfl) (by kernel_rfl) (fun _ _ _ h => h) (Or.inl ⟨by rfl, ?_⟩) (fun _ => hS8) ?_; rotate_left; (focus (intro w hSw; clear hSw; go_simp; (try with_reducible rfl); done)); (try simp only [Act.put, List.setIfInBounds_toArray, List.set_cons_zero, List.set_cons_succ]))
  refine HeldTo.call (i := 5) (oi := _) (d := some 20) (R := fun v w' => ∃ a' c', v = .slice a' invs.length c' ∧ w'.ownsRow w8.heap.size 3 1 (.slice a' invs.length c') invs.length (ints invs) ∧ Below w8.heap.size w8 w') rfl rfl (by kernel_rfl) (by rfl) (by go_simp; done) ((CloneI.clone w8 a5 invs.length c5 (ints invs) (HI5.out.next (HBV.out.trans (hB8.mono HBV.out.size))) (ints_one invs) Z5.out).mono (fun e w' ⟨a', c', he, ho, hb⟩ => ⟨_, he, a', c', rfl, ho, hb⟩)) ?_
  rintro v w9 ⟨b9, d9, rfl, ho9, hb9⟩
  have hB9 := hB8.trans (hb9.mono hB8.size)
  refine ⟨hSK w9 hB9, ?_⟩
  have hS9 := hSK w9 hB9
  (try simp only [Act.put, List.setIfInBounds_toArray, List.set_cons_zero, List.set_cons_succ])
  refine HeldTo.call (i := 8) (oi := _) (d := some 23) (R := fun v w' => ∃ a' c', v = .slice a' ands.length c' ∧ w'.ownsRow w9.heap.size 43 3 (.slice a' ands.length c') ands.length ((tris ands).flatten) ∧ Below w9.heap.size w9 w') rfl rfl (by kernel_rfl) (by rfl) (by go_simp; done) ((CloneT.ands w9 a6 ands.length c6 (tris ands) (HI6.out.next (HBV.out.trans (hB9.mono HBV.out.size))) (tris_one ands) (tris_row ands) Z6.out).mono (fun e w' ⟨a', c', he, ho, hb⟩ => ⟨_, he, a', c', rfl, ho, hb⟩)) ?_
  rintro v w10 ⟨b10, d10, rfl, ho10, hb10⟩
  have hB10 := hB9.trans (hb10.mono hB9.size)
  refine ⟨hSK w10 hB10, ?_⟩
  have hS10 := hSK w10 hB10
  (try simp only [Act.put, List.setIfInBounds_toArray, List.set_cons_zero, List.set_cons_succ])
  refine HeldTo.call (i := 11) (oi := _) (d := some 26) (R := fun v w' => ∃ a' c', v = .slice a' names.length c' ∧ w'.ownsRow w10.heap.size 65 3 (.slice a' names.length c') names.length ((namesV names).flatten) ∧ Below w10.heap.size w10 w') rfl rfl (by kernel_rfl) (by rfl) (by go_simp; done) ((CloneT.names w10 a7 names.length c7 (namesV names) (HI7.out.next (HBV.out.trans (hB10.mono HBV.out.size))) (names_one names) (names_row names) Z7.out).mono (fun e w' ⟨a', c', he, ho, hb⟩ => ⟨_, he, a', c', rfl, ho, hb⟩)) ?_
  rintro v w11 ⟨b11, d11, rfl, ho11, hb11⟩
  have hB11 := hB10.trans (hb11.mono hB10.size)
  refine ⟨hSK w11 hB11, ?_⟩
  have hS11 := hSK w11 hB11
  (try simp only [Act.put, List.setIfInBounds_toArray, List.set_cons_zero, List.set_cons_succ])
  have X11 := HX13.out.next hB11 HX13.out.lt
  obtain ⟨w20, hw20⟩ : ∃ U, w11.setCell ⟨w.heap.size, 4, none⟩ (.slice b8 bads.length d8) = U := ⟨_, rfl⟩
  have X20 := X11.set 4 (.slice b8 bads.length d8)
  rw [hw20] at X20
  have g20 := X11.at' 4 _ rfl
  have f20 := X11.fz 4
  (refine HeldTo.store (i := 13) (oi := _) (d := none) (w2 := w20) rfl rfl (by kernel_rfl) (by kernel_rfl) (by rfl) (by go_simp; done) ?_; (try simp only [Act.put, List.setIfInBounds_toArray, List.set_cons_zero, List.set_cons_succ]))
  clear g20 f20
  (refine HeldTo.plain (i := 14) (oi := _) (d := some 28) (v := ?_) rfl rfl (by kernel_rfl) (by kernel_rfl) (by kernel_rfl) (by kernel_rfl) (fun _ _ _ h => h) (Or.inl ⟨by rfl, ?_⟩) (fun h => absurd h (by decide)) ?_; rotate_left; (focus (intro w hSw; clear hSw; go_simp; (try with_reducible rfl); done)); (try simp only [Act.put, List.setIfInBounds_toArray, List.set_cons_zero, List.set_cons_succ]))
  obtain ⟨w21, hw21⟩ : ∃ U, w20.setCell ⟨w.heap.size, 5, none⟩ (.slice b9 invs.length d9) = U := ⟨_, rfl⟩
  have X21 := X20.set 5 (.slice b9 invs.length d9)
  rw [hw21] at X21
  have g21 := X20.at' 5 _ rfl
  have f21 := X20.fz 5
  (refine HeldTo.store (i := 15) (oi := _) (d := none) (w2 := w21) rfl rfl (by kernel_rfl) (by kernel_rfl) (by rfl) (by go_simp; done) ?_; (try simp only [Act.put, List.setIfInBounds_toArray, List.set_cons_zero, List.set_cons_succ]))
  clear g21 f21
  (refine HeldTo.plain (i := 16) (oi := _) (d := some 29) (v := ?_) rfl rfl (by kernel_rfl) (by kernel_rfl) (by kernel_rfl) (by kernel_rfl) (fun _ _ _ h => h) (Or.inl ⟨by rfl, ?_⟩) (fun h => absurd h (by decide)) ?_; rotate_left; (focus (intro w hSw; clear hSw; go_simp; (try with_reducible rfl); done)); (try simp only [Act.put, List.setIfInBounds_toArray, List.set_cons_zero, List.set_cons_succ]))
  obtain ⟨w22, hw22⟩ : ∃ U, w21.setCell ⟨w.heap.size, 6, none⟩ (.slice b10 ands.length d10) = U := ⟨_, rfl⟩
  have X22 := X21.set 6 (.slice b10 ands.length d10)
  rw [hw22] at X22
  have g22 := X21.at' 6 _ rfl
  have f22 := X21.fz 6
  (refine HeldTo.store (i := 17) (oi := _) (d := none) (w2 := w22) rfl rfl (by kernel_rfl) (by kernel_rfl) (by rfl) (by go_simp; done) ?_; (try simp only [Act.put, List.setIfInBounds_toArray, List.set_cons_zero, List.set_cons_succ]))
  clear g22 f22
  (refine HeldTo.plain (i := 18) (oi := _) (d := some 30) (v := ?_) rfl rfl (by kernel_rfl) (by kernel_rfl) (by kernel_rfl) (by kernel_rfl) (fun _ _ _ h => h) (Or.inl ⟨by rfl, ?_⟩) (fun h => absurd h (by decide)) ?_; rotate_left; (focus (intro w hSw; clear hSw; go_simp; (try with_reducible rfl); done)); (try simp only [Act.put, List.setIfInBounds_toArray, List.set_cons_zero, List.set_cons_succ]))
  obtain ⟨w23, hw23⟩ : ∃ U, w22.setCell ⟨w.heap.size, 7, none⟩ (.slice b11 names.length d11) = U := ⟨_, rfl⟩
  have X23 := X22.set 7 (.slice b11 names.length d11)
  rw [hw23] at X23
  have g23 := X22.at' 7 _ rfl
  have f23 := X22.fz 7
  (refine HeldTo.store (i := 19) (oi := _) (d := none) (w2 := w23) rfl rfl (by kernel_rfl) (by kernel_rfl) (by rfl) (by go_simp; done) ?_; (try simp only [Act.put, List.setIfInBounds_toArray, List.set_cons_zero, List.set_cons_succ]))
  clear g23 f23
  refine HeldTo.done (by kernel_rfl) ?_ _
  have hlt : w.heap.size < w13.heap.size := HX13.out.lt
  have hlt1 : W1.heap.size < w13.heap.size := HY.out.lt
  have hne : w.heap.size ≠ W1.heap.size := by have := HE1.out; omega
  have hlt2 : w.heap.size < W2.heap.size := HX1.out.lt
  have hlt1w : W1.heap.size < W2.heap.size := HX2.out.lt
  have P8 := ownsRow_setCell_below (ownsRow_setCell_below (ownsRow_setCell_below (ownsRow_setCell_below (own_next (own_next (own_next ho8 hb9) hb10) hb11) (a := ⟨w.heap.size, 4, none⟩) hlt (.slice b8 bads.length d8)) (a := ⟨w.heap.size, 5, none⟩) hlt (.slice b9 invs.length d9)) (a := ⟨w.heap.size, 6, none⟩) hlt (.slice b10 ands.length d10)) (a := ⟨w.heap.size, 7, none⟩) hlt (.slice b11 names.length d11)
  rw [hw20, hw21, hw22, hw23] at P8
  have P9 := ownsRow_setCell_below (ownsRow_setCell_below (ownsRow_setCell_below (ownsRow_setCell_below (own_mono (own_next (own_next ho9 hb10) hb11) hB8.size) (a := ⟨w.heap.size, 4, none⟩) hlt (.slice b8 bads.length d8)) (a := ⟨w.heap.size, 5, none⟩) hlt (.slice b9 invs.length d9)) (a := ⟨w.heap.size, 6, none⟩) hlt (.slice b10 ands.length d10)) (a := ⟨w.heap.size, 7, none⟩) hlt (.slice b11 names.length d11)
  rw [hw20, hw21, hw22, hw23] at P9
  have P10 := ownsRow_setCell_below (ownsRow_setCell_below (ownsRow_setCell_below (ownsRow_setCell_below (own_mono (own_next ho10 hb11) hB9.size) (a := ⟨w.heap.size, 4, none⟩) hlt (.slice b8 bads.length d8)) (a := ⟨w.heap.size, 5, none⟩) hlt (.slice b9 invs.length d9)) (a := ⟨w.heap.size, 6, none⟩) hlt (.slice b10 ands.length d10)) (a := ⟨w.heap.size, 7, none⟩) hlt (.slice b11 names.length d11)
  rw [hw20, hw21, hw22, hw23] at P10
  have P11 := ownsRow_setCell_below (ownsRow_setCell_below (ownsRow_setCell_below (ownsRow_setCell_below (own_mono ho11 hB10.size) (a := ⟨w.heap.size, 4, none⟩) hlt (.slice b8 bads.length d8)) (a := ⟨w.heap.size, 5, none⟩) hlt (.slice b9 invs.length d9)) (a := ⟨w.heap.size, 6, none⟩) hlt (.slice b10 ands.length d10)) (a := ⟨w.heap.size, 7, none⟩) hlt (.slice b11 names.length d11)
  rw [hw20, hw21, hw22, hw23] at P11
  have P3 := ownsRow_setCell_below (ownsRow_setCell_below (ownsRow_setCell_below (ownsRow_setCell_below (own_next HO3.out hB11) (a := ⟨w.heap.size, 4, none⟩) hlt2 (.slice b8 bads.length d8)) (a := ⟨w.heap.size, 5, none⟩) hlt2 (.slice b9 invs.length d9)) (a := ⟨w.heap.size, 6, none⟩) hlt2 (.slice b10 ands.length d10)) (a := ⟨w.heap.size, 7, none⟩) hlt2 (.slice b11 names.length d11)
  rw [hw20, hw21, hw22, hw23] at P3
  have P4 := ownsRow_setCell_below (ownsRow_setCell_below (ownsRow_setCell_below (ownsRow_setCell_below (own_next HO4.out hB11) (a := ⟨w.heap.size, 4, none⟩) hlt2 (.slice b8 bads.length d8)) (a := ⟨w.heap.size, 5, none⟩) hlt2 (.slice b9 invs.length d9)) (a := ⟨w.heap.size, 6, none⟩) hlt2 (.slice b10 ands.length d10)) (a := ⟨w.heap.size, 7, none⟩) hlt2 (.slice b11 names.length d11)
  rw [hw20, hw21, hw22, hw23] at P4
  have P5 := ownsRow_setCell_below (ownsRow_setCell_below (ownsRow_setCell_below (ownsRow_setCell_below (own_next HO5.out hB11) (a := ⟨w.heap.size, 4, none⟩) hlt2 (.slice b8 bads.length d8)) (a := ⟨w.heap.size, 5, none⟩) hlt2 (.slice b9 invs.length d9)) (a := ⟨w.heap.size, 6, none⟩) hlt2 (.slice b10 ands.length d10)) (a := ⟨w.heap.size, 7, none⟩) hlt2 (.slice b11 names.length d11)
  rw [hw20, hw21, hw22, hw23] at P5
  have Y3 := HY.out.next hB11 hlt1
  have Y20 := Y3.other (a := ⟨w.heap.size, 4, none⟩) hne (.slice b8 bads.length d8)
  rw [hw20] at Y20
  have Y21 := Y20.other (a := ⟨w.heap.size, 5, none⟩) hne (.slice b9 invs.length d9)
  rw [hw21] at Y21
  have Y22 := Y21.other (a := ⟨w.heap.size, 6, none⟩) hne (.slice b10 ands.length d10)
  rw [hw22] at Y22
  have Y23 := Y22.other (a := ⟨w.heap.size, 7, none⟩) hne (.slice b11 names.length d11)
  rw [hw23] at Y23
  have B3 := HBV.out.trans (hB11.mono HBV.out.size)
  have B20 := B3.setCell (p := ⟨w.heap.size, 4, none⟩) (Nat.le_refl _) (.slice b8 bads.length d8)
  rw [hw20] at B20
  have B21 := B20.setCell (p := ⟨w.heap.size, 5, none⟩) (Nat.le_refl _) (.slice b9 invs.length d9)
  rw [hw21] at B21
  have B22 := B21.setCell (p := ⟨w.heap.size, 6, none⟩) (Nat.le_refl _) (.slice b10 ands.length d10)
  rw [hw22] at B22
  have B23 := B22.setCell (p := ⟨w.heap.size, 7, none⟩) (Nat.le_refl _) (.slice b11 names.length d11)
  rw [hw23] at B23
  have HQ : Hid (OwnC w23 W2.heap.size ⟨mx, ins, lats, outs, bads, invs, ands, names⟩ ⟨b3, d3, b4, d4, b5, d5, b8, d8, b9, d9, b10, d10, b11, d11⟩) := ⟨P3, P4, P5, own_mono P8 HZV.out, own_mono P9 HZV.out, own_mono P10 HZV.out, own_mono P11 HZV.out⟩
  have HL1 := Lib.hid hlt1w
  have m0 := X23.at' 0 _ rfl
  have m1 := X23.at' 1 _ rfl
  have m2 := X23.at' 2 _ rfl
  have m3 := X23.at' 3 _ rfl
  have m4 := X23.at' 4 _ rfl
  have m5 := X23.at' 5 _ rfl
  have m6 := X23.at' 6 _ rfl
  have m7 := X23.at' 7 _ rfl
  have r0 := Y23.at' 0 _ rfl
  have r1 := Y23.at' 1 _ rfl
  have r2 := Y23.at' 2 _ rfl
  have r3 := Y23.at' 3 _ rfl
  have r4 := Y23.at' 4 _ rfl
  have r5 := Y23.at' 5 _ rfl
  have r6 := Y23.at' 6 _ rfl
  have r7 := Y23.at' 7 _ rfl
  have f0 := Y23.fz 0
  have f1 := Y23.fz 1
  have f2 := Y23.fz 2
  have f3 := Y23.fz 3
  have f4 := Y23.fz 4
  have f5 := Y23.fz 5
  have f6 := Y23.fz 6
  have f7 := Y23.fz 7
  have HB23 := Lib.hid B23
  clear P3 P4 P5 P8 P9 P10 P11 Y3 Y20 Y21 Y22 Y23 B3 B20 B21 B22 B23 X11 X20 X21 X22 X23 ho8 ho9 ho10 ho11 hb8 hb9 hb10 hb11 hB7 hB8 hB9 hB10 hB11 hS hS8 hS9 hS10 hS11 hSK hw20 hw21 hw22 hw23 hlt hlt1 hne hlt2 hlt1w
  go_wp2_with fail
  refine bodyPost_ret (v := .agg #[.int .i64 mx, .slice b3 ins.length d3, .slice b4 lats.length d4, .slice b5 outs.length d5, .slice b8 bads.length d8, .slice b9 invs.length d9, .slice b10 ands.length d10, .slice b11 names.length d11]) (by simp [results, Try.results17, go_sem, r0, r1, r2, r3, r4, r5, r6, r7]) rfl ?_
  refine ⟨⟨b3, d3, b4, d4, b5, d5, b8, d8, b9, d9, b10, d10, b11, d11⟩, rfl, ?_, ?_⟩
  · exact ((((((((HQ.out.set HL1.out _).set HL1.out _).set HL1.out _).set HL1.out _).set HL1.out _).set HL1.out _).set HL1.out _).set HL1.out _).mono (by have := HE2.out; omega)
  · have hle : w.heap.size ≤ W1.heap.size := by have := HE1.out; omega
    exact (((((((HB23.out.setCell hle _).setCell hle _).setCell hle _).setCell hle _).setCell hle _).setCell hle _).setCell hle _).setCell hle _
end Circuit
end Go.Proofs.Ythdhlkcdbogcaaa

/-
  circuit.gate: a variable's and.
-/
namespace Go.Proofs.Ythdhlkcdbogcaaa
open Go.RowKit Base
set_option linter.unusedVariables false
set_option linter.unusedSimpArgs false
namespace Circuit

set_option maxRecDepth 8000 in
set_option maxHeartbeats 8000000 in
theorem gate_any (w : World) (x : Circ) (p : At) (hin : InCirc w x p) (hw : WfT x.ands) (v : Int) :
    Calls Try.prog 42 #[.agg (cells x p), .int .i64 v] w (GateOut w (gate x.ands v)) := by
  have hand := hin.ands
  obtain ⟨mx, ins, lats, outs, bads, invs, ands, names⟩ := x
  obtain ⟨a1, c1, a2, c2, a3, c3, a4, c4, a5, c5, a6, c6, a7, c7⟩ := p
  simp only [cells] at *
  obtain ⟨W1, hW1⟩ : ∃ W1, w.alloc (.cells #[.int .i64 mx, .slice a1 ins.length c1, .slice a2 lats.length c2, .slice a3 outs.length c3, .slice a4 bads.length c4, .slice a5 invs.length c5, .slice a6 ands.length c6, .slice a7 names.length c7] 27) = W1 := ⟨_, rfl⟩
  obtain ⟨W2, hW2⟩ : ∃ W2, W1.alloc (.cells #[.int .i64 0, .int .i64 0, .int .i64 0] 43) = W2 := ⟨_, rfl⟩
  have h1 : Below w.heap.size w W1 := by rw [← hW1]; exact (Below.refl _ _).alloc (Nat.le_refl _) _
  have h2 : Below W1.heap.size W1 W2 := by rw [← hW2]; exact (Below.refl _ _).alloc (Nat.le_refl _) _
  have z1 : W1.heap.size = w.heap.size + 1 := by rw [← hW1]; simp
  have z2 : W2.heap.size = w.heap.size + 2 := by rw [← hW2]; simp [z1]
  have k6 : W2.cell? ⟨w.heap.size, 6, none⟩ = some (.slice a6 ands.length c6) := by rw [← hW2, ← hW1]; simp [go_sem]
  have q0 : W2.cell? ⟨w.heap.size + 1, 0, none⟩ = some (.int .i64 0) := by rw [← z1, ← hW2]; simp [go_sem]
  have q1 : W2.cell? ⟨w.heap.size + 1, 1, none⟩ = some (.int .i64 0) := by rw [← z1, ← hW2]; simp [go_sem]
  have q2 : W2.cell? ⟨w.heap.size + 1, 2, none⟩ = some (.int .i64 0) := by rw [← z1, ← hW2]; simp [go_sem]
  have f0 : W2.frozen? ⟨w.heap.size + 1, 0, none⟩ = false := by rw [← z1, ← hW2]; simp [go_sem]
  have f1 : W2.frozen? ⟨w.heap.size + 1, 1, none⟩ = false := by rw [← z1, ← hW2]; simp [go_sem]
  have f2 : W2.frozen? ⟨w.heap.size + 1, 2, none⟩ = false := by rw [← z1, ← hW2]; simp [go_sem]
  have HB2 := Lib.hid (h1.trans (h2.mono h1.size))
  have HS := Lib.hid (hand.next (h1.trans (h2.mono h1.size)))
  have hcap := hand.cap
  have hbig := hand.big
  have HW := Lib.hid hw
  clear hin hand hw h1 h2
  go_enter Try.func42, Try.ntmps42
  go_wp2_with fail
  clear hW1 hW2
  go_loopw [11] (fun s wr => ∃ k : Nat, k ≤ ands.length ∧ s = .int .i64 k ∧ Hid (gate (ands.take k) v = none) ∧ Hid (Below W2.heap.size W2 wr)) (fun s _ => ands.length - (intOf s).toNat)
  case atStart => exact ⟨0, Nat.zero_le _, rfl, rfl, Below.refl _ _⟩
  case round =>
    obtain ⟨k, hk, rfl, hI, hbr⟩ := hrel
    by_cases hlt : k < ands.length
    · obtain ⟨b, o, hx, rfl, hbs, hc0, hc1, hc2⟩ := HS.out.tri hlt
      have d0 := (hbr.out.cell (p := ⟨b, o + k * 3, none⟩) hbs).trans hc0
      have d1 := (hbr.out.cell (p := ⟨b, o + k * 3 + 1, none⟩) hbs).trans hc1
      have d2 := (hbr.out.cell (p := ⟨b, o + k * 3 + 2, none⟩) hbs).trans hc2
      have VA := Lib.hid (fun U => var_any ands[k].1 (HW.out _ (List.getElem_mem hx)).1.1 (HW.out _ (List.getElem_mem hx)).1.2 U)
      clear hc0 hc1 hc2
      have HGM := Lib.hid (fun hn => gate_more (v := v) hx hI.out hn)
      have HGH := Lib.hid (fun h0 h1 => gate_hit (v := v) hx hI.out h0 h1)
      generalize ands[k] = t at *
      obtain ⟨t0, t1, t2⟩ := t
      simp only at d0 d1 d2 VA HGM HGH
      obtain ⟨U, hU⟩ : ∃ U, wr.alloc (.cells #[.int .i64 t0, .int .i64 t1, .int .i64 t2] 43) = U := ⟨_, rfl⟩
      have hbU : Below wr.heap.size wr U := by rw [← hU]; exact (Below.refl _ _).alloc (Nat.le_refl _) _
      have u0 : U.cell? ⟨wr.heap.size, 0, none⟩ = some (.int .i64 t0) := by rw [← hU]; simp [go_sem]
      have u1 : U.cell? ⟨wr.heap.size, 1, none⟩ = some (.int .i64 t1) := by rw [← hU]; simp [go_sem]
      have u2 : U.cell? ⟨wr.heap.size, 2, none⟩ = some (.int .i64 t2) := by rw [← hU]; simp [go_sem]
      have hbW : Below W2.heap.size W2 U := hbr.out.trans (hbU.mono hbr.out.size)
      have r0 := (hbW.cell (p := ⟨w.heap.size + 1, 0, none⟩) (by show w.heap.size + 1 < W2.heap.size; omega)).trans q0
      have r1 := (hbW.cell (p := ⟨w.heap.size + 1, 1, none⟩) (by show w.heap.size + 1 < W2.heap.size; omega)).trans q1
      have r2 := (hbW.cell (p := ⟨w.heap.size + 1, 2, none⟩) (by show w.heap.size + 1 < W2.heap.size; omega)).trans q2
      have s0 := (hbW.frozen (p := ⟨w.heap.size + 1, 0, none⟩) (by show w.heap.size + 1 < W2.heap.size; omega)).trans f0
      have s1 := (hbW.frozen (p := ⟨w.heap.size + 1, 1, none⟩) (by show w.heap.size + 1 < W2.heap.size; omega)).trans f1
      have s2 := (hbW.frozen (p := ⟨w.heap.size + 1, 2, none⟩) (by show w.heap.size + 1 < W2.heap.size; omega)).trans f2
      have HBU := Lib.hid hbW
      clear hbU hbW
      by_cases hg : 0 ≤ t0
      · by_cases hv : var t0 = v
        · have HG := Lib.hid (HGH.out hg hv)
          clear HGM HGH
          subst hv
          go_wp2_with fail
          refine (VA.out U).mono ?_
          rintro e w5 ⟨rfl, rfl⟩
          go_wp2_with fail
          refine bodyPost_ret (v := .tuple #[.agg #[.int .i64 t0, .int .i64 t1, .int .i64 t2], .bool true]) (by simp [results, Try.results42, go_sem, r0, r1, r2]) rfl ?_
          refine ⟨?_, (((HB2.out.trans (HBU.out.mono HB2.out.size)).setCell (by show w.heap.size ≤ w.heap.size + 1; omega) _).setCell (by show w.heap.size ≤ w.heap.size + 1; omega) _).setCell (by show w.heap.size ≤ w.heap.size + 1; omega) _⟩
          rw [HG.out]
          rfl
        · have HG := Lib.hid (HGM.out (fun h => hv h.2))
          clear HGM HGH
          go_wp2_with fail
          refine (VA.out U).mono ?_
          rintro e w5 ⟨rfl, rfl⟩
          go_wp2_with fail
          go_roundw
          case rel => exact ⟨k + 1, by omega, by go_num, HG.out, HBU.out⟩
          case measure => simp [intOf]; omega
      · have HG := Lib.hid (HGM.out (fun h => hg h.1))
        clear HGM HGH
        go_wp2_with fail
        go_roundw
        case rel => exact ⟨k + 1, by omega, by go_num, HG.out, HBU.out⟩
        case measure => simp [intOf]; omega
    · have HG : Hid (gate ands v = none) := by
        have h := hI.out
        rw [List.take_of_length_le (by omega)] at h
        exact h
      have r0 := (hbr.out.cell (p := ⟨w.heap.size + 1, 0, none⟩) (by show w.heap.size + 1 < W2.heap.size; omega)).trans q0
      have r1 := (hbr.out.cell (p := ⟨w.heap.size + 1, 1, none⟩) (by show w.heap.size + 1 < W2.heap.size; omega)).trans q1
      have r2 := (hbr.out.cell (p := ⟨w.heap.size + 1, 2, none⟩) (by show w.heap.size + 1 < W2.heap.size; omega)).trans q2
      have s0 := (hbr.out.frozen (p := ⟨w.heap.size + 1, 0, none⟩) (by show w.heap.size + 1 < W2.heap.size; omega)).trans f0
      have s1 := (hbr.out.frozen (p := ⟨w.heap.size + 1, 1, none⟩) (by show w.heap.size + 1 < W2.heap.size; omega)).trans f1
      have s2 := (hbr.out.frozen (p := ⟨w.heap.size + 1, 2, none⟩) (by show w.heap.size + 1 < W2.heap.size; omega)).trans f2
      go_wp2_with fail
      refine bodyPost_ret (v := .tuple #[.agg #[.int .i64 0, .int .i64 0, .int .i64 0], .bool false]) (by simp [results, Try.results42, go_sem, r0, r1, r2]) rfl ?_
      refine ⟨?_, (((HB2.out.trans (hbr.out.mono HB2.out.size)).setCell (by show w.heap.size ≤ w.heap.size + 1; omega) _).setCell (by show w.heap.size ≤ w.heap.size + 1; omega) _).setCell (by show w.heap.size ≤ w.heap.size + 1; omega) _⟩
      rw [HG.out]
      rfl

end Circuit
end Go.Proofs.Ythdhlkcdbogcaaa

/-
  A map[int]bool of the call's own that says true at just some integers.
-/
namespace Go.Proofs.Ythdhlkcdbogcaaa
open Go.RowKit Base Go.Maps
set_option linter.unusedVariables false
set_option linter.unusedSimpArgs false
namespace SetI

theorem law : Keyed Try.prog 3 := int_keyed Try.underlying3
theorem zeroE (w : World) : (zeroValue 4).run Try.prog w = .ok (.bool false) w := by kernel_rfl

def I64 (x : Int) : Prop := -9223372036854775808 ≤ x ∧ x ≤ 9223372036854775807

theorem wf_lit {x : Int} (h : I64 x) : (Lit.int .i64 x).wf = true := by
  unfold I64 at h
  simp [Lit.wf, IntKind.min, IntKind.max, IntKind.signed, IntKind.bits]
  omega

/-- Is an integer one of some? -/
def inX (X : List Int) (x : Int) : Bool := X.any fun y => y == x

theorem inX_iff {X : List Int} {x : Int} : inX X x = true ↔ x ∈ X := by
  unfold inX
  rw [List.any_eq_true]
  constructor
  · rintro ⟨y, hy, he⟩
    rw [beq_iff_eq] at he
    rw [← he]
    exact hy
  · intro h
    exact ⟨x, h, by simp⟩

/-- A map of the call's own that says true at just these; its keys are these, each once. -/
def SetIs (w : World) (b n : Nat) (X : List Int) : Prop :=
  ∃ D : DataW Unit, w.ownsMap Try.prog 3 (plainElem Try.prog 4) b n D ∧ IsMap D ∧ ∀ x, I64 x → D.atKey (.int .i64 x) (.lit (.bool false)) = .lit (.bool (inX X x))

theorem bool_inv {e : TypeId} (he : Try.prog.underlying e = some .bool) {v : Value} {z : DataW Unit × List MemPlace} (h : plainElem Try.prog e v = some z) : ∃ y, v = .bool y ∧ z = (.lit (.bool y), []) := by
  unfold plainElem at h
  rw [he] at h
  cases v <;> simp at h
  exact ⟨_, rfl, h.symm⟩

theorem set_look {w : World} {b n : Nat} {X : List Int} (h : SetIs w b n X) {x : Int} (hx : I64 x) :
    (Instr.lookup 58 (.map (some b)) (.int .i64 x) false).run Try.prog w = .ok (.bool (inX X x)) w := by
  obtain ⟨D, ho, _, hat⟩ := h
  obtain ⟨v, ps, hrun, hv⟩ := ho.lookup law Try.underlying58 (zeroE w) (plainElem_bool Try.underlying4 false) (keyOf_int_mk Try.underlying3 (wf_lit hx))
  obtain ⟨y, rfl, hz⟩ := bool_inv Try.underlying4 hv
  simp only [Prod.mk.injEq] at hz
  have := hz.1.symm.trans (hat x hx)
  simp only [DataW.lit.injEq, Lit.bool.injEq] at this
  rw [hrun, this]

theorem SetIs.next {w w' : World} {b n : Nat} {X : List Int} (h : SetIs w b n X) (hb : Below w.heap.size w w') : SetIs w' b n X := by
  obtain ⟨D, ⟨es, cl, hh, r⟩, hm, hat⟩ := h
  exact ⟨D, ⟨es, cl, (hb.block b (Array.getElem?_eq_some_iff.1 hh).1).trans hh, r⟩, hm, hat⟩

theorem set_made (w : World) : SetIs (w.alloc (.map #[] 0)) w.heap.size 0 [] :=
  ⟨.map [], World.ownsMap_made _ _ _ _, ⟨_, rfl⟩, fun x _ => by simp [DataW.atKey, inX]⟩

theorem set_put {D : DataW Unit} {X : List Int} (hm : IsMap D) (hat : ∀ x, I64 x → D.atKey (.int .i64 x) (.lit (.bool false)) = .lit (.bool (inX X x))) (y : Int) :
    IsMap (D.put (.int .i64 y) (.lit (.bool true))) ∧ ∀ x, I64 x → (D.put (.int .i64 y) (.lit (.bool true))).atKey (.int .i64 x) (.lit (.bool false)) = .lit (.bool (inX (X ++ [y]) x)) := by
  refine ⟨hm.put _ _, fun x hx => ?_⟩
  unfold inX
  rw [List.any_append]
  by_cases hxy : x = y
  · subst hxy
    rw [atKey_put_same hm (by trivial)]
    simp
  · rw [atKey_put_other (by intro e; simp at e; exact hxy e), hat x hx]
    have : (y == x) = false := by simp; exact fun e => hxy e.symm
    simp [inX, this]

/-- The keys of a map are these. -/
def KeysAre (D : DataW Unit) (X : List Int) : Prop := ∃ es : List (Lit × DataW Unit), D = .map es ∧ (∀ p ∈ es, ∃ x, p.1 = .int .i64 x) ∧ (Go.intKeys D).Perm X

theorem insert_perm (x : Lit × DataW Unit) (l : List (Lit × DataW Unit)) : (DataW.insert x l).Perm (x :: l) := by
  induction l with
  | nil => exact List.Perm.refl _
  | cons y r ih =>
    unfold DataW.insert
    split
    · exact List.Perm.refl _
    · exact (List.Perm.cons y ih).trans (List.Perm.swap x y r)

theorem keys_nil : KeysAre (.map []) [] := ⟨[], rfl, fun p h => by simp at h, List.Perm.refl _⟩

theorem keys_put {D : DataW Unit} {X : List Int} (h : KeysAre D X) {y : Int} (hy : y ∉ X) (d : DataW Unit) : KeysAre (D.put (.int .i64 y) d) (X ++ [y]) := by
  obtain ⟨es, rfl, hk, hp⟩ := h
  have hf : es.filter (fun p => !p.1.sameKey (.int .i64 y)) = es := by
    rw [List.filter_eq_self]
    intro p hpm
    obtain ⟨x, hx⟩ := hk p hpm
    rw [hx]
    have hne : x ≠ y := fun e => by
      apply hy
      rw [← e]
      apply hp.subset
      unfold Go.intKeys
      exact List.mem_map.2 ⟨p, hpm, by rw [hx]; rfl⟩
    simp [Lit.sameKey, hne]
  unfold DataW.put
  simp only [hf]
  refine ⟨_, rfl, fun p hpm => ?_, ?_⟩
  · have := (insert_perm _ _).subset hpm
    rw [List.mem_cons] at this
    rcases this with rfl | hm
    · exact ⟨y, rfl⟩
    · exact hk p hm
  · unfold Go.intKeys at *
    refine ((insert_perm (.int .i64 y, d) es).map _).trans ?_
    rw [List.map_cons]
    exact (List.Perm.cons _ hp).trans (List.perm_append_comm (l₁ := [y]) (l₂ := X))

end SetI
end Go.Proofs.Ythdhlkcdbogcaaa

/-
  slices.Sorted(maps.Keys(m)) at map[int]bool: the keys, sorted.
-/
namespace Go.Proofs.Ythdhlkcdbogcaaa
open Go.RowKit Base
set_option linter.unusedVariables false
namespace SortedK
open Go.Maps Go.Sort Go.Shelf

def keysA_ren : Go.Shelf.Ren := ⟨fun | 7 => 44 | 10 => 57 | n => n, fun | 23 => 58 | 26 => 3 | 3 => 4 | 28 => 82 | 0 => 0 | 27 => 81 | 33 => 67 | 4 => 4 | n => n, fun | n => n⟩
theorem keysA : Go.Proofs.SlLaysZI.n7 Try.prog keysA_ren := {
  mixed := by kernel_rfl
  f7 := ⟨Try.f44.name, by decide, Try.func44.trans (congrArg some (by kernel_rfl))⟩
  f10 := ⟨Try.f57.name, by decide, Try.func57.trans (congrArg some (by kernel_rfl))⟩
  t0 := Try.underlying0
  a0 := Try.isAgg0
  z0 := Try.sizeOf0
  v0 := Try.zeroValue0
  t4 := Try.underlying4
  a4 := Try.isAgg4
  z4 := Try.sizeOf4
  v4 := Try.zeroValue4
  t23 := Try.underlying58
  a23 := Try.isAgg58
  z23 := Try.sizeOf58
  v23 := Try.zeroValue58
  t26 := Try.underlying3
  a26 := Try.isAgg3
  z26 := Try.sizeOf3
  v26 := Try.zeroValue3
  t27 := Try.underlying81
  a27 := Try.isAgg81
  z27 := Try.sizeOf81
  v27 := Try.zeroValue81
  t28 := Try.underlying82
  a28 := Try.isAgg82
  z28 := Try.sizeOf82
  v28 := Try.zeroValue82
  t33 := Try.underlying67
  a33 := Try.isAgg67
  z33 := Try.sizeOf67
  v33 := Try.zeroValue67 }
def sortedA_ren : Go.Shelf.Ren := ⟨fun | 6 => 43 | 8 => 55 | 9 => 56 | 11 => 62 | 13 => 64 | 12 => 63 | 23 => 76 | 24 => 77 | 14 => 67 | 15 => 68 | 16 => 69 | 17 => 70 | 18 => 71 | 19 => 72 | 20 => 73 | 21 => 74 | 22 => 75 | 25 => 82 | 26 => 83 | 27 => 84 | 28 => 85 | 29 => 86 | 30 => 87 | 31 => 90 | n => n, fun | 26 => 3 | 28 => 82 | 24 => 22 | 0 => 0 | 3 => 3 | 37 => 66 | 48 => 115 | 50 => 28 | 4 => 4 | 40 => 108 | 39 => 107 | 45 => 44 | 5 => 5 | 9 => 9 | 51 => 118 | 55 => 122 | 57 => 126 | 58 => 127 | 33 => 67 | n => n, fun | n => n⟩
theorem sortedA : Go.Proofs.SlLaysZI.n6 Try.prog sortedA_ren := {
  mixed := by kernel_rfl
  f6 := ⟨Try.f43.name, by decide, Try.func43.trans (congrArg some (by kernel_rfl))⟩
  f8 := ⟨Try.f55.name, by decide, Try.func55.trans (congrArg some (by kernel_rfl))⟩
  f11 := ⟨Try.f62.name, by decide, Try.func62.trans (congrArg some (by kernel_rfl))⟩
  t0 := Try.underlying0
  a0 := Try.isAgg0
  z0 := Try.sizeOf0
  v0 := Try.zeroValue0
  t24 := Try.underlying22
  a24 := Try.isAgg22
  z24 := Try.sizeOf22
  v24 := Try.zeroValue22
  t26 := Try.underlying3
  a26 := Try.isAgg3
  z26 := Try.sizeOf3
  v26 := Try.zeroValue3
  t28 := Try.underlying82
  a28 := Try.isAgg82
  z28 := Try.sizeOf82
  v28 := Try.zeroValue82
  i26 := by kernel_rfl }
def sortA_ren : Go.Shelf.Ren := ⟨fun | 5 => 56 | 8 => 64 | 7 => 63 | 19 => 76 | 20 => 77 | 10 => 67 | 11 => 68 | 12 => 69 | 13 => 70 | 14 => 71 | 15 => 72 | 16 => 73 | 17 => 74 | 18 => 75 | 30 => 82 | 31 => 83 | 32 => 84 | 33 => 85 | 34 => 86 | 35 => 87 | 40 => 90 | n => n, fun | 23 => 22 | 25 => 3 | 3 => 3 | 32 => 66 | 22 => 22 | 0 => 0 | 44 => 115 | 46 => 28 | 4 => 4 | 36 => 108 | 35 => 107 | 41 => 44 | 5 => 5 | 9 => 9 | 53 => 118 | 57 => 122 | 63 => 126 | 64 => 127 | n => n, fun | n => n⟩
theorem sortA : Go.Proofs.SlLaysM.n5 Try.prog sortA_ren := {
  mixed := by kernel_rfl
  f5 := ⟨Try.f56.name, by decide, Try.func56.trans (congrArg some (by kernel_rfl))⟩
  f7 := ⟨Try.f63.name, by decide, Try.func63.trans (congrArg some (by kernel_rfl))⟩
  f8 := Try.func64.trans (congrArg some (by kernel_rfl))
  f10 := ⟨Try.f67.name, by decide, Try.func67.trans (congrArg some (by kernel_rfl))⟩
  f11 := ⟨Try.f68.name, by decide, Try.func68.trans (congrArg some (by kernel_rfl))⟩
  f12 := ⟨Try.f69.name, by decide, Try.func69.trans (congrArg some (by kernel_rfl))⟩
  f13 := ⟨Try.f70.name, by decide, Try.func70.trans (congrArg some (by kernel_rfl))⟩
  f14 := ⟨Try.f71.name, by decide, Try.func71.trans (congrArg some (by kernel_rfl))⟩
  f15 := ⟨Try.f72.name, by decide, Try.func72.trans (congrArg some (by kernel_rfl))⟩
  f16 := ⟨Try.f73.name, by decide, Try.func73.trans (congrArg some (by kernel_rfl))⟩
  f17 := ⟨Try.f74.name, by decide, Try.func74.trans (congrArg some (by kernel_rfl))⟩
  f18 := ⟨Try.f75.name, by decide, Try.func75.trans (congrArg some (by kernel_rfl))⟩
  f19 := Try.func76.trans (congrArg some (by kernel_rfl))
  f20 := Try.func77.trans (congrArg some (by kernel_rfl))
  f30 := ⟨Try.f82.name, by decide, Try.func82.trans (congrArg some (by kernel_rfl))⟩
  f31 := Try.func83.trans (congrArg some (by kernel_rfl))
  f32 := Try.func84.trans (congrArg some (by kernel_rfl))
  f33 := ⟨Try.f85.name, by decide, Try.func85.trans (congrArg some (by kernel_rfl))⟩
  f34 := ⟨Try.f86.name, by decide, Try.func86.trans (congrArg some (by kernel_rfl))⟩
  f35 := ⟨Try.f87.name, by decide, Try.func87.trans (congrArg some (by kernel_rfl))⟩
  f40 := ⟨Try.f90.name, by decide, Try.func90.trans (congrArg some (by kernel_rfl))⟩
  t0 := Try.underlying0
  a0 := Try.isAgg0
  z0 := Try.sizeOf0
  v0 := Try.zeroValue0
  t3 := Try.underlying3
  a3 := Try.isAgg3
  z3 := Try.sizeOf3
  v3 := Try.zeroValue3
  t4 := Try.underlying4
  a4 := Try.isAgg4
  z4 := Try.sizeOf4
  v4 := Try.zeroValue4
  t5 := Try.underlying5
  a5 := Try.isAgg5
  z5 := Try.sizeOf5
  v5 := Try.zeroValue5
  t9 := Try.underlying9
  a9 := Try.isAgg9
  z9 := Try.sizeOf9
  v9 := Try.zeroValue9
  t22 := Try.underlying22
  a22 := Try.isAgg22
  z22 := Try.sizeOf22
  v22 := Try.zeroValue22
  t23 := Try.underlying22
  a23 := Try.isAgg22
  z23 := Try.sizeOf22
  v23 := Try.zeroValue22
  t25 := Try.underlying3
  a25 := Try.isAgg3
  z25 := Try.sizeOf3
  v25 := Try.zeroValue3
  t32 := Try.underlying66
  a32 := Try.isAgg66
  z32 := Try.sizeOf66
  v32 := Try.zeroValue66
  t35 := Try.underlying107
  a35 := Try.isAgg107
  z35 := Try.sizeOf107
  v35 := Try.zeroValue107
  t36 := Try.underlying108
  a36 := Try.isAgg108
  z36 := Try.sizeOf108
  v36 := Try.zeroValue108
  t41 := Try.underlying44
  a41 := Try.isAgg44
  z41 := Try.sizeOf44
  v41 := Try.zeroValue44
  t44 := Try.underlying115
  a44 := Try.isAgg115
  z44 := Try.sizeOf115
  v44 := Try.zeroValue115
  t46 := Try.underlying28
  a46 := Try.isAgg28
  z46 := Try.sizeOf28
  v46 := Try.zeroValue28
  t53 := Try.underlying118
  a53 := Try.isAgg118
  z53 := Try.sizeOf118
  v53 := Try.zeroValue118
  t57 := Try.underlying122
  a57 := Try.isAgg122
  z57 := Try.sizeOf122
  v57 := Try.zeroValue122
  t63 := Try.underlying126
  a63 := Try.isAgg126
  z63 := Try.sizeOf126
  v63 := Try.zeroValue126
  t64 := Try.underlying127
  a64 := Try.isAgg127
  z64 := Try.sizeOf127
  v64 := Try.zeroValue127 }

theorem sortsA (m : Nat) : AnyZI.SortsIn Try.prog sortedA_ren Fence.wide m :=
  ⟨fun blk off cap ss W hH hblk hsz => callsIn_wide.2 (AnyM.slices_Sort_int sortA blk off cap ss W hH hblk hsz),
   fun p cap W => callsIn_wide.2 (AnyM.slices_Sort_int_none sortA p cap W)⟩

theorem keys_any (mb : Option Nat) (w : World) : Calls Try.prog 44 #[.map mb] w fun e w' => e = .returned (.func (.func 57) #[] #[.pointer (some ⟨w.heap.size, 0, none⟩)]) ∧ w' = w.alloc (.cells #[.map mb] 58) :=
  (callsIn_wide (n := 5)).1 (AnyZI.keys_in keysA Fence.wide 5 trivial rfl mb w)

set_option maxHeartbeats 1000000 in
theorem sorted_any {H : Type} (b nn : Nat) (D0 : DataW H) (R : Value → Option (DataW H × List MemPlace)) (w : World) (hown : w.ownsMap Try.prog 3 R b nn D0) (hmax : Maps.size D0 ≤ maxLen) (hbytes : Maps.size D0 * 8 ≤ 140737488355328) :
    Calls Try.prog 43 #[.func (.func 57) #[] #[.pointer (some ⟨w.heap.size, 0, none⟩)]] (w.alloc (.cells #[.map (some b)] 58)) fun e w' => ∃ (v : Value) (ss : List Int), e = .returned v ∧ ss.Perm (intKeys D0) ∧
      w'.ownsRow w.heap.size 3 1 v ss.length ((ss.mergeSort (fun x y => decide (x ≤ y))).map encZ) ∧ (v = .slice none 0 0 ↔ ss = []) ∧ Below w.heap.size w w' := by
  refine (callsIn_wide (n := 5)).1 ?_
  have hbl := hown.lt
  have hseq : SeqGives Fence.wide 2 Try.prog 57 #[.pointer (some ⟨w.heap.size, 0, none⟩)] encZ (fun ss => ss.Perm (intKeys D0)) (Maps.size D0) (w.alloc (.cells #[.map (some b)] 58)) :=
    AnyZI.keys_gives (ρ := keysA_ren) { keysA with } Fence.wide _ trivial rfl (by omega) w.heap.size b nn D0 _ (by simp) (by simp) (by
      obtain ⟨es, clock, hb, Ft, hs, hD⟩ := hown
      exact ⟨es, clock, (Below.heap_alloc _ _ b hbl).trans hb, Ft, hs, hD⟩)
  have cS := AnyZI.sorted_in sortedA Fence.wide 5 trivial trivial trivial trivial rfl (by omega) (sortsA _) (enters_of Try.func56 (by kernel_rfl) rfl) 57 #[.pointer (some ⟨w.heap.size, 0, none⟩)] trivial (enters_of Try.func57 (by kernel_rfl) rfl) _ _ hmax hbytes _ hseq
  refine cS.mono ?_
  rintro e w' ⟨v, ss, he, hS, hrow, hnil, hb⟩
  exact ⟨v, ss, he, hS, ownsRow_base_a hrow (by simp), hnil, ((Below.refl _ w).alloc (Nat.le_refl _) _).trans (hb.mono (by simp))⟩

end SortedK
end Go.Proofs.Ythdhlkcdbogcaaa

/-
  circuit.Cone: what literals hang on.
-/
namespace Go.Proofs.Ythdhlkcdbogcaaa
open Go.RowKit Base Go.Maps
set_option linter.unusedVariables false
set_option linter.unusedSimpArgs false
namespace Circuit

theorem info_intC : (Try.prog.info? 3).map (fun i => (i.zero, i.size, i.bytes)) = some (some (.int .i64 0), 1, 8) := by kernel_rfl

/-- The set of what is met, and its keys. -/
def SetK (w : World) (b n : Nat) (M : List Int) : Prop :=
  ∃ D : DataW Unit, w.ownsMap Try.prog 3 (plainElem Try.prog 4) b n D ∧ IsMap D ∧ (∀ x, SetI.I64 x → D.atKey (.int .i64 x) (.lit (.bool false)) = .lit (.bool (SetI.inX M x))) ∧ SetI.KeysAre D M

theorem SetK.set {w : World} {b n : Nat} {M : List Int} (h : SetK w b n M) : SetI.SetIs w b n M := by
  obtain ⟨D, h1, h2, h3, _⟩ := h
  exact ⟨D, h1, h2, h3⟩
theorem SetK.next {w w' : World} {b n : Nat} {M : List Int} (h : SetK w b n M) (hb : Below w.heap.size w w') : SetK w' b n M := by
  obtain ⟨D, ⟨es, cl, hh, r⟩, hm, hat, hk⟩ := h
  exact ⟨D, ⟨es, cl, (hb.block b (Array.getElem?_eq_some_iff.1 hh).1).trans hh, r⟩, hm, hat, hk⟩

theorem _root_.Go.Proofs.Ythdhlkcdbogcaaa.SetI.keys_size {D : DataW Unit} {X : List Int} (h : SetI.KeysAre D X) : Maps.size D = X.length := by
  obtain ⟨es, rfl, _, hp⟩ := h
  have := hp.length_eq
  unfold Go.intKeys at this
  rw [List.length_map] at this
  exact this

theorem sorted_strict {ss M : List Int} (hp : ss.Perm M) (hn : M.Nodup) : (ss.mergeSort (fun x y => decide (x ≤ y))).Pairwise (· < ·) ∧ (∀ v, v ∈ ss.mergeSort (fun x y => decide (x ≤ y)) ↔ v ∈ M) ∧ (ss.mergeSort (fun x y => decide (x ≤ y))).length = ss.length := by
  have hperm : (ss.mergeSort (fun x y => decide (x ≤ y))).Perm M := (List.mergeSort_perm _ _).trans hp
  have h1 : (ss.mergeSort (fun x y => decide (x ≤ y))).Pairwise (fun x y => decide (x ≤ y) = true) :=
    List.pairwise_mergeSort (fun a b c h1 h2 => by simp only [decide_eq_true_eq] at *; omega) (fun a b => by simp only [Bool.or_eq_true, decide_eq_true_eq]; omega) ss
  have h2 : (ss.mergeSort (fun x y => decide (x ≤ y))).Nodup := hperm.nodup_iff.2 hn
  refine ⟨?_, fun v => hperm.mem_iff, by simp⟩
  refine (h1.and h2).imp ?_
  intro a b h
  simp only [decide_eq_true_eq] at h
  omega

theorem SetK.keep {w w' : World} {b n : Nat} {M : List Int} (h : SetK w b n M) {B : Nat} (hb : Below B w w') (hB : b < B) : SetK w' b n M := by
  obtain ⟨D, ⟨es, cl, hh, r⟩, hm, hat, hk⟩ := h
  exact ⟨D, ⟨es, cl, (hb.block b hB).trans hh, r⟩, hm, hat, hk⟩

theorem pop_last {T : List Int} (h : 0 < T.length) : ∃ T' t, T = T' ++ [t] ∧ T'.length + 1 = T.length := by
  refine ⟨T.dropLast, T.getLast (by intro e; rw [e] at h; simp at h), (List.dropLast_concat_getLast _).symm, ?_⟩
  rw [List.length_dropLast]
  omega

set_option maxRecDepth 8000 in
set_option maxHeartbeats 16000000 in
theorem cone_any (w : World) (x : Circ) (p : At) (hin : InCirc w x p) (hwa : WfT x.ands) (a : Option Addr) (c : Nat) (l : List Int) (hsl : Sl w a l.length c (ints l)) (hl : ∀ y ∈ l, I64 y) (hsz : (2 * l.length + 2 * x.ands.length + 2) * 8 ≤ 140737488355328) :
    Calls Try.prog 20 #[.agg (cells x p), .slice a l.length c] w fun e w' => ∃ a' c' vs, e = .returned (.slice a' vs.length c') ∧ w'.ownsRow w.heap.size 3 1 (.slice a' vs.length c') vs.length (ints vs) ∧ (vs.Pairwise (· < ·)) ∧ (∀ v, v ∈ vs ↔ v ≠ 0 ∧ Rch x.ands l v) ∧ Below w.heap.size w w' := by
  obtain ⟨W1, hW1⟩ : ∃ W1, w.alloc (.cells (cells x p) 27) = W1 := ⟨_, rfl⟩
  obtain ⟨hb1, hcb⟩ := cbox_new w x p W1 hW1
  obtain ⟨W2, hW2⟩ : ∃ W2, W1.alloc (.map #[] 0) = W2 := ⟨_, rfl⟩
  have hb2 : Below W1.heap.size W1 W2 := by rw [← hW2]; exact (Below.refl _ _).alloc (Nat.le_refl _) _
  have z2 : W2.heap.size = W1.heap.size + 1 := by rw [← hW2]; simp
  have hset : SetK W2 W1.heap.size 0 [] := by rw [← hW2]; exact ⟨.map [], World.ownsMap_made _ _ _ _, ⟨_, rfl⟩, fun x _ => by simp [DataW.atKey, SetI.inX], SetI.keys_nil⟩
  have CL := CloneI.clone W2 a l.length c (ints l) (hsl.next (hb1.trans (hb2.mono hb1.size))) (fun u hu => by unfold ints at hu; obtain ⟨y, _, rfl⟩ := List.mem_map.1 hu; rfl) (by omega)
  have HCL := Lib.hid CL
  have HB1 := Lib.hid hb1
  have HB2 := Lib.hid hb2
  have HZ2 := Lib.hid z2
  have HSET := Lib.hid hset
  have KB := Lib.hid (fun (U : World) (hU : Below W1.heap.size W1 U) => hcb.next hU (Nat.le_refl _))
  have HGA := fun (U : World) (hU : Below W1.heap.size W1 U) (v : Int) => gate_any U x p ((hin.next hb1).next hU) hwa v
  have HSZ := Lib.hid hsz
  have HWA := Lib.hid hwa
  have HL := Lib.hid hl
  obtain ⟨a1, c1, a2, c2, a3, c3, a4, c4, a5, c5, a6, c6, a7, c7⟩ := p
  simp only [cells] at hW1 HGA ⊢
  have HG := Lib.hid HGA
  have hmm := @run_makeMap Try.prog
  clear hin hwa hsl hl hsz hb1 hcb hb2 z2 hset CL HGA
  go_enter Try.func20, Try.ntmps20
  go_wp2_with fail
  with_reducible refine HCL.out.mono ?_
  rintro e w3 ⟨a3', c3', rfl, hown3, hb3⟩
  have hset3 := HSET.out.next hb3
  have hb13 := HB2.out.trans (hb3.mono HB2.out.size)
  have hz3 := hb3.size
  have HST : Hid (∃ (T M : List Int) (a' : Option Addr) (c' n : Nat), (.slice a3' l.length c3' : Value) = .slice a' n c' ∧ Hid (T.length = n) ∧ Hid (w3.ownsRow W2.heap.size 3 1 (.slice a' n c') n (ints T)) ∧ Hid (ConeInv x.ands l T M) ∧ Hid (SetK w3 W1.heap.size M.length M) ∧ Hid (∀ t ∈ T, I64 t) ∧ Hid (l.length + 3 * (l.length + 2 * x.ands.length) = T.length + 3 * (l.length + 2 * x.ands.length - M.length)) ∧ Hid (Below W1.heap.size W1 w3) ∧ Hid (W2.heap.size ≤ w3.heap.size)) :=
    ⟨l, [], a3', c3', l.length, rfl, rfl, hown3, cone_start _ _, hset3, HL.out, by show _ = _; simp, hb13, hz3⟩
  clear hW1 hW2 hmm HCL hset3 hb13 hz3 hown3 hb3
  go_wp2_with fail
  go_loopg [6] (l.length + 3 * (l.length + 2 * x.ands.length)) (fun gk s6 wr => ∃ (T M : List Int) (a' : Option Addr) (c' n : Nat), s6 = .slice a' n c' ∧ Hid (T.length = n) ∧ Hid (wr.ownsRow W2.heap.size 3 1 (.slice a' n c') n (ints T)) ∧ Hid (ConeInv x.ands l T M) ∧ Hid (SetK wr W1.heap.size M.length M) ∧ Hid (∀ t ∈ T, I64 t) ∧ Hid (gk = T.length + 3 * (l.length + 2 * x.ands.length - M.length)) ∧ Hid (Below W1.heap.size W1 wr) ∧ Hid (W2.heap.size ≤ wr.heap.size))
  case atStart => exact HST.out
  case round =>
    clear HST
    obtain ⟨T, M, a', c', n, rfl, hn, hown, hI, hS, h64, hgk, hB, hZ⟩ := hrel
    by_cases hpos : 0 < n
    · obtain ⟨T', t, hT, hlen⟩ := pop_last (T := T) (by have := hn.out; omega)
      obtain ⟨m, rfl⟩ : ∃ m, n = m + 1 := ⟨n - 1, by omega⟩
      have hm : T'.length = m := by have := hn.out; omega
      have HTM := Lib.hid hm
      subst hT
      obtain ⟨g, rfl, hgl, hgs⟩ := own_addr hown.out hpos
      have HPOP : Hid (wr.ownsRow W2.heap.size 3 1 (.slice (some ⟨g, 0, none⟩) m c') m (ints T')) := by
        have h := hown.out
        have e : ints (T' ++ [t]) = ints T' ++ [.int .i64 t] := by unfold ints; rw [List.map_append]; rfl
        rw [e] at h
        exact ownsRow_pop (by rw [ints_len, hm, Nat.mul_one]) h
      obtain ⟨a4, c4', hae, hsl⟩ := own_sl hown.out
      simp only [Value.slice.injEq, true_and] at hae
      obtain ⟨rfl, rfl⟩ := hae
      have HGK : Hid (gk = m + 1 + 3 * (l.length + 2 * x.ands.length - M.length)) := by
        have h := hgk.out
        rw [List.length_append, hm] at h
        exact h
      have H64' : Hid (∀ u ∈ T', I64 u) := fun u hu => h64.out u (List.mem_append_left _ hu)
      obtain ⟨b, o, hx, hae2, hbs, d0⟩ := hsl.int (show m < m + 1 by omega)
      simp only [Option.some.injEq, Addr.mk.injEq, and_true] at hae2
      obtain ⟨rfl, rfl⟩ := hae2
      have het : (T' ++ [t])[m] = t := by simp [← hm]
      rw [het, Nat.zero_add] at d0
      have hcap := hsl.cap
      have hbig := hsl.big
      have ht64 := h64.out t (by simp)
      have HV := Lib.hid (fun U => var_any t ht64.1 ht64.2 U)
      have hv64 : SetI.I64 (var t) := by have := ht64; unfold I64 at this; unfold SetI.I64 var; omega
      have HLK := SetI.set_look hS.out.set hv64
      clear hsl hx het hm
      generalize hgv : var t = v at *
      have HGV := Lib.hid hgv
      clear hgv hpos
      by_cases hv0 : v = 0
      · have hv0' : (v == 0) = true := by rw [hv0]; rfl
        have HVZ := Lib.hid hv0
        clear hv0
        go_wp2_with fail
        with_reducible refine (HV.out _).mono ?_
        rintro e w5 ⟨rfl, rfl⟩
        go_wp2_with fail
        go_roundg (m + 3 * (l.length + 2 * x.ands.length - M.length))
        case measure => have := HGK.out; omega
        case rel => exact ⟨T', M, _, c', m, rfl, HTM.out, HPOP.out, cone_skip hI.out (Or.inl (HGV.out.trans HVZ.out)), hS.out, H64'.out, by show _ = _; rw [HTM.out], hB.out, hZ.out⟩
      · have hv0' : (v == 0) = false := by simpa using hv0
        have HV0 := Lib.hid hv0
        clear hv0
        cases hin : SetI.inX M v
        · rw [hin] at HLK
          have HNM : Hid (v ∉ M) := fun hm => by
            have := SetI.inX_iff.2 hm
            rw [hin] at this
            cases this
          have HIN := Lib.hid hin
          clear hin
          obtain ⟨D, hown6, hD1, hD2, hD3⟩ := hS.out
          have hfew := cone_few hI.out
          have HFEW := Lib.hid hfew
          have HML : Hid (M.length < maxLen) := by show _ < _; have := HSZ.out; unfold maxLen; omega
          have HWF := Lib.hid (SetI.wf_lit hv64)
          go_upto_region 8 with ((first | (go_at_call 22; with_reducible refine (HV.out _).mono ?_; rintro e w5 ⟨rfl, rfl⟩) | (at_mapUpdate; refine wpList_mapUpdate_own _ rfl _ _ _ 58 rfl 3 4 SetI.law Try.underlying58 _ W1.heap.size M.length _ rfl hown6 HML.out _ _ _ rfl rfl (keyOf_int_mk Try.underlying3 HWF.out) _ [] (plainElem_bool Try.underlying4 true) ?_; intro w6 hmap6 hgrow6)))
          have hput := SetI.set_put hD1 hD2 v
          have hS6 : SetK w6 W1.heap.size (M.length + 1) (M ++ [v]) := ⟨_, hmap6, hput.1, hput.2, SetI.keys_put hD3 HNM.out _⟩
          have hgB : g ≠ W1.heap.size := by have := HZ2.out; omega
          have hown7 := HPOP.out.kept hgrow6 (Or.inr (by simpa [Value.ownBlock] using hgB))
          have hB6 := hB.out.grown hgrow6 hB.out.size (fun q hq => by cases hq; exact Nat.le_refl _)
          have HB6 := Lib.hid hB6
          have HS6 := Lib.hid hS6
          have HO6 := Lib.hid hown7
          have HZ6 := Lib.hid (Nat.le_trans hZ.out hgrow6.size)
          have CB := KB.out w6 hB6
          have HG6 := Lib.hid (HG.out w6 hB6 v)
          have HI := Lib.hid hI.out
          clear hput hS6 hown7 hB6 hgrow6 hmap6 hown6 hD1 hD2 hD3 HLK d0 hown hS
          have m0 : w6.cell? ⟨w.heap.size, 0, none⟩ = some (.int .i64 x.max) := CB.k0
          have m1 : w6.cell? ⟨w.heap.size, 1, none⟩ = some (.slice a1 x.ins.length c1) := CB.k1
          have m2 : w6.cell? ⟨w.heap.size, 2, none⟩ = some (.slice a2 x.lats.length c2) := CB.k2
          have m3 : w6.cell? ⟨w.heap.size, 3, none⟩ = some (.slice a3 x.outs.length c3) := CB.k3
          have m4 : w6.cell? ⟨w.heap.size, 4, none⟩ = some (.slice a4 x.bads.length c4) := CB.k4
          have m5 : w6.cell? ⟨w.heap.size, 5, none⟩ = some (.slice a5 x.invs.length c5) := CB.k5
          have m6 : w6.cell? ⟨w.heap.size, 6, none⟩ = some (.slice a6 x.ands.length c6) := CB.k6
          have m7 : w6.cell? ⟨w.heap.size, 7, none⟩ = some (.slice a7 x.names.length c7) := CB.k7
          clear CB
          cases hgt : gate x.ands v
          · rw [hgt] at HG6
            have HIN := Lib.hid (cone_meet_none HI.out (by rw [HGV.out]; exact HV0.out) (by rw [HGV.out]; exact HNM.out) (by rw [HGV.out]; exact hgt))
            have HG7 : Hid (Calls Try.prog 42 #[.agg #[.int .i64 x.max, .slice a1 x.ins.length c1, .slice a2 x.lats.length c2, .slice a3 x.outs.length c3, .slice a4 x.bads.length c4, .slice a5 x.invs.length c5, .slice a6 x.ands.length c6, .slice a7 x.names.length c7], .int .i64 v] w6 fun e w' => e = .returned (.tuple #[.agg #[.int .i64 0, .int .i64 0, .int .i64 0], .bool false]) ∧ Below w6.heap.size w6 w') := HG6.out
            clear HG6 hgt
            go_wp2_with fail
            with_reducible refine HG7.out.mono ?_
            rintro e w7 ⟨rfl, hb7⟩
            obtain ⟨W8, hW8⟩ : ∃ W8, w7.alloc (.cells #[.int .i64 0, .int .i64 0, .int .i64 0] 43) = W8 := ⟨_, rfl⟩
            obtain ⟨hb8, htb⟩ := tbox_new w7 (0, 0, 0) 43 W8 hW8
            have f0 : W8.frozen? ⟨w7.heap.size, 0, none⟩ = false := by rw [← hW8]; simp [go_sem]
            have f1 : W8.frozen? ⟨w7.heap.size, 1, none⟩ = false := by rw [← hW8]; simp [go_sem]
            have f2 : W8.frozen? ⟨w7.heap.size, 2, none⟩ = false := by rw [← hW8]; simp [go_sem]
            have s0 : W8.setCell ⟨w7.heap.size, 0, none⟩ (.int .i64 0) = W8 := setCell_same _ _ _ htb.t0
            have s1 : W8.setCell ⟨w7.heap.size, 1, none⟩ (.int .i64 0) = W8 := setCell_same _ _ _ htb.t1
            have s2 : W8.setCell ⟨w7.heap.size, 2, none⟩ (.int .i64 0) = W8 := setCell_same _ _ _ htb.t2
            have hb68 := hb7.trans (hb8.mono hb7.size)
            have HB68 := Lib.hid hb68
            have q0 : W8.cell? ⟨w7.heap.size, 0, none⟩ = some (.int .i64 0) := htb.t0
            have q1 : W8.cell? ⟨w7.heap.size, 1, none⟩ = some (.int .i64 0) := htb.t1
            have q2 : W8.cell? ⟨w7.heap.size, 2, none⟩ = some (.int .i64 0) := htb.t2
            clear hb7 hb8 htb hb68 m0 m1 m2 m3 m4 m5 m6 m7
            go_wp2_with fail
            go_roundg (m + 3 * (l.length + 2 * x.ands.length - (M.length + 1)))
            case measure => have := HGK.out; have := cone_few HIN.out; simp only [List.length_append, List.length_singleton] at this; omega
            case rel => exact ⟨T', M ++ [v], _, c', m, rfl, HTM.out, own_next HO6.out HB68.out, by have h := HIN.out; rw [HGV.out] at h; exact h, by show SetK _ _ (M ++ [v]).length _; rw [List.length_append]; exact HS6.out.next HB68.out, H64'.out, by show _ = _; rw [HTM.out, List.length_append]; rfl, HB6.out.trans (HB68.out.mono HB6.out.size), Nat.le_trans HZ6.out HB68.out.size⟩
          · rename_i gy
            obtain ⟨y0, y1, y2⟩ := gy
            rw [hgt] at HG6
            have HIN := Lib.hid (cone_meet_some HI.out (by rw [HGV.out]; exact HV0.out) (by rw [HGV.out]; exact HNM.out) (by rw [HGV.out]; exact hgt))
            have HY := Lib.hid (HWA.out _ (gate_mem hgt))
            have HG7 : Hid (Calls Try.prog 42 #[.agg #[.int .i64 x.max, .slice a1 x.ins.length c1, .slice a2 x.lats.length c2, .slice a3 x.outs.length c3, .slice a4 x.bads.length c4, .slice a5 x.invs.length c5, .slice a6 x.ands.length c6, .slice a7 x.names.length c7], .int .i64 v] w6 fun e w' => e = .returned (.tuple #[.agg #[.int .i64 y0, .int .i64 y1, .int .i64 y2], .bool true]) ∧ Below w6.heap.size w6 w') := HG6.out
            clear HG6 hgt
            go_wp2_with fail
            with_reducible refine HG7.out.mono ?_
            rintro e w7 ⟨rfl, hb7⟩
            obtain ⟨W8, hW8⟩ : ∃ W8, w7.alloc (.cells #[.int .i64 y0, .int .i64 y1, .int .i64 y2] 43) = W8 := ⟨_, rfl⟩
            obtain ⟨hb8, htb⟩ := tbox_new w7 (y0, y1, y2) 43 W8 hW8
            have hb68 := hb7.trans (hb8.mono hb7.size)
            have HB68 := Lib.hid hb68
            have q0 : W8.cell? ⟨w7.heap.size, 0, none⟩ = some (.int .i64 y0) := htb.t0
            have q1 : W8.cell? ⟨w7.heap.size, 1, none⟩ = some (.int .i64 y1) := htb.t1
            have q2 : W8.cell? ⟨w7.heap.size, 2, none⟩ = some (.int .i64 y2) := htb.t2
            clear hb7 hb8 htb hb68 m0 m1 m2 m3 m4 m5 m6 m7
            go_upto_region 10 with fail
            obtain ⟨W9, hW9⟩ : ∃ W9, W8.alloc (.cells #[.int .i64 y1, .int .i64 y2] 3) = W9 := ⟨_, rfl⟩
            have hb9 : Below W8.heap.size W8 W9 := by rw [← hW9]; exact (Below.refl _ _).alloc (Nat.le_refl _) _
            have hsl9 : Sl W9 (some ⟨W8.heap.size, 0, none⟩) 2 2 [.int .i64 y1, .int .i64 y2] := by rw [← hW9]; exact sl_new W8 _ _ 2 rfl (by omega)
            have hb69 := HB68.out.trans (hb9.mono HB68.out.size)
            have HO9 := Lib.hid (own_next HO6.out hb69)
            have HZ9 := Lib.hid (Nat.le_trans HZ6.out hb69.size)
            have HB69 := Lib.hid hb69
            have HSL9 := Lib.hid hsl9
            have HAN : Hid ((m + 2) * 8 ≤ 140737488355328) := by
              show _ ≤ _
              have h1 := HI.out.few
              have h2 := cone_few HIN.out
              have h3 := HSZ.out
              have h4 := HTM.out
              rw [List.length_append, h4] at h1
              rw [List.length_append] at h2
              simp only [List.length_singleton] at h1 h2
              omega
            clear hb9 hsl9 hb69
            go_wp2_with ((with_reducible refine wpL_app W2.heap.size (.slice (some ⟨g, 0, none⟩) m c') m (ints T') (some ⟨W8.heap.size, 0, none⟩) 2 2 [.int .i64 y1, .int .i64 y2] info_intC Try.underlying22 rfl ?_ ?_ ?_ HO9.out HSL9.out HZ9.out HAN.out ?_ (Below.refl _ W9) ?_); rfl; rfl; (intro u hu; simp only [List.mem_cons, List.not_mem_nil, or_false] at hu; rcases hu with rfl | rfl <;> rfl); (have := HAN.out; omega); (intro a10 c10 w10 hown10 hb10 hz10))
            have hb610 : Below W2.heap.size w6 w10 := (HB69.out.mono (by have := HZ6.out; omega)).trans hb10
            have hB10 : Below W1.heap.size W1 w10 := HB6.out.trans (hb610.mono (by have := HZ2.out; omega))
            have hS10 : SetK w10 W1.heap.size (M.length + 1) (M ++ [v]) := HS6.out.keep hb610 (by have := HZ2.out; omega)
            have h10 : ∀ u ∈ T' ++ [y1, y2], I64 u := fun u hu => by
              rw [List.mem_append] at hu
              rcases hu with hu | hu
              · exact H64'.out u hu
              · simp only [List.mem_cons, List.not_mem_nil, or_false] at hu
                rcases hu with rfl | rfl
                · exact HY.out.2.1
                · exact HY.out.2.2
            have hI10 : ConeInv x.ands l (T' ++ [y1, y2]) (M ++ [v]) := by have h := HIN.out; rw [HGV.out] at h; exact h
            have hO10 : w10.ownsRow W2.heap.size 3 1 (.slice a10 (m + 2) c10) (m + 2) (ints (T' ++ [y1, y2])) := by
              have e : ints (T' ++ [y1, y2]) = ints T' ++ [.int .i64 y1, .int .i64 y2] := by unfold ints; rw [List.map_append]; rfl
              rw [e]
              exact hown10
            have HZ10 := Lib.hid (Nat.le_trans HZ9.out hz10)
            have HB10 := Lib.hid hB10
            have HS10 := Lib.hid hS10
            have H10 := Lib.hid h10
            have HI10 := Lib.hid hI10
            have HO10 := Lib.hid hO10
            clear hb610 hB10 hS10 h10 hI10 hO10 hown10 hb10 hz10 q0 q1 q2
            go_wp2_with fail
            go_roundg (m + 2 + 3 * (l.length + 2 * x.ands.length - (M.length + 1)))
            case measure => have := HGK.out; have := cone_few HI10.out; simp only [List.length_append, List.length_singleton] at this; omega
            case rel => exact ⟨T' ++ [y1, y2], M ++ [v], a10, c10, m + 2, rfl, by show (_ : List Int).length = _; rw [List.length_append, HTM.out]; rfl, HO10.out, HI10.out, by show SetK _ _ (M ++ [v]).length _; rw [List.length_append]; exact HS10.out, H10.out, by show _ = _; rw [List.length_append, List.length_append, HTM.out]; rfl, HB10.out, HZ10.out⟩
        · rw [hin] at HLK
          have HMEM := Lib.hid (SetI.inX_iff.1 hin)
          clear hin
          go_wp2_with fail
          with_reducible refine (HV.out _).mono ?_
          rintro e w5 ⟨rfl, rfl⟩
          go_wp2_with fail
          go_roundg (m + 3 * (l.length + 2 * x.ands.length - M.length))
          case measure => have := HGK.out; omega
          case rel => exact ⟨T', M, _, c', m, rfl, HTM.out, HPOP.out, cone_skip hI.out (Or.inr (by rw [HGV.out]; exact HMEM.out)), hS.out, H64'.out, by show _ = _; rw [HTM.out], hB.out, hZ.out⟩
    · have hn0 : n = 0 := by omega
      subst hn0
      have hT : T = [] := List.eq_nil_of_length_eq_zero hn.out
      subst hT
      obtain ⟨D, hown6, hD1, hD2, hD3⟩ := hS.out
      have hfew := cone_few hI.out
      have hds := SetI.keys_size hD3
      have HKS := Lib.hid (fun (U : World) => SortedK.keys_any (some W1.heap.size) U)
      have HSS := Lib.hid (SortedK.sorted_any W1.heap.size M.length D (plainElem Try.prog 4) wr hown6 (by rw [hds]; have := HSZ.out; unfold maxLen; omega) (by rw [hds]; have := HSZ.out; omega))
      have HD3 := Lib.hid hD3
      clear hfew hds hown6 hD1 hD2 hD3
      go_wp2_with fail
      with_reducible refine (HKS.out _).mono ?_
      rintro e w5 ⟨rfl, rfl⟩
      go_wp2_with fail
      with_reducible refine HSS.out.mono ?_
      rintro e w6 ⟨v, ss, rfl, hperm, hrow, hnil, hb⟩
      obtain ⟨a9, c9, rfl, _⟩ := own_sl hrow
      have HROW := Lib.hid hrow
      have HBB := Lib.hid hb
      clear hrow hb hnil
      go_wp2_with fail
      go_ret
      have hpm : (intKeys D).Perm M := by obtain ⟨es, rfl, _, h⟩ := HD3.out; exact h
      obtain ⟨hs1, hs2, hs3⟩ := sorted_strict (hperm.trans hpm) hI.out.nodup
      refine ⟨a9, c9, ss.mergeSort (fun x y => decide (x ≤ y)), by rw [hs3]; rfl, ?_, hs1, fun v => (hs2 v).trans (cone_end hI.out v), ?_⟩
      · rw [hs3]
        exact own_mono HROW.out (by have h1 := hB.out.size; have h2 := HB1.out.size; omega)
      · exact (HB1.out.trans (hB.out.mono HB1.out.size)).trans (HBB.out.mono (by have h1 := hB.out.size; have h2 := HB1.out.size; omega))
end Circuit
end Go.Proofs.Ythdhlkcdbogcaaa

/-
  strash.Hash's memory: what stays when one block is written; latches in own memory, one by one; the set of what is needed.
-/
namespace Go.Proofs.Ythdhlkcdbogcaaa
open Go.RowKit Base Go.Maps
set_option linter.unusedVariables false
set_option linter.unusedSimpArgs false
namespace StrashP
open Circuit GetI

/-- w2 is as w, but for one block. -/
structure OffB (b : Nat) (w w2 : World) : Prop where
  os : w2.os = w.os
  tape : w2.tape = w.tape
  output : w2.output = w.output
  size : w.heap.size ≤ w2.heap.size
  block : ∀ k, k < w.heap.size → k ≠ b → w2.heap[k]? = w.heap[k]?

theorem OffB.refl (b : Nat) (w : World) : OffB b w w := ⟨rfl, rfl, rfl, Nat.le_refl _, fun _ _ _ => rfl⟩
theorem OffB.below {b : Nat} {w w2 w3 : World} (h : OffB b w w2) (hb : Below w2.heap.size w2 w3) : OffB b w w3 :=
  ⟨hb.os.trans h.os, hb.tape.trans h.tape, hb.output.trans h.output, Nat.le_trans h.size hb.size, fun k hk hne => (hb.block k (Nat.lt_of_lt_of_le hk h.size)).trans (h.block k hk hne)⟩
theorem OffB.set {b : Nat} {w w2 : World} (h : OffB b w w2) (j : Nat) (u : Value) : OffB b w (w2.setCell ⟨b, j, none⟩ u) :=
  ⟨h.os, h.tape, h.output, by simpa [World.setCell] using h.size, fun k hk hne => (Below.heap_setCell w2 ⟨b, j, none⟩ u k hne).trans (h.block k hk hne)⟩
theorem OffB.grown {b : Nat} {w w2 w3 : World} (h : OffB b w w2) {row : Option Nat} (hg : w2.grownBy w3 row) (hr : ∀ k, row = some k → w.heap.size ≤ k) : OffB b w w3 :=
  ⟨hg.os.trans h.os, hg.tape.trans h.tape, hg.output.trans h.output, Nat.le_trans h.size hg.size, fun k hk hne => (hg.block k (Nat.lt_of_lt_of_le hk h.size) (fun e => by have := hr k e.symm; omega)).trans (h.block k hk hne)⟩
theorem OffB.own {b : Nat} {w w2 : World} (h : OffB b w w2) {B : Nat} {e : TypeId} {size : Nat} {v : Value} {n : Nat} {vs : List Value} (ho : w.ownsRow B e size v n vs) (hne : v.ownBlock ≠ some b) : w2.ownsRow B e size v n vs := by
  refine ⟨ho.1, ?_⟩
  rcases ho.2 with hn | ⟨g, cap, cur, hv, hb, hh, r⟩
  · exact .inl hn
  · refine .inr ⟨g, cap, cur, hv, hb, ?_, r⟩
    rw [h.block g (Array.getElem?_eq_some_iff.1 hh).1 (by rintro rfl; exact hne (by rw [hv]; rfl))]
    exact hh
theorem OffB.base {b : Nat} {w w2 : World} (h : OffB b w w2) {B : Nat} {w0 : World} (h0 : Below B w0 w) (hB : B ≤ w.heap.size) (hb : B ≤ b) : Below B w0 w2 :=
  ⟨h.os.trans h0.os, h.tape.trans h0.tape, h.output.trans h0.output, Nat.le_trans h0.size h.size, fun k hk => (h.block k (by omega) (by omega)).trans (h0.block k hk)⟩
theorem OffB.box {b : Nat} {w w2 : World} (h : OffB b w w2) {N : Nat} {cs : List Value} (hx : BoxN N cs w) (hne : N ≠ b) : BoxN N cs w2 := by
  have hblk := h.block N hx.lt hne
  refine ⟨Nat.lt_of_lt_of_le hx.lt h.size, fun j u hu => ?_, fun j => ?_⟩
  · exact (World.cell?_of_block (w := w) (a := ⟨N, j, none⟩) hblk).trans (hx.at' j u hu)
  · exact (World.frozen?_of_block (w := w) (a := ⟨N, j, none⟩) hblk).trans (hx.fz j)
theorem OffB.seti {b : Nat} {w w2 : World} (h : OffB b w w2) {m n : Nat} {X : List Int} (hx : SetI.SetIs w m n X) (hne : m ≠ b) : SetI.SetIs w2 m n X := by
  obtain ⟨D, ⟨es, cl, hh, r⟩, hm, hat⟩ := hx
  exact ⟨D, ⟨es, cl, (h.block m (Array.getElem?_eq_some_iff.1 hh).1 hne).trans hh, r⟩, hm, hat⟩
theorem own_not {w : World} {B : Nat} {e : TypeId} {size : Nat} {v : Value} {n : Nat} {vs : List Value} (h : w.ownsRow B e size v n vs) {N : Nat} (hN : w.heap.size ≤ N) : v.ownBlock ≠ some N := by
  intro e
  have := (h.lt N e).2
  omega
theorem own_not' {w : World} {B : Nat} {e : TypeId} {size : Nat} {v : Value} {n : Nat} {vs : List Value} (h : w.ownsRow B e size v n vs) {N : Nat} (hN : N < B) : v.ownBlock ≠ some N := by
  intro e
  have := (h.lt N e).1
  omega

/-! ### Latches, one by one. -/
theorem tris_set1 : ∀ (l : List Tri) (k : Nat) (hk : k < l.length) (u : Int), (tris l).flatten.set (k * 3 + 1) (.int .i64 u) = (tris (l.set k (l[k].1, u, l[k].2.2))).flatten
  | t :: r, 0, hk, u => by simp [tris]
  | t :: r, k + 1, hk, u => by
    have ih := tris_set1 r k (by simpa using hk) u
    have e : (k + 1) * 3 + 1 = k * 3 + 1 + 1 + 1 + 1 := by omega
    have e2 : (tris (t :: r)).flatten = .int .i64 t.1 :: .int .i64 t.2.1 :: .int .i64 t.2.2 :: (tris r).flatten := by simp [tris]
    have e3 : ∀ q : Tri, (tris (t :: (r.set k q))).flatten = .int .i64 t.1 :: .int .i64 t.2.1 :: .int .i64 t.2.2 :: (tris (r.set k q)).flatten := fun q => by simp [tris]
    rw [e, e2, List.set_cons_succ, List.set_cons_succ, List.set_cons_succ, ih, List.set_cons_succ, e3]
    rfl
theorem tris_flat1 (l : List Tri) (k : Nat) (hk : k < l.length) : (tris l).flatten[k * 3 + 1]? = some (.int .i64 l[k].2.1) := by
  rw [Base.flat_at (tris_row l) k 1 (by decide)]
  have : (tris l)[k]? = some [.int .i64 l[k].1, .int .i64 l[k].2.1, .int .i64 l[k].2.2] := by unfold tris; rw [List.getElem?_map, List.getElem?_eq_getElem hk]; rfl
  rw [this]; rfl

theorem own_some_at {w : World} {B : Nat} {e : TypeId} {size : Nat} {a : Option Addr} {n c : Nat} {vs : List Value} (h : w.ownsRow B e size (.slice a n c) n vs) {k : Nat} (hk : k < n) : ∃ g, a = some ⟨g, 0, none⟩ := by
  rcases h.2 with ⟨hv, h0⟩ | ⟨g, cap, cur, hv, _⟩
  · omega
  · simp only [Value.slice.injEq] at hv; exact ⟨g, hv.1⟩
theorem own_tri_set {w : World} {B : Nat} {e : TypeId} {g n c : Nat} {l : List Tri} (h : w.ownsRow B e 3 (.slice (some ⟨g, 0, none⟩) n c) n (tris l).flatten) {k : Nat} (hl : l.length = n) {q : Tri} (hq : l[k]? = some q) (u : Int) :
    B ≤ g ∧ g < w.heap.size ∧ (∃ cur, w.heap[g]? = some (.cells cur e (0, 0))) ∧ w.cell? ⟨g, k * 3 + 1, none⟩ = some (.int .i64 q.2.1) ∧ w.frozen? ⟨g, k * 3 + 1, none⟩ = false ∧
      (w.setCell ⟨g, k * 3 + 1, none⟩ (.int .i64 u)).ownsRow B e 3 (.slice (some ⟨g, 0, none⟩) n c) n (tris (l.set k (q.1, u, q.2.2))).flatten := by
  obtain ⟨hk, rfl⟩ := List.getElem?_eq_some_iff.1 hq
  rcases h.2 with ⟨hv, h0⟩ | ⟨g', cap, cur, hv, hb, hh, hnc, hcap, hsz, ht⟩
  · simp only [Value.slice.injEq] at hv; omega
  · simp only [Value.slice.injEq, true_and, Option.some.injEq, Addr.mk.injEq, and_true] at hv
    obtain ⟨rfl, rfl⟩ := hv
    have hcell : cur[k * 3 + 1]? = some (.int .i64 l[k].2.1) := by
      have h1 := tris_flat1 l k hk
      rw [← ht, List.getElem?_take_of_lt (by omega)] at h1
      simpa using h1
    refine ⟨hb, (Array.getElem?_eq_some_iff.1 hh).1, ⟨cur, hh⟩, ?_, ?_, ?_⟩
    · simp only [World.cell?, hh]
      simpa using hcell
    · simp [World.frozen?, hh]
    · refine ⟨by rw [← tris_set1 l k hk u, List.length_set]; exact h.1, .inr ⟨g, c, cur.setIfInBounds (k * 3 + 1) (.int .i64 u), rfl, hb, ?_, hnc, hcap, by simpa using hsz, ?_⟩⟩
      · simp only [World.setCell, Array.getElem?_modify, hh, if_true]
        rfl
      · rw [Array.toList_setIfInBounds, List.take_set, ht, tris_set1 l k hk u]
theorem own_otherS {w : World} {B : Nat} {e e' : TypeId} {size : Nat} {v : Value} {n : Nat} {vs : List Value} (h : w.ownsRow B e size v n vs) {g : Nat} {cur : Array Value} {fz : Nat × Nat} (hg : w.heap[g]? = some (.cells cur e' fz)) (he : e' ≠ e) (i : Nat) (u : Value) : (w.setCell ⟨g, i, none⟩ u).ownsRow B e size v n vs := by
  refine ownsRow_setCell_other h (fun e2 => ?_) u
  rcases h.2 with ⟨rfl, _⟩ | ⟨g', cap, cur', rfl, _, hh, _⟩
  · cases e2
  · simp only [Value.ownBlock, Option.some.injEq] at e2
    subst e2
    rw [hg] at hh
    simp only [Option.some.injEq, Obj.cells.injEq] at hh
    exact he hh.2.1

def updL (S : List (Int × Int)) (l : List Tri) (k : Nat) : List Tri := (l.take k).map (fun t => (t.1, litS S t.2.1, t.2.2)) ++ l.drop k
theorem updL_zero (S : List (Int × Int)) (l : List Tri) : updL S l 0 = l := by simp [updL]
theorem updL_len (S : List (Int × Int)) (l : List Tri) {k : Nat} (hk : k ≤ l.length) : (updL S l k).length = l.length := by simp [updL]; omega
theorem updL_at (S : List (Int × Int)) (l : List Tri) {k : Nat} (hk : k < l.length) : (updL S l k)[k]? = some l[k] := by
  unfold updL
  have e1 : ((l.take k).map (fun t => (t.1, litS S t.2.1, t.2.2))).length = k := by simp; omega
  rw [List.getElem?_append_right (by omega), e1, Nat.sub_self, List.drop_eq_getElem_cons hk]
  rfl
theorem updL_step (S : List (Int × Int)) (l : List Tri) {k : Nat} (hk : k < l.length) : (updL S l k).set k (l[k].1, litS S l[k].2.1, l[k].2.2) = updL S l (k + 1) := by
  unfold updL
  have e1 : ((l.take k).map (fun t => (t.1, litS S t.2.1, t.2.2))).length = k := by simp; omega
  rw [List.set_append_right _ _ (by omega), e1, Nat.sub_self, List.drop_eq_getElem_cons hk, List.set_cons_zero, List.take_succ_eq_append_getElem hk, List.map_append, List.append_assoc]
  rfl
theorem updL_full (S : List (Int × Int)) (l : List Tri) : updL S l l.length = l.map (fun t => (t.1, litS S t.2.1, t.2.2)) := by simp [updL]

/-! ### The set of what is needed. -/
theorem set_store {w : World} {b n : Nat} {X : List Int} (h : SetI.SetIs w b n X) {x : Int} (hx : SetI.I64 x) (hn : n < 9223372036854775807) :
    ∃ w', (Instr.mapUpdate 58 (.map (some b)) (.int .i64 x) (.bool true)).run Try.prog w = .ok () w' ∧ SetI.SetIs w' b (n + 1) (X ++ [x]) ∧ w.grownBy w' (some b) := by
  obtain ⟨D, ho, hm, hat⟩ := h
  obtain ⟨w', hrun, ho', hg⟩ := ho.update SetI.law Try.underlying58 (by unfold maxLen; omega) (keyOf_int_mk Try.underlying3 (SetI.wf_lit hx)) (plainElem_bool Try.underlying4 true)
  have hput := SetI.set_put hm hat x
  exact ⟨w', hrun, ⟨_, ho', hput.1, hput.2⟩, hg⟩
end StrashP
end Go.Proofs.Ythdhlkcdbogcaaa

/-
  strash.Hash.
-/
namespace Go.Proofs.Ythdhlkcdbogcaaa
open Go.RowKit Base
set_option linter.unusedVariables false
set_option linter.unusedSimpArgs false
namespace StrashP
open Circuit GetI

theorem box8S {N : Nat} {c0 c1 c2 c3 c4 c5 c6 c7 : Value} {w : World} (h : BoxN N [c0, c1, c2, c3, c4, c5, c6, c7] w) : w.cell? ⟨N, 0, none⟩ = some c0 ∧ w.cell? ⟨N, 1, none⟩ = some c1 ∧ w.cell? ⟨N, 2, none⟩ = some c2 ∧ w.cell? ⟨N, 3, none⟩ = some c3 ∧ w.cell? ⟨N, 4, none⟩ = some c4 ∧ w.cell? ⟨N, 5, none⟩ = some c5 ∧ w.cell? ⟨N, 6, none⟩ = some c6 ∧ w.cell? ⟨N, 7, none⟩ = some c7 :=
  ⟨h.at' 0 _ rfl, h.at' 1 _ rfl, h.at' 2 _ rfl, h.at' 3 _ rfl, h.at' 4 _ rfl, h.at' 5 _ rfl, h.at' 6 _ rfl, h.at' 7 _ rfl⟩

theorem foldG_take {l : List Tri} {k : Nat} (hk : k < l.length) : foldG (l.take (k + 1)) = gateS (foldG (l.take k)) l[k] := by
  rw [List.take_succ_eq_append_getElem hk, foldG_snoc]

theorem and_bounds {x : Circ} (h : CheckOk x) (hw : WfC x) {t : Tri} (ht : t ∈ x.ands) : (0 ≤ t.1 ∧ t.1 ≤ 9223372036854775807) ∧ (0 ≤ t.2.1 ∧ t.2.1 ≤ 9223372036854775807) ∧ (0 ≤ t.2.2 ∧ t.2.2 ≤ 9223372036854775807) := by
  have hf := (ord_of h).fine t ht
  obtain ⟨k1, k2, _⟩ := h.2.2.2.1 t ht
  obtain ⟨i1, i2, i3⟩ := hw.ands t ht
  unfold I64 at i1 i2 i3
  have := hf.1
  have := k1.1
  have := k2.1
  omega
theorem told_bounds {x : Circ} (h : CheckOk x) (hw : WfC x) {m : Int} (hm : m ∈ told x) : 0 ≤ m ∧ m ≤ 9223372036854775807 := by
  refine ⟨(told_known h hm).1, ?_⟩
  unfold told at hm
  simp only [List.mem_append] at hm
  rcases hm with ((hm | hm) | hm) | hm
  · obtain ⟨t, ht, rfl⟩ := List.mem_map.1 hm
    exact (hw.lats t ht).2.1.2
  · exact (hw.outs m hm).2
  · exact (hw.bads m hm).2
  · exact (hw.invs m hm).2

/-- append of one struct of k cells, the block that it grew in told. -/
theorem wpL_pushKS {P : Program} {w : World} {ops : Array Oper} {rest : List Oper} {dst : Option Tmp} {ty : TypeId} {pos : String} {af : Array Edge} {a : Act} {Q : Exit → Act → World → Prop}
    {s x : Operand} {t e : TypeId} {z : Value} {k bytes : Nat} (hk : 0 < k) (B : Nat) (v : Value) (n : Nat) (vs : List (List Value)) (ad : Addr) (c : Nat) (u : List Value)
    (hinfo : (P.info? e).map (fun i => (i.zero, i.size, i.bytes)) = some (some z, k, bytes)) (ht : P.underlying t = some (.slice e)) (hzs : z.cells.size = k)
    (hs : a.eval s = v) (hx : a.eval x = .slice (some ad) 1 c) (hu : ∀ y ∈ u, y.oneCell' = true) (hul : u.length = k)
    (hown : w.ownsRow B e k v n vs.flatten) (hc : ∀ (j : Nat) (y : Value), u[j]? = some y → w.cell? (ad.add j) = some y) (hB : B ≤ w.heap.size) (hn : (n + 1) * bytes ≤ 140737488355328) (hn' : n + 1 ≤ 9223372036854775807)
    (hK : ∀ a' c' w1, w1.ownsRow B e k (.slice a' (n + 1) c') (n + 1) (vs ++ [u]).flatten → w.grownBy w1 v.ownBlock → wpList P ops Q rest (a.put dst (.slice a' (n + 1) c')) w1) :
    wpList P ops Q (⟨dst, .call { callee := .builtin .append, args := #[s, x], argTypes := #[t, t] }, ty, pos, af, none⟩ :: rest) a w := by
  obtain ⟨i, hi, hz0, hz1, hz2⟩ := info_parts hinfo
  refine wpList_append_own _ rfl s x t rfl B e i z k bytes ht hi hz0 hz1 hz2 hzs hk v n vs.flatten hs hown ad 1 c u hx (by omega) hc hu
    (by unfold maxLen; omega) hn hB ?_
  intro v' w1 hown' hgrow _
  obtain ⟨g, cap, rfl⟩ : ∃ g cap, v' = .slice (some ⟨g, 0, none⟩) (n + 1) cap := by
    rcases hown'.2 with ⟨_, h0⟩ | ⟨g, cap, _, rfl, _⟩
    · omega
    · exact ⟨g, cap, rfl⟩
  exact hK _ _ w1 (by rw [List.flatten_append]; simpa using hown') hgrow

theorem mid_in {U : World} {x : Circ} {B1 B2 B3 B4 B5 B6 B7 : Nat} {b1 : Option Addr} {d1 : Nat} {b2 : Option Addr} {d2 : Nat} {m3 : Option Addr} {q3 : Nat} {m4 : Option Addr} {q4 : Nat} {m5 : Option Addr} {q5 : Nat} {aK : Option Addr} {cK : Nat} {b7 : Option Addr} {d7 : Nat}
    (h1 : U.ownsRow B1 3 1 (.slice b1 x.ins.length d1) x.ins.length (ints x.ins)) (h2 : U.ownsRow B2 39 3 (.slice b2 x.lats.length d2) x.lats.length (tris (mid x).lats).flatten)
    (h3 : U.ownsRow B3 3 1 (.slice m3 x.outs.length q3) x.outs.length (ints (x.outs.map (litS (stOf x).S)))) (h4 : U.ownsRow B4 3 1 (.slice m4 x.bads.length q4) x.bads.length (ints (x.bads.map (litS (stOf x).S))))
    (h5 : U.ownsRow B5 3 1 (.slice m5 x.invs.length q5) x.invs.length (ints (x.invs.map (litS (stOf x).S)))) (A : List Tri) (h6 : U.ownsRow B6 43 3 (.slice aK A.length cK) A.length (tris A).flatten)
    (h7 : U.ownsRow B7 65 3 (.slice b7 x.names.length d7) x.names.length (namesV x.names).flatten) : InCirc U { mid x with ands := A } ⟨b1, d1, b2, d2, m3, q3, m4, q4, m5, q5, aK, cK, b7, d7⟩ := by
  have e2 : (mid x).lats.length = x.lats.length := by simp [mid]
  have e3 : (x.outs.map (litS (stOf x).S)).length = x.outs.length := by simp
  have e4 : (x.bads.map (litS (stOf x).S)).length = x.bads.length := by simp
  have e5 : (x.invs.map (litS (stOf x).S)).length = x.invs.length := by simp
  refine ⟨own_sl' h1, ?_, ?_, ?_, ?_, own_slT' (tris_row _) (tris_len _) h6, own_slT' (names_row _) (names_len _) h7⟩
  · show SlT U 3 b2 (mid x).lats.length d2 (tris (mid x).lats)
    rw [e2]
    exact own_slT' (tris_row _) (by rw [tris_len, e2]) h2
  · show Sl U m3 (x.outs.map (litS (stOf x).S)).length q3 _
    rw [e3]
    exact own_sl' h3
  · show Sl U m4 (x.bads.map (litS (stOf x).S)).length q4 _
    rw [e4]
    exact own_sl' h4
  · show Sl U m5 (x.invs.map (litS (stOf x).S)).length q5 _
    rw [e5]
    exact own_sl' h5

theorem var_64 {t : Int} (h : I64 t) : I64 (var t) := by unfold I64 var at *; omega
theorem rch_64 {A : List Tri} {l : List Int} {v : Int} (ha : WfT A) (hl : ∀ t ∈ l, I64 t) (h : Rch A l v) : I64 v := by
  cases h with
  | lit ht => exact var_64 (hl _ ht)
  | left _ _ hg => exact var_64 (ha _ (gate_mem hg)).2.1
  | right _ _ hg => exact var_64 (ha _ (gate_mem hg)).2.2
theorem k_wf {x : Circ} (h : CheckOk x) (hw : WfC x) : WfT (stOf x).K := by
  intro t ht
  have hf := (kOrd h).fine t ht
  have hs := (inv_of h).sub
  have h1 : t.1 ∈ x.ands.map (·.1) := hs.subset (List.mem_map.2 ⟨t, ht, rfl⟩)
  obtain ⟨u, hu, he⟩ := List.mem_map.1 h1
  have := (hw.ands u hu).1
  unfold I64 at *
  obtain ⟨f1, f2, f3, f4, f5, f6⟩ := hf
  omega
theorem mid_told {x : Circ} (h : CheckOk x) (hw : WfC x) (hs : WfS (stOf x)) {t : Int} (ht : t ∈ told (mid x)) : I64 t := by
  obtain ⟨m, hm, rfl⟩ := told_lit ht
  obtain ⟨h0, h1⟩ := told_bounds h hw hm
  have := lit_64 hs h0 h1
  unfold I64
  omega
theorem told_len (x : Circ) : (told (mid x)).length = x.lats.length + x.outs.length + x.bads.length + x.invs.length := by unfold told mid; simp; omega
theorem offb_at {b : Nat} {w w2 w3 : World} (h : OffB b w w2) (hg : w2.grownBy w3 (some b)) : OffB b w w3 :=
  ⟨hg.os.trans h.os, hg.tape.trans h.tape, hg.output.trans h.output, Nat.le_trans h.size hg.size, fun k hk hne => (hg.block k (Nat.lt_of_lt_of_le hk h.size) (by simpa using hne)).trans (h.block k hk hne)⟩

set_option maxRecDepth 8000 in
set_option maxHeartbeats 2000000 in
theorem hash_ok (w : World) (x : Circ) (p : At) (hin : InCirc w x p) (hw : WfC x) (hfit : Fits x) (hok : CheckOk x) :
    Calls Try.prog 7 #[.agg (cells x p)] w fun e w' => ∃ p', e = .returned (.tuple #[.agg (cells (hashed x) p'), .int .i64 0]) ∧ InCirc w' (hashed x) p' ∧ Below w.heap.size w w' := by
  obtain ⟨W1, hW1⟩ : ∃ U, w.alloc (.cells (cells x p) 27) = U := ⟨_, rfl⟩
  obtain ⟨W2, hW2⟩ : ∃ U, W1.alloc (.cells #[.int .i64 0, .slice none 0 0, .slice none 0 0, .slice none 0 0, .slice none 0 0, .slice none 0 0, .slice none 0 0, .slice none 0 0] 27) = U := ⟨_, rfl⟩
  have b1 : Below w.heap.size w W1 := by rw [← hW1]; exact (Below.refl _ _).alloc (Nat.le_refl _) _
  have b2 : Below W1.heap.size W1 W2 := by rw [← hW2]; exact (Below.refl _ _).alloc (Nat.le_refl _) _
  have b12 := b1.trans (b2.mono b1.size)
  have x1 : BoxN w.heap.size (cells x p).toList W2 := by
    have h := BoxN.new w (cells x p) 27
    rw [hW1] at h
    exact h.next b2 h.lt
  have x2 : BoxN W1.heap.size [.int .i64 0, .slice none 0 0, .slice none 0 0, .slice none 0 0, .slice none 0 0, .slice none 0 0, .slice none 0 0, .slice none 0 0] W2 := by
    have h := BoxN.new W1 #[.int .i64 0, .slice none 0 0, .slice none 0 0, .slice none 0 0, .slice none 0 0, .slice none 0 0, .slice none 0 0, .slice none 0 0] 27
    rw [hW2] at h
    exact h
  have hc := check_any W2 x p (hin.next b12) hw.ins hw.outs hw.bads hw.invs hw.lats hw.ands hw.mx
  rw [chk_pos hok] at hc
  have HC := Lib.hid hc
  have HIN := Lib.hid (fun (U : World) (hU : Below w.heap.size w U) => hin.next hU)
  have HA := Lib.hid (fun t ht => and_bounds hok hw (t := t) ht)
  have HT := Lib.hid (fun m hm => told_bounds hok hw (m := m) hm)
  have HKW := Lib.hid (k_wf hok hw)
  have HTW := Lib.hid (fun (hs : WfS (stOf x)) (t : Int) ht => mid_told hok hw hs (t := t) ht)
  have HFIT := Lib.hid hfit
  have HFEW := Lib.hid hok.1
  have HOK := Lib.hid hok
  have HX1 := Lib.hid x1
  have HX2 := Lib.hid x2
  have HW1 : Hid (w.heap.size ≤ W1.heap.size) := b1.size
  have HB2 := Lib.hid b12
  obtain ⟨a1, c1, a2, c2, a3, c3, a4, c4, a5, c5, a6, c6, a7, c7⟩ := p
  simp only [cells] at *
  obtain ⟨n0, n1, n2, n3, n4, n5, n6, n7⟩ := box8S HX1.out
  clear hin hw hfit hok x1 x2 b1 b2 b12 hc
  go_enter Try.func7, Try.ntmps7
  go_wp2_with fail
  clear hW1 hW2 n0 n1 n2 n3 n4 n5 n6 n7
  with_reducible refine HC.out.mono ?_
  rintro e w3 ⟨rfl, hb3⟩
  obtain ⟨V1, hV1⟩ : ∃ U, w3.alloc (.map #[] 0) = U := ⟨_, rfl⟩
  obtain ⟨V2, hV2⟩ : ∃ U, V1.alloc (.map #[] 0) = U := ⟨_, rfl⟩
  obtain ⟨V3, hV3⟩ : ∃ U, V2.alloc (.cells #[.map (some w3.heap.size), .map (some V1.heap.size), .slice none 0 0] 53) = U := ⟨_, rfl⟩
  have f1 : Below w3.heap.size w3 V1 := by rw [← hV1]; exact (Below.refl _ _).alloc (Nat.le_refl _) _
  have f2 : Below V1.heap.size V1 V2 := by rw [← hV2]; exact (Below.refl _ _).alloc (Nat.le_refl _) _
  have f3 : Below V2.heap.size V2 V3 := by rw [← hV3]; exact (Below.refl _ _).alloc (Nat.le_refl _) _
  have e1 : w3.heap.size < V1.heap.size := by rw [← hV1]; simp
  have e2 : V1.heap.size < V2.heap.size := by rw [← hV2]; simp
  have hmS : SMap V1 w3.heap.size 0 [] := by rw [← hV1]; exact MapG.made _ _ _ _ _ w3
  have hmM : MMap V2 V1.heap.size 0 [] := by rw [← hV2]; exact MapG.made _ _ _ _ _ V1
  have hbx : BoxN V2.heap.size [.map (some w3.heap.size), .map (some V1.heap.size), .slice none 0 0] V3 := by
    have h := BoxN.new V2 #[.map (some w3.heap.size), .map (some V1.heap.size), .slice none 0 0] 53
    rw [hV3] at h
    exact h
  have hh : HsIs V3 w3.heap.size V2.heap.size 0 ⟨[], [], []⟩ w3.heap.size V1.heap.size none 0 :=
    ⟨hbx, Nat.le_refl _, e1, e2, ⟨0, Nat.le_refl _, (hmS.next f2).next f3⟩, ⟨0, Nat.le_refl _, hmM.next f3⟩, World.ownsRow_nil _ _ _ _, Nat.le_refl _, ⟨fun u v h => by simp [getI] at h, fun u v h => by simp [getI] at h⟩⟩
  have HH0 := Lib.hid hh
  have HB3 := Lib.hid (HB2.out.trans (hb3.mono HB2.out.size))
  have f23 := f2.trans (f3.mono f2.size)
  have f13 := f1.trans (f23.mono f1.size)
  have HBV := Lib.hid f13
  have x13 := HX1.out.next (hb3.trans (f13.mono hb3.size)) HX1.out.lt
  have HX2B := Lib.hid (HX2.out.next hb3 HX2.out.lt)
  have HX1B := Lib.hid (HX1.out.next hb3 HX1.out.lt)
  have n6 := x13.at' 6 _ rfl
  have hsa := (HIN.out w3 HB3.out).ands
  have hca := hsa.cap
  have hga := hsa.big
  have HSA := Lib.hid hsa
  have hmm := @run_makeMap Try.prog
  clear hb3 f1 f2 f3 e1 e2 hmS hmM hbx hh f23 f13 x13 hsa
  go_wp2_with fail
  clear n6 hV1 hV2 hV3 hmm
  go_loopw [28] (fun s wr => ∃ (k : Nat) (aK : Option Addr) (cK : Nat), k ≤ x.ands.length ∧ s = .int .i64 k ∧ Hid (HsIs wr w3.heap.size V2.heap.size k (foldG (x.ands.take k)) w3.heap.size V1.heap.size aK cK) ∧ Hid (Below w3.heap.size w3 wr)) (fun s _ => x.ands.length - (intOf s).toNat)
  case atStart => exact ⟨0, none, 0, Nat.zero_le _, rfl, HH0.out, HBV.out⟩
  case round =>
    obtain ⟨k, aK, cK, hk, rfl, hH, hB⟩ := hrel
    by_cases hlt : k < x.ands.length
    · obtain ⟨b, o, hx, rfl, hbs, hc0, hc1, hc2⟩ := HSA.out.tri hlt
      have d0 := (hB.out.cell (p := ⟨b, o + k * 3, none⟩) hbs).trans hc0
      have d1 := (hB.out.cell (p := ⟨b, o + k * 3 + 1, none⟩) hbs).trans hc1
      have d2 := (hB.out.cell (p := ⟨b, o + k * 3 + 2, none⟩) hbs).trans hc2
      have HF := Lib.hid (foldG_take hx)
      obtain ⟨⟨g0, g1⟩, ⟨g2, g3⟩, ⟨g4, g5⟩⟩ := HA.out _ (List.getElem_mem hx)
      clear hc0 hc1 hc2
      generalize x.ands[k] = t at *
      obtain ⟨U, hU⟩ : ∃ U, wr.alloc (.cells (triC t) 43) = U := ⟨_, rfl⟩
      obtain ⟨hbU, htb⟩ := tbox_new wr t 43 U hU
      have HG := Lib.hid (gate_any U (hH.out.next hbU) t.1 t.2.1 t.2.2 g0 g1 g2 g3 g4 g5 (by have := HFIT.out.ands; omega))
      have t0 := htb.t0
      have t1 := htb.t1
      have t2 := htb.t2
      have HBU := Lib.hid (hB.out.trans (hbU.mono hB.out.size))
      simp only [triC] at hU
      clear hbU htb g0 g1 g2 g3 g4 g5 hH hB
      go_wp2_with fail
      with_reducible refine HG.out.mono ?_
      rintro e w5 ⟨rfl, aK', cK', hh5, hb5⟩
      have HH5 := Lib.hid hh5
      have HB5 := Lib.hid (HBU.out.trans hb5)
      clear hh5 hb5
      go_wp2_with fail
      go_roundw
      case rel => exact ⟨k + 1, aK', cK', by omega, by go_num, by rw [HF.out]; exact HH5.out, HB5.out⟩
      case measure => simp [intOf]; omega
    · have hke : k = x.ands.length := by omega
      obtain ⟨wA, hwA⟩ : ∃ U : World, U = wr := ⟨_, rfl⟩
      subst hwA
      have hH' : HsIs wA w3.heap.size V2.heap.size x.ands.length (stOf x) w3.heap.size V1.heap.size aK cK := by
        have h := hH.out
        rw [hke, List.take_length] at h
        exact h
      have HHR := Lib.hid hH'
      have HBR := Lib.hid hB.out
      have HB4 := Lib.hid (HB3.out.trans (hB.out.mono HB3.out.size))
      have hcp := copy_any wA x ⟨a1, c1, a2, c2, a3, c3, a4, c4, a5, c5, a6, c6, a7, c7⟩ (HIN.out wA HB4.out) HFIT.out
      have hx1r : BoxN w.heap.size _ wA := HX1B.out.next hB.out HX1B.out.lt
      obtain ⟨n0, n1, n2, n3, n4, n5, n6, n7⟩ := box8S hx1r
      have HX1R := Lib.hid hx1r
      have HX2R := Lib.hid (HX2B.out.next hB.out HX2B.out.lt)
      simp only [cells] at hcp
      have HCP := Lib.hid hcp
      clear hH hB hH' hcp hx1r HSA hca hga hke
      go_wp2_with fail
      with_reducible refine HCP.out.mono ?_
      rintro e w5 ⟨q, rfl, hown, hb5⟩
      obtain ⟨b1, d1, b2, d2, b3, d3, b4, d4, b5, d5, b6, d6, b7, d7⟩ := q
      simp only [cells]
      obtain ⟨W6, hW6⟩ : ∃ U, w5.alloc (.cells #[.int .i64 x.max, .slice b1 x.ins.length d1, .slice b2 x.lats.length d2, .slice b3 x.outs.length d3, .slice b4 x.bads.length d4, .slice b5 x.invs.length d5, .slice b6 x.ands.length d6, .slice b7 x.names.length d7] 27) = U := ⟨_, rfl⟩
      have hb6 : Below w5.heap.size w5 W6 := by rw [← hW6]; exact (Below.refl _ _).alloc (Nat.le_refl _) _
      have hx6 : BoxN w5.heap.size [.int .i64 x.max, .slice b1 x.ins.length d1, .slice b2 x.lats.length d2, .slice b3 x.outs.length d3, .slice b4 x.bads.length d4, .slice b5 x.invs.length d5, .slice b6 x.ands.length d6, .slice b7 x.names.length d7] W6 := by
        have h := BoxN.new w5 #[.int .i64 x.max, .slice b1 x.ins.length d1, .slice b2 x.lats.length d2, .slice b3 x.outs.length d3, .slice b4 x.bads.length d4, .slice b5 x.invs.length d5, .slice b6 x.ands.length d6, .slice b7 x.names.length d7] 27
        rw [hW6] at h
        exact h
      have HB56 := Lib.hid (hb5.trans (hb6.mono hb5.size))
      have HNI : Hid ((Value.slice b1 x.ins.length d1).ownBlock ≠ some w5.heap.size) := own_not hown.ins (Nat.le_refl _)
      have HNL : Hid ((Value.slice b2 x.lats.length d2).ownBlock ≠ some w5.heap.size) := own_not hown.lats (Nat.le_refl _)
      have HNN : Hid ((Value.slice b7 x.names.length d7).ownBlock ≠ some w5.heap.size) := own_not hown.names (Nat.le_refl _)
      have HOI := Lib.hid (own_next hown.ins hb6)
      have HOL := Lib.hid (own_next hown.lats hb6)
      have HON := Lib.hid (own_next hown.names hb6)
      have HL5 : Hid (wA.heap.size ≤ w5.heap.size) := hb5.size
      have HX6 := Lib.hid hx6
      have m2 := hx6.at' 2 _ rfl
      clear hown hb5 hb6 hx6 n0 n1 n2 n3 n4 n5 n6 n7
      go_wp2_with fail
      clear m2 hW6
      go_loopw [41] (fun s wr => ∃ (k : Nat), k ≤ x.lats.length ∧ s = .int .i64 k ∧ Hid (wr.ownsRow wA.heap.size 39 3 (.slice b2 x.lats.length d2) x.lats.length (tris (updL (stOf x).S x.lats k)).flatten) ∧ Hid (wr.ownsRow wA.heap.size 3 1 (.slice b1 x.ins.length d1) x.ins.length (ints x.ins)) ∧ Hid (wr.ownsRow wA.heap.size 65 3 (.slice b7 x.names.length d7) x.names.length (namesV x.names).flatten) ∧ Hid (BoxN w5.heap.size [.int .i64 x.max, .slice b1 x.ins.length d1, .slice b2 x.lats.length d2, .slice b3 x.outs.length d3, .slice b4 x.bads.length d4, .slice b5 x.invs.length d5, .slice b6 x.ands.length d6, .slice b7 x.names.length d7] wr) ∧ Hid (Below wA.heap.size wA wr)) (fun s _ => x.lats.length - (intOf s).toNat)
      case atStart => exact ⟨0, Nat.zero_le _, rfl, by rw [updL_zero]; exact HOL.out, HOI.out, HON.out, HX6.out, HB56.out⟩
      case round =>
        obtain ⟨k, hk, rfl, hL, hI, hN, hX, hB⟩ := hrel
        by_cases hlt : k < x.lats.length
        · obtain ⟨g, rfl⟩ := own_some_at hL.out hlt
          have hl64 := HFEW.out.2.2.2.1
          have hq := updL_at (stOf x).S x.lats hlt
          obtain ⟨hgB, hgl, _, hgc, _, _⟩ := own_tri_set hL.out (updL_len _ _ hk) hq 0
          have HST := Lib.hid (updL_step (stOf x).S x.lats hlt)
          have HQ := Lib.hid hq
          obtain ⟨h0, h1⟩ := HT.out x.lats[k].2.1 (by unfold told; simp only [List.mem_append]; exact Or.inl (Or.inl (Or.inl (List.mem_map.2 ⟨_, List.getElem_mem hlt, rfl⟩))))
          have hcl := (own_slT' (tris_row _) (by rw [tris_len]; exact updL_len _ _ hk) hL.out).cap
          generalize x.lats[k] = t at *
          have HGB := Lib.hid hgB
          have hb0 : Below wr.heap.size wr wr.drew := (Below.refl _ _).drew
          have HP := Lib.hid (lit_any wr.drew ((HHR.out.next hB.out).next hb0) t.2.1 h0 h1)
          have hgl' := hgl
          clear hq hgB h0 h1
          go_upto_region 14 with fail
          have hSK : ∀ U : World, Below wr.heap.size wr U → U.cell? ⟨w5.heap.size, 2, none⟩ = some (.slice (some ⟨g, 0, none⟩) x.lats.length d2) ∧ U.cell? ⟨g, k * 3 + 1, none⟩ = some (.int .i64 t.2.1) := fun U hU =>
            ⟨(hX.out.next hU hX.out.lt).at' 2 _ rfl, (hU.cell (p := ⟨g, k * 3 + 1, none⟩) hgl').trans hgc⟩
          have hS := hSK _ hb0
          refine HeldTo.region (fun U : World => U.cell? ⟨w5.heap.size, 2, none⟩ = some (.slice (some ⟨g, 0, none⟩) x.lats.length d2) ∧ U.cell? ⟨g, k * 3 + 1, none⟩ = some (.int .i64 t.2.1)) 13 (by kernel_rfl) ?_
          (refine HeldTo.plain (i := 0) (oi := _) (d := some 44) (v := ?_) rfl rfl (by kernel_rfl) (by kernel_rfl) (by kernel_rfl) (by kernel_rfl) (fun _ _ _ h => h) (Or.inl ⟨by rfl, ?_⟩) (fun _ => hS) ?_; rotate_left; (focus (intro w hSw; clear hSw; go_simp; (try with_reducible rfl); done)); (try simp only [Act.put, List.setIfInBounds_toArray, List.set_cons_zero, List.set_cons_succ]))
          (refine HeldTo.take (i := 1) (oi := _) (d := some 45) (v := ?_) rfl rfl (by kernel_rfl) (by kernel_rfl) (by kernel_rfl) (by kernel_rfl) (by kernel_rfl) (by kernel_rfl) (fun _ _ _ h => h) (Or.inl ⟨by rfl, ?_⟩) hS ?_; rotate_left; (focus (intro w hSw; (try dsimp only at hSw); go_simp; (try with_reducible rfl); done)); (try simp only [Act.put, List.setIfInBounds_toArray, List.set_cons_zero, List.set_cons_succ]))
          (refine HeldTo.plain (i := 2) (oi := _) (d := some 46) (v := ?_) rfl rfl (by kernel_rfl) (by kernel_rfl) (by kernel_rfl) (by kernel_rfl) (fun _ _ _ h => h) (Or.inl ⟨by rfl, ?_⟩) (fun _ => hS) ?_; rotate_left; (focus (intro w hSw; clear hSw; go_simp; (try with_reducible rfl); done)); (try simp only [Act.put, List.setIfInBounds_toArray, List.set_cons_zero, List.set_cons_succ]))
          (refine HeldTo.plain (i := 3) (oi := _) (d := some 47) (v := ?_) rfl rfl (by kernel_rfl) (by kernel_rfl) (by kernel_rfl) (by kernel_rfl) (fun _ _ _ h => h) (Or.inl ⟨by rfl, ?_⟩) (fun _ => hS) ?_; rotate_left; (focus (intro w hSw; clear hSw; go_simp; (try with_reducible rfl); done)); (try simp only [Act.put, List.setIfInBounds_toArray, List.set_cons_zero, List.set_cons_succ]))
          (refine HeldTo.plain (i := 4) (oi := _) (d := some 48) (v := ?_) rfl rfl (by kernel_rfl) (by kernel_rfl) (by kernel_rfl) (by kernel_rfl) (fun _ _ _ h => h) (Or.inl ⟨by rfl, ?_⟩) (fun _ => hS) ?_; rotate_left; (focus (intro w hSw; clear hSw; go_simp; (try with_reducible rfl); done)); (try simp only [Act.put, List.setIfInBounds_toArray, List.set_cons_zero, List.set_cons_succ]))
          (refine HeldTo.take (i := 5) (oi := _) (d := some 49) (v := ?_) rfl rfl (by kernel_rfl) (by kernel_rfl) (by kernel_rfl) (by kernel_rfl) (by kernel_rfl) (by kernel_rfl) (fun _ _ _ h => h) (Or.inl ⟨by rfl, ?_⟩) hS ?_; rotate_left; (focus (intro w hSw; (try dsimp only at hSw); go_simp; (try with_reducible rfl); done)); (try simp only [Act.put, List.setIfInBounds_toArray, List.set_cons_zero, List.set_cons_succ]))
          (refine HeldTo.plain (i := 6) (oi := _) (d := some 50) (v := ?_) rfl rfl (by kernel_rfl) (by kernel_rfl) (by kernel_rfl) (by kernel_rfl) (fun _ _ _ h => h) (Or.inl ⟨by rfl, ?_⟩) (fun _ => hS) ?_; rotate_left; (focus (intro w hSw; clear hSw; go_simp; (try with_reducible rfl); done)); (try simp only [Act.put, List.setIfInBounds_toArray, List.set_cons_zero, List.set_cons_succ]))
          (refine HeldTo.plain (i := 7) (oi := _) (d := some 51) (v := ?_) rfl rfl (by kernel_rfl) (by kernel_rfl) (by kernel_rfl) (by kernel_rfl) (fun _ _ _ h => h) (Or.inl ⟨by rfl, ?_⟩) (fun _ => hS) ?_; rotate_left; (focus (intro w hSw; clear hSw; go_simp; (try with_reducible rfl); done)); (try simp only [Act.put, List.setIfInBounds_toArray, List.set_cons_zero, List.set_cons_succ]))
          (refine HeldTo.plain (i := 8) (oi := _) (d := some 52) (v := ?_) rfl rfl (by kernel_rfl) (by kernel_rfl) (by kernel_rfl) (by kernel_rfl) (fun _ _ _ h => h) (Or.inl ⟨by rfl, ?_⟩) (fun _ => hS) ?_; rotate_left; (focus (intro w hSw; clear hSw; go_simp; (try with_reducible rfl); done)); (try simp only [Act.put, List.setIfInBounds_toArray, List.set_cons_zero, List.set_cons_succ]))
          (refine HeldTo.take (i := 9) (oi := _) (d := some 53) (v := ?_) rfl rfl (by kernel_rfl) (by kernel_rfl) (by kernel_rfl) (by kernel_rfl) (by kernel_rfl) (by kernel_rfl) (fun _ _ _ h => h) (Or.inl ⟨by rfl, ?_⟩) hS ?_; rotate_left; (focus (intro w hSw; (try dsimp only at hSw); go_simp; (try with_reducible rfl); done)); (try simp only [Act.put, List.setIfInBounds_toArray, List.set_cons_zero, List.set_cons_succ]))
          refine HeldTo.call (i := 10) (oi := _) (d := some 54) (R := fun v w' => v = .int .i64 (litS (stOf x).S t.2.1) ∧ Below wr.drew.heap.size wr.drew w') rfl rfl (by kernel_rfl) (by rfl) (by go_simp; done) (HP.out.mono fun e w' h => ⟨_, h.1, rfl, by obtain ⟨_, q, h2⟩ := h; rw [h2]; exact below_drewN (Below.refl _ _) q⟩) ?_
          rintro v wk11 ⟨rfl, hbk11⟩
          have hB11 := hb0.trans (hbk11.mono hb0.size)
          have hS11 := hSK _ hB11
          refine ⟨hS11, ?_⟩
          (try simp only [Act.put, List.setIfInBounds_toArray, List.set_cons_zero, List.set_cons_succ])
          (refine HeldTo.plain (i := 11) (oi := _) (d := some 55) (v := ?_) rfl rfl (by kernel_rfl) (by kernel_rfl) (by kernel_rfl) (by kernel_rfl) (fun _ _ _ h => h) (Or.inl ⟨by rfl, ?_⟩) (fun _ => hS11) ?_; rotate_left; (focus (intro w hSw; clear hSw; go_simp; (try with_reducible rfl); done)); (try simp only [Act.put, List.setIfInBounds_toArray, List.set_cons_zero, List.set_cons_succ]))
          (refine HeldTo.plain (i := 12) (oi := _) (d := some 56) (v := ?_) rfl rfl (by kernel_rfl) (by kernel_rfl) (by kernel_rfl) (by kernel_rfl) (fun _ _ _ h => h) (Or.inl ⟨by rfl, ?_⟩) (fun _ => hS11) ?_; rotate_left; (focus (intro w hSw; clear hSw; go_simp; (try with_reducible rfl); done)); (try simp only [Act.put, List.setIfInBounds_toArray, List.set_cons_zero, List.set_cons_succ]))
          obtain ⟨w12, hw12⟩ : ∃ U, wk11.setCell ⟨g, k * 3 + 1, none⟩ (.int .i64 (litS (stOf x).S t.2.1)) = U := ⟨_, rfl⟩
          obtain ⟨_, _, ⟨cur, hcur⟩, g12, z12, ho12⟩ := own_tri_set (own_next hL.out hB11) (updL_len _ _ hk) HQ.out (litS (stOf x).S t.2.1)
          rw [hw12] at ho12
          (refine HeldTo.store (i := 13) (oi := _) (d := none) (w2 := w12) rfl rfl (by kernel_rfl) (by kernel_rfl) (by rfl) (by go_simp; done) ?_; (try simp only [Act.put, List.setIfInBounds_toArray, List.set_cons_zero, List.set_cons_succ]))
          refine HeldTo.done (by kernel_rfl) ?_ _
          have hne : w5.heap.size ≠ g := fun e => HNL.out (by rw [e]; rfl)
          have HL12 := Lib.hid ho12
          have hI12 := own_otherS (own_next hI.out hB11) hcur (by decide) (k * 3 + 1) (.int .i64 (litS (stOf x).S t.2.1))
          rw [hw12] at hI12
          have HI12 := Lib.hid hI12
          have hN12 := own_otherS (own_next hN.out hB11) hcur (by decide) (k * 3 + 1) (.int .i64 (litS (stOf x).S t.2.1))
          rw [hw12] at hN12
          have HN12 := Lib.hid hN12
          have hX12 := (hX.out.next hB11 hX.out.lt).other (a := ⟨g, k * 3 + 1, none⟩) (fun e => hne e.symm) (.int .i64 (litS (stOf x).S t.2.1))
          rw [hw12] at hX12
          have HX12 := Lib.hid hX12
          have hB12 := (hB.out.trans (hB11.mono hB.out.size)).setCell (p := ⟨g, k * 3 + 1, none⟩) HGB.out (.int .i64 (litS (stOf x).S t.2.1))
          rw [hw12] at hB12
          have HB12 := Lib.hid hB12
          clear g12 z12 ho12 hI12 hN12 hX12 hB12 hbk11 hB11 hS11 hS hSK hw12 hcur hgc hgl hgl' hne hb0 hcl hI hN hX hL hB
          go_wp2_with fail
          go_roundw
          case rel => exact ⟨k + 1, by omega, by go_num, by rw [← HST.out]; exact HL12.out, HI12.out, HN12.out, HX12.out, HB12.out⟩
          case measure => simp [intOf]; omega
        · have hke : k = x.lats.length := by omega
          obtain ⟨wB, hwB⟩ : ∃ U : World, U = wr := ⟨_, rfl⟩
          subst hwB
          have hL' : wB.ownsRow wA.heap.size 39 3 (.slice b2 x.lats.length d2) x.lats.length (tris (mid x).lats).flatten := by
            have h := hL.out
            rw [hke, updL_full] at h
            exact h
          have HLB := Lib.hid hL'
          have HIB1 := hI
          have HNB := hN
          have HXB := hX
          have HBB := hB
          have HHB := Lib.hid (fun (U : World) (hU : OffB w5.heap.size wB U) => HHR.out.next (hU.base HBB.out (Nat.le_trans HL5.out (Nat.le_of_lt HXB.out.lt)) HL5.out))
          have HIB := Lib.hid (fun (U : World) (hU : OffB w5.heap.size wB U) => HIN.out U (HB4.out.trans ((hU.base HBB.out (Nat.le_trans HL5.out (Nat.le_of_lt HXB.out.lt)) HL5.out).mono HB4.out.size)))
          have HT3 : Hid (∀ y ∈ x.outs, 0 ≤ y ∧ y ≤ 9223372036854775807) := fun y hy => HT.out y (by unfold told; simp only [List.mem_append]; exact Or.inl (Or.inl (Or.inr hy)))
          have HT4 : Hid (∀ y ∈ x.bads, 0 ≤ y ∧ y ≤ 9223372036854775807) := fun y hy => HT.out y (by unfold told; simp only [List.mem_append]; exact Or.inl (Or.inr hy))
          have HT5 : Hid (∀ y ∈ x.invs, 0 ≤ y ∧ y ≤ 9223372036854775807) := fun y hy => HT.out y (by unfold told; simp only [List.mem_append]; exact Or.inr hy)
          have HF3 := Lib.hid HFIT.out.outs
          have HF4 := Lib.hid HFIT.out.bads
          have HF5 := Lib.hid HFIT.out.invs
          have hx1b := HX1R.out.next HBB.out HX1R.out.lt
          have HLT5 : Hid (w5.heap.size < wB.heap.size) := HXB.out.lt
          have HNE1 : Hid (w.heap.size ≠ w5.heap.size) := by show _ ≠ _; have := HX1R.out.lt; have := HL5.out; omega
          have HX1B2 := Lib.hid hx1b
          clear hL hI hN hX hB hL' hk hx1b hke
          go_upto_region 16 with fail
          go_cut [58] from 58 to 73 (fun u58 wx => ∃ (m3 : Option Addr) (q3 : Nat) (m4 : Option Addr) (q4 : Nat) (m5 : Option Addr) (q5 : Nat), Hid (wx.ownsRow wB.heap.size 3 1 (.slice m3 x.outs.length q3) x.outs.length (ints (x.outs.map (litS (stOf x).S)))) ∧ Hid (wx.ownsRow wB.heap.size 3 1 (.slice m4 x.bads.length q4) x.bads.length (ints (x.bads.map (litS (stOf x).S)))) ∧ Hid (wx.ownsRow wB.heap.size 3 1 (.slice m5 x.invs.length q5) x.invs.length (ints (x.invs.map (litS (stOf x).S)))) ∧ Hid (BoxN w5.heap.size [.int .i64 x.max, .slice b1 x.ins.length d1, .slice b2 x.lats.length d2, .slice m3 x.outs.length q3, .slice m4 x.bads.length q4, .slice m5 x.invs.length q5, .slice b6 x.ands.length d6, .slice b7 x.names.length d7] wx) ∧ Hid (OffB w5.heap.size wB wx))
          case first =>
            have hb0 : OffB w5.heap.size wB wB.drew := (OffB.refl _ _).below ((Below.refl _ _).drew)
            have bx0 := HXB.out.next ((Below.refl _ _).drew : Below wB.heap.size wB wB.drew) HXB.out.lt
            have hlt5 := HLT5.out
            have hSK : ∀ U : World, OffB w5.heap.size wB U → U.cell? ⟨w.heap.size, 3, none⟩ = some (.slice a3 x.outs.length c3) ∧ U.cell? ⟨w.heap.size, 4, none⟩ = some (.slice a4 x.bads.length c4) ∧ U.cell? ⟨w.heap.size, 5, none⟩ = some (.slice a5 x.invs.length c5) := fun U hU => by
              have h := hU.box HX1B2.out HNE1.out
              exact ⟨h.at' 3 _ rfl, h.at' 4 _ rfl, h.at' 5 _ rfl⟩
            have hS := hSK _ hb0
            refine HeldTo.region (fun U : World => U.cell? ⟨w.heap.size, 3, none⟩ = some (.slice a3 x.outs.length c3) ∧ U.cell? ⟨w.heap.size, 4, none⟩ = some (.slice a4 x.bads.length c4) ∧ U.cell? ⟨w.heap.size, 5, none⟩ = some (.slice a5 x.invs.length c5)) 17 (by kernel_rfl) ?_
            (refine HeldTo.plain (i := 0) (oi := _) (d := some 58) (v := ?_) rfl rfl (by kernel_rfl) (by kernel_rfl) (by kernel_rfl) (by kernel_rfl) (fun _ _ _ h => h) (Or.inl ⟨by rfl, ?_⟩) (fun _ => hS) ?_; rotate_left; (focus (intro w hSw; clear hSw; go_simp; (try with_reducible rfl); done)); (try simp only [Act.put, List.setIfInBounds_toArray, List.set_cons_zero, List.set_cons_succ]))
            (refine HeldTo.plain (i := 1) (oi := _) (d := some 59) (v := ?_) rfl rfl (by kernel_rfl) (by kernel_rfl) (by kernel_rfl) (by kernel_rfl) (fun _ _ _ h => h) (Or.inl ⟨by rfl, ?_⟩) (fun _ => hS) ?_; rotate_left; (focus (intro w hSw; clear hSw; go_simp; (try with_reducible rfl); done)); (try simp only [Act.put, List.setIfInBounds_toArray, List.set_cons_zero, List.set_cons_succ]))
            (refine HeldTo.take (i := 2) (oi := _) (d := some 60) (v := ?_) rfl rfl (by kernel_rfl) (by kernel_rfl) (by kernel_rfl) (by kernel_rfl) (by kernel_rfl) (by kernel_rfl) (fun _ _ _ h => h) (Or.inl ⟨by rfl, ?_⟩) hS ?_; rotate_left; (focus (intro w hSw; (try dsimp only at hSw); go_simp; (try with_reducible rfl); done)); (try simp only [Act.put, List.setIfInBounds_toArray, List.set_cons_zero, List.set_cons_succ]))
            (refine HeldTo.plain (i := 4) (oi := _) (d := some 62) (v := ?_) rfl rfl (by kernel_rfl) (by kernel_rfl) (by kernel_rfl) (by kernel_rfl) (fun _ _ _ h => h) (Or.inl ⟨by rfl, ?_⟩) (fun _ => hS) ?_; rotate_left; (focus (intro w hSw; clear hSw; go_simp; (try with_reducible rfl); done)); (try simp only [Act.put, List.setIfInBounds_toArray, List.set_cons_zero, List.set_cons_succ]))
            (refine HeldTo.plain (i := 5) (oi := _) (d := some 63) (v := ?_) rfl rfl (by kernel_rfl) (by kernel_rfl) (by kernel_rfl) (by kernel_rfl) (fun _ _ _ h => h) (Or.inl ⟨by rfl, ?_⟩) (fun _ => hS) ?_; rotate_left; (focus (intro w hSw; clear hSw; go_simp; (try with_reducible rfl); done)); (try simp only [Act.put, List.setIfInBounds_toArray, List.set_cons_zero, List.set_cons_succ]))
            (refine HeldTo.take (i := 6) (oi := _) (d := some 64) (v := ?_) rfl rfl (by kernel_rfl) (by kernel_rfl) (by kernel_rfl) (by kernel_rfl) (by kernel_rfl) (by kernel_rfl) (fun _ _ _ h => h) (Or.inl ⟨by rfl, ?_⟩) hS ?_; rotate_left; (focus (intro w hSw; (try dsimp only at hSw); go_simp; (try with_reducible rfl); done)); (try simp only [Act.put, List.setIfInBounds_toArray, List.set_cons_zero, List.set_cons_succ]))
            (refine HeldTo.plain (i := 8) (oi := _) (d := some 66) (v := ?_) rfl rfl (by kernel_rfl) (by kernel_rfl) (by kernel_rfl) (by kernel_rfl) (fun _ _ _ h => h) (Or.inl ⟨by rfl, ?_⟩) (fun _ => hS) ?_; rotate_left; (focus (intro w hSw; clear hSw; go_simp; (try with_reducible rfl); done)); (try simp only [Act.put, List.setIfInBounds_toArray, List.set_cons_zero, List.set_cons_succ]))
            (refine HeldTo.plain (i := 9) (oi := _) (d := some 67) (v := ?_) rfl rfl (by kernel_rfl) (by kernel_rfl) (by kernel_rfl) (by kernel_rfl) (fun _ _ _ h => h) (Or.inl ⟨by rfl, ?_⟩) (fun _ => hS) ?_; rotate_left; (focus (intro w hSw; clear hSw; go_simp; (try with_reducible rfl); done)); (try simp only [Act.put, List.setIfInBounds_toArray, List.set_cons_zero, List.set_cons_succ]))
            (refine HeldTo.take (i := 10) (oi := _) (d := some 68) (v := ?_) rfl rfl (by kernel_rfl) (by kernel_rfl) (by kernel_rfl) (by kernel_rfl) (by kernel_rfl) (by kernel_rfl) (fun _ _ _ h => h) (Or.inl ⟨by rfl, ?_⟩) hS ?_; rotate_left; (focus (intro w hSw; (try dsimp only at hSw); go_simp; (try with_reducible rfl); done)); (try simp only [Act.put, List.setIfInBounds_toArray, List.set_cons_zero, List.set_cons_succ]))
            refine HeldTo.one (i := 3) (by kernel_rfl) ?_
            refine HeldTo.opCall (i := 3) (oi := _) (d := some 61) (R := fun v w' => ∃ a' c', v = .slice a' x.outs.length c' ∧ w'.ownsRow wB.drew.heap.size 3 1 (.slice a' x.outs.length c') x.outs.length (ints (x.outs.map (litS (stOf x).S))) ∧ Below wB.drew.heap.size wB.drew w') rfl rfl (by rfl) (by go_simp; done) ((all_any wB.drew (HHB.out wB.drew hb0) a3 c3 x.outs (HIB.out wB.drew hb0).outs HT3.out HF3.out).mono fun e w' h => by obtain ⟨a', c', he, ho, hb⟩ := h; exact ⟨_, he, a', c', rfl, ho, hb⟩) ?_
            rintro v wk101 ⟨m101, q101, rfl, ho101, hbk101⟩
            have ob101 := hb0.below hbk101
            have bx101 : BoxN w5.heap.size [.int .i64 x.max, .slice b1 x.ins.length d1, .slice b2 x.lats.length d2, .slice b3 x.outs.length d3, .slice b4 x.bads.length d4, .slice b5 x.invs.length d5, .slice b6 x.ands.length d6, .slice b7 x.names.length d7] wk101 := bx0.next hbk101 bx0.lt
            have ro101 := own_mono ho101 hb0.size
            have hS101 := hSK _ ob101
            refine ⟨hS101, ?_⟩
            (try simp only [Act.put, List.setIfInBounds_toArray, List.set_cons_zero, List.set_cons_succ])
            (refine HeldTo.plain (i := 12) (oi := _) (d := some 70) (v := ?_) rfl rfl (by kernel_rfl) (by kernel_rfl) (by kernel_rfl) (by kernel_rfl) (fun _ _ _ h => h) (Or.inl ⟨by rfl, ?_⟩) (fun _ => hS101) ?_; rotate_left; (focus (intro w hSw; clear hSw; go_simp; (try with_reducible rfl); done)); (try simp only [Act.put, List.setIfInBounds_toArray, List.set_cons_zero, List.set_cons_succ]))
            refine HeldTo.one (i := 7) (by kernel_rfl) ?_
            refine HeldTo.opCall (i := 7) (oi := _) (d := some 65) (R := fun v w' => ∃ a' c', v = .slice a' x.bads.length c' ∧ w'.ownsRow wk101.heap.size 3 1 (.slice a' x.bads.length c') x.bads.length (ints (x.bads.map (litS (stOf x).S))) ∧ Below wk101.heap.size wk101 w') rfl rfl (by rfl) (by go_simp; done) ((all_any wk101 (HHB.out wk101 ob101) a4 c4 x.bads (HIB.out wk101 ob101).bads HT4.out HF4.out).mono fun e w' h => by obtain ⟨a', c', he, ho, hb⟩ := h; exact ⟨_, he, a', c', rfl, ho, hb⟩) ?_
            rintro v wk102 ⟨m102, q102, rfl, ho102, hbk102⟩
            have ob102 := ob101.below hbk102
            have bx102 : BoxN w5.heap.size [.int .i64 x.max, .slice b1 x.ins.length d1, .slice b2 x.lats.length d2, .slice b3 x.outs.length d3, .slice b4 x.bads.length d4, .slice b5 x.invs.length d5, .slice b6 x.ands.length d6, .slice b7 x.names.length d7] wk102 := bx101.next hbk102 bx101.lt
            have ro102 := own_mono ho102 ob101.size
            have ro102_3 := own_next ro101 hbk102
            have hS102 := hSK _ ob102
            refine ⟨hS102, ?_⟩
            (try simp only [Act.put, List.setIfInBounds_toArray, List.set_cons_zero, List.set_cons_succ])
            refine HeldTo.one (i := 11) (by kernel_rfl) ?_
            refine HeldTo.opCall (i := 11) (oi := _) (d := some 69) (R := fun v w' => ∃ a' c', v = .slice a' x.invs.length c' ∧ w'.ownsRow wk102.heap.size 3 1 (.slice a' x.invs.length c') x.invs.length (ints (x.invs.map (litS (stOf x).S))) ∧ Below wk102.heap.size wk102 w') rfl rfl (by rfl) (by go_simp; done) ((all_any wk102 (HHB.out wk102 ob102) a5 c5 x.invs (HIB.out wk102 ob102).invs HT5.out HF5.out).mono fun e w' h => by obtain ⟨a', c', he, ho, hb⟩ := h; exact ⟨_, he, a', c', rfl, ho, hb⟩) ?_
            rintro v wk103 ⟨m103, q103, rfl, ho103, hbk103⟩
            have ob103 := ob102.below hbk103
            have bx103 : BoxN w5.heap.size [.int .i64 x.max, .slice b1 x.ins.length d1, .slice b2 x.lats.length d2, .slice b3 x.outs.length d3, .slice b4 x.bads.length d4, .slice b5 x.invs.length d5, .slice b6 x.ands.length d6, .slice b7 x.names.length d7] wk103 := bx102.next hbk103 bx102.lt
            have ro103 := own_mono ho103 ob102.size
            have ro103_3 := own_next ro102_3 hbk103
            have ro103_4 := own_next ro102 hbk103
            have hS103 := hSK _ ob103
            refine ⟨hS103, ?_⟩
            (try simp only [Act.put, List.setIfInBounds_toArray, List.set_cons_zero, List.set_cons_succ])
            obtain ⟨w104, hw104⟩ : ∃ U, wk103.setCell ⟨w5.heap.size, 3, none⟩ (.slice m101 x.outs.length q101) = U := ⟨_, rfl⟩
            have ob104 := ob103.set 3 (.slice m101 x.outs.length q101)
            rw [hw104] at ob104
            have g104 := bx103.at' 3 _ rfl
            have z104 := bx103.fz 3
            have bx104' := bx103.set 3 (.slice m101 x.outs.length q101)
            rw [hw104] at bx104'
            have bx104 : BoxN w5.heap.size [.int .i64 x.max, .slice b1 x.ins.length d1, .slice b2 x.lats.length d2, .slice m101 x.outs.length q101, .slice b4 x.bads.length d4, .slice b5 x.invs.length d5, .slice b6 x.ands.length d6, .slice b7 x.names.length d7] w104 := bx104'
            have ro104_3 := ownsRow_setCell_below ro103_3 (a := ⟨w5.heap.size, 3, none⟩) hlt5 (.slice m101 x.outs.length q101)
            rw [hw104] at ro104_3
            have ro104_4 := ownsRow_setCell_below ro103_4 (a := ⟨w5.heap.size, 3, none⟩) hlt5 (.slice m101 x.outs.length q101)
            rw [hw104] at ro104_4
            have ro104_5 := ownsRow_setCell_below ro103 (a := ⟨w5.heap.size, 3, none⟩) hlt5 (.slice m101 x.outs.length q101)
            rw [hw104] at ro104_5
            have hS104 := hSK _ ob104
            refine HeldTo.one (i := 13) (by kernel_rfl) ?_
            refine HeldTo.opStore (i := 13) (oi := _) (d := none) (w2 := w104) rfl rfl (by rfl) (by go_simp; done) hS104 ?_
            (try simp only [Act.put, List.setIfInBounds_toArray, List.set_cons_zero, List.set_cons_succ])
            clear g104 z104
            (refine HeldTo.plain (i := 14) (oi := _) (d := some 71) (v := ?_) rfl rfl (by kernel_rfl) (by kernel_rfl) (by kernel_rfl) (by kernel_rfl) (fun _ _ _ h => h) (Or.inl ⟨by rfl, ?_⟩) (fun _ => hS104) ?_; rotate_left; (focus (intro w hSw; clear hSw; go_simp; (try with_reducible rfl); done)); (try simp only [Act.put, List.setIfInBounds_toArray, List.set_cons_zero, List.set_cons_succ]))
            obtain ⟨w105, hw105⟩ : ∃ U, w104.setCell ⟨w5.heap.size, 4, none⟩ (.slice m102 x.bads.length q102) = U := ⟨_, rfl⟩
            have ob105 := ob104.set 4 (.slice m102 x.bads.length q102)
            rw [hw105] at ob105
            have g105 := bx104.at' 4 _ rfl
            have z105 := bx104.fz 4
            have bx105' := bx104.set 4 (.slice m102 x.bads.length q102)
            rw [hw105] at bx105'
            have bx105 : BoxN w5.heap.size [.int .i64 x.max, .slice b1 x.ins.length d1, .slice b2 x.lats.length d2, .slice m101 x.outs.length q101, .slice m102 x.bads.length q102, .slice b5 x.invs.length d5, .slice b6 x.ands.length d6, .slice b7 x.names.length d7] w105 := bx105'
            have ro105_3 := ownsRow_setCell_below ro104_3 (a := ⟨w5.heap.size, 4, none⟩) hlt5 (.slice m102 x.bads.length q102)
            rw [hw105] at ro105_3
            have ro105_4 := ownsRow_setCell_below ro104_4 (a := ⟨w5.heap.size, 4, none⟩) hlt5 (.slice m102 x.bads.length q102)
            rw [hw105] at ro105_4
            have ro105_5 := ownsRow_setCell_below ro104_5 (a := ⟨w5.heap.size, 4, none⟩) hlt5 (.slice m102 x.bads.length q102)
            rw [hw105] at ro105_5
            have hS105 := hSK _ ob105
            refine HeldTo.one (i := 15) (by kernel_rfl) ?_
            refine HeldTo.opStore (i := 15) (oi := _) (d := none) (w2 := w105) rfl rfl (by rfl) (by go_simp; done) hS105 ?_
            (try simp only [Act.put, List.setIfInBounds_toArray, List.set_cons_zero, List.set_cons_succ])
            clear g105 z105
            (refine HeldTo.plain (i := 16) (oi := _) (d := some 72) (v := ?_) rfl rfl (by kernel_rfl) (by kernel_rfl) (by kernel_rfl) (by kernel_rfl) (fun _ _ _ h => h) (Or.inl ⟨by rfl, ?_⟩) (fun _ => hS105) ?_; rotate_left; (focus (intro w hSw; clear hSw; go_simp; (try with_reducible rfl); done)); (try simp only [Act.put, List.setIfInBounds_toArray, List.set_cons_zero, List.set_cons_succ]))
            obtain ⟨w106, hw106⟩ : ∃ U, w105.setCell ⟨w5.heap.size, 5, none⟩ (.slice m103 x.invs.length q103) = U := ⟨_, rfl⟩
            have ob106 := ob105.set 5 (.slice m103 x.invs.length q103)
            rw [hw106] at ob106
            have g106 := bx105.at' 5 _ rfl
            have z106 := bx105.fz 5
            have bx106' := bx105.set 5 (.slice m103 x.invs.length q103)
            rw [hw106] at bx106'
            have bx106 : BoxN w5.heap.size [.int .i64 x.max, .slice b1 x.ins.length d1, .slice b2 x.lats.length d2, .slice m101 x.outs.length q101, .slice m102 x.bads.length q102, .slice m103 x.invs.length q103, .slice b6 x.ands.length d6, .slice b7 x.names.length d7] w106 := bx106'
            have ro106_3 := ownsRow_setCell_below ro105_3 (a := ⟨w5.heap.size, 5, none⟩) hlt5 (.slice m103 x.invs.length q103)
            rw [hw106] at ro106_3
            have ro106_4 := ownsRow_setCell_below ro105_4 (a := ⟨w5.heap.size, 5, none⟩) hlt5 (.slice m103 x.invs.length q103)
            rw [hw106] at ro106_4
            have ro106_5 := ownsRow_setCell_below ro105_5 (a := ⟨w5.heap.size, 5, none⟩) hlt5 (.slice m103 x.invs.length q103)
            rw [hw106] at ro106_5
            have hS106 := hSK _ ob106
            refine HeldTo.one (i := 17) (by kernel_rfl) ?_
            refine HeldTo.opStore (i := 17) (oi := _) (d := none) (w2 := w106) rfl rfl (by rfl) (by go_simp; done) hS106 ?_
            (try simp only [Act.put, List.setIfInBounds_toArray, List.set_cons_zero, List.set_cons_succ])
            clear g106 z106
            refine HeldTo.done (by kernel_rfl) ?_ _
            (try go_wp2_with fail)
            go_meet
            exact ⟨m101, q101, m102, q102, m103, q103, ro106_3, ro106_4, ro106_5, bx106, ob106⟩
          case rest =>
            obtain ⟨m3, q3, m4, q4, m5, q5, P3, P4, P5, HX22, HOB22⟩ := hcut
            generalize wc = w22 at *
            have P1 := Lib.hid (HOB22.out.own HIB1.out HNI.out)
            have P2 := Lib.hid (HOB22.out.own HLB.out HNL.out)
            have P7 := Lib.hid (HOB22.out.own HNB.out HNN.out)
            have BA22 := HOB22.out.base HBB.out (Nat.le_trans HL5.out (Nat.le_of_lt HLT5.out)) HL5.out
            have hh22 := HHR.out.next BA22
            have HBA22 := Lib.hid BA22
            have HH22 := Lib.hid hh22
            have hd2 := hh22.box.at' 2 _ rfl
            have x6 := HX22.out.at' 6 _ rfl
            have y6 := HX22.out.fz 6
            obtain ⟨w23, hw23⟩ : ∃ U, w22.setCell ⟨w5.heap.size, 6, none⟩ (.slice aK (stOf x).K.length cK) = U := ⟨_, rfl⟩
            obtain ⟨w24, hw24⟩ : ∃ U, w23.alloc (.map #[] 0) = U := ⟨_, rfl⟩
            have X23 := HX22.out.set 6 (.slice aK (stOf x).K.length cK)
            rw [hw23] at X23
            have b24 : Below w23.heap.size w23 w24 := by rw [← hw24]; exact (Below.refl _ _).alloc (Nat.le_refl _) _
            have s24 : SetI.SetIs w24 w23.heap.size 0 [] := by rw [← hw24]; exact SetI.set_made w23
            have ob23 := (OffB.refl w5.heap.size w22).set 6 (.slice aK (stOf x).K.length cK)
            rw [hw23] at ob23
            have ob24 := ob23.below b24
            have hlt23 : w22.heap.size ≤ w23.heap.size := ob23.size
            have X24 : BoxN w5.heap.size [.int .i64 x.max, .slice b1 x.ins.length d1, .slice b2 x.lats.length d2, .slice m3 x.outs.length q3, .slice m4 x.bads.length q4, .slice m5 x.invs.length q5, .slice aK (stOf x).K.length cK, .slice b7 x.names.length d7] w24 := X23.next b24 X23.lt
            have HOB24 := Lib.hid ob24
            have HS24 := Lib.hid s24
            have HX24 := Lib.hid X24
            have HL22 : Hid (wB.heap.size ≤ w22.heap.size) := HOB22.out.size
            have HL23 := Lib.hid hlt23
            have HL24 : Hid (w23.heap.size < w24.heap.size) := by show _ < _; rw [← hw24]; simp
            have hmm := @run_makeMap Try.prog
            clear X23 ob23 ob24 X24 BA22 hh22 hlt23 b24 s24
            go_upto_region 19 with fail
            clear hw23 hw24 hd2 x6 y6 hmm
            have hKn : (Value.slice aK (stOf x).K.length cK).ownBlock ≠ some w5.heap.size := own_not HHR.out.k HL5.out
            have HKN := Lib.hid hKn
            have hmid : InCirc w24 (mid x) ⟨b1, d1, b2, d2, m3, q3, m4, q4, m5, q5, aK, cK, b7, d7⟩ := mid_in (HOB24.out.own P1.out HNI.out) (HOB24.out.own P2.out HNL.out) (HOB24.out.own P3.out (own_not' P3.out HLT5.out)) (HOB24.out.own P4.out (own_not' P4.out HLT5.out)) (HOB24.out.own P5.out (own_not' P5.out HLT5.out)) (stOf x).K (HOB24.out.own HH22.out.k hKn) (HOB24.out.own P7.out HNN.out)
            have hml := told_len x
            have hfew := HFEW.out
            obtain ⟨_, _, f1, f2, f3, f4, f5⟩ := hfew
            have hkl : (stOf x).K.length ≤ x.ands.length := HHR.out.few
            have hfa := HFIT.out.ands
            have hce : cells (mid x) ⟨b1, d1, b2, d2, m3, q3, m4, q4, m5, q5, aK, cK, b7, d7⟩ = #[.int .i64 x.max, .slice b1 x.ins.length d1, .slice b2 x.lats.length d2, .slice m3 x.outs.length q3, .slice m4 x.bads.length q4, .slice m5 x.invs.length q5, .slice aK (stOf x).K.length cK, .slice b7 x.names.length d7] := by simp only [cells, mid, List.length_map]
            have htd := fun (U : World) (hU : Below w24.heap.size w24 U) => told_any U (mid x) ⟨b1, d1, b2, d2, m3, q3, m4, q4, m5, q5, aK, cK, b7, d7⟩ (hmid.next hU) (by simp only [mid, List.length_map]; omega)
            have hcn := fun (U : World) (hU : Below w24.heap.size w24 U) (a' : Option Addr) (c' : Nat) hsl => cone_any U (mid x) ⟨b1, d1, b2, d2, m3, q3, m4, q4, m5, q5, aK, cK, b7, d7⟩ (hmid.next hU) HKW.out a' c' (told (mid x)) hsl (fun y hy => HTW.out HH22.out.wf y hy) (by have e : (mid x).ands = (stOf x).K := rfl; rw [hml, e]; omega)
            simp only [hce] at htd hcn
            have htw : ∀ t ∈ told (mid x), I64 t := fun y hy => HTW.out HH22.out.wf y hy
            have HTV := Lib.hid htw
            have HTD := Lib.hid htd
            have HCN := Lib.hid hcn
            have HWT : Hid (∀ t, wants x t = tt (Rch (stOf x).K (told (mid x)) (var t.1))) := fun t => rfl
            clear hmid hml f1 f2 f3 f4 f5 hkl hfa hce htd hcn htw hKn
            generalize told (mid x) = TL at *
            have hb0 : Below w24.heap.size w24 w24.drew := (Below.refl _ _).drew
            have hSK : ∀ U : World, Below w24.heap.size w24 U → U.cell? ⟨w5.heap.size, 0, none⟩ = some (.int .i64 x.max) ∧ U.cell? ⟨w5.heap.size, 1, none⟩ = some (.slice b1 x.ins.length d1) ∧ U.cell? ⟨w5.heap.size, 2, none⟩ = some (.slice b2 x.lats.length d2) ∧ U.cell? ⟨w5.heap.size, 3, none⟩ = some (.slice m3 x.outs.length q3) ∧ U.cell? ⟨w5.heap.size, 4, none⟩ = some (.slice m4 x.bads.length q4) ∧ U.cell? ⟨w5.heap.size, 5, none⟩ = some (.slice m5 x.invs.length q5) ∧ U.cell? ⟨w5.heap.size, 6, none⟩ = some (.slice aK (stOf x).K.length cK) ∧ U.cell? ⟨w5.heap.size, 7, none⟩ = some (.slice b7 x.names.length d7) := fun U hU => by
              have h := HX24.out.next hU HX24.out.lt
              exact box8S h
            have hS := hSK _ hb0
            refine HeldTo.region (fun U : World => U.cell? ⟨w5.heap.size, 0, none⟩ = some (.int .i64 x.max) ∧ U.cell? ⟨w5.heap.size, 1, none⟩ = some (.slice b1 x.ins.length d1) ∧ U.cell? ⟨w5.heap.size, 2, none⟩ = some (.slice b2 x.lats.length d2) ∧ U.cell? ⟨w5.heap.size, 3, none⟩ = some (.slice m3 x.outs.length q3) ∧ U.cell? ⟨w5.heap.size, 4, none⟩ = some (.slice m4 x.bads.length q4) ∧ U.cell? ⟨w5.heap.size, 5, none⟩ = some (.slice m5 x.invs.length q5) ∧ U.cell? ⟨w5.heap.size, 6, none⟩ = some (.slice aK (stOf x).K.length cK) ∧ U.cell? ⟨w5.heap.size, 7, none⟩ = some (.slice b7 x.names.length d7)) 3 (by kernel_rfl) ?_
            (refine HeldTo.plain (i := 5) (oi := _) (d := some 84) (v := ?_) rfl rfl (by kernel_rfl) (by kernel_rfl) (by kernel_rfl) (by kernel_rfl) (fun _ _ _ h => h) (Or.inl ⟨by rfl, ?_⟩) (fun _ => hS) ?_; rotate_left; (focus (intro w hSw; clear hSw; go_simp; (try with_reducible rfl); done)); (try simp only [Act.put, List.setIfInBounds_toArray, List.set_cons_zero, List.set_cons_succ]))
            (refine HeldTo.take (i := 0) (oi := _) (d := some 79) (v := ?_) rfl rfl (by kernel_rfl) (by kernel_rfl) (by kernel_rfl) (by kernel_rfl) (by kernel_rfl) (by kernel_rfl) (fun _ _ _ h => h) (Or.inl ⟨by rfl, ?_⟩) hS ?_; rotate_left; (focus (intro w hSw; (try dsimp only at hSw); go_simp; (try with_reducible rfl); done)); (try simp only [Act.put, List.setIfInBounds_toArray, List.set_cons_zero, List.set_cons_succ]))
            refine HeldTo.one (i := 1) (by kernel_rfl) ?_
            (refine HeldTo.opVal (i := 1) (oi := _) (d := some 80) (v := .agg #[.int .i64 x.max, .slice b1 x.ins.length d1, .slice b2 x.lats.length d2, .slice m3 x.outs.length q3, .slice m4 x.bads.length q4, .slice m5 x.invs.length q5, .slice aK (stOf x).K.length cK, .slice b7 x.names.length d7]) (w2 := w24.drew) rfl rfl (by rfl) ?_ hS ?_; (focus (obtain ⟨s0, s1, s2, s3, s4, s5, s6, s7⟩ := hS; go_simp; done)); (try simp only [Act.put, List.setIfInBounds_toArray, List.set_cons_zero, List.set_cons_succ]))
            refine HeldTo.call (i := 2) (oi := _) (d := some 81) (R := fun v w' => ∃ a' c', v = .slice a' TL.length c' ∧ w'.ownsRow w24.drew.heap.size 3 1 (.slice a' TL.length c') TL.length (ints TL) ∧ Below w24.drew.heap.size w24.drew w') rfl rfl (by kernel_rfl) (by rfl) (by go_simp; done) ((HTD.out w24.drew hb0).mono fun e w' h => by obtain ⟨a', c', he, ho, hb⟩ := h; exact ⟨_, he, a', c', rfl, ho, hb⟩) ?_
            rintro v wk2 ⟨a9, c9, rfl, ho2, hbk2⟩
            have hB2 := hb0.trans (hbk2.mono hb0.size)
            have hS2 := hSK _ hB2
            refine ⟨hS2, ?_⟩
            (try simp only [Act.put, List.setIfInBounds_toArray, List.set_cons_zero, List.set_cons_succ])
            refine HeldTo.call (i := 3) (oi := _) (d := some 82) (R := fun v w' => ∃ a' c' vs, v = .slice a' vs.length c' ∧ w'.ownsRow wk2.heap.size 3 1 (.slice a' vs.length c') vs.length (ints vs) ∧ (∀ y, y ∈ vs ↔ y ≠ 0 ∧ Rch (stOf x).K TL y) ∧ Below wk2.heap.size wk2 w') rfl rfl (by kernel_rfl) (by rfl) (by go_simp; done) ((HCN.out wk2 hB2 a9 c9 (own_sl' ho2)).mono fun e w' h => by obtain ⟨a', c', vs, he, ho, _, hv, hb⟩ := h; exact ⟨_, he, a', c', vs, rfl, ho, hv, hb⟩) ?_
            rintro v wk3 ⟨a10, c10, vs, rfl, ho3, hvs, hbk3⟩
            have hB3 := hB2.trans (hbk3.mono hB2.size)
            have hS3 := hSK _ hB3
            refine ⟨hS3, ?_⟩
            (try simp only [Act.put, List.setIfInBounds_toArray, List.set_cons_zero, List.set_cons_succ])
            (refine HeldTo.plain (i := 4) (oi := _) (d := some 83) (v := ?_) rfl rfl (by kernel_rfl) (by kernel_rfl) (by kernel_rfl) (by kernel_rfl) (fun _ _ _ h => h) (Or.inl ⟨by rfl, ?_⟩) (fun h => absurd h (by decide)) ?_; rotate_left; (focus (intro w hSw; clear hSw; go_simp; (try with_reducible rfl); done)); (try simp only [Act.put, List.setIfInBounds_toArray, List.set_cons_zero, List.set_cons_succ]))
            refine HeldTo.done (by kernel_rfl) ?_ _
            generalize wk3 = w26 at *
            have HV := Lib.hid ho3
            have HVS := Lib.hid hvs
            have HB26 := Lib.hid hB3
            have HMV : Hid (w23.heap.size < wk2.heap.size) := Nat.lt_of_lt_of_le HL24.out hB2.size
            have HS26 := Lib.hid (HS24.out.next hB3)
            have hvc := (own_sl' ho3).cap
            have hvb := (own_sl' ho3).big
            clear ho2 hbk2 ho3 hvs hbk3 hB2 hB3 hS hS2 hS3 hSK hb0
            go_wp2_with fail
            go_loopw [84] (fun s wr => ∃ k : Nat, k ≤ vs.length ∧ s = .int .i64 k ∧ Hid (SetI.SetIs wr w23.heap.size k (vs.take k)) ∧ Hid (OffB w23.heap.size w26 wr)) (fun s _ => vs.length - (intOf s).toNat)
            case atStart => exact ⟨0, Nat.zero_le _, rfl, HS26.out, OffB.refl _ _⟩
            case round =>
              obtain ⟨k, hk, rfl, hS, hO⟩ := hrel
              by_cases hlt : k < vs.length
              · obtain ⟨b, o, hx, rfl, hbs, hc⟩ := (own_sl' (hO.out.own HV.out (own_not' HV.out HMV.out))).int hlt
                have h64 : I64 vs[k] := rch_64 HKW.out HTV.out ((HVS.out _).1 (List.getElem_mem hx)).2
                have HTK : Hid (vs.take (k + 1) = vs.take k ++ [vs[k]]) := List.take_succ_eq_append_getElem hx
                generalize vs[k] = v at *
                obtain ⟨w9, hrun, hs9, hg9⟩ := set_store hS.out (show SetI.I64 v from h64) (by omega)
                have HS9 := Lib.hid hs9
                have HO9 := Lib.hid (offb_at hO.out hg9)
                clear hs9 hg9 h64 hbs
                go_wp2_with fail
                go_roundw
                case rel => exact ⟨k + 1, by omega, by go_num, by rw [HTK.out]; exact HS9.out, HO9.out⟩
                case measure => simp [intOf]; omega
              · have hke : k = vs.length := by omega
                obtain ⟨w29, hw29⟩ : ∃ U : World, U = wr := ⟨_, rfl⟩
                subst hw29
                have hS' : SetI.SetIs w29 w23.heap.size vs.length vs := by
                  have h := hS.out
                  rw [hke, List.take_length] at h
                  exact h
                have z1 := HL5.out
                have z2 := HLT5.out
                have z3 := HL22.out
                have z4 := HL23.out
                have z5 := HL24.out
                have z6 := HB26.out.size
                have z7 := HBA22.out.size
                have hne : w5.heap.size ≠ w23.heap.size := by omega
                have x29 : BoxN w5.heap.size [.int .i64 x.max, .slice b1 x.ins.length d1, .slice b2 x.lats.length d2, .slice m3 x.outs.length q3, .slice m4 x.bads.length q4, .slice m5 x.invs.length q5, .slice aK (stOf x).K.length cK, .slice b7 x.names.length d7] w29 := hO.out.box (HX24.out.next HB26.out HX24.out.lt) hne
                have ba24 := HOB24.out.base HBA22.out z7 HL5.out
                have ba26 := ba24.trans (HB26.out.mono ba24.size)
                have ba29 := hO.out.base ba26 ba26.size (by omega)
                obtain ⟨w30, hw30⟩ : ∃ U, w29.setCell ⟨w5.heap.size, 6, none⟩ (.slice none 0 0) = U := ⟨_, rfl⟩
                have ob30 := (OffB.refl w5.heap.size w29).set 6 (.slice none 0 0)
                rw [hw30] at ob30
                have x30' := x29.set 6 (.slice none 0 0)
                rw [hw30] at x30'
                have x30 : BoxN w5.heap.size [.int .i64 x.max, .slice b1 x.ins.length d1, .slice b2 x.lats.length d2, .slice m3 x.outs.length q3, .slice m4 x.bads.length q4, .slice m5 x.invs.length q5, .slice none 0 0, .slice b7 x.names.length d7] w30 := x30'
                have ba30 := ob30.base ba29 ba29.size HL5.out
                have s30 := ob30.seti hS' (fun e => hne e.symm)
                have hpr : ∀ {B : Nat} {e : TypeId} {sz : Nat} {v : Value} {n : Nat} {us : List Value}, w22.ownsRow B e sz v n us → v.ownBlock ≠ some w5.heap.size → w30.ownsRow B e sz v n us := fun h1 h2 =>
                  ob30.own (hO.out.own (own_next (HOB24.out.own h1 h2) HB26.out) (own_not h1 z4)) h2
                have HQ1 := Lib.hid (hpr P1.out HNI.out)
                have HQ2 := Lib.hid (hpr P2.out HNL.out)
                have HQ3 := Lib.hid (hpr P3.out (own_not' P3.out HLT5.out))
                have HQ4 := Lib.hid (hpr P4.out (own_not' P4.out HLT5.out))
                have HQ5 := Lib.hid (hpr P5.out (own_not' P5.out HLT5.out))
                have HQ7 := Lib.hid (hpr P7.out HNN.out)
                have hkr := hpr HH22.out.k HKN.out
                have HKR := Lib.hid hkr
                have hkc := (own_slT' (tris_row _) (tris_len _) hkr).cap
                have hkb := (own_slT' (tris_row _) (tris_len _) hkr).big
                have hd2 := (HHR.out.next ba30).box.at' 2 _ rfl
                have x6 := x29.at' 6 _ rfl
                have y6 := x29.fz 6
                have HX30 := Lib.hid x30
                have HBA30 := Lib.hid ba30
                have HS30 := Lib.hid s30
                have HNE := Lib.hid hne
                have HL30 : Hid (w5.heap.size < w30.heap.size) := by show _ < _; have := ba30.size; have := ob30.size; have := hO.out.size; omega
                have HKO := Lib.hid (kOrd HOK.out)
                have hK24 : ((stOf x).K.length + 1) * 24 ≤ 140737488355328 + 24 := by have := HHR.out.few; have := HFIT.out.ands; omega
                have HK24 := Lib.hid hK24
                clear x29 ba24 ba26 ba29 ob30 x30' x30 ba30 s30 hpr hkr hS' z1 z2 z3 z4 z5 z6 z7 hne hK24 hS hO hk hvc hvb hke
                go_wp2_with fail
                clear hw30 hd2 x6 y6
                go_loopw [97] (fun s wr => ∃ (k : Nat) (a6' : Option Addr) (c6' : Nat), k ≤ (stOf x).K.length ∧ s = .int .i64 k ∧ Hid (BoxN w5.heap.size [.int .i64 x.max, .slice b1 x.ins.length d1, .slice b2 x.lats.length d2, .slice m3 x.outs.length q3, .slice m4 x.bads.length q4, .slice m5 x.invs.length q5, .slice a6' (((stOf x).K.take k).filter (wants x)).length c6', .slice b7 x.names.length d7] wr) ∧ Hid (wr.ownsRow w30.heap.size 43 3 (.slice a6' (((stOf x).K.take k).filter (wants x)).length c6') (((stOf x).K.take k).filter (wants x)).length (tris (((stOf x).K.take k).filter (wants x))).flatten) ∧ Hid (OffB w5.heap.size w30 wr)) (fun s _ => (stOf x).K.length - (intOf s).toNat)
                case atStart => exact ⟨0, none, 0, Nat.zero_le _, rfl, HX30.out, World.ownsRow_nil _ _ _ _, OffB.refl _ _⟩
                case round =>
                  obtain ⟨k, a6', c6', hk, rfl, hX, hF, hO⟩ := hrel
                  by_cases hlt2 : k < (stOf x).K.length
                  · obtain ⟨b, o, hx, rfl, hbs, hc0, hc1, hc2⟩ := (own_slT' (tris_row _) (tris_len _) (hO.out.own HKR.out HKN.out)).tri hlt2
                    have hmem := List.getElem_mem hx
                    have ht64 := (HKW.out _ hmem).1
                    have hge : 2 ≤ (stOf x).K[k].1 := (HKO.out.fine _ hmem).1
                    have HWW := Lib.hid (HWT.out (stOf x).K[k])
                    have HFT : Hid (((stOf x).K.take (k + 1)).filter (wants x) = ((stOf x).K.take k).filter (wants x) ++ (if wants x (stOf x).K[k] = true then [(stOf x).K[k]] else [])) := by
                      show _ = _
                      rw [List.take_succ_eq_append_getElem hx, List.filter_append]
                      congr 1
                      by_cases hh : wants x (stOf x).K[k] = true <;> simp [hh]
                    have hFl : (((stOf x).K.take k).filter (wants x)).length ≤ k := Nat.le_trans (List.length_filter_le _ _) (by rw [List.length_take]; omega)
                    generalize (stOf x).K[k] = t at *
                    generalize ((stOf x).K.take k).filter (wants x) = F at *
                    have HFL := Lib.hid hFl
                    obtain ⟨U, hU⟩ : ∃ U, wr.alloc (.cells (triC t) 43) = U := ⟨_, rfl⟩
                    obtain ⟨hbU, htb⟩ := tbox_new wr t 43 U hU
                    have t0 := htb.t0
                    have t1 := htb.t1
                    have t2 := htb.t2
                    have hsU := (hO.out.seti HS30.out (fun e => HNE.out e.symm)).next hbU
                    have hl := SetI.set_look hsU (x := var t.1) (show SetI.I64 _ from var_64 ht64)
                    have VA := Lib.hid (fun (V : World) => var_any t.1 (by omega) (by unfold I64 at ht64; omega) V)
                    have hxU := hX.out.next hbU hX.out.lt
                    have hoU := hO.out.below hbU
                    have hfU := own_next hF.out hbU
                    have hv0 : var t.1 ≠ 0 := by unfold var; omega
                    simp only [triC] at hU
                    have HXU := Lib.hid hxU
                    have HOU := Lib.hid hoU
                    have HFU := Lib.hid hfU
                    clear hbU htb hsU hxU hoU hfU hX hF hO hbs ht64 hge hmem hFl
                    by_cases hwn : Rch (stOf x).K TL (var t.1)
                    · have hix : SetI.inX vs (var t.1) = true := SetI.inX_iff.2 ((HVS.out _).2 ⟨hv0, hwn⟩)
                      have hwt : wants x t = true := by rw [HWW.out]; exact tt_pos hwn
                      have HFT2 := Lib.hid HFT.out
                      rw [if_pos hwt] at HFT2
                      rw [hix] at hl
                      obtain ⟨W7, hW7⟩ : ∃ V, U.alloc (.cells #[.int .i64 t.1, .int .i64 t.2.1, .int .i64 t.2.2] 43) = V := ⟨_, rfl⟩
                      have hb7 : Below U.heap.size U W7 := by rw [← hW7]; exact (Below.refl _ _).alloc (Nat.le_refl _) _
                      have hx7 : BoxN U.heap.size [.int .i64 t.1, .int .i64 t.2.1, .int .i64 t.2.2] W7 := by
                        have h := BoxN.new U #[.int .i64 t.1, .int .i64 t.2.1, .int .i64 t.2.2] 43
                        rw [hW7] at h
                        exact h
                      have hf7 := own_next HFU.out hb7
                      have HX7 := Lib.hid hx7
                      have HF7 := Lib.hid hf7
                      have HXW7 := Lib.hid (HXU.out.next hb7 HXU.out.lt)
                      have HO7 := Lib.hid (HOU.out.below hb7)
                      have HZ7 : Hid (w30.heap.size ≤ W7.heap.size) := HO7.out.size
                      have n6 := HXU.out.at' 6 _ rfl
                      have HFX : Hid ((tris (F ++ [t])).flatten = (tris F ++ [[Value.int .i64 t.1, Value.int .i64 t.2.1, Value.int .i64 t.2.2]]).flatten) := by show _ = _; simp [tris]
                      have HN24 : Hid ((F.length + 1) * 24 ≤ 140737488355328) := by show _ ≤ _; have := HK24.out; have := HFL.out; omega
                      clear hix hwt hwn hv0 HFT HWW hb7 hx7 hf7
                      go_wp2_with fail
                      with_reducible refine (VA.out _).mono ?_
                      rintro e w2 ⟨rfl, rfl⟩
                      go_wp2_with ((with_reducible refine wpL_pushKS (k := 3) (by decide) w30.heap.size (.slice a6' F.length c6') F.length (tris F) ⟨U.heap.size, 0, none⟩ 1 [.int .i64 t.1, .int .i64 t.2.1, .int .i64 t.2.2] info_and Try.underlying24 rfl ?_ ?_ ?_ rfl HF7.out ?_ HZ7.out HN24.out ?_ ?_); rfl; rfl; (intro u hu; simp only [List.mem_cons, List.not_mem_nil, or_false] at hu; rcases hu with rfl | rfl | rfl <;> rfl); (intro j y hy; rw [Addr.add_lit, Nat.zero_add]; exact HX7.out.at' j y hy); (have := HN24.out; omega); (intro a8 c8 w8 hown8 hg8; have bx8 := box_grown HXW7.out hg8 (own_block HF7.out HL30.out); have n8 := bx8.at' 6 _ rfl; have f8 := bx8.fz 6; have HX8 := Lib.hid (bx8.set 6 (.slice a8 (F.length + 1) c8)); have HO8 := Lib.hid ((HO7.out.grown hg8 (fun q hq => (HF7.out.lt q hq).1)).set 6 (.slice a8 (F.length + 1) c8)); have HF8 := Lib.hid (ownsRow_setCell_below hown8 (a := ⟨w5.heap.size, 6, none⟩) HL30.out (.slice a8 (F.length + 1) c8)); clear bx8 hown8 hg8))
                      go_wp2_with fail
                      go_roundw
                      case rel => exact ⟨k + 1, a8, c8, by omega, by go_num, by rw [HFT2.out, List.length_append]; exact HX8.out, by rw [HFT2.out, List.length_append, HFX.out]; exact HF8.out, HO8.out⟩
                      case measure => simp [intOf]; omega
                    · have hix : SetI.inX vs (var t.1) = false := by
                        rw [Bool.eq_false_iff]
                        exact fun e => hwn ((HVS.out _).1 (SetI.inX_iff.1 e)).2
                      have hwt : ¬ wants x t = true := by rw [HWW.out, tt_neg hwn]; decide
                      have HFT2 := Lib.hid HFT.out
                      rw [if_neg hwt, List.append_nil] at HFT2
                      rw [hix] at hl
                      clear hix hwt hwn hv0 HFT HWW
                      go_wp2_with fail
                      with_reducible refine (VA.out _).mono ?_
                      rintro e w2 ⟨rfl, rfl⟩
                      go_wp2_with fail
                      go_roundw
                      case rel => exact ⟨k + 1, a6', c6', by omega, by go_num, by rw [HFT2.out]; exact HXU.out, by rw [HFT2.out]; exact HFU.out, HOU.out⟩
                      case measure => simp [intOf]; omega
                  · have hke2 : k = (stOf x).K.length := by omega
                    obtain ⟨w31, hw31⟩ : ∃ U : World, U = wr := ⟨_, rfl⟩
                    subst hw31
                    have hE : ((stOf x).K.take k).filter (wants x) = (hashed x).ands := by rw [hke2, List.take_length]; rfl
                    rw [hE] at hX hF
                    obtain ⟨F, hFe⟩ : ∃ F, (hashed x).ands = F := ⟨_, rfl⟩
                    have HHX : Hid (hashed x = { mid x with ands := F }) := by show _ = _; rw [← hFe]; rfl
                    rw [hFe] at hX hF
                    have hba31 := hO.out.base HBA30.out HBA30.out.size HL5.out
                    obtain ⟨r0, r1, r2, r3, r4, r5, r6, r7⟩ := box8S hX.out
                    obtain ⟨s0, s1, s2, s3, s4, s5, s6, s7⟩ := box8S (HX2R.out.next hba31 HX2R.out.lt)
                    have y0 := (HX2R.out.next hba31 HX2R.out.lt).fz 0
                    have y1 := (HX2R.out.next hba31 HX2R.out.lt).fz 1
                    have y2 := (HX2R.out.next hba31 HX2R.out.lt).fz 2
                    have y3 := (HX2R.out.next hba31 HX2R.out.lt).fz 3
                    have y4 := (HX2R.out.next hba31 HX2R.out.lt).fz 4
                    have y5 := (HX2R.out.next hba31 HX2R.out.lt).fz 5
                    have y6 := (HX2R.out.next hba31 HX2R.out.lt).fz 6
                    have y7 := (HX2R.out.next hba31 HX2R.out.lt).fz 7
                    have HBA31 := Lib.hid hba31
                    clear hba31 hke2 hE hFe
                    go_wp2_with fail
                    refine bodyPost_ret (v := .tuple #[.agg #[.int .i64 x.max, .slice b1 x.ins.length d1, .slice b2 x.lats.length d2, .slice m3 x.outs.length q3, .slice m4 x.bads.length q4, .slice m5 x.invs.length q5, .slice a6' F.length c6', .slice b7 x.names.length d7], .int .i64 0]) (by simp [results, Try.results7, go_sem, s0, s1, s2, s3, s4, s5, s6, s7]) rfl ?_
                    refine ⟨⟨b1, d1, b2, d2, m3, q3, m4, q4, m5, q5, a6', c6', b7, d7⟩, ?_, ?_, ?_⟩
                    · rw [HHX.out]
                      simp only [cells, mid, List.length_map]
                    · rw [HHX.out]
                      have l1 := HX2R.out.lt
                      have l2 := HBB.out.size
                      have l3 := HL22.out
                      have l4 := HBA30.out.size
                      have l5 := HLT5.out
                      have l6 := HL5.out
                      have ob : OffB W1.heap.size w31 _ := ((((((((OffB.refl W1.heap.size w31).set 0 (.int .i64 x.max)).set 1 (.slice b1 x.ins.length d1)).set 2 (.slice b2 x.lats.length d2)).set 3 (.slice m3 x.outs.length q3)).set 4 (.slice m4 x.bads.length q4)).set 5 (.slice m5 x.invs.length q5)).set 6 (.slice a6' F.length c6')).set 7 (.slice b7 x.names.length d7)
                      exact mid_in (ob.own (hO.out.own HQ1.out HNI.out) (own_not' HQ1.out l1)) (ob.own (hO.out.own HQ2.out HNL.out) (own_not' HQ2.out l1)) (ob.own (hO.out.own HQ3.out (own_not' P3.out HLT5.out)) (own_not' HQ3.out (by omega))) (ob.own (hO.out.own HQ4.out (own_not' P4.out HLT5.out)) (own_not' HQ4.out (by omega))) (ob.own (hO.out.own HQ5.out (own_not' P5.out HLT5.out)) (own_not' HQ5.out (by omega))) F (ob.own hF.out (own_not' hF.out (by omega))) (ob.own (hO.out.own HQ7.out HNN.out) (own_not' HQ7.out l1))
                    · have ob : OffB W1.heap.size w31 _ := ((((((((OffB.refl W1.heap.size w31).set 0 (.int .i64 x.max)).set 1 (.slice b1 x.ins.length d1)).set 2 (.slice b2 x.lats.length d2)).set 3 (.slice m3 x.outs.length q3)).set 4 (.slice m4 x.bads.length q4)).set 5 (.slice m5 x.invs.length q5)).set 6 (.slice a6' F.length c6')).set 7 (.slice b7 x.names.length d7)
                      have hb := HB4.out.trans (HBA31.out.mono HB4.out.size)
                      exact ob.base hb hb.size HW1.out
end StrashP
end Go.Proofs.Ythdhlkcdbogcaaa

/-
  strash.Hash of a circuit that may not be.
-/
namespace Go.Proofs.Ythdhlkcdbogcaaa
open Go.RowKit Base
set_option linter.unusedVariables false
set_option linter.unusedSimpArgs false
namespace StrashP
open Circuit GetI

set_option maxRecDepth 8000 in
set_option maxHeartbeats 2000000 in
theorem hash_no (w : World) (x : Circ) (p : At) (hin : InCirc w x p) (hw : WfC x) (hno : ¬ CheckOk x) :
    Calls Try.prog 7 #[.agg (cells x p)] w fun e w' => e = .returned (.tuple #[.agg #[.int .i64 0, .slice none 0 0, .slice none 0 0, .slice none 0 0, .slice none 0 0, .slice none 0 0, .slice none 0 0, .slice none 0 0], .int .i64 9]) ∧ Below w.heap.size w w' := by
  obtain ⟨W1, hW1⟩ : ∃ U, w.alloc (.cells (cells x p) 27) = U := ⟨_, rfl⟩
  obtain ⟨W2, hW2⟩ : ∃ U, W1.alloc (.cells #[.int .i64 0, .slice none 0 0, .slice none 0 0, .slice none 0 0, .slice none 0 0, .slice none 0 0, .slice none 0 0, .slice none 0 0] 27) = U := ⟨_, rfl⟩
  have b1 : Below w.heap.size w W1 := by rw [← hW1]; exact (Below.refl _ _).alloc (Nat.le_refl _) _
  have b2 : Below W1.heap.size W1 W2 := by rw [← hW2]; exact (Below.refl _ _).alloc (Nat.le_refl _) _
  have b12 := b1.trans (b2.mono b1.size)
  have x1 : BoxN w.heap.size (cells x p).toList W2 := by
    have h := BoxN.new w (cells x p) 27
    rw [hW1] at h
    exact h.next b2 h.lt
  have x2 : BoxN W1.heap.size [.int .i64 0, .slice none 0 0, .slice none 0 0, .slice none 0 0, .slice none 0 0, .slice none 0 0, .slice none 0 0, .slice none 0 0] W2 := by
    have h := BoxN.new W1 #[.int .i64 0, .slice none 0 0, .slice none 0 0, .slice none 0 0, .slice none 0 0, .slice none 0 0, .slice none 0 0, .slice none 0 0] 27
    rw [hW2] at h
    exact h
  have hc := check_any W2 x p (hin.next b12) hw.ins hw.outs hw.bads hw.invs hw.lats hw.ands hw.mx
  rw [chk_neg hno] at hc
  have HC := Lib.hid hc
  have HX1 := Lib.hid x1
  have HX2 := Lib.hid x2
  have HW1 : Hid (w.heap.size ≤ W1.heap.size) := b1.size
  have HB2 := Lib.hid b12
  obtain ⟨a1, c1, a2, c2, a3, c3, a4, c4, a5, c5, a6, c6, a7, c7⟩ := p
  simp only [cells] at *
  obtain ⟨n0, n1, n2, n3, n4, n5, n6, n7⟩ := box8S HX1.out
  clear hin hw hno x1 x2 b1 b2 b12 hc
  go_enter Try.func7, Try.ntmps7
  go_wp2_with fail
  clear hW1 hW2 n0 n1 n2 n3 n4 n5 n6 n7
  with_reducible refine HC.out.mono ?_
  rintro e w3 ⟨rfl, hb3⟩
  have hx3 := HX2.out.next hb3 HX2.out.lt
  obtain ⟨s0, s1, s2, s3, s4, s5, s6, s7⟩ := box8S hx3
  have y0 := hx3.fz 0
  have y1 := hx3.fz 1
  have y2 := hx3.fz 2
  have y3 := hx3.fz 3
  have y4 := hx3.fz 4
  have y5 := hx3.fz 5
  have y6 := hx3.fz 6
  have y7 := hx3.fz 7
  have HB3 := Lib.hid (HB2.out.trans (hb3.mono HB2.out.size))
  clear hx3 hb3
  go_wp2_with fail
  refine bodyPost_ret (v := .tuple #[.agg #[.int .i64 0, .slice none 0 0, .slice none 0 0, .slice none 0 0, .slice none 0 0, .slice none 0 0, .slice none 0 0, .slice none 0 0], .int .i64 9]) (by simp [results, Try.results7, go_sem, s0, s1, s2, s3, s4, s5, s6, s7]) rfl ?_
  refine ⟨rfl, ?_⟩
  have ob : OffB W1.heap.size w3 _ := ((((((((OffB.refl W1.heap.size w3).set 0 (.int .i64 0)).set 1 (.slice none 0 0)).set 2 (.slice none 0 0)).set 3 (.slice none 0 0)).set 4 (.slice none 0 0)).set 5 (.slice none 0 0)).set 6 (.slice none 0 0)).set 7 (.slice none 0 0)
  exact ob.base HB3.out HB3.out.size HW1.out
end StrashP
end Go.Proofs.Ythdhlkcdbogcaaa

/-
  Plain: a circuit that may be, with names that are read, is of integers; it, hashed, is no longer.
-/
namespace Go.Proofs.Ythdhlkcdbogcaaa
open Go.RowKit Base
set_option linter.unusedVariables false
set_option linter.unusedSimpArgs false
namespace StrashP
open Circuit GetI

theorem known_64 {y : Circ} (h : CheckOk y) {l : Int} (hk : knownV (vsOf y) l) : I64 l := by
  obtain ⟨h0, h1⟩ := hk
  have hm := h.1.2.1
  rcases h1 with h1 | h1
  · unfold I64; omega
  · unfold vsOf at h1
    obtain ⟨m, hm2, he⟩ := List.mem_map.1 h1
    have := ((ownOk_iff.1 h.2.1.1).1 m hm2).2.2
    rw [he] at this
    unfold I64; unfold var at this; omega
theorem own_64 {y : Circ} (h : CheckOk y) {m : Int} (hm : m ∈ ownL y) : I64 m := by
  have h1 := ((ownOk_iff.1 h.2.1.1).1 m hm)
  have h2 := h.1.2.1
  obtain ⟨g1, _, g3⟩ := h1
  unfold I64; unfold var at g3; omega
theorem ok_wf {y : Circ} (h : CheckOk y) (hn : ∀ t ∈ y.names, I64 t.2.1) : WfC y := by
  have hl : ∀ t ∈ y.lats, I64 t.1 := fun t ht => own_64 h (by unfold ownL; exact List.mem_append_left _ (List.mem_append_right _ (List.mem_map.2 ⟨t, ht, rfl⟩)))
  have ha : ∀ t ∈ y.ands, I64 t.1 := fun t ht => own_64 h (by unfold ownL; exact List.mem_append_right _ (List.mem_map.2 ⟨t, ht, rfl⟩))
  refine ⟨by have h1 := h.1.1; have h2 := h.1.2.1; unfold I64; omega, fun l hl' => own_64 h (by unfold ownL; exact List.mem_append_left _ (List.mem_append_left _ hl')), fun t ht => ⟨hl t ht, known_64 h (h.2.2.1 t ht), ?_⟩, fun l hl' => known_64 h (h.2.2.2.2.1 l hl'), fun l hl' => known_64 h (h.2.2.2.2.2.1 l hl'), fun l hl' => known_64 h (h.2.2.2.2.2.2.1 l hl'), fun t ht => ⟨ha t ht, known_64 h (h.2.2.2.1 t ht).1, known_64 h (h.2.2.2.1 t ht).2.1⟩, hn⟩
  have h1 := hl t ht
  rcases h.2.1.2.1 t ht with e | e | e
  · rw [e]; unfold I64; omega
  · rw [e]; unfold I64; omega
  · rw [e]; exact h1
theorem hashed_wf {x : Circ} (h : CheckOk x) (hw : WfC x) : WfC (hashed x) := ok_wf (hashed_ok h) hw.names
theorem hashed_fits {x : Circ} (h : CheckOk x) (hf : Fits x) : Fits (hashed x) := by
  obtain ⟨_, _, f2, f3, f4, f5, f6⟩ := (hashed_ok h).1
  have hle := f_few h
  have h6 := hf.ands
  exact ⟨by omega, by omega, by omega, by omega, by omega, by omega, hf.names⟩

theorem num_any (w : World) (n : Int) : Calls Try.prog 8 #[.int .i64 n] w fun e w' => e = .returned (.int .i64 n) ∧ w = w' := by
  go_enter Try.func8, Try.ntmps8
  go_wp2
  go_ret
  exact ⟨rfl, rfl⟩

/-- The empty circuit. -/
def noC : Circ := ⟨0, [], [], [], [], [], [], []⟩
def noA : At := ⟨none, 0, none, 0, none, 0, none, 0, none, 0, none, 0, none, 0⟩
theorem noC_cells : cells noC noA = #[.int .i64 0, .slice none 0 0, .slice none 0 0, .slice none 0 0, .slice none 0 0, .slice none 0 0, .slice none 0 0, .slice none 0 0] := rfl
theorem slT_none (w : World) (k : Nat) : SlT w k none 0 0 [] := ⟨rfl, Nat.le_refl _, by omega, fun _ => ⟨rfl, rfl⟩, fun i r h => by simp at h⟩
theorem noC_in (w : World) : InCirc w noC noA := ⟨Sl.nil w, slT_none w 3, Sl.nil w, Sl.nil w, Sl.nil w, slT_none w 3, slT_none w 3⟩
end StrashP
end Go.Proofs.Ythdhlkcdbogcaaa

/-
  interlocklaw06.StrashSame: the walk.
-/
namespace Go.Proofs.Ythdhlkcdbogcaaa.strashSame
open Go.RowKit Base Circuit GetI StrashP
set_option linter.unusedVariables false
set_option linter.unusedSimpArgs false

abbrev C8 (N : Nat) (x : Circ) (p : At) (w' : World) : Prop := w'.cell? ⟨N, 0, none⟩ = some (.int .i64 x.max) ∧ w'.cell? ⟨N, 1, none⟩ = some (.slice p.a1 x.ins.length p.c1) ∧ w'.cell? ⟨N, 2, none⟩ = some (.slice p.a2 x.lats.length p.c2) ∧ w'.cell? ⟨N, 3, none⟩ = some (.slice p.a3 x.outs.length p.c3) ∧ w'.cell? ⟨N, 4, none⟩ = some (.slice p.a4 x.bads.length p.c4) ∧ w'.cell? ⟨N, 5, none⟩ = some (.slice p.a5 x.invs.length p.c5) ∧ w'.cell? ⟨N, 6, none⟩ = some (.slice p.a6 x.ands.length p.c6) ∧ w'.cell? ⟨N, 7, none⟩ = some (.slice p.a7 x.names.length p.c7)
theorem c8 {N : Nat} {x : Circ} {p : At} {w' : World} (h : CBox N x p w') : C8 N x p w' := ⟨h.k0, h.k1, h.k2, h.k3, h.k4, h.k5, h.k6, h.k7⟩
theorem call_keep {P : Program} {f : FuncId} {args : Array Value} {v : Value} {S : World → Prop} (hc : ∀ U, S U → Calls P f args U fun e U' => e = .returned v ∧ Below U.heap.size U U') (hs : ∀ U U', S U → Below U.heap.size U U' → S U') :
    ∀ U, S U → Calls P f args U fun e U' => e = .returned v ∧ S U' := fun U hU => (hc U hU).mono fun e U' h => ⟨h.1, hs U U' hU h.2⟩
structure LH (wq : World) (N : Nat) (x : Circ) (p : At) (U : World) : Prop where
  below : Below wq.heap.size wq U
  b : CBox N x p U
theorem LH.more {wq : World} {N : Nat} {x : Circ} {p : At} {U U' : World} (h : LH wq N x p U) (hb : Below U.heap.size U U') : LH wq N x p U' := ⟨h.below.trans (hb.mono h.below.size), h.b.next hb (Nat.le_refl _)⟩
abbrev LAll (wq : World) (N : Nat) (x : Circ) (p : At) (U : World) : Prop := LH wq N x p U ∧ C8 N x p U
theorem lh_all {wq : World} {N : Nat} {x : Circ} {p : At} {U : World} (h : LH wq N x p U) : LAll wq N x p U := ⟨h, c8 h.b⟩
theorem bit_n (w : World) (g n : Nat) (vs : List Bool) (hl : vs.length = n) (hs : Sl w (some ⟨g, 0, none⟩) n n (bools vs)) (l : Int) (h0 : 0 ≤ l) (h1 : l ≤ 9223372036854775807) :
    Calls Try.prog 12 #[.slice (some ⟨g, 0, none⟩) n n, .int .i64 l] w fun e w' => e = .returned (.bool (bitL vs l)) ∧ ∃ q, w' = w.drewN q := by
  subst hl
  exact bit_any w _ _ vs hs l h0 h1
theorem _root_.Go.Proofs.Ythdhlkcdbogcaaa.Base.Sl.int' {w : World} {a : Option Addr} {n c : Nat} {xs : List Int} (h : Sl w a n c (ints xs)) {k : Nat} (hk : k < n) :
    ∃ b o, ∃ hx : k < xs.length, a = some ⟨b, o, none⟩ ∧ b < w.heap.size ∧ w.cell? ⟨b, o + k, none⟩ = some (.int .i64 xs[k]) := h.int hk
theorem two_boxesS (w : World) (cs1 cs2 : Array Value) (t1 t2 : TypeId) : BoxN w.heap.size cs1.toList ((w.alloc (.cells cs1 t1)).alloc (.cells cs2 t2)).drew ∧ BoxN (w.heap.size + 1) cs2.toList ((w.alloc (.cells cs1 t1)).alloc (.cells cs2 t2)).drew ∧ Below w.heap.size w ((w.alloc (.cells cs1 t1)).alloc (.cells cs2 t2)).drew := by
  have h1 := BoxN.new w cs1 t1
  have hz : (w.alloc (.cells cs1 t1)).heap.size = w.heap.size + 1 := by simp
  have b1 : Below w.heap.size w (w.alloc (.cells cs1 t1)) := (Below.refl _ _).alloc (Nat.le_refl _) _
  have b2 : Below (w.alloc (.cells cs1 t1)).heap.size (w.alloc (.cells cs1 t1)) ((w.alloc (.cells cs1 t1)).alloc (.cells cs2 t2)) := (Below.refl _ _).alloc (Nat.le_refl _) _
  have h2 := BoxN.new (w.alloc (.cells cs1 t1)) cs2 t2
  rw [hz] at h2
  exact ⟨h1.next b2.drew h1.lt, h2.next (Below.refl _ _).drew h2.lt, (b1.trans (b2.mono b1.size)).drew⟩

/-- What a list's literals became. -/
def To (vx vy : List Bool) (l u : Int) : Prop := (0 ≤ l ∧ l ≤ 9223372036854775807) ∧ (0 ≤ u ∧ u ≤ 9223372036854775807) ∧ bitL vy u = bitL vx l
theorem to_told {x : Circ} (h : CheckOk x) (hw : WfC x) (bits : Nat) {m : Int} (hm : m ∈ told x) : To (valsL x bits) (valsL (hashed x) bits) m (litS (stOf x).S m) := by
  have h2 := lit_told hm
  have h3 : litS (stOf x).S m ∈ told (hashed x) := h2
  exact ⟨told_bounds h hw hm, told_bounds (hashed_ok h) (hashed_wf h hw) h3, told_same h bits hm⟩
theorem to_lats {x : Circ} (h : CheckOk x) (hw : WfC x) (bits : Nat) (k : Nat) (t : Tri) (ht : x.lats[k]? = some t) : ∃ u, (hashed x).lats[k]? = some (t.1, u, t.2.2) ∧ To (valsL x bits) (valsL (hashed x) bits) t.2.1 u := by
  refine ⟨litS (stOf x).S t.2.1, ?_, to_told h hw bits ?_⟩
  · show (x.lats.map _)[k]? = _
    rw [List.getElem?_map, ht]; rfl
  · unfold told
    simp only [List.mem_append]
    exact Or.inl (Or.inl (Or.inl (List.mem_map.2 ⟨t, List.mem_of_getElem? ht, rfl⟩)))
theorem to_outs {x : Circ} (h : CheckOk x) (hw : WfC x) (bits : Nat) (k : Nat) (t : Int) (ht : x.outs[k]? = some t) : ∃ u, (hashed x).outs[k]? = some u ∧ To (valsL x bits) (valsL (hashed x) bits) t u := by
  refine ⟨litS (stOf x).S t, ?_, to_told h hw bits ?_⟩
  · show (x.outs.map _)[k]? = _
    rw [List.getElem?_map, ht]; rfl
  · unfold told
    simp only [List.mem_append]
    exact Or.inl (Or.inl (Or.inr (List.mem_of_getElem? ht)))
theorem to_bads {x : Circ} (h : CheckOk x) (hw : WfC x) (bits : Nat) (k : Nat) (t : Int) (ht : x.bads[k]? = some t) : ∃ u, (hashed x).bads[k]? = some u ∧ To (valsL x bits) (valsL (hashed x) bits) t u := by
  refine ⟨litS (stOf x).S t, ?_, to_told h hw bits ?_⟩
  · show (x.bads.map _)[k]? = _
    rw [List.getElem?_map, ht]; rfl
  · unfold told
    simp only [List.mem_append]
    exact Or.inl (Or.inr (List.mem_of_getElem? ht))
theorem to_invs {x : Circ} (h : CheckOk x) (hw : WfC x) (bits : Nat) (k : Nat) (t : Int) (ht : x.invs[k]? = some t) : ∃ u, (hashed x).invs[k]? = some u ∧ To (valsL x bits) (valsL (hashed x) bits) t u := by
  refine ⟨litS (stOf x).S t, ?_, to_told h hw bits ?_⟩
  · show (x.invs.map _)[k]? = _
    rw [List.getElem?_map, ht]; rfl
  · unfold told
    simp only [List.mem_append]
    exact Or.inr (List.mem_of_getElem? ht)
theorem vals_len {x : Circ} (bits : Nat) : (valsL x bits).length = (x.max + 1).toNat := by
  unfold valsL baseL
  rw [fold_len, base_len, List.length_replicate]

set_option maxRecDepth 8000 in
set_option maxHeartbeats 4000000 in
theorem walk_no (x : Circ) (p : At) (bits : Nat) (hbits : bits < 18446744073709551616) {W : World} (hin : InCirc W x p) (hw : WfC x) (hza : x.ands.length * 24 ≤ 140737488355328) (hno : ¬ CheckOk x) :
    Calls Try.prog 3 #[.agg (cells x p), .int .u64 bits] W fun e W' => e = .returned (.bool true) ∧ Below W.heap.size W W' := by
  obtain ⟨W1, hW1⟩ : ∃ W1, W.alloc (.cells (cells x p) 27) = W1 := ⟨_, rfl⟩
  obtain ⟨hb1, hc1⟩ := cbox_new W x p W1 hW1
  have HB1 := Lib.hid hb1
  have HC1 := Lib.hid hc1
  have HAL := Lib.hid (alive_any W1)
  have HH := Lib.hid (hash_no W1 x p (hin.next hb1) hw hno)
  have HRC := fun (U : World) (hU : Below W1.heap.size W1 U) => refCheck_any U x p ((hin.next hb1).next hU) hw hza
  rw [refchk_eq, chk_neg hno] at HRC
  have HSM := Lib.hid (fun U => refSame_any U noC noA noA (noC_in U) (noC_in U))
  rw [noC_cells] at HSM
  have k0 := hc1.k0
  have k1 := hc1.k1
  have k2 := hc1.k2
  have k3 := hc1.k3
  have k4 := hc1.k4
  have k5 := hc1.k5
  have k6 := hc1.k6
  have k7 := hc1.k7
  obtain ⟨a1, c1, a2, c2, a3, c3, a4, c4, a5, c5, a6, c6, a7, c7⟩ := p
  simp only [cells] at *
  have HRR := Lib.hid HRC
  clear hin hw hno hb1 hc1 HRC hza
  go_enter Try.func3, Try.ntmps3
  go_wp2_with fail
  with_reducible refine HAL.out.mono ?_
  rintro e w2 ⟨rfl, rfl⟩
  go_wp2_with fail
  with_reducible refine HH.out.mono ?_
  rintro e w3 ⟨rfl, hb3⟩
  go_wp2_with fail
  generalize hW4 : w3.alloc (.cells #[.int .i64 0, .slice none 0 0, .slice none 0 0, .slice none 0 0, .slice none 0 0, .slice none 0 0, .slice none 0 0, .slice none 0 0] 27) = W4
  have hb4 : Below w3.heap.size w3 W4 := by rw [← hW4]; exact (Below.refl _ _).alloc (Nat.le_refl _) _
  have hx4 : CBox w3.heap.size noC noA W4 := (cbox_new w3 noC noA W4 (by rw [noC_cells]; exact hW4)).2
  have hb34 := hb3.trans (hb4.mono hb3.size)
  have HB4 := Lib.hid hb34
  have hc4 := HC1.out.next hb34 (Nat.le_refl _)
  have hf0 : LH W4 W.heap.size x ⟨a1, c1, a2, c2, a3, c3, a4, c4, a5, c5, a6, c6, a7, c7⟩ W4.drew := (⟨Below.refl _ _, hc4⟩ : LH W4 W.heap.size x ⟨a1, c1, a2, c2, a3, c3, a4, c4, a5, c5, a6, c6, a7, c7⟩ W4).more (Below.refl _ _).drew
  have HF := lh_all hf0
  have C8' := call_keep (S := fun U => LAll W4 W.heap.size x ⟨a1, c1, a2, c2, a3, c3, a4, c4, a5, c5, a6, c6, a7, c7⟩ U) (fun U hU => (num_any U 9).mono fun e U' h => ⟨h.1, h.2 ▸ Below.refl _ _⟩) (fun U U' h hb => lh_all (h.1.more hb))
  have C8 := Lib.hid C8'
  clear C8'
  have C9' := call_keep (S := fun U => LAll W4 W.heap.size x ⟨a1, c1, a2, c2, a3, c3, a4, c4, a5, c5, a6, c6, a7, c7⟩ U) (fun U hU => HRR.out U (HB4.out.trans (hU.1.below.mono HB4.out.size))) (fun U U' h hb => lh_all (h.1.more hb))
  have C9 := Lib.hid C9'
  clear C9'
  have HX4 := Lib.hid hx4
  clear hb3 hb4 hb34 hf0 hx4 k0 k1 k2 k3 k4 k5 k6 k7 hW1
  refine Lex.region (fun w' => LAll W4 W.heap.size x ⟨a1, c1, a2, c2, a3, c3, a4, c4, a5, c5, a6, c6, a7, c7⟩ w') (by kernel_rfl) (by kernel_rfl) HF ?_
  (refine Lex.step_val (v := ?_) ?_ (fun w' hSw => ?_) ?_; rotate_left; (focus rfl); (focus (clear hSw; go_simp; (try with_reducible rfl); done)); (try simp only [Act.put, List.setIfInBounds_toArray, List.set_cons_zero, List.set_cons_succ]))
  (refine Lex.step_call (v := ?_) (f := ?_) (args := ?_) ?_ (fun w' hSw => ?_) ?_ ?_; rotate_left 3; (focus rfl); (focus (clear hSw; go_simp; (refine And.intro ?_ ?_ <;> with_reducible rfl); done)); (focus (first | with_reducible exact C8.out | with_reducible exact C9.out)); (try simp only [Act.put, List.setIfInBounds_toArray, List.set_cons_zero, List.set_cons_succ]))
  (refine Lex.step_val (v := ?_) ?_ (fun w' hSw => ?_) ?_; rotate_left; (focus rfl); (focus ((try dsimp only at hSw); go_simp; (try with_reducible rfl); done)); (try simp only [Act.put, List.setIfInBounds_toArray, List.set_cons_zero, List.set_cons_succ]))
  (refine Lex.step_call (v := ?_) (f := ?_) (args := ?_) ?_ (fun w' hSw => ?_) ?_ ?_; rotate_left 3; (focus rfl); (focus (clear hSw; go_simp; (refine And.intro ?_ ?_ <;> with_reducible rfl); done)); (focus (first | with_reducible exact C8.out | with_reducible exact C9.out)); (try simp only [Act.put, List.setIfInBounds_toArray, List.set_cons_zero, List.set_cons_succ]))
  (refine Lex.step_val (v := ?_) ?_ (fun w' hSw => ?_) ?_; rotate_left; (focus rfl); (focus (clear hSw; go_simp; (try with_reducible rfl); done)); (try simp only [Act.put, List.setIfInBounds_toArray, List.set_cons_zero, List.set_cons_succ]))
  refine Lex.step_nil ?_
  intro wz hz
  have HBZ := Lib.hid hz.1.below
  have m := HX4.out.next hz.1.below (Nat.le_refl _)
  have m0 := m.k0
  have m1 := m.k1
  have m2 := m.k2
  have m3 := m.k3
  have m4 := m.k4
  have m5 := m.k5
  have m6 := m.k6
  have m7 := m.k7
  clear hz m HF hc4 hW4
  simp only [noC, noA, List.length_nil] at m0 m1 m2 m3 m4 m5 m6 m7
  go_wp2_with fail
  with_reducible refine (num_any _ _).mono ?_
  rintro e w5 ⟨rfl, rfl⟩
  go_wp2_with fail
  with_reducible refine (HSM.out _).mono ?_
  rintro e w6 ⟨rfl, hb6⟩
  go_wp2_with fail
  go_ret
  exact ⟨rfl, HB1.out.trans ((HB4.out.trans ((HBZ.out.trans (hb6.mono HBZ.out.size)).mono HB4.out.size)).mono HB1.out.size)⟩

set_option maxRecDepth 8000 in
set_option maxHeartbeats 4000000 in
theorem walk_ok (x : Circ) (p : At) (bits : Nat) (hbits : bits < 18446744073709551616) {W : World} (hin : InCirc W x p) (hw : WfC x) (hza : x.ands.length * 24 ≤ 140737488355328) (hfit : Fits x) (hok : CheckOk x) :
    Calls Try.prog 3 #[.agg (cells x p), .int .u64 bits] W fun e W' => e = .returned (.bool true) ∧ Below W.heap.size W W' := by
  obtain ⟨W1, hW1⟩ : ∃ W1, W.alloc (.cells (cells x p) 27) = W1 := ⟨_, rfl⟩
  obtain ⟨hb1, hc1⟩ := cbox_new W x p W1 hW1
  have HB1 := Lib.hid hb1
  have HC1 := Lib.hid hc1
  have HAL := Lib.hid (alive_any W1)
  have HH := Lib.hid (hash_ok W1 x p (hin.next hb1) hw hfit hok)
  have HRC := fun (U : World) (hU : Below W1.heap.size W1 U) => refCheck_any U x p ((hin.next hb1).next hU) hw hza
  rw [refchk_eq, chk_pos hok] at HRC
  have hyok := hashed_ok hok
  have hywf := hashed_wf hok hw
  have hyft := hashed_fits hok hfit
  have l2 : (hashed x).lats.length = x.lats.length := List.length_map ..
  have l3 : (hashed x).outs.length = x.outs.length := List.length_map ..
  have l4 : (hashed x).bads.length = x.bads.length := List.length_map ..
  have l5 : (hashed x).invs.length = x.invs.length := List.length_map ..
  have HT2 := Lib.hid (to_lats hok hw bits)
  have HT3 := Lib.hid (to_outs hok hw bits)
  have HT4 := Lib.hid (to_bads hok hw bits)
  have HT5 := Lib.hid (to_invs hok hw bits)
  have HVY := fun (U : World) (q : At) (hq : InCirc U (hashed x) q) => values_any U (hashed x) q hq hyok bits hbits
  have hym : (hashed x).max = x.max := rfl
  have hlx := vals_len (x := x) bits
  have hly : (valsL (hashed x) bits).length = (x.max + 1).toNat := vals_len (x := hashed x) bits
  have HVX := fun (U : World) (hU : Below W1.heap.size W1 U) => values_any U x p ((hin.next hb1).next hU) hok bits hbits
  rw [hym] at HVY
  generalize hashed x = y at *
  generalize valsL x bits = vx at *
  generalize valsL y bits = vy at *
  generalize (x.max + 1).toNat = n at *
  have HLX := Lib.hid hlx
  have HLY := Lib.hid hly
  have L2 := Lib.hid l2
  have L3 := Lib.hid l3
  have L4 := Lib.hid l4
  have L5 := Lib.hid l5
  have HYV := Lib.hid HVY
  have HYOK := Lib.hid hyok
  have HYWF := Lib.hid hywf
  have HYFT := Lib.hid hyft
  have HFEW := Lib.hid hok.1
  have HIN := Lib.hid (fun (U : World) (hU : Below W1.heap.size W1 U) => (hin.next hb1).next hU)
  have HCX := Lib.hid (fun (U : World) (hU : Below W1.heap.size W1 U) => hc1.next hU (Nat.le_refl _))
  have k0 := hc1.k0
  have k1 := hc1.k1
  have k2 := hc1.k2
  have k3 := hc1.k3
  have k4 := hc1.k4
  have k5 := hc1.k5
  have k6 := hc1.k6
  have k7 := hc1.k7
  obtain ⟨a1, c1, a2, c2, a3, c3, a4, c4, a5, c5, a6, c6, a7, c7⟩ := p
  simp only [cells] at *
  have HRR := Lib.hid HRC
  have HXV := Lib.hid HVX
  clear hin hw hok hfit hza hb1 hc1 HRC HVX hyok hywf hyft HVY hym l2 l3 l4 l5 hlx hly hbits
  go_enter Try.func3, Try.ntmps3
  go_wp2_with fail
  with_reducible refine HAL.out.mono ?_
  rintro e w2 ⟨rfl, rfl⟩
  go_wp2_with fail
  with_reducible refine HH.out.mono ?_
  rintro e w3 ⟨p', rfl, hin3, hb3⟩
  obtain ⟨W4, hW4⟩ : ∃ U, w3.alloc (.cells (cells y p') 27) = U := ⟨_, rfl⟩
  obtain ⟨hb4, hc4⟩ := cbox_new w3 y p' W4 hW4
  have hb34 := hb3.trans (hb4.mono hb3.size)
  have HB4 := Lib.hid hb34
  have hx4 := HCX.out W4 hb34
  have HX4 := Lib.hid hx4
  have HYIN := Lib.hid (fun (U : World) (hU : Below W4.heap.size W4 U) => (hin3.next hb4).next hU)
  have HYC := Lib.hid (fun (U : World) (hU : Below W4.heap.size W4 U) => hc4.next hU (Nat.le_refl _))
  have HRY := fun (U : World) (hU : Below W4.heap.size W4 U) => refCheck_any U y p' (HYIN.out U hU) HYWF.out HYFT.out.ands
  rw [refchk_eq, chk_pos HYOK.out] at HRY
  have HVY := fun (U : World) (hU : Below W4.heap.size W4 U) => HYV.out U p' (HYIN.out U hU)
  obtain ⟨b1, d1, b2, d2, b3, d3, b4, d4, b5, d5, b6, d6, b7, d7⟩ := p'
  simp only [cells] at hW4 HRY HVY ⊢
  simp only [L2.out, L3.out, L4.out, L5.out] at hW4 HRY HVY
  have HRRY := Lib.hid HRY
  have HYYV := Lib.hid HVY
  have hf0 : LH W4 W.heap.size x ⟨a1, c1, a2, c2, a3, c3, a4, c4, a5, c5, a6, c6, a7, c7⟩ W4.drew := (⟨Below.refl _ _, hx4⟩ : LH W4 W.heap.size x ⟨a1, c1, a2, c2, a3, c3, a4, c4, a5, c5, a6, c6, a7, c7⟩ W4).more (Below.refl _ _).drew
  have HF := lh_all hf0
  have C8' := call_keep (S := fun U => LAll W4 W.heap.size x ⟨a1, c1, a2, c2, a3, c3, a4, c4, a5, c5, a6, c6, a7, c7⟩ U) (fun U hU => (num_any U 0).mono fun e U' h => ⟨h.1, h.2 ▸ Below.refl _ _⟩) (fun U U' h hb => lh_all (h.1.more hb))
  have C8 := Lib.hid C8'
  clear C8'
  have C9' := call_keep (S := fun U => LAll W4 W.heap.size x ⟨a1, c1, a2, c2, a3, c3, a4, c4, a5, c5, a6, c6, a7, c7⟩ U) (fun U hU => HRR.out U (HB4.out.trans (hU.1.below.mono HB4.out.size))) (fun U U' h hb => lh_all (h.1.more hb))
  have C9 := Lib.hid C9'
  clear C9'
  have hlt3 : w3.heap.size < W4.heap.size := hc4.lt
  have HLT3 := Lib.hid hlt3
  clear hb3 hb4 hb34 hf0 hx4 hin3 hc4 k0 k1 k2 k3 k4 k5 k6 k7 hW1 HRY HVY HYV
  simp only [L2.out, L3.out, L4.out, L5.out]
  go_wp2_with fail
  refine Lex.region (fun w' => LAll W4 W.heap.size x ⟨a1, c1, a2, c2, a3, c3, a4, c4, a5, c5, a6, c6, a7, c7⟩ w') (by kernel_rfl) (by kernel_rfl) HF ?_
  (refine Lex.step_val (v := ?_) ?_ (fun w' hSw => ?_) ?_; rotate_left; (focus rfl); (focus (clear hSw; go_simp; (try with_reducible rfl); done)); (try simp only [Act.put, List.setIfInBounds_toArray, List.set_cons_zero, List.set_cons_succ]))
  (refine Lex.step_call (v := ?_) (f := ?_) (args := ?_) ?_ (fun w' hSw => ?_) ?_ ?_; rotate_left 3; (focus rfl); (focus (clear hSw; go_simp; (refine And.intro ?_ ?_ <;> with_reducible rfl); done)); (focus (first | with_reducible exact C8.out | with_reducible exact C9.out)); (try simp only [Act.put, List.setIfInBounds_toArray, List.set_cons_zero, List.set_cons_succ]))
  (refine Lex.step_val (v := ?_) ?_ (fun w' hSw => ?_) ?_; rotate_left; (focus rfl); (focus ((try dsimp only at hSw); go_simp; (try with_reducible rfl); done)); (try simp only [Act.put, List.setIfInBounds_toArray, List.set_cons_zero, List.set_cons_succ]))
  (refine Lex.step_call (v := ?_) (f := ?_) (args := ?_) ?_ (fun w' hSw => ?_) ?_ ?_; rotate_left 3; (focus rfl); (focus (clear hSw; go_simp; (refine And.intro ?_ ?_ <;> with_reducible rfl); done)); (focus (first | with_reducible exact C8.out | with_reducible exact C9.out)); (try simp only [Act.put, List.setIfInBounds_toArray, List.set_cons_zero, List.set_cons_succ]))
  (refine Lex.step_val (v := ?_) ?_ (fun w' hSw => ?_) ?_; rotate_left; (focus rfl); (focus (clear hSw; go_simp; (try with_reducible rfl); done)); (try simp only [Act.put, List.setIfInBounds_toArray, List.set_cons_zero, List.set_cons_succ]))
  refine Lex.step_nil ?_
  intro wz hz
  have HBZ := Lib.hid hz.1.below
  have m := HYC.out wz hz.1.below
  have m0 := m.k0
  have m1 := m.k1
  have m2 := m.k2
  have m3 := m.k3
  have m4 := m.k4
  have m5 := m.k5
  have m6 := m.k6
  have m7 := m.k7
  have HRZ := Lib.hid (HRRY.out wz hz.1.below)
  clear hz m HF hW4
  simp only [L2.out, L3.out, L4.out, L5.out] at m2 m3 m4 m5
  go_wp2_with fail
  with_reducible refine (num_any _ _).mono ?_
  rintro e w5 ⟨rfl, rfl⟩
  go_wp2_with fail
  with_reducible refine HRZ.out.mono ?_
  rintro e w6 ⟨rfl, hb6⟩
  have HB6 := Lib.hid (HBZ.out.trans (hb6.mono HBZ.out.size))
  have m := HYC.out w6 HB6.out
  have r := HX4.out.next HB6.out (Nat.le_refl _)
  clear m0 m1 m2 m3 m4 m5 m6 m7
  have m0 := m.k0
  have m1 := m.k1
  have m2 := m.k2
  have m3 := m.k3
  have m4 := m.k4
  have m5 := m.k5
  have m6 := m.k6
  have m7 := m.k7
  have r2 := r.k2
  have r3 := r.k3
  have r4 := r.k4
  have r5 := r.k5
  simp only [L2.out, L3.out, L4.out, L5.out] at m2 m3 m4 m5
  clear m r hb6
  go_upto_region 10 with fail
  have hSK : ∀ V : World, Below w6.heap.size w6 V → (V.cell? ⟨W.heap.size, 0, none⟩ = some (.int .i64 x.max) ∧ V.cell? ⟨W.heap.size, 1, none⟩ = some (.slice a1 x.ins.length c1) ∧ V.cell? ⟨W.heap.size, 2, none⟩ = some (.slice a2 x.lats.length c2) ∧ V.cell? ⟨W.heap.size, 3, none⟩ = some (.slice a3 x.outs.length c3) ∧ V.cell? ⟨W.heap.size, 4, none⟩ = some (.slice a4 x.bads.length c4) ∧ V.cell? ⟨W.heap.size, 5, none⟩ = some (.slice a5 x.invs.length c5) ∧ V.cell? ⟨W.heap.size, 6, none⟩ = some (.slice a6 x.ands.length c6) ∧ V.cell? ⟨W.heap.size, 7, none⟩ = some (.slice a7 x.names.length c7)) ∧ (V.cell? ⟨w3.heap.size, 0, none⟩ = some (.int .i64 y.max) ∧ V.cell? ⟨w3.heap.size, 1, none⟩ = some (.slice b1 y.ins.length d1) ∧ V.cell? ⟨w3.heap.size, 2, none⟩ = some (.slice b2 x.lats.length d2) ∧ V.cell? ⟨w3.heap.size, 3, none⟩ = some (.slice b3 x.outs.length d3) ∧ V.cell? ⟨w3.heap.size, 4, none⟩ = some (.slice b4 x.bads.length d4) ∧ V.cell? ⟨w3.heap.size, 5, none⟩ = some (.slice b5 x.invs.length d5) ∧ V.cell? ⟨w3.heap.size, 6, none⟩ = some (.slice b6 y.ands.length d6) ∧ V.cell? ⟨w3.heap.size, 7, none⟩ = some (.slice b7 y.names.length d7)) := fun V hV => by
    have hV4 := HB6.out.trans (hV.mono HB6.out.size)
    have r := HX4.out.next hV4 (Nat.le_refl _)
    have m := HYC.out V hV4
    have m2 := m.k2
    have m3 := m.k3
    have m4 := m.k4
    have m5 := m.k5
    simp only [L2.out, L3.out, L4.out, L5.out] at m2 m3 m4 m5
    exact ⟨c8 r, m.k0, m.k1, m2, m3, m4, m5, m.k6, m.k7⟩
  have hB0 : Below w6.heap.size w6 w6.drew := (Below.refl _ _).drew
  have hS0 := hSK _ hB0
  clear m0 m1 m2 m3 m4 m5 m6 m7 r2 r3 r4 r5
  refine HeldTo.region (fun U : World => (U.cell? ⟨W.heap.size, 0, none⟩ = some (.int .i64 x.max) ∧ U.cell? ⟨W.heap.size, 1, none⟩ = some (.slice a1 x.ins.length c1) ∧ U.cell? ⟨W.heap.size, 2, none⟩ = some (.slice a2 x.lats.length c2) ∧ U.cell? ⟨W.heap.size, 3, none⟩ = some (.slice a3 x.outs.length c3) ∧ U.cell? ⟨W.heap.size, 4, none⟩ = some (.slice a4 x.bads.length c4) ∧ U.cell? ⟨W.heap.size, 5, none⟩ = some (.slice a5 x.invs.length c5) ∧ U.cell? ⟨W.heap.size, 6, none⟩ = some (.slice a6 x.ands.length c6) ∧ U.cell? ⟨W.heap.size, 7, none⟩ = some (.slice a7 x.names.length c7)) ∧ (U.cell? ⟨w3.heap.size, 0, none⟩ = some (.int .i64 y.max) ∧ U.cell? ⟨w3.heap.size, 1, none⟩ = some (.slice b1 y.ins.length d1) ∧ U.cell? ⟨w3.heap.size, 2, none⟩ = some (.slice b2 x.lats.length d2) ∧ U.cell? ⟨w3.heap.size, 3, none⟩ = some (.slice b3 x.outs.length d3) ∧ U.cell? ⟨w3.heap.size, 4, none⟩ = some (.slice b4 x.bads.length d4) ∧ U.cell? ⟨w3.heap.size, 5, none⟩ = some (.slice b5 x.invs.length d5) ∧ U.cell? ⟨w3.heap.size, 6, none⟩ = some (.slice b6 y.ands.length d6) ∧ U.cell? ⟨w3.heap.size, 7, none⟩ = some (.slice b7 y.names.length d7))) 7 (by kernel_rfl) ?_
  (refine HeldTo.take (i := 0) (oi := _) (d := some 72) (v := ?_) rfl rfl (by kernel_rfl) (by kernel_rfl) (by kernel_rfl) (by kernel_rfl) (by kernel_rfl) (by kernel_rfl) (fun _ _ _ h => h) (Or.inl ⟨by rfl, ?_⟩) hS0 ?_; rotate_left; (focus (intro w hSw; (try dsimp only at hSw); go_simp; (try with_reducible rfl); done)); (try simp only [Act.put, List.setIfInBounds_toArray, List.set_cons_zero, List.set_cons_succ]))
  (refine HeldTo.plain (i := 1) (oi := _) (d := some 73) (v := ?_) rfl rfl (by kernel_rfl) (by kernel_rfl) (by kernel_rfl) (by kernel_rfl) (fun _ _ _ h => h) (Or.inl ⟨by rfl, ?_⟩) (fun _ => hS0) ?_; rotate_left; (focus (intro w hSw; clear hSw; go_simp; (try with_reducible rfl); done)); (try simp only [Act.put, List.setIfInBounds_toArray, List.set_cons_zero, List.set_cons_succ]))
  (refine HeldTo.take (i := 3) (oi := _) (d := some 75) (v := ?_) rfl rfl (by kernel_rfl) (by kernel_rfl) (by kernel_rfl) (by kernel_rfl) (by kernel_rfl) (by kernel_rfl) (fun _ _ _ h => h) (Or.inl ⟨by rfl, ?_⟩) hS0 ?_; rotate_left; (focus (intro w hSw; (try dsimp only at hSw); go_simp; (try with_reducible rfl); done)); (try simp only [Act.put, List.setIfInBounds_toArray, List.set_cons_zero, List.set_cons_succ]))
  (refine HeldTo.plain (i := 4) (oi := _) (d := some 76) (v := ?_) rfl rfl (by kernel_rfl) (by kernel_rfl) (by kernel_rfl) (by kernel_rfl) (fun _ _ _ h => h) (Or.inl ⟨by rfl, ?_⟩) (fun _ => hS0) ?_; rotate_left; (focus (intro w hSw; clear hSw; go_simp; (try with_reducible rfl); done)); (try simp only [Act.put, List.setIfInBounds_toArray, List.set_cons_zero, List.set_cons_succ]))
  refine HeldTo.call (i := 2) (oi := _) (d := some 74) (R := fun v w' => ∃ g, v = .slice (some ⟨g, 0, none⟩) n n ∧ Sl w' (some ⟨g, 0, none⟩) n n (bools vx) ∧ Below w6.drew.heap.size w6.drew w') rfl rfl (by kernel_rfl) (by rfl) (by go_simp; done) ((HXV.out _ (HB4.out.trans ((HB6.out.trans (hB0.mono HB6.out.size)).mono HB4.out.size))).mono fun e w' h => by obtain ⟨g, he, h1, h2⟩ := h; exact ⟨_, he, g, rfl, h1, h2⟩) ?_
  rintro v wk1 ⟨g1, rfl, hv1, hbk1⟩
  have hB1 := hB0.trans (hbk1.mono hB0.size)
  have hS1 := hSK _ hB1
  refine ⟨hS1, ?_⟩
  (try simp only [Act.put, List.setIfInBounds_toArray, List.set_cons_zero, List.set_cons_succ])
  refine HeldTo.call (i := 5) (oi := _) (d := some 77) (R := fun v w' => ∃ g, v = .slice (some ⟨g, 0, none⟩) n n ∧ Sl w' (some ⟨g, 0, none⟩) n n (bools vy) ∧ Below wk1.heap.size wk1 w') rfl rfl (by kernel_rfl) (by rfl) (by go_simp; done) ((HYYV.out _ (HB6.out.trans (hB1.mono HB6.out.size))).mono fun e w' h => by obtain ⟨g, he, h1, h2⟩ := h; exact ⟨_, he, g, rfl, h1, h2⟩) ?_
  rintro v wk2 ⟨g2, rfl, hv2, hbk2⟩
  have hB2 := hB1.trans (hbk2.mono hB1.size)
  have hS2 := hSK _ hB2
  refine ⟨hS2, ?_⟩
  (try simp only [Act.put, List.setIfInBounds_toArray, List.set_cons_zero, List.set_cons_succ])
  have HV1 := Lib.hid (fun (U : World) (hU : Below wk2.heap.size wk2 U) => (hv1.next hbk2).next hU)
  have HV2 := Lib.hid (fun (U : World) (hU : Below wk2.heap.size wk2 U) => hv2.next hU)
  have HB9 := Lib.hid (HB6.out.trans (hB2.mono HB6.out.size))
  clear hv1 hv2 hbk1 hbk2 hS1 hB1 hS0 hB0
  (refine HeldTo.plain (i := 6) (oi := _) (d := some 7) (v := ?_) rfl rfl (by kernel_rfl) (by kernel_rfl) (by kernel_rfl) (by kernel_rfl) (fun _ _ _ h => h) (Or.inl ⟨by rfl, ?_⟩) (fun _ => hS2) ?_; rotate_left; (focus (intro w hSw; clear hSw; go_simp; (try with_reducible rfl); done)); (try simp only [Act.put, List.setIfInBounds_toArray, List.set_cons_zero, List.set_cons_succ]))
  refine HeldTo.one (i := 7) (by kernel_rfl) ?_
  refine HeldTo.opVal (i := 7) (oi := _) (d := some 8) (v := .slice (some ⟨g2, 0, none⟩) n n) (w2 := wk2) rfl rfl (by rfl) (by go_simp; done) hS2 ?_
  (try simp only [Act.put, List.setIfInBounds_toArray, List.set_cons_zero, List.set_cons_succ])
  refine HeldTo.done (by kernel_rfl) ?_ _
  clear hS2 hB2 hSK
  generalize wk2 = W9 at *
  have hn0 := HFEW.out.1
  have hn1 := HFEW.out.2.1
  obtain ⟨m2, hm2⟩ : ∃ m, x.lats.length = m := ⟨_, rfl⟩
  have HM2 := Lib.hid hm2
  have hs2 : m2 ≤ 64 := by have := HFEW.out.2.2.2.1; omega
  obtain ⟨m3, hm3⟩ : ∃ m, x.outs.length = m := ⟨_, rfl⟩
  have HM3 := Lib.hid hm3
  have hs3 : m3 ≤ 64 := by have := HFEW.out.2.2.2.2.1; omega
  obtain ⟨m4, hm4⟩ : ∃ m, x.bads.length = m := ⟨_, rfl⟩
  have HM4 := Lib.hid hm4
  have hs4 : m4 ≤ 64 := by have := HFEW.out.2.2.2.2.2.1; omega
  obtain ⟨m5, hm5⟩ : ∃ m, x.invs.length = m := ⟨_, rfl⟩
  have HM5 := Lib.hid hm5
  have hs5 : m5 ≤ 64 := by have := HFEW.out.2.2.2.2.2.2; omega
  clear hm2 hm3 hm4 hm5
  have HW9 : Hid (Below W9.heap.size W9 W9) := Below.refl _ _
  skip
  go_wp2_with fail
  skip
  go_loopw [9] (fun i wr => ∃ k : Nat, k ≤ m2 ∧ i = .int .i64 k ∧ Hid (Below W9.heap.size W9 wr)) (fun i _ => m2 - (intOf i).toNat)
  case atStart => exact ⟨0, Nat.zero_le _, rfl, HW9⟩
  case round =>
    obtain ⟨k, hk, rfl, hB⟩ := hrel
    have hB4 : Below W4.heap.size W4 wr := HB9.out.trans (hB.out.mono HB9.out.size)
    have q2 := (HX4.out.next hB4 (Nat.le_refl _)).k2
    have p2 := (HYC.out wr hB4).k2
    simp only [L2.out] at p2
    simp only [HM2.out] at q2 p2
    by_cases hlt : k < m2
    · have hlt2 : k < x.lats.length := by have := HM2.out; omega
      have hix := (HIN.out wr (HB4.out.trans (hB4.mono HB4.out.size))).lats
      have hiy := (HYIN.out wr hB4).lats
      obtain ⟨b, o, hx, hbo, hbs, e0, e1, e2⟩ := hix.tri hlt2
      obtain ⟨b', o', hx', hbo', hbs', f0, f1, f2⟩ := hiy.tri (i := k) (by rw [L2.out]; exact hlt2)
      obtain ⟨u, hyu, hto1, hto2, hto3⟩ := HT2.out k x.lats[k] (List.getElem?_eq_getElem hlt2)
      have hyk : y.lats[k] = (x.lats[k].1, u, x.lats[k].2.2) := by rw [List.getElem?_eq_getElem hx'] at hyu; exact Option.some.inj hyu
      rw [hyk] at f0 f1 f2
      have hcapx : x.lats.length ≤ c2 := hix.cap
      have hcapy : y.lats.length ≤ d2 := hiy.cap
      have hbgx : c2 ≤ 9223372036854775807 := hix.big
      have hbgy : d2 ≤ 9223372036854775807 := hiy.big
      rw [HM2.out] at hcapx
      rw [L2.out, HM2.out] at hcapy
      clear hyu hyk
      generalize x.lats[k] = t at *
      obtain ⟨t0, t1, t2⟩ := t
      simp only at e0 e1 e2 f0 f1 f2 hto1 hto2 hto3 hbo hbo'
      subst hbo
      subst hbo'
      clear hx hx' hlt2 hix hiy
      have hw0 : W.heap.size < wr.heap.size := Nat.lt_of_lt_of_le HX4.out.lt hB4.size
      have hw3 : w3.heap.size < wr.heap.size := Nat.lt_of_lt_of_le HLT3.out hB4.size
      have HA1 : ∀ (p : Addr) (v : Value), p.block < wr.heap.size → wr.cell? p = some v → ∀ o, (wr.alloc o).cell? p = some v := fun p v hp hv o => (((Below.refl wr.heap.size wr).alloc (Nat.le_refl _) o).cell hp).trans hv
      have HA2 : ∀ (p : Addr) (v : Value), p.block < wr.heap.size → wr.cell? p = some v → ∀ o o2, ((wr.alloc o).alloc o2).cell? p = some v := fun p v hp hv o o2 => ((((Below.refl wr.heap.size wr).alloc (Nat.le_refl _) o).alloc (by simp) o2).cell hp).trans hv
      have A1q2 := HA1 ⟨W.heap.size, 2, none⟩ _ hw0 q2
      have A2q2 := HA2 ⟨W.heap.size, 2, none⟩ _ hw0 q2
      have A1p2 := HA1 ⟨w3.heap.size, 2, none⟩ _ hw3 p2
      have A2p2 := HA2 ⟨w3.heap.size, 2, none⟩ _ hw3 p2
      have A1e0 := HA1 ⟨b, o + k * 3, none⟩ _ hbs e0
      have A2e0 := HA2 ⟨b, o + k * 3, none⟩ _ hbs e0
      have A1e1 := HA1 ⟨b, o + k * 3 + 1, none⟩ _ hbs e1
      have A2e1 := HA2 ⟨b, o + k * 3 + 1, none⟩ _ hbs e1
      have A1e2 := HA1 ⟨b, o + k * 3 + 2, none⟩ _ hbs e2
      have A2e2 := HA2 ⟨b, o + k * 3 + 2, none⟩ _ hbs e2
      have A1f0 := HA1 ⟨b', o' + k * 3, none⟩ _ hbs' f0
      have A2f0 := HA2 ⟨b', o' + k * 3, none⟩ _ hbs' f0
      have A1f1 := HA1 ⟨b', o' + k * 3 + 1, none⟩ _ hbs' f1
      have A2f1 := HA2 ⟨b', o' + k * 3 + 1, none⟩ _ hbs' f1
      have A1f2 := HA1 ⟨b', o' + k * 3 + 2, none⟩ _ hbs' f2
      have A2f2 := HA2 ⟨b', o' + k * 3 + 2, none⟩ _ hbs' f2
      clear HA1 HA2
      have HB0 := Lib.hid hB4
      clear hB4
      go_upto_region 14 with fail
      go_cut [10, 11] from 85 to 94 (fun u10 u11 wx => ∃ (N6 N7 : Nat), u10 = .pointer (some ⟨N6, 0, none⟩) ∧ u11 = .pointer (some ⟨N7, 0, none⟩) ∧ Hid (BoxN N6 [.int .i64 t0, .int .i64 t1, .int .i64 t2] wx) ∧ Hid (BoxN N7 [.int .i64 t0, .int .i64 u, .int .i64 t2] wx) ∧ Hid (Below wr.heap.size wr wx))
      case first =>
        go_region
        all_goals go_wp2_with fail
        all_goals go_meet
        · have h := two_boxesS wr #[.int .i64 t0, .int .i64 t1, .int .i64 t2] #[.int .i64 t0, .int .i64 u, .int .i64 t2] 39 39
          exact ⟨_, _, rfl, rfl, h.1, h.2.1, h.2.2⟩
        · have h := two_boxesS wr #[.int .i64 t0, .int .i64 u, .int .i64 t2] #[.int .i64 t0, .int .i64 t1, .int .i64 t2] 39 39
          exact ⟨_, _, rfl, rfl, h.2.1, h.1, h.2.2⟩
      case rest =>
        obtain ⟨N6, N7, rfl, rfl, hx6, hx7, hbx⟩ := hcut
        have y0 := hx6.out.at' 0 _ rfl
        have y1 := hx6.out.at' 1 _ rfl
        have y2 := hx6.out.at' 2 _ rfl
        have z0 := hx7.out.at' 0 _ rfl
        have z1 := hx7.out.at' 1 _ rfl
        have z2 := hx7.out.at' 2 _ rfl
        have u0 : (t0 != t0) = false := by simp
        have u2 : (t2 != t2) = false := by simp
        have hbc : Below W9.heap.size W9 wc := hB.out.trans (hbx.out.mono hB.out.size)
        have HA := Lib.hid (fun q => bit_n (wc.drewN q) g1 n vx HLX.out (HV1.out _ (below_drewN hbc q)) t1 hto1.1 hto1.2)
        have HD := fun q => bit_n (wc.drewN q) g2 n vy HLY.out (HV2.out _ (below_drewN hbc q)) u hto2.1 hto2.2
        rw [hto3] at HD
        have HBB := Lib.hid HD
        generalize bitL vx t1 = z at *
        clear HD hto1 hto2 hto3
        have hzz : (z != z) = false := by cases z <;> rfl
        have HBC := Lib.hid hbc
        clear hbc hx6 hx7 hbx hB HB0 e0 e1 e2 f0 f1 f2 q2 p2 A1q2 A2q2 A1p2 A2p2 A1e0 A2e0 A1e1 A2e1 A1e2 A2e2 A1f0 A2f0 A1f1 A2f1 A1f2 A2f2
        go_wp2_with fail
        go_quiet ((go_at_call 12; first | with_reducible exact Calls.quiet_of (HA.out _) | with_reducible exact Calls.quiet_of (HBB.out _)))
        go_wp2_with fail
        go_roundw
        case rel => exact ⟨k + 1, by omega, by go_num, below_drewN HBC.out _⟩
        case measure => simp [intOf]; omega
    · have HB0 := Lib.hid hB.out
      generalize wr = w0 at *
      clear hB hB4
      go_wp2_with fail
      clear hlt hk q2 p2
      go_loopw [12] (fun i wr => ∃ k : Nat, k ≤ m3 ∧ i = .int .i64 k ∧ Hid (Below W9.heap.size W9 wr)) (fun i _ => m3 - (intOf i).toNat)
      case atStart => exact ⟨0, Nat.zero_le _, rfl, HB0⟩
      case round =>
        clear HB0
        obtain ⟨k, hk, rfl, hB⟩ := hrel
        have hB4 : Below W4.heap.size W4 wr := HB9.out.trans (hB.out.mono HB9.out.size)
        have q3 := (HX4.out.next hB4 (Nat.le_refl _)).k3
        have p3 := (HYC.out wr hB4).k3
        simp only [L3.out] at p3
        simp only [HM3.out] at q3 p3
        by_cases hlt : k < m3
        · have hlt2 : k < x.outs.length := by have := HM3.out; omega
          have hix := (HIN.out wr (HB4.out.trans (hB4.mono HB4.out.size))).outs
          have hiy := (HYIN.out wr hB4).outs
          obtain ⟨b, o, hx, hbo, hbs, e0⟩ := hix.int' hlt2
          obtain ⟨b', o', hx', hbo', hbs', f0⟩ := hiy.int' (k := k) (by rw [L3.out]; exact hlt2)
          obtain ⟨u, hyu, hto1, hto2, hto3⟩ := HT3.out k x.outs[k] (List.getElem?_eq_getElem hlt2)
          have hyk : y.outs[k] = u := by rw [List.getElem?_eq_getElem hx'] at hyu; exact Option.some.inj hyu
          rw [hyk] at f0
          have hcapx : x.outs.length ≤ c3 := hix.cap
          have hcapy : y.outs.length ≤ d3 := hiy.cap
          have hbgx : c3 ≤ 9223372036854775807 := hix.big
          have hbgy : d3 ≤ 9223372036854775807 := hiy.big
          rw [HM3.out] at hcapx
          rw [L3.out, HM3.out] at hcapy
          clear hyu hyk
          generalize x.outs[k] = t1 at *
          simp only at hbo hbo'
          subst hbo
          subst hbo'
          clear hx hx' hlt2 hix hiy
          have hbc : Below W9.heap.size W9 wr := hB.out
          have HA := Lib.hid (fun q => bit_n (wr.drewN q) g1 n vx HLX.out (HV1.out _ (below_drewN hbc q)) t1 hto1.1 hto1.2)
          have HD := fun q => bit_n (wr.drewN q) g2 n vy HLY.out (HV2.out _ (below_drewN hbc q)) u hto2.1 hto2.2
          rw [hto3] at HD
          have HBB := Lib.hid HD
          generalize bitL vx t1 = z at *
          clear HD hto1 hto2 hto3
          have hzz : (z != z) = false := by cases z <;> rfl
          have HBC := Lib.hid hbc
          clear hbc hB hB4
          go_wp2_with fail
          go_quiet ((go_at_call 12; first | with_reducible exact Calls.quiet_of (HA.out _) | with_reducible exact Calls.quiet_of (HBB.out _)))
          go_wp2_with fail
          go_roundw
          case rel => exact ⟨k + 1, by omega, by go_num, below_drewN HBC.out _⟩
          case measure => simp [intOf]; omega
        · have HB0 := Lib.hid hB.out
          generalize wr = w0 at *
          clear hB hB4
          go_wp2_with fail
          clear hlt hk q3 p3
          go_loopw [13] (fun i wr => ∃ k : Nat, k ≤ m4 ∧ i = .int .i64 k ∧ Hid (Below W9.heap.size W9 wr)) (fun i _ => m4 - (intOf i).toNat)
          case atStart => exact ⟨0, Nat.zero_le _, rfl, HB0⟩
          case round =>
            clear HB0
            obtain ⟨k, hk, rfl, hB⟩ := hrel
            have hB4 : Below W4.heap.size W4 wr := HB9.out.trans (hB.out.mono HB9.out.size)
            have q4 := (HX4.out.next hB4 (Nat.le_refl _)).k4
            have p4 := (HYC.out wr hB4).k4
            simp only [L4.out] at p4
            simp only [HM4.out] at q4 p4
            by_cases hlt : k < m4
            · have hlt2 : k < x.bads.length := by have := HM4.out; omega
              have hix := (HIN.out wr (HB4.out.trans (hB4.mono HB4.out.size))).bads
              have hiy := (HYIN.out wr hB4).bads
              obtain ⟨b, o, hx, hbo, hbs, e0⟩ := hix.int' hlt2
              obtain ⟨b', o', hx', hbo', hbs', f0⟩ := hiy.int' (k := k) (by rw [L4.out]; exact hlt2)
              obtain ⟨u, hyu, hto1, hto2, hto3⟩ := HT4.out k x.bads[k] (List.getElem?_eq_getElem hlt2)
              have hyk : y.bads[k] = u := by rw [List.getElem?_eq_getElem hx'] at hyu; exact Option.some.inj hyu
              rw [hyk] at f0
              have hcapx : x.bads.length ≤ c4 := hix.cap
              have hcapy : y.bads.length ≤ d4 := hiy.cap
              have hbgx : c4 ≤ 9223372036854775807 := hix.big
              have hbgy : d4 ≤ 9223372036854775807 := hiy.big
              rw [HM4.out] at hcapx
              rw [L4.out, HM4.out] at hcapy
              clear hyu hyk
              generalize x.bads[k] = t1 at *
              simp only at hbo hbo'
              subst hbo
              subst hbo'
              clear hx hx' hlt2 hix hiy
              have hbc : Below W9.heap.size W9 wr := hB.out
              have HA := Lib.hid (fun q => bit_n (wr.drewN q) g1 n vx HLX.out (HV1.out _ (below_drewN hbc q)) t1 hto1.1 hto1.2)
              have HD := fun q => bit_n (wr.drewN q) g2 n vy HLY.out (HV2.out _ (below_drewN hbc q)) u hto2.1 hto2.2
              rw [hto3] at HD
              have HBB := Lib.hid HD
              generalize bitL vx t1 = z at *
              clear HD hto1 hto2 hto3
              have hzz : (z != z) = false := by cases z <;> rfl
              have HBC := Lib.hid hbc
              clear hbc hB hB4
              go_wp2_with fail
              go_quiet ((go_at_call 12; first | with_reducible exact Calls.quiet_of (HA.out _) | with_reducible exact Calls.quiet_of (HBB.out _)))
              go_wp2_with fail
              go_roundw
              case rel => exact ⟨k + 1, by omega, by go_num, below_drewN HBC.out _⟩
              case measure => simp [intOf]; omega
            · have HB0 := Lib.hid hB.out
              generalize wr = w0 at *
              clear hB hB4
              go_wp2_with fail
              clear hlt hk q4 p4
              go_loopw [14] (fun i wr => ∃ k : Nat, k ≤ m5 ∧ i = .int .i64 k ∧ Hid (Below W9.heap.size W9 wr)) (fun i _ => m5 - (intOf i).toNat)
              case atStart => exact ⟨0, Nat.zero_le _, rfl, HB0⟩
              case round =>
                clear HB0
                obtain ⟨k, hk, rfl, hB⟩ := hrel
                have hB4 : Below W4.heap.size W4 wr := HB9.out.trans (hB.out.mono HB9.out.size)
                have q5 := (HX4.out.next hB4 (Nat.le_refl _)).k5
                have p5 := (HYC.out wr hB4).k5
                simp only [L5.out] at p5
                simp only [HM5.out] at q5 p5
                by_cases hlt : k < m5
                · have hlt2 : k < x.invs.length := by have := HM5.out; omega
                  have hix := (HIN.out wr (HB4.out.trans (hB4.mono HB4.out.size))).invs
                  have hiy := (HYIN.out wr hB4).invs
                  obtain ⟨b, o, hx, hbo, hbs, e0⟩ := hix.int' hlt2
                  obtain ⟨b', o', hx', hbo', hbs', f0⟩ := hiy.int' (k := k) (by rw [L5.out]; exact hlt2)
                  obtain ⟨u, hyu, hto1, hto2, hto3⟩ := HT5.out k x.invs[k] (List.getElem?_eq_getElem hlt2)
                  have hyk : y.invs[k] = u := by rw [List.getElem?_eq_getElem hx'] at hyu; exact Option.some.inj hyu
                  rw [hyk] at f0
                  have hcapx : x.invs.length ≤ c5 := hix.cap
                  have hcapy : y.invs.length ≤ d5 := hiy.cap
                  have hbgx : c5 ≤ 9223372036854775807 := hix.big
                  have hbgy : d5 ≤ 9223372036854775807 := hiy.big
                  rw [HM5.out] at hcapx
                  rw [L5.out, HM5.out] at hcapy
                  clear hyu hyk
                  generalize x.invs[k] = t1 at *
                  simp only at hbo hbo'
                  subst hbo
                  subst hbo'
                  clear hx hx' hlt2 hix hiy
                  have hbc : Below W9.heap.size W9 wr := hB.out
                  have HA := Lib.hid (fun q => bit_n (wr.drewN q) g1 n vx HLX.out (HV1.out _ (below_drewN hbc q)) t1 hto1.1 hto1.2)
                  have HD := fun q => bit_n (wr.drewN q) g2 n vy HLY.out (HV2.out _ (below_drewN hbc q)) u hto2.1 hto2.2
                  rw [hto3] at HD
                  have HBB := Lib.hid HD
                  generalize bitL vx t1 = z at *
                  clear HD hto1 hto2 hto3
                  have hzz : (z != z) = false := by cases z <;> rfl
                  have HBC := Lib.hid hbc
                  clear hbc hB hB4
                  go_wp2_with fail
                  go_quiet ((go_at_call 12; first | with_reducible exact Calls.quiet_of (HA.out _) | with_reducible exact Calls.quiet_of (HBB.out _)))
                  go_wp2_with fail
                  go_roundw
                  case rel => exact ⟨k + 1, by omega, by go_num, below_drewN HBC.out _⟩
                  case measure => simp [intOf]; omega
                · have HBE := Lib.hid (HB1.out.trans (HB4.out.trans (hB4.mono HB4.out.size) |>.mono HB1.out.size))
                  clear hB hB4
                  go_wp2_with fail
                  go_ret
                  exact ⟨rfl, HBE.out⟩

theorem wf_u64 {n : Int} (h : (Lit.int .u64 n).wf = true) : 0 ≤ n ∧ n ≤ 18446744073709551615 := by
  simp [Lit.wf, IntKind.min, IntKind.max, IntKind.signed, IntKind.bits] at h
  exact h
theorem walk (x : Circ) (p : At) {w : World} (hin : InCirc w x p) (hw : WfC x) (hz : Open.SizedCirc x) (n : Int) (hn : 0 ≤ n ∧ n ≤ 18446744073709551615) (W : World) (hW : W = w) :
    Calls Try.prog 3 #[.agg (cells x p), .int .u64 n] W fun e W' => e = .returned (.bool true) ∧ Below W.heap.size W W' := by
  subst hW
  obtain ⟨b, rfl⟩ : ∃ b : Nat, n = (b : Int) := ⟨n.toNat, by omega⟩
  have hfit : Fits x := ⟨by have := hz.ins; omega, by have := hz.lats; omega, by have := hz.outs; omega, by have := hz.bads; omega, by have := hz.invs; omega, by have := hz.ands; omega, by have := hz.names; omega⟩
  by_cases hok : CheckOk x
  · exact walk_ok x p b (by omega) hin hw (by have := hz.ands; omega) hfit hok
  · exact walk_no x p b (by omega) hin hw (by have := hz.ands; omega) hok
end Go.Proofs.Ythdhlkcdbogcaaa.strashSame
