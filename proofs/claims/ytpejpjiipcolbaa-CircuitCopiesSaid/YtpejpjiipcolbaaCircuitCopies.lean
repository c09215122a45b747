/-
  interlocklaw03.CircuitCopies: the walk: a copy is the circuit, and shares nothing with it.
-/
import Derived.Test.YtpejpjiipcolbaaAlive3
import Derived.Test.YtpejpjiipcolbaaCopyC
import Derived.Test.YtpejpjiipcolbaaOwnAny
import Derived.Test.YtpejpjiipcolbaaSpoil
import Derived.Test.YtpejpjiipcolbaaSame2
import Derived.Test.YtpejpjiipcolbaaOpenCirc
namespace Go.Proofs.Ytpejpjiipcolbaa.circuitCopies
open Go.RowKit Base Circuit
set_option linter.unusedVariables false
set_option linter.unusedSimpArgs false

theorem box8 {N : Nat} {c0 c1 c2 c3 c4 c5 c6 c7 : Value} {w : World} (h : BoxN N [c0, c1, c2, c3, c4, c5, c6, c7] w) : w.cell? ⟨N, 0, none⟩ = some c0 ∧ w.cell? ⟨N, 1, none⟩ = some c1 ∧ w.cell? ⟨N, 2, none⟩ = some c2 ∧ w.cell? ⟨N, 3, none⟩ = some c3 ∧ w.cell? ⟨N, 4, none⟩ = some c4 ∧ w.cell? ⟨N, 5, none⟩ = some c5 ∧ w.cell? ⟨N, 6, none⟩ = some c6 ∧ w.cell? ⟨N, 7, none⟩ = some c7 :=
  ⟨h.at' 0 _ rfl, h.at' 1 _ rfl, h.at' 2 _ rfl, h.at' 3 _ rfl, h.at' 4 _ rfl, h.at' 5 _ rfl, h.at' 6 _ rfl, h.at' 7 _ rfl⟩

set_option maxRecDepth 8000 in
set_option maxHeartbeats 16000000 in
theorem walk (x : Circ) (p : At) {w : World} (hin : InCirc w x p) (hw : WfC x) (hz : Open.SizedCirc x) (W : World) (hW : W = w) :
    Calls Try.prog 5 #[.agg (cells x p)] W fun e W' => e = .returned (.bool true) ∧ Below W.heap.size W W' := by
  subst hW
  have hfit : Fits x := ⟨by have := hz.ins; omega, by have := hz.lats; omega, by have := hz.outs; omega, by have := hz.bads; omega, by have := hz.invs; omega, by have := hz.ands; omega, by have := hz.names; omega⟩
  obtain ⟨W1, hW1⟩ : ∃ W1, W.alloc (.cells (cells x p) 27) = W1 := ⟨_, rfl⟩
  have hb1 : Below W.heap.size W W1 := by rw [← hW1]; exact (Below.refl _ _).alloc (Nat.le_refl _) _
  have hx1 : BoxN W.heap.size (cells x p).toList W1 := by rw [← hW1]; exact BoxN.new W _ _
  have HB1 := Lib.hid hb1
  have HX1 := Lib.hid hx1
  have HIN := Lib.hid (fun (U : World) (hU : Below W.heap.size W U) => hin.next hU)
  have HAL := Lib.hid (alive_any W1)
  have HOW := fun (U : World) (hU : Below W.heap.size W U) => own_any U x p (HIN.out U hU) hfit
  have HFT := Lib.hid hfit
  have HSA := fun (U : World) (hU : Below W.heap.size W U) (q : At) (hq : InCirc U x q) => same_any U x p q (HIN.out U hU) hq
  have HSR := fun (U : World) (hU : Below W.heap.size W U) (q : At) (hq : InCirc U x q) => refSame_any U x p q (HIN.out U hU) hq
  obtain ⟨a1, c1, a2, c2, a3, c3, a4, c4, a5, c5, a6, c6, a7, c7⟩ := p
  simp only [cells] at hW1 HOW HSA HSR HX1 ⊢
  have HO := Lib.hid HOW
  have HA := Lib.hid HSA
  have HR := Lib.hid HSR
  clear hin hw hz hb1 hx1 HOW HSA HSR hfit
  go_enter Try.func5, Try.ntmps5
  go_wp2_with fail
  clear hW1
  with_reducible refine HAL.out.mono ?_
  rintro e w2 ⟨rfl, hb2⟩
  have HB2 := Lib.hid (HB1.out.trans (hb2.mono HB1.out.size))
  have HX2 := Lib.hid (HX1.out.next hb2 HX1.out.lt)
  have HO2 := Lib.hid (HO.out w2 HB2.out)
  obtain ⟨m0, m1, m2, m3, m4, m5, m6, m7⟩ := box8 HX2.out
  clear hb2
  go_wp2_with fail
  with_reducible refine HO2.out.mono ?_
  rintro e w3 ⟨q, rfl, hown, hb3⟩
  -- the own circuit goes into a box
  obtain ⟨W4, hW4⟩ : ∃ U, w3.alloc (.cells (cells x q) 27) = U := ⟨_, rfl⟩
  have hb4 : Below w3.heap.size w3 W4 := by rw [← hW4]; exact (Below.refl _ _).alloc (Nat.le_refl _) _
  have hx4 : BoxN w3.heap.size (cells x q).toList W4 := by rw [← hW4]; exact BoxN.new w3 _ _
  have HOWN := Lib.hid hown
  have HB3 := Lib.hid hb3
  have HB4 := Lib.hid hb4
  have HX4 := Lib.hid hx4
  have HCO := fun (hq : InCirc W4 x q) => copy_any W4 x q hq HFT.out
  have HCP := HCO (hown.inC.next hb4)
  have HSP := fun (U : World) (hq : InCirc U x q) (B N : Nat) => spoil_any U x q hq B N
  obtain ⟨b1, d1, b2, d2, b3, d3, b4, d4, b5, d5, b6, d6, b7, d7⟩ := q
  simp only [cells] at hW4 HX4 HCP HSP ⊢
  have HC := Lib.hid HCP
  have HS := Lib.hid HSP
  obtain ⟨n0, n1, n2, n3, n4, n5, n6, n7⟩ := box8 HX4.out
  clear hown hb3 hb4 hx4 HCO HCP HSP m0 m1 m2 m3 m4 m5 m6 m7
  go_wp2_with fail
  with_reducible refine HC.out.mono ?_
  rintro e w5 ⟨r, rfl, hown5, hb5⟩
  obtain ⟨W6, hW6⟩ : ∃ U, w5.alloc (.cells (cells x r) 27) = U := ⟨_, rfl⟩
  have hb6 : Below w5.heap.size w5 W6 := by rw [← hW6]; exact (Below.refl _ _).alloc (Nat.le_refl _) _
  have hx6 : BoxN w5.heap.size (cells x r).toList W6 := by rw [← hW6]; exact BoxN.new w5 _ _
  have hw6 := hown5.next hb6
  have hb36 : Below w3.heap.size w3 W6 := HB4.out.trans ((hb5.trans (hb6.mono hb5.size)).mono HB4.out.size)
  have hq6 := HOWN.out.inC.next hb36
  have hle3 : w2.heap.size ≤ w3.heap.size := HB3.out.size
  have hsp := HS.out W6 hq6 w2.heap.size w3.heap.size (Nat.le_trans hle3 hb36.size) hb36.size ((Writes.of HOWN.out.ins).next (Nat.le_refl _) hb36) ((Writes.of HOWN.out.lats).next (Nat.le_refl _) hb36) ((Writes.of HOWN.out.outs).next (Nat.le_refl _) hb36) ((Writes.of HOWN.out.bads).next (Nat.le_refl _) hb36) ((Writes.of HOWN.out.invs).next (Nat.le_refl _) hb36) ((Writes.of HOWN.out.ands).next (Nat.le_refl _) hb36) ((Writes.of HOWN.out.names).next (Nat.le_refl _) hb36)
  have HSPO := Lib.hid hsp
  have hx46 := HX4.out.next (hb5.trans (hb6.mono hb5.size)) HX4.out.lt
  have HW6 := Lib.hid hw6
  have HX6 := Lib.hid hx6
  have HB36 := Lib.hid hb36
  have HL5 : Hid (w3.heap.size ≤ w5.heap.size) := Nat.le_trans HB4.out.size hb5.size
  obtain ⟨e1, f1, e2, f2, e3, f3, e4, f4, e5, f5, e6, f6, e7, f7⟩ := r
  simp only [cells] at hW6 HX6 hx46 ⊢
  obtain ⟨m0, m1, m2, m3, m4, m5, m6, m7⟩ := box8 hx46
  clear hown5 hb5 hb6 hx6 hw6 hb36 hq6 hle3 hsp hx46 n0 n1 n2 n3 n4 n5 n6 n7
  go_wp2_with fail
  with_reducible refine HSPO.out.mono ?_
  rintro e w7 ⟨⟨v, rfl⟩, hlo, hhi⟩
  have hx7 := HX6.out.holds hhi HL5.out
  have hx1 := HX2.out.next (HB3.out.trans (HB36.out.mono HB3.out.size)) HX2.out.lt
  have hx17 := hx1.next hlo HX2.out.lt
  have hw7 := HW6.out.holds hhi HB4.out.size
  have hB7 : Below W.heap.size W w7 := (HB2.out.trans ((HB3.out.trans (HB36.out.mono HB3.out.size)).mono HB2.out.size)).trans (hlo.mono HB2.out.size)
  have HR7 := Lib.hid (HR.out w7 hB7 _ hw7.inC)
  have HB7 := Lib.hid hB7
  have HW7 := Lib.hid hw7.inC
  obtain ⟨n0, n1, n2, n3, n4, n5, n6, n7⟩ := box8 hx7
  obtain ⟨r0, r1, r2, r3, r4, r5, r6, r7⟩ := box8 hx17
  have HX7 := Lib.hid hx7
  have HX17 := Lib.hid hx17
  clear hlo hhi hx7 hx1 hx17 hw7 hB7 m0 m1 m2 m3 m4 m5 m6 m7
  go_wp2_with fail
  with_reducible refine HR7.out.mono ?_
  rintro e w8 ⟨rfl, hb8⟩
  have HB8 := Lib.hid (HB7.out.trans (hb8.mono HB7.out.size))
  have HA8 := Lib.hid (HA.out w8 HB8.out _ (HW7.out.next hb8))
  have hx8 := HX7.out.next hb8 HX7.out.lt
  have hx18 := HX17.out.next hb8 HX17.out.lt
  clear hb8 n0 n1 n2 n3 n4 n5 n6 n7 r0 r1 r2 r3 r4 r5 r6 r7
  obtain ⟨n0, n1, n2, n3, n4, n5, n6, n7⟩ := box8 hx8
  obtain ⟨r0, r1, r2, r3, r4, r5, r6, r7⟩ := box8 hx18
  clear hx8 hx18
  go_wp2_with fail
  with_reducible refine HA8.out.mono ?_
  rintro e w9 ⟨rfl, hb9⟩
  have HB9 := Lib.hid (HB8.out.trans (hb9.mono HB8.out.size))
  clear hb9 n0 n1 n2 n3 n4 n5 n6 n7 r0 r1 r2 r3 r4 r5 r6 r7
  go_wp2_with fail
  go_ret
  exact ⟨rfl, HB9.out⟩
end Go.Proofs.Ytpejpjiipcolbaa.circuitCopies
