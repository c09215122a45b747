/-
  interlocklaw28.EnumTells (written by enumtells.py).
-/
import Derived.Test.YtjmmhbmbafjneaaGreatDoorEnumTM1
import Derived.Test.YtjmmhbmbafjneaaGreatDoorEnumTM2
import Derived.Test.YtjmmhbmbafjneaaGreatDoorEnumTM3
import Derived.Test.YtjmmhbmbafjneaaGreatDoorEnumTM4
import Derived.Test.YtjmmhbmbafjneaaGreatDoorEnumTM5
import Derived.Test.YtjmmhbmbafjneaaGreatDoorEnumTM6
import Derived.Test.YtjmmhbmbafjneaaGreatDoorEnumTM7
import Derived.Test.YtjmmhbmbafjneaaGreatDoorOpenCirc
namespace Go.Proofs.YtjmmhbmbafjneaaGreatDoor.enumTells
open Go.RowKit Base Go.Maps
set_option linter.unusedVariables false
set_option linter.unusedSimpArgs false
open Circuit BadP StrashP SimV EnumA EnumP GetI MapG Coi EnumW EnumC Order Unroll RefIn

theorem check_some {x : Circ} {A : List (List Int)} {kb : Nat} {bl : Int} {B : Nat} {e : Ending} {w2 : World} (h : CheckOut x A kb bl B e w2) : ∃ u0 u1 u2 u3 u4 u5 u6 u7 u8 u9, e = .returned (.tuple #[.agg #[.int .i64 u0, .int .i64 u1, .string u2, .slice u3 u4 u5, .slice u6 u7 u8, .slice none 0 0, .int .i64 u9], .int .i64 0]) := by
  obtain ⟨O, _, _, ⟨_, _, _, _, _, _, _, _, _, _, _, _, rfl, _⟩ | ⟨_, _, _, _, rfl, _⟩⟩ := h
  · exact ⟨_, _, _, _, _, _, _, _, _, _, rfl⟩
  · exact ⟨_, _, _, _, _, _, _, _, _, _, rfl⟩

set_option maxRecDepth 8000 in
set_option maxHeartbeats 16000000 in
theorem walk_no (w : World) (x : Circ) (p : At) (hin : InCirc w x p) (hw : WfC x) (hza : x.ands.length * 24 ≤ 140737488355328) (aA : Option Addr) (nA cA : Nat) (vs : List Value) (A : List (List Int)) (hA : Sl2 w aA nA cA vs A) (hA64 : ∀ y ∈ A.flatten, -9223372036854775808 ≤ y ∧ y ≤ 9223372036854775807)
    (bad : Int) (hb0 : -9223372036854775808 ≤ bad) (hb1 : bad ≤ 9223372036854775807) (hne : unrE x A bad ≠ 0) :
    Calls Tryz.prog 5 #[.agg (cells x p), .slice aA nA cA, .int .i64 bad] w fun e w2 => e = .returned (.bool true) ∧ Below w.heap.size w w2 := by
  obtain ⟨W1, hW1⟩ : ∃ U, w.alloc (.cells (cells x p) 27) = U := ⟨_, rfl⟩
  obtain ⟨hb1', hx1⟩ := cbox_new w x p W1 hW1
  have HB1 := Lib.hid hb1'
  have HAV := Lib.hid (EnumL.alive_any W1)
  have HCB := Lib.hid (fun (U : World) (hU : Below W1.heap.size W1 U) => hx1.next hU (Nat.le_refl _))
  have HUC := fun (U : World) (hU : Below W1.heap.size W1 U) => unroll_any U x p ((hin.next hb1').next hU) hw aA nA cA vs A ((hA.next hb1').next hU) hA64 bad hb0 hb1
  have HCK := fun (U : World) (hU : Below W1.heap.size W1 U) => check_no U x p ((hin.next hb1').next hU) hw aA nA cA vs A ((hA.next hb1').next hU) hA64 bad hb0 hb1 hne
  have hnb : (unrE x A bad != 0) = true := by simpa using hne
  have hnb2 : unrE x A bad ≠ 0 := hne
  generalize unrE x A bad = er at *
  have hcI := hin.ins.cap
  have hgI := hin.ins.big
  have hcL := hin.lats.cap
  have hgL := hin.lats.big
  obtain ⟨a1, b1, a2, b2, a3, b3, a4, b4, a5, b5, a6, b6, a7, b7⟩ := p
  simp only [cells, qcells, zeroV] at *
  have HUCC := Lib.hid HUC
  have HCKK := Lib.hid HCK
  clear hin hb1' hx1 hw hza hA hA64 HUC HCK hb0 hb1 hne
  go_enter Tryz.func5, Tryz.ntmps5
  go_wp2_with fail
  clear hW1
  with_reducible refine HAV.out.mono ?_
  rintro e w2 ⟨rfl, hb2⟩
  have HB2 := Lib.hid hb2
  clear hb2
  have hc := HCB.out w2 (HB2.out)
  have k0 := hc.k0
  have k1 := hc.k1
  have k2 := hc.k2
  have k3 := hc.k3
  have k4 := hc.k4
  have k5 := hc.k5
  have k6 := hc.k6
  have k7 := hc.k7
  try simp only at k0 k1 k2 k3 k4 k5 k6 k7
  clear hc
  obtain ⟨Wa, hWa⟩ : ∃ U, w2.alloc (.cells #[.int .i64 x.max, .slice a1 x.ins.length b1, .slice a2 x.lats.length b2, .slice a3 x.outs.length b3, .slice a4 x.bads.length b4, .slice a5 x.invs.length b5, .slice a6 x.ands.length b6, .slice a7 x.names.length b7, .slice aA nA cA, .slice none 0 0, .slice none 0 0, .int .i64 bad, .int .i64 0, .int .i64 0] 42) = U := ⟨_, rfl⟩
  have hba : Below w2.heap.size w2 Wa := by rw [← hWa]; exact (Below.refl _ _).alloc (Nat.le_refl _) _
  have hxa : BoxN w2.heap.size (#[.int .i64 x.max, .slice a1 x.ins.length b1, .slice a2 x.lats.length b2, .slice a3 x.outs.length b3, .slice a4 x.bads.length b4, .slice a5 x.invs.length b5, .slice a6 x.ands.length b6, .slice a7 x.names.length b7, .slice aA nA cA, .slice none 0 0, .slice none 0 0, .int .i64 bad, .int .i64 0, .int .i64 0] : Array Value).toList Wa := by rw [← hWa]; exact BoxN.new w2 _ _
  try simp only at hxa
  obtain ⟨W3, hW3⟩ : ∃ U, (Wa.setCell ⟨w2.heap.size, 12, none⟩ (.int .i64 0)).setCell ⟨w2.heap.size, 13, none⟩ (.int .i64 0) = U := ⟨_, rfl⟩
  have hb3 : Below w2.heap.size w2 W3 := by rw [← hW3]; exact (hba.setCell (p := ⟨w2.heap.size, 12, none⟩) (Nat.le_refl _) _).setCell (p := ⟨w2.heap.size, 13, none⟩) (Nat.le_refl _) _
  have hx3 : BoxN w2.heap.size (#[.int .i64 x.max, .slice a1 x.ins.length b1, .slice a2 x.lats.length b2, .slice a3 x.outs.length b3, .slice a4 x.bads.length b4, .slice a5 x.invs.length b5, .slice a6 x.ands.length b6, .slice a7 x.names.length b7, .slice aA nA cA, .slice none 0 0, .slice none 0 0, .int .i64 bad, .int .i64 0, .int .i64 0] : Array Value).toList W3 := by rw [← hW3]; exact (hxa.set 12 _).set 13 _
  try simp only at hx3
  have HWE := Lib.hid hW3
  have HB3 := Lib.hid (HB2.out.trans (hb3.mono HB2.out.size))
  have HXQ := Lib.hid (fun (U : World) (hU : Below W3.heap.size W3 U) => hx3.next hU hx3.lt)
  have HC3 := Lib.hid (HCKK.out W3 HB3.out)
  have hq := hxa
  have q0 := hq.at' 0 _ rfl
  have q1 := hq.at' 1 _ rfl
  have q2 := hq.at' 2 _ rfl
  have q3 := hq.at' 3 _ rfl
  have q4 := hq.at' 4 _ rfl
  have q5 := hq.at' 5 _ rfl
  have q6 := hq.at' 6 _ rfl
  have q7 := hq.at' 7 _ rfl
  have q8 := hq.at' 8 _ rfl
  have q9 := hq.at' 9 _ rfl
  have q10 := hq.at' 10 _ rfl
  have q11 := hq.at' 11 _ rfl
  have q12 := hq.at' 12 _ rfl
  have q13 := hq.at' 13 _ rfl
  try simp only at q0 q1 q2 q3 q4 q5 q6 q7 q8 q9 q10 q11 q12 q13
  clear hq
  have z12 := hxa.fz 12
  have z13 := hxa.fz 13
  clear hb3 hx3 hba hxa hW3
  go_wp2_with fail
  rw [HWE.out]
  clear hWa z12 z13 HWE
  clear k0 k1 k2 k3 k4 k5 k6 k7
  clear q0 q1 q2 q3 q4 q5 q6 q7 q8 q9 q10 q11 q12 q13
  with_reducible refine HC3.out.mono ?_
  rintro e w4 ⟨rfl, hb4⟩
  obtain ⟨W5, hW5⟩ : ∃ U, w4.alloc (.cells #[.int .i64 0, .int .i64 0, .string ⟨#[]⟩, .slice none 0 0, .slice none 0 0, .slice none 0 0, .int .i64 0] 47) = U := ⟨_, rfl⟩
  have hb5 : Below w4.heap.size w4 W5 := by rw [← hW5]; exact (Below.refl _ _).alloc (Nat.le_refl _) _
  have hx5 : BoxN w4.heap.size [.int .i64 0, .int .i64 0, .string ⟨#[]⟩, .slice none 0 0, .slice none 0 0, .slice none 0 0, .int .i64 0] W5 := by rw [← hW5]; exact BoxN.new w4 _ _
  have HB35 := Lib.hid (hb4.trans (hb5.mono hb4.size))
  have HB45 := Lib.hid hb5
  have HB5 := Lib.hid (HB3.out.trans (HB35.out.mono HB3.out.size))
  have HX8 := Lib.hid (fun (U : World) (hU : Below W5.heap.size W5 U) => hx5.next hU hx5.lt)
  have HU5 := Lib.hid (HUCC.out W5 HB5.out)
  have HW5 := Lib.hid hW5
  clear hb4 hb5 hx5 hW5
  go_upto_region 5 with fail
  rw [HW5.out]
  have hq := HXQ.out W5 HB35.out
  have q0 := hq.at' 0 _ rfl
  have q1 := hq.at' 1 _ rfl
  have q2 := hq.at' 2 _ rfl
  have q3 := hq.at' 3 _ rfl
  have q4 := hq.at' 4 _ rfl
  have q5 := hq.at' 5 _ rfl
  have q6 := hq.at' 6 _ rfl
  have q7 := hq.at' 7 _ rfl
  have q8 := hq.at' 8 _ rfl
  have q9 := hq.at' 9 _ rfl
  have q10 := hq.at' 10 _ rfl
  have q11 := hq.at' 11 _ rfl
  have q12 := hq.at' 12 _ rfl
  have q13 := hq.at' 13 _ rfl
  try simp only at q0 q1 q2 q3 q4 q5 q6 q7 q8 q9 q10 q11 q12 q13
  clear hq
  clear HW5
  go_wp2_with fail
  clear q0 q1 q2 q3 q4 q5 q6 q7 q8 q9 q10 q11 q12 q13
  with_reducible refine HU5.out.mono ?_
  rintro e w6 ⟨rfl, hb6⟩
  have HB56 := Lib.hid hb6
  have HB6 := Lib.hid (HB5.out.trans (hb6.mono HB5.out.size))
  clear hb6
  have y0 := (HX8.out w6 HB56.out).at' 0 _ rfl
  try simp only at y0
  have HU6 := Lib.hid (HUCC.out w6 HB6.out)
  have hq := HXQ.out w6 (HB35.out.trans (HB56.out.mono HB35.out.size))
  have q0 := hq.at' 0 _ rfl
  have q1 := hq.at' 1 _ rfl
  have q2 := hq.at' 2 _ rfl
  have q3 := hq.at' 3 _ rfl
  have q4 := hq.at' 4 _ rfl
  have q5 := hq.at' 5 _ rfl
  have q6 := hq.at' 6 _ rfl
  have q7 := hq.at' 7 _ rfl
  have q8 := hq.at' 8 _ rfl
  have q9 := hq.at' 9 _ rfl
  have q10 := hq.at' 10 _ rfl
  have q11 := hq.at' 11 _ rfl
  have q12 := hq.at' 12 _ rfl
  have q13 := hq.at' 13 _ rfl
  try simp only at q0 q1 q2 q3 q4 q5 q6 q7 q8 q9 q10 q11 q12 q13
  clear hq
  go_wp2_with fail
  clear q0 q1 q2 q3 q4 q5 q6 q7 q8 q9 q10 q11 q12 q13 y0
  with_reducible refine HU6.out.mono ?_
  rintro e w7 ⟨rfl, hb7⟩
  have HB7 := Lib.hid (HB6.out.trans (hb7.mono HB6.out.size))
  have y0 := (HX8.out w7 (HB56.out.trans (hb7.mono HB56.out.size))).at' 0 _ rfl
  try simp only at y0
  clear hb7
  go_wp2_with fail
  go_ret
  exact ⟨by first | rfl | simp, HB1.out.trans (HB7.out.mono HB1.out.size)⟩

set_option maxRecDepth 8000 in
set_option maxHeartbeats 16000000 in
theorem walk_long (w : World) (x : Circ) (p : At) (hin : InCirc w x p) (hw : WfC x) (hza : x.ands.length * 24 ≤ 140737488355328) (aA : Option Addr) (nA cA : Nat) (vs : List Value) (A : List (List Int)) (hA : Sl2 w aA nA cA vs A) (hA64 : ∀ y ∈ A.flatten, -9223372036854775808 ≤ y ∧ y ≤ 9223372036854775807)
    (bad : Int) (hb0 : -9223372036854775808 ≤ bad) (hb1 : bad ≤ 9223372036854775807) (hu : unrE x A bad = 0) (hk : CheckOk x) (hlg : 10 < x.lats.length ∨ 10 < x.ins.length) :
    Calls Tryz.prog 5 #[.agg (cells x p), .slice aA nA cA, .int .i64 bad] w fun e w2 => e = .returned (.bool true) ∧ Below w.heap.size w w2 := by
  obtain ⟨W1, hW1⟩ : ∃ U, w.alloc (.cells (cells x p) 27) = U := ⟨_, rfl⟩
  obtain ⟨hb1', hx1⟩ := cbox_new w x p W1 hW1
  have HB1 := Lib.hid hb1'
  have HAV := Lib.hid (EnumL.alive_any W1)
  have HCB := Lib.hid (fun (U : World) (hU : Below W1.heap.size W1 U) => hx1.next hU (Nat.le_refl _))
  have HUC := fun (U : World) (hU : Below W1.heap.size W1 U) => unroll_any U x p ((hin.next hb1').next hU) hw aA nA cA vs A ((hA.next hb1').next hU) hA64 bad hb0 hb1
  have hbg : ¬ (x.lats.length ≤ 4 ∧ x.ins.length ≤ 3 ∧ x.max ≤ 60) := by omega
  have HCK := fun (U : World) (hU : Below W1.heap.size W1 U) => check_big U x p ((hin.next hb1').next hU) hw aA nA cA vs A ((hA.next hb1').next hU) hA64 bad hb0 hb1 hu (by rw [small_long hk hlg]; decide)
  simp only [small_long hk hlg] at HCK
  rw [hu] at HUC
  have hsm : (decide (x.lats.length ≤ 4) && decide (x.ins.length ≤ 3) && decide (x.max ≤ 60)) = false := by
    cases hq : (decide (x.lats.length ≤ 4) && decide (x.ins.length ≤ 3) && decide (x.max ≤ 60)) with
    | false => rfl
    | true =>
      simp only [Bool.and_eq_true, decide_eq_true_eq] at hq
      exact absurd ⟨hq.1.1, hq.1.2, hq.2⟩ hbg
  have HSM := fun (U : World) (hU : Below W1.heap.size W1 U) => BadP.small_any U x p ((hin.next hb1').next hU)
  simp only [hsm] at HSM
  have hcI := hin.ins.cap
  have hgI := hin.ins.big
  have hcL := hin.lats.cap
  have hgL := hin.lats.big
  obtain ⟨a1, b1, a2, b2, a3, b3, a4, b4, a5, b5, a6, b6, a7, b7⟩ := p
  simp only [cells, qcells, zeroV] at *
  have HSMM := Lib.hid HSM
  have HUCC := Lib.hid HUC
  have HCKK := Lib.hid HCK
  clear hin hb1' hx1 hw hza hA hA64 HUC HCK hb0 hb1 hu hk hlg hbg hsm HSM
  go_enter Tryz.func5, Tryz.ntmps5
  go_wp2_with fail
  clear hW1
  with_reducible refine HAV.out.mono ?_
  rintro e w2 ⟨rfl, hb2⟩
  have HB2 := Lib.hid hb2
  clear hb2
  have hc := HCB.out w2 (HB2.out)
  have k0 := hc.k0
  have k1 := hc.k1
  have k2 := hc.k2
  have k3 := hc.k3
  have k4 := hc.k4
  have k5 := hc.k5
  have k6 := hc.k6
  have k7 := hc.k7
  try simp only at k0 k1 k2 k3 k4 k5 k6 k7
  clear hc
  obtain ⟨Wa, hWa⟩ : ∃ U, w2.alloc (.cells #[.int .i64 x.max, .slice a1 x.ins.length b1, .slice a2 x.lats.length b2, .slice a3 x.outs.length b3, .slice a4 x.bads.length b4, .slice a5 x.invs.length b5, .slice a6 x.ands.length b6, .slice a7 x.names.length b7, .slice aA nA cA, .slice none 0 0, .slice none 0 0, .int .i64 bad, .int .i64 0, .int .i64 0] 42) = U := ⟨_, rfl⟩
  have hba : Below w2.heap.size w2 Wa := by rw [← hWa]; exact (Below.refl _ _).alloc (Nat.le_refl _) _
  have hxa : BoxN w2.heap.size (#[.int .i64 x.max, .slice a1 x.ins.length b1, .slice a2 x.lats.length b2, .slice a3 x.outs.length b3, .slice a4 x.bads.length b4, .slice a5 x.invs.length b5, .slice a6 x.ands.length b6, .slice a7 x.names.length b7, .slice aA nA cA, .slice none 0 0, .slice none 0 0, .int .i64 bad, .int .i64 0, .int .i64 0] : Array Value).toList Wa := by rw [← hWa]; exact BoxN.new w2 _ _
  try simp only at hxa
  obtain ⟨W3, hW3⟩ : ∃ U, (Wa.setCell ⟨w2.heap.size, 12, none⟩ (.int .i64 0)).setCell ⟨w2.heap.size, 13, none⟩ (.int .i64 0) = U := ⟨_, rfl⟩
  have hb3 : Below w2.heap.size w2 W3 := by rw [← hW3]; exact (hba.setCell (p := ⟨w2.heap.size, 12, none⟩) (Nat.le_refl _) _).setCell (p := ⟨w2.heap.size, 13, none⟩) (Nat.le_refl _) _
  have hx3 : BoxN w2.heap.size (#[.int .i64 x.max, .slice a1 x.ins.length b1, .slice a2 x.lats.length b2, .slice a3 x.outs.length b3, .slice a4 x.bads.length b4, .slice a5 x.invs.length b5, .slice a6 x.ands.length b6, .slice a7 x.names.length b7, .slice aA nA cA, .slice none 0 0, .slice none 0 0, .int .i64 bad, .int .i64 0, .int .i64 0] : Array Value).toList W3 := by rw [← hW3]; exact (hxa.set 12 _).set 13 _
  try simp only at hx3
  have HWE := Lib.hid hW3
  have HB3 := Lib.hid (HB2.out.trans (hb3.mono HB2.out.size))
  have HXQ := Lib.hid (fun (U : World) (hU : Below W3.heap.size W3 U) => hx3.next hU hx3.lt)
  have HC3 := Lib.hid (HCKK.out W3 HB3.out)
  have hq := hxa
  have q0 := hq.at' 0 _ rfl
  have q1 := hq.at' 1 _ rfl
  have q2 := hq.at' 2 _ rfl
  have q3 := hq.at' 3 _ rfl
  have q4 := hq.at' 4 _ rfl
  have q5 := hq.at' 5 _ rfl
  have q6 := hq.at' 6 _ rfl
  have q7 := hq.at' 7 _ rfl
  have q8 := hq.at' 8 _ rfl
  have q9 := hq.at' 9 _ rfl
  have q10 := hq.at' 10 _ rfl
  have q11 := hq.at' 11 _ rfl
  have q12 := hq.at' 12 _ rfl
  have q13 := hq.at' 13 _ rfl
  try simp only at q0 q1 q2 q3 q4 q5 q6 q7 q8 q9 q10 q11 q12 q13
  clear hq
  have z12 := hxa.fz 12
  have z13 := hxa.fz 13
  clear hb3 hx3 hba hxa hW3
  go_wp2_with fail
  rw [HWE.out]
  clear hWa z12 z13 HWE
  clear k0 k1 k2 k3 k4 k5 k6 k7
  clear q0 q1 q2 q3 q4 q5 q6 q7 q8 q9 q10 q11 q12 q13
  with_reducible refine HC3.out.mono ?_
  rintro e w4 ⟨rfl, hb4⟩
  obtain ⟨W5, hW5⟩ : ∃ U, w4.alloc (.cells #[.int .i64 0, .int .i64 0, .string ⟨#[]⟩, .slice none 0 0, .slice none 0 0, .slice none 0 0, .int .i64 0] 47) = U := ⟨_, rfl⟩
  have hb5 : Below w4.heap.size w4 W5 := by rw [← hW5]; exact (Below.refl _ _).alloc (Nat.le_refl _) _
  have hx5 : BoxN w4.heap.size [.int .i64 0, .int .i64 0, .string ⟨#[]⟩, .slice none 0 0, .slice none 0 0, .slice none 0 0, .int .i64 0] W5 := by rw [← hW5]; exact BoxN.new w4 _ _
  have HB35 := Lib.hid (hb4.trans (hb5.mono hb4.size))
  have HB45 := Lib.hid hb5
  have HB5 := Lib.hid (HB3.out.trans (HB35.out.mono HB3.out.size))
  have HX8 := Lib.hid (fun (U : World) (hU : Below W5.heap.size W5 U) => hx5.next hU hx5.lt)
  have HU5 := Lib.hid (HUCC.out W5 HB5.out)
  have HW5 := Lib.hid hW5
  clear hb4 hb5 hx5 hW5
  go_upto_region 5 with fail
  rw [HW5.out]
  have hq := HXQ.out W5 HB35.out
  have q0 := hq.at' 0 _ rfl
  have q1 := hq.at' 1 _ rfl
  have q2 := hq.at' 2 _ rfl
  have q3 := hq.at' 3 _ rfl
  have q4 := hq.at' 4 _ rfl
  have q5 := hq.at' 5 _ rfl
  have q6 := hq.at' 6 _ rfl
  have q7 := hq.at' 7 _ rfl
  have q8 := hq.at' 8 _ rfl
  have q9 := hq.at' 9 _ rfl
  have q10 := hq.at' 10 _ rfl
  have q11 := hq.at' 11 _ rfl
  have q12 := hq.at' 12 _ rfl
  have q13 := hq.at' 13 _ rfl
  try simp only at q0 q1 q2 q3 q4 q5 q6 q7 q8 q9 q10 q11 q12 q13
  clear hq
  clear HW5
  go_wp2_with fail
  clear q0 q1 q2 q3 q4 q5 q6 q7 q8 q9 q10 q11 q12 q13
  with_reducible refine HU5.out.mono ?_
  rintro e w6 ⟨rfl, hb6⟩
  have HB56 := Lib.hid hb6
  have HB6 := Lib.hid (HB5.out.trans (hb6.mono HB5.out.size))
  clear hb6
  have hc := HCB.out w6 (HB6.out)
  have k0 := hc.k0
  have k1 := hc.k1
  have k2 := hc.k2
  have k3 := hc.k3
  have k4 := hc.k4
  have k5 := hc.k5
  have k6 := hc.k6
  have k7 := hc.k7
  try simp only at k0 k1 k2 k3 k4 k5 k6 k7
  clear hc
  have HS6 := Lib.hid (HSMM.out w6 HB6.out)
  go_wp2_with fail
  clear k0 k1 k2 k3 k4 k5 k6 k7
  with_reducible refine HS6.out.mono ?_
  rintro e w7 ⟨rfl, hb7⟩
  have HB7 := Lib.hid (HB6.out.trans (hb7.mono HB6.out.size))
  clear hb7
  go_wp2_with fail
  go_ret
  exact ⟨by first | rfl | simp, HB1.out.trans (HB7.out.mono HB1.out.size)⟩

set_option maxRecDepth 8000 in
set_option maxHeartbeats 16000000 in
theorem walk_big (w : World) (x : Circ) (p : At) (hin : InCirc w x p) (hw : WfC x) (hza : x.ands.length * 24 ≤ 140737488355328) (aA : Option Addr) (nA cA : Nat) (vs : List Value) (A : List (List Int)) (hA : Sl2 w aA nA cA vs A) (hA64 : ∀ y ∈ A.flatten, -9223372036854775808 ≤ y ∧ y ≤ 9223372036854775807)
    (kb : Nat) (hkb : kb < x.bads.length) (hu : unrE x A kb = 0) (hk : CheckOk x) (hl10 : x.lats.length ≤ 10) (hi10 : x.ins.length ≤ 10) (hbg : ¬ (x.lats.length ≤ 4 ∧ x.ins.length ≤ 3 ∧ x.max ≤ 60)) :
    Calls Tryz.prog 5 #[.agg (cells x p), .slice aA nA cA, .int .i64 (kb : Int)] w fun e w2 => e = .returned (.bool true) ∧ Below w.heap.size w w2 := by
  obtain ⟨W1, hW1⟩ : ∃ U, w.alloc (.cells (cells x p) 27) = U := ⟨_, rfl⟩
  obtain ⟨hb1', hx1⟩ := cbox_new w x p W1 hW1
  have HB1 := Lib.hid hb1'
  have HAV := Lib.hid (EnumL.alive_any W1)
  have HCB := Lib.hid (fun (U : World) (hU : Below W1.heap.size W1 U) => hx1.next hU (Nat.le_refl _))
  have HUC := fun (U : World) (hU : Below W1.heap.size W1 U) => unroll_any U x p ((hin.next hb1').next hU) hw aA nA cA vs A ((hA.next hb1').next hU) hA64 (kb : Int) (by omega) (by have := hin.bads.big; have := hin.bads.cap; omega)
  have HCK := fun (U : World) (hU : Below W1.heap.size W1 U) => check_ok U x p ((hin.next hb1').next hU) hw aA nA cA vs A ((hA.next hb1').next hU) hA64 kb hkb hu hk (by omega) (by omega)
  rw [hu] at HUC
  have hsm : (decide (x.lats.length ≤ 4) && decide (x.ins.length ≤ 3) && decide (x.max ≤ 60)) = false := by
    cases hq : (decide (x.lats.length ≤ 4) && decide (x.ins.length ≤ 3) && decide (x.max ≤ 60)) with
    | false => rfl
    | true =>
      simp only [Bool.and_eq_true, decide_eq_true_eq] at hq
      exact absurd ⟨hq.1.1, hq.1.2, hq.2⟩ hbg
  have HSM := fun (U : World) (hU : Below W1.heap.size W1 U) => BadP.small_any U x p ((hin.next hb1').next hU)
  simp only [hsm] at HSM
  have hcI := hin.ins.cap
  have hgI := hin.ins.big
  have hcL := hin.lats.cap
  have hgL := hin.lats.big
  obtain ⟨a1, b1, a2, b2, a3, b3, a4, b4, a5, b5, a6, b6, a7, b7⟩ := p
  simp only [cells, qcells, zeroV] at *
  have HSMM := Lib.hid HSM
  have HUCC := Lib.hid HUC
  have HCKK := Lib.hid HCK
  clear hin hb1' hx1 hw hza hA hA64 HUC HCK hu hk hl10 hi10 hbg hsm HSM
  go_enter Tryz.func5, Tryz.ntmps5
  go_wp2_with fail
  clear hW1
  with_reducible refine HAV.out.mono ?_
  rintro e w2 ⟨rfl, hb2⟩
  have HB2 := Lib.hid hb2
  clear hb2
  have hc := HCB.out w2 (HB2.out)
  have k0 := hc.k0
  have k1 := hc.k1
  have k2 := hc.k2
  have k3 := hc.k3
  have k4 := hc.k4
  have k5 := hc.k5
  have k6 := hc.k6
  have k7 := hc.k7
  try simp only at k0 k1 k2 k3 k4 k5 k6 k7
  clear hc
  obtain ⟨Wa, hWa⟩ : ∃ U, w2.alloc (.cells #[.int .i64 x.max, .slice a1 x.ins.length b1, .slice a2 x.lats.length b2, .slice a3 x.outs.length b3, .slice a4 x.bads.length b4, .slice a5 x.invs.length b5, .slice a6 x.ands.length b6, .slice a7 x.names.length b7, .slice aA nA cA, .slice none 0 0, .slice none 0 0, .int .i64 (kb : Int), .int .i64 0, .int .i64 0] 42) = U := ⟨_, rfl⟩
  have hba : Below w2.heap.size w2 Wa := by rw [← hWa]; exact (Below.refl _ _).alloc (Nat.le_refl _) _
  have hxa : BoxN w2.heap.size (#[.int .i64 x.max, .slice a1 x.ins.length b1, .slice a2 x.lats.length b2, .slice a3 x.outs.length b3, .slice a4 x.bads.length b4, .slice a5 x.invs.length b5, .slice a6 x.ands.length b6, .slice a7 x.names.length b7, .slice aA nA cA, .slice none 0 0, .slice none 0 0, .int .i64 (kb : Int), .int .i64 0, .int .i64 0] : Array Value).toList Wa := by rw [← hWa]; exact BoxN.new w2 _ _
  try simp only at hxa
  obtain ⟨W3, hW3⟩ : ∃ U, (Wa.setCell ⟨w2.heap.size, 12, none⟩ (.int .i64 0)).setCell ⟨w2.heap.size, 13, none⟩ (.int .i64 0) = U := ⟨_, rfl⟩
  have hb3 : Below w2.heap.size w2 W3 := by rw [← hW3]; exact (hba.setCell (p := ⟨w2.heap.size, 12, none⟩) (Nat.le_refl _) _).setCell (p := ⟨w2.heap.size, 13, none⟩) (Nat.le_refl _) _
  have hx3 : BoxN w2.heap.size (#[.int .i64 x.max, .slice a1 x.ins.length b1, .slice a2 x.lats.length b2, .slice a3 x.outs.length b3, .slice a4 x.bads.length b4, .slice a5 x.invs.length b5, .slice a6 x.ands.length b6, .slice a7 x.names.length b7, .slice aA nA cA, .slice none 0 0, .slice none 0 0, .int .i64 (kb : Int), .int .i64 0, .int .i64 0] : Array Value).toList W3 := by rw [← hW3]; exact (hxa.set 12 _).set 13 _
  try simp only at hx3
  have HWE := Lib.hid hW3
  have HB3 := Lib.hid (HB2.out.trans (hb3.mono HB2.out.size))
  have HXQ := Lib.hid (fun (U : World) (hU : Below W3.heap.size W3 U) => hx3.next hU hx3.lt)
  have HC3 := Lib.hid (HCKK.out W3 HB3.out)
  have hq := hxa
  have q0 := hq.at' 0 _ rfl
  have q1 := hq.at' 1 _ rfl
  have q2 := hq.at' 2 _ rfl
  have q3 := hq.at' 3 _ rfl
  have q4 := hq.at' 4 _ rfl
  have q5 := hq.at' 5 _ rfl
  have q6 := hq.at' 6 _ rfl
  have q7 := hq.at' 7 _ rfl
  have q8 := hq.at' 8 _ rfl
  have q9 := hq.at' 9 _ rfl
  have q10 := hq.at' 10 _ rfl
  have q11 := hq.at' 11 _ rfl
  have q12 := hq.at' 12 _ rfl
  have q13 := hq.at' 13 _ rfl
  try simp only at q0 q1 q2 q3 q4 q5 q6 q7 q8 q9 q10 q11 q12 q13
  clear hq
  have z12 := hxa.fz 12
  have z13 := hxa.fz 13
  clear hb3 hx3 hba hxa hW3
  go_wp2_with fail
  rw [HWE.out]
  clear hWa z12 z13 HWE
  clear k0 k1 k2 k3 k4 k5 k6 k7
  clear q0 q1 q2 q3 q4 q5 q6 q7 q8 q9 q10 q11 q12 q13
  with_reducible refine HC3.out.mono ?_
  rintro e w4 ⟨hco, hb4⟩
  obtain ⟨u0, u1, u2, u3, u4, u5, u6, u7, u8, u9, rfl⟩ := check_some hco
  clear hco
  obtain ⟨W5, hW5⟩ : ∃ U, w4.alloc (.cells #[.int .i64 u0, .int .i64 u1, .string u2, .slice u3 u4 u5, .slice u6 u7 u8, .slice none 0 0, .int .i64 u9] 47) = U := ⟨_, rfl⟩
  have hb5 : Below w4.heap.size w4 W5 := by rw [← hW5]; exact (Below.refl _ _).alloc (Nat.le_refl _) _
  have hx5 : BoxN w4.heap.size [.int .i64 u0, .int .i64 u1, .string u2, .slice u3 u4 u5, .slice u6 u7 u8, .slice none 0 0, .int .i64 u9] W5 := by rw [← hW5]; exact BoxN.new w4 _ _
  have HB35 := Lib.hid (hb4.trans (hb5.mono hb4.size))
  have HB45 := Lib.hid hb5
  have HB5 := Lib.hid (HB3.out.trans (HB35.out.mono HB3.out.size))
  have HX8 := Lib.hid (fun (U : World) (hU : Below W5.heap.size W5 U) => hx5.next hU hx5.lt)
  have HU5 := Lib.hid (HUCC.out W5 HB5.out)
  have HW5 := Lib.hid hW5
  clear hb4 hb5 hx5 hW5
  go_upto_region 5 with fail
  rw [HW5.out]
  have hq := HXQ.out W5 HB35.out
  have q0 := hq.at' 0 _ rfl
  have q1 := hq.at' 1 _ rfl
  have q2 := hq.at' 2 _ rfl
  have q3 := hq.at' 3 _ rfl
  have q4 := hq.at' 4 _ rfl
  have q5 := hq.at' 5 _ rfl
  have q6 := hq.at' 6 _ rfl
  have q7 := hq.at' 7 _ rfl
  have q8 := hq.at' 8 _ rfl
  have q9 := hq.at' 9 _ rfl
  have q10 := hq.at' 10 _ rfl
  have q11 := hq.at' 11 _ rfl
  have q12 := hq.at' 12 _ rfl
  have q13 := hq.at' 13 _ rfl
  try simp only at q0 q1 q2 q3 q4 q5 q6 q7 q8 q9 q10 q11 q12 q13
  clear hq
  clear HW5
  go_wp2_with fail
  clear q0 q1 q2 q3 q4 q5 q6 q7 q8 q9 q10 q11 q12 q13
  with_reducible refine HU5.out.mono ?_
  rintro e w6 ⟨rfl, hb6⟩
  have HB56 := Lib.hid hb6
  have HB6 := Lib.hid (HB5.out.trans (hb6.mono HB5.out.size))
  clear hb6
  have hc := HCB.out w6 (HB6.out)
  have k0 := hc.k0
  have k1 := hc.k1
  have k2 := hc.k2
  have k3 := hc.k3
  have k4 := hc.k4
  have k5 := hc.k5
  have k6 := hc.k6
  have k7 := hc.k7
  try simp only at k0 k1 k2 k3 k4 k5 k6 k7
  clear hc
  have HS6 := Lib.hid (HSMM.out w6 HB6.out)
  go_wp2_with fail
  clear k0 k1 k2 k3 k4 k5 k6 k7
  with_reducible refine HS6.out.mono ?_
  rintro e w7 ⟨rfl, hb7⟩
  have HB7 := Lib.hid (HB6.out.trans (hb7.mono HB6.out.size))
  clear hb7
  go_wp2_with fail
  go_ret
  exact ⟨by first | rfl | simp, HB1.out.trans (HB7.out.mono HB1.out.size)⟩

set_option maxRecDepth 8000 in
set_option maxHeartbeats 16000000 in
theorem walk_small (w : World) (x : Circ) (p : At) (hin : InCirc w x p) (hw : WfC x) (hza : x.ands.length * 24 ≤ 140737488355328) (aA : Option Addr) (nA cA : Nat) (vs : List Value) (A : List (List Int)) (hA : Sl2 w aA nA cA vs A) (hA64 : ∀ y ∈ A.flatten, -9223372036854775808 ≤ y ∧ y ≤ 9223372036854775807)
    (kb : Nat) (hkb : kb < x.bads.length) (hu : unrE x A kb = 0) (hk : CheckOk x) (hl4 : x.lats.length ≤ 4) (hi3 : x.ins.length ≤ 3) (hm60 : x.max ≤ 60) :
    Calls Tryz.prog 5 #[.agg (cells x p), .slice aA nA cA, .int .i64 (kb : Int)] w fun e w2 => e = .returned (.bool true) ∧ Below w.heap.size w w2 := by
  obtain ⟨W1, hW1⟩ : ∃ U, w.alloc (.cells (cells x p) 27) = U := ⟨_, rfl⟩
  obtain ⟨hb1', hx1⟩ := cbox_new w x p W1 hW1
  have HB1 := Lib.hid hb1'
  have HAV := Lib.hid (EnumL.alive_any W1)
  have HCB := Lib.hid (fun (U : World) (hU : Below W1.heap.size W1 U) => hx1.next hU (Nat.le_refl _))
  have HUC := fun (U : World) (hU : Below W1.heap.size W1 U) => unroll_any U x p ((hin.next hb1').next hU) hw aA nA cA vs A ((hA.next hb1').next hU) hA64 (kb : Int) (by omega) (by have := hin.bads.big; have := hin.bads.cap; omega)
  have HCK := fun (U : World) (hU : Below W1.heap.size W1 U) => check_ok U x p ((hin.next hb1').next hU) hw aA nA cA vs A ((hA.next hb1').next hU) hA64 kb hkb hu hk (by omega) (by omega)
  rw [hu] at HUC
  have hsm : (decide (x.lats.length ≤ 4) && decide (x.ins.length ≤ 3) && decide (x.max ≤ 60)) = true := by
    simp only [Bool.and_eq_true, decide_eq_true_eq]
    exact ⟨⟨hl4, hi3⟩, hm60⟩
  have HSM := fun (U : World) (hU : Below W1.heap.size W1 U) => BadP.small_any U x p ((hin.next hb1').next hU)
  simp only [hsm] at HSM
  have HBAD := fun (U : World) (hU : Below W1.heap.size W1 U) => BadP.bad_any U x p ((hin.next hb1').next hU) hw hk hza hl4 hi3 aA nA cA vs A ((hA.next hb1').next hU) hA64 kb hkb
  have HST := fun (U : World) (hU : Below W1.heap.size W1 U) => steps_any U x p ((hin.next hb1').next hU) hw hk hza hl4 hi3 aA nA cA vs A ((hA.next hb1').next hU) hA64
  have HPAT := fun (U : World) (hU : Below W1.heap.size W1 U) => Spr.path_any U x p ((hin.next hb1').next hU) hw hk hza aA nA cA vs A ((hA.next hb1').next hU) hA64 kb hkb
  have HPRV := fun (U : World) (hU : Below W1.heap.size W1 U) => proves_any U x p ((hin.next hb1').next hU) hw hk hza hl4 hi3 aA nA cA vs A ((hA.next hb1').next hU) hA64 kb hkb
  have HASS := fun U => AllS.all_any U x.lats.length (by omega)
  simp only [EnumL.strs_txt, AllS.allS_len] at HASS
  obtain ⟨K, hK⟩ : ∃ m, 2 ^ x.lats.length = m := ⟨_, rfl⟩
  have hK16 : K ≤ 16 := by rw [← hK]; exact Nat.pow_le_pow_right (by decide) hl4
  simp only [hK] at HST HASS
  have HASS := Lib.hid HASS
  have HKL : Hid ((allL x.lats.length).length = K) := by show _ = _; rw [allL_len, hK]
  have HKP := Lib.hid hK
  have HSO : Hid (∀ out, SOut x A out → out.length = K) := fun out h => by rw [h.len, hK]
  have HL4 : Hid (x.lats.length ≤ 4) := hl4
  clear hK
  generalize x.bads[kb] = bl at *
  have hcI := hin.ins.cap
  have hgI := hin.ins.big
  have hcL := hin.lats.cap
  have hgL := hin.lats.big
  obtain ⟨a1, b1, a2, b2, a3, b3, a4, b4, a5, b5, a6, b6, a7, b7⟩ := p
  simp only [cells, qcells, zeroV] at *
  have HSMM := Lib.hid HSM
  have HBDD := Lib.hid HBAD
  have HSTT := Lib.hid HST
  have HPTT := Lib.hid HPAT
  have HPVV := Lib.hid HPRV
  have HUCC := Lib.hid HUC
  have HCKK := Lib.hid HCK
  clear hin hb1' hx1 hw hza hA hA64 HUC HCK hkb hu hk hl4 hi3 hm60 hsm HSM HBAD HST HPAT HPRV
  go_enter Tryz.func5, Tryz.ntmps5
  go_wp2_with fail
  clear hW1
  with_reducible refine HAV.out.mono ?_
  rintro e w2 ⟨rfl, hb2⟩
  have HB2 := Lib.hid hb2
  clear hb2
  have hc := HCB.out w2 (HB2.out)
  have k0 := hc.k0
  have k1 := hc.k1
  have k2 := hc.k2
  have k3 := hc.k3
  have k4 := hc.k4
  have k5 := hc.k5
  have k6 := hc.k6
  have k7 := hc.k7
  try simp only at k0 k1 k2 k3 k4 k5 k6 k7
  clear hc
  obtain ⟨Wa, hWa⟩ : ∃ U, w2.alloc (.cells #[.int .i64 x.max, .slice a1 x.ins.length b1, .slice a2 x.lats.length b2, .slice a3 x.outs.length b3, .slice a4 x.bads.length b4, .slice a5 x.invs.length b5, .slice a6 x.ands.length b6, .slice a7 x.names.length b7, .slice aA nA cA, .slice none 0 0, .slice none 0 0, .int .i64 (kb : Int), .int .i64 0, .int .i64 0] 42) = U := ⟨_, rfl⟩
  have hba : Below w2.heap.size w2 Wa := by rw [← hWa]; exact (Below.refl _ _).alloc (Nat.le_refl _) _
  have hxa : BoxN w2.heap.size (#[.int .i64 x.max, .slice a1 x.ins.length b1, .slice a2 x.lats.length b2, .slice a3 x.outs.length b3, .slice a4 x.bads.length b4, .slice a5 x.invs.length b5, .slice a6 x.ands.length b6, .slice a7 x.names.length b7, .slice aA nA cA, .slice none 0 0, .slice none 0 0, .int .i64 (kb : Int), .int .i64 0, .int .i64 0] : Array Value).toList Wa := by rw [← hWa]; exact BoxN.new w2 _ _
  try simp only at hxa
  obtain ⟨W3, hW3⟩ : ∃ U, (Wa.setCell ⟨w2.heap.size, 12, none⟩ (.int .i64 0)).setCell ⟨w2.heap.size, 13, none⟩ (.int .i64 0) = U := ⟨_, rfl⟩
  have hb3 : Below w2.heap.size w2 W3 := by rw [← hW3]; exact (hba.setCell (p := ⟨w2.heap.size, 12, none⟩) (Nat.le_refl _) _).setCell (p := ⟨w2.heap.size, 13, none⟩) (Nat.le_refl _) _
  have hx3 : BoxN w2.heap.size (#[.int .i64 x.max, .slice a1 x.ins.length b1, .slice a2 x.lats.length b2, .slice a3 x.outs.length b3, .slice a4 x.bads.length b4, .slice a5 x.invs.length b5, .slice a6 x.ands.length b6, .slice a7 x.names.length b7, .slice aA nA cA, .slice none 0 0, .slice none 0 0, .int .i64 (kb : Int), .int .i64 0, .int .i64 0] : Array Value).toList W3 := by rw [← hW3]; exact (hxa.set 12 _).set 13 _
  try simp only at hx3
  have HWE := Lib.hid hW3
  have HB3 := Lib.hid (HB2.out.trans (hb3.mono HB2.out.size))
  have HXQ := Lib.hid (fun (U : World) (hU : Below W3.heap.size W3 U) => hx3.next hU hx3.lt)
  have HC3 := Lib.hid (HCKK.out W3 HB3.out)
  have hq := hxa
  have q0 := hq.at' 0 _ rfl
  have q1 := hq.at' 1 _ rfl
  have q2 := hq.at' 2 _ rfl
  have q3 := hq.at' 3 _ rfl
  have q4 := hq.at' 4 _ rfl
  have q5 := hq.at' 5 _ rfl
  have q6 := hq.at' 6 _ rfl
  have q7 := hq.at' 7 _ rfl
  have q8 := hq.at' 8 _ rfl
  have q9 := hq.at' 9 _ rfl
  have q10 := hq.at' 10 _ rfl
  have q11 := hq.at' 11 _ rfl
  have q12 := hq.at' 12 _ rfl
  have q13 := hq.at' 13 _ rfl
  try simp only at q0 q1 q2 q3 q4 q5 q6 q7 q8 q9 q10 q11 q12 q13
  clear hq
  have z12 := hxa.fz 12
  have z13 := hxa.fz 13
  clear hb3 hx3 hba hxa hW3
  go_wp2_with fail
  rw [HWE.out]
  clear hWa z12 z13 HWE
  clear k0 k1 k2 k3 k4 k5 k6 k7
  clear q0 q1 q2 q3 q4 q5 q6 q7 q8 q9 q10 q11 q12 q13
  with_reducible refine HC3.out.mono ?_
  rintro e w4 ⟨⟨O, hkn, hOl, hco⟩, hb4⟩
  have HKN := Lib.hid hkn
  have HOL := Lib.hid hOl
  clear hkn hOl
  rcases hco with ⟨s, ib, m, s0, ins, aP, cP, hsO, hbi, hle, hT, hs0, rfl, hSP⟩ | ⟨hno, aR, cR, valsR, rfl, hSR⟩
  · have hml : ins.length = m := by have := tail_len hT; omega
    have hSL : (ins ++ [ib]).length = m + 1 := by rw [List.length_append, hml]; rfl
    have HSL := Lib.hid hSL
    have HPE : Hid (Spr.pathE x A bl s0 (ins ++ [ib]) = 0) := by
      show _ = _
      unfold Spr.pathE
      rw [if_neg (by simp)]
      exact tail_loop hT hbi
    have HIN0 : Hid (initL x s0) := HKN.out.sound _ hs0
    have HILN : Hid (∀ q ∈ ins ++ [ib], q.length = x.ins.length) := fun q hq => by
      rcases List.mem_append.1 hq with h | h
      · exact tail_ins (i0 := ib) hT q h
      · rw [List.mem_singleton.1 h]; exact (badIn_some hbi).1
    have HLE : Hid (∀ r, IsBad x A bl r → r = m) := fun r h => least_eq HKN.out hsO hbi hle h
    rw [← hSL] at hSP ⊢
    obtain ⟨np, hnp⟩ : ∃ t, (ins ++ [ib]).length = t := ⟨_, rfl⟩
    have HNP := Lib.hid hnp
    rw [hnp] at hSP ⊢
    have HSP := Lib.hid hSP
    have hcP := hSP.cap
    have hgP := hSP.big
    obtain ⟨st0, hst0⟩ : ∃ t, bs s0 = t := ⟨_, rfl⟩
    have HST0 := Lib.hid hst0
    rw [hst0]
    obtain ⟨ln, hln⟩ : ∃ l, O.length = l := ⟨_, rfl⟩
    rw [hln]
    clear hsO hbi hle hT hs0 hSP hst0 hln hml hSL hnp
    obtain ⟨W5, hW5⟩ : ∃ U, w4.alloc (.cells #[.int .i64 2, .int .i64 (kb : Int), .string st0, .slice aP np cP, .slice none 0 0, .slice none 0 0, .int .i64 ln] 47) = U := ⟨_, rfl⟩
    have hb5 : Below w4.heap.size w4 W5 := by rw [← hW5]; exact (Below.refl _ _).alloc (Nat.le_refl _) _
    have hx5 : BoxN w4.heap.size [.int .i64 2, .int .i64 (kb : Int), .string st0, .slice aP np cP, .slice none 0 0, .slice none 0 0, .int .i64 ln] W5 := by rw [← hW5]; exact BoxN.new w4 _ _
    have HB35 := Lib.hid (hb4.trans (hb5.mono hb4.size))
    have HB45 := Lib.hid hb5
    have HB5 := Lib.hid (HB3.out.trans (HB35.out.mono HB3.out.size))
    have HX8 := Lib.hid (fun (U : World) (hU : Below W5.heap.size W5 U) => hx5.next hU hx5.lt)
    have HU5 := Lib.hid (HUCC.out W5 HB5.out)
    have HW5 := Lib.hid hW5
    clear hb4 hb5 hx5 hW5
    go_upto_region 5 with fail
    rw [HW5.out]
    have hq := HXQ.out W5 HB35.out
    have q0 := hq.at' 0 _ rfl
    have q1 := hq.at' 1 _ rfl
    have q2 := hq.at' 2 _ rfl
    have q3 := hq.at' 3 _ rfl
    have q4 := hq.at' 4 _ rfl
    have q5 := hq.at' 5 _ rfl
    have q6 := hq.at' 6 _ rfl
    have q7 := hq.at' 7 _ rfl
    have q8 := hq.at' 8 _ rfl
    have q9 := hq.at' 9 _ rfl
    have q10 := hq.at' 10 _ rfl
    have q11 := hq.at' 11 _ rfl
    have q12 := hq.at' 12 _ rfl
    have q13 := hq.at' 13 _ rfl
    try simp only at q0 q1 q2 q3 q4 q5 q6 q7 q8 q9 q10 q11 q12 q13
    clear hq
    clear HW5
    go_wp2_with fail
    clear q0 q1 q2 q3 q4 q5 q6 q7 q8 q9 q10 q11 q12 q13
    with_reducible refine HU5.out.mono ?_
    rintro e w6 ⟨rfl, hb6⟩
    have HB56 := Lib.hid hb6
    have HB6 := Lib.hid (HB5.out.trans (hb6.mono HB5.out.size))
    clear hb6
    have hc := HCB.out w6 (HB6.out)
    have k0 := hc.k0
    have k1 := hc.k1
    have k2 := hc.k2
    have k3 := hc.k3
    have k4 := hc.k4
    have k5 := hc.k5
    have k6 := hc.k6
    have k7 := hc.k7
    try simp only at k0 k1 k2 k3 k4 k5 k6 k7
    clear hc
    have HS6 := Lib.hid (HSMM.out w6 HB6.out)
    go_wp2_with fail
    clear k0 k1 k2 k3 k4 k5 k6 k7
    with_reducible refine HS6.out.mono ?_
    rintro e w7 ⟨rfl, hb7⟩
    have HB57 := Lib.hid (HB56.out.trans (hb7.mono HB56.out.size))
    have HB7 := Lib.hid (HB6.out.trans (hb7.mono HB6.out.size))
    clear hb7
    have hc := HCB.out w7 (HB7.out)
    have k0 := hc.k0
    have k1 := hc.k1
    have k2 := hc.k2
    have k3 := hc.k3
    have k4 := hc.k4
    have k5 := hc.k5
    have k6 := hc.k6
    have k7 := hc.k7
    try simp only at k0 k1 k2 k3 k4 k5 k6 k7
    clear hc
    have HB7D := Lib.hid (HBDD.out w7 HB7.out)
    go_wp2_with fail
    clear k0 k1 k2 k3 k4 k5 k6 k7
    with_reducible refine HB7D.out.mono ?_
    rintro e w8 ⟨r, rfl, hr, hb8⟩
    have HB58 := Lib.hid (HB57.out.trans (hb8.mono HB57.out.size))
    have HB8 := Lib.hid (HB7.out.trans (hb8.mono HB7.out.size))
    clear hb8
    have hrm := HLE.out r hr
    clear hr
    subst hrm
    have HSW := Lib.hid ((HSP.out.next HB45.out).next HB58.out)
    have HP8 := HPTT.out w8 HB8.out s0 HIN0.out aP cP (ins ++ [ib]) (by rw [HNP.out]; exact HSW.out) HILN.out
    rw [HPE.out, HST0.out, HNP.out] at HP8
    have HP8 := Lib.hid HP8
    have hsl2 : (np : Int) = (m : Int) + 1 := by have h1 := HSL.out; rw [HNP.out] at h1; omega
    have xx := HX8.out w8 HB58.out
    have y0 := xx.at' 0 _ rfl
    have y1 := xx.at' 1 _ rfl
    have y2 := xx.at' 2 _ rfl
    have y3 := xx.at' 3 _ rfl
    have y4 := xx.at' 4 _ rfl
    have y5 := xx.at' 5 _ rfl
    have y6 := xx.at' 6 _ rfl
    try simp only at y0 y1 y2 y3 y4 y5 y6
    clear xx
    have hc := HCB.out w8 (HB8.out)
    have k0 := hc.k0
    have k1 := hc.k1
    have k2 := hc.k2
    have k3 := hc.k3
    have k4 := hc.k4
    have k5 := hc.k5
    have k6 := hc.k6
    have k7 := hc.k7
    try simp only at k0 k1 k2 k3 k4 k5 k6 k7
    clear hc
    go_wp2_with fail
    clear k0 k1 k2 k3 k4 k5 k6 k7 y0 y1 y2 y3
    with_reducible refine HP8.out.mono ?_
    rintro e w9 ⟨rfl, hb9⟩
    have HB9 := Lib.hid (HB8.out.trans (hb9.mono HB8.out.size))
    have y4 := (HX8.out w9 (HB58.out.trans (hb9.mono HB58.out.size))).at' 4 _ rfl
    try simp only at y4
    clear hb9
    go_wp2_with fail
    go_ret
    exact ⟨by first | rfl | simp, HB1.out.trans (HB9.out.mono HB1.out.size)⟩
  · have HNO : Hid (∀ r, IsBad x A bl r → r = -1) := fun r h => none_eq HKN.out hno h
    have HPR : Hid (Prf x A (outs O (allL x.lats.length)) bl) := outs_prf HKN.out hno
    have HIO : Hid (∀ s, s.length = x.lats.length → inL (outs O (allL x.lats.length)) s = has O s) := fun s hs => in_outs HKN.out hs
    have HBN : Hid (∀ y ∈ (outs O (allL x.lats.length)).flatten, -1000000 ≤ y ∧ y ≤ 1000000) := outs_bnd (by have := HL4.out; omega)
    have HUS : Hid (O.length + (outs O (allL x.lats.length)).length = K) := by show _ = _; rw [outs_used HKN.out]; exact HKP.out
    have HSR := Lib.hid hSR
    have hcR := hSR.sl.cap
    have hgR := hSR.sl.big
    clear hno hSR
    generalize outs O (allL x.lats.length) = OU at *
    obtain ⟨lo, hlo⟩ : ∃ l, OU.length = l := ⟨_, rfl⟩
    rw [hlo] at HSR hcR HUS ⊢
    obtain ⟨ln, hln⟩ : ∃ l, O.length = l := ⟨_, rfl⟩
    rw [hln] at HUS ⊢
    clear hlo hln
    obtain ⟨W5, hW5⟩ : ∃ U, w4.alloc (.cells #[.int .i64 1, .int .i64 0, .string ⟨#[]⟩, .slice none 0 0, .slice aR lo cR, .slice none 0 0, .int .i64 ln] 47) = U := ⟨_, rfl⟩
    have hb5 : Below w4.heap.size w4 W5 := by rw [← hW5]; exact (Below.refl _ _).alloc (Nat.le_refl _) _
    have hx5 : BoxN w4.heap.size [.int .i64 1, .int .i64 0, .string ⟨#[]⟩, .slice none 0 0, .slice aR lo cR, .slice none 0 0, .int .i64 ln] W5 := by rw [← hW5]; exact BoxN.new w4 _ _
    have HB35 := Lib.hid (hb4.trans (hb5.mono hb4.size))
    have HB45 := Lib.hid hb5
    have HB5 := Lib.hid (HB3.out.trans (HB35.out.mono HB3.out.size))
    have HX8 := Lib.hid (fun (U : World) (hU : Below W5.heap.size W5 U) => hx5.next hU hx5.lt)
    have HU5 := Lib.hid (HUCC.out W5 HB5.out)
    have HW5 := Lib.hid hW5
    clear hb4 hb5 hx5 hW5
    go_upto_region 5 with fail
    rw [HW5.out]
    have hq := HXQ.out W5 HB35.out
    have q0 := hq.at' 0 _ rfl
    have q1 := hq.at' 1 _ rfl
    have q2 := hq.at' 2 _ rfl
    have q3 := hq.at' 3 _ rfl
    have q4 := hq.at' 4 _ rfl
    have q5 := hq.at' 5 _ rfl
    have q6 := hq.at' 6 _ rfl
    have q7 := hq.at' 7 _ rfl
    have q8 := hq.at' 8 _ rfl
    have q9 := hq.at' 9 _ rfl
    have q10 := hq.at' 10 _ rfl
    have q11 := hq.at' 11 _ rfl
    have q12 := hq.at' 12 _ rfl
    have q13 := hq.at' 13 _ rfl
    try simp only at q0 q1 q2 q3 q4 q5 q6 q7 q8 q9 q10 q11 q12 q13
    clear hq
    clear HW5
    go_wp2_with fail
    clear q0 q1 q2 q3 q4 q5 q6 q7 q8 q9 q10 q11 q12 q13
    with_reducible refine HU5.out.mono ?_
    rintro e w6 ⟨rfl, hb6⟩
    have HB56 := Lib.hid hb6
    have HB6 := Lib.hid (HB5.out.trans (hb6.mono HB5.out.size))
    clear hb6
    have hc := HCB.out w6 (HB6.out)
    have k0 := hc.k0
    have k1 := hc.k1
    have k2 := hc.k2
    have k3 := hc.k3
    have k4 := hc.k4
    have k5 := hc.k5
    have k6 := hc.k6
    have k7 := hc.k7
    try simp only at k0 k1 k2 k3 k4 k5 k6 k7
    clear hc
    have HS6 := Lib.hid (HSMM.out w6 HB6.out)
    go_wp2_with fail
    clear k0 k1 k2 k3 k4 k5 k6 k7
    with_reducible refine HS6.out.mono ?_
    rintro e w7 ⟨rfl, hb7⟩
    have HB57 := Lib.hid (HB56.out.trans (hb7.mono HB56.out.size))
    have HB7 := Lib.hid (HB6.out.trans (hb7.mono HB6.out.size))
    clear hb7
    have hc := HCB.out w7 (HB7.out)
    have k0 := hc.k0
    have k1 := hc.k1
    have k2 := hc.k2
    have k3 := hc.k3
    have k4 := hc.k4
    have k5 := hc.k5
    have k6 := hc.k6
    have k7 := hc.k7
    try simp only at k0 k1 k2 k3 k4 k5 k6 k7
    clear hc
    have HB7D := Lib.hid (HBDD.out w7 HB7.out)
    go_wp2_with fail
    clear k0 k1 k2 k3 k4 k5 k6 k7
    with_reducible refine HB7D.out.mono ?_
    rintro e w8 ⟨r, rfl, hr, hb8⟩
    have HB58 := Lib.hid (HB57.out.trans (hb8.mono HB57.out.size))
    have HB8 := Lib.hid (HB7.out.trans (hb8.mono HB7.out.size))
    clear hb8
    have hrm := HNO.out r hr
    clear hr
    subst hrm
    have HSW := Lib.hid (fun (U : World) (hU : Below W5.heap.size W5 U) => (HSR.out.next HB45.out).next hU)
    have hc := HCB.out w8 (HB8.out)
    have k0 := hc.k0
    have k1 := hc.k1
    have k2 := hc.k2
    have k3 := hc.k3
    have k4 := hc.k4
    have k5 := hc.k5
    have k6 := hc.k6
    have k7 := hc.k7
    try simp only at k0 k1 k2 k3 k4 k5 k6 k7
    clear hc
    have HS8 := Lib.hid (HSTT.out w8 HB8.out)
    go_wp2_with fail
    clear k0 k1 k2 k3 k4 k5 k6 k7
    with_reducible refine HS8.out.mono ?_
    rintro e w9 ⟨g, out, rfl, hbx, hso, hgg, hb9⟩
    have HBX := Lib.hid hbx
    have HSU := Lib.hid hso
    have HB9 := Lib.hid (HB8.out.trans (hb9.mono HB8.out.size))
    have HB59 := Lib.hid (HB58.out.trans (hb9.mono HB58.out.size))
    clear hbx hso hgg hb9
    have hc := HCB.out w9 HB9.out
    have k2 := hc.k2
    try simp only at k2
    clear hc
    go_wp2_with fail
    with_reducible refine (HASS.out w9).mono ?_
    rintro e w10 ⟨aI, cI, rfl, ho10, hb10⟩
    have HSI := Lib.hid (own_sl' ho10)
    have HB10 := Lib.hid (HB9.out.trans (hb10.mono HB9.out.size))
    have HB510 := Lib.hid (HB59.out.trans (hb10.mono HB59.out.size))
    have HBX10 := Lib.hid (HBX.out.next hb10 HBX.out.lt)
    have hcK := HSI.out.cap
    have hgK := HSI.out.big
    clear k2 ho10 hb10
    go_wp2_with fail
    go_loopw [13] (fun u wr => ∃ (i : Nat), i ≤ K ∧ u = .int .i64 i ∧ Hid (Below w10.heap.size w10 wr)) (fun u _ => K - (intOf u).toNat)
    case atStart => exact ⟨0, Nat.zero_le _, rfl, Below.refl _ _⟩
    case round =>
      obtain ⟨i, hi, rfl, hB⟩ := hrel
      by_cases hlt : i < K
      · obtain ⟨bi, oi, hx, hae, hbs, d0⟩ := txt_at (HSI.out.next hB.out) hlt
        try simp only at hae
        obtain ⟨_, _, _, ht1, hbs2, _⟩ := HSI.out.at hlt
        rw [hae] at ht1
        simp only [Option.some.injEq, Addr.mk.injEq] at ht1
        rw [← ht1.1] at hbs2
        clear ht1
        subst hae
        have hs := List.getElem?_eq_getElem hx
        have htl := at_len _ _ _ hs
        have hol : i < out.length := by rw [HSO.out out HSU.out]; exact hlt
        obtain ⟨v0, hv0⟩ : ∃ v, out[i]? = some v := ⟨_, List.getElem?_eq_getElem hol⟩
        have hiq : inL OU (allL x.lats.length)[i] = decide (0 ≤ v0) := by
          rw [HIO.out _ htl]
          by_cases h0 : 0 ≤ v0
          · rw [decide_eq_true h0]; exact (seen_yes HSU.out HKN.out hs hv0 h0).1
          · rw [decide_eq_false h0]; exact seen_no HSU.out HKN.out hs hv0 (by omega)
        have HBD := Lib.hid (hB.out.trans (Below.refl _ _).drew)
        have H5D := Lib.hid (HB510.out.trans (HBD.out.mono HB510.out.size))
        have HI5 := in_any wr.drew aR lo cR valsR OU (HSW.out _ H5D.out) HBN.out (allL x.lats.length)[i] (by rw [htl]; have := HL4.out; omega)
        rw [hiq] at HI5
        have D0 : Hid (∀ U, Below w10.heap.size w10 U → U.cell? ⟨bi, oi + i, none⟩ = some (.string (bs (allL x.lats.length)[i]))) := fun U hU => (hU.cell (p := ⟨bi, oi + i, none⟩) hbs2).trans (((hB.out.cell (p := ⟨bi, oi + i, none⟩) hbs2).symm).trans d0)
        have E0 : Hid (∀ U, Below w10.heap.size w10 U → U.cell? ⟨g, i, none⟩ = some (.int .i64 v0)) := fun U hU => (HBX10.out.next hU HBX10.out.lt).at' i _ (ints_get hv0)
        clear d0 hbs hs htl hol hv0 hiq
        generalize bs (allL x.lats.length)[i] = sB at *
        have HI5 := Lib.hid HI5
        clear hx
        have hSK : ∀ U : World, Below w10.heap.size w10 U → U.cell? ⟨w4.heap.size, 4, none⟩ = some (.slice aR lo cR) ∧ U.cell? ⟨bi, oi + i, none⟩ = some (.string sB) ∧ U.cell? ⟨g, i, none⟩ = some (.int .i64 v0) := fun U hU => by
          have d := HX8.out U (HB510.out.trans (hU.mono HB510.out.size))
          exact ⟨d.at' 4 _ rfl, D0.out U hU, E0.out U hU⟩
        have hS0 := hSK _ HBD.out
        have hiI : (i : Int) < (K : Int) := by omega
        go_upto_region 17 with fail
        refine HeldAll.region (fun U : World => U.cell? ⟨w4.heap.size, 4, none⟩ = some (.slice aR lo cR) ∧ U.cell? ⟨bi, oi + i, none⟩ = some (.string sB) ∧ U.cell? ⟨g, i, none⟩ = some (.int .i64 v0)) (by kernel_rfl) ?_
        (refine HeldAll.take (i := 0) (oi := _) (d := some 95) (v := ?_) rfl rfl (by kernel_rfl) (by kernel_rfl) (by kernel_rfl) (fun _ _ _ h => h) (Or.inl ⟨by rfl, ?_⟩) hS0 ?_; rotate_left; (focus (intro w hSw; clear hSw; go_simp; (try with_reducible rfl); done)); (try simp only [Act.put, List.setIfInBounds_toArray, List.set_cons_zero, List.set_cons_succ]))
        (refine HeldAll.take (i := 1) (oi := _) (d := some 96) (v := ?_) rfl rfl (by kernel_rfl) (by kernel_rfl) (by kernel_rfl) (fun _ _ _ h => h) (Or.inl ⟨by rfl, ?_⟩) hS0 ?_; rotate_left; (focus (intro w hSw; clear hSw; go_simp; (try with_reducible rfl); done)); (try simp only [Act.put, List.setIfInBounds_toArray, List.set_cons_zero, List.set_cons_succ]))
        (refine HeldAll.take (i := 2) (oi := _) (d := some 97) (v := ?_) rfl rfl (by kernel_rfl) (by kernel_rfl) (by kernel_rfl) (fun _ _ _ h => h) (Or.inl ⟨by rfl, ?_⟩) hS0 ?_; rotate_left; (focus (intro w hSw; clear hSw; go_simp; (try with_reducible rfl); done)); (try simp only [Act.put, List.setIfInBounds_toArray, List.set_cons_zero, List.set_cons_succ]))
        (refine HeldAll.take (i := 3) (oi := _) (d := some 98) (v := ?_) rfl rfl (by kernel_rfl) (by kernel_rfl) (by kernel_rfl) (fun _ _ _ h => h) (Or.inl ⟨by rfl, ?_⟩) hS0 ?_; rotate_left; (focus (intro w hSw; (try dsimp only at hSw); go_simp; (try with_reducible rfl); done)); (try simp only [Act.put, List.setIfInBounds_toArray, List.set_cons_zero, List.set_cons_succ]))
        (refine HeldAll.take (i := 4) (oi := _) (d := some 99) (v := ?_) rfl rfl (by kernel_rfl) (by kernel_rfl) (by kernel_rfl) (fun _ _ _ h => h) (Or.inl ⟨by rfl, ?_⟩) hS0 ?_; rotate_left; (focus (intro w hSw; clear hSw; go_simp; (try with_reducible rfl); done)); (try simp only [Act.put, List.setIfInBounds_toArray, List.set_cons_zero, List.set_cons_succ]))
        (refine HeldAll.take (i := 5) (oi := _) (d := some 100) (v := ?_) rfl rfl (by kernel_rfl) (by kernel_rfl) (by kernel_rfl) (fun _ _ _ h => h) (Or.inl ⟨by rfl, ?_⟩) hS0 ?_; rotate_left; (focus (intro w hSw; clear hSw; go_simp; (try with_reducible rfl); done)); (try simp only [Act.put, List.setIfInBounds_toArray, List.set_cons_zero, List.set_cons_succ]))
        (refine HeldAll.take (i := 6) (oi := _) (d := some 101) (v := ?_) rfl rfl (by kernel_rfl) (by kernel_rfl) (by kernel_rfl) (fun _ _ _ h => h) (Or.inl ⟨by rfl, ?_⟩) hS0 ?_; rotate_left; (focus (intro w hSw; (try dsimp only at hSw); go_simp; (try with_reducible rfl); done)); (try simp only [Act.put, List.setIfInBounds_toArray, List.set_cons_zero, List.set_cons_succ]))
        (refine HeldAll.take (i := 7) (oi := _) (d := some 102) (v := ?_) rfl rfl (by kernel_rfl) (by kernel_rfl) (by kernel_rfl) (fun _ _ _ h => h) (Or.inl ⟨by rfl, ?_⟩) hS0 ?_; rotate_left; (focus (intro w hSw; clear hSw; go_simp; (try with_reducible rfl); done)); (try simp only [Act.put, List.setIfInBounds_toArray, List.set_cons_zero, List.set_cons_succ]))
        (refine HeldAll.take (i := 8) (oi := _) (d := some 103) (v := ?_) rfl rfl (by kernel_rfl) (by kernel_rfl) (by kernel_rfl) (fun _ _ _ h => h) (Or.inl ⟨by rfl, ?_⟩) hS0 ?_; rotate_left; (focus (intro w hSw; clear hSw; go_simp; (try with_reducible rfl); done)); (try simp only [Act.put, List.setIfInBounds_toArray, List.set_cons_zero, List.set_cons_succ]))
        (refine HeldAll.take (i := 9) (oi := _) (d := some 104) (v := ?_) rfl rfl (by kernel_rfl) (by kernel_rfl) (by kernel_rfl) (fun _ _ _ h => h) (Or.inl ⟨by rfl, ?_⟩) hS0 ?_; rotate_left; (focus (intro w hSw; clear hSw; go_simp; (try with_reducible rfl); done)); (try simp only [Act.put, List.setIfInBounds_toArray, List.set_cons_zero, List.set_cons_succ]))
        (refine HeldAll.take (i := 10) (oi := _) (d := some 105) (v := ?_) rfl rfl (by kernel_rfl) (by kernel_rfl) (by kernel_rfl) (fun _ _ _ h => h) (Or.inl ⟨by rfl, ?_⟩) hS0 ?_; rotate_left; (focus (intro w hSw; (try dsimp only at hSw); go_simp; (try with_reducible rfl); done)); (try simp only [Act.put, List.setIfInBounds_toArray, List.set_cons_zero, List.set_cons_succ]))
        refine HeldAll.one (i := 11) (by kernel_rfl) ?_
        refine HeldAll.opCall (i := 11) (oi := _) (d := some 106) (R := fun v w' => v = .bool (decide (0 ≤ v0)) ∧ w' = wr.drew) rfl rfl (by rfl) (by go_simp; done) (HI5.out.mono fun e w' h => ⟨_, h.1, rfl, h.2⟩) ?_
        rintro v w11 ⟨rfl, rfl⟩
        refine ⟨hSK _ HBD.out, ?_⟩
        (try simp only [Act.put, List.setIfInBounds_toArray, List.set_cons_zero, List.set_cons_succ])
        generalize decide (0 ≤ v0) = dv at *
        cases dv
        all_goals
          (refine HeldAll.take (i := 12) (oi := _) (d := some 107) (v := ?_) rfl rfl (by kernel_rfl) (by kernel_rfl) (by kernel_rfl) (fun _ _ _ h => h) (Or.inl ⟨by rfl, ?_⟩) hS0 ?_; rotate_left; (focus (intro w hSw; clear hSw; go_simp; (try with_reducible rfl); done)); (try simp only [Act.put, List.setIfInBounds_toArray, List.set_cons_zero, List.set_cons_succ]))
          refine HeldAll.done (by kernel_rfl) ?_ _
          clear hS0 hSK hiI
          go_wp2_with fail
          go_roundw
          case rel => exact ⟨i + 1, by omega, by go_num, HBD.out⟩
          case measure => simp [intOf]; omega
      · have HB11 := Lib.hid (HB10.out.trans (hB.out.mono HB10.out.size))
        have H511 := Lib.hid (HB510.out.trans (hB.out.mono HB510.out.size))
        have xx := HX8.out wr H511.out
        have y0 := xx.at' 0 _ rfl
        have y4 := xx.at' 4 _ rfl
        try simp only at y0 y4
        clear xx
        have hc := HCB.out wr (HB11.out)
        have k0 := hc.k0
        have k1 := hc.k1
        have k2 := hc.k2
        have k3 := hc.k3
        have k4 := hc.k4
        have k5 := hc.k5
        have k6 := hc.k6
        have k7 := hc.k7
        try simp only at k0 k1 k2 k3 k4 k5 k6 k7
        clear hc
        have HPV := Lib.hid (HPVV.out wr HB11.out aR lo cR valsR OU (HSW.out wr H511.out) HBN.out HPR.out)
        have hus : (ln : Int) + (lo : Int) = (K : Int) := by have := HUS.out; omega
        go_wp2_with fail
        clear k0 k1 k2 k3 k4 k5 k6 k7 y0 y4
        with_reducible refine HPV.out.mono ?_
        rintro e w12 ⟨rfl, hb12⟩
        have HB12 := Lib.hid (HB11.out.trans (hb12.mono HB11.out.size))
        have xx := HX8.out w12 (H511.out.trans (hb12.mono H511.out.size))
        have y4 := xx.at' 4 _ rfl
        have y6 := xx.at' 6 _ rfl
        try simp only at y4 y6
        clear xx hb12
        go_wp2_with fail
        go_ret
        exact ⟨by first | rfl | simp, HB1.out.trans (HB12.out.mono HB1.out.size)⟩

theorem walk (x : Circ) (p : At) {w : World} (hin : InCirc w x p) (hw : WfC x) (hz : Open.SizedCirc x) (aA : Option Addr) (cA : Nat) (A : List (List Int)) (vals : List Value) (hA : Sl2 w aA A.length cA vals A) (hwA : ∀ l ∈ A, Clause.Wf l) (bad : Int) (hb : -9223372036854775808 ≤ bad ∧ bad ≤ 9223372036854775807) (W : World) (hW : W = w) :
    Calls Tryz.prog 5 #[.agg (cells x p), .slice aA A.length cA, .int .i64 bad] W fun e W' => e = .returned (.bool true) ∧ Below W.heap.size W W' := by
  subst hW
  have h64 : ∀ y ∈ A.flatten, -9223372036854775808 ≤ y ∧ y ≤ 9223372036854775807 := fun y hy => by
    obtain ⟨l, hl, hyl⟩ := List.mem_flatten.1 hy
    exact hwA l hl y hyl
  have hza : x.ands.length * 24 ≤ 140737488355328 := by have := hz.ands; omega
  by_cases hu : unrE x A bad = 0
  · obtain ⟨hk, g0, g1, _⟩ := unrE_zero hu
    obtain ⟨kb, rfl⟩ : ∃ k : Nat, bad = (k : Int) := ⟨bad.toNat, by omega⟩
    by_cases h2 : 10 < x.lats.length ∨ 10 < x.ins.length
    · exact walk_long W x p hin hw hza aA _ cA vals A hA h64 kb hb.1 hb.2 hu hk h2
    · by_cases h3 : x.lats.length ≤ 4 ∧ x.ins.length ≤ 3 ∧ x.max ≤ 60
      · exact walk_small W x p hin hw hza aA _ cA vals A hA h64 kb (by omega) hu hk h3.1 h3.2.1 h3.2.2
      · exact walk_big W x p hin hw hza aA _ cA vals A hA h64 kb (by omega) hu hk (by omega) (by omega) h3
  · exact walk_no W x p hin hw hza aA _ cA vals A hA h64 bad hb.1 hb.2 hu
end Go.Proofs.YtjmmhbmbafjneaaGreatDoor.enumTells
