/-
  interlocklaw28.EnumLeast (written by enumleast.py).
-/
import Derived.Test.YtjmmhbmbafjneaaGreatDoorEnumTM1
import Derived.Test.YtjmmhbmbafjneaaGreatDoorEnumTM2
import Derived.Test.YtjmmhbmbafjneaaGreatDoorEnumTM3
import Derived.Test.YtjmmhbmbafjneaaGreatDoorEnumTM4
import Derived.Test.YtjmmhbmbafjneaaGreatDoorEnumTM5
import Derived.Test.YtjmmhbmbafjneaaGreatDoorEnumTM6
import Derived.Test.YtjmmhbmbafjneaaGreatDoorEnumTM7
import Derived.Test.YtjmmhbmbafjneaaGreatDoorOpenCirc
namespace Go.Proofs.YtjmmhbmbafjneaaGreatDoor.enumLeast
open Go.RowKit Base Go.Maps
set_option linter.unusedVariables false
set_option linter.unusedSimpArgs false
open Circuit BadP StrashP SimV EnumA EnumP GetI MapG Coi EnumW EnumC Order Unroll RefIn

theorem check_some {x : Circ} {A : List (List Int)} {kb : Nat} {bl : Int} {B : Nat} {e : Ending} {w2 : World} (h : CheckOut x A kb bl B e w2) : ∃ u0 u1 u2 u3 u4 u5 u6 u7 u8 u9, e = .returned (.tuple #[.agg #[.int .i64 u0, .int .i64 u1, .string u2, .slice u3 u4 u5, .slice u6 u7 u8, .slice none 0 0, .int .i64 u9], .int .i64 0]) := by
  obtain ⟨O, _, _, ⟨_, _, _, _, _, _, _, _, _, _, _, _, rfl, _⟩ | ⟨_, _, _, _, rfl, _⟩⟩ := h
  · exact ⟨_, _, _, _, _, _, _, _, _, _, rfl⟩
  · exact ⟨_, _, _, _, _, _, _, _, _, _, rfl⟩

set_option maxRecDepth 8000 in
set_option maxHeartbeats 16000000 in
theorem walk_no (w : World) (x : Circ) (p : At) (hin : InCirc w x p) (hw : WfC x) (hza : x.ands.length * 24 ≤ 140737488355328) (aA : Option Addr) (nA cA : Nat) (vs : List Value) (A : List (List Int)) (hA : Sl2 w aA nA cA vs A) (hA64 : ∀ y ∈ A.flatten, -9223372036854775808 ≤ y ∧ y ≤ 9223372036854775807)
    (bad : Int) (hb0 : -9223372036854775808 ≤ bad) (hb1 : bad ≤ 9223372036854775807) (hne : unrE x A bad ≠ 0) :
    Calls Tryz.prog 6 #[.agg (cells x p), .slice aA nA cA, .int .i64 bad] w fun e w2 => e = .returned (.bool true) ∧ Below w.heap.size w w2 := by
  obtain ⟨W1, hW1⟩ : ∃ U, w.alloc (.cells (cells x p) 27) = U := ⟨_, rfl⟩
  obtain ⟨hb1', hx1⟩ := cbox_new w x p W1 hW1
  have HB1 := Lib.hid hb1'
  have HAV := Lib.hid (EnumL.alive_any W1)
  have HCB := Lib.hid (fun (U : World) (hU : Below W1.heap.size W1 U) => hx1.next hU (Nat.le_refl _))
  have HUC := fun (U : World) (hU : Below W1.heap.size W1 U) => unroll_any U x p ((hin.next hb1').next hU) hw aA nA cA vs A ((hA.next hb1').next hU) hA64 bad hb0 hb1
  have HCK := fun (U : World) (hU : Below W1.heap.size W1 U) => check_no U x p ((hin.next hb1').next hU) hw aA nA cA vs A ((hA.next hb1').next hU) hA64 bad hb0 hb1 hne
  have hnb : (unrE x A bad != 0) = true := by simpa using hne
  have hnb2 : ¬ unrE x A bad = 0 := hne
  generalize unrE x A bad = er at *
  have hcI := hin.ins.cap
  have hgI := hin.ins.big
  have hcL := hin.lats.cap
  have hgL := hin.lats.big
  obtain ⟨a1, b1, a2, b2, a3, b3, a4, b4, a5, b5, a6, b6, a7, b7⟩ := p
  simp only [cells, qcells, zeroV] at *
  have HUCC := Lib.hid HUC
  have HCKK := Lib.hid HCK
  clear hin hb1' hx1 hw hza hA hA64 HUC HCK hb0 hb1 hne
  go_enter Tryz.func6, Tryz.ntmps6
  go_wp2_with fail
  clear hW1
  with_reducible refine HAV.out.mono ?_
  rintro e w2 ⟨rfl, hb2⟩
  have HB2 := Lib.hid hb2
  clear hb2
  have hc := HCB.out w2 (HB2.out)
  have k0 := hc.k0
  have k1 := hc.k1
  have k2 := hc.k2
  have k3 := hc.k3
  have k4 := hc.k4
  have k5 := hc.k5
  have k6 := hc.k6
  have k7 := hc.k7
  try simp only at k0 k1 k2 k3 k4 k5 k6 k7
  clear hc
  obtain ⟨Wa, hWa⟩ : ∃ U, w2.alloc (.cells #[.int .i64 x.max, .slice a1 x.ins.length b1, .slice a2 x.lats.length b2, .slice a3 x.outs.length b3, .slice a4 x.bads.length b4, .slice a5 x.invs.length b5, .slice a6 x.ands.length b6, .slice a7 x.names.length b7, .slice aA nA cA, .slice none 0 0, .slice none 0 0, .int .i64 bad, .int .i64 0, .int .i64 0] 42) = U := ⟨_, rfl⟩
  have hba : Below w2.heap.size w2 Wa := by rw [← hWa]; exact (Below.refl _ _).alloc (Nat.le_refl _) _
  have hxa : BoxN w2.heap.size (#[.int .i64 x.max, .slice a1 x.ins.length b1, .slice a2 x.lats.length b2, .slice a3 x.outs.length b3, .slice a4 x.bads.length b4, .slice a5 x.invs.length b5, .slice a6 x.ands.length b6, .slice a7 x.names.length b7, .slice aA nA cA, .slice none 0 0, .slice none 0 0, .int .i64 bad, .int .i64 0, .int .i64 0] : Array Value).toList Wa := by rw [← hWa]; exact BoxN.new w2 _ _
  try simp only at hxa
  obtain ⟨W3, hW3⟩ : ∃ U, (Wa.setCell ⟨w2.heap.size, 12, none⟩ (.int .i64 0)).setCell ⟨w2.heap.size, 13, none⟩ (.int .i64 0) = U := ⟨_, rfl⟩
  have hb3 : Below w2.heap.size w2 W3 := by rw [← hW3]; exact (hba.setCell (p := ⟨w2.heap.size, 12, none⟩) (Nat.le_refl _) _).setCell (p := ⟨w2.heap.size, 13, none⟩) (Nat.le_refl _) _
  have hx3 : BoxN w2.heap.size (#[.int .i64 x.max, .slice a1 x.ins.length b1, .slice a2 x.lats.length b2, .slice a3 x.outs.length b3, .slice a4 x.bads.length b4, .slice a5 x.invs.length b5, .slice a6 x.ands.length b6, .slice a7 x.names.length b7, .slice aA nA cA, .slice none 0 0, .slice none 0 0, .int .i64 bad, .int .i64 0, .int .i64 0] : Array Value).toList W3 := by rw [← hW3]; exact (hxa.set 12 _).set 13 _
  try simp only at hx3
  have HWE := Lib.hid hW3
  have HB3 := Lib.hid (HB2.out.trans (hb3.mono HB2.out.size))
  have HXQ := Lib.hid (fun (U : World) (hU : Below W3.heap.size W3 U) => hx3.next hU hx3.lt)
  have HC3 := Lib.hid (HCKK.out W3 HB3.out)
  have hq := hxa
  have q0 := hq.at' 0 _ rfl
  have q1 := hq.at' 1 _ rfl
  have q2 := hq.at' 2 _ rfl
  have q3 := hq.at' 3 _ rfl
  have q4 := hq.at' 4 _ rfl
  have q5 := hq.at' 5 _ rfl
  have q6 := hq.at' 6 _ rfl
  have q7 := hq.at' 7 _ rfl
  have q8 := hq.at' 8 _ rfl
  have q9 := hq.at' 9 _ rfl
  have q10 := hq.at' 10 _ rfl
  have q11 := hq.at' 11 _ rfl
  have q12 := hq.at' 12 _ rfl
  have q13 := hq.at' 13 _ rfl
  try simp only at q0 q1 q2 q3 q4 q5 q6 q7 q8 q9 q10 q11 q12 q13
  clear hq
  have z12 := hxa.fz 12
  have z13 := hxa.fz 13
  clear hb3 hx3 hba hxa hW3
  go_wp2_with fail
  rw [HWE.out]
  clear hWa z12 z13 HWE
  clear k0 k1 k2 k3 k4 k5 k6 k7
  clear q0 q1 q2 q3 q4 q5 q6 q7 q8 q9 q10 q11 q12 q13
  with_reducible refine HC3.out.mono ?_
  rintro e w4 ⟨rfl, hb4⟩
  obtain ⟨W5, hW5⟩ : ∃ U, w4.alloc (.cells #[.int .i64 0, .int .i64 0, .string ⟨#[]⟩, .slice none 0 0, .slice none 0 0, .slice none 0 0, .int .i64 0] 47) = U := ⟨_, rfl⟩
  have hb5 : Below w4.heap.size w4 W5 := by rw [← hW5]; exact (Below.refl _ _).alloc (Nat.le_refl _) _
  have hx5 : BoxN w4.heap.size [.int .i64 0, .int .i64 0, .string ⟨#[]⟩, .slice none 0 0, .slice none 0 0, .slice none 0 0, .int .i64 0] W5 := by rw [← hW5]; exact BoxN.new w4 _ _
  have HB35 := Lib.hid (hb4.trans (hb5.mono hb4.size))
  have HB45 := Lib.hid hb5
  have HB5 := Lib.hid (HB3.out.trans (HB35.out.mono HB3.out.size))
  have HX8 := Lib.hid (fun (U : World) (hU : Below W5.heap.size W5 U) => hx5.next hU hx5.lt)
  have HW5 := Lib.hid hW5
  clear hb4 hb5 hW5
  go_upto_region 5 with fail
  rw [HW5.out]
  clear HW5
  have y0 := hx5.at' 0 _ rfl
  try simp only at y0
  clear hx5
  go_wp2_with fail
  go_ret
  exact ⟨by first | rfl | simp, HB1.out.trans (HB5.out.mono HB1.out.size)⟩

set_option maxRecDepth 8000 in
set_option maxHeartbeats 16000000 in
theorem walk_long (w : World) (x : Circ) (p : At) (hin : InCirc w x p) (hw : WfC x) (hza : x.ands.length * 24 ≤ 140737488355328) (aA : Option Addr) (nA cA : Nat) (vs : List Value) (A : List (List Int)) (hA : Sl2 w aA nA cA vs A) (hA64 : ∀ y ∈ A.flatten, -9223372036854775808 ≤ y ∧ y ≤ 9223372036854775807)
    (bad : Int) (hb0 : -9223372036854775808 ≤ bad) (hb1 : bad ≤ 9223372036854775807) (hu : unrE x A bad = 0) (hk : CheckOk x) (hlg : 10 < x.lats.length ∨ 10 < x.ins.length) :
    Calls Tryz.prog 6 #[.agg (cells x p), .slice aA nA cA, .int .i64 bad] w fun e w2 => e = .returned (.bool true) ∧ Below w.heap.size w w2 := by
  obtain ⟨W1, hW1⟩ : ∃ U, w.alloc (.cells (cells x p) 27) = U := ⟨_, rfl⟩
  obtain ⟨hb1', hx1⟩ := cbox_new w x p W1 hW1
  have HB1 := Lib.hid hb1'
  have HAV := Lib.hid (EnumL.alive_any W1)
  have HCB := Lib.hid (fun (U : World) (hU : Below W1.heap.size W1 U) => hx1.next hU (Nat.le_refl _))
  have HUC := fun (U : World) (hU : Below W1.heap.size W1 U) => unroll_any U x p ((hin.next hb1').next hU) hw aA nA cA vs A ((hA.next hb1').next hU) hA64 bad hb0 hb1
  have HCK := fun (U : World) (hU : Below W1.heap.size W1 U) => check_big U x p ((hin.next hb1').next hU) hw aA nA cA vs A ((hA.next hb1').next hU) hA64 bad hb0 hb1 hu (by rw [small_long hk hlg]; decide)
  simp only [small_long hk hlg] at HCK
  have hcI := hin.ins.cap
  have hgI := hin.ins.big
  have hcL := hin.lats.cap
  have hgL := hin.lats.big
  obtain ⟨a1, b1, a2, b2, a3, b3, a4, b4, a5, b5, a6, b6, a7, b7⟩ := p
  simp only [cells, qcells, zeroV] at *
  have HUCC := Lib.hid HUC
  have HCKK := Lib.hid HCK
  clear hin hb1' hx1 hw hza hA hA64 HUC HCK hb0 hb1 hu hk hlg
  go_enter Tryz.func6, Tryz.ntmps6
  go_wp2_with fail
  clear hW1
  with_reducible refine HAV.out.mono ?_
  rintro e w2 ⟨rfl, hb2⟩
  have HB2 := Lib.hid hb2
  clear hb2
  have hc := HCB.out w2 (HB2.out)
  have k0 := hc.k0
  have k1 := hc.k1
  have k2 := hc.k2
  have k3 := hc.k3
  have k4 := hc.k4
  have k5 := hc.k5
  have k6 := hc.k6
  have k7 := hc.k7
  try simp only at k0 k1 k2 k3 k4 k5 k6 k7
  clear hc
  obtain ⟨Wa, hWa⟩ : ∃ U, w2.alloc (.cells #[.int .i64 x.max, .slice a1 x.ins.length b1, .slice a2 x.lats.length b2, .slice a3 x.outs.length b3, .slice a4 x.bads.length b4, .slice a5 x.invs.length b5, .slice a6 x.ands.length b6, .slice a7 x.names.length b7, .slice aA nA cA, .slice none 0 0, .slice none 0 0, .int .i64 bad, .int .i64 0, .int .i64 0] 42) = U := ⟨_, rfl⟩
  have hba : Below w2.heap.size w2 Wa := by rw [← hWa]; exact (Below.refl _ _).alloc (Nat.le_refl _) _
  have hxa : BoxN w2.heap.size (#[.int .i64 x.max, .slice a1 x.ins.length b1, .slice a2 x.lats.length b2, .slice a3 x.outs.length b3, .slice a4 x.bads.length b4, .slice a5 x.invs.length b5, .slice a6 x.ands.length b6, .slice a7 x.names.length b7, .slice aA nA cA, .slice none 0 0, .slice none 0 0, .int .i64 bad, .int .i64 0, .int .i64 0] : Array Value).toList Wa := by rw [← hWa]; exact BoxN.new w2 _ _
  try simp only at hxa
  obtain ⟨W3, hW3⟩ : ∃ U, (Wa.setCell ⟨w2.heap.size, 12, none⟩ (.int .i64 0)).setCell ⟨w2.heap.size, 13, none⟩ (.int .i64 0) = U := ⟨_, rfl⟩
  have hb3 : Below w2.heap.size w2 W3 := by rw [← hW3]; exact (hba.setCell (p := ⟨w2.heap.size, 12, none⟩) (Nat.le_refl _) _).setCell (p := ⟨w2.heap.size, 13, none⟩) (Nat.le_refl _) _
  have hx3 : BoxN w2.heap.size (#[.int .i64 x.max, .slice a1 x.ins.length b1, .slice a2 x.lats.length b2, .slice a3 x.outs.length b3, .slice a4 x.bads.length b4, .slice a5 x.invs.length b5, .slice a6 x.ands.length b6, .slice a7 x.names.length b7, .slice aA nA cA, .slice none 0 0, .slice none 0 0, .int .i64 bad, .int .i64 0, .int .i64 0] : Array Value).toList W3 := by rw [← hW3]; exact (hxa.set 12 _).set 13 _
  try simp only at hx3
  have HWE := Lib.hid hW3
  have HB3 := Lib.hid (HB2.out.trans (hb3.mono HB2.out.size))
  have HXQ := Lib.hid (fun (U : World) (hU : Below W3.heap.size W3 U) => hx3.next hU hx3.lt)
  have HC3 := Lib.hid (HCKK.out W3 HB3.out)
  have hq := hxa
  have q0 := hq.at' 0 _ rfl
  have q1 := hq.at' 1 _ rfl
  have q2 := hq.at' 2 _ rfl
  have q3 := hq.at' 3 _ rfl
  have q4 := hq.at' 4 _ rfl
  have q5 := hq.at' 5 _ rfl
  have q6 := hq.at' 6 _ rfl
  have q7 := hq.at' 7 _ rfl
  have q8 := hq.at' 8 _ rfl
  have q9 := hq.at' 9 _ rfl
  have q10 := hq.at' 10 _ rfl
  have q11 := hq.at' 11 _ rfl
  have q12 := hq.at' 12 _ rfl
  have q13 := hq.at' 13 _ rfl
  try simp only at q0 q1 q2 q3 q4 q5 q6 q7 q8 q9 q10 q11 q12 q13
  clear hq
  have z12 := hxa.fz 12
  have z13 := hxa.fz 13
  clear hb3 hx3 hba hxa hW3
  go_wp2_with fail
  rw [HWE.out]
  clear hWa z12 z13 HWE
  clear k0 k1 k2 k3 k4 k5 k6 k7
  clear q0 q1 q2 q3 q4 q5 q6 q7 q8 q9 q10 q11 q12 q13
  with_reducible refine HC3.out.mono ?_
  rintro e w4 ⟨rfl, hb4⟩
  obtain ⟨W5, hW5⟩ : ∃ U, w4.alloc (.cells #[.int .i64 0, .int .i64 0, .string ⟨#[]⟩, .slice none 0 0, .slice none 0 0, .slice none 0 0, .int .i64 0] 47) = U := ⟨_, rfl⟩
  have hb5 : Below w4.heap.size w4 W5 := by rw [← hW5]; exact (Below.refl _ _).alloc (Nat.le_refl _) _
  have hx5 : BoxN w4.heap.size [.int .i64 0, .int .i64 0, .string ⟨#[]⟩, .slice none 0 0, .slice none 0 0, .slice none 0 0, .int .i64 0] W5 := by rw [← hW5]; exact BoxN.new w4 _ _
  have HB35 := Lib.hid (hb4.trans (hb5.mono hb4.size))
  have HB45 := Lib.hid hb5
  have HB5 := Lib.hid (HB3.out.trans (HB35.out.mono HB3.out.size))
  have HX8 := Lib.hid (fun (U : World) (hU : Below W5.heap.size W5 U) => hx5.next hU hx5.lt)
  have HW5 := Lib.hid hW5
  clear hb4 hb5 hW5
  go_upto_region 5 with fail
  rw [HW5.out]
  clear HW5
  have y0 := hx5.at' 0 _ rfl
  try simp only at y0
  clear hx5
  go_wp2_with fail
  go_ret
  exact ⟨by first | rfl | simp, HB1.out.trans (HB5.out.mono HB1.out.size)⟩

set_option maxRecDepth 8000 in
set_option maxHeartbeats 16000000 in
theorem walk_big (w : World) (x : Circ) (p : At) (hin : InCirc w x p) (hw : WfC x) (hza : x.ands.length * 24 ≤ 140737488355328) (aA : Option Addr) (nA cA : Nat) (vs : List Value) (A : List (List Int)) (hA : Sl2 w aA nA cA vs A) (hA64 : ∀ y ∈ A.flatten, -9223372036854775808 ≤ y ∧ y ≤ 9223372036854775807)
    (kb : Nat) (hkb : kb < x.bads.length) (hu : unrE x A kb = 0) (hk : CheckOk x) (hl10 : x.lats.length ≤ 10) (hi10 : x.ins.length ≤ 10) (hbg : ¬ (x.lats.length ≤ 4 ∧ x.ins.length ≤ 3 ∧ x.max ≤ 60)) :
    Calls Tryz.prog 6 #[.agg (cells x p), .slice aA nA cA, .int .i64 (kb : Int)] w fun e w2 => e = .returned (.bool true) ∧ Below w.heap.size w w2 := by
  obtain ⟨W1, hW1⟩ : ∃ U, w.alloc (.cells (cells x p) 27) = U := ⟨_, rfl⟩
  obtain ⟨hb1', hx1⟩ := cbox_new w x p W1 hW1
  have HB1 := Lib.hid hb1'
  have HAV := Lib.hid (EnumL.alive_any W1)
  have HCB := Lib.hid (fun (U : World) (hU : Below W1.heap.size W1 U) => hx1.next hU (Nat.le_refl _))
  have HUC := fun (U : World) (hU : Below W1.heap.size W1 U) => unroll_any U x p ((hin.next hb1').next hU) hw aA nA cA vs A ((hA.next hb1').next hU) hA64 (kb : Int) (by omega) (by have := hin.bads.big; have := hin.bads.cap; omega)
  have HCK := fun (U : World) (hU : Below W1.heap.size W1 U) => check_ok U x p ((hin.next hb1').next hU) hw aA nA cA vs A ((hA.next hb1').next hU) hA64 kb hkb hu hk (by omega) (by omega)
  have hsm : (decide (x.lats.length ≤ 4) && decide (x.ins.length ≤ 3) && decide (x.max ≤ 60)) = false := by
    cases hq : (decide (x.lats.length ≤ 4) && decide (x.ins.length ≤ 3) && decide (x.max ≤ 60)) with
    | false => rfl
    | true =>
      simp only [Bool.and_eq_true, decide_eq_true_eq] at hq
      exact absurd ⟨hq.1.1, hq.1.2, hq.2⟩ hbg
  have HSM := fun (U : World) (hU : Below W1.heap.size W1 U) => BadP.small_any U x p ((hin.next hb1').next hU)
  simp only [hsm] at HSM
  have hcI := hin.ins.cap
  have hgI := hin.ins.big
  have hcL := hin.lats.cap
  have hgL := hin.lats.big
  obtain ⟨a1, b1, a2, b2, a3, b3, a4, b4, a5, b5, a6, b6, a7, b7⟩ := p
  simp only [cells, qcells, zeroV] at *
  have HSMM := Lib.hid HSM
  have HUCC := Lib.hid HUC
  have HCKK := Lib.hid HCK
  clear hin hb1' hx1 hw hza hA hA64 HUC HCK hu hk hl10 hi10 hbg hsm HSM
  go_enter Tryz.func6, Tryz.ntmps6
  go_wp2_with fail
  clear hW1
  with_reducible refine HAV.out.mono ?_
  rintro e w2 ⟨rfl, hb2⟩
  have HB2 := Lib.hid hb2
  clear hb2
  have hc := HCB.out w2 (HB2.out)
  have k0 := hc.k0
  have k1 := hc.k1
  have k2 := hc.k2
  have k3 := hc.k3
  have k4 := hc.k4
  have k5 := hc.k5
  have k6 := hc.k6
  have k7 := hc.k7
  try simp only at k0 k1 k2 k3 k4 k5 k6 k7
  clear hc
  obtain ⟨Wa, hWa⟩ : ∃ U, w2.alloc (.cells #[.int .i64 x.max, .slice a1 x.ins.length b1, .slice a2 x.lats.length b2, .slice a3 x.outs.length b3, .slice a4 x.bads.length b4, .slice a5 x.invs.length b5, .slice a6 x.ands.length b6, .slice a7 x.names.length b7, .slice aA nA cA, .slice none 0 0, .slice none 0 0, .int .i64 (kb : Int), .int .i64 0, .int .i64 0] 42) = U := ⟨_, rfl⟩
  have hba : Below w2.heap.size w2 Wa := by rw [← hWa]; exact (Below.refl _ _).alloc (Nat.le_refl _) _
  have hxa : BoxN w2.heap.size (#[.int .i64 x.max, .slice a1 x.ins.length b1, .slice a2 x.lats.length b2, .slice a3 x.outs.length b3, .slice a4 x.bads.length b4, .slice a5 x.invs.length b5, .slice a6 x.ands.length b6, .slice a7 x.names.length b7, .slice aA nA cA, .slice none 0 0, .slice none 0 0, .int .i64 (kb : Int), .int .i64 0, .int .i64 0] : Array Value).toList Wa := by rw [← hWa]; exact BoxN.new w2 _ _
  try simp only at hxa
  obtain ⟨W3, hW3⟩ : ∃ U, (Wa.setCell ⟨w2.heap.size, 12, none⟩ (.int .i64 0)).setCell ⟨w2.heap.size, 13, none⟩ (.int .i64 0) = U := ⟨_, rfl⟩
  have hb3 : Below w2.heap.size w2 W3 := by rw [← hW3]; exact (hba.setCell (p := ⟨w2.heap.size, 12, none⟩) (Nat.le_refl _) _).setCell (p := ⟨w2.heap.size, 13, none⟩) (Nat.le_refl _) _
  have hx3 : BoxN w2.heap.size (#[.int .i64 x.max, .slice a1 x.ins.length b1, .slice a2 x.lats.length b2, .slice a3 x.outs.length b3, .slice a4 x.bads.length b4, .slice a5 x.invs.length b5, .slice a6 x.ands.length b6, .slice a7 x.names.length b7, .slice aA nA cA, .slice none 0 0, .slice none 0 0, .int .i64 (kb : Int), .int .i64 0, .int .i64 0] : Array Value).toList W3 := by rw [← hW3]; exact (hxa.set 12 _).set 13 _
  try simp only at hx3
  have HWE := Lib.hid hW3
  have HB3 := Lib.hid (HB2.out.trans (hb3.mono HB2.out.size))
  have HXQ := Lib.hid (fun (U : World) (hU : Below W3.heap.size W3 U) => hx3.next hU hx3.lt)
  have HC3 := Lib.hid (HCKK.out W3 HB3.out)
  have hq := hxa
  have q0 := hq.at' 0 _ rfl
  have q1 := hq.at' 1 _ rfl
  have q2 := hq.at' 2 _ rfl
  have q3 := hq.at' 3 _ rfl
  have q4 := hq.at' 4 _ rfl
  have q5 := hq.at' 5 _ rfl
  have q6 := hq.at' 6 _ rfl
  have q7 := hq.at' 7 _ rfl
  have q8 := hq.at' 8 _ rfl
  have q9 := hq.at' 9 _ rfl
  have q10 := hq.at' 10 _ rfl
  have q11 := hq.at' 11 _ rfl
  have q12 := hq.at' 12 _ rfl
  have q13 := hq.at' 13 _ rfl
  try simp only at q0 q1 q2 q3 q4 q5 q6 q7 q8 q9 q10 q11 q12 q13
  clear hq
  have z12 := hxa.fz 12
  have z13 := hxa.fz 13
  clear hb3 hx3 hba hxa hW3
  go_wp2_with fail
  rw [HWE.out]
  clear hWa z12 z13 HWE
  clear k0 k1 k2 k3 k4 k5 k6 k7
  clear q0 q1 q2 q3 q4 q5 q6 q7 q8 q9 q10 q11 q12 q13
  with_reducible refine HC3.out.mono ?_
  rintro e w4 ⟨⟨O, hkn, hOl, hco⟩, hb4⟩
  rcases hco with ⟨s, ib, m, s0, ins, aP, cP, hsO, hbi, hle, hT, hs0, rfl, hSP⟩ | ⟨hno, aR, cR, valsR, rfl, hSR⟩
  · obtain ⟨np, hnp⟩ : ∃ t, m + 1 = t := ⟨_, rfl⟩
    have HNP := Lib.hid hnp
    rw [hnp] at hSP ⊢
    obtain ⟨st0, hst0⟩ : ∃ t, bs s0 = t := ⟨_, rfl⟩
    have HST0 := Lib.hid hst0
    rw [hst0]
    obtain ⟨ln, hln⟩ : ∃ l, O.length = l := ⟨_, rfl⟩
    rw [hln]
    clear hsO hbi hle hT hs0 hSP hst0 hln hkn hOl hnp
    obtain ⟨W5, hW5⟩ : ∃ U, w4.alloc (.cells #[.int .i64 2, .int .i64 (kb : Int), .string st0, .slice aP np cP, .slice none 0 0, .slice none 0 0, .int .i64 ln] 47) = U := ⟨_, rfl⟩
    have hb5 : Below w4.heap.size w4 W5 := by rw [← hW5]; exact (Below.refl _ _).alloc (Nat.le_refl _) _
    have hx5 : BoxN w4.heap.size [.int .i64 2, .int .i64 (kb : Int), .string st0, .slice aP np cP, .slice none 0 0, .slice none 0 0, .int .i64 ln] W5 := by rw [← hW5]; exact BoxN.new w4 _ _
    have HB35 := Lib.hid (hb4.trans (hb5.mono hb4.size))
    have HB45 := Lib.hid hb5
    have HB5 := Lib.hid (HB3.out.trans (HB35.out.mono HB3.out.size))
    have HX8 := Lib.hid (fun (U : World) (hU : Below W5.heap.size W5 U) => hx5.next hU hx5.lt)
    have HW5 := Lib.hid hW5
    clear hb4 hb5 hW5
    go_upto_region 5 with fail
    rw [HW5.out]
    clear HW5
    have y0 := hx5.at' 0 _ rfl
    try simp only at y0
    clear hx5
    have hc := HCB.out W5 (HB5.out)
    have k0 := hc.k0
    have k1 := hc.k1
    have k2 := hc.k2
    have k3 := hc.k3
    have k4 := hc.k4
    have k5 := hc.k5
    have k6 := hc.k6
    have k7 := hc.k7
    try simp only at k0 k1 k2 k3 k4 k5 k6 k7
    clear hc
    have HS5 := Lib.hid (HSMM.out W5 HB5.out)
    go_wp2_with fail
    clear k0 k1 k2 k3 k4 k5 k6 k7
    with_reducible refine HS5.out.mono ?_
    rintro e w7 ⟨rfl, hb7⟩
    have HB57 := Lib.hid hb7
    have HB7 := Lib.hid (HB5.out.trans (hb7.mono HB5.out.size))
    clear hb7 y0
    go_wp2_with fail
    go_ret
    exact ⟨by first | rfl | simp, HB1.out.trans (HB7.out.mono HB1.out.size)⟩
  · obtain ⟨lo, hlo⟩ : ∃ l, (outs O (allL x.lats.length)).length = l := ⟨_, rfl⟩
    rw [hlo]
    obtain ⟨ln, hln⟩ : ∃ l, O.length = l := ⟨_, rfl⟩
    rw [hln]
    clear hno hSR hlo hln hkn hOl
    obtain ⟨W5, hW5⟩ : ∃ U, w4.alloc (.cells #[.int .i64 1, .int .i64 0, .string ⟨#[]⟩, .slice none 0 0, .slice aR lo cR, .slice none 0 0, .int .i64 ln] 47) = U := ⟨_, rfl⟩
    have hb5 : Below w4.heap.size w4 W5 := by rw [← hW5]; exact (Below.refl _ _).alloc (Nat.le_refl _) _
    have hx5 : BoxN w4.heap.size [.int .i64 1, .int .i64 0, .string ⟨#[]⟩, .slice none 0 0, .slice aR lo cR, .slice none 0 0, .int .i64 ln] W5 := by rw [← hW5]; exact BoxN.new w4 _ _
    have HB35 := Lib.hid (hb4.trans (hb5.mono hb4.size))
    have HB45 := Lib.hid hb5
    have HB5 := Lib.hid (HB3.out.trans (HB35.out.mono HB3.out.size))
    have HX8 := Lib.hid (fun (U : World) (hU : Below W5.heap.size W5 U) => hx5.next hU hx5.lt)
    have HW5 := Lib.hid hW5
    clear hb4 hb5 hW5
    go_upto_region 5 with fail
    rw [HW5.out]
    clear HW5
    have y0 := hx5.at' 0 _ rfl
    try simp only at y0
    clear hx5
    go_wp2_with fail
    go_ret
    exact ⟨by first | rfl | simp, HB1.out.trans (HB5.out.mono HB1.out.size)⟩

set_option maxRecDepth 8000 in
set_option maxHeartbeats 40000000 in
theorem walk_small (w : World) (x : Circ) (p : At) (hin : InCirc w x p) (hw : WfC x) (hza : x.ands.length * 24 ≤ 140737488355328) (aA : Option Addr) (nA cA : Nat) (vs : List Value) (A : List (List Int)) (hA : Sl2 w aA nA cA vs A) (hA64 : ∀ y ∈ A.flatten, -9223372036854775808 ≤ y ∧ y ≤ 9223372036854775807)
    (kb : Nat) (hkb : kb < x.bads.length) (hu : unrE x A kb = 0) (hk : CheckOk x) (hl4 : x.lats.length ≤ 4) (hi3 : x.ins.length ≤ 3) (hm60 : x.max ≤ 60) :
    Calls Tryz.prog 6 #[.agg (cells x p), .slice aA nA cA, .int .i64 (kb : Int)] w fun e w2 => e = .returned (.bool true) ∧ Below w.heap.size w w2 := by
  obtain ⟨W1, hW1⟩ : ∃ U, w.alloc (.cells (cells x p) 27) = U := ⟨_, rfl⟩
  obtain ⟨hb1', hx1⟩ := cbox_new w x p W1 hW1
  have HB1 := Lib.hid hb1'
  have HAV := Lib.hid (EnumL.alive_any W1)
  have HCB := Lib.hid (fun (U : World) (hU : Below W1.heap.size W1 U) => hx1.next hU (Nat.le_refl _))
  have HUC := fun (U : World) (hU : Below W1.heap.size W1 U) => unroll_any U x p ((hin.next hb1').next hU) hw aA nA cA vs A ((hA.next hb1').next hU) hA64 (kb : Int) (by omega) (by have := hin.bads.big; have := hin.bads.cap; omega)
  have HCK := fun (U : World) (hU : Below W1.heap.size W1 U) => check_ok U x p ((hin.next hb1').next hU) hw aA nA cA vs A ((hA.next hb1').next hU) hA64 kb hkb hu hk (by omega) (by omega)
  have hsm : (decide (x.lats.length ≤ 4) && decide (x.ins.length ≤ 3) && decide (x.max ≤ 60)) = true := by
    simp only [Bool.and_eq_true, decide_eq_true_eq]
    exact ⟨⟨hl4, hi3⟩, hm60⟩
  have HSM := fun (U : World) (hU : Below W1.heap.size W1 U) => BadP.small_any U x p ((hin.next hb1').next hU)
  simp only [hsm] at HSM
  have HIN := fun (U : World) (hU : Below W1.heap.size W1 U) => (hin.next hb1').next hU
  have HVA := fun (U : World) (hU : Below W1.heap.size W1 U) (s i : List Bool) (hs : s.length = x.lats.length) (hi : i.length = x.ins.length) => BadP.values_any U x p (HIN U hU) hw hk hza s i hs hi
  have HNX := fun (U : World) (hU : Below W1.heap.size W1 U) (s i : List Bool) (hs : s.length = x.lats.length) (hi : i.length = x.ins.length) => BadP.next_any U x p (HIN U hU) hw hk hza s i hs hi
  have hvl : ∀ s i, (vals x s i).length ≤ 9223372036854775807 := fun s i => by rw [vals_len]; have := hk.1.2.1; omega
  have HAA := fun (U : World) (hU : Below W1.heap.size W1 U) (s i : List Bool) => BadP.allowed_any U x p (HIN U hU) (vals x s i) (hvl s i) (lits_in hk hw).2.1 aA nA cA vs A ((hA.next hb1').next hU) hA64
  have HST := fun (U : World) (hU : Below W1.heap.size W1 U) => steps_any U x p (HIN U hU) hw hk hza hl4 hi3 aA nA cA vs A ((hA.next hb1').next hU) hA64
  have HL1 := Lib.hid (fun (U : World) => AllS.all_any U x.lats.length (by omega))
  have HL2 := Lib.hid (fun (U : World) => AllS.all_any U x.ins.length (by omega))
  have hbl := (lits_in hk hw).1 x.bads[kb] (List.getElem_mem _)
  have HTT := Lib.hid (fun (U : World) (s i : List Bool) => refTrue_any U (vals x s i) x.bads[kb] (by have := hbl.1; omega) hbl.2 (hvl s i))
  obtain ⟨gb, ob, hxb, hab, hgb, hcb⟩ := hin.bads.int hkb
  have hcapb := hin.bads.cap
  have hbigb := hin.bads.big
  have HBE := Lib.hid (fun (U : World) (hU : Below w.heap.size w U) => (hU.cell (p := ⟨gb, ob + kb, none⟩) hgb).trans hcb)
  obtain ⟨N, hN⟩ : ∃ m, 2 ^ x.lats.length = m := ⟨_, rfl⟩
  obtain ⟨K, hK⟩ : ∃ m, 2 ^ x.ins.length = m := ⟨_, rfl⟩
  have hN16 : N ≤ 16 := by rw [← hN]; exact Nat.pow_le_pow_right (by decide) hl4
  have hK8 : K ≤ 8 := by rw [← hK]; exact Nat.pow_le_pow_right (by decide) hi3
  rw [AllS.allS_len, hN] at HL1
  rw [AllS.allS_len, hK] at HL2
  simp only [hN] at HST
  have HNN := Lib.hid hN
  have HKK := Lib.hid hK
  have hc2 := hin.lats.cap
  have hg2 := hin.lats.big
  have hc1 := hin.ins.cap
  have hg1 := hin.ins.big
  have hkbI : (kb : Int) < (x.bads.length : Int) := by omega
  have hkb0 : (0 : Int) ≤ (kb : Int) := by omega
  generalize x.bads[kb] = bl at *
  have hcI := hin.ins.cap
  have hgI := hin.ins.big
  have hcL := hin.lats.cap
  have hgL := hin.lats.big
  obtain ⟨a1, c1, a2, c2, a3, c3, a4, c4, a5, c5, a6, c6, a7, c7⟩ := p
  simp only [cells, qcells, zeroV] at *
  subst hab
  have HSMM := Lib.hid HSM
  have HVV := Lib.hid HVA
  have HNV := Lib.hid HNX
  have HAA2 := Lib.hid HAA
  have HSTT := Lib.hid HST
  have HX := HCB
  have HUCC := Lib.hid HUC
  have HCKK := Lib.hid HCK
  clear hin hb1' hx1 hw hza hA hA64 HUC HCK hkb hu hk hl4 hi3 hm60 hsm HSM HST HIN HVA HNX HAA hvl hN hK hbl hxb hgb hcb
  go_enter Tryz.func6, Tryz.ntmps6
  go_wp2_with fail
  clear hW1
  with_reducible refine HAV.out.mono ?_
  rintro e w2 ⟨rfl, hb2⟩
  have HB2 := Lib.hid hb2
  clear hb2
  have hc := HCB.out w2 (HB2.out)
  have k0 := hc.k0
  have k1 := hc.k1
  have k2 := hc.k2
  have k3 := hc.k3
  have k4 := hc.k4
  have k5 := hc.k5
  have k6 := hc.k6
  have k7 := hc.k7
  try simp only at k0 k1 k2 k3 k4 k5 k6 k7
  clear hc
  obtain ⟨Wa, hWa⟩ : ∃ U, w2.alloc (.cells #[.int .i64 x.max, .slice a1 x.ins.length c1, .slice a2 x.lats.length c2, .slice a3 x.outs.length c3, .slice (some ⟨gb, ob, none⟩) x.bads.length c4, .slice a5 x.invs.length c5, .slice a6 x.ands.length c6, .slice a7 x.names.length c7, .slice aA nA cA, .slice none 0 0, .slice none 0 0, .int .i64 (kb : Int), .int .i64 0, .int .i64 0] 42) = U := ⟨_, rfl⟩
  have hba : Below w2.heap.size w2 Wa := by rw [← hWa]; exact (Below.refl _ _).alloc (Nat.le_refl _) _
  have hxa : BoxN w2.heap.size (#[.int .i64 x.max, .slice a1 x.ins.length c1, .slice a2 x.lats.length c2, .slice a3 x.outs.length c3, .slice (some ⟨gb, ob, none⟩) x.bads.length c4, .slice a5 x.invs.length c5, .slice a6 x.ands.length c6, .slice a7 x.names.length c7, .slice aA nA cA, .slice none 0 0, .slice none 0 0, .int .i64 (kb : Int), .int .i64 0, .int .i64 0] : Array Value).toList Wa := by rw [← hWa]; exact BoxN.new w2 _ _
  try simp only at hxa
  obtain ⟨W3, hW3⟩ : ∃ U, (Wa.setCell ⟨w2.heap.size, 12, none⟩ (.int .i64 0)).setCell ⟨w2.heap.size, 13, none⟩ (.int .i64 0) = U := ⟨_, rfl⟩
  have hb3 : Below w2.heap.size w2 W3 := by rw [← hW3]; exact (hba.setCell (p := ⟨w2.heap.size, 12, none⟩) (Nat.le_refl _) _).setCell (p := ⟨w2.heap.size, 13, none⟩) (Nat.le_refl _) _
  have hx3 : BoxN w2.heap.size (#[.int .i64 x.max, .slice a1 x.ins.length c1, .slice a2 x.lats.length c2, .slice a3 x.outs.length c3, .slice (some ⟨gb, ob, none⟩) x.bads.length c4, .slice a5 x.invs.length c5, .slice a6 x.ands.length c6, .slice a7 x.names.length c7, .slice aA nA cA, .slice none 0 0, .slice none 0 0, .int .i64 (kb : Int), .int .i64 0, .int .i64 0] : Array Value).toList W3 := by rw [← hW3]; exact (hxa.set 12 _).set 13 _
  try simp only at hx3
  have HWE := Lib.hid hW3
  have HB3 := Lib.hid (HB2.out.trans (hb3.mono HB2.out.size))
  have HXQ := Lib.hid (fun (U : World) (hU : Below W3.heap.size W3 U) => hx3.next hU hx3.lt)
  have HC3 := Lib.hid (HCKK.out W3 HB3.out)
  have hq := hxa
  have q0 := hq.at' 0 _ rfl
  have q1 := hq.at' 1 _ rfl
  have q2 := hq.at' 2 _ rfl
  have q3 := hq.at' 3 _ rfl
  have q4 := hq.at' 4 _ rfl
  have q5 := hq.at' 5 _ rfl
  have q6 := hq.at' 6 _ rfl
  have q7 := hq.at' 7 _ rfl
  have q8 := hq.at' 8 _ rfl
  have q9 := hq.at' 9 _ rfl
  have q10 := hq.at' 10 _ rfl
  have q11 := hq.at' 11 _ rfl
  have q12 := hq.at' 12 _ rfl
  have q13 := hq.at' 13 _ rfl
  try simp only at q0 q1 q2 q3 q4 q5 q6 q7 q8 q9 q10 q11 q12 q13
  clear hq
  have z12 := hxa.fz 12
  have z13 := hxa.fz 13
  clear hb3 hx3 hba hxa hW3
  go_wp2_with fail
  rw [HWE.out]
  clear hWa z12 z13 HWE
  clear k0 k1 k2 k3 k4 k5 k6 k7
  clear q0 q1 q2 q3 q4 q5 q6 q7 q8 q9 q10 q11 q12 q13
  with_reducible refine HC3.out.mono ?_
  rintro e w4 ⟨⟨O, hkn, hOl, hco⟩, hb4⟩
  rcases hco with ⟨s, ib, m, s0, ins, aP, cP, hsO, hbi, hle, hT, hs0, rfl, hSP⟩ | ⟨hno, aR, cR, valsR, rfl, hSR⟩
  · have hml : ins.length = m := by have := tail_len hT; omega
    have HRND := Lib.hid (fun (a : Nat) (ha : a ≤ m) (gs : ByteArray) (h : a = m ∨ a < m ∧ ∃ g, gs = bs g ∧ Tail x A O s0 0 (ins.take (a + 1)) g (a + 1)) => rnd hkn hsO hbi hle hT ha h)
    have HKN := Lib.hid hkn
    have HPL : Hid ((ins ++ [ib]).length = m + 1) := by show _ = _; rw [List.length_append, hml]; rfl
    obtain ⟨np, hnp⟩ : ∃ t, m + 1 = t := ⟨_, rfl⟩
    have HNP := Lib.hid hnp
    rw [hnp] at hSP ⊢
    obtain ⟨st0, hst0⟩ : ∃ t, bs s0 = t := ⟨_, rfl⟩
    have HST0 := Lib.hid hst0
    rw [hst0]
    obtain ⟨ln, hln⟩ : ∃ l, O.length = l := ⟨_, rfl⟩
    rw [hln]
    have HSP := Lib.hid hSP
    have hcP := hSP.cap
    have hgP := hSP.big
    have hsl2 : (np : Int) - 1 = (m : Int) := by omega
    have hnp0 : m + 1 = np := hnp
    clear hsO hbi hle hT hs0 hSP hst0 hln hkn hOl hnp hml
    obtain ⟨W5, hW5⟩ : ∃ U, w4.alloc (.cells #[.int .i64 2, .int .i64 (kb : Int), .string st0, .slice aP np cP, .slice none 0 0, .slice none 0 0, .int .i64 ln] 47) = U := ⟨_, rfl⟩
    have hb5 : Below w4.heap.size w4 W5 := by rw [← hW5]; exact (Below.refl _ _).alloc (Nat.le_refl _) _
    have hx5 : BoxN w4.heap.size [.int .i64 2, .int .i64 (kb : Int), .string st0, .slice aP np cP, .slice none 0 0, .slice none 0 0, .int .i64 ln] W5 := by rw [← hW5]; exact BoxN.new w4 _ _
    have HB35 := Lib.hid (hb4.trans (hb5.mono hb4.size))
    have HB45 := Lib.hid hb5
    have HB5 := Lib.hid (HB3.out.trans (HB35.out.mono HB3.out.size))
    have HX8 := Lib.hid (fun (U : World) (hU : Below W5.heap.size W5 U) => hx5.next hU hx5.lt)
    have HW5 := Lib.hid hW5
    clear hb4 hb5 hW5
    go_upto_region 5 with fail
    rw [HW5.out]
    clear HW5
    have y0 := hx5.at' 0 _ rfl
    try simp only at y0
    clear hx5
    have hc := HCB.out W5 (HB5.out)
    have k0 := hc.k0
    have k1 := hc.k1
    have k2 := hc.k2
    have k3 := hc.k3
    have k4 := hc.k4
    have k5 := hc.k5
    have k6 := hc.k6
    have k7 := hc.k7
    try simp only at k0 k1 k2 k3 k4 k5 k6 k7
    clear hc
    have HS5 := Lib.hid (HSMM.out W5 HB5.out)
    go_wp2_with fail
    clear k0 k1 k2 k3 k4 k5 k6 k7
    with_reducible refine HS5.out.mono ?_
    rintro e w7 ⟨rfl, hb7⟩
    have HB57 := Lib.hid hb7
    have HB7 := Lib.hid (HB5.out.trans (hb7.mono HB5.out.size))
    clear hb7 y0
    have hc := HCB.out w7 (HB7.out)
    have k0 := hc.k0
    have k1 := hc.k1
    have k2 := hc.k2
    have k3 := hc.k3
    have k4 := hc.k4
    have k5 := hc.k5
    have k6 := hc.k6
    have k7 := hc.k7
    try simp only at k0 k1 k2 k3 k4 k5 k6 k7
    clear hc
    have HS7 := Lib.hid (HSTT.out w7 HB7.out)
    go_wp2_with fail
    clear k0 k1 k2 k3 k4 k5 k6 k7
    with_reducible refine HS7.out.mono ?_
    rintro e w8 ⟨g, out, rfl, hbx, hso, hgeg, hb8⟩
    have HSO := Lib.hid hso
    have HBX := Lib.hid hbx
    have HB58 := Lib.hid (HB57.out.trans (hb8.mono HB57.out.size))
    have HB8 := Lib.hid (HB7.out.trans (hb8.mono HB7.out.size))
    clear hbx hso hgeg hb8
    have c := HX.out w8 HB8.out
    have k1 := c.k1
    have k2 := c.k2
    try simp only at k1 k2
    clear c
    go_wp2_with fail
    have hSK : ∀ U : World, Below w8.heap.size w8 U → U.cell? ⟨w.heap.size, 1, none⟩ = some (.slice a1 x.ins.length c1) ∧ U.cell? ⟨w.heap.size, 2, none⟩ = some (.slice a2 x.lats.length c2) := fun U hU => by
      have c := HX.out U ((fun (U : World) (hU : Below w8.heap.size w8 U) => HB8.out.trans (hU.mono HB8.out.size)) U hU)
      exact ⟨c.k1, c.k2⟩
    have b00 : Below w8.heap.size w8 w8.drew := (Below.refl _ _).drew
    have hS0 := hSK _ b00
    refine HeldAll.region (fun U : World => U.cell? ⟨w.heap.size, 1, none⟩ = some (.slice a1 x.ins.length c1) ∧ U.cell? ⟨w.heap.size, 2, none⟩ = some (.slice a2 x.lats.length c2)) (by kernel_rfl) ?_
    (refine HeldAll.take (i := 0) (oi := _) (d := some 58) (v := ?_) rfl rfl (by kernel_rfl) (by kernel_rfl) (by kernel_rfl) (fun _ _ _ h => h) (Or.inl ⟨by rfl, ?_⟩) hS0 ?_; rotate_left; (focus (intro w hSw; clear hSw; go_simp; (try with_reducible rfl); done)); (try simp only [Act.put, List.setIfInBounds_toArray, List.set_cons_zero, List.set_cons_succ]))
    (refine HeldAll.take (i := 1) (oi := _) (d := some 59) (v := ?_) rfl rfl (by kernel_rfl) (by kernel_rfl) (by kernel_rfl) (fun _ _ _ h => h) (Or.inl ⟨by rfl, ?_⟩) hS0 ?_; rotate_left; (focus (intro w hSw; (try dsimp only at hSw); go_simp; (try with_reducible rfl); done)); (try simp only [Act.put, List.setIfInBounds_toArray, List.set_cons_zero, List.set_cons_succ]))
    (refine HeldAll.take (i := 2) (oi := _) (d := some 60) (v := ?_) rfl rfl (by kernel_rfl) (by kernel_rfl) (by kernel_rfl) (fun _ _ _ h => h) (Or.inl ⟨by rfl, ?_⟩) hS0 ?_; rotate_left; (focus (intro w hSw; clear hSw; go_simp; (try with_reducible rfl); done)); (try simp only [Act.put, List.setIfInBounds_toArray, List.set_cons_zero, List.set_cons_succ]))
    (refine HeldAll.take (i := 4) (oi := _) (d := some 62) (v := ?_) rfl rfl (by kernel_rfl) (by kernel_rfl) (by kernel_rfl) (fun _ _ _ h => h) (Or.inl ⟨by rfl, ?_⟩) hS0 ?_; rotate_left; (focus (intro w hSw; clear hSw; go_simp; (try with_reducible rfl); done)); (try simp only [Act.put, List.setIfInBounds_toArray, List.set_cons_zero, List.set_cons_succ]))
    (refine HeldAll.take (i := 5) (oi := _) (d := some 63) (v := ?_) rfl rfl (by kernel_rfl) (by kernel_rfl) (by kernel_rfl) (fun _ _ _ h => h) (Or.inl ⟨by rfl, ?_⟩) hS0 ?_; rotate_left; (focus (intro w hSw; (try dsimp only at hSw); go_simp; (try with_reducible rfl); done)); (try simp only [Act.put, List.setIfInBounds_toArray, List.set_cons_zero, List.set_cons_succ]))
    (refine HeldAll.take (i := 6) (oi := _) (d := some 64) (v := ?_) rfl rfl (by kernel_rfl) (by kernel_rfl) (by kernel_rfl) (fun _ _ _ h => h) (Or.inl ⟨by rfl, ?_⟩) hS0 ?_; rotate_left; (focus (intro w hSw; clear hSw; go_simp; (try with_reducible rfl); done)); (try simp only [Act.put, List.setIfInBounds_toArray, List.set_cons_zero, List.set_cons_succ]))
    refine HeldAll.one (i := 3) (by kernel_rfl) ?_
    refine HeldAll.opCall (i := 3) (oi := _) (d := some 61) (R := fun v w' => ∃ a c, v = .slice a N c ∧ w'.ownsRow w8.drew.heap.size 9 1 (.slice a N c) N (AllS.strs (AllS.allS x.lats.length)) ∧ Below w8.drew.heap.size w8.drew w') rfl rfl (by rfl) (by go_simp; done) ((HL1.out w8.drew).mono fun e w' h => by obtain ⟨a, c, he, ho, hb⟩ := h; exact ⟨_, he, a, c, rfl, ho, hb⟩) ?_
    rintro v u1 ⟨aS, cS, rfl, oS, su1⟩
    have b1 : Below w8.heap.size w8 u1 := b00.trans (su1.mono b00.size)
    refine ⟨hSK _ b1, ?_⟩
    (try simp only [Act.put, List.setIfInBounds_toArray, List.set_cons_zero, List.set_cons_succ])
    refine HeldAll.one (i := 7) (by kernel_rfl) ?_
    refine HeldAll.opCall (i := 7) (oi := _) (d := some 65) (R := fun v w' => ∃ a c, v = .slice a K c ∧ w'.ownsRow u1.heap.size 9 1 (.slice a K c) K (AllS.strs (AllS.allS x.ins.length)) ∧ Below u1.heap.size u1 w') rfl rfl (by rfl) (by go_simp; done) ((HL2.out u1).mono fun e w' h => by obtain ⟨a, c, he, ho, hb⟩ := h; exact ⟨_, he, a, c, rfl, ho, hb⟩) ?_
    rintro v u2 ⟨aI, cI, rfl, oI, su2⟩
    have b2 : Below w8.heap.size w8 u2 := b1.trans (su2.mono b1.size)
    refine ⟨hSK _ b2, ?_⟩
    (try simp only [Act.put, List.setIfInBounds_toArray, List.set_cons_zero, List.set_cons_succ])
    have hS0 := hSK _ b2
    (refine HeldAll.take (i := 8) (oi := _) (d := some 11) (v := ?_) rfl rfl (by kernel_rfl) (by kernel_rfl) (by kernel_rfl) (fun _ _ _ h => h) (Or.inl ⟨by rfl, ?_⟩) hS0 ?_; rotate_left; (focus (intro w hSw; clear hSw; go_simp; (try with_reducible rfl); done)); (try simp only [Act.put, List.setIfInBounds_toArray, List.set_cons_zero, List.set_cons_succ]))
    (refine HeldAll.take (i := 9) (oi := _) (d := some 12) (v := ?_) rfl rfl (by kernel_rfl) (by kernel_rfl) (by kernel_rfl) (fun _ _ _ h => h) (Or.inl ⟨by rfl, ?_⟩) hS0 ?_; rotate_left; (focus (intro w hSw; clear hSw; go_simp; (try with_reducible rfl); done)); (try simp only [Act.put, List.setIfInBounds_toArray, List.set_cons_zero, List.set_cons_succ]))
    refine HeldAll.done (by kernel_rfl) ?_ _
    have HSS := Lib.hid (own_sl' (own_next oS su2))
    have HSI := Lib.hid (own_sl' oI)
    have hcS := HSS.out.cap
    have hgS := HSS.out.big
    have hcI := HSI.out.cap
    have hgI := HSI.out.big
    have HB13 := Lib.hid (HB8.out.trans (b2.mono HB8.out.size))
    have HB513 := Lib.hid (HB58.out.trans (b2.mono HB58.out.size))
    have HGX := Lib.hid (fun (U : World) (hU : Below u2.heap.size u2 U) => (HBX.out.next b2 HBX.out.lt).next hU (Nat.lt_of_lt_of_le HBX.out.lt b2.size))
    clear oS oI su1 su2 b1 b2 b00 hSK hS0 k1 k2 hc1 hg1 hc2 hg2
    have HVB := Lib.hid (fun (U : World) (hU : Below u2.heap.size u2 U) => HX8.out U (HB513.out.trans (hU.mono HB513.out.size)))
    have HPS := Lib.hid (fun (U : World) (hU : Below u2.heap.size u2 U) => (HSP.out.next HB45.out).next (HB513.out.trans (hU.mono HB513.out.size)))
    have y3 := (HVB.out u2 (Below.refl _ _)).at' 3 _ rfl
    try simp only at y3
    go_wp2_with fail
    clear y3
    go_loopw [13, 14] (fun u gl wr => (u = .int .i64 (-1) ∨ ∃ (a : Nat) (gs : ByteArray), a ≤ m ∧ u = .int .i64 a ∧ gl = .string gs ∧ Hid (a = m ∨ a < m ∧ ∃ g, gs = bs g ∧ Tail x A O s0 0 (ins.take (a + 1)) g (a + 1))) ∧ Hid (Below u2.heap.size u2 wr)) (fun u _ _ => (intOf u + 1).toNat)
    case atStart => exact ⟨Or.inr ⟨m, ⟨#[]⟩, Nat.le_refl _, by go_num, rfl, Or.inl rfl⟩, Below.refl _ _⟩
    case round =>
      obtain ⟨rfl | ⟨a, gs, ham, rfl, rfl, hA⟩, hB⟩ := hrel
      · go_wp2_with fail
        go_ret
        exact ⟨by first | rfl | simp, HB1.out.trans ((HB13.out.trans (hB.out.mono HB13.out.size)).mono HB1.out.size)⟩
      · obtain ⟨ss, qq, hF, hq, hT⟩ := HRND.out a ham gs hA.out
        have HF := Lib.hid hF
        have HT := Lib.hid hT
        have HQQ := Lib.hid hq
        obtain ⟨lb, hlb⟩ : ∃ b, ((a : Int) == (m : Int)) = b := ⟨_, rfl⟩
        have hlb2 : decide (a = m) = lb := by
          rw [← hlb, Bool.eq_iff_iff, decide_eq_true_iff, beq_iff_eq]; omega
        rw [hlb2] at HF
        have HA9 := Lib.hid ham
        clear hlb2 hF hq hT hA
        go_wp2_with fail
        go_loopw [15, 16, 17, 18] (fun st inp fd ii wr => ∃ i : Nat, i ≤ N ∧ ii = .int .i64 i ∧ ((st = .string ⟨#[]⟩ ∧ inp = .string ⟨#[]⟩ ∧ fd = .bool false ∧ Hid (((allL x.lats.length).take i).any (fullL x A bl O lb gs a) = false)) ∨ (st = .string (bs ss) ∧ inp = .string (bs qq) ∧ fd = .bool true)) ∧ Hid (Below u2.heap.size u2 wr)) (fun _ _ fd ii _ => N - (intOf ii).toNat)
        case atStart => exact ⟨0, Nat.zero_le _, rfl, Or.inl ⟨rfl, rfl, rfl, rfl⟩, hB.out⟩
        case round =>
          clear hB
          obtain ⟨i, hi, rfl, ⟨rfl, rfl, rfl, hP⟩ | ⟨rfl, rfl, rfl⟩, hB⟩ := hrel
          · by_cases hli : i < N
            · have hol : i < out.length := by rw [HSO.out.len, HNN.out]; exact hli
              obtain ⟨v0, hv0⟩ : ∃ v, out[i]? = some v := ⟨_, List.getElem?_eq_getElem hol⟩
              obtain ⟨s, hs⟩ : ∃ s, (allL x.lats.length)[i]? = some s := ⟨_, List.getElem?_eq_getElem (by rw [allL_len, HNN.out]; exact hli)⟩
              have HSG := Lib.hid (steps_get HSO.out HKN.out (a := a) hs hv0)
              have HV0 := Lib.hid hv0
              have HS0 := Lib.hid hs
              have HFS : Hid ((fullL x A bl O lb gs a s = true → s = ss) ∧ (fullL x A bl O lb gs a s = false → ((allL x.lats.length).take (i + 1)).any (fullL x A bl O lb gs a) = false)) := by
                obtain ⟨h1, h2⟩ := List.getElem?_eq_some_iff.1 hs
                obtain ⟨f1, f2⟩ := find_take (fullL x A bl O lb gs a) _ h1 hP.out
                rw [h2] at f1 f2
                refine ⟨fun h => ?_, f2⟩
                have h3 := f1 h
                rw [HF.out.st] at h3
                exact (Option.some.inj h3).symm
              have HBB := Lib.hid hB.out
              clear hol hv0 hs hP hB
              go_wp2_with fail
              go_loopw [15, 16, 17, 19] (fun st inp fd ii wr => ∃ k : Nat, k ≤ K ∧ ii = .int .i64 k ∧ ((st = .string ⟨#[]⟩ ∧ inp = .string ⟨#[]⟩ ∧ fd = .bool false ∧ Hid (((allL x.ins.length).take k).any (hitL x A bl lb gs s) = false)) ∨ (st = .string (bs ss) ∧ inp = .string (bs qq) ∧ fd = .bool true)) ∧ Hid (Below u2.heap.size u2 wr)) (fun _ _ _ ii _ => K - (intOf ii).toNat)
              case atStart => exact ⟨0, Nat.zero_le _, rfl, Or.inl ⟨rfl, rfl, rfl, rfl⟩, HBB.out⟩
              case round =>
                clear HBB
                obtain ⟨k, hk, rfl, ⟨rfl, rfl, rfl, hG⟩ | ⟨rfl, rfl, rfl⟩, hB⟩ := hrel
                · have e0 := (HGX.out wr hB.out).at' i _ (ints_get HV0.out)
                  by_cases hkt : k < K
                  · have hd : decide ((k : Int) < (K : Int)) = true := decide_eq_true (by omega)
                    obtain ⟨qv, hqv⟩ : ∃ b, (v0 == (a : Int)) = b := ⟨_, rfl⟩
                    have hsg := HSG.out
                    rw [hqv] at hsg
                    cases qv
                    · have HN1 : Hid (((allL x.lats.length).take (i + 1)).any (fullL x A bl O lb gs a) = false) := HFS.out.2 (by unfold fullL; rw [← hsg]; rfl)
                      clear hsg
                      have HBW := Lib.hid hB.out
                      clear hB
                      go_wp2_with fail
                      go_roundw
                      case rel => exact ⟨i + 1, by omega, by go_num, Or.inl ⟨rfl, rfl, rfl, HN1.out⟩, HBW.out⟩
                      case measure => simp [intOf]; omega
                    · skip
                      obtain ⟨bt, ot, s2, hae, hbt, hs2, d0⟩ := str_bs (HSS.out.next hB.out) hli
                      have hse : s2 = s := by have h := HS0.out; rw [hs2] at h; exact Option.some.inj h
                      subst hse
                      obtain ⟨bq, oq, q, haq, hbq, hq, d1⟩ := str_bs (HSI.out.next hB.out) hkt
                      obtain ⟨_, _, _, ht1, hbs2, _⟩ := HSS.out.at hli
                      obtain ⟨_, _, _, ht2, hbq2, _⟩ := HSI.out.at hkt
                      rw [hae] at ht1
                      rw [haq] at ht2
                      simp only [Option.some.injEq, Addr.mk.injEq] at ht1 ht2
                      rw [← ht1.1] at hbs2
                      rw [← ht2.1] at hbq2
                      clear ht1 ht2
                      subst hae
                      subst haq
                      have hsl := at_len _ _ _ hs2
                      have hql := at_len _ _ _ hq
                      have HGS : Hid (decide (getI (tbl O) s2 = some (a : Int)) = true) := hsg.symm
                      have HHT : Hid ((hitL x A bl lb gs s2 q = true → s2 = ss ∧ q = qq) ∧ (hitL x A bl lb gs s2 q = false → ((allL x.ins.length).take (k + 1)).any (hitL x A bl lb gs s2) = false)) := by
                        obtain ⟨h1, h2⟩ := List.getElem?_eq_some_iff.1 hq
                        obtain ⟨f1, f2⟩ := find_take (hitL x A bl lb gs s2) _ h1 hG.out
                        rw [h2] at f1 f2
                        refine ⟨fun h => ?_, f2⟩
                        have h4 : s2 = ss := HFS.out.1 (by
                          unfold fullL
                          rw [HGS.out, Bool.true_and]
                          exact List.any_eq_true.2 ⟨q, List.mem_of_getElem? hq, h⟩)
                        refine ⟨h4, ?_⟩
                        have h3 := f1 h
                        rw [h4, HF.out.ip] at h3
                        exact (Option.some.inj h3).symm
                      have HBD := Lib.hid (hB.out.trans (Below.refl _ _).drew)
                      have HCV := HVV.out wr.drew (HB13.out.trans (HBD.out.mono HB13.out.size)) s2 q hsl hql
                      have HSL := Lib.hid hsl
                      have HQL := Lib.hid hql
                      have D0 : Hid (∀ U, Below u2.heap.size u2 U → U.cell? ⟨bt, ot + i, none⟩ = some (.string (bs s2)) ∧ U.cell? ⟨bq, oq + k, none⟩ = some (.string (bs q))) := fun U hU => ⟨(hU.cell (p := ⟨bt, ot + i, none⟩) hbs2).trans (((hB.out.cell (p := ⟨bt, ot + i, none⟩) hbs2).symm).trans d0), (hU.cell (p := ⟨bq, oq + k, none⟩) hbq2).trans (((hB.out.cell (p := ⟨bq, oq + k, none⟩) hbq2).symm).trans d1)⟩
                      clear hsl hql hs2 hq d0 d1 hB hbt hbq hbs2 hbq2 hsg HS0 HSG HFS hG
                      generalize hsB : bs s2 = sB at *
                      generalize hqB : bs q = qB at *
                      have HSB := Lib.hid hsB
                      have HQB := Lib.hid hqB
                      have HCV := Lib.hid HCV
                      clear hsB hqB
                      have hSK : ∀ U : World, Below u2.heap.size u2 U → U.cell? ⟨w.heap.size, 0, none⟩ = some (.int .i64 x.max) ∧ U.cell? ⟨w.heap.size, 1, none⟩ = some (.slice a1 x.ins.length c1) ∧ U.cell? ⟨w.heap.size, 2, none⟩ = some (.slice a2 x.lats.length c2) ∧ U.cell? ⟨w.heap.size, 3, none⟩ = some (.slice a3 x.outs.length c3) ∧ U.cell? ⟨w.heap.size, 4, none⟩ = some (.slice (some ⟨gb, ob, none⟩) x.bads.length c4) ∧ U.cell? ⟨w.heap.size, 5, none⟩ = some (.slice a5 x.invs.length c5) ∧ U.cell? ⟨w.heap.size, 6, none⟩ = some (.slice a6 x.ands.length c6) ∧ U.cell? ⟨w.heap.size, 7, none⟩ = some (.slice a7 x.names.length c7) ∧ U.cell? ⟨bt, ot + i, none⟩ = some (.string sB) ∧ U.cell? ⟨bq, oq + k, none⟩ = some (.string qB) := fun U hU => by
                        have c := HX.out U (HB13.out.trans (hU.mono HB13.out.size))
                        exact ⟨c.k0, c.k1, c.k2, c.k3, c.k4, c.k5, c.k6, c.k7, (D0.out U hU).1, (D0.out U hU).2⟩
                      have hS0 := hSK _ HBD.out
                      have hiI : (i : Int) < (N : Int) := by omega
                      have hkI : (k : Int) < (K : Int) := by omega
                      go_upto_region 19 with fail
                      refine HeldAll.region (fun U : World => U.cell? ⟨w.heap.size, 0, none⟩ = some (.int .i64 x.max) ∧ U.cell? ⟨w.heap.size, 1, none⟩ = some (.slice a1 x.ins.length c1) ∧ U.cell? ⟨w.heap.size, 2, none⟩ = some (.slice a2 x.lats.length c2) ∧ U.cell? ⟨w.heap.size, 3, none⟩ = some (.slice a3 x.outs.length c3) ∧ U.cell? ⟨w.heap.size, 4, none⟩ = some (.slice (some ⟨gb, ob, none⟩) x.bads.length c4) ∧ U.cell? ⟨w.heap.size, 5, none⟩ = some (.slice a5 x.invs.length c5) ∧ U.cell? ⟨w.heap.size, 6, none⟩ = some (.slice a6 x.ands.length c6) ∧ U.cell? ⟨w.heap.size, 7, none⟩ = some (.slice a7 x.names.length c7) ∧ U.cell? ⟨bt, ot + i, none⟩ = some (.string sB) ∧ U.cell? ⟨bq, oq + k, none⟩ = some (.string qB)) (by kernel_rfl) ?_
                      (refine HeldAll.take (i := 0) (oi := _) (d := some 102) (v := ?_) rfl rfl (by kernel_rfl) (by kernel_rfl) (by kernel_rfl) (fun _ _ _ h => h) (Or.inl ⟨by rfl, ?_⟩) hS0 ?_; rotate_left; (focus (intro w hSw; (try dsimp only at hSw); go_simp; (try with_reducible rfl); done)); (try simp only [Act.put, List.setIfInBounds_toArray, List.set_cons_zero, List.set_cons_succ]))
                      (refine HeldAll.take (i := 1) (oi := _) (d := some 103) (v := ?_) rfl rfl (by kernel_rfl) (by kernel_rfl) (by kernel_rfl) (fun _ _ _ h => h) (Or.inl ⟨by rfl, ?_⟩) hS0 ?_; rotate_left; (focus (intro w hSw; clear hSw; go_simp; (try with_reducible rfl); done)); (try simp only [Act.put, List.setIfInBounds_toArray, List.set_cons_zero, List.set_cons_succ]))
                      (refine HeldAll.take (i := 2) (oi := _) (d := some 104) (v := ?_) rfl rfl (by kernel_rfl) (by kernel_rfl) (by kernel_rfl) (fun _ _ _ h => h) (Or.inl ⟨by rfl, ?_⟩) hS0 ?_; rotate_left; (focus (intro w hSw; clear hSw; go_simp; (try with_reducible rfl); done)); (try simp only [Act.put, List.setIfInBounds_toArray, List.set_cons_zero, List.set_cons_succ]))
                      (refine HeldAll.take (i := 3) (oi := _) (d := some 105) (v := ?_) rfl rfl (by kernel_rfl) (by kernel_rfl) (by kernel_rfl) (fun _ _ _ h => h) (Or.inl ⟨by rfl, ?_⟩) hS0 ?_; rotate_left; (focus (intro w hSw; clear hSw; go_simp; (try with_reducible rfl); done)); (try simp only [Act.put, List.setIfInBounds_toArray, List.set_cons_zero, List.set_cons_succ]))
                      (refine HeldAll.take (i := 4) (oi := _) (d := some 106) (v := ?_) rfl rfl (by kernel_rfl) (by kernel_rfl) (by kernel_rfl) (fun _ _ _ h => h) (Or.inl ⟨by rfl, ?_⟩) hS0 ?_; rotate_left; (focus (intro w hSw; (try dsimp only at hSw); go_simp; (try with_reducible rfl); done)); (try simp only [Act.put, List.setIfInBounds_toArray, List.set_cons_zero, List.set_cons_succ]))
                      (refine HeldAll.take (i := 5) (oi := _) (d := some 107) (v := ?_) rfl rfl (by kernel_rfl) (by kernel_rfl) (by kernel_rfl) (fun _ _ _ h => h) (Or.inl ⟨by rfl, ?_⟩) hS0 ?_; rotate_left; (focus (intro w hSw; clear hSw; go_simp; (try with_reducible rfl); done)); (try simp only [Act.put, List.setIfInBounds_toArray, List.set_cons_zero, List.set_cons_succ]))
                      (refine HeldAll.take (i := 6) (oi := _) (d := some 108) (v := ?_) rfl rfl (by kernel_rfl) (by kernel_rfl) (by kernel_rfl) (fun _ _ _ h => h) (Or.inl ⟨by rfl, ?_⟩) hS0 ?_; rotate_left; (focus (intro w hSw; clear hSw; go_simp; (try with_reducible rfl); done)); (try simp only [Act.put, List.setIfInBounds_toArray, List.set_cons_zero, List.set_cons_succ]))
                      (refine HeldAll.take (i := 7) (oi := _) (d := some 109) (v := ?_) rfl rfl (by kernel_rfl) (by kernel_rfl) (by kernel_rfl) (fun _ _ _ h => h) (Or.inl ⟨by rfl, ?_⟩) hS0 ?_; rotate_left; (focus (intro w hSw; clear hSw; go_simp; (try with_reducible rfl); done)); (try simp only [Act.put, List.setIfInBounds_toArray, List.set_cons_zero, List.set_cons_succ]))
                      (refine HeldAll.take (i := 8) (oi := _) (d := some 110) (v := ?_) rfl rfl (by kernel_rfl) (by kernel_rfl) (by kernel_rfl) (fun _ _ _ h => h) (Or.inl ⟨by rfl, ?_⟩) hS0 ?_; rotate_left; (focus (intro w hSw; (try dsimp only at hSw); go_simp; (try with_reducible rfl); done)); (try simp only [Act.put, List.setIfInBounds_toArray, List.set_cons_zero, List.set_cons_succ]))
                      refine HeldAll.one (i := 9) (by kernel_rfl) ?_
                      refine HeldAll.opCall (i := 9) (oi := _) (d := some 111) (R := fun v w' => v = .tuple #[.string (bs (vals x s2 q)), .int .i64 0] ∧ Below wr.drew.heap.size wr.drew w') rfl rfl (by rfl) (by go_simp; done) (HCV.out.mono fun e w' h => ⟨_, h.1, rfl, h.2⟩) ?_
                      rintro v w6 ⟨rfl, hb6⟩
                      refine ⟨hSK _ (HBD.out.trans (hb6.mono HBD.out.size)), ?_⟩
                      (try simp only [Act.put, List.setIfInBounds_toArray, List.set_cons_zero, List.set_cons_succ])
                      have hS0 := hSK _ (HBD.out.trans (hb6.mono HBD.out.size))
                      (refine HeldAll.take (i := 10) (oi := _) (d := some 101) (v := ?_) rfl rfl (by kernel_rfl) (by kernel_rfl) (by kernel_rfl) (fun _ _ _ h => h) (Or.inl ⟨by rfl, ?_⟩) hS0 ?_; rotate_left; (focus (intro w hSw; clear hSw; go_simp; (try with_reducible rfl); done)); (try simp only [Act.put, List.setIfInBounds_toArray, List.set_cons_zero, List.set_cons_succ]))
                      (refine HeldAll.take (i := 11) (oi := _) (d := some 112) (v := ?_) rfl rfl (by kernel_rfl) (by kernel_rfl) (by kernel_rfl) (fun _ _ _ h => h) (Or.inl ⟨by rfl, ?_⟩) hS0 ?_; rotate_left; (focus (intro w hSw; clear hSw; go_simp; (try with_reducible rfl); done)); (try simp only [Act.put, List.setIfInBounds_toArray, List.set_cons_zero, List.set_cons_succ]))
                      (refine HeldAll.take (i := 12) (oi := _) (d := some 113) (v := ?_) rfl rfl (by kernel_rfl) (by kernel_rfl) (by kernel_rfl) (fun _ _ _ h => h) (Or.inl ⟨by rfl, ?_⟩) hS0 ?_; rotate_left; (focus (intro w hSw; clear hSw; go_simp; (try with_reducible rfl); done)); (try simp only [Act.put, List.setIfInBounds_toArray, List.set_cons_zero, List.set_cons_succ]))
                      (refine HeldAll.take (i := 13) (oi := _) (d := some 20) (v := ?_) rfl rfl (by kernel_rfl) (by kernel_rfl) (by kernel_rfl) (fun _ _ _ h => h) (Or.inl ⟨by rfl, ?_⟩) hS0 ?_; rotate_left; (focus (intro w hSw; clear hSw; go_simp; (try with_reducible rfl); done)); (try simp only [Act.put, List.setIfInBounds_toArray, List.set_cons_zero, List.set_cons_succ]))
                      (refine HeldAll.take (i := 14) (oi := _) (d := some 21) (v := ?_) rfl rfl (by kernel_rfl) (by kernel_rfl) (by kernel_rfl) (fun _ _ _ h => h) (Or.inl ⟨by rfl, ?_⟩) hS0 ?_; rotate_left; (focus (intro w hSw; clear hSw; go_simp; (try with_reducible rfl); done)); (try simp only [Act.put, List.setIfInBounds_toArray, List.set_cons_zero, List.set_cons_succ]))
                      refine HeldAll.done (by kernel_rfl) ?_ _
                      clear hS0 hSK hiI hkI
                      have HB6 := Lib.hid (HBD.out.trans (hb6.mono HBD.out.size))
                      clear hb6 e0
                      have HBD6 := Lib.hid (HB6.out.trans (Below.refl _ _).drew)
                      have HCN := HNV.out w6.drew (HB13.out.trans (HBD6.out.mono HB13.out.size)) s2 q HSL.out HQL.out
                      rw [HSB.out, HQB.out] at HCN
                      obtain ⟨nx, hnx⟩ : ∃ t, bs (next x s2 q) = t := ⟨_, rfl⟩
                      have HNXB := Lib.hid hnx
                      rw [hnx] at HCN
                      have HCN2 := Lib.hid HCN
                      have HAC := fun (U : World) (hU : Below W1.heap.size W1 U) => HAA2.out U hU s2 q
                      have HTQ := fun U => HTT.out U s2 q
                      have HHE : Hid (hitL x A bl lb gs s2 q = (allow x A (vals x s2 q) && (lb && litV (vals x s2 q) bl || (!lb && (nx.toList == gs.toList))))) := by show _ = _; unfold hitL; rw [hnx]
                      generalize hitL x A bl lb gs s2 q = hl at *
                      generalize hal : allow x A (vals x s2 q) = al at *
                      generalize hlv : litV (vals x s2 q) bl = lv at *
                      generalize bs (vals x s2 q) = sv at *
                      obtain ⟨eb, heb⟩ : ∃ b, (nx.toList == gs.toList) = b := ⟨_, rfl⟩
                      rw [heb] at HHE
                      have HAC2 := Lib.hid HAC
                      have HTQ2 := Lib.hid HTQ
                      clear hal hlv HAC HTQ hnx HCN
                      have hSK : ∀ U : World, Below u2.heap.size u2 U → U.cell? ⟨w.heap.size, 0, none⟩ = some (.int .i64 x.max) ∧ U.cell? ⟨w.heap.size, 1, none⟩ = some (.slice a1 x.ins.length c1) ∧ U.cell? ⟨w.heap.size, 2, none⟩ = some (.slice a2 x.lats.length c2) ∧ U.cell? ⟨w.heap.size, 3, none⟩ = some (.slice a3 x.outs.length c3) ∧ U.cell? ⟨w.heap.size, 4, none⟩ = some (.slice (some ⟨gb, ob, none⟩) x.bads.length c4) ∧ U.cell? ⟨w.heap.size, 5, none⟩ = some (.slice a5 x.invs.length c5) ∧ U.cell? ⟨w.heap.size, 6, none⟩ = some (.slice a6 x.ands.length c6) ∧ U.cell? ⟨w.heap.size, 7, none⟩ = some (.slice a7 x.names.length c7) ∧ U.cell? ⟨bt, ot + i, none⟩ = some (.string sB) ∧ U.cell? ⟨bq, oq + k, none⟩ = some (.string qB) := fun U hU => by
                        have c := HX.out U (HB13.out.trans (hU.mono HB13.out.size))
                        exact ⟨c.k0, c.k1, c.k2, c.k3, c.k4, c.k5, c.k6, c.k7, (D0.out U hU).1, (D0.out U hU).2⟩
                      have hS0 := hSK _ HBD6.out
                      have hiI : (i : Int) < (N : Int) := by omega
                      have hkI : (k : Int) < (K : Int) := by omega
                      go_upto_region 20 with fail
                      refine HeldAll.region (fun U : World => U.cell? ⟨w.heap.size, 0, none⟩ = some (.int .i64 x.max) ∧ U.cell? ⟨w.heap.size, 1, none⟩ = some (.slice a1 x.ins.length c1) ∧ U.cell? ⟨w.heap.size, 2, none⟩ = some (.slice a2 x.lats.length c2) ∧ U.cell? ⟨w.heap.size, 3, none⟩ = some (.slice a3 x.outs.length c3) ∧ U.cell? ⟨w.heap.size, 4, none⟩ = some (.slice (some ⟨gb, ob, none⟩) x.bads.length c4) ∧ U.cell? ⟨w.heap.size, 5, none⟩ = some (.slice a5 x.invs.length c5) ∧ U.cell? ⟨w.heap.size, 6, none⟩ = some (.slice a6 x.ands.length c6) ∧ U.cell? ⟨w.heap.size, 7, none⟩ = some (.slice a7 x.names.length c7) ∧ U.cell? ⟨bt, ot + i, none⟩ = some (.string sB) ∧ U.cell? ⟨bq, oq + k, none⟩ = some (.string qB)) (by kernel_rfl) ?_
                      (refine HeldAll.take (i := 0) (oi := _) (d := some 115) (v := ?_) rfl rfl (by kernel_rfl) (by kernel_rfl) (by kernel_rfl) (fun _ _ _ h => h) (Or.inl ⟨by rfl, ?_⟩) hS0 ?_; rotate_left; (focus (intro w hSw; (try dsimp only at hSw); go_simp; (try with_reducible rfl); done)); (try simp only [Act.put, List.setIfInBounds_toArray, List.set_cons_zero, List.set_cons_succ]))
                      (refine HeldAll.take (i := 1) (oi := _) (d := some 116) (v := ?_) rfl rfl (by kernel_rfl) (by kernel_rfl) (by kernel_rfl) (fun _ _ _ h => h) (Or.inl ⟨by rfl, ?_⟩) hS0 ?_; rotate_left; (focus (intro w hSw; clear hSw; go_simp; (try with_reducible rfl); done)); (try simp only [Act.put, List.setIfInBounds_toArray, List.set_cons_zero, List.set_cons_succ]))
                      (refine HeldAll.take (i := 2) (oi := _) (d := some 117) (v := ?_) rfl rfl (by kernel_rfl) (by kernel_rfl) (by kernel_rfl) (fun _ _ _ h => h) (Or.inl ⟨by rfl, ?_⟩) hS0 ?_; rotate_left; (focus (intro w hSw; clear hSw; go_simp; (try with_reducible rfl); done)); (try simp only [Act.put, List.setIfInBounds_toArray, List.set_cons_zero, List.set_cons_succ]))
                      (refine HeldAll.take (i := 3) (oi := _) (d := some 118) (v := ?_) rfl rfl (by kernel_rfl) (by kernel_rfl) (by kernel_rfl) (fun _ _ _ h => h) (Or.inl ⟨by rfl, ?_⟩) hS0 ?_; rotate_left; (focus (intro w hSw; clear hSw; go_simp; (try with_reducible rfl); done)); (try simp only [Act.put, List.setIfInBounds_toArray, List.set_cons_zero, List.set_cons_succ]))
                      (refine HeldAll.take (i := 4) (oi := _) (d := some 119) (v := ?_) rfl rfl (by kernel_rfl) (by kernel_rfl) (by kernel_rfl) (fun _ _ _ h => h) (Or.inl ⟨by rfl, ?_⟩) hS0 ?_; rotate_left; (focus (intro w hSw; (try dsimp only at hSw); go_simp; (try with_reducible rfl); done)); (try simp only [Act.put, List.setIfInBounds_toArray, List.set_cons_zero, List.set_cons_succ]))
                      (refine HeldAll.take (i := 5) (oi := _) (d := some 120) (v := ?_) rfl rfl (by kernel_rfl) (by kernel_rfl) (by kernel_rfl) (fun _ _ _ h => h) (Or.inl ⟨by rfl, ?_⟩) hS0 ?_; rotate_left; (focus (intro w hSw; clear hSw; go_simp; (try with_reducible rfl); done)); (try simp only [Act.put, List.setIfInBounds_toArray, List.set_cons_zero, List.set_cons_succ]))
                      (refine HeldAll.take (i := 6) (oi := _) (d := some 121) (v := ?_) rfl rfl (by kernel_rfl) (by kernel_rfl) (by kernel_rfl) (fun _ _ _ h => h) (Or.inl ⟨by rfl, ?_⟩) hS0 ?_; rotate_left; (focus (intro w hSw; clear hSw; go_simp; (try with_reducible rfl); done)); (try simp only [Act.put, List.setIfInBounds_toArray, List.set_cons_zero, List.set_cons_succ]))
                      (refine HeldAll.take (i := 7) (oi := _) (d := some 122) (v := ?_) rfl rfl (by kernel_rfl) (by kernel_rfl) (by kernel_rfl) (fun _ _ _ h => h) (Or.inl ⟨by rfl, ?_⟩) hS0 ?_; rotate_left; (focus (intro w hSw; clear hSw; go_simp; (try with_reducible rfl); done)); (try simp only [Act.put, List.setIfInBounds_toArray, List.set_cons_zero, List.set_cons_succ]))
                      (refine HeldAll.take (i := 8) (oi := _) (d := some 123) (v := ?_) rfl rfl (by kernel_rfl) (by kernel_rfl) (by kernel_rfl) (fun _ _ _ h => h) (Or.inl ⟨by rfl, ?_⟩) hS0 ?_; rotate_left; (focus (intro w hSw; (try dsimp only at hSw); go_simp; (try with_reducible rfl); done)); (try simp only [Act.put, List.setIfInBounds_toArray, List.set_cons_zero, List.set_cons_succ]))
                      refine HeldAll.one (i := 9) (by kernel_rfl) ?_
                      refine HeldAll.opCall (i := 9) (oi := _) (d := some 124) (R := fun v w' => v = .tuple #[.string nx, .int .i64 0] ∧ Below w6.drew.heap.size w6.drew w') rfl rfl (by rfl) (by go_simp; done) (HCN2.out.mono fun e w' h => ⟨_, h.1, rfl, h.2⟩) ?_
                      rintro v w7b ⟨rfl, hb7⟩
                      refine ⟨hSK _ (HBD6.out.trans (hb7.mono HBD6.out.size)), ?_⟩
                      (try simp only [Act.put, List.setIfInBounds_toArray, List.set_cons_zero, List.set_cons_succ])
                      have hS0 := hSK _ (HBD6.out.trans (hb7.mono HBD6.out.size))
                      (refine HeldAll.take (i := 10) (oi := _) (d := some 114) (v := ?_) rfl rfl (by kernel_rfl) (by kernel_rfl) (by kernel_rfl) (fun _ _ _ h => h) (Or.inl ⟨by rfl, ?_⟩) hS0 ?_; rotate_left; (focus (intro w hSw; clear hSw; go_simp; (try with_reducible rfl); done)); (try simp only [Act.put, List.setIfInBounds_toArray, List.set_cons_zero, List.set_cons_succ]))
                      (refine HeldAll.take (i := 11) (oi := _) (d := some 125) (v := ?_) rfl rfl (by kernel_rfl) (by kernel_rfl) (by kernel_rfl) (fun _ _ _ h => h) (Or.inl ⟨by rfl, ?_⟩) hS0 ?_; rotate_left; (focus (intro w hSw; clear hSw; go_simp; (try with_reducible rfl); done)); (try simp only [Act.put, List.setIfInBounds_toArray, List.set_cons_zero, List.set_cons_succ]))
                      (refine HeldAll.take (i := 12) (oi := _) (d := some 126) (v := ?_) rfl rfl (by kernel_rfl) (by kernel_rfl) (by kernel_rfl) (fun _ _ _ h => h) (Or.inl ⟨by rfl, ?_⟩) hS0 ?_; rotate_left; (focus (intro w hSw; clear hSw; go_simp; (try with_reducible rfl); done)); (try simp only [Act.put, List.setIfInBounds_toArray, List.set_cons_zero, List.set_cons_succ]))
                      (refine HeldAll.take (i := 13) (oi := _) (d := some 22) (v := ?_) rfl rfl (by kernel_rfl) (by kernel_rfl) (by kernel_rfl) (fun _ _ _ h => h) (Or.inl ⟨by rfl, ?_⟩) hS0 ?_; rotate_left; (focus (intro w hSw; clear hSw; go_simp; (try with_reducible rfl); done)); (try simp only [Act.put, List.setIfInBounds_toArray, List.set_cons_zero, List.set_cons_succ]))
                      (refine HeldAll.take (i := 14) (oi := _) (d := some 23) (v := ?_) rfl rfl (by kernel_rfl) (by kernel_rfl) (by kernel_rfl) (fun _ _ _ h => h) (Or.inl ⟨by rfl, ?_⟩) hS0 ?_; rotate_left; (focus (intro w hSw; clear hSw; go_simp; (try with_reducible rfl); done)); (try simp only [Act.put, List.setIfInBounds_toArray, List.set_cons_zero, List.set_cons_succ]))
                      refine HeldAll.done (by kernel_rfl) ?_ _
                      clear hS0 hSK hiI hkI
                      have HB7b := Lib.hid (HBD6.out.trans (hb7.mono HBD6.out.size))
                      clear hb7
                      have y3 := (HVB.out w7b HB7b.out).at' 3 _ rfl
                      try simp only at y3
                      have c := HX.out w7b (HB13.out.trans (HB7b.out.mono HB13.out.size))
                      have k0 := c.k0
                      have k1 := c.k1
                      have k2 := c.k2
                      have k3 := c.k3
                      have k4 := c.k4
                      have k5 := c.k5
                      have k6 := c.k6
                      have k7 := c.k7
                      try simp only at k0 k1 k2 k3 k4 k5 k6 k7
                      clear c
                      have HA7 := Lib.hid (HAC2.out w7b (HB13.out.trans (HB7b.out.mono HB13.out.size)))
                      go_wp2_with fail
                      clear y3
                      with_reducible refine HA7.out.mono ?_
                      rintro e w8b ⟨rfl, hb8⟩
                      have HB8b := Lib.hid (HB7b.out.trans (hb8.mono HB7b.out.size))
                      clear k0 k1 k2 k3 k4 k5 k6 k7
                      clear hb8
                      have c := HX.out w8b (HB13.out.trans (HB8b.out.mono HB13.out.size))
                      have k4 := c.k4
                      try simp only at k4
                      clear c
                      have ebd := HBE.out w8b (HB1.out.trans ((HB13.out.trans (HB8b.out.mono HB13.out.size)).mono HB1.out.size))
                      cases al
                      · have HNO := Lib.hid (HHT.out.2 (by rw [HHE.out]; rfl))
                        clear HHT HHE
                        go_wp2_with fail
                        go_roundw
                        case rel => exact ⟨k + 1, by omega, by go_num, Or.inl ⟨rfl, rfl, rfl, HNO.out⟩, HB8b.out⟩
                        case measure => simp [intOf]; omega
                      · cases lb
                        · cases eb
                          · have HNO := Lib.hid (HHT.out.2 (by rw [HHE.out]; rfl))
                            clear HHT HHE
                            go_wp2_with fail
                            go_roundw
                            case rel => exact ⟨k + 1, by omega, by go_num, Or.inl ⟨rfl, rfl, rfl, HNO.out⟩, HB8b.out⟩
                            case measure => simp [intOf]; omega
                          · obtain ⟨hss, hqq⟩ := HHT.out.1 (by rw [HHE.out]; rfl)
                            have HSS9 := Lib.hid hss
                            have HQQ9 := Lib.hid hqq
                            clear hss hqq HHT HHE
                            go_upto_region 23 with fail
                            have hSK : ∀ U : World, Below u2.heap.size u2 U → U.cell? ⟨bt, ot + i, none⟩ = some (.string sB) ∧ U.cell? ⟨bq, oq + k, none⟩ = some (.string qB) := fun U hU => D0.out U hU
                            have HBD8 := Lib.hid (HB8b.out.trans (Below.refl _ _).drew)
                            have hS0 := hSK _ HBD8.out
                            have hiI : (i : Int) < (N : Int) := by omega
                            have hkI : (k : Int) < (K : Int) := by omega
                            refine HeldAll.region (fun U : World => U.cell? ⟨bt, ot + i, none⟩ = some (.string sB) ∧ U.cell? ⟨bq, oq + k, none⟩ = some (.string qB)) (by kernel_rfl) ?_
                            (refine HeldAll.take (i := 0) (oi := _) (d := some 159) (v := ?_) rfl rfl (by kernel_rfl) (by kernel_rfl) (by kernel_rfl) (fun _ _ _ h => h) (Or.inl ⟨by rfl, ?_⟩) hS0 ?_; rotate_left; (focus (intro w hSw; clear hSw; go_simp; (try with_reducible rfl); done)); (try simp only [Act.put, List.setIfInBounds_toArray, List.set_cons_zero, List.set_cons_succ]))
                            (refine HeldAll.take (i := 1) (oi := _) (d := some 160) (v := ?_) rfl rfl (by kernel_rfl) (by kernel_rfl) (by kernel_rfl) (fun _ _ _ h => h) (Or.inl ⟨by rfl, ?_⟩) hS0 ?_; rotate_left; (focus (intro w hSw; clear hSw; go_simp; (try with_reducible rfl); done)); (try simp only [Act.put, List.setIfInBounds_toArray, List.set_cons_zero, List.set_cons_succ]))
                            (refine HeldAll.take (i := 2) (oi := _) (d := some 161) (v := ?_) rfl rfl (by kernel_rfl) (by kernel_rfl) (by kernel_rfl) (fun _ _ _ h => h) (Or.inl ⟨by rfl, ?_⟩) hS0 ?_; rotate_left; (focus (intro w hSw; clear hSw; go_simp; (try with_reducible rfl); done)); (try simp only [Act.put, List.setIfInBounds_toArray, List.set_cons_zero, List.set_cons_succ]))
                            (refine HeldAll.take (i := 3) (oi := _) (d := some 162) (v := ?_) rfl rfl (by kernel_rfl) (by kernel_rfl) (by kernel_rfl) (fun _ _ _ h => h) (Or.inl ⟨by rfl, ?_⟩) hS0 ?_; rotate_left; (focus (intro w hSw; (try dsimp only at hSw); go_simp; (try with_reducible rfl); done)); (try simp only [Act.put, List.setIfInBounds_toArray, List.set_cons_zero, List.set_cons_succ]))
                            (refine HeldAll.take (i := 4) (oi := _) (d := some 163) (v := ?_) rfl rfl (by kernel_rfl) (by kernel_rfl) (by kernel_rfl) (fun _ _ _ h => h) (Or.inl ⟨by rfl, ?_⟩) hS0 ?_; rotate_left; (focus (intro w hSw; clear hSw; go_simp; (try with_reducible rfl); done)); (try simp only [Act.put, List.setIfInBounds_toArray, List.set_cons_zero, List.set_cons_succ]))
                            (refine HeldAll.take (i := 5) (oi := _) (d := some 164) (v := ?_) rfl rfl (by kernel_rfl) (by kernel_rfl) (by kernel_rfl) (fun _ _ _ h => h) (Or.inl ⟨by rfl, ?_⟩) hS0 ?_; rotate_left; (focus (intro w hSw; clear hSw; go_simp; (try with_reducible rfl); done)); (try simp only [Act.put, List.setIfInBounds_toArray, List.set_cons_zero, List.set_cons_succ]))
                            (refine HeldAll.take (i := 6) (oi := _) (d := some 165) (v := ?_) rfl rfl (by kernel_rfl) (by kernel_rfl) (by kernel_rfl) (fun _ _ _ h => h) (Or.inl ⟨by rfl, ?_⟩) hS0 ?_; rotate_left; (focus (intro w hSw; clear hSw; go_simp; (try with_reducible rfl); done)); (try simp only [Act.put, List.setIfInBounds_toArray, List.set_cons_zero, List.set_cons_succ]))
                            (refine HeldAll.take (i := 7) (oi := _) (d := some 166) (v := ?_) rfl rfl (by kernel_rfl) (by kernel_rfl) (by kernel_rfl) (fun _ _ _ h => h) (Or.inl ⟨by rfl, ?_⟩) hS0 ?_; rotate_left; (focus (intro w hSw; (try dsimp only at hSw); go_simp; (try with_reducible rfl); done)); (try simp only [Act.put, List.setIfInBounds_toArray, List.set_cons_zero, List.set_cons_succ]))
                            (refine HeldAll.take (i := 8) (oi := _) (d := some 15) (v := ?_) rfl rfl (by kernel_rfl) (by kernel_rfl) (by kernel_rfl) (fun _ _ _ h => h) (Or.inl ⟨by rfl, ?_⟩) hS0 ?_; rotate_left; (focus (intro w hSw; clear hSw; go_simp; (try with_reducible rfl); done)); (try simp only [Act.put, List.setIfInBounds_toArray, List.set_cons_zero, List.set_cons_succ]))
                            (refine HeldAll.take (i := 9) (oi := _) (d := some 16) (v := ?_) rfl rfl (by kernel_rfl) (by kernel_rfl) (by kernel_rfl) (fun _ _ _ h => h) (Or.inl ⟨by rfl, ?_⟩) hS0 ?_; rotate_left; (focus (intro w hSw; clear hSw; go_simp; (try with_reducible rfl); done)); (try simp only [Act.put, List.setIfInBounds_toArray, List.set_cons_zero, List.set_cons_succ]))
                            (refine HeldAll.take (i := 10) (oi := _) (d := some 17) (v := ?_) rfl rfl (by kernel_rfl) (by kernel_rfl) (by kernel_rfl) (fun _ _ _ h => h) (Or.inl ⟨by rfl, ?_⟩) hS0 ?_; rotate_left; (focus (intro w hSw; clear hSw; go_simp; (try with_reducible rfl); done)); (try simp only [Act.put, List.setIfInBounds_toArray, List.set_cons_zero, List.set_cons_succ]))
                            refine HeldAll.done (by kernel_rfl) ?_ _
                            clear hS0 hSK hiI hkI
                            go_wp2_with fail
                            go_roundw
                            case rel => exact ⟨k + 1, by omega, by go_num, Or.inr ⟨by rw [← HSB.out, HSS9.out], by rw [← HQB.out, HQQ9.out], rfl⟩, HBD8.out⟩
                            case measure => simp [intOf]; omega
                        · cases lv
                          · have HNO := Lib.hid (HHT.out.2 (by rw [HHE.out]; rfl))
                            clear HHT HHE
                            go_wp2_with fail
                            with_reducible refine (HTQ2.out _).mono ?_
                            rintro e w9 ⟨rfl, rfl⟩
                            go_wp2_with fail
                            go_roundw
                            case rel => exact ⟨k + 1, by omega, by go_num, Or.inl ⟨rfl, rfl, rfl, HNO.out⟩, HB8b.out⟩
                            case measure => simp [intOf]; omega
                          · obtain ⟨hss, hqq⟩ := HHT.out.1 (by rw [HHE.out]; rfl)
                            have HSS9 := Lib.hid hss
                            have HQQ9 := Lib.hid hqq
                            clear hss hqq HHT HHE
                            go_upto_region 23 with fail
                            with_reducible refine (HTQ2.out _).mono ?_
                            rintro e w9 ⟨rfl, rfl⟩
                            go_upto_region 23 with fail
                            have hSK : ∀ U : World, Below u2.heap.size u2 U → U.cell? ⟨bt, ot + i, none⟩ = some (.string sB) ∧ U.cell? ⟨bq, oq + k, none⟩ = some (.string qB) := fun U hU => D0.out U hU
                            have HBD8 := Lib.hid (HB8b.out.trans (Below.refl _ _).drew)
                            have hS0 := hSK _ HBD8.out
                            have hiI : (i : Int) < (N : Int) := by omega
                            have hkI : (k : Int) < (K : Int) := by omega
                            refine HeldAll.region (fun U : World => U.cell? ⟨bt, ot + i, none⟩ = some (.string sB) ∧ U.cell? ⟨bq, oq + k, none⟩ = some (.string qB)) (by kernel_rfl) ?_
                            (refine HeldAll.take (i := 0) (oi := _) (d := some 159) (v := ?_) rfl rfl (by kernel_rfl) (by kernel_rfl) (by kernel_rfl) (fun _ _ _ h => h) (Or.inl ⟨by rfl, ?_⟩) hS0 ?_; rotate_left; (focus (intro w hSw; clear hSw; go_simp; (try with_reducible rfl); done)); (try simp only [Act.put, List.setIfInBounds_toArray, List.set_cons_zero, List.set_cons_succ]))
                            (refine HeldAll.take (i := 1) (oi := _) (d := some 160) (v := ?_) rfl rfl (by kernel_rfl) (by kernel_rfl) (by kernel_rfl) (fun _ _ _ h => h) (Or.inl ⟨by rfl, ?_⟩) hS0 ?_; rotate_left; (focus (intro w hSw; clear hSw; go_simp; (try with_reducible rfl); done)); (try simp only [Act.put, List.setIfInBounds_toArray, List.set_cons_zero, List.set_cons_succ]))
                            (refine HeldAll.take (i := 2) (oi := _) (d := some 161) (v := ?_) rfl rfl (by kernel_rfl) (by kernel_rfl) (by kernel_rfl) (fun _ _ _ h => h) (Or.inl ⟨by rfl, ?_⟩) hS0 ?_; rotate_left; (focus (intro w hSw; clear hSw; go_simp; (try with_reducible rfl); done)); (try simp only [Act.put, List.setIfInBounds_toArray, List.set_cons_zero, List.set_cons_succ]))
                            (refine HeldAll.take (i := 3) (oi := _) (d := some 162) (v := ?_) rfl rfl (by kernel_rfl) (by kernel_rfl) (by kernel_rfl) (fun _ _ _ h => h) (Or.inl ⟨by rfl, ?_⟩) hS0 ?_; rotate_left; (focus (intro w hSw; (try dsimp only at hSw); go_simp; (try with_reducible rfl); done)); (try simp only [Act.put, List.setIfInBounds_toArray, List.set_cons_zero, List.set_cons_succ]))
                            (refine HeldAll.take (i := 4) (oi := _) (d := some 163) (v := ?_) rfl rfl (by kernel_rfl) (by kernel_rfl) (by kernel_rfl) (fun _ _ _ h => h) (Or.inl ⟨by rfl, ?_⟩) hS0 ?_; rotate_left; (focus (intro w hSw; clear hSw; go_simp; (try with_reducible rfl); done)); (try simp only [Act.put, List.setIfInBounds_toArray, List.set_cons_zero, List.set_cons_succ]))
                            (refine HeldAll.take (i := 5) (oi := _) (d := some 164) (v := ?_) rfl rfl (by kernel_rfl) (by kernel_rfl) (by kernel_rfl) (fun _ _ _ h => h) (Or.inl ⟨by rfl, ?_⟩) hS0 ?_; rotate_left; (focus (intro w hSw; clear hSw; go_simp; (try with_reducible rfl); done)); (try simp only [Act.put, List.setIfInBounds_toArray, List.set_cons_zero, List.set_cons_succ]))
                            (refine HeldAll.take (i := 6) (oi := _) (d := some 165) (v := ?_) rfl rfl (by kernel_rfl) (by kernel_rfl) (by kernel_rfl) (fun _ _ _ h => h) (Or.inl ⟨by rfl, ?_⟩) hS0 ?_; rotate_left; (focus (intro w hSw; clear hSw; go_simp; (try with_reducible rfl); done)); (try simp only [Act.put, List.setIfInBounds_toArray, List.set_cons_zero, List.set_cons_succ]))
                            (refine HeldAll.take (i := 7) (oi := _) (d := some 166) (v := ?_) rfl rfl (by kernel_rfl) (by kernel_rfl) (by kernel_rfl) (fun _ _ _ h => h) (Or.inl ⟨by rfl, ?_⟩) hS0 ?_; rotate_left; (focus (intro w hSw; (try dsimp only at hSw); go_simp; (try with_reducible rfl); done)); (try simp only [Act.put, List.setIfInBounds_toArray, List.set_cons_zero, List.set_cons_succ]))
                            (refine HeldAll.take (i := 8) (oi := _) (d := some 15) (v := ?_) rfl rfl (by kernel_rfl) (by kernel_rfl) (by kernel_rfl) (fun _ _ _ h => h) (Or.inl ⟨by rfl, ?_⟩) hS0 ?_; rotate_left; (focus (intro w hSw; clear hSw; go_simp; (try with_reducible rfl); done)); (try simp only [Act.put, List.setIfInBounds_toArray, List.set_cons_zero, List.set_cons_succ]))
                            (refine HeldAll.take (i := 9) (oi := _) (d := some 16) (v := ?_) rfl rfl (by kernel_rfl) (by kernel_rfl) (by kernel_rfl) (fun _ _ _ h => h) (Or.inl ⟨by rfl, ?_⟩) hS0 ?_; rotate_left; (focus (intro w hSw; clear hSw; go_simp; (try with_reducible rfl); done)); (try simp only [Act.put, List.setIfInBounds_toArray, List.set_cons_zero, List.set_cons_succ]))
                            (refine HeldAll.take (i := 10) (oi := _) (d := some 17) (v := ?_) rfl rfl (by kernel_rfl) (by kernel_rfl) (by kernel_rfl) (fun _ _ _ h => h) (Or.inl ⟨by rfl, ?_⟩) hS0 ?_; rotate_left; (focus (intro w hSw; clear hSw; go_simp; (try with_reducible rfl); done)); (try simp only [Act.put, List.setIfInBounds_toArray, List.set_cons_zero, List.set_cons_succ]))
                            refine HeldAll.done (by kernel_rfl) ?_ _
                            clear hS0 hSK hiI hkI
                            go_wp2_with fail
                            go_roundw
                            case rel => exact ⟨k + 1, by omega, by go_num, Or.inr ⟨by rw [← HSB.out, HSS9.out], by rw [← HQB.out, HQQ9.out], rfl⟩, HBD8.out⟩
                            case measure => simp [intOf]; omega
                  · have hd : decide ((k : Int) < (K : Int)) = false := decide_eq_false (by omega)
                    have HN1 : Hid (((allL x.lats.length).take (i + 1)).any (fullL x A bl O lb gs a) = false) := HFS.out.2 (by
                      have h := hG.out
                      rw [List.take_of_length_le (by rw [allL_len, HKK.out]; omega)] at h
                      unfold fullL; rw [h, Bool.and_false])
                    have HBW := Lib.hid hB.out
                    clear hB
                    go_wp2_with fail
                    go_roundw
                    case rel => exact ⟨i + 1, by omega, by go_num, Or.inl ⟨rfl, rfl, rfl, HN1.out⟩, HBW.out⟩
                    case measure => simp [intOf]; omega
                · have HBW := Lib.hid hB.out
                  clear hB
                  generalize hq9 : bs qq = qB at *
                  generalize hs9 : bs ss = sB at *
                  have HQ9 := Lib.hid hq9
                  have HS9 := Lib.hid hs9
                  clear hq9 hs9
                  by_cases hkt : k < K
                  all_goals
                    go_wp2_with fail
                    go_roundw
                    case rel => exact ⟨i + 1, by omega, by go_num, Or.inr ⟨by rw [HS9.out], by rw [HQ9.out], rfl⟩, HBW.out⟩
                    case measure => simp [intOf]; omega
            · exfalso
              have h := hP.out
              rw [List.take_of_length_le (by rw [allL_len, HNN.out]; omega), List.any_eq_false] at h
              exact h ss (List.mem_of_find?_eq_some HF.out.st) (List.find?_some HF.out.st)
          · by_cases hli : i < N
            all_goals
              obtain ⟨bp, op, hxp, hap, hbp, dP⟩ := txt_at (HPS.out wr hB.out) (k := a) (by omega)
              try simp only at hap
              subst hap
              have hqe : (ins ++ [ib])[a] = qq := by
                have h := HQQ.out
                rw [List.getElem?_eq_getElem hxp] at h
                exact Option.some.inj h
              rw [hqe] at dP
              clear hqe hxp hbp
              have y3 := (HVB.out wr hB.out).at' 3 _ rfl
              have y2 := (HVB.out wr hB.out).at' 2 _ rfl
              try simp only at y2 y3
              generalize hqB : bs qq = qB at *
              generalize hsB : bs ss = sB at *
              have HSB := Lib.hid hsB
              have HBW := Lib.hid hB.out
              clear hqB hsB hB
              by_cases ha0 : a = 0
              · have hst : sB = st0 := by
                  have h := HT.out
                  rw [ha0] at h
                  obtain ⟨h1, _⟩ : s0 = ss ∧ _ := h
                  rw [← HSB.out, ← HST0.out, h1]
                have ha1 : ((a : Int) == 0) = true := by simpa using ha0
                have dP0 : wr.cell? ⟨bp, op, none⟩ = some (.string qB) := by
                  have h := dP
                  rw [ha0] at h
                  exact h
                have HA0 := Lib.hid ha0
                clear ha0
                have HTZ := Lib.hid hst
                rw [hst]
                clear hst
                go_wp2_with fail
                go_roundw
                case rel => exact ⟨Or.inl (by first | (rw [HA0.out]; rfl) | rfl | go_num), HBW.out⟩
                case measure => have h9 := HA0.out; simp [intOf, h9] <;> omega
              · have ha1 : ((a : Int) == 0) = false := by simpa using ha0
                go_wp2_with fail
                go_roundw
                case rel =>
                  obtain ⟨a', rfl⟩ : ∃ q, a = q + 1 := ⟨a - 1, by omega⟩
                  exact ⟨Or.inr ⟨a', sB, by have := HA9.out; omega, by go_num, rfl, Or.inr ⟨by have := HA9.out; omega, ss, HSB.out.symm, HT.out⟩⟩, HBW.out⟩
                case measure => simp [intOf] <;> omega
  · obtain ⟨lo, hlo⟩ : ∃ l, (outs O (allL x.lats.length)).length = l := ⟨_, rfl⟩
    rw [hlo]
    obtain ⟨ln, hln⟩ : ∃ l, O.length = l := ⟨_, rfl⟩
    rw [hln]
    clear hno hSR hlo hln hkn hOl
    obtain ⟨W5, hW5⟩ : ∃ U, w4.alloc (.cells #[.int .i64 1, .int .i64 0, .string ⟨#[]⟩, .slice none 0 0, .slice aR lo cR, .slice none 0 0, .int .i64 ln] 47) = U := ⟨_, rfl⟩
    have hb5 : Below w4.heap.size w4 W5 := by rw [← hW5]; exact (Below.refl _ _).alloc (Nat.le_refl _) _
    have hx5 : BoxN w4.heap.size [.int .i64 1, .int .i64 0, .string ⟨#[]⟩, .slice none 0 0, .slice aR lo cR, .slice none 0 0, .int .i64 ln] W5 := by rw [← hW5]; exact BoxN.new w4 _ _
    have HB35 := Lib.hid (hb4.trans (hb5.mono hb4.size))
    have HB45 := Lib.hid hb5
    have HB5 := Lib.hid (HB3.out.trans (HB35.out.mono HB3.out.size))
    have HX8 := Lib.hid (fun (U : World) (hU : Below W5.heap.size W5 U) => hx5.next hU hx5.lt)
    have HW5 := Lib.hid hW5
    clear hb4 hb5 hW5
    go_upto_region 5 with fail
    rw [HW5.out]
    clear HW5
    have y0 := hx5.at' 0 _ rfl
    try simp only at y0
    clear hx5
    go_wp2_with fail
    go_ret
    exact ⟨by first | rfl | simp, HB1.out.trans (HB5.out.mono HB1.out.size)⟩

theorem walk (x : Circ) (p : At) {w : World} (hin : InCirc w x p) (hw : WfC x) (hz : Open.SizedCirc x) (aA : Option Addr) (cA : Nat) (A : List (List Int)) (vals : List Value) (hA : Sl2 w aA A.length cA vals A) (hwA : ∀ l ∈ A, Clause.Wf l) (bad : Int) (hb : -9223372036854775808 ≤ bad ∧ bad ≤ 9223372036854775807) (W : World) (hW : W = w) :
    Calls Tryz.prog 6 #[.agg (cells x p), .slice aA A.length cA, .int .i64 bad] W fun e W' => e = .returned (.bool true) ∧ Below W.heap.size W W' := by
  subst hW
  have h64 : ∀ y ∈ A.flatten, -9223372036854775808 ≤ y ∧ y ≤ 9223372036854775807 := fun y hy => by
    obtain ⟨l, hl, hyl⟩ := List.mem_flatten.1 hy
    exact hwA l hl y hyl
  have hza : x.ands.length * 24 ≤ 140737488355328 := by have := hz.ands; omega
  by_cases hu : unrE x A bad = 0
  · obtain ⟨hk, g0, g1, _⟩ := unrE_zero hu
    obtain ⟨kb, rfl⟩ : ∃ k : Nat, bad = (k : Int) := ⟨bad.toNat, by omega⟩
    by_cases h2 : 10 < x.lats.length ∨ 10 < x.ins.length
    · exact walk_long W x p hin hw hza aA _ cA vals A hA h64 kb hb.1 hb.2 hu hk h2
    · by_cases h3 : x.lats.length ≤ 4 ∧ x.ins.length ≤ 3 ∧ x.max ≤ 60
      · exact walk_small W x p hin hw hza aA _ cA vals A hA h64 kb (by omega) hu hk h3.1 h3.2.1 h3.2.2
      · exact walk_big W x p hin hw hza aA _ cA vals A hA h64 kb (by omega) hu hk (by omega) (by omega) h3
  · exact walk_no W x p hin hw hza aA _ cA vals A hA h64 bad hb.1 hb.2 hu
end Go.Proofs.YtjmmhbmbafjneaaGreatDoor.enumLeast
