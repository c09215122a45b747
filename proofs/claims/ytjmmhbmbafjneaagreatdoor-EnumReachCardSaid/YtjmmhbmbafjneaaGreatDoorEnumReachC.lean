/-
  interlocklaw28.EnumReach walked (written by enumreach.py).
-/
import Derived.Test.YtjmmhbmbafjneaaGreatDoorEnumRM2
import Derived.Test.YtjmmhbmbafjneaaGreatDoorOpenCirc
namespace Go.Proofs.YtjmmhbmbafjneaaGreatDoor.enumReach
open Go.RowKit Base Circuit BadP StrashP Coi SimV EnumA EnumP EnumW GetI
set_option linter.unusedVariables false
set_option linter.unusedSimpArgs false

set_option maxRecDepth 8000 in
set_option maxHeartbeats 16000000 in
theorem walk_in_bad (w : World) (x : Circ) (p : At) (hin : InCirc w x p) (hw : WfC x) (hza : x.ands.length * 24 ≤ 140737488355328) (aA : Option Addr) (nA cA : Nat) (vs : List Value) (A : List (List Int)) (hA : Sl2 w aA nA cA vs A) (hA64 : ∀ y ∈ A.flatten, -9223372036854775808 ≤ y ∧ y ≤ 9223372036854775807)
    (nn : Nat) (hnn : nn ≤ 10) (hk : ¬ CheckOk x) :
    Calls Tryz.prog 3 #[.agg (cells x p), .slice aA nA cA, .int .i64 (nn : Int)] w fun e w2 => e = .returned (.bool true) ∧ Below w.heap.size w w2 := by
  obtain ⟨W1, hW1⟩ : ∃ U, w.alloc (.cells (cells x p) 27) = U := ⟨_, rfl⟩
  obtain ⟨hb1, hx1⟩ := cbox_new w x p W1 hW1
  have HB1 := Lib.hid hb1
  have HAV := Lib.hid (EnumL.alive_any W1)
  have HCB := Lib.hid (fun (U : World) (hU : Below W1.heap.size W1 U) => hx1.next hU (Nat.le_refl _))
  have HRC := fun (U : World) (hU : Below W1.heap.size W1 U) => refCheck_any U x p ((hin.next hb1).next hU) hw hza
  have HAL := Lib.hid (fun U => all_any U nn hnn)
  have HRA := fun U => AllS.all_any U nn (by omega)
  simp only [EnumL.strs_txt, AllS.allS_len] at HRA
  have HRA := Lib.hid HRA
  have hnI0 : ¬ (nn : Int) < 0 := by omega
  have hnI1 : ¬ (10 : Int) < (nn : Int) := by omega
  clear hnn
  simp only [refchk_eq, chk_neg hk] at HRC
  have HRE := fun (U : World) (hU : Below W1.heap.size W1 U) => reach_no U x p ((hin.next hb1).next hU) hw (.slice aA nA cA) (by rw [small_no hk]; decide)
  simp only [small_no hk] at HRE
  have hcI := hin.ins.cap
  have hgI := hin.ins.big
  have hcL := hin.lats.cap
  have hgL := hin.lats.big
  obtain ⟨a1, b1, a2, b2, a3, b3, a4, b4, a5, b5, a6, b6, a7, b7⟩ := p
  simp only [cells] at *
  have HRCC := Lib.hid HRC
  have HREE := Lib.hid HRE
  clear hin hb1 hx1 hw hza hA hA64 HRC HRE hk
  go_enter Tryz.func3, Tryz.ntmps3
  go_wp2_with fail
  clear hW1
  with_reducible refine HAV.out.mono ?_
  rintro e w2 ⟨rfl, hb2⟩
  have HB2 := Lib.hid hb2
  clear hb2
  go_wp2_with fail
  with_reducible refine (HAL.out w2).mono ?_
  rintro e w3 ⟨aI, cI, rfl, ho3, hb3⟩
  have HS3 := Lib.hid (own_sl' ho3)
  have HB3 := Lib.hid (HB2.out.trans (hb3.mono HB2.out.size))
  have hcN := HS3.out.cap
  have hgN := HS3.out.big
  clear ho3 hb3
  go_wp2_with fail
  with_reducible refine (HRA.out w3).mono ?_
  rintro e w4 ⟨aJ, cJ, rfl, ho4, hb4⟩
  have HTX := Lib.hid (EnumL.texts_any w4 aI _ cI _ (HS3.out.next hb4) aJ cJ (own_sl' ho4))
  have HB4 := Lib.hid (HB3.out.trans (hb4.mono HB3.out.size))
  clear ho4 hb4
  go_wp2_with fail
  with_reducible refine HTX.out.mono ?_
  rintro e w5 ⟨rfl, hb5⟩
  have HB5 := Lib.hid (HB4.out.trans (hb5.mono HB4.out.size))
  clear hb5
  have hc := HCB.out w5 (HB5.out)
  have k0 := hc.k0
  have k1 := hc.k1
  have k2 := hc.k2
  have k3 := hc.k3
  have k4 := hc.k4
  have k5 := hc.k5
  have k6 := hc.k6
  have k7 := hc.k7
  try simp only at k0 k1 k2 k3 k4 k5 k6 k7
  clear hc
  have HRE5 := Lib.hid (HREE.out w5 HB5.out)
  go_wp2_with fail
  with_reducible refine HRE5.out.mono ?_
  rintro e w6 ⟨rfl, hb6⟩
  have HB6 := Lib.hid (HB5.out.trans (hb6.mono HB5.out.size))
  clear hb6
  clear k0 k1 k2 k3 k4 k5 k6 k7
  have hc := HCB.out w6 (HB6.out)
  have k0 := hc.k0
  have k1 := hc.k1
  have k2 := hc.k2
  have k3 := hc.k3
  have k4 := hc.k4
  have k5 := hc.k5
  have k6 := hc.k6
  have k7 := hc.k7
  try simp only at k0 k1 k2 k3 k4 k5 k6 k7
  clear hc
  have HRC6 := Lib.hid (HRCC.out w6 HB6.out)
  go_wp2_with fail
  with_reducible refine HRC6.out.mono ?_
  rintro e w7 ⟨rfl, hb7⟩
  have HB7 := Lib.hid (HB6.out.trans (hb7.mono HB6.out.size))
  have H67 := Lib.hid hb7
  clear hb7
  clear k0 k1 k2 k3 k4 k5 k6 k7
  go_wp2_with fail
  go_ret
  exact ⟨by first | rfl | simp, HB1.out.trans (HB7.out.mono HB1.out.size)⟩

set_option maxRecDepth 8000 in
set_option maxHeartbeats 16000000 in
theorem walk_in_long (w : World) (x : Circ) (p : At) (hin : InCirc w x p) (hw : WfC x) (hza : x.ands.length * 24 ≤ 140737488355328) (aA : Option Addr) (nA cA : Nat) (vs : List Value) (A : List (List Int)) (hA : Sl2 w aA nA cA vs A) (hA64 : ∀ y ∈ A.flatten, -9223372036854775808 ≤ y ∧ y ≤ 9223372036854775807)
    (nn : Nat) (hnn : nn ≤ 10) (hk : CheckOk x) (hlg : 10 < x.lats.length ∨ 10 < x.ins.length) :
    Calls Tryz.prog 3 #[.agg (cells x p), .slice aA nA cA, .int .i64 (nn : Int)] w fun e w2 => e = .returned (.bool true) ∧ Below w.heap.size w w2 := by
  obtain ⟨W1, hW1⟩ : ∃ U, w.alloc (.cells (cells x p) 27) = U := ⟨_, rfl⟩
  obtain ⟨hb1, hx1⟩ := cbox_new w x p W1 hW1
  have HB1 := Lib.hid hb1
  have HAV := Lib.hid (EnumL.alive_any W1)
  have HCB := Lib.hid (fun (U : World) (hU : Below W1.heap.size W1 U) => hx1.next hU (Nat.le_refl _))
  have HRC := fun (U : World) (hU : Below W1.heap.size W1 U) => refCheck_any U x p ((hin.next hb1).next hU) hw hza
  have HAL := Lib.hid (fun U => all_any U nn hnn)
  have HRA := fun U => AllS.all_any U nn (by omega)
  simp only [EnumL.strs_txt, AllS.allS_len] at HRA
  have HRA := Lib.hid HRA
  have hnI0 : ¬ (nn : Int) < 0 := by omega
  have hnI1 : ¬ (10 : Int) < (nn : Int) := by omega
  clear hnn
  simp only [refchk_eq, chk_pos hk] at HRC
  have HRE := fun (U : World) (hU : Below W1.heap.size W1 U) => reach_no U x p ((hin.next hb1).next hU) hw (.slice aA nA cA) (by rw [small_long hk hlg]; decide)
  simp only [small_long hk hlg] at HRE
  have HLG := Lib.hid hlg
  have hcI := hin.ins.cap
  have hgI := hin.ins.big
  have hcL := hin.lats.cap
  have hgL := hin.lats.big
  obtain ⟨a1, b1, a2, b2, a3, b3, a4, b4, a5, b5, a6, b6, a7, b7⟩ := p
  simp only [cells] at *
  have HRCC := Lib.hid HRC
  have HREE := Lib.hid HRE
  clear hin hb1 hx1 hw hza hA hA64 HRC HRE hk hlg
  go_enter Tryz.func3, Tryz.ntmps3
  go_wp2_with fail
  clear hW1
  with_reducible refine HAV.out.mono ?_
  rintro e w2 ⟨rfl, hb2⟩
  have HB2 := Lib.hid hb2
  clear hb2
  go_wp2_with fail
  with_reducible refine (HAL.out w2).mono ?_
  rintro e w3 ⟨aI, cI, rfl, ho3, hb3⟩
  have HS3 := Lib.hid (own_sl' ho3)
  have HB3 := Lib.hid (HB2.out.trans (hb3.mono HB2.out.size))
  have hcN := HS3.out.cap
  have hgN := HS3.out.big
  clear ho3 hb3
  go_wp2_with fail
  with_reducible refine (HRA.out w3).mono ?_
  rintro e w4 ⟨aJ, cJ, rfl, ho4, hb4⟩
  have HTX := Lib.hid (EnumL.texts_any w4 aI _ cI _ (HS3.out.next hb4) aJ cJ (own_sl' ho4))
  have HB4 := Lib.hid (HB3.out.trans (hb4.mono HB3.out.size))
  clear ho4 hb4
  go_wp2_with fail
  with_reducible refine HTX.out.mono ?_
  rintro e w5 ⟨rfl, hb5⟩
  have HB5 := Lib.hid (HB4.out.trans (hb5.mono HB4.out.size))
  clear hb5
  have hc := HCB.out w5 (HB5.out)
  have k0 := hc.k0
  have k1 := hc.k1
  have k2 := hc.k2
  have k3 := hc.k3
  have k4 := hc.k4
  have k5 := hc.k5
  have k6 := hc.k6
  have k7 := hc.k7
  try simp only at k0 k1 k2 k3 k4 k5 k6 k7
  clear hc
  have HRE5 := Lib.hid (HREE.out w5 HB5.out)
  go_wp2_with fail
  with_reducible refine HRE5.out.mono ?_
  rintro e w6 ⟨rfl, hb6⟩
  have HB6 := Lib.hid (HB5.out.trans (hb6.mono HB5.out.size))
  clear hb6
  clear k0 k1 k2 k3 k4 k5 k6 k7
  have hc := HCB.out w6 (HB6.out)
  have k0 := hc.k0
  have k1 := hc.k1
  have k2 := hc.k2
  have k3 := hc.k3
  have k4 := hc.k4
  have k5 := hc.k5
  have k6 := hc.k6
  have k7 := hc.k7
  try simp only at k0 k1 k2 k3 k4 k5 k6 k7
  clear hc
  have HRC6 := Lib.hid (HRCC.out w6 HB6.out)
  go_wp2_with fail
  with_reducible refine HRC6.out.mono ?_
  rintro e w7 ⟨rfl, hb7⟩
  have HB7 := Lib.hid (HB6.out.trans (hb7.mono HB6.out.size))
  have H67 := Lib.hid hb7
  clear hb7
  clear k0 k1 k2 k3 k4 k5 k6 k7
  have hc := HCB.out w7 (HB7.out)
  have k0 := hc.k0
  have k1 := hc.k1
  have k2 := hc.k2
  have k3 := hc.k3
  have k4 := hc.k4
  have k5 := hc.k5
  have k6 := hc.k6
  have k7 := hc.k7
  try simp only at k0 k1 k2 k3 k4 k5 k6 k7
  clear hc
  by_cases hl : 10 < x.lats.length
  · have hlI : (10 : Int) < (x.lats.length : Int) := by omega
    clear hl
    go_wp2_with fail
    go_ret
    exact ⟨by first | rfl | simp, HB1.out.trans (HB7.out.mono HB1.out.size)⟩
  · have hlI : ¬ (10 : Int) < (x.lats.length : Int) := by omega
    have hiI : (10 : Int) < (x.ins.length : Int) := by
      rcases HLG.out with h | h <;> omega
    clear hl
    go_wp2_with fail
    go_ret
    exact ⟨by first | rfl | simp, HB1.out.trans (HB7.out.mono HB1.out.size)⟩

set_option maxRecDepth 8000 in
set_option maxHeartbeats 16000000 in
theorem walk_in_big (w : World) (x : Circ) (p : At) (hin : InCirc w x p) (hw : WfC x) (hza : x.ands.length * 24 ≤ 140737488355328) (aA : Option Addr) (nA cA : Nat) (vs : List Value) (A : List (List Int)) (hA : Sl2 w aA nA cA vs A) (hA64 : ∀ y ∈ A.flatten, -9223372036854775808 ≤ y ∧ y ≤ 9223372036854775807)
    (nn : Nat) (hnn : nn ≤ 10) (hk : CheckOk x) (hl10 : x.lats.length ≤ 10) (hi10 : x.ins.length ≤ 10) (hbg : ¬ (x.lats.length ≤ 4 ∧ x.ins.length ≤ 3 ∧ x.max ≤ 60)) :
    Calls Tryz.prog 3 #[.agg (cells x p), .slice aA nA cA, .int .i64 (nn : Int)] w fun e w2 => e = .returned (.bool true) ∧ Below w.heap.size w w2 := by
  obtain ⟨W1, hW1⟩ : ∃ U, w.alloc (.cells (cells x p) 27) = U := ⟨_, rfl⟩
  obtain ⟨hb1, hx1⟩ := cbox_new w x p W1 hW1
  have HB1 := Lib.hid hb1
  have HAV := Lib.hid (EnumL.alive_any W1)
  have HCB := Lib.hid (fun (U : World) (hU : Below W1.heap.size W1 U) => hx1.next hU (Nat.le_refl _))
  have HRC := fun (U : World) (hU : Below W1.heap.size W1 U) => refCheck_any U x p ((hin.next hb1).next hU) hw hza
  have HAL := Lib.hid (fun U => all_any U nn hnn)
  have HRA := fun U => AllS.all_any U nn (by omega)
  simp only [EnumL.strs_txt, AllS.allS_len] at HRA
  have HRA := Lib.hid HRA
  have hnI0 : ¬ (nn : Int) < 0 := by omega
  have hnI1 : ¬ (10 : Int) < (nn : Int) := by omega
  clear hnn
  simp only [refchk_eq, chk_pos hk] at HRC
  have HRE := fun (U : World) (hU : Below W1.heap.size W1 U) => reach_ok U x p ((hin.next hb1).next hU) hw hk hl10 hi10 aA nA cA vs A ((hA.next hb1).next hU) hA64
  have hsm : (decide (x.lats.length ≤ 4) && decide (x.ins.length ≤ 3) && decide (x.max ≤ 60)) = false := by
    cases hq : (decide (x.lats.length ≤ 4) && decide (x.ins.length ≤ 3) && decide (x.max ≤ 60)) with
    | false => rfl
    | true =>
      simp only [Bool.and_eq_true, decide_eq_true_eq] at hq
      exact absurd ⟨hq.1.1, hq.1.2, hq.2⟩ hbg
  have HSM := fun (U : World) (hU : Below W1.heap.size W1 U) => BadP.small_any U x p ((hin.next hb1).next hU)
  simp only [hsm] at HSM
  have hl10I : ¬ (10 : Int) < (x.lats.length : Int) := by omega
  have hi10I : ¬ (10 : Int) < (x.ins.length : Int) := by omega
  have hcI := hin.ins.cap
  have hgI := hin.ins.big
  have hcL := hin.lats.cap
  have hgL := hin.lats.big
  obtain ⟨a1, b1, a2, b2, a3, b3, a4, b4, a5, b5, a6, b6, a7, b7⟩ := p
  simp only [cells] at *
  have HSMM := Lib.hid HSM
  have HRCC := Lib.hid HRC
  have HREE := Lib.hid HRE
  clear hin hb1 hx1 hw hza hA hA64 HRC HRE hk hl10 hi10 hbg hsm HSM
  go_enter Tryz.func3, Tryz.ntmps3
  go_wp2_with fail
  clear hW1
  with_reducible refine HAV.out.mono ?_
  rintro e w2 ⟨rfl, hb2⟩
  have HB2 := Lib.hid hb2
  clear hb2
  go_wp2_with fail
  with_reducible refine (HAL.out w2).mono ?_
  rintro e w3 ⟨aI, cI, rfl, ho3, hb3⟩
  have HS3 := Lib.hid (own_sl' ho3)
  have HB3 := Lib.hid (HB2.out.trans (hb3.mono HB2.out.size))
  have hcN := HS3.out.cap
  have hgN := HS3.out.big
  clear ho3 hb3
  go_wp2_with fail
  with_reducible refine (HRA.out w3).mono ?_
  rintro e w4 ⟨aJ, cJ, rfl, ho4, hb4⟩
  have HTX := Lib.hid (EnumL.texts_any w4 aI _ cI _ (HS3.out.next hb4) aJ cJ (own_sl' ho4))
  have HB4 := Lib.hid (HB3.out.trans (hb4.mono HB3.out.size))
  clear ho4 hb4
  go_wp2_with fail
  with_reducible refine HTX.out.mono ?_
  rintro e w5 ⟨rfl, hb5⟩
  have HB5 := Lib.hid (HB4.out.trans (hb5.mono HB4.out.size))
  clear hb5
  have hc := HCB.out w5 (HB5.out)
  have k0 := hc.k0
  have k1 := hc.k1
  have k2 := hc.k2
  have k3 := hc.k3
  have k4 := hc.k4
  have k5 := hc.k5
  have k6 := hc.k6
  have k7 := hc.k7
  try simp only at k0 k1 k2 k3 k4 k5 k6 k7
  clear hc
  have HRE5 := Lib.hid (HREE.out w5 HB5.out)
  go_wp2_with fail
  with_reducible refine HRE5.out.mono ?_
  rintro e w6 ⟨O, n, aS, cS, aD, cD, hkn, hTl, hn1024, rfl, hoS, hoD, hb6⟩
  have HB6 := Lib.hid (HB5.out.trans (hb6.mono HB5.out.size))
  have HKN := Lib.hid hkn
  have HTL := Lib.hid hTl
  have HOS := Lib.hid (own_sl' hoS)
  have HOD := Lib.hid (own_sl' hoD)
  have hcS := HOS.out.cap
  have hgS := HOS.out.big
  have hcD := HOD.out.cap
  have hgD := HOD.out.big
  clear hb6 hkn hTl hoS hoD
  clear k0 k1 k2 k3 k4 k5 k6 k7
  have hc := HCB.out w6 (HB6.out)
  have k0 := hc.k0
  have k1 := hc.k1
  have k2 := hc.k2
  have k3 := hc.k3
  have k4 := hc.k4
  have k5 := hc.k5
  have k6 := hc.k6
  have k7 := hc.k7
  try simp only at k0 k1 k2 k3 k4 k5 k6 k7
  clear hc
  have HRC6 := Lib.hid (HRCC.out w6 HB6.out)
  go_wp2_with fail
  with_reducible refine HRC6.out.mono ?_
  rintro e w7 ⟨rfl, hb7⟩
  have HB7 := Lib.hid (HB6.out.trans (hb7.mono HB6.out.size))
  have H67 := Lib.hid hb7
  clear hb7
  clear k0 k1 k2 k3 k4 k5 k6 k7
  have hc := HCB.out w7 (HB7.out)
  have k0 := hc.k0
  have k1 := hc.k1
  have k2 := hc.k2
  have k3 := hc.k3
  have k4 := hc.k4
  have k5 := hc.k5
  have k6 := hc.k6
  have k7 := hc.k7
  try simp only at k0 k1 k2 k3 k4 k5 k6 k7
  clear hc
  have HSM7 := Lib.hid (HSMM.out w7 HB7.out)
  go_wp2_with fail
  with_reducible refine HSM7.out.mono ?_
  rintro e w8 ⟨rfl, hb8⟩
  have HB8 := Lib.hid (HB7.out.trans (hb8.mono HB7.out.size))
  have H68 := Lib.hid (H67.out.trans (hb8.mono H67.out.size))
  clear hb8
  clear k0 k1 k2 k3 k4 k5 k6 k7
  go_wp2_with fail
  go_ret
  exact ⟨by first | rfl | simp, HB1.out.trans (HB8.out.mono HB1.out.size)⟩

set_option maxRecDepth 8000 in
set_option maxHeartbeats 16000000 in
theorem walk_in_small (w : World) (x : Circ) (p : At) (hin : InCirc w x p) (hw : WfC x) (hza : x.ands.length * 24 ≤ 140737488355328) (aA : Option Addr) (nA cA : Nat) (vs : List Value) (A : List (List Int)) (hA : Sl2 w aA nA cA vs A) (hA64 : ∀ y ∈ A.flatten, -9223372036854775808 ≤ y ∧ y ≤ 9223372036854775807)
    (nn : Nat) (hnn : nn ≤ 10) (hk : CheckOk x) (hl4 : x.lats.length ≤ 4) (hi3 : x.ins.length ≤ 3) (hm60 : x.max ≤ 60) :
    Calls Tryz.prog 3 #[.agg (cells x p), .slice aA nA cA, .int .i64 (nn : Int)] w fun e w2 => e = .returned (.bool true) ∧ Below w.heap.size w w2 := by
  obtain ⟨W1, hW1⟩ : ∃ U, w.alloc (.cells (cells x p) 27) = U := ⟨_, rfl⟩
  obtain ⟨hb1, hx1⟩ := cbox_new w x p W1 hW1
  have HB1 := Lib.hid hb1
  have HAV := Lib.hid (EnumL.alive_any W1)
  have HCB := Lib.hid (fun (U : World) (hU : Below W1.heap.size W1 U) => hx1.next hU (Nat.le_refl _))
  have HRC := fun (U : World) (hU : Below W1.heap.size W1 U) => refCheck_any U x p ((hin.next hb1).next hU) hw hza
  have HAL := Lib.hid (fun U => all_any U nn hnn)
  have HRA := fun U => AllS.all_any U nn (by omega)
  simp only [EnumL.strs_txt, AllS.allS_len] at HRA
  have HRA := Lib.hid HRA
  have hnI0 : ¬ (nn : Int) < 0 := by omega
  have hnI1 : ¬ (10 : Int) < (nn : Int) := by omega
  clear hnn
  simp only [refchk_eq, chk_pos hk] at HRC
  have HRE := fun (U : World) (hU : Below W1.heap.size W1 U) => reach_ok U x p ((hin.next hb1).next hU) hw hk (by omega) (by omega) aA nA cA vs A ((hA.next hb1).next hU) hA64
  have hsm : (decide (x.lats.length ≤ 4) && decide (x.ins.length ≤ 3) && decide (x.max ≤ 60)) = true := by
    simp only [Bool.and_eq_true, decide_eq_true_eq]
    exact ⟨⟨hl4, hi3⟩, hm60⟩
  have HSM := fun (U : World) (hU : Below W1.heap.size W1 U) => BadP.small_any U x p ((hin.next hb1).next hU)
  simp only [hsm] at HSM
  have hl10I : ¬ (10 : Int) < (x.lats.length : Int) := by omega
  have hi10I : ¬ (10 : Int) < (x.ins.length : Int) := by omega
  have HST := fun (U : World) (hU : Below W1.heap.size W1 U) => steps_any U x p ((hin.next hb1).next hU) hw hk hza hl4 hi3 aA nA cA vs A ((hA.next hb1).next hU) hA64
  have HAS := fun U => AllS.all_any U x.lats.length (by omega)
  simp only [EnumL.strs_txt, AllS.allS_len] at HAS
  obtain ⟨K, hK⟩ : ∃ m, 2 ^ x.lats.length = m := ⟨_, rfl⟩
  have hK16 : K ≤ 16 := by rw [← hK]; exact Nat.pow_le_pow_right (by decide) hl4
  simp only [hK] at HST HAS
  have HKL : Hid ((allL x.lats.length).length = K) := by show _ = _; rw [allL_len, hK]
  have HSO : Hid (∀ out, SOut x A out → out.length = K) := fun out h => by rw [h.len, hK]
  have HASS := Lib.hid HAS
  clear HAS hK
  have hcI := hin.ins.cap
  have hgI := hin.ins.big
  have hcL := hin.lats.cap
  have hgL := hin.lats.big
  obtain ⟨a1, b1, a2, b2, a3, b3, a4, b4, a5, b5, a6, b6, a7, b7⟩ := p
  simp only [cells] at *
  have HSMM := Lib.hid HSM
  have HSTT := Lib.hid HST
  have HRCC := Lib.hid HRC
  have HREE := Lib.hid HRE
  clear hin hb1 hx1 hw hza hA hA64 HRC HRE hk hl4 hi3 hm60 hsm HSM HST
  go_enter Tryz.func3, Tryz.ntmps3
  go_wp2_with fail
  clear hW1
  with_reducible refine HAV.out.mono ?_
  rintro e w2 ⟨rfl, hb2⟩
  have HB2 := Lib.hid hb2
  clear hb2
  go_wp2_with fail
  with_reducible refine (HAL.out w2).mono ?_
  rintro e w3 ⟨aI, cI, rfl, ho3, hb3⟩
  have HS3 := Lib.hid (own_sl' ho3)
  have HB3 := Lib.hid (HB2.out.trans (hb3.mono HB2.out.size))
  have hcN := HS3.out.cap
  have hgN := HS3.out.big
  clear ho3 hb3
  go_wp2_with fail
  with_reducible refine (HRA.out w3).mono ?_
  rintro e w4 ⟨aJ, cJ, rfl, ho4, hb4⟩
  have HTX := Lib.hid (EnumL.texts_any w4 aI _ cI _ (HS3.out.next hb4) aJ cJ (own_sl' ho4))
  have HB4 := Lib.hid (HB3.out.trans (hb4.mono HB3.out.size))
  clear ho4 hb4
  go_wp2_with fail
  with_reducible refine HTX.out.mono ?_
  rintro e w5 ⟨rfl, hb5⟩
  have HB5 := Lib.hid (HB4.out.trans (hb5.mono HB4.out.size))
  clear hb5
  have hc := HCB.out w5 (HB5.out)
  have k0 := hc.k0
  have k1 := hc.k1
  have k2 := hc.k2
  have k3 := hc.k3
  have k4 := hc.k4
  have k5 := hc.k5
  have k6 := hc.k6
  have k7 := hc.k7
  try simp only at k0 k1 k2 k3 k4 k5 k6 k7
  clear hc
  have HRE5 := Lib.hid (HREE.out w5 HB5.out)
  go_wp2_with fail
  with_reducible refine HRE5.out.mono ?_
  rintro e w6 ⟨O, n, aS, cS, aD, cD, hkn, hTl, hn1024, rfl, hoS, hoD, hb6⟩
  have HB6 := Lib.hid (HB5.out.trans (hb6.mono HB5.out.size))
  have HKN := Lib.hid hkn
  have HTL := Lib.hid hTl
  have HOS := Lib.hid (own_sl' hoS)
  have HOD := Lib.hid (own_sl' hoD)
  have hcS := HOS.out.cap
  have hgS := HOS.out.big
  have hcD := HOD.out.cap
  have hgD := HOD.out.big
  clear hb6 hkn hTl hoS hoD
  clear k0 k1 k2 k3 k4 k5 k6 k7
  have hc := HCB.out w6 (HB6.out)
  have k0 := hc.k0
  have k1 := hc.k1
  have k2 := hc.k2
  have k3 := hc.k3
  have k4 := hc.k4
  have k5 := hc.k5
  have k6 := hc.k6
  have k7 := hc.k7
  try simp only at k0 k1 k2 k3 k4 k5 k6 k7
  clear hc
  have HRC6 := Lib.hid (HRCC.out w6 HB6.out)
  go_wp2_with fail
  with_reducible refine HRC6.out.mono ?_
  rintro e w7 ⟨rfl, hb7⟩
  have HB7 := Lib.hid (HB6.out.trans (hb7.mono HB6.out.size))
  have H67 := Lib.hid hb7
  clear hb7
  clear k0 k1 k2 k3 k4 k5 k6 k7
  have hc := HCB.out w7 (HB7.out)
  have k0 := hc.k0
  have k1 := hc.k1
  have k2 := hc.k2
  have k3 := hc.k3
  have k4 := hc.k4
  have k5 := hc.k5
  have k6 := hc.k6
  have k7 := hc.k7
  try simp only at k0 k1 k2 k3 k4 k5 k6 k7
  clear hc
  have HSM7 := Lib.hid (HSMM.out w7 HB7.out)
  go_wp2_with fail
  with_reducible refine HSM7.out.mono ?_
  rintro e w8 ⟨rfl, hb8⟩
  have HB8 := Lib.hid (HB7.out.trans (hb8.mono HB7.out.size))
  have H68 := Lib.hid (H67.out.trans (hb8.mono H67.out.size))
  clear hb8
  clear k0 k1 k2 k3 k4 k5 k6 k7
  have hc := HCB.out w8 (HB8.out)
  have k0 := hc.k0
  have k1 := hc.k1
  have k2 := hc.k2
  have k3 := hc.k3
  have k4 := hc.k4
  have k5 := hc.k5
  have k6 := hc.k6
  have k7 := hc.k7
  try simp only at k0 k1 k2 k3 k4 k5 k6 k7
  clear hc
  have HST8 := Lib.hid (HSTT.out w8 HB8.out)
  go_wp2_with fail
  with_reducible refine HST8.out.mono ?_
  rintro e w9 ⟨g, out, rfl, hg9, hso, hge, hb9⟩
  have HB9 := Lib.hid (HB8.out.trans (hb9.mono HB8.out.size))
  have H69 := Lib.hid (H68.out.trans (hb9.mono H68.out.size))
  have HG9 := Lib.hid hg9
  have HSO9 := Lib.hid hso
  clear hg9 hso hge hb9
  clear k0 k1 k2 k3 k4 k5 k6 k7
  have k2 := (HCB.out w9 HB9.out).k2
  try simp only at k2
  go_wp2_with fail
  with_reducible refine (HASS.out w9).mono ?_
  rintro e w10 ⟨aT, cT, rfl, hoT, hb10⟩
  have HOT := Lib.hid (own_sl' hoT)
  have HB10 := Lib.hid (HB9.out.trans (hb10.mono HB9.out.size))
  have HG10 := Lib.hid (HG9.out.next hb10 HG9.out.lt)
  have HOS10 := Lib.hid (HOS.out.next (H69.out.trans (hb10.mono H69.out.size)))
  have HOD10 := Lib.hid (HOD.out.next (H69.out.trans (hb10.mono H69.out.size)))
  have hcT := HOT.out.cap
  have hgT := HOT.out.big
  clear hoT hb10 k2
  go_wp2_with fail
  go_loopw [13, 14] (fun u j wr => ∃ (i k : Nat), i ≤ K ∧ u = .int .i64 k ∧ j = .int .i64 i ∧ Hid (k = (((allL x.lats.length).take i).filter (has O)).length) ∧ Hid (k ≤ n) ∧ Hid (Below w10.heap.size w10 wr)) (fun _ j _ => K - (intOf j).toNat)
  case atStart => exact ⟨0, 0, Nat.zero_le _, rfl, rfl, rfl, Nat.zero_le _, Below.refl _ _⟩
  case round =>
    obtain ⟨i, k, hik, rfl, rfl, hkf, hkn, hB⟩ := hrel
    generalize wr = ws at *
    by_cases hlt : i < K
    · obtain ⟨bT, oT, hx, hae, hbs, d0⟩ := txt_at (HOT.out.next hB.out) hlt
      try simp only at hae
      subst hae
      have hat : (allL x.lats.length)[i]? = some (allL x.lats.length)[i] := List.getElem?_eq_getElem hx
      have hio : i < out.length := by rw [HSO.out out HSO9.out]; exact hlt
      have hv : out[i]? = some out[i] := List.getElem?_eq_getElem hio
      have hgv := (HG10.out.next hB.out HG10.out.lt).at' i _ (ints_get hv)
      have hfs := filter_step (has O) (allL x.lats.length) i hx
      have hfa := filter_at (has O) (allL x.lats.length) i hx
      have hle := filter_le (has O) (allL x.lats.length) (i + 1)
      rw [hfs] at hle
      have hle2 : (((allL x.lats.length).take (i + 1)).filter (has O)).length ≤ n := by have := filter_le (has O) (allL x.lats.length) (i + 1); have h2 := HTL.out; unfold sortedO at h2; omega
      have hsn := fun h0 => seen_no HSO9.out HKN.out hat hv h0
      have hsy := fun h0 => seen_yes HSO9.out HKN.out hat hv h0
      generalize hs : (allL x.lats.length)[i] = s at *
      generalize out[i] = v at *
      have HLE2 := Lib.hid hle2
      clear hle hle2 hat hio hv hs
      by_cases h0 : v < 0
      · have hq := hsn h0
        have HF : Hid (k = (((allL x.lats.length).take (i + 1)).filter (has O)).length) := by
          show _ = _
          rw [hfs, hq]
          exact hkf.out
        have HB11 := Lib.hid hB.out
        clear hfs hfa hsn hsy hq d0 hB
        go_wp2_with fail
        go_roundw
        case rel => exact ⟨i + 1, k, by omega, rfl, by go_num, HF.out, hkn.out, HB11.out⟩
        case measure => simp [intOf]; omega
      · obtain ⟨hq, hst⟩ := hsy (by omega)
        have hf2 := hfa hq
        rw [← hkf.out] at hf2
        have hf3 : (sortedO x.lats.length O)[k]? = some s := hf2
        have hkl : k < n := by have := (List.getElem?_eq_some_iff.1 hf3).1; have := HTL.out; omega
        obtain ⟨bS, oS, hae, hbS, dS⟩ := (HOS10.out.next hB.out).cell k (.string (bs s)) (by unfold txt; rw [List.getElem?_map, hf3]; rfl)
        obtain ⟨bD, oD, hae2, hbD, dD⟩ := (HOD10.out.next hB.out).cell k (.int .i64 v) (by unfold ints; rw [List.getElem?_map, List.getElem?_map, hf3, ← hst]; rfl)
        have HF : Hid (k + 1 = (((allL x.lats.length).take (i + 1)).filter (has O)).length) := by
          show _ = _
          rw [hfs, hq, ← hkf.out]; rfl
        have HKL2 : Hid (k + 1 ≤ n) := hkl
        subst hae
        subst hae2
        have hklI : ¬ (n : Int) ≤ (k : Int) := by omega
        have hn63 : n ≤ 1024 := hn1024
        generalize bs s = ss at *
        have hS0 : ws.drew.cell? ⟨bS, oS + k, none⟩ = some (.string ss) ∧ ws.drew.cell? ⟨bT, oT + i, none⟩ = some (.string ss) ∧ ws.drew.cell? ⟨bD, oD + k, none⟩ = some (.int .i64 v) ∧ ws.drew.cell? ⟨g, i, none⟩ = some (.int .i64 v) ∧ Hid (Below w10.heap.size w10 ws.drew) :=
          ⟨by rw [World.cell?_drew]; exact dS, by rw [World.cell?_drew]; exact d0, by rw [World.cell?_drew]; exact dD, by rw [World.cell?_drew]; exact hgv, hB.out.drew⟩
        clear hfs hfa hsn hsy hq hst hf2 hf3 hbS hbD hbs hB hkf hkn
        go_upto_region 23 with fail
        refine Lex.region (fun w' => (fun w9 : World => w9.cell? ⟨bS, oS + k, none⟩ = some (.string ss) ∧ w9.cell? ⟨bT, oT + i, none⟩ = some (.string ss) ∧ w9.cell? ⟨bD, oD + k, none⟩ = some (.int .i64 v) ∧ w9.cell? ⟨g, i, none⟩ = some (.int .i64 v) ∧ Hid (Below w10.heap.size w10 w9)) w') (by kernel_rfl) (by kernel_rfl) hS0 ?_
        (refine Lex.step_val (v := ?_) ?_ (fun w' hSw => ?_) ?_; rotate_left; (focus rfl); (focus (clear hSw; go_simp; (try with_reducible rfl); done)); (try simp only [Act.put, List.setIfInBounds_toArray, List.set_cons_zero, List.set_cons_succ]))
        (refine Lex.step_val (v := ?_) ?_ (fun w' hSw => ?_) ?_; rotate_left; (focus rfl); (focus (clear hSw; go_simp; (try with_reducible rfl); done)); (try simp only [Act.put, List.setIfInBounds_toArray, List.set_cons_zero, List.set_cons_succ]))
        (refine Lex.step_val (v := ?_) ?_ (fun w' hSw => ?_) ?_; rotate_left; (focus rfl); (focus (clear hSw; go_simp; (try with_reducible rfl); done)); (try simp only [Act.put, List.setIfInBounds_toArray, List.set_cons_zero, List.set_cons_succ]))
        (refine Lex.step_val (v := ?_) ?_ (fun w' hSw => ?_) ?_; rotate_left; (focus rfl); (focus (clear hSw; go_simp; (try with_reducible rfl); done)); (try simp only [Act.put, List.setIfInBounds_toArray, List.set_cons_zero, List.set_cons_succ]))
        (refine Lex.step_val (v := ?_) ?_ (fun w' hSw => ?_) ?_; rotate_left; (focus rfl); (focus (clear hSw; go_simp; (try with_reducible rfl); done)); (try simp only [Act.put, List.setIfInBounds_toArray, List.set_cons_zero, List.set_cons_succ]))
        (refine Lex.step_val (v := ?_) ?_ (fun w' hSw => ?_) ?_; rotate_left; (focus (go_simp; done)); (focus (clear hSw; go_simp; (try with_reducible rfl); done)); (try simp only [Act.put, List.setIfInBounds_toArray, List.set_cons_zero, List.set_cons_succ]))
        (refine Lex.step_val (v := ?_) ?_ (fun w' hSw => ?_) ?_; rotate_left; (focus (go_simp; done)); (focus (clear hSw; go_simp; (try with_reducible rfl); done)); (try simp only [Act.put, List.setIfInBounds_toArray, List.set_cons_zero, List.set_cons_succ]))
        (refine Lex.step_val (v := ?_) ?_ (fun w' hSw => ?_) ?_; rotate_left; (focus (go_simp; done)); (focus (clear hSw; go_simp; (try with_reducible rfl); done)); (try simp only [Act.put, List.setIfInBounds_toArray, List.set_cons_zero, List.set_cons_succ]))
        (refine Lex.step_val (v := ?_) ?_ (fun w' hSw => ?_) ?_; rotate_left; (focus (go_simp; done)); (focus (clear hSw; go_simp; (try with_reducible rfl); done)); (try simp only [Act.put, List.setIfInBounds_toArray, List.set_cons_zero, List.set_cons_succ]))
        (refine Lex.step_val (v := ?_) ?_ (fun w' hSw => ?_) ?_; rotate_left; (focus rfl); (focus (clear hSw; go_simp; (try with_reducible rfl); done)); (try simp only [Act.put, List.setIfInBounds_toArray, List.set_cons_zero, List.set_cons_succ]))
        (refine Lex.step_val (v := ?_) ?_ (fun w' hSw => ?_) ?_; rotate_left; (focus rfl); (focus (clear hSw; go_simp; (try with_reducible rfl); done)); (try simp only [Act.put, List.setIfInBounds_toArray, List.set_cons_zero, List.set_cons_succ]))
        (refine Lex.step_val (v := ?_) ?_ (fun w' hSw => ?_) ?_; rotate_left; (focus (go_simp; done)); (focus (clear hSw; go_simp; (try with_reducible rfl); done)); (try simp only [Act.put, List.setIfInBounds_toArray, List.set_cons_zero, List.set_cons_succ]))
        (refine Lex.step_val (v := ?_) ?_ (fun w' hSw => ?_) ?_; rotate_left; (focus (go_simp; done)); (focus (clear hSw; go_simp; (try with_reducible rfl); done)); (try simp only [Act.put, List.setIfInBounds_toArray, List.set_cons_zero, List.set_cons_succ]))
        (refine Lex.step_val (v := ?_) ?_ (fun w' hSw => ?_) ?_; rotate_left; (focus (go_simp; done)); (focus (clear hSw; go_simp; (try with_reducible rfl); done)); (try simp only [Act.put, List.setIfInBounds_toArray, List.set_cons_zero, List.set_cons_succ]))
        (refine Lex.step_val (v := ?_) ?_ (fun w' hSw => ?_) ?_; rotate_left; (focus (go_simp; done)); (focus ((try dsimp only at hSw); go_simp; (try with_reducible rfl); done)); (try simp only [Act.put, List.setIfInBounds_toArray, List.set_cons_zero, List.set_cons_succ]))
        (refine Lex.step_val (v := ?_) ?_ (fun w' hSw => ?_) ?_; rotate_left; (focus (go_simp; done)); (focus (clear hSw; go_simp; (try with_reducible rfl); done)); (try simp only [Act.put, List.setIfInBounds_toArray, List.set_cons_zero, List.set_cons_succ]))
        (refine Lex.step_val (v := ?_) ?_ (fun w' hSw => ?_) ?_; rotate_left; (focus (go_simp; done)); (focus (clear hSw; go_simp; (try with_reducible rfl); done)); (try simp only [Act.put, List.setIfInBounds_toArray, List.set_cons_zero, List.set_cons_succ]))
        (refine Lex.step_val (v := ?_) ?_ (fun w' hSw => ?_) ?_; rotate_left; (focus (go_simp; done)); (focus (clear hSw; go_simp; (try with_reducible rfl); done)); (try simp only [Act.put, List.setIfInBounds_toArray, List.set_cons_zero, List.set_cons_succ]))
        (refine Lex.step_val (v := ?_) ?_ (fun w' hSw => ?_) ?_; rotate_left; (focus (go_simp; done)); (focus ((try dsimp only at hSw); go_simp; (try with_reducible rfl); done)); (try simp only [Act.put, List.setIfInBounds_toArray, List.set_cons_zero, List.set_cons_succ]))
        (refine Lex.step_val (v := ?_) ?_ (fun w' hSw => ?_) ?_; rotate_left; (focus (go_simp; done)); (focus (clear hSw; go_simp; (try with_reducible rfl); done)); (try simp only [Act.put, List.setIfInBounds_toArray, List.set_cons_zero, List.set_cons_succ]))
        (refine Lex.step_val (v := ?_) ?_ (fun w' hSw => ?_) ?_; rotate_left; (focus rfl); (focus (clear hSw; go_simp; (try with_reducible rfl); done)); (try simp only [Act.put, List.setIfInBounds_toArray, List.set_cons_zero, List.set_cons_succ]))
        (refine Lex.step_val (v := ?_) ?_ (fun w' hSw => ?_) ?_; rotate_left; (focus rfl); (focus (clear hSw; go_simp; (try with_reducible rfl); done)); (try simp only [Act.put, List.setIfInBounds_toArray, List.set_cons_zero, List.set_cons_succ]))
        (refine Lex.step_val (v := ?_) ?_ (fun w' hSw => ?_) ?_; rotate_left; (focus (go_simp; done)); (focus (clear hSw; go_simp; (try with_reducible rfl); done)); (try simp only [Act.put, List.setIfInBounds_toArray, List.set_cons_zero, List.set_cons_succ]))
        (refine Lex.step_val (v := ?_) ?_ (fun w' hSw => ?_) ?_; rotate_left; (focus (go_simp; done)); (focus (clear hSw; go_simp; (try with_reducible rfl); done)); (try simp only [Act.put, List.setIfInBounds_toArray, List.set_cons_zero, List.set_cons_succ]))
        (refine Lex.step_val (v := ?_) ?_ (fun w' hSw => ?_) ?_; rotate_left; (focus (go_simp; done)); (focus (clear hSw; go_simp; (try with_reducible rfl); done)); (try simp only [Act.put, List.setIfInBounds_toArray, List.set_cons_zero, List.set_cons_succ]))
        (refine Lex.step_val (v := ?_) ?_ (fun w' hSw => ?_) ?_; rotate_left; (focus (go_simp; done)); (focus ((try dsimp only at hSw); go_simp; (try with_reducible rfl); done)); (try simp only [Act.put, List.setIfInBounds_toArray, List.set_cons_zero, List.set_cons_succ]))
        (refine Lex.step_val (v := ?_) ?_ (fun w' hSw => ?_) ?_; rotate_left; (focus (go_simp; done)); (focus (clear hSw; go_simp; (try with_reducible rfl); done)); (try simp only [Act.put, List.setIfInBounds_toArray, List.set_cons_zero, List.set_cons_succ]))
        (refine Lex.step_val (v := ?_) ?_ (fun w' hSw => ?_) ?_; rotate_left; (focus (go_simp; done)); (focus (clear hSw; go_simp; (try with_reducible rfl); done)); (try simp only [Act.put, List.setIfInBounds_toArray, List.set_cons_zero, List.set_cons_succ]))
        (refine Lex.step_val (v := ?_) ?_ (fun w' hSw => ?_) ?_; rotate_left; (focus (go_simp; done)); (focus (clear hSw; go_simp; (try with_reducible rfl); done)); (try simp only [Act.put, List.setIfInBounds_toArray, List.set_cons_zero, List.set_cons_succ]))
        (refine Lex.step_val (v := ?_) ?_ (fun w' hSw => ?_) ?_; rotate_left; (focus (go_simp; done)); (focus ((try dsimp only at hSw); go_simp; (try with_reducible rfl); done)); (try simp only [Act.put, List.setIfInBounds_toArray, List.set_cons_zero, List.set_cons_succ]))
        (refine Lex.step_val (v := ?_) ?_ (fun w' hSw => ?_) ?_; rotate_left; (focus (go_simp; done)); (focus (clear hSw; go_simp; (try with_reducible rfl); done)); (try simp only [Act.put, List.setIfInBounds_toArray, List.set_cons_zero, List.set_cons_succ]))
        (refine Lex.step_val (v := ?_) ?_ (fun w' hSw => ?_) ?_; rotate_left; (focus rfl); (focus (clear hSw; go_simp; (try with_reducible rfl); done)); (try simp only [Act.put, List.setIfInBounds_toArray, List.set_cons_zero, List.set_cons_succ]))
        refine Lex.step_nil ?_
        intro wz hz
        have HBZ := hz.2.2.2.2
        clear hz hS0 d0 dS dD hgv
        go_wp2_with fail
        go_roundw
        case rel => exact ⟨i + 1, k + 1, by omega, by go_num, by go_num, HF.out, HKL2.out, HBZ⟩
        case measure => simp [intOf]; omega
    · have hend : k = n := by
        have h1 := hkf.out
        rw [List.take_of_length_le (by have := HKL.out; omega)] at h1
        rw [h1]
        exact HTL.out
      have HBE := Lib.hid hB.out
      subst hend
      clear hkf hkn hB
      go_wp2_with fail
      go_ret
      exact ⟨by first | rfl | simp, HB1.out.trans ((HB10.out.trans (HBE.out.mono HB10.out.size)).mono HB1.out.size)⟩

set_option maxRecDepth 8000 in
set_option maxHeartbeats 16000000 in
theorem walk_out_bad (w : World) (x : Circ) (p : At) (hin : InCirc w x p) (hw : WfC x) (hza : x.ands.length * 24 ≤ 140737488355328) (aA : Option Addr) (nA cA : Nat) (vs : List Value) (A : List (List Int)) (hA : Sl2 w aA nA cA vs A) (hA64 : ∀ y ∈ A.flatten, -9223372036854775808 ≤ y ∧ y ≤ 9223372036854775807)
    (n : Int) (hn0 : -9223372036854775808 ≤ n) (hn1 : n ≤ 9223372036854775807) (hno : n < 0 ∨ 10 < n) (hk : ¬ CheckOk x) :
    Calls Tryz.prog 3 #[.agg (cells x p), .slice aA nA cA, .int .i64 n] w fun e w2 => e = .returned (.bool true) ∧ Below w.heap.size w w2 := by
  obtain ⟨W1, hW1⟩ : ∃ U, w.alloc (.cells (cells x p) 27) = U := ⟨_, rfl⟩
  obtain ⟨hb1, hx1⟩ := cbox_new w x p W1 hW1
  have HB1 := Lib.hid hb1
  have HAV := Lib.hid (EnumL.alive_any W1)
  have HCB := Lib.hid (fun (U : World) (hU : Below W1.heap.size W1 U) => hx1.next hU (Nat.le_refl _))
  have HRC := fun (U : World) (hU : Below W1.heap.size W1 U) => refCheck_any U x p ((hin.next hb1).next hU) hw hza
  have HAL := Lib.hid (fun U => all_no U n hn0 hn1 hno)
  simp only [refchk_eq, chk_neg hk] at HRC
  have HRE := fun (U : World) (hU : Below W1.heap.size W1 U) => reach_no U x p ((hin.next hb1).next hU) hw (.slice aA nA cA) (by rw [small_no hk]; decide)
  simp only [small_no hk] at HRE
  have hcI := hin.ins.cap
  have hgI := hin.ins.big
  have hcL := hin.lats.cap
  have hgL := hin.lats.big
  obtain ⟨a1, b1, a2, b2, a3, b3, a4, b4, a5, b5, a6, b6, a7, b7⟩ := p
  simp only [cells] at *
  have HRCC := Lib.hid HRC
  have HREE := Lib.hid HRE
  clear hin hb1 hx1 hw hza hA hA64 HRC HRE hk hn0 hn1
  rcases hno with hno | hno
  all_goals
    go_enter Tryz.func3, Tryz.ntmps3
    go_wp2_with fail
    clear hW1
    with_reducible refine HAV.out.mono ?_
    rintro e w2 ⟨rfl, hb2⟩
    have HB2 := Lib.hid hb2
    clear hb2
    go_wp2_with fail
    with_reducible refine (HAL.out w2).mono ?_
    rintro e w5 ⟨rfl, hw5⟩
    have HB5 : Hid (Below W1.heap.size W1 w5) := by rw [← hw5]; exact HB2.out
    clear hw5
    have hc := HCB.out w5 (HB5.out)
    have k0 := hc.k0
    have k1 := hc.k1
    have k2 := hc.k2
    have k3 := hc.k3
    have k4 := hc.k4
    have k5 := hc.k5
    have k6 := hc.k6
    have k7 := hc.k7
    try simp only at k0 k1 k2 k3 k4 k5 k6 k7
    clear hc
    have HRE5 := Lib.hid (HREE.out w5 HB5.out)
    go_wp2_with fail
    with_reducible refine HRE5.out.mono ?_
    rintro e w6 ⟨rfl, hb6⟩
    have HB6 := Lib.hid (HB5.out.trans (hb6.mono HB5.out.size))
    clear hb6
    clear k0 k1 k2 k3 k4 k5 k6 k7
    have hc := HCB.out w6 (HB6.out)
    have k0 := hc.k0
    have k1 := hc.k1
    have k2 := hc.k2
    have k3 := hc.k3
    have k4 := hc.k4
    have k5 := hc.k5
    have k6 := hc.k6
    have k7 := hc.k7
    try simp only at k0 k1 k2 k3 k4 k5 k6 k7
    clear hc
    have HRC6 := Lib.hid (HRCC.out w6 HB6.out)
    go_wp2_with fail
    with_reducible refine HRC6.out.mono ?_
    rintro e w7 ⟨rfl, hb7⟩
    have HB7 := Lib.hid (HB6.out.trans (hb7.mono HB6.out.size))
    have H67 := Lib.hid hb7
    clear hb7
    clear k0 k1 k2 k3 k4 k5 k6 k7
    go_wp2_with fail
    go_ret
    exact ⟨by first | rfl | simp, HB1.out.trans (HB7.out.mono HB1.out.size)⟩

set_option maxRecDepth 8000 in
set_option maxHeartbeats 16000000 in
theorem walk_out_long (w : World) (x : Circ) (p : At) (hin : InCirc w x p) (hw : WfC x) (hza : x.ands.length * 24 ≤ 140737488355328) (aA : Option Addr) (nA cA : Nat) (vs : List Value) (A : List (List Int)) (hA : Sl2 w aA nA cA vs A) (hA64 : ∀ y ∈ A.flatten, -9223372036854775808 ≤ y ∧ y ≤ 9223372036854775807)
    (n : Int) (hn0 : -9223372036854775808 ≤ n) (hn1 : n ≤ 9223372036854775807) (hno : n < 0 ∨ 10 < n) (hk : CheckOk x) (hlg : 10 < x.lats.length ∨ 10 < x.ins.length) :
    Calls Tryz.prog 3 #[.agg (cells x p), .slice aA nA cA, .int .i64 n] w fun e w2 => e = .returned (.bool true) ∧ Below w.heap.size w w2 := by
  obtain ⟨W1, hW1⟩ : ∃ U, w.alloc (.cells (cells x p) 27) = U := ⟨_, rfl⟩
  obtain ⟨hb1, hx1⟩ := cbox_new w x p W1 hW1
  have HB1 := Lib.hid hb1
  have HAV := Lib.hid (EnumL.alive_any W1)
  have HCB := Lib.hid (fun (U : World) (hU : Below W1.heap.size W1 U) => hx1.next hU (Nat.le_refl _))
  have HRC := fun (U : World) (hU : Below W1.heap.size W1 U) => refCheck_any U x p ((hin.next hb1).next hU) hw hza
  have HAL := Lib.hid (fun U => all_no U n hn0 hn1 hno)
  simp only [refchk_eq, chk_pos hk] at HRC
  have HRE := fun (U : World) (hU : Below W1.heap.size W1 U) => reach_no U x p ((hin.next hb1).next hU) hw (.slice aA nA cA) (by rw [small_long hk hlg]; decide)
  simp only [small_long hk hlg] at HRE
  have HLG := Lib.hid hlg
  have hcI := hin.ins.cap
  have hgI := hin.ins.big
  have hcL := hin.lats.cap
  have hgL := hin.lats.big
  obtain ⟨a1, b1, a2, b2, a3, b3, a4, b4, a5, b5, a6, b6, a7, b7⟩ := p
  simp only [cells] at *
  have HRCC := Lib.hid HRC
  have HREE := Lib.hid HRE
  clear hin hb1 hx1 hw hza hA hA64 HRC HRE hk hlg hn0 hn1
  rcases hno with hno | hno
  all_goals
    go_enter Tryz.func3, Tryz.ntmps3
    go_wp2_with fail
    clear hW1
    with_reducible refine HAV.out.mono ?_
    rintro e w2 ⟨rfl, hb2⟩
    have HB2 := Lib.hid hb2
    clear hb2
    go_wp2_with fail
    with_reducible refine (HAL.out w2).mono ?_
    rintro e w5 ⟨rfl, hw5⟩
    have HB5 : Hid (Below W1.heap.size W1 w5) := by rw [← hw5]; exact HB2.out
    clear hw5
    have hc := HCB.out w5 (HB5.out)
    have k0 := hc.k0
    have k1 := hc.k1
    have k2 := hc.k2
    have k3 := hc.k3
    have k4 := hc.k4
    have k5 := hc.k5
    have k6 := hc.k6
    have k7 := hc.k7
    try simp only at k0 k1 k2 k3 k4 k5 k6 k7
    clear hc
    have HRE5 := Lib.hid (HREE.out w5 HB5.out)
    go_wp2_with fail
    with_reducible refine HRE5.out.mono ?_
    rintro e w6 ⟨rfl, hb6⟩
    have HB6 := Lib.hid (HB5.out.trans (hb6.mono HB5.out.size))
    clear hb6
    clear k0 k1 k2 k3 k4 k5 k6 k7
    have hc := HCB.out w6 (HB6.out)
    have k0 := hc.k0
    have k1 := hc.k1
    have k2 := hc.k2
    have k3 := hc.k3
    have k4 := hc.k4
    have k5 := hc.k5
    have k6 := hc.k6
    have k7 := hc.k7
    try simp only at k0 k1 k2 k3 k4 k5 k6 k7
    clear hc
    have HRC6 := Lib.hid (HRCC.out w6 HB6.out)
    go_wp2_with fail
    with_reducible refine HRC6.out.mono ?_
    rintro e w7 ⟨rfl, hb7⟩
    have HB7 := Lib.hid (HB6.out.trans (hb7.mono HB6.out.size))
    have H67 := Lib.hid hb7
    clear hb7
    clear k0 k1 k2 k3 k4 k5 k6 k7
    have hc := HCB.out w7 (HB7.out)
    have k0 := hc.k0
    have k1 := hc.k1
    have k2 := hc.k2
    have k3 := hc.k3
    have k4 := hc.k4
    have k5 := hc.k5
    have k6 := hc.k6
    have k7 := hc.k7
    try simp only at k0 k1 k2 k3 k4 k5 k6 k7
    clear hc
    by_cases hl : 10 < x.lats.length
    · have hlI : (10 : Int) < (x.lats.length : Int) := by omega
      clear hl
      go_wp2_with fail
      go_ret
      exact ⟨by first | rfl | simp, HB1.out.trans (HB7.out.mono HB1.out.size)⟩
    · have hlI : ¬ (10 : Int) < (x.lats.length : Int) := by omega
      have hiI : (10 : Int) < (x.ins.length : Int) := by
        rcases HLG.out with h | h <;> omega
      clear hl
      go_wp2_with fail
      go_ret
      exact ⟨by first | rfl | simp, HB1.out.trans (HB7.out.mono HB1.out.size)⟩

set_option maxRecDepth 8000 in
set_option maxHeartbeats 16000000 in
theorem walk_out_big (w : World) (x : Circ) (p : At) (hin : InCirc w x p) (hw : WfC x) (hza : x.ands.length * 24 ≤ 140737488355328) (aA : Option Addr) (nA cA : Nat) (vs : List Value) (A : List (List Int)) (hA : Sl2 w aA nA cA vs A) (hA64 : ∀ y ∈ A.flatten, -9223372036854775808 ≤ y ∧ y ≤ 9223372036854775807)
    (n : Int) (hn0 : -9223372036854775808 ≤ n) (hn1 : n ≤ 9223372036854775807) (hno : n < 0 ∨ 10 < n) (hk : CheckOk x) (hl10 : x.lats.length ≤ 10) (hi10 : x.ins.length ≤ 10) (hbg : ¬ (x.lats.length ≤ 4 ∧ x.ins.length ≤ 3 ∧ x.max ≤ 60)) :
    Calls Tryz.prog 3 #[.agg (cells x p), .slice aA nA cA, .int .i64 n] w fun e w2 => e = .returned (.bool true) ∧ Below w.heap.size w w2 := by
  obtain ⟨W1, hW1⟩ : ∃ U, w.alloc (.cells (cells x p) 27) = U := ⟨_, rfl⟩
  obtain ⟨hb1, hx1⟩ := cbox_new w x p W1 hW1
  have HB1 := Lib.hid hb1
  have HAV := Lib.hid (EnumL.alive_any W1)
  have HCB := Lib.hid (fun (U : World) (hU : Below W1.heap.size W1 U) => hx1.next hU (Nat.le_refl _))
  have HRC := fun (U : World) (hU : Below W1.heap.size W1 U) => refCheck_any U x p ((hin.next hb1).next hU) hw hza
  have HAL := Lib.hid (fun U => all_no U n hn0 hn1 hno)
  simp only [refchk_eq, chk_pos hk] at HRC
  have HRE := fun (U : World) (hU : Below W1.heap.size W1 U) => reach_ok U x p ((hin.next hb1).next hU) hw hk hl10 hi10 aA nA cA vs A ((hA.next hb1).next hU) hA64
  have hsm : (decide (x.lats.length ≤ 4) && decide (x.ins.length ≤ 3) && decide (x.max ≤ 60)) = false := by
    cases hq : (decide (x.lats.length ≤ 4) && decide (x.ins.length ≤ 3) && decide (x.max ≤ 60)) with
    | false => rfl
    | true =>
      simp only [Bool.and_eq_true, decide_eq_true_eq] at hq
      exact absurd ⟨hq.1.1, hq.1.2, hq.2⟩ hbg
  have HSM := fun (U : World) (hU : Below W1.heap.size W1 U) => BadP.small_any U x p ((hin.next hb1).next hU)
  simp only [hsm] at HSM
  have hl10I : ¬ (10 : Int) < (x.lats.length : Int) := by omega
  have hi10I : ¬ (10 : Int) < (x.ins.length : Int) := by omega
  have hcI := hin.ins.cap
  have hgI := hin.ins.big
  have hcL := hin.lats.cap
  have hgL := hin.lats.big
  obtain ⟨a1, b1, a2, b2, a3, b3, a4, b4, a5, b5, a6, b6, a7, b7⟩ := p
  simp only [cells] at *
  have HSMM := Lib.hid HSM
  have HRCC := Lib.hid HRC
  have HREE := Lib.hid HRE
  clear hin hb1 hx1 hw hza hA hA64 HRC HRE hk hl10 hi10 hbg hsm HSM hn0 hn1
  rcases hno with hno | hno
  all_goals
    go_enter Tryz.func3, Tryz.ntmps3
    go_wp2_with fail
    clear hW1
    with_reducible refine HAV.out.mono ?_
    rintro e w2 ⟨rfl, hb2⟩
    have HB2 := Lib.hid hb2
    clear hb2
    go_wp2_with fail
    with_reducible refine (HAL.out w2).mono ?_
    rintro e w5 ⟨rfl, hw5⟩
    have HB5 : Hid (Below W1.heap.size W1 w5) := by rw [← hw5]; exact HB2.out
    clear hw5
    have hc := HCB.out w5 (HB5.out)
    have k0 := hc.k0
    have k1 := hc.k1
    have k2 := hc.k2
    have k3 := hc.k3
    have k4 := hc.k4
    have k5 := hc.k5
    have k6 := hc.k6
    have k7 := hc.k7
    try simp only at k0 k1 k2 k3 k4 k5 k6 k7
    clear hc
    have HRE5 := Lib.hid (HREE.out w5 HB5.out)
    go_wp2_with fail
    with_reducible refine HRE5.out.mono ?_
    rintro e w6 ⟨O, n, aS, cS, aD, cD, hkn, hTl, hn1024, rfl, hoS, hoD, hb6⟩
    have HB6 := Lib.hid (HB5.out.trans (hb6.mono HB5.out.size))
    have HKN := Lib.hid hkn
    have HTL := Lib.hid hTl
    have HOS := Lib.hid (own_sl' hoS)
    have HOD := Lib.hid (own_sl' hoD)
    have hcS := HOS.out.cap
    have hgS := HOS.out.big
    have hcD := HOD.out.cap
    have hgD := HOD.out.big
    clear hb6 hkn hTl hoS hoD
    clear k0 k1 k2 k3 k4 k5 k6 k7
    have hc := HCB.out w6 (HB6.out)
    have k0 := hc.k0
    have k1 := hc.k1
    have k2 := hc.k2
    have k3 := hc.k3
    have k4 := hc.k4
    have k5 := hc.k5
    have k6 := hc.k6
    have k7 := hc.k7
    try simp only at k0 k1 k2 k3 k4 k5 k6 k7
    clear hc
    have HRC6 := Lib.hid (HRCC.out w6 HB6.out)
    go_wp2_with fail
    with_reducible refine HRC6.out.mono ?_
    rintro e w7 ⟨rfl, hb7⟩
    have HB7 := Lib.hid (HB6.out.trans (hb7.mono HB6.out.size))
    have H67 := Lib.hid hb7
    clear hb7
    clear k0 k1 k2 k3 k4 k5 k6 k7
    have hc := HCB.out w7 (HB7.out)
    have k0 := hc.k0
    have k1 := hc.k1
    have k2 := hc.k2
    have k3 := hc.k3
    have k4 := hc.k4
    have k5 := hc.k5
    have k6 := hc.k6
    have k7 := hc.k7
    try simp only at k0 k1 k2 k3 k4 k5 k6 k7
    clear hc
    have HSM7 := Lib.hid (HSMM.out w7 HB7.out)
    go_wp2_with fail
    with_reducible refine HSM7.out.mono ?_
    rintro e w8 ⟨rfl, hb8⟩
    have HB8 := Lib.hid (HB7.out.trans (hb8.mono HB7.out.size))
    have H68 := Lib.hid (H67.out.trans (hb8.mono H67.out.size))
    clear hb8
    clear k0 k1 k2 k3 k4 k5 k6 k7
    go_wp2_with fail
    go_ret
    exact ⟨by first | rfl | simp, HB1.out.trans (HB8.out.mono HB1.out.size)⟩

set_option maxRecDepth 8000 in
set_option maxHeartbeats 16000000 in
theorem walk_out_small (w : World) (x : Circ) (p : At) (hin : InCirc w x p) (hw : WfC x) (hza : x.ands.length * 24 ≤ 140737488355328) (aA : Option Addr) (nA cA : Nat) (vs : List Value) (A : List (List Int)) (hA : Sl2 w aA nA cA vs A) (hA64 : ∀ y ∈ A.flatten, -9223372036854775808 ≤ y ∧ y ≤ 9223372036854775807)
    (n : Int) (hn0 : -9223372036854775808 ≤ n) (hn1 : n ≤ 9223372036854775807) (hno : n < 0 ∨ 10 < n) (hk : CheckOk x) (hl4 : x.lats.length ≤ 4) (hi3 : x.ins.length ≤ 3) (hm60 : x.max ≤ 60) :
    Calls Tryz.prog 3 #[.agg (cells x p), .slice aA nA cA, .int .i64 n] w fun e w2 => e = .returned (.bool true) ∧ Below w.heap.size w w2 := by
  obtain ⟨W1, hW1⟩ : ∃ U, w.alloc (.cells (cells x p) 27) = U := ⟨_, rfl⟩
  obtain ⟨hb1, hx1⟩ := cbox_new w x p W1 hW1
  have HB1 := Lib.hid hb1
  have HAV := Lib.hid (EnumL.alive_any W1)
  have HCB := Lib.hid (fun (U : World) (hU : Below W1.heap.size W1 U) => hx1.next hU (Nat.le_refl _))
  have HRC := fun (U : World) (hU : Below W1.heap.size W1 U) => refCheck_any U x p ((hin.next hb1).next hU) hw hza
  have HAL := Lib.hid (fun U => all_no U n hn0 hn1 hno)
  simp only [refchk_eq, chk_pos hk] at HRC
  have HRE := fun (U : World) (hU : Below W1.heap.size W1 U) => reach_ok U x p ((hin.next hb1).next hU) hw hk (by omega) (by omega) aA nA cA vs A ((hA.next hb1).next hU) hA64
  have hsm : (decide (x.lats.length ≤ 4) && decide (x.ins.length ≤ 3) && decide (x.max ≤ 60)) = true := by
    simp only [Bool.and_eq_true, decide_eq_true_eq]
    exact ⟨⟨hl4, hi3⟩, hm60⟩
  have HSM := fun (U : World) (hU : Below W1.heap.size W1 U) => BadP.small_any U x p ((hin.next hb1).next hU)
  simp only [hsm] at HSM
  have hl10I : ¬ (10 : Int) < (x.lats.length : Int) := by omega
  have hi10I : ¬ (10 : Int) < (x.ins.length : Int) := by omega
  have HST := fun (U : World) (hU : Below W1.heap.size W1 U) => steps_any U x p ((hin.next hb1).next hU) hw hk hza hl4 hi3 aA nA cA vs A ((hA.next hb1).next hU) hA64
  have HAS := fun U => AllS.all_any U x.lats.length (by omega)
  simp only [EnumL.strs_txt, AllS.allS_len] at HAS
  obtain ⟨K, hK⟩ : ∃ m, 2 ^ x.lats.length = m := ⟨_, rfl⟩
  have hK16 : K ≤ 16 := by rw [← hK]; exact Nat.pow_le_pow_right (by decide) hl4
  simp only [hK] at HST HAS
  have HKL : Hid ((allL x.lats.length).length = K) := by show _ = _; rw [allL_len, hK]
  have HSO : Hid (∀ out, SOut x A out → out.length = K) := fun out h => by rw [h.len, hK]
  have HASS := Lib.hid HAS
  clear HAS hK
  have hcI := hin.ins.cap
  have hgI := hin.ins.big
  have hcL := hin.lats.cap
  have hgL := hin.lats.big
  obtain ⟨a1, b1, a2, b2, a3, b3, a4, b4, a5, b5, a6, b6, a7, b7⟩ := p
  simp only [cells] at *
  have HSMM := Lib.hid HSM
  have HSTT := Lib.hid HST
  have HRCC := Lib.hid HRC
  have HREE := Lib.hid HRE
  clear hin hb1 hx1 hw hza hA hA64 HRC HRE hk hl4 hi3 hm60 hsm HSM HST hn0 hn1
  rcases hno with hno | hno
  all_goals
    go_enter Tryz.func3, Tryz.ntmps3
    go_wp2_with fail
    clear hW1
    with_reducible refine HAV.out.mono ?_
    rintro e w2 ⟨rfl, hb2⟩
    have HB2 := Lib.hid hb2
    clear hb2
    go_wp2_with fail
    with_reducible refine (HAL.out w2).mono ?_
    rintro e w5 ⟨rfl, hw5⟩
    have HB5 : Hid (Below W1.heap.size W1 w5) := by rw [← hw5]; exact HB2.out
    clear hw5
    have hc := HCB.out w5 (HB5.out)
    have k0 := hc.k0
    have k1 := hc.k1
    have k2 := hc.k2
    have k3 := hc.k3
    have k4 := hc.k4
    have k5 := hc.k5
    have k6 := hc.k6
    have k7 := hc.k7
    try simp only at k0 k1 k2 k3 k4 k5 k6 k7
    clear hc
    have HRE5 := Lib.hid (HREE.out w5 HB5.out)
    go_wp2_with fail
    with_reducible refine HRE5.out.mono ?_
    rintro e w6 ⟨O, n, aS, cS, aD, cD, hkn, hTl, hn1024, rfl, hoS, hoD, hb6⟩
    have HB6 := Lib.hid (HB5.out.trans (hb6.mono HB5.out.size))
    have HKN := Lib.hid hkn
    have HTL := Lib.hid hTl
    have HOS := Lib.hid (own_sl' hoS)
    have HOD := Lib.hid (own_sl' hoD)
    have hcS := HOS.out.cap
    have hgS := HOS.out.big
    have hcD := HOD.out.cap
    have hgD := HOD.out.big
    clear hb6 hkn hTl hoS hoD
    clear k0 k1 k2 k3 k4 k5 k6 k7
    have hc := HCB.out w6 (HB6.out)
    have k0 := hc.k0
    have k1 := hc.k1
    have k2 := hc.k2
    have k3 := hc.k3
    have k4 := hc.k4
    have k5 := hc.k5
    have k6 := hc.k6
    have k7 := hc.k7
    try simp only at k0 k1 k2 k3 k4 k5 k6 k7
    clear hc
    have HRC6 := Lib.hid (HRCC.out w6 HB6.out)
    go_wp2_with fail
    with_reducible refine HRC6.out.mono ?_
    rintro e w7 ⟨rfl, hb7⟩
    have HB7 := Lib.hid (HB6.out.trans (hb7.mono HB6.out.size))
    have H67 := Lib.hid hb7
    clear hb7
    clear k0 k1 k2 k3 k4 k5 k6 k7
    have hc := HCB.out w7 (HB7.out)
    have k0 := hc.k0
    have k1 := hc.k1
    have k2 := hc.k2
    have k3 := hc.k3
    have k4 := hc.k4
    have k5 := hc.k5
    have k6 := hc.k6
    have k7 := hc.k7
    try simp only at k0 k1 k2 k3 k4 k5 k6 k7
    clear hc
    have HSM7 := Lib.hid (HSMM.out w7 HB7.out)
    go_wp2_with fail
    with_reducible refine HSM7.out.mono ?_
    rintro e w8 ⟨rfl, hb8⟩
    have HB8 := Lib.hid (HB7.out.trans (hb8.mono HB7.out.size))
    have H68 := Lib.hid (H67.out.trans (hb8.mono H67.out.size))
    clear hb8
    clear k0 k1 k2 k3 k4 k5 k6 k7
    have hc := HCB.out w8 (HB8.out)
    have k0 := hc.k0
    have k1 := hc.k1
    have k2 := hc.k2
    have k3 := hc.k3
    have k4 := hc.k4
    have k5 := hc.k5
    have k6 := hc.k6
    have k7 := hc.k7
    try simp only at k0 k1 k2 k3 k4 k5 k6 k7
    clear hc
    have HST8 := Lib.hid (HSTT.out w8 HB8.out)
    go_wp2_with fail
    with_reducible refine HST8.out.mono ?_
    rintro e w9 ⟨g, out, rfl, hg9, hso, hge, hb9⟩
    have HB9 := Lib.hid (HB8.out.trans (hb9.mono HB8.out.size))
    have H69 := Lib.hid (H68.out.trans (hb9.mono H68.out.size))
    have HG9 := Lib.hid hg9
    have HSO9 := Lib.hid hso
    clear hg9 hso hge hb9
    clear k0 k1 k2 k3 k4 k5 k6 k7
    have k2 := (HCB.out w9 HB9.out).k2
    try simp only at k2
    go_wp2_with fail
    with_reducible refine (HASS.out w9).mono ?_
    rintro e w10 ⟨aT, cT, rfl, hoT, hb10⟩
    have HOT := Lib.hid (own_sl' hoT)
    have HB10 := Lib.hid (HB9.out.trans (hb10.mono HB9.out.size))
    have HG10 := Lib.hid (HG9.out.next hb10 HG9.out.lt)
    have HOS10 := Lib.hid (HOS.out.next (H69.out.trans (hb10.mono H69.out.size)))
    have HOD10 := Lib.hid (HOD.out.next (H69.out.trans (hb10.mono H69.out.size)))
    have hcT := HOT.out.cap
    have hgT := HOT.out.big
    clear hoT hb10 k2
    go_wp2_with fail
    go_loopw [13, 14] (fun u j wr => ∃ (i k : Nat), i ≤ K ∧ u = .int .i64 k ∧ j = .int .i64 i ∧ Hid (k = (((allL x.lats.length).take i).filter (has O)).length) ∧ Hid (k ≤ n) ∧ Hid (Below w10.heap.size w10 wr)) (fun _ j _ => K - (intOf j).toNat)
    case atStart => exact ⟨0, 0, Nat.zero_le _, rfl, rfl, rfl, Nat.zero_le _, Below.refl _ _⟩
    case round =>
      obtain ⟨i, k, hik, rfl, rfl, hkf, hkn, hB⟩ := hrel
      generalize wr = ws at *
      by_cases hlt : i < K
      · obtain ⟨bT, oT, hx, hae, hbs, d0⟩ := txt_at (HOT.out.next hB.out) hlt
        try simp only at hae
        subst hae
        have hat : (allL x.lats.length)[i]? = some (allL x.lats.length)[i] := List.getElem?_eq_getElem hx
        have hio : i < out.length := by rw [HSO.out out HSO9.out]; exact hlt
        have hv : out[i]? = some out[i] := List.getElem?_eq_getElem hio
        have hgv := (HG10.out.next hB.out HG10.out.lt).at' i _ (ints_get hv)
        have hfs := filter_step (has O) (allL x.lats.length) i hx
        have hfa := filter_at (has O) (allL x.lats.length) i hx
        have hle := filter_le (has O) (allL x.lats.length) (i + 1)
        rw [hfs] at hle
        have hle2 : (((allL x.lats.length).take (i + 1)).filter (has O)).length ≤ n := by have := filter_le (has O) (allL x.lats.length) (i + 1); have h2 := HTL.out; unfold sortedO at h2; omega
        have hsn := fun h0 => seen_no HSO9.out HKN.out hat hv h0
        have hsy := fun h0 => seen_yes HSO9.out HKN.out hat hv h0
        generalize hs : (allL x.lats.length)[i] = s at *
        generalize out[i] = v at *
        have HLE2 := Lib.hid hle2
        clear hle hle2 hat hio hv hs
        by_cases h0 : v < 0
        · have hq := hsn h0
          have HF : Hid (k = (((allL x.lats.length).take (i + 1)).filter (has O)).length) := by
            show _ = _
            rw [hfs, hq]
            exact hkf.out
          have HB11 := Lib.hid hB.out
          clear hfs hfa hsn hsy hq d0 hB
          go_wp2_with fail
          go_roundw
          case rel => exact ⟨i + 1, k, by omega, rfl, by go_num, HF.out, hkn.out, HB11.out⟩
          case measure => simp [intOf]; omega
        · obtain ⟨hq, hst⟩ := hsy (by omega)
          have hf2 := hfa hq
          rw [← hkf.out] at hf2
          have hf3 : (sortedO x.lats.length O)[k]? = some s := hf2
          have hkl : k < n := by have := (List.getElem?_eq_some_iff.1 hf3).1; have := HTL.out; omega
          obtain ⟨bS, oS, hae, hbS, dS⟩ := (HOS10.out.next hB.out).cell k (.string (bs s)) (by unfold txt; rw [List.getElem?_map, hf3]; rfl)
          obtain ⟨bD, oD, hae2, hbD, dD⟩ := (HOD10.out.next hB.out).cell k (.int .i64 v) (by unfold ints; rw [List.getElem?_map, List.getElem?_map, hf3, ← hst]; rfl)
          have HF : Hid (k + 1 = (((allL x.lats.length).take (i + 1)).filter (has O)).length) := by
            show _ = _
            rw [hfs, hq, ← hkf.out]; rfl
          have HKL2 : Hid (k + 1 ≤ n) := hkl
          subst hae
          subst hae2
          have hklI : ¬ (n : Int) ≤ (k : Int) := by omega
          have hn63 : n ≤ 1024 := hn1024
          generalize bs s = ss at *
          have hS0 : ws.drew.cell? ⟨bS, oS + k, none⟩ = some (.string ss) ∧ ws.drew.cell? ⟨bT, oT + i, none⟩ = some (.string ss) ∧ ws.drew.cell? ⟨bD, oD + k, none⟩ = some (.int .i64 v) ∧ ws.drew.cell? ⟨g, i, none⟩ = some (.int .i64 v) ∧ Hid (Below w10.heap.size w10 ws.drew) :=
            ⟨by rw [World.cell?_drew]; exact dS, by rw [World.cell?_drew]; exact d0, by rw [World.cell?_drew]; exact dD, by rw [World.cell?_drew]; exact hgv, hB.out.drew⟩
          clear hfs hfa hsn hsy hq hst hf2 hf3 hbS hbD hbs hB hkf hkn
          go_upto_region 23 with fail
          refine Lex.region (fun w' => (fun w9 : World => w9.cell? ⟨bS, oS + k, none⟩ = some (.string ss) ∧ w9.cell? ⟨bT, oT + i, none⟩ = some (.string ss) ∧ w9.cell? ⟨bD, oD + k, none⟩ = some (.int .i64 v) ∧ w9.cell? ⟨g, i, none⟩ = some (.int .i64 v) ∧ Hid (Below w10.heap.size w10 w9)) w') (by kernel_rfl) (by kernel_rfl) hS0 ?_
          (refine Lex.step_val (v := ?_) ?_ (fun w' hSw => ?_) ?_; rotate_left; (focus rfl); (focus (clear hSw; go_simp; (try with_reducible rfl); done)); (try simp only [Act.put, List.setIfInBounds_toArray, List.set_cons_zero, List.set_cons_succ]))
          (refine Lex.step_val (v := ?_) ?_ (fun w' hSw => ?_) ?_; rotate_left; (focus rfl); (focus (clear hSw; go_simp; (try with_reducible rfl); done)); (try simp only [Act.put, List.setIfInBounds_toArray, List.set_cons_zero, List.set_cons_succ]))
          (refine Lex.step_val (v := ?_) ?_ (fun w' hSw => ?_) ?_; rotate_left; (focus rfl); (focus (clear hSw; go_simp; (try with_reducible rfl); done)); (try simp only [Act.put, List.setIfInBounds_toArray, List.set_cons_zero, List.set_cons_succ]))
          (refine Lex.step_val (v := ?_) ?_ (fun w' hSw => ?_) ?_; rotate_left; (focus rfl); (focus (clear hSw; go_simp; (try with_reducible rfl); done)); (try simp only [Act.put, List.setIfInBounds_toArray, List.set_cons_zero, List.set_cons_succ]))
          (refine Lex.step_val (v := ?_) ?_ (fun w' hSw => ?_) ?_; rotate_left; (focus rfl); (focus (clear hSw; go_simp; (try with_reducible rfl); done)); (try simp only [Act.put, List.setIfInBounds_toArray, List.set_cons_zero, List.set_cons_succ]))
          (refine Lex.step_val (v := ?_) ?_ (fun w' hSw => ?_) ?_; rotate_left; (focus (go_simp; done)); (focus (clear hSw; go_simp; (try with_reducible rfl); done)); (try simp only [Act.put, List.setIfInBounds_toArray, List.set_cons_zero, List.set_cons_succ]))
          (refine Lex.step_val (v := ?_) ?_ (fun w' hSw => ?_) ?_; rotate_left; (focus (go_simp; done)); (focus (clear hSw; go_simp; (try with_reducible rfl); done)); (try simp only [Act.put, List.setIfInBounds_toArray, List.set_cons_zero, List.set_cons_succ]))
          (refine Lex.step_val (v := ?_) ?_ (fun w' hSw => ?_) ?_; rotate_left; (focus (go_simp; done)); (focus (clear hSw; go_simp; (try with_reducible rfl); done)); (try simp only [Act.put, List.setIfInBounds_toArray, List.set_cons_zero, List.set_cons_succ]))
          (refine Lex.step_val (v := ?_) ?_ (fun w' hSw => ?_) ?_; rotate_left; (focus (go_simp; done)); (focus (clear hSw; go_simp; (try with_reducible rfl); done)); (try simp only [Act.put, List.setIfInBounds_toArray, List.set_cons_zero, List.set_cons_succ]))
          (refine Lex.step_val (v := ?_) ?_ (fun w' hSw => ?_) ?_; rotate_left; (focus rfl); (focus (clear hSw; go_simp; (try with_reducible rfl); done)); (try simp only [Act.put, List.setIfInBounds_toArray, List.set_cons_zero, List.set_cons_succ]))
          (refine Lex.step_val (v := ?_) ?_ (fun w' hSw => ?_) ?_; rotate_left; (focus rfl); (focus (clear hSw; go_simp; (try with_reducible rfl); done)); (try simp only [Act.put, List.setIfInBounds_toArray, List.set_cons_zero, List.set_cons_succ]))
          (refine Lex.step_val (v := ?_) ?_ (fun w' hSw => ?_) ?_; rotate_left; (focus (go_simp; done)); (focus (clear hSw; go_simp; (try with_reducible rfl); done)); (try simp only [Act.put, List.setIfInBounds_toArray, List.set_cons_zero, List.set_cons_succ]))
          (refine Lex.step_val (v := ?_) ?_ (fun w' hSw => ?_) ?_; rotate_left; (focus (go_simp; done)); (focus (clear hSw; go_simp; (try with_reducible rfl); done)); (try simp only [Act.put, List.setIfInBounds_toArray, List.set_cons_zero, List.set_cons_succ]))
          (refine Lex.step_val (v := ?_) ?_ (fun w' hSw => ?_) ?_; rotate_left; (focus (go_simp; done)); (focus (clear hSw; go_simp; (try with_reducible rfl); done)); (try simp only [Act.put, List.setIfInBounds_toArray, List.set_cons_zero, List.set_cons_succ]))
          (refine Lex.step_val (v := ?_) ?_ (fun w' hSw => ?_) ?_; rotate_left; (focus (go_simp; done)); (focus ((try dsimp only at hSw); go_simp; (try with_reducible rfl); done)); (try simp only [Act.put, List.setIfInBounds_toArray, List.set_cons_zero, List.set_cons_succ]))
          (refine Lex.step_val (v := ?_) ?_ (fun w' hSw => ?_) ?_; rotate_left; (focus (go_simp; done)); (focus (clear hSw; go_simp; (try with_reducible rfl); done)); (try simp only [Act.put, List.setIfInBounds_toArray, List.set_cons_zero, List.set_cons_succ]))
          (refine Lex.step_val (v := ?_) ?_ (fun w' hSw => ?_) ?_; rotate_left; (focus (go_simp; done)); (focus (clear hSw; go_simp; (try with_reducible rfl); done)); (try simp only [Act.put, List.setIfInBounds_toArray, List.set_cons_zero, List.set_cons_succ]))
          (refine Lex.step_val (v := ?_) ?_ (fun w' hSw => ?_) ?_; rotate_left; (focus (go_simp; done)); (focus (clear hSw; go_simp; (try with_reducible rfl); done)); (try simp only [Act.put, List.setIfInBounds_toArray, List.set_cons_zero, List.set_cons_succ]))
          (refine Lex.step_val (v := ?_) ?_ (fun w' hSw => ?_) ?_; rotate_left; (focus (go_simp; done)); (focus ((try dsimp only at hSw); go_simp; (try with_reducible rfl); done)); (try simp only [Act.put, List.setIfInBounds_toArray, List.set_cons_zero, List.set_cons_succ]))
          (refine Lex.step_val (v := ?_) ?_ (fun w' hSw => ?_) ?_; rotate_left; (focus (go_simp; done)); (focus (clear hSw; go_simp; (try with_reducible rfl); done)); (try simp only [Act.put, List.setIfInBounds_toArray, List.set_cons_zero, List.set_cons_succ]))
          (refine Lex.step_val (v := ?_) ?_ (fun w' hSw => ?_) ?_; rotate_left; (focus rfl); (focus (clear hSw; go_simp; (try with_reducible rfl); done)); (try simp only [Act.put, List.setIfInBounds_toArray, List.set_cons_zero, List.set_cons_succ]))
          (refine Lex.step_val (v := ?_) ?_ (fun w' hSw => ?_) ?_; rotate_left; (focus rfl); (focus (clear hSw; go_simp; (try with_reducible rfl); done)); (try simp only [Act.put, List.setIfInBounds_toArray, List.set_cons_zero, List.set_cons_succ]))
          (refine Lex.step_val (v := ?_) ?_ (fun w' hSw => ?_) ?_; rotate_left; (focus (go_simp; done)); (focus (clear hSw; go_simp; (try with_reducible rfl); done)); (try simp only [Act.put, List.setIfInBounds_toArray, List.set_cons_zero, List.set_cons_succ]))
          (refine Lex.step_val (v := ?_) ?_ (fun w' hSw => ?_) ?_; rotate_left; (focus (go_simp; done)); (focus (clear hSw; go_simp; (try with_reducible rfl); done)); (try simp only [Act.put, List.setIfInBounds_toArray, List.set_cons_zero, List.set_cons_succ]))
          (refine Lex.step_val (v := ?_) ?_ (fun w' hSw => ?_) ?_; rotate_left; (focus (go_simp; done)); (focus (clear hSw; go_simp; (try with_reducible rfl); done)); (try simp only [Act.put, List.setIfInBounds_toArray, List.set_cons_zero, List.set_cons_succ]))
          (refine Lex.step_val (v := ?_) ?_ (fun w' hSw => ?_) ?_; rotate_left; (focus (go_simp; done)); (focus ((try dsimp only at hSw); go_simp; (try with_reducible rfl); done)); (try simp only [Act.put, List.setIfInBounds_toArray, List.set_cons_zero, List.set_cons_succ]))
          (refine Lex.step_val (v := ?_) ?_ (fun w' hSw => ?_) ?_; rotate_left; (focus (go_simp; done)); (focus (clear hSw; go_simp; (try with_reducible rfl); done)); (try simp only [Act.put, List.setIfInBounds_toArray, List.set_cons_zero, List.set_cons_succ]))
          (refine Lex.step_val (v := ?_) ?_ (fun w' hSw => ?_) ?_; rotate_left; (focus (go_simp; done)); (focus (clear hSw; go_simp; (try with_reducible rfl); done)); (try simp only [Act.put, List.setIfInBounds_toArray, List.set_cons_zero, List.set_cons_succ]))
          (refine Lex.step_val (v := ?_) ?_ (fun w' hSw => ?_) ?_; rotate_left; (focus (go_simp; done)); (focus (clear hSw; go_simp; (try with_reducible rfl); done)); (try simp only [Act.put, List.setIfInBounds_toArray, List.set_cons_zero, List.set_cons_succ]))
          (refine Lex.step_val (v := ?_) ?_ (fun w' hSw => ?_) ?_; rotate_left; (focus (go_simp; done)); (focus ((try dsimp only at hSw); go_simp; (try with_reducible rfl); done)); (try simp only [Act.put, List.setIfInBounds_toArray, List.set_cons_zero, List.set_cons_succ]))
          (refine Lex.step_val (v := ?_) ?_ (fun w' hSw => ?_) ?_; rotate_left; (focus (go_simp; done)); (focus (clear hSw; go_simp; (try with_reducible rfl); done)); (try simp only [Act.put, List.setIfInBounds_toArray, List.set_cons_zero, List.set_cons_succ]))
          (refine Lex.step_val (v := ?_) ?_ (fun w' hSw => ?_) ?_; rotate_left; (focus rfl); (focus (clear hSw; go_simp; (try with_reducible rfl); done)); (try simp only [Act.put, List.setIfInBounds_toArray, List.set_cons_zero, List.set_cons_succ]))
          refine Lex.step_nil ?_
          intro wz hz
          have HBZ := hz.2.2.2.2
          clear hz hS0 d0 dS dD hgv
          go_wp2_with fail
          go_roundw
          case rel => exact ⟨i + 1, k + 1, by omega, by go_num, by go_num, HF.out, HKL2.out, HBZ⟩
          case measure => simp [intOf]; omega
      · have hend : k = n := by
          have h1 := hkf.out
          rw [List.take_of_length_le (by have := HKL.out; omega)] at h1
          rw [h1]
          exact HTL.out
        have HBE := Lib.hid hB.out
        subst hend
        clear hkf hkn hB
        go_wp2_with fail
        go_ret
        exact ⟨by first | rfl | simp, HB1.out.trans ((HB10.out.trans (HBE.out.mono HB10.out.size)).mono HB1.out.size)⟩


theorem walk (x : Circ) (p : At) {w : World} (hin : InCirc w x p) (hw : WfC x) (hz : Open.SizedCirc x) (aA : Option Addr) (cA : Nat) (A : List (List Int)) (vals : List Value) (hA : Sl2 w aA A.length cA vals A) (hwA : ∀ l ∈ A, Clause.Wf l) (n : Int) (hn : -9223372036854775808 ≤ n ∧ n ≤ 9223372036854775807) (W : World) (hW : W = w) :
    Calls Tryz.prog 3 #[.agg (cells x p), .slice aA A.length cA, .int .i64 n] W fun e W' => e = .returned (.bool true) ∧ Below W.heap.size W W' := by
  subst hW
  have h64 : ∀ y ∈ A.flatten, -9223372036854775808 ≤ y ∧ y ≤ 9223372036854775807 := fun y hy => by
    obtain ⟨l, hl, hyl⟩ := List.mem_flatten.1 hy
    exact hwA l hl y hyl
  have hza : x.ands.length * 24 ≤ 140737488355328 := by have := hz.ands; omega
  by_cases h1 : n < 0 ∨ 10 < n
  · by_cases hk : CheckOk x
    · by_cases h2 : 10 < x.lats.length ∨ 10 < x.ins.length
      · exact walk_out_long W x p hin hw hza aA _ cA vals A hA h64 n hn.1 hn.2 h1 hk h2
      · by_cases h3 : x.lats.length ≤ 4 ∧ x.ins.length ≤ 3 ∧ x.max ≤ 60
        · exact walk_out_small W x p hin hw hza aA _ cA vals A hA h64 n hn.1 hn.2 h1 hk h3.1 h3.2.1 h3.2.2
        · exact walk_out_big W x p hin hw hza aA _ cA vals A hA h64 n hn.1 hn.2 h1 hk (by omega) (by omega) h3
    · exact walk_out_bad W x p hin hw hza aA _ cA vals A hA h64 n hn.1 hn.2 h1 hk
  · obtain ⟨nn, rfl⟩ : ∃ m : Nat, n = (m : Int) := ⟨n.toNat, by omega⟩
    by_cases hk : CheckOk x
    · by_cases h2 : 10 < x.lats.length ∨ 10 < x.ins.length
      · exact walk_in_long W x p hin hw hza aA _ cA vals A hA h64 nn (by omega) hk h2
      · by_cases h3 : x.lats.length ≤ 4 ∧ x.ins.length ≤ 3 ∧ x.max ≤ 60
        · exact walk_in_small W x p hin hw hza aA _ cA vals A hA h64 nn (by omega) hk h3.1 h3.2.1 h3.2.2
        · exact walk_in_big W x p hin hw hza aA _ cA vals A hA h64 nn (by omega) hk (by omega) (by omega) h3
    · exact walk_in_bad W x p hin hw hza aA _ cA vals A hA h64 nn (by omega) hk
end Go.Proofs.YtjmmhbmbafjneaaGreatDoor.enumReach
