/-
  interlocklaw38.PreprocSame: the walk: cleaned, subsumed, strengthened, a formula has just the models that it had.
-/
import Derived.Test.YthhkngpbaflfiaaPreAlive
import Derived.Test.YthhkngpbaflfiaaStrong
import Derived.Test.YthhkngpbaflfiaaModels
import Derived.Test.YthhkngpbaflfiaaTextsSame
import Derived.Test.YthhkngpbaflfiaaFew
import Derived.Test.YthhkngpbaflfiaaPreM
import Derived.Test.YthhkngpbaflfiaaBoxF
namespace Go.Proofs.Ythhkngpbaflfiaa.preprocSame
open Go.RowKit Base
set_option linter.unusedVariables false
set_option linter.unusedSimpArgs false
open Pre BoxF

set_option maxRecDepth 4000 in
set_option maxHeartbeats 8000000 in
theorem walk (u0 : Int) (l0 : -9223372036854775808 ≤ u0) (g0 : u0 ≤ 9223372036854775807) (a0 : Option Addr) (c0 : Nat) (x0 : List (List Int)) (y0 : List Value) {w : World} (s0 : Sl2 w a0 x0.length c0 y0 x0) (w0 : Formula.Wf2 x0) (W : World) (hW : W = w) :
    Calls Try.prog 5 #[.agg #[.int .i64 u0, .slice a0 x0.length c0]] W fun e w' => e = .returned (.bool true) ∧ Below W.heap.size W w' := by
  subst hW
  obtain ⟨V, hV⟩ : ∃ V, W.alloc (.cells #[.int .i64 u0, .slice a0 x0.length c0] 24) = V := ⟨_, rfl⟩
  have hWV : Below W.heap.size W V := by rw [← hV]; exact (Below.refl _ _).alloc (Nat.le_refl _) _
  have k0 : V.cell? ⟨W.heap.size, 0, none⟩ = some (.int .i64 u0) := by rw [← hV]; simp [go_sem]
  have k1 : V.cell? ⟨W.heap.size, 1, none⟩ = some (.slice a0 x0.length c0) := by rw [← hV]; simp [go_sem]
  have hzV : V.heap.size = W.heap.size + 1 := by rw [← hV]; simp
  have HA := Lib.hid (alive_any V)
  have HFW := Lib.hid (fun U (hU : Below V.heap.size V U) => few_any U u0 a0 _ c0 y0 x0 ((s0.next hWV).next hU) w0)
  have CL := fun U (hU : Below V.heap.size V U) => clean_any U u0 a0 _ c0 y0 x0 ((s0.next hWV).next hU) w0
  have SU := fun U (hU : Below V.heap.size V U) => subsume_any U u0 a0 _ c0 y0 x0 ((s0.next hWV).next hU) w0
  have ST := fun U (hU : Below V.heap.size V U) => strengthen_any U u0 a0 _ c0 y0 x0 ((s0.next hWV).next hU) w0
  have HS0 := Lib.hid (s0.next hWV)
  have HWV := Lib.hid hWV
  have HZV := Lib.hid hzV
  unfold FormOut at CL SU
  unfold StrengthOut at ST
  have HW0 := Lib.hid w0
  clear s0 w0 hWV hzV
  cases hfew : few u0 x0
  · rw [hfew] at HFW
    clear CL SU ST hfew
    go_enter Try.func5, Try.ntmps5
    go_wp2_with fail
    refine HA.out.mono ?_; rintro e w1 ⟨rfl, hb1⟩
    have d0 := (hb1.cell (p := ⟨W.heap.size, 0, none⟩) (by show W.heap.size < _; rw [HZV.out]; omega)).trans k0
    have d1 := (hb1.cell (p := ⟨W.heap.size, 1, none⟩) (by show W.heap.size < _; rw [HZV.out]; omega)).trans k1
    have HB1 := Lib.hid hb1
    clear hb1 k0 k1
    go_wp2_with fail
    refine (HFW.out w1 HB1.out).mono ?_; rintro e w2 ⟨rfl, hb2⟩
    have HB2 := Lib.hid (HWV.out.trans ((HB1.out.trans (hb2.mono HB1.out.size)).mono HWV.out.size))
    clear hb2
    go_wp2_with fail
    go_ret
    exact ⟨rfl, HB2.out⟩
  · rw [hfew] at HFW
    have hf := hfew
    unfold few at hf
    simp only [Bool.and_eq_true, decide_eq_true_eq, beq_iff_eq] at hf
    obtain ⟨h8, h0⟩ := hf
    have hk := Formula.check_ok h0
    obtain ⟨v, rfl⟩ : ∃ v : Nat, u0 = (v : Int) := ⟨u0.toNat, by omega⟩
    have hv8 : v ≤ 8 := by omega
    have hin : InR v x0 := by have := inR_of h0; simpa using this
    simp only [if_pos h0] at CL SU ST
    have HCL := Lib.hid CL
    have HSU := Lib.hid SU
    have HSTR := Lib.hid ST
    have HWC : Hid (Formula.Wf2 (cleaned x0)) := wf_cleaned HW0.out
    have HWS : Hid (Formula.Wf2 (subsumed x0)) := wf_subsumed HW0.out
    have HWL : Hid (∀ L, Pre.Steps (subsumed x0) L → Formula.Wf2 L) := fun L h => wf_steps (wf_subsumed HW0.out) h
    have HMC := Lib.hid (models_cleaned HW0.out hin [])
    have HMS := Lib.hid (models_subsumed HW0.out hin [])
    have HML := Lib.hid (fun L (h : Pre.Steps (subsumed x0) L) => models_steps HW0.out hin h [])
    have HLE := Lib.hid (fun L (h : Pre.Steps (subsumed x0) L) => len_steps h)
    have HV8 := Lib.hid (show v ≤ 16 by omega)
    have HNW : Hid (Clause.Wf []) := by intro x hx; simp at hx
    clear CL SU ST h0 hk hin hfew h8 hv8
    go_enter Try.func5, Try.ntmps5
    go_wp2_with fail
    refine HA.out.mono ?_; rintro e w1 ⟨rfl, hb1⟩
    have d0 := (hb1.cell (p := ⟨W.heap.size, 0, none⟩) (by show W.heap.size < _; rw [HZV.out]; omega)).trans k0
    have d1 := (hb1.cell (p := ⟨W.heap.size, 1, none⟩) (by show W.heap.size < _; rw [HZV.out]; omega)).trans k1
    have hlt1 : W.heap.size < w1.heap.size := by have := hb1.size; rw [HZV.out] at this; omega
    have HB1 := Lib.hid hb1
    clear hb1 k0 k1
    go_wp2_with fail
    refine (HFW.out w1 HB1.out).mono ?_; rintro e w1b ⟨rfl, hb1b⟩
    have d0b := (hb1b.cell (p := ⟨W.heap.size, 0, none⟩) hlt1).trans d0
    have d1b := (hb1b.cell (p := ⟨W.heap.size, 1, none⟩) hlt1).trans d1
    have hlt1b : W.heap.size < w1b.heap.size := Nat.lt_of_lt_of_le hlt1 hb1b.size
    have HB1b := Lib.hid (HB1.out.trans (hb1b.mono HB1.out.size))
    clear hb1b d0 d1 hlt1
    go_wp2_with fail
    refine (HCL.out w1b HB1b.out).mono ?_
    rintro e w2 ⟨⟨a2, c2, v2, rfl, ho2⟩, hb2⟩
    obtain ⟨U2, hU2⟩ : ∃ U2, w2.alloc (.cells #[.int .i64 v, .slice a2 (cleaned x0).length c2] 24) = U2 := ⟨_, rfl⟩
    obtain ⟨hn2, p20, p21, hz2⟩ := box_new w2 v a2 _ c2 U2 hU2
    have hb12 : Below w1b.heap.size w1b U2 := hb2.trans (hn2.mono hb2.size)
    have e0 := (hb12.cell (p := ⟨W.heap.size, 0, none⟩) hlt1b).trans d0b
    have e1 := (hb12.cell (p := ⟨W.heap.size, 1, none⟩) hlt1b).trans d1b
    have hlt2 : W.heap.size < U2.heap.size := Nat.lt_of_lt_of_le hlt1b hb12.size
    have HB2 := Lib.hid (HB1b.out.trans (hb12.mono HB1b.out.size))
    have HS2 := Lib.hid (ho2.sl2'.next hn2)
    clear hb2 ho2 hn2 hb12 d0b d1b hlt1b
    go_wp2_with fail
    refine (HSU.out U2 HB2.out).mono ?_
    rintro e w3 ⟨⟨a3, c3, v3, rfl, ho3⟩, hb3⟩
    obtain ⟨U3, hU3⟩ : ∃ U3, w3.alloc (.cells #[.int .i64 v, .slice a3 (subsumed x0).length c3] 24) = U3 := ⟨_, rfl⟩
    obtain ⟨hn3, p30, p31, hz3⟩ := box_new w3 v a3 _ c3 U3 hU3
    have hb23 : Below U2.heap.size U2 U3 := hb3.trans (hn3.mono hb3.size)
    have f0 := (hb23.cell (p := ⟨W.heap.size, 0, none⟩) hlt2).trans e0
    have f1 := (hb23.cell (p := ⟨W.heap.size, 1, none⟩) hlt2).trans e1
    have hlt3 : W.heap.size < U3.heap.size := Nat.lt_of_lt_of_le hlt2 hb23.size
    have q20 := (hb23.cell (p := ⟨w2.heap.size, 0, none⟩) hz2).trans p20
    have q21 := (hb23.cell (p := ⟨w2.heap.size, 1, none⟩) hz2).trans p21
    have hz23 : w2.heap.size < U3.heap.size := Nat.lt_of_lt_of_le hz2 hb23.size
    have HB3 := Lib.hid (HB2.out.trans (hb23.mono HB2.out.size))
    have HS23 := Lib.hid (HS2.out.next hb23)
    have HS3 := Lib.hid (ho3.sl2'.next hn3)
    clear hb3 ho3 hn3 hb23 e0 e1 hlt2 p20 p21 hz2 hU2
    go_wp2_with fail
    refine (HSTR.out U3 HB3.out).mono ?_
    rintro e w4 ⟨⟨L, a4, c4, v4, hst, hno, rfl, hs4⟩, hb4⟩
    obtain ⟨U4, hU4⟩ : ∃ U4, w4.alloc (.cells #[.int .i64 v, .slice a4 L.length c4] 24) = U4 := ⟨_, rfl⟩
    obtain ⟨hn4, p40, p41, hz4⟩ := box_new w4 v a4 _ c4 U4 hU4
    have hb34 : Below U3.heap.size U3 U4 := hb4.trans (hn4.mono hb4.size)
    have r0 := (hb34.cell (p := ⟨W.heap.size, 0, none⟩) hlt3).trans f0
    have r1 := (hb34.cell (p := ⟨W.heap.size, 1, none⟩) hlt3).trans f1
    have r20 := (hb34.cell (p := ⟨w2.heap.size, 0, none⟩) hz23).trans q20
    have r21 := (hb34.cell (p := ⟨w2.heap.size, 1, none⟩) hz23).trans q21
    have hz24 : w2.heap.size < U4.heap.size := Nat.lt_of_lt_of_le hz23 hb34.size
    have r30 := (hb34.cell (p := ⟨w3.heap.size, 0, none⟩) hz3).trans p30
    have r31 := (hb34.cell (p := ⟨w3.heap.size, 1, none⟩) hz3).trans p31
    have hz34 : w3.heap.size < U4.heap.size := Nat.lt_of_lt_of_le hz3 hb34.size
    have HB4 := Lib.hid (HB3.out.trans (hb34.mono HB3.out.size))
    have HM0 := Lib.hid (Models.models_any U4 v HV8.out a0 _ c0 y0 x0 (HS0.out.next HB4.out) HW0.out none 0 0 [] (Sl.nil _) HNW.out)
    have HM2 := Lib.hid (fun U (hU : Below U4.heap.size U4 U) => Models.models_any U v HV8.out a2 _ c2 v2 (cleaned x0) (((HS23.out.next hb34)).next hU) HWC.out none 0 0 [] (Sl.nil _) HNW.out)
    have HM3 := Lib.hid (fun U (hU : Below U4.heap.size U4 U) => Models.models_any U v HV8.out a3 _ c3 v3 (subsumed x0) (((HS3.out.next hb34)).next hU) HWS.out none 0 0 [] (Sl.nil _) HNW.out)
    have HM4 := Lib.hid (fun U (hU : Below U4.heap.size U4 U) => Models.models_any U v HV8.out a4 _ c4 v4 L (((hs4.next hn4)).next hU) (HWL.out L hst) none 0 0 [] (Sl.nil _) HNW.out)
    have HEQ := Lib.hid (HML.out L hst)
    have hle := HLE.out L hst
    have HLN := Lib.hid hle
    rw [HMC.out] at HM2
    rw [HMS.out] at HM3
    rw [HEQ.out] at HM4
    have HZ := Lib.hid (And.intro hz24 (And.intro hz34 hz4))
    have HBW := Lib.hid (HWV.out.trans (HB4.out.mono HWV.out.size))
    clear hb4 hs4 hn4 hb34 q20 q21 hz23 hU3 f0 f1 hlt3 p30 p31 hz3 hst hno HMC HMS HML HEQ
    generalize ModelsP.models v x0 [] = ms at *
    generalize hml : ms.length = ml at *
    go_wp2_with fail
    refine HM0.out.mono ?_
    rintro e w5 ⟨a5, c5, rfl, hs5, hb5⟩
    rw [hml] at hs5 ⊢
    have s20 := (hb5.cell (p := ⟨w2.heap.size, 0, none⟩) hz24).trans r20
    have s21 := (hb5.cell (p := ⟨w2.heap.size, 1, none⟩) hz24).trans r21
    have s30 := (hb5.cell (p := ⟨w3.heap.size, 0, none⟩) hz34).trans r30
    have s31 := (hb5.cell (p := ⟨w3.heap.size, 1, none⟩) hz34).trans r31
    have s40 := (hb5.cell (p := ⟨w4.heap.size, 0, none⟩) hz4).trans p40
    have s41 := (hb5.cell (p := ⟨w4.heap.size, 1, none⟩) hz4).trans p41
    have HB5 := Lib.hid hb5
    have HS5 := Lib.hid hs5
    clear hb5 hs5 r0 r1 r20 r21 r30 r31 p40 p41 hz24 hz34 hz4 hU4
    go_wp2_with fail
    refine (HM2.out w5 HB5.out).mono ?_
    rintro e w6 ⟨a6, c6, rfl, hs6, hb6⟩
    rw [hml] at hs6 ⊢
    have g45 := HB5.out.size
    have t21 := (hb6.cell (p := ⟨w2.heap.size, 1, none⟩) (Nat.lt_of_lt_of_le HZ.out.1 g45)).trans s21
    have t30 := (hb6.cell (p := ⟨w3.heap.size, 0, none⟩) (Nat.lt_of_lt_of_le HZ.out.2.1 g45)).trans s30
    have t31 := (hb6.cell (p := ⟨w3.heap.size, 1, none⟩) (Nat.lt_of_lt_of_le HZ.out.2.1 g45)).trans s31
    have t40 := (hb6.cell (p := ⟨w4.heap.size, 0, none⟩) (Nat.lt_of_lt_of_le HZ.out.2.2 g45)).trans s40
    have t41 := (hb6.cell (p := ⟨w4.heap.size, 1, none⟩) (Nat.lt_of_lt_of_le HZ.out.2.2 g45)).trans s41
    have HB6 := Lib.hid (HB5.out.trans (hb6.mono g45))
    have HS56 := Lib.hid (HS5.out.next hb6)
    have T6 := Lib.hid (Plain.texts_same w6 a6 a5 ml c6 c5 ms hs6 HS56.out)
    clear hb6 hs6 s20 s21 s30 s31 s40 s41 g45
    go_wp2_with fail
    refine T6.out.mono ?_
    rintro e w7 ⟨rfl, hb7⟩
    have g46 := HB6.out.size
    have u30 := (hb7.cell (p := ⟨w3.heap.size, 0, none⟩) (Nat.lt_of_lt_of_le HZ.out.2.1 g46)).trans t30
    have u31 := (hb7.cell (p := ⟨w3.heap.size, 1, none⟩) (Nat.lt_of_lt_of_le HZ.out.2.1 g46)).trans t31
    have u40 := (hb7.cell (p := ⟨w4.heap.size, 0, none⟩) (Nat.lt_of_lt_of_le HZ.out.2.2 g46)).trans t40
    have u41 := (hb7.cell (p := ⟨w4.heap.size, 1, none⟩) (Nat.lt_of_lt_of_le HZ.out.2.2 g46)).trans t41
    have HB7 := Lib.hid (HB6.out.trans (hb7.mono g46))
    have HS57 := Lib.hid (HS56.out.next hb7)
    clear hb7 t21 t30 t31 t40 t41 g46
    go_wp2_with fail
    refine (HM3.out w7 HB7.out).mono ?_
    rintro e w8 ⟨a8, c8, rfl, hs8, hb8⟩
    rw [hml] at hs8 ⊢
    have g47 := HB7.out.size
    have x31 := (hb8.cell (p := ⟨w3.heap.size, 1, none⟩) (Nat.lt_of_lt_of_le HZ.out.2.1 g47)).trans u31
    have x40 := (hb8.cell (p := ⟨w4.heap.size, 0, none⟩) (Nat.lt_of_lt_of_le HZ.out.2.2 g47)).trans u40
    have x41 := (hb8.cell (p := ⟨w4.heap.size, 1, none⟩) (Nat.lt_of_lt_of_le HZ.out.2.2 g47)).trans u41
    have HB8 := Lib.hid (HB7.out.trans (hb8.mono g47))
    have HS58 := Lib.hid (HS57.out.next hb8)
    have T8 := Lib.hid (Plain.texts_same w8 a8 a5 ml c8 c5 ms hs8 HS58.out)
    clear hb8 hs8 u30 u31 u40 u41 g47
    go_wp2_with fail
    refine T8.out.mono ?_
    rintro e w9 ⟨rfl, hb9⟩
    have g48 := HB8.out.size
    have y31 := (hb9.cell (p := ⟨w3.heap.size, 1, none⟩) (Nat.lt_of_lt_of_le HZ.out.2.1 g48)).trans x31
    have y40 := (hb9.cell (p := ⟨w4.heap.size, 0, none⟩) (Nat.lt_of_lt_of_le HZ.out.2.2 g48)).trans x40
    have y41 := (hb9.cell (p := ⟨w4.heap.size, 1, none⟩) (Nat.lt_of_lt_of_le HZ.out.2.2 g48)).trans x41
    have HB9 := Lib.hid (HB8.out.trans (hb9.mono g48))
    have HS59 := Lib.hid (HS58.out.next hb9)
    clear hb9 x31 x40 x41 g48
    go_wp2_with fail
    refine (HM4.out w9 HB9.out).mono ?_
    rintro e w10 ⟨a10, c10, rfl, hs10, hb10⟩
    rw [hml] at hs10 ⊢
    have g49 := HB9.out.size
    have z31 := (hb10.cell (p := ⟨w3.heap.size, 1, none⟩) (Nat.lt_of_lt_of_le HZ.out.2.1 g49)).trans y31
    have z41 := (hb10.cell (p := ⟨w4.heap.size, 1, none⟩) (Nat.lt_of_lt_of_le HZ.out.2.2 g49)).trans y41
    have HB10 := Lib.hid (HB9.out.trans (hb10.mono g49))
    have HS510 := Lib.hid (HS59.out.next hb10)
    have T10 := Lib.hid (Plain.texts_same w10 a10 a5 ml c10 c5 ms hs10 HS510.out)
    clear hb10 hs10 y31 y40 y41 g49
    go_wp2_with fail
    refine T10.out.mono ?_
    rintro e w11 ⟨rfl, hb11⟩
    have g410 := HB10.out.size
    have zz31 := (hb11.cell (p := ⟨w3.heap.size, 1, none⟩) (Nat.lt_of_lt_of_le HZ.out.2.1 g410)).trans z31
    have zz41 := (hb11.cell (p := ⟨w4.heap.size, 1, none⟩) (Nat.lt_of_lt_of_le HZ.out.2.2 g410)).trans z41
    have HB11 := Lib.hid (HBW.out.trans ((HB10.out.trans (hb11.mono g410)).mono HBW.out.size))
    have hle2 : (L.length : Int) ≤ ((subsumed x0).length : Int) := by omega
    have hd : decide ((L.length : Int) ≤ ((subsumed x0).length : Int)) = true := decide_eq_true hle2
    clear hb11 z31 z41 g410 hle
    go_wp2_with fail
    go_ret
    exact ⟨ret_bool (by first | rfl | exact hd | simpa using hle2), HB11.out⟩
end Go.Proofs.Ythhkngpbaflfiaa.preprocSame
