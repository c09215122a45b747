/-
  interlocklaw38.PreprocAgain: the walk: cleaned, subsumed and strengthened again a formula stays.
-/
import Derived.Test.YthhkngpbaflfiaaPreAlive
import Derived.Test.YthhkngpbaflfiaaStrong
import Derived.Test.YthhkngpbaflfiaaPlainLists
namespace Go.Proofs.Ythhkngpbaflfiaa.preprocAgain
open Go.RowKit Base
set_option linter.unusedVariables false
set_option linter.unusedSimpArgs false
open Pre

theorem inR_of {vars : Int} {cls : List (List Int)} (h : Formula.check vars cls = 0) : InR vars.toNat cls := by
  have hk := Formula.check_ok h
  intro l hl x hx
  have := (hk.2.2.2 l hl).2 x hx
  omega

theorem check_of {vars : Int} {cls : List (List Int)} (h0 : 0 ≤ vars) (h1 : vars ≤ 262144) (h2 : cls.length ≤ 1048576) (h3 : ∀ l ∈ cls, l.length ≤ 1024) (h4 : InR vars.toNat cls) : Formula.check vars cls = 0 := by
  unfold Formula.check
  rw [if_neg]
  unfold Formula.bad
  simp only [Bool.or_eq_true, decide_eq_true_eq, not_or, List.any_eq_true, not_exists, not_and]
  refine ⟨⟨⟨by omega, by omega⟩, by omega⟩, fun l hl => ?_⟩
  have hc : Clause.check vars l = 0 := by
    unfold Clause.check
    rw [if_neg (by have := h3 l hl; omega), if_neg]
    rw [List.any_eq_true]
    rintro ⟨x, hx, hb⟩
    have := h4 l hl x hx
    unfold Clause.badL at hb
    simp at hb
    omega
  simp [hc]

theorem check_cleaned {vars : Int} {cls : List (List Int)} (h : Formula.check vars cls = 0) : Formula.check vars (cleaned cls) = 0 := by
  have hk := Formula.check_ok h
  refine check_of hk.1 hk.2.1 (Nat.le_trans (len_cleaned cls) hk.2.2.1) (fun l hl => ?_) (inR_cleaned (inR_of h))
  obtain ⟨y, hy, rfl, _⟩ := mem_cleaned.1 hl
  exact Nat.le_trans (Clause.norm_len y) (hk.2.2.2 y hy).1

theorem check_subsumed {vars : Int} {cls : List (List Int)} (h : Formula.check vars cls = 0) : Formula.check vars (subsumed cls) = 0 := by
  have hk := Formula.check_ok h
  refine check_of hk.1 hk.2.1 (Nat.le_trans (subsumed_len cls) hk.2.2.1) (fun l hl => ?_) (inR_subsumed (inR_of h))
  obtain ⟨y, hy, rfl, _⟩ := mem_cleaned.1 (mem_of_sub hl)
  exact Nat.le_trans (Clause.norm_len y) (hk.2.2.2 y hy).1

theorem lens_stronger {b : Nat} {L L' : List (List Int)} (h : ∀ l ∈ L, l.length ≤ b) (hs : stronger L = some L') : ∀ l ∈ L', l.length ≤ b := by
  unfold stronger at hs
  rw [Option.map_eq_some_iff] at hs
  obtain ⟨i, hi, rfl⟩ := hs
  intro l hl
  obtain ⟨y, hy, rfl, _⟩ := mem_cleaned.1 (mem_of_sub hl)
  refine Nat.le_trans (Clause.norm_len y) ?_
  rcases List.mem_or_eq_of_mem_set hy with hy | rfl
  · exact h y hy
  · refine Nat.le_trans (List.length_filter_le _ _) ?_
    have hf := first_spec hi
    rw [getD_at hf.1]
    exact h _ (List.getElem_mem hf.1)

theorem check_steps {vars : Int} {cls L : List (List Int)} (h : Formula.check vars cls = 0) (hw : Formula.Wf2 cls) (hs : Pre.Steps (subsumed cls) L) : Formula.check vars L = 0 ∧ Neat vars.toNat L := by
  have hk := Formula.check_ok h
  have hn := neat_steps (neat_subsumed hw (inR_of h)) hs
  refine ⟨check_of hk.1 hk.2.1 (Nat.le_trans (len_steps hs) (Nat.le_trans (subsumed_len cls) hk.2.2.1)) ?_ hn.inR, hn⟩
  have h0 : ∀ l ∈ subsumed cls, l.length ≤ 1024 := by
    intro l hl
    obtain ⟨y, hy, rfl, _⟩ := mem_cleaned.1 (mem_of_sub hl)
    exact Nat.le_trans (Clause.norm_len y) (hk.2.2.2 y hy).1
  clear hn
  induction hs with
  | refl => exact h0
  | tail h1 h2 ih => exact lens_stronger ih h2

/-- Strengthened again: it stays. -/
theorem again {n : Nat} {L L' : List (List Int)} (hn : Neat n L) (hs : stronger L = none) (h : Pre.Steps (subsumed L) L') : L' = L := by
  have e : subsumed L = L := by
    unfold subsumed
    rw [cleaned_clean hn.clean, sub_apart hn.apart]
  rw [e] at h
  exact steps_stuck h hs

/-- A formula's box, just laid. -/
theorem box_new (w : World) (u : Int) (a : Option Addr) (m c : Nat) (W : World) (hW : w.alloc (.cells #[.int .i64 u, .slice a m c] 24) = W) :
    Below w.heap.size w W ∧ W.cell? ⟨w.heap.size, 0, none⟩ = some (.int .i64 u) ∧ W.cell? ⟨w.heap.size, 1, none⟩ = some (.slice a m c) ∧ w.heap.size < W.heap.size := by
  subst hW
  exact ⟨(Below.refl _ _).alloc (Nat.le_refl _) _, by simp [go_sem], by simp [go_sem], by simp⟩

/-- A zero formula stored where a zero formula is. -/
theorem box_zero (w : World) (W : World) (hW : w.alloc (.cells #[.int .i64 0, .slice none 0 0] 24) = W) :
    W.frozen? ⟨w.heap.size, 0, none⟩ = false ∧ W.frozen? ⟨w.heap.size, 1, none⟩ = false ∧ W.setCell ⟨w.heap.size, 0, none⟩ (.int .i64 0) = W ∧ W.setCell ⟨w.heap.size, 1, none⟩ (.slice none 0 0) = W := by
  obtain ⟨_, h0, h1, _⟩ := box_new w 0 none 0 0 W hW
  refine ⟨by rw [← hW]; simp [go_sem], by rw [← hW]; simp [go_sem], setCell_same _ _ _ h0, setCell_same _ _ _ h1⟩

set_option maxRecDepth 4000 in
set_option maxHeartbeats 8000000 in
theorem walk (u0 : Int) (l0 : -9223372036854775808 ≤ u0) (g0 : u0 ≤ 9223372036854775807) (a0 : Option Addr) (c0 : Nat) (x0 : List (List Int)) (y0 : List Value) {w : World} (s0 : Sl2 w a0 x0.length c0 y0 x0) (w0 : Formula.Wf2 x0) (W : World) (hW : W = w) :
    Calls Try.prog 6 #[.agg #[.int .i64 u0, .slice a0 x0.length c0]] W fun e w' => e = .returned (.bool true) ∧ Below W.heap.size W w' := by
  subst hW
  obtain ⟨V, hV⟩ : ∃ V, W.alloc (.cells #[.int .i64 u0, .slice a0 x0.length c0] 24) = V := ⟨_, rfl⟩
  have hWV : Below W.heap.size W V := by rw [← hV]; exact (Below.refl _ _).alloc (Nat.le_refl _) _
  have k0 : V.cell? ⟨W.heap.size, 0, none⟩ = some (.int .i64 u0) := by rw [← hV]; simp [go_sem]
  have k1 : V.cell? ⟨W.heap.size, 1, none⟩ = some (.slice a0 x0.length c0) := by rw [← hV]; simp [go_sem]
  have hzV : V.heap.size = W.heap.size + 1 := by rw [← hV]; simp
  have HA := Lib.hid (alive_any V)
  have CL := fun U (hU : Below V.heap.size V U) => clean_any U u0 a0 _ c0 y0 x0 ((s0.next hWV).next hU) w0
  have SU := fun U (hU : Below V.heap.size V U) => subsume_any U u0 a0 _ c0 y0 x0 ((s0.next hWV).next hU) w0
  have ST := fun U (hU : Below V.heap.size V U) => strengthen_any U u0 a0 _ c0 y0 x0 ((s0.next hWV).next hU) w0
  have HWV := Lib.hid hWV
  have HZV := Lib.hid hzV
  unfold FormOut at CL SU
  unfold StrengthOut at ST
  have H9 := Lib.hid (Formula.check_or u0 x0)
  have HW0 := Lib.hid w0
  clear s0 w0 hWV hzV
  rcases H9.out with h0 | h9
  · have HCC := Lib.hid (check_cleaned h0)
    have HCS := Lib.hid (check_subsumed h0)
    have HST := Lib.hid (fun L h => check_steps (L := L) h0 HW0.out h)
    simp only [if_pos h0] at CL SU ST
    have HCL := Lib.hid CL
    have HSU := Lib.hid SU
    have HSTR := Lib.hid ST
    have HWC : Hid (Formula.Wf2 (cleaned x0)) := wf_cleaned HW0.out
    have HWS : Hid (Formula.Wf2 (subsumed x0)) := wf_subsumed HW0.out
    clear CL SU ST h0
    go_enter Try.func6, Try.ntmps6
    go_wp2_with fail
    refine HA.out.mono ?_; rintro e w1 ⟨rfl, hb1⟩
    have d0 := (hb1.cell (p := ⟨W.heap.size, 0, none⟩) (by show W.heap.size < _; rw [HZV.out]; omega)).trans k0
    have d1 := (hb1.cell (p := ⟨W.heap.size, 1, none⟩) (by show W.heap.size < _; rw [HZV.out]; omega)).trans k1
    have hlt1 : W.heap.size < w1.heap.size := by have := hb1.size; rw [HZV.out] at this; omega
    have HB1 := Lib.hid hb1
    clear hb1 k0 k1
    go_wp2_with fail
    refine (HCL.out w1 HB1.out).mono ?_
    rintro e w2 ⟨⟨a2, c2, v2, rfl, ho2⟩, hb2⟩
    obtain ⟨U2, hU2⟩ : ∃ U2, w2.alloc (.cells #[.int .i64 u0, .slice a2 (cleaned x0).length c2] 24) = U2 := ⟨_, rfl⟩
    obtain ⟨hn2, p20, p21, hz2⟩ := box_new w2 u0 a2 _ c2 U2 hU2
    have hb12 : Below w1.heap.size w1 U2 := hb2.trans (hn2.mono hb2.size)
    have e0 := (hb12.cell (p := ⟨W.heap.size, 0, none⟩) hlt1).trans d0
    have e1 := (hb12.cell (p := ⟨W.heap.size, 1, none⟩) hlt1).trans d1
    have hlt2 : W.heap.size < U2.heap.size := Nat.lt_of_lt_of_le hlt1 hb12.size
    have HB2 := Lib.hid (HB1.out.trans (hb12.mono HB1.out.size))
    have HS2 := Lib.hid (ho2.sl2'.next hn2)
    clear hb2 ho2 hn2 hb12 d0 d1 hlt1
    go_wp2_with fail
    refine (HSU.out U2 HB2.out).mono ?_
    rintro e w3 ⟨⟨a3, c3, v3, rfl, ho3⟩, hb3⟩
    obtain ⟨U3, hU3⟩ : ∃ U3, w3.alloc (.cells #[.int .i64 u0, .slice a3 (subsumed x0).length c3] 24) = U3 := ⟨_, rfl⟩
    obtain ⟨hn3, p30, p31, hz3⟩ := box_new w3 u0 a3 _ c3 U3 hU3
    have hb23 : Below U2.heap.size U2 U3 := hb3.trans (hn3.mono hb3.size)
    have f0 := (hb23.cell (p := ⟨W.heap.size, 0, none⟩) hlt2).trans e0
    have f1 := (hb23.cell (p := ⟨W.heap.size, 1, none⟩) hlt2).trans e1
    have hlt3 : W.heap.size < U3.heap.size := Nat.lt_of_lt_of_le hlt2 hb23.size
    have q20 := (hb23.cell (p := ⟨w2.heap.size, 0, none⟩) hz2).trans p20
    have q21 := (hb23.cell (p := ⟨w2.heap.size, 1, none⟩) hz2).trans p21
    have hz23 : w2.heap.size < U3.heap.size := Nat.lt_of_lt_of_le hz2 hb23.size
    have HB3 := Lib.hid (HB2.out.trans (hb23.mono HB2.out.size))
    have HS23 := Lib.hid (HS2.out.next hb23)
    have HS3 := Lib.hid (ho3.sl2'.next hn3)
    clear hb3 ho3 hn3 hb23 e0 e1 hlt2 p20 p21 hz2 hU2
    go_wp2_with fail
    refine (HSTR.out U3 HB3.out).mono ?_
    rintro e w4 ⟨⟨L, a4, c4, v4, hst, hno, rfl, hs4⟩, hb4⟩
    obtain ⟨U4, hU4⟩ : ∃ U4, w4.alloc (.cells #[.int .i64 u0, .slice a4 L.length c4] 24) = U4 := ⟨_, rfl⟩
    obtain ⟨hn4, p40, p41, hz4⟩ := box_new w4 u0 a4 _ c4 U4 hU4
    have hb34 : Below U3.heap.size U3 U4 := hb4.trans (hn4.mono hb4.size)
    have r20 := (hb34.cell (p := ⟨w2.heap.size, 0, none⟩) hz23).trans q20
    have r21 := (hb34.cell (p := ⟨w2.heap.size, 1, none⟩) hz23).trans q21
    have hz24 : w2.heap.size < U4.heap.size := Nat.lt_of_lt_of_le hz23 hb34.size
    have r30 := (hb34.cell (p := ⟨w3.heap.size, 0, none⟩) hz3).trans p30
    have r31 := (hb34.cell (p := ⟨w3.heap.size, 1, none⟩) hz3).trans p31
    have hz34 : w3.heap.size < U4.heap.size := Nat.lt_of_lt_of_le hz3 hb34.size
    have HB4 := Lib.hid (HB3.out.trans (hb34.mono HB3.out.size))
    have HS24 := Lib.hid (HS23.out.next hb34)
    have HS34 := Lib.hid (HS3.out.next hb34)
    have HS4 := Lib.hid (hs4.next hn4)
    have HLK := Lib.hid (HST.out L hst)
    have HAG := Lib.hid (fun L' => again (L' := L') HLK.out.2 hno)
    have HC4 := Lib.hid (fun U (hU : Below U4.heap.size U4 U) => clean_any U u0 a2 _ c2 v2 (cleaned x0) (HS24.out.next hU) HWC.out)
    have HS4' := Lib.hid (fun U (hU : Below U4.heap.size U4 U) => subsume_any U u0 a3 _ c3 v3 (subsumed x0) (HS34.out.next hU) HWS.out)
    have HT4 := Lib.hid (fun U (hU : Below U4.heap.size U4 U) => strengthen_any U u0 a4 _ c4 v4 L (HS4.out.next hU) HLK.out.2.wf)
    have C4 := HC4.out
    have S4 := HS4'.out
    have T4 := HT4.out
    unfold FormOut at C4 S4
    unfold StrengthOut at T4
    simp only [if_pos HCC.out, cleaned_cleaned] at C4
    simp only [if_pos HCS.out, subsumed_subsumed] at S4
    simp only [if_pos HLK.out.1] at T4
    have GC := Lib.hid C4
    have GS := Lib.hid S4
    have GT := Lib.hid T4
    clear hb4 hs4 hn4 hb34 q20 q21 hz23 hU3 f0 f1 hlt3 p30 p31 hz3 HC4 HS4' HT4 C4 S4 T4 hst hno
    generalize cleaned x0 = LC at *
    generalize subsumed x0 = LS at *
    go_wp2_with fail
    refine (GC.out U4 (Below.refl _ _)).mono ?_
    rintro e w5 ⟨⟨a5, c5, v5, rfl, ho5⟩, hb5⟩
    obtain ⟨U5, hU5⟩ : ∃ U5, w5.alloc (.cells #[.int .i64 u0, .slice a5 LC.length c5] 24) = U5 := ⟨_, rfl⟩
    obtain ⟨hn5, p50, p51, hz5⟩ := box_new w5 u0 a5 _ c5 U5 hU5
    have hb45 : Below U4.heap.size U4 U5 := hb5.trans (hn5.mono hb5.size)
    have s21 := (hb45.cell (p := ⟨w2.heap.size, 1, none⟩) hz24).trans r21
    have s30 := (hb45.cell (p := ⟨w3.heap.size, 0, none⟩) hz34).trans r30
    have s31 := (hb45.cell (p := ⟨w3.heap.size, 1, none⟩) hz34).trans r31
    have s40 := (hb45.cell (p := ⟨w4.heap.size, 0, none⟩) hz4).trans p40
    have s41 := (hb45.cell (p := ⟨w4.heap.size, 1, none⟩) hz4).trans p41
    have HZ := Lib.hid (And.intro hz24 (And.intro hz34 hz4))
    have HB45 := Lib.hid hb45
    have HS5 := Lib.hid (ho5.sl2'.next hn5)
    clear hb5 ho5 hn5 hb45 r20 r21 r30 r31 p40 p41 hz24 hz34 hz4 hU4
    go_wp2_with fail
    refine (GS.out U5 HB45.out).mono ?_
    rintro e w6 ⟨⟨a6, c6, v6, rfl, ho6⟩, hb6⟩
    obtain ⟨U6, hU6⟩ : ∃ U6, w6.alloc (.cells #[.int .i64 u0, .slice a6 LS.length c6] 24) = U6 := ⟨_, rfl⟩
    obtain ⟨hn6, p60, p61, hz6⟩ := box_new w6 u0 a6 _ c6 U6 hU6
    have hb56 : Below U5.heap.size U5 U6 := hb6.trans (hn6.mono hb6.size)
    have g45 := HB45.out.size
    have t21 := (hb56.cell (p := ⟨w2.heap.size, 1, none⟩) (Nat.lt_of_lt_of_le HZ.out.1 g45)).trans s21
    have t31 := (hb56.cell (p := ⟨w3.heap.size, 1, none⟩) (Nat.lt_of_lt_of_le HZ.out.2.1 g45)).trans s31
    have t40 := (hb56.cell (p := ⟨w4.heap.size, 0, none⟩) (Nat.lt_of_lt_of_le HZ.out.2.2 g45)).trans s40
    have t41 := (hb56.cell (p := ⟨w4.heap.size, 1, none⟩) (Nat.lt_of_lt_of_le HZ.out.2.2 g45)).trans s41
    have t51 := (hb56.cell (p := ⟨w5.heap.size, 1, none⟩) hz5).trans p51
    have HB46 := Lib.hid (HB45.out.trans (hb56.mono g45))
    have HZ5 := Lib.hid (Nat.lt_of_lt_of_le hz5 hb56.size)
    have HS56 := Lib.hid (HS5.out.next hb56)
    have HS6 := Lib.hid (ho6.sl2'.next hn6)
    clear hb6 ho6 hn6 hb56 s21 s30 s31 s40 s41 p50 p51 hz5 hU5 g45
    go_wp2_with fail
    refine (GT.out U6 HB46.out).mono ?_
    rintro e w7 ⟨⟨L7, a7, c7, v7, hst7, hno7, rfl, hs7⟩, hb7⟩
    have hL7 : L7 = L := HAG.out L7 hst7
    subst hL7
    obtain ⟨U7, hU7⟩ : ∃ U7, w7.alloc (.cells #[.int .i64 u0, .slice a7 L7.length c7] 24) = U7 := ⟨_, rfl⟩
    obtain ⟨hn7, p70, p71, hz7⟩ := box_new w7 u0 a7 _ c7 U7 hU7
    have hb67 : Below U6.heap.size U6 U7 := hb7.trans (hn7.mono hb7.size)
    have g46 := HB46.out.size
    have x21 := (hb67.cell (p := ⟨w2.heap.size, 1, none⟩) (Nat.lt_of_lt_of_le HZ.out.1 g46)).trans t21
    have x31 := (hb67.cell (p := ⟨w3.heap.size, 1, none⟩) (Nat.lt_of_lt_of_le HZ.out.2.1 g46)).trans t31
    have x41 := (hb67.cell (p := ⟨w4.heap.size, 1, none⟩) (Nat.lt_of_lt_of_le HZ.out.2.2 g46)).trans t41
    have x51 := (hb67.cell (p := ⟨w5.heap.size, 1, none⟩) HZ5.out).trans t51
    have x61 := (hb67.cell (p := ⟨w6.heap.size, 1, none⟩) hz6).trans p61
    have HB47 := Lib.hid (HB46.out.trans (hb67.mono g46))
    have HBW := Lib.hid (HWV.out.trans ((HB4.out.trans (HB47.out.mono HB4.out.size)).mono HWV.out.size))
    have HQ2 := Lib.hid (HS24.out.next HB47.out)
    have HQ3 := Lib.hid (HS34.out.next HB47.out)
    have HQ4 := Lib.hid (HS4.out.next HB47.out)
    have HQ5 := Lib.hid (HS56.out.next hb67)
    have HQ6 := Lib.hid (HS6.out.next hb67)
    have HQ7 := Lib.hid (hs7.next hn7)
    have L1 := fun n => Plain.lists_any (U7.drewN n) a2 a5 _ _ c2 c5 v2 v5 LC LC (HQ2.out.next (below_drewN (Below.refl _ _) n)) (HQ5.out.next (below_drewN (Below.refl _ _) n))
    have L2 := fun n => Plain.lists_any (U7.drewN n) a3 a6 _ _ c3 c6 v3 v6 LS LS (HQ3.out.next (below_drewN (Below.refl _ _) n)) (HQ6.out.next (below_drewN (Below.refl _ _) n))
    have L3 := fun n => Plain.lists_any (U7.drewN n) a4 a7 _ _ c4 c7 v4 v7 L7 L7 (HQ4.out.next (below_drewN (Below.refl _ _) n)) (HQ7.out.next (below_drewN (Below.refl _ _) n))
    simp only [decide_true] at L1 L2 L3
    have HL1 := Lib.hid (L1 0)
    have HL2 := Lib.hid L2
    have HL3 := Lib.hid L3
    clear hb7 hs7 hn7 hb67 t21 t31 t40 t41 t51 p60 p61 hz6 hU6 g46 L1 L2 L3 p70 hz7 hst7 hno7
    go_wp2_with fail
    refine HL1.out.mono ?_
    rintro e w8 ⟨rfl, n8, rfl⟩
    go_wp2_with fail
    refine (HL2.out n8).mono ?_
    rintro e w9 ⟨rfl, n9, rfl⟩
    rw [World.drewN_drewN]
    go_wp2_with fail
    refine (HL3.out _).mono ?_
    rintro e w10 ⟨rfl, n10, rfl⟩
    rw [World.drewN_drewN]
    go_wp2_with fail
    go_ret
    exact ⟨rfl, below_drewN HBW.out _⟩
  · have hne : ¬ Formula.check u0 x0 = 0 := by rw [h9]; decide
    simp only [if_neg hne] at CL SU ST
    have HCL := Lib.hid CL
    have HSU := Lib.hid SU
    have HSTR := Lib.hid ST
    clear CL SU ST h9 hne
    go_enter Try.func6, Try.ntmps6
    go_wp2_with fail
    refine HA.out.mono ?_; rintro e w1 ⟨rfl, hb1⟩
    have d0 := (hb1.cell (p := ⟨W.heap.size, 0, none⟩) (by show W.heap.size < _; rw [HZV.out]; omega)).trans k0
    have d1 := (hb1.cell (p := ⟨W.heap.size, 1, none⟩) (by show W.heap.size < _; rw [HZV.out]; omega)).trans k1
    have hlt1 : W.heap.size < w1.heap.size := by have := hb1.size; rw [HZV.out] at this; omega
    have HB1 := Lib.hid hb1
    clear hb1 k0 k1
    go_wp2_with fail
    refine (HCL.out w1 HB1.out).mono ?_
    rintro e w2 ⟨rfl, hb2⟩
    obtain ⟨U2, hU2⟩ : ∃ U2, w2.alloc (.cells #[.int .i64 0, .slice none 0 0] 24) = U2 := ⟨_, rfl⟩
    obtain ⟨hn2, p20, p21, hz2⟩ := box_new w2 0 none 0 0 U2 hU2
    obtain ⟨y20, y21, y22, y23⟩ := box_zero w2 U2 hU2
    have hb12 : Below w1.heap.size w1 U2 := hb2.trans (hn2.mono hb2.size)
    have e0 := (hb12.cell (p := ⟨W.heap.size, 0, none⟩) hlt1).trans d0
    have e1 := (hb12.cell (p := ⟨W.heap.size, 1, none⟩) hlt1).trans d1
    have hlt2 : W.heap.size < U2.heap.size := Nat.lt_of_lt_of_le hlt1 hb12.size
    have HB2 := Lib.hid (HB1.out.trans (hb12.mono HB1.out.size))
    clear hb2 hn2 hb12 d0 d1 hlt1
    go_wp2_with fail
    refine (HSU.out U2 HB2.out).mono ?_
    rintro e w3 ⟨rfl, hb3⟩
    obtain ⟨U3, hU3⟩ : ∃ U3, w3.alloc (.cells #[.int .i64 0, .slice none 0 0] 24) = U3 := ⟨_, rfl⟩
    obtain ⟨hn3, p30, p31, hz3⟩ := box_new w3 0 none 0 0 U3 hU3
    obtain ⟨y30, y31, y32, y33⟩ := box_zero w3 U3 hU3
    have hb23 : Below U2.heap.size U2 U3 := hb3.trans (hn3.mono hb3.size)
    have f0 := (hb23.cell (p := ⟨W.heap.size, 0, none⟩) hlt2).trans e0
    have f1 := (hb23.cell (p := ⟨W.heap.size, 1, none⟩) hlt2).trans e1
    have q21 := (hb23.cell (p := ⟨w2.heap.size, 1, none⟩) hz2).trans p21
    have hz23 : w2.heap.size < U3.heap.size := Nat.lt_of_lt_of_le hz2 hb23.size
    have HB3 := Lib.hid (HB2.out.trans (hb23.mono HB2.out.size))
    clear hb3 hn3 hb23 e0 e1 hlt2 p20 p21 hz2 hU2 y20 y21 y22 y23
    go_wp2_with fail
    refine (HSTR.out U3 HB3.out).mono ?_
    rintro e w4 ⟨rfl, hb4⟩
    obtain ⟨U4, hU4⟩ : ∃ U4, w4.alloc (.cells #[.int .i64 0, .slice none 0 0] 24) = U4 := ⟨_, rfl⟩
    obtain ⟨hn4, p40, p41, hz4⟩ := box_new w4 0 none 0 0 U4 hU4
    obtain ⟨y40, y41, y42, y43⟩ := box_zero w4 U4 hU4
    have hb34 : Below U3.heap.size U3 U4 := hb4.trans (hn4.mono hb4.size)
    have r21 := (hb34.cell (p := ⟨w2.heap.size, 1, none⟩) hz23).trans q21
    have r31 := (hb34.cell (p := ⟨w3.heap.size, 1, none⟩) hz3).trans p31
    have HB4 := Lib.hid (HB3.out.trans (hb34.mono HB3.out.size))
    have HBW := Lib.hid (HWV.out.trans (HB4.out.mono HWV.out.size))
    clear hb4 hn4 hb34 q21 hz23 hU3 f0 f1 p30 p31 hz3 y30 y31 y32 y33
    go_wp2_with fail
    go_ret
    exact ⟨ret_bool (by simp), HBW.out⟩
end Go.Proofs.Ythhkngpbaflfiaa.preprocAgain
