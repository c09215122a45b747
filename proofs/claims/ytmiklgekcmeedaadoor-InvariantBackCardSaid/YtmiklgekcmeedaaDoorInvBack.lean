/-
  interlocklaw26.InvariantBack: the walk (written by invback.py).
-/
import Derived.Test.YtmiklgekcmeedaaDoorInvX
import Derived.Test.YtmiklgekcmeedaaDoorPlainLists
import Derived.Test.YtmiklgekcmeedaaDoorHeldAll
namespace Go.Proofs.YtmiklgekcmeedaaDoor.invariantBack
open Go.RowKit Base Dig Spl Go.Proofs.YtmiklgekcmeedaaDoor.Inv
set_option linter.unusedVariables false
set_option linter.unusedSimpArgs false

theorem print_zero {l : List (List Int)} {s : ByteArray} (h : printS l = (s, 0)) : l.length ≤ 1024 ∧ (∀ x ∈ l, fitsB x = true) ∧ s = str (textP l) := by
  unfold printS at h
  by_cases h1 : 1024 < l.length
  · rw [if_pos h1] at h; injection h with _ h; cases h
  · rw [if_neg h1] at h
    by_cases h2 : allFit l = true
    · rw [if_pos h2] at h
      injection h with h _
      refine ⟨by omega, fun x hx => ?_, h.symm⟩
      unfold allFit at h2
      rw [Bool.not_eq_true', List.any_eq_false] at h2
      have := h2 (!fitsB x) (List.mem_map.2 ⟨x, hx, rfl⟩)
      simpa using this
    · rw [if_neg h2] at h; injection h with _ h; cases h
theorem str_of (s : ByteArray) : str s.data.toList = s := by cases s; rfl

set_option maxRecDepth 8000 in
set_option maxHeartbeats 16000000 in
theorem walk {w : World} (a : Option Addr) (c : Nat) (l : List (List Int)) (vals : List Value) (hs : Sl2 w a l.length c vals l) (hw : ∀ x ∈ l, Clause.Wf x) (z : l.length * 24 ≤ 140737488351232 ∧ ∀ x ∈ l, x.length * 8 ≤ 140737488351232) (s : ByteArray) (hsz : s.size ≤ 9223372036854775807)
    (m : Int) (hm : w.cell? ⟨0, 0, none⟩ = some (.int .i64 m)) (W : World) (hW : W = w) :
    Calls Tryd.prog 3 #[.slice a l.length c, .string s] W fun e W' => e = .returned (.bool true) ∧ Below W.heap.size W W' := by
  subst hW
  have HAL := Lib.hid (alive_any W)
  have HMM := Lib.hid (fun (U : World) (hU : Below W.heap.size W U) => (hU.cell (p := ⟨0, 0, none⟩) (World.block_lt_of_cell? _ _ hm)).trans hm)
  have HPA := Lib.hid (fun (U : World) (hU : Below W.heap.size W U) => print_all U a c vals l (hs.next hU) hw (fun x hx => by have := z.2 x hx; omega))
  have HSL := Lib.hid (fun (U : World) (hU : Below W.heap.size W U) => hs.next hU)
  obtain ⟨ts, hts⟩ : ∃ t, s.data.toList = t := ⟨_, rfl⟩
  have HSS : Hid (str ts = s) := by show _ = _; rw [← hts]; exact str_of s
  have HTS : Hid (ts.length ≤ 9223372036854775807) := by show _ ≤ _; rw [← hts, Array.length_toList]; exact hsz
  have hcap := hs.sl.cap
  have hbig := hs.sl.big
  have hsz2 : s.size ≤ 9223372036854775807 := hsz
  generalize hR : printS l = R at *
  obtain ⟨rs, re⟩ := R
  have HR := Lib.hid hR
  simp only at HPA
  clear hs hw z hts hR hm hsz
  go_enter Tryd.func3, Tryd.ntmps3
  go_wp2_with fail
  with_reducible refine HAL.out.mono ?_
  rintro e w1 ⟨rfl, hb1⟩
  have HB1 := Lib.hid hb1
  have HP1 := Lib.hid (HPA.out w1 hb1)
  clear hb1
  go_wp2_with fail
  with_reducible refine HP1.out.mono ?_
  rintro e w2 ⟨rfl, hb2⟩
  have HB2 := Lib.hid (HB1.out.trans (hb2.mono HB1.out.size))
  clear hb2
  by_cases h0 : re = 0
  · subst h0
    by_cases hl : (rs.size : Int) ≤ 65536
    · have hdl : decide ((rs.size : Int) ≤ 65536) = true := decide_eq_true hl
      obtain ⟨g1, g2, g3⟩ := print_zero HR.out
      have hpl : (textP l).length ≤ 65536 := by rw [g3, str_size] at hl; omega
      have HPS := parse_any w2 (textP l) m (HMM.out w2 HB2.out) (by omega)
      rw [← g3] at HPS
      have HPT := Lib.hid (back_clauses g1 g2 hpl)
      have HPP := Lib.hid HPS
      clear g1 g2 g3 hpl HPS
      go_wp2_with fail
      with_reducible refine HPP.out.mono ?_
      rintro e w3 ⟨hcase, hb3⟩
      have HB3 := Lib.hid (HB2.out.trans (hb3.mono HB2.out.size))
      clear hb3
      rcases hcase with ⟨mm, ma, mc, mv, hpt, rfl, hm2⟩ | ⟨cd, hcd, hpt, rfl⟩
      · rw [HPT.out] at hpt
        injection hpt with hpt
        subst hpt
        have HLS := by
          have h := Plain.lists_any w3 a ma l.length l.length c mc vals mv l l (HSL.out w3 HB3.out) hm2
          rw [decide_eq_true rfl] at h
          exact (h.mono fun e w' hh => ⟨hh.1, by obtain ⟨q, hq⟩ := hh.2; rw [hq]; exact below_drewN (Below.refl _ _) q⟩ : Calls Tryd.prog 8 #[.slice a l.length c, .slice ma l.length mc] w3 fun e w' => e = .returned (.bool true) ∧ Below w3.heap.size w3 w')
        have HL2 := Lib.hid HLS
        clear HLS hm2
        go_wp2_with fail
        with_reducible refine HL2.out.mono ?_
        rintro e w4 ⟨rfl, hb4⟩
        have HB4 := Lib.hid (HB3.out.trans (hb4.mono HB3.out.size))
        clear hb4
        have HPS2 := Lib.hid (parse_any w4 ts m (HMM.out w4 HB4.out) HTS.out)
        rw [HSS.out] at HPS2
        go_wp2_with fail
        with_reducible refine HPS2.out.mono ?_
        rintro e w5 ⟨hcase, hb5⟩
        have HB5 := Lib.hid (HB4.out.trans (hb5.mono HB4.out.size))
        clear hb5
        rcases hcase with ⟨mm, ma, mc, mv, hpt, rfl, hm2⟩ | ⟨cd, hcd, hpt, rfl⟩
        · obtain ⟨g1, g2, g3, g4⟩ := back_text hpt
          have hwf : ∀ x ∈ mm, Clause.Wf x := fun x hx v hv => by have := (fits_bounds (g2 x hx)).2.2 v hv; omega
          have hpr := print_all w5 ma mc mv mm hm2 hwf (fun x hx => by have := (fits_bounds (g2 x hx)).2.1; omega)
          rw [print_fit (by omega) g2, g3] at hpr
          simp only at hpr
          rw [HSS.out] at hpr
          have HPR := Lib.hid hpr
          clear hpr hwf g1 g2 g3 g4 hpt hm2
          go_wp2_with fail
          with_reducible refine HPR.out.mono ?_
          rintro e w6 ⟨rfl, hb6⟩
          have HB6 := Lib.hid (HB5.out.trans (hb6.mono HB5.out.size))
          clear hb6
          go_wp2_with fail
          go_ret
          exact ⟨by simp, HB6.out⟩
        · clear hpt
          rcases hcd with rfl | rfl
          all_goals
            go_wp2_with fail
            go_ret
            exact ⟨rfl, HB5.out⟩
      · rw [HPT.out] at hpt; cases hpt
    · have hdl : decide ((rs.size : Int) ≤ 65536) = false := decide_eq_false hl
      have HPS2 := Lib.hid (parse_any w2 ts m (HMM.out w2 HB2.out) HTS.out)
      rw [HSS.out] at HPS2
      go_wp2_with fail
      with_reducible refine HPS2.out.mono ?_
      rintro e w5 ⟨hcase, hb5⟩
      have HB5 := Lib.hid (HB2.out.trans (hb5.mono HB2.out.size))
      clear hb5
      rcases hcase with ⟨mm, ma, mc, mv, hpt, rfl, hm2⟩ | ⟨cd, hcd, hpt, rfl⟩
      · obtain ⟨g1, g2, g3, g4⟩ := back_text hpt
        have hwf : ∀ x ∈ mm, Clause.Wf x := fun x hx v hv => by have := (fits_bounds (g2 x hx)).2.2 v hv; omega
        have hpr := print_all w5 ma mc mv mm hm2 hwf (fun x hx => by have := (fits_bounds (g2 x hx)).2.1; omega)
        rw [print_fit (by omega) g2, g3] at hpr
        simp only at hpr
        rw [HSS.out] at hpr
        have HPR := Lib.hid hpr
        clear hpr hwf g1 g2 g3 g4 hpt hm2
        go_wp2_with fail
        with_reducible refine HPR.out.mono ?_
        rintro e w6 ⟨rfl, hb6⟩
        have HB6 := Lib.hid (HB5.out.trans (hb6.mono HB5.out.size))
        clear hb6
        go_wp2_with fail
        go_ret
        exact ⟨by simp, HB6.out⟩
      · clear hpt
        rcases hcd with rfl | rfl
        all_goals
          go_wp2_with fail
          go_ret
          exact ⟨rfl, HB5.out⟩
  · have hr0 : (re == 0) = false := by simpa using h0
    have HPS2 := Lib.hid (parse_any w2 ts m (HMM.out w2 HB2.out) HTS.out)
    rw [HSS.out] at HPS2
    go_wp2_with fail
    with_reducible refine HPS2.out.mono ?_
    rintro e w5 ⟨hcase, hb5⟩
    have HB5 := Lib.hid (HB2.out.trans (hb5.mono HB2.out.size))
    clear hb5
    rcases hcase with ⟨mm, ma, mc, mv, hpt, rfl, hm2⟩ | ⟨cd, hcd, hpt, rfl⟩
    · obtain ⟨g1, g2, g3, g4⟩ := back_text hpt
      have hwf : ∀ x ∈ mm, Clause.Wf x := fun x hx v hv => by have := (fits_bounds (g2 x hx)).2.2 v hv; omega
      have hpr := print_all w5 ma mc mv mm hm2 hwf (fun x hx => by have := (fits_bounds (g2 x hx)).2.1; omega)
      rw [print_fit (by omega) g2, g3] at hpr
      simp only at hpr
      rw [HSS.out] at hpr
      have HPR := Lib.hid hpr
      clear hpr hwf g1 g2 g3 g4 hpt hm2
      go_wp2_with fail
      with_reducible refine HPR.out.mono ?_
      rintro e w6 ⟨rfl, hb6⟩
      have HB6 := Lib.hid (HB5.out.trans (hb6.mono HB5.out.size))
      clear hb6
      go_wp2_with fail
      go_ret
      exact ⟨by simp, HB6.out⟩
    · clear hpt
      rcases hcd with rfl | rfl
      all_goals
        go_wp2_with fail
        go_ret
        exact ⟨rfl, HB5.out⟩
end Go.Proofs.YtmiklgekcmeedaaDoor.invariantBack
