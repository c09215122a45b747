/-
  coi.asked: may it be asked what counts?
-/
import Derived.Test.YtninglnchengeaaLitsCheck
import Derived.Test.YtninglnchengeaaSlfR
import Derived.Test.YtninglnchengeaaCheckC
import Derived.Test.YtninglnchengeaaWfC
import Derived.Test.YtninglnchengeaaCoiP
namespace Go.Proofs.Ytninglnchengeaa
open Go.RowKit Base
set_option linter.unusedVariables false
set_option linter.unusedSimpArgs false
namespace Coi
open Circuit LitsC

theorem eg_ask : SlfR.Enters 24 := enters_of Try.func24 (by kernel_rfl) rfl
def strangeL (mx : Int) (l : List Int) : Bool := l.any (oddM mx)

set_option maxHeartbeats 1000000 in
theorem ask1_any (w : World) (N : Nat) (mx : Int) (hm : w.cell? ⟨N, 0, none⟩ = some (.int .i64 mx)) (h0 : 0 ≤ mx) (h1 : mx ≤ 2048) (a : Option Addr) (n c : Nat) (l : List Int) (hsl : Sl w a n c (ints l)) (hl : ∀ y ∈ l, Circuit.I64 y) :
    Calls Try.prog 24 #[.slice a n c, .pointer (some ⟨N, 0, none⟩)] w fun e w' => e = .returned (.bool (strangeL mx l)) ∧ Below w.heap.size w w' := by
  have HC := Lib.hid (check_any w a n c l hsl hl mx h0 h1)
  unfold strangeL
  generalize l.any (oddM mx) = q at *
  clear hsl hl h0 h1
  cases q
  all_goals
    go_enter Try.func24, Try.ntmps24
    go_wp2_with fail
    with_reducible refine HC.out.mono ?_
    rintro e w2 ⟨rfl, hb2⟩
    go_wp2_with fail
    go_ret
    exact ⟨rfl, hb2⟩

/-- What asked tells. -/
noncomputable def askE (x : Circ) (A : List (List Int)) (bad : Int) : Int :=
  if tt (CheckOk x) = true then (if bad < 0 ∨ (x.bads.length : Int) ≤ bad then 4 else if A.any (strangeL x.max) = true then 23 else 0) else 9
theorem askE_no {x : Circ} (h : ¬ CheckOk x) (A : List (List Int)) (bad : Int) : askE x A bad = 9 := by unfold askE; rw [tt_neg h]; rfl
theorem askE_bad {x : Circ} (h : CheckOk x) (A : List (List Int)) {bad : Int} (hb : bad < 0 ∨ (x.bads.length : Int) ≤ bad) : askE x A bad = 4 := by unfold askE; rw [tt_pos h, if_pos rfl, if_pos hb]
theorem askE_kind {x : Circ} (h : CheckOk x) {A : List (List Int)} {bad : Int} (hb : ¬ (bad < 0 ∨ (x.bads.length : Int) ≤ bad)) (hA : A.any (strangeL x.max) = true) : askE x A bad = 23 := by unfold askE; rw [tt_pos h, if_pos rfl, if_neg hb, if_pos hA]
theorem askE_ok {x : Circ} (h : CheckOk x) {A : List (List Int)} {bad : Int} (hb : ¬ (bad < 0 ∨ (x.bads.length : Int) ≤ bad)) (hA : A.any (strangeL x.max) = false) : askE x A bad = 0 := by unfold askE; rw [tt_pos h, if_pos rfl, if_neg hb, if_neg (by rw [hA]; decide)]
theorem askE_zero {x : Circ} {A : List (List Int)} {bad : Int} (h : askE x A bad = 0) : CheckOk x ∧ 0 ≤ bad ∧ bad < x.bads.length ∧ A.any (strangeL x.max) = false := by
  by_cases hc : CheckOk x
  · by_cases hb : bad < 0 ∨ (x.bads.length : Int) ≤ bad
    · rw [askE_bad hc A hb] at h; omega
    · cases hA : A.any (strangeL x.max)
      · exact ⟨hc, by omega, by omega, rfl⟩
      · rw [askE_kind hc hb hA] at h; omega
  · rw [askE_no hc] at h; omega

set_option maxRecDepth 8000 in
set_option maxHeartbeats 4000000 in
theorem asked_any (w : World) (x : Circ) (p : At) (hin : InCirc w x p) (hw : WfC x) (aA : Option Addr) (n cA : Nat) (vals : List Value) (A : List (List Int)) (hA : Sl2 w aA n cA vals A) (hA64 : ∀ y ∈ A.flatten, Circuit.I64 y) (bad : Int) (hb0 : -9223372036854775808 ≤ bad) (hb1 : bad ≤ 9223372036854775807) :
    Calls Try.prog 9 #[.agg (cells x p), .slice aA n cA, .int .i64 bad] w fun e w' => e = .returned (.int .i64 (askE x A bad)) ∧ Below w.heap.size w w' := by
  obtain ⟨W1, hW1⟩ : ∃ W1, w.alloc (.cells (cells x p) 27) = W1 := ⟨_, rfl⟩
  obtain ⟨hb1', hc1⟩ := cbox_new w x p W1 hW1
  have HB1 := Lib.hid hb1'
  have HC := Lib.hid (check_any W1 x p (hin.next hb1') hw.ins hw.outs hw.bads hw.invs hw.lats hw.ands hw.mx)
  have HCB := Lib.hid (fun (U : World) (hU : Below W1.heap.size W1 U) => hc1.next hU (Nat.le_refl _))
  have HA := Lib.hid (fun (U : World) (hU : Below W1.heap.size W1 U) => (hA.next hb1').next hU)
  have HA64 := Lib.hid hA64
  have HAL := Lib.hid (hA.len)
  have HLB := Lib.hid (hin.bads.big)
  have k0 := hc1.k0
  have k1 := hc1.k1
  have k2 := hc1.k2
  have k3 := hc1.k3
  have k4 := hc1.k4
  have k5 := hc1.k5
  have k6 := hc1.k6
  have k7 := hc1.k7
  obtain ⟨a1, c1, a2, c2, a3, c3, a4, c4, a5, c5, a6, c6, a7, c7⟩ := p
  simp only [cells] at *
  by_cases hok : CheckOk x
  · rw [chk_pos hok] at HC
    have HOK := Lib.hid hok
    clear hin hw hA hA64 hb1' hc1 hok
    by_cases hlo : bad < 0
    · have HE : Hid (askE x A bad = 4) := askE_bad HOK.out A (Or.inl hlo)
      go_enter Try.func9, Try.ntmps9
      go_wp2_with fail
      with_reducible refine HC.out.mono ?_
      rintro e w2 ⟨rfl, hb2⟩
      have HB2 := Lib.hid hb2
      clear hb2 k0 k1 k2 k3 k4 k5 k6 k7 hW1
      go_wp2_with fail
      go_ret
      exact ⟨ret_int HE.out.symm, HB1.out.trans (HB2.out.mono HB1.out.size)⟩
    · by_cases hhi : (x.bads.length : Int) ≤ bad
      · have HE : Hid (askE x A bad = 4) := askE_bad HOK.out A (Or.inr hhi)
        go_enter Try.func9, Try.ntmps9
        go_wp2_with fail
        with_reducible refine HC.out.mono ?_
        rintro e w2 ⟨rfl, hb2⟩
        have HB2 := Lib.hid hb2
        have m4 := (HCB.out w2 hb2).k4
        clear hb2 k0 k1 k2 k3 k4 k5 k6 k7 hW1
        go_wp2_with fail
        go_ret
        exact ⟨ret_int HE.out.symm, HB1.out.trans (HB2.out.mono HB1.out.size)⟩
      · have HN : Hid (¬ (bad < 0 ∨ (x.bads.length : Int) ≤ bad)) := fun h => h.elim hlo hhi
        have HGV := Lib.hid (fun (U : World) (hU : Below W1.heap.size W1 U) => SlfR.containsFunc U aA n cA vals 24 #[] #[.pointer (some ⟨w.heap.size, 0, none⟩)] (A.map (strangeL x.max)) (HA.out U hU).sl (by rw [List.length_map, HAL.out]) eg_ask (by
          intro V hV j v q hv hq
          rw [List.getElem?_map, Option.map_eq_some_iff] at hq
          obtain ⟨l, hl, rfl⟩ := hq
          have hVU := hU.trans (hV.mono hU.size)
          obtain ⟨a', c', rfl, hs⟩ := (HA.out V hVU).row j v l hv hl
          exact ask1_any V w.heap.size x.max (HCB.out V hVU).k0 HOK.out.1.1 HOK.out.1.2.1 a' l.length c' l hs (fun y hy => HA64.out y (List.mem_flatten.2 ⟨l, List.mem_of_getElem? hl, hy⟩))))
        have hany : ((A.map (strangeL x.max)).any id) = A.any (strangeL x.max) := by rw [List.any_map]; rfl
        rw [hany] at HGV
        have hhi2 : bad < (x.bads.length : Int) := by omega
        clear hany
        cases hq : A.any (strangeL x.max)
        · have HE : Hid (askE x A bad = 0) := askE_ok HOK.out HN.out hq
          rw [hq] at HGV
          clear hq
          go_enter Try.func9, Try.ntmps9
          go_wp2_with fail
          with_reducible refine HC.out.mono ?_
          rintro e w2 ⟨rfl, hb2⟩
          have HB2 := Lib.hid hb2
          have m4 := (HCB.out w2 hb2).k4
          have HG2 := Lib.hid (HGV.out w2 hb2)
          clear hb2 k0 k1 k2 k3 k4 k5 k6 k7 hW1
          go_wp2_with fail
          with_reducible refine HG2.out.mono ?_
          rintro e w3 ⟨rfl, hb3⟩
          go_wp2_with fail
          go_ret
          exact ⟨ret_int HE.out.symm, HB1.out.trans ((HB2.out.trans (hb3.mono HB2.out.size)).mono HB1.out.size)⟩
        · have HE : Hid (askE x A bad = 23) := askE_kind HOK.out HN.out hq
          rw [hq] at HGV
          clear hq
          go_enter Try.func9, Try.ntmps9
          go_wp2_with fail
          with_reducible refine HC.out.mono ?_
          rintro e w2 ⟨rfl, hb2⟩
          have HB2 := Lib.hid hb2
          have m4 := (HCB.out w2 hb2).k4
          have HG2 := Lib.hid (HGV.out w2 hb2)
          clear hb2 k0 k1 k2 k3 k4 k5 k6 k7 hW1
          go_wp2_with fail
          with_reducible refine HG2.out.mono ?_
          rintro e w3 ⟨rfl, hb3⟩
          go_wp2_with fail
          go_ret
          exact ⟨ret_int HE.out.symm, HB1.out.trans ((HB2.out.trans (hb3.mono HB2.out.size)).mono HB1.out.size)⟩
  · rw [chk_neg hok] at HC
    have HE : Hid (askE x A bad = 9) := askE_no hok A bad
    clear hin hw hA hA64 hb1' hc1 hok
    go_enter Try.func9, Try.ntmps9
    go_wp2_with fail
    with_reducible refine HC.out.mono ?_
    rintro e w2 ⟨rfl, hb2⟩
    have HB2 := Lib.hid hb2
    clear hb2 k0 k1 k2 k3 k4 k5 k6 k7 hW1
    go_wp2_with fail
    go_ret
    exact ⟨ret_int HE.out.symm, HB1.out.trans (HB2.out.mono HB1.out.size)⟩
end Coi
end Go.Proofs.Ytninglnchengeaa
