/-
  interlocklaw29.FactsBack: the walk: behind a push, whatever is assumed and proved then, a pop brings back the facts that were, and tells of the others.
-/
import Derived.Test.YtgbpoeidpldmkaaFactM
import Derived.Test.YtgbpoeidpldmkaaFactL
namespace Go.Proofs.Ytgbpoeidpldmkaa.factsBack
open Go.RowKit Base Fact
set_option linter.unusedVariables false
set_option linter.unusedSimpArgs false

/-- A table in a box, its facts in memory. -/
def InBox (N : Nat) (t : Tb) (w : World) : Prop := ∃ a c vs, BoxN N [.int .i64 t.next, .int .i64 t.depth, .slice a t.facts.length c] w ∧ SlF w a t.facts.length c vs t.facts

theorem ext_if {t P : Tb} {ws : List Int} (h : Ext t P ws) {k : Int} (hk : k = 1 ∨ k = 2) {l : List Int} (hl : Clause.Wf l) : Ext t (if (putT P k l).2.2 = 0 then (putT P k l).1 else P) (ws ++ if (putT P k l).2.2 = 0 then [(putT P k l).2.1] else []) := by
  by_cases he : (putT P k l).2.2 = 0
  · rw [if_pos he, if_pos he]
    exact ext_put h hk hl he
  · rw [if_neg he, if_neg he, List.append_nil]
    exact h

set_option maxRecDepth 8000 in
set_option maxHeartbeats 32000000 in
theorem walk {w : World} (t : Tb) (a : Option Addr) (c : Nat) (vs : List (List Value)) (s : SlF w a t.facts.length c vs t.facts) (hw : WfF t.facts)
    (a1 : Option Addr) (c1 : Nat) (x1 : List Int) (s1 : Sl w a1 x1.length c1 (ints x1)) (w1 : Clause.Wf x1) (z1 : x1.length * 8 ≤ 140737488351232)
    (a2 : Option Addr) (c2 : Nat) (x2 : List Int) (s2 : Sl w a2 x2.length c2 (ints x2)) (w2 : Clause.Wf x2) (z2 : x2.length * 8 ≤ 140737488351232) (W : World) (hW : W = w) :
    Calls Try.prog 4 #[tagg t a c, .slice a1 x1.length c1, .slice a2 x2.length c2] W fun e W' => e = .returned (.bool true) ∧ Below W.heap.size W W' := by
  subst hW
  have HPU := Lib.hid (fun (U : World) (hU : Below W.heap.size W U) => push_any U t a c vs (s.next hU) hw)
  have HTA := Lib.hid (fun (U : World) (hU : Below W.heap.size W U) => table_any U t a c vs (s.next hU) hw)
  have HAS := Lib.hid (fun (U : World) (hU : Below W.heap.size W U) (X : Tb) (a9 : Option Addr) (c9 : Nat) (v9 : List (List Value)) (h9 : SlF U a9 X.facts.length c9 v9 X.facts) (hX : WfF X.facts) => assume_any U X a9 c9 v9 h9 hX a1 x1.length c1 x1 (s1.next hU) (by omega) w1)
  have HLE := Lib.hid (fun (U : World) (hU : Below W.heap.size W U) (X : Tb) (a9 : Option Addr) (c9 : Nat) (v9 : List (List Value)) (h9 : SlF U a9 X.facts.length c9 v9 X.facts) (hX : WfF X.facts) => lemma_any U X a9 c9 v9 h9 hX a2 x2.length c2 x2 (s2.next hU) (by omega) w2)
  have HSF := Lib.hid s
  have HWF := Lib.hid hw
  have HW1 := Lib.hid w1
  have HW2 := Lib.hid w2
  have hcap := s.sl.cap
  have hbig := s.sl.big
  clear s hw s1 w1 z1 s2 w2 z2
  obtain ⟨W1, hWW1⟩ : ∃ U, W.alloc (.cells #[.int .i64 t.next, .int .i64 t.depth, .slice a t.facts.length c] 24) = U := ⟨_, rfl⟩
  obtain ⟨hb1, y1⟩ := tbox _ _ _ _ _ _ _ hWW1
  have HB1 := Lib.hid hb1
  have HX1 := Lib.hid y1
  have HAL := Lib.hid (alive_any W1)
  clear hb1 y1
  by_cases hok : tableOk t = true
  · by_cases hd : t.depth = 16
    · have HT0 := Lib.hid (fun (U : World) (hU : Below W.heap.size W U) => HTA.out U hU)
      rw [if_pos hok] at HT0
      have hp : pushT t = (zero, 72) := by unfold pushT; rw [if_pos hok, if_pos hd]
      rw [hp] at HPU
      have hv : (t.depth == 16) = true := by simp [hd]
      clear hp hok hd HAS HLE
      unfold tagg at *
      simp only [zero, List.length_nil] at HPU
      go_enter Try.func4, Try.ntmps4
      go_wp2_with fail
      with_reducible refine HAL.out.mono ?_
      rintro e w2 ⟨rfl, hb2⟩
      have HB2 := Lib.hid (HB1.out.trans (hb2.mono HB1.out.size))
      have y2 := HX1.out.next hb2 HX1.out.lt
      have HX2 := Lib.hid y2
      have HP2 := Lib.hid (HPU.out w2 HB2.out)
      have q0 := y2.at' 0 _ rfl
      have q1 := y2.at' 1 _ rfl
      have q2 := y2.at' 2 _ rfl
      clear hb2 hWW1 y2
      go_wp2_with fail
      with_reducible refine HP2.out.mono ?_
      rintro e w3 ⟨a3, c3, vs3, rfl, hk3, hb3⟩
      obtain ⟨W4, hW4⟩ : ∃ U, w3.alloc (.cells #[.int .i64 0, .int .i64 0, .slice a3 0 c3] 24) = U := ⟨_, rfl⟩
      obtain ⟨hb4, y4⟩ := tbox _ _ _ _ _ _ _ hW4
      have hb34 := hb3.trans (hb4.mono hb3.size)
      have y24 := HX2.out.next hb34 HX2.out.lt
      have HX24 := Lib.hid y24
      have HB4 := Lib.hid (HB2.out.trans (hb34.mono HB2.out.size))
      have HW4 := Lib.hid hW4
      have p0 := y24.at' 0 _ rfl
      have p1 := y24.at' 1 _ rfl
      have p2 := y24.at' 2 _ rfl
      have r2 := y4.at' 2 _ rfl
      have HT4 := Lib.hid (HT0.out W4 HB4.out)
      clear hb3 hk3 hb4 y4 hb34 y24 q0 q1 q2 hW4
      go_upto_region 4 with fail
      rw [HW4.out]
      go_wp2_with fail
      with_reducible refine HT4.out.mono ?_
      rintro e w5 ⟨rfl, hb5⟩
      have m1 := (HX24.out.next hb5 HX24.out.lt).at' 1 _ rfl
      have HB5 := Lib.hid (HB4.out.trans (hb5.mono HB4.out.size))
      clear hb5 p0 p1 p2 r2
      go_wp2_with fail
      go_ret
      exact ⟨rfl, HB5.out⟩
    · have ht := ok_of hok
      have hE := ext_push ht HWF.out hd
      have hp : pushT t = (⟨t.next, t.depth + 1, t.facts⟩, 0) := by unfold pushT; rw [if_pos hok, if_neg hd]
      rw [hp] at HPU
      have hwr : IntKind.i64.wrap (t.depth + 1) = t.depth + 1 := by have h0 := ht.d0; have h1 := ht.d1; rw [IntKind.wrap_i64]; omega
      have HE := Lib.hid hE
      have HOK := Lib.hid ht
      clear hok hd hE ht hp HTA
      generalize (⟨t.next, t.depth + 1, t.facts⟩ : Tb) = P at *
      have hpd : (P.depth == t.depth + 1) = true := by simp [HE.out.depth]
      generalize hO1 : putT P 1 x1 = O1 at *
      obtain ⟨O, hO⟩ : ∃ O, (if O1.2.2 = 0 then O1.1 else P) = O := ⟨_, rfl⟩
      obtain ⟨ws1, hws1⟩ : ∃ ws, (if O1.2.2 = 0 then [O1.2.1] else []) = ws := ⟨_, rfl⟩
      have hEO : Ext t O ws1 := by
        have h := ext_if HE.out (k := 1) (by decide) HW1.out
        rw [hO1, hO, hws1] at h
        exact h
      generalize hO2 : putT O 2 x2 = O2 at *
      obtain ⟨X, hX⟩ : ∃ X, (if O2.2.2 = 0 then O2.1 else O) = X := ⟨_, rfl⟩
      obtain ⟨ws2, hws2⟩ : ∃ ws, (if O2.2.2 = 0 then [O2.2.1] else []) = ws := ⟨_, rfl⟩
      have hEX : Ext t X (ws1 ++ ws2) := by
        have h := ext_if hEO (k := 2) (by decide) HW2.out
        rw [hO2, hX, hws2] at h
        exact h
      have HEO := Lib.hid hEO
      have HEX := Lib.hid hEX
      have HO := Lib.hid hO
      have HX := Lib.hid hX
      have HO1 := Lib.hid hO1
      have HO2 := Lib.hid hO2
      have HWS1 := Lib.hid hws1
      have HWS2 := Lib.hid hws2
      have HPO := Lib.hid (pop_ext HOK.out hEX)
      have HL1 : Hid (ws1.length ≤ 1) := by show _ ≤ _; rw [← hws1]; split <;> simp
      clear hEO hEX hO hX hO1 hO2 hws1 hws2
      unfold tagg at *
      go_enter Try.func4, Try.ntmps4
      go_wp2_with fail
      with_reducible refine HAL.out.mono ?_
      rintro e w2 ⟨rfl, hb2⟩
      have HB2 := Lib.hid (HB1.out.trans (hb2.mono HB1.out.size))
      have y2 := HX1.out.next hb2 HX1.out.lt
      have HX2 := Lib.hid y2
      have HP2 := Lib.hid (HPU.out w2 HB2.out)
      have q0 := y2.at' 0 _ rfl
      have q1 := y2.at' 1 _ rfl
      have q2 := y2.at' 2 _ rfl
      clear hb2 hWW1 y2
      go_wp2_with fail
      with_reducible refine HP2.out.mono ?_
      rintro e w3 ⟨a3, c3, vs3, rfl, hk3, hb3⟩
      obtain ⟨W4, hW4⟩ : ∃ U, w3.alloc (.cells #[.int .i64 P.next, .int .i64 P.depth, .slice a3 P.facts.length c3] 24) = U := ⟨_, rfl⟩
      obtain ⟨hb4, y4⟩ := tbox _ _ _ _ _ _ _ hW4
      have hb34 := hb3.trans (hb4.mono hb3.size)
      have HX24 := Lib.hid (HX2.out.next hb34 HX2.out.lt)
      have HX4 := Lib.hid y4
      have HB4 := Lib.hid (HB2.out.trans (hb34.mono HB2.out.size))
      have HK4 := Lib.hid (hk3.next hb4).slF
      have HW4 := Lib.hid hW4
      have r0 := y4.at' 0 _ rfl
      have r1 := y4.at' 1 _ rfl
      have r2 := y4.at' 2 _ rfl
      have HA4 := Lib.hid (HAS.out W4 HB4.out P a3 c3 vs3 HK4.out HE.out.wf)
      rw [HO1.out] at HA4
      clear hb3 hk3 hb4 y4 hb34 q0 q1 q2 hW4 HAS
      go_upto_region 4 with fail
      rw [HW4.out]
      go_wp2_with fail
      with_reducible refine HA4.out.mono ?_
      rintro e w5 ⟨a5, c5, vs5, rfl, hk5, hb5⟩
      obtain ⟨W6, hW6⟩ : ∃ U, w5.alloc (.cells #[.int .i64 O1.1.next, .int .i64 O1.1.depth, .slice a5 O1.1.facts.length c5] 24) = U := ⟨_, rfl⟩
      obtain ⟨hb6, y6⟩ := tbox _ _ _ _ _ _ _ hW6
      have HX6 := Lib.hid y6
      have HB6 := Lib.hid (hb5.trans (hb6.mono hb5.size))
      have HK6 := Lib.hid (hk5.next hb6).slF
      have HW6 := Lib.hid hW6
      have HZ5 := Lib.hid hb5.size
      clear hb5 hk5 hb6 y6 hW6 r0 r1 r2
      go_upto_region 7 with fail
      rw [HW6.out]
      go_upto_if 54 with fail
      go_cut [55] from 55 to 55 (fun u55 wc => Hid (InBox w5.heap.size O wc) ∧ Hid (Below W4.heap.size W4 wc))
      case first =>
        by_cases he : O1.2.2 = 0
        · have hv : (O1.2.2 != 0) = false := by simp [he]
          have HOO : Hid (O = O1.1) := by show _ = _; rw [← HO.out, if_pos he]
          clear he
          go_wp2_with fail
          go_meet
          exact ⟨by rw [HOO.out]; exact ⟨a5, c5, vs5, HX6.out, HK6.out⟩, HB6.out⟩
        · have hv : (O1.2.2 != 0) = true := by simp [he]
          have HOO : Hid (O = P) := by show _ = _; rw [← HO.out, if_neg he]
          clear he
          have y4 := HX4.out.next HB6.out HX4.out.lt
          have r0 := y4.at' 0 _ rfl
          have r1 := y4.at' 1 _ rfl
          have r2 := y4.at' 2 _ rfl
          have s0 := HX6.out.at' 0 _ rfl
          have s1 := HX6.out.at' 1 _ rfl
          have s2 := HX6.out.at' 2 _ rfl
          have f0 := HX6.out.fz 0
          have f1 := HX6.out.fz 1
          have f2 := HX6.out.fz 2
          clear y4
          go_wp2_with fail
          go_meet
          have hb := below_set3 HB6.out HZ5.out (.int .i64 P.next) (.int .i64 P.depth) (.slice a3 P.facts.length c3)
          exact ⟨by rw [HOO.out]; exact ⟨a3, c3, vs3, ((HX6.out.set 0 (.int .i64 P.next)).set 1 (.int .i64 P.depth)).set 2 (.slice a3 P.facts.length c3), HK4.out.next hb⟩, hb⟩
      case rest =>
        obtain ⟨hIO, hbc⟩ := hcut
        generalize wc = w6 at *
        obtain ⟨aO, cO, vO, hxO, hsO⟩ := hIO.out
        have HXO := Lib.hid hxO
        have HSO := Lib.hid hsO
        have HBC := Lib.hid hbc.out
        have HA6 := Lib.hid (HLE.out w6 (HB4.out.trans (hbc.out.mono HB4.out.size)) O aO cO vO hsO HEO.out.wf)
        rw [HO2.out] at HA6
        have r0 := hxO.at' 0 _ rfl
        have r1 := hxO.at' 1 _ rfl
        have r2 := hxO.at' 2 _ rfl
        clear hIO hxO hsO hbc HLE
        go_wp2_with fail
        with_reducible refine HA6.out.mono ?_
        rintro e w7 ⟨a7, c7, vs7, rfl, hk7, hb7⟩
        obtain ⟨W8, hW8⟩ : ∃ U, w7.alloc (.cells #[.int .i64 O2.1.next, .int .i64 O2.1.depth, .slice a7 O2.1.facts.length c7] 24) = U := ⟨_, rfl⟩
        obtain ⟨hb8, y8⟩ := tbox _ _ _ _ _ _ _ hW8
        have HX8 := Lib.hid y8
        have HB8 := Lib.hid (hb7.trans (hb8.mono hb7.size))
        have HK8 := Lib.hid (hk7.next hb8).slF
        have HW8 := Lib.hid hW8
        have HZ7 := Lib.hid hb7.size
        clear hb7 hk7 hb8 y8 hW8 r0 r1 r2
        go_upto_region 10 with fail
        rw [HW8.out]
        go_upto_if 64 with fail
        go_cut [65] from 65 to 65 (fun u65 wc => Hid (InBox w7.heap.size X wc) ∧ Hid (Below w6.heap.size w6 wc))
        case first =>
          by_cases he : O2.2.2 = 0
          · have hv : (O2.2.2 != 0) = false := by simp [he]
            have HOO : Hid (X = O2.1) := by show _ = _; rw [← HX.out, if_pos he]
            clear he
            go_wp2_with fail
            go_meet
            exact ⟨by rw [HOO.out]; exact ⟨a7, c7, vs7, HX8.out, HK8.out⟩, HB8.out⟩
          · have hv : (O2.2.2 != 0) = true := by simp [he]
            have HOO : Hid (X = O) := by show _ = _; rw [← HX.out, if_neg he]
            clear he
            have y4 := HXO.out.next HB8.out HXO.out.lt
            have r0 := y4.at' 0 _ rfl
            have r1 := y4.at' 1 _ rfl
            have r2 := y4.at' 2 _ rfl
            have s0 := HX8.out.at' 0 _ rfl
            have s1 := HX8.out.at' 1 _ rfl
            have s2 := HX8.out.at' 2 _ rfl
            have f0 := HX8.out.fz 0
            have f1 := HX8.out.fz 1
            have f2 := HX8.out.fz 2
            clear y4
            go_wp2_with fail
            go_meet
            have hb := below_set3 HB8.out HZ7.out (.int .i64 O.next) (.int .i64 O.depth) (.slice aO O.facts.length cO)
            exact ⟨by rw [HOO.out]; exact ⟨aO, cO, vO, ((HX8.out.set 0 (.int .i64 O.next)).set 1 (.int .i64 O.depth)).set 2 (.slice aO O.facts.length cO), HSO.out.next hb⟩, hb⟩
        case rest =>
          obtain ⟨hIX, hbc⟩ := hcut
          generalize wc = w9 at *
          obtain ⟨aX, cX, vX, hxX, hsX⟩ := hIX.out
          have HXX := Lib.hid hxX
          have HSX := Lib.hid hsX
          have HB9 := Lib.hid (HBC.out.trans (hbc.out.mono HBC.out.size))
          clear hIX hxX hsX hbc
          go_upto_if 67 with fail
          go_cut [15] from 67 to 72 (fun s wc => ∃ aw cw, s = .slice aw ws1.length cw ∧ Hid (wc.ownsRow w9.heap.size 3 1 (.slice aw ws1.length cw) ws1.length (ints ws1)) ∧ Hid (Below w9.heap.size w9 wc))
          case first =>
            by_cases he : O1.2.2 = 0
            · have hv : (O1.2.2 == 0) = true := by simp [he]
              have HWS : Hid (ws1 = [O1.2.1]) := by show _ = _; rw [← HWS1.out, if_pos he]
              clear he
              go_wp2_with ((with_reducible refine wpL_push w9.heap.size w9 (.int .i64 O1.2.1) (.slice none 0 0) 0 [] info_int Try.underlying26 rfl ?_ ?_ ?_ rfl (World.ownsRow_nil _ _ _ _) (Nat.le_refl _) (by decide) ?_ (Below.refl _ _) ?_); rfl; rfl; rfl; decide; (intro a8 c8 w8 hown8 hb8 hz8))
              have HO8 := Lib.hid hown8
              have HB8' := Lib.hid hb8
              clear hown8 hb8 hz8
              go_wp2_with fail
              go_meet
              exact ⟨a8, c8, by rw [HWS.out]; rfl, by rw [HWS.out]; exact HO8.out, HB8'.out⟩
            · have hv : (O1.2.2 == 0) = false := by simp [he]
              have HWS : Hid (ws1 = []) := by show _ = _; rw [← HWS1.out, if_neg he]
              clear he
              go_wp2_with fail
              go_meet
              exact ⟨none, 0, by rw [HWS.out]; rfl, by rw [HWS.out]; exact World.ownsRow_nil _ _ _ _, Below.refl _ _⟩
          case rest =>
            obtain ⟨aw, cw, rfl, how, hbw⟩ := hcut
            generalize wc = w10 at *
            go_upto_if 73 with fail
            go_cut [15] from 73 to 78 (fun s wc => ∃ aw cw, s = .slice aw (ws1 ++ ws2).length cw ∧ Hid (wc.ownsRow w9.heap.size 3 1 (.slice aw (ws1 ++ ws2).length cw) (ws1 ++ ws2).length (ints (ws1 ++ ws2))) ∧ Hid (Below w9.heap.size w9 wc))
            case first =>
              by_cases he : O2.2.2 = 0
              · have hv : (O2.2.2 == 0) = true := by simp [he]
                have HWS : Hid (ws2 = [O2.2.1]) := by show _ = _; rw [← HWS2.out, if_pos he]
                clear he
                generalize hm : ws1.length = m at *
                have HM := Lib.hid hm
                clear hm
                go_wp2_with ((with_reducible refine wpL_push w9.heap.size w10 (.int .i64 O2.2.1) (.slice aw m cw) m (ints ws1) info_int Try.underlying26 rfl ?_ ?_ ?_ rfl how.out hbw.out.size (by have := HL1.out; omega) ?_ hbw.out ?_); rfl; rfl; rfl; (have := HL1.out; omega); (intro a8 c8 w8 hown8 hb8 hz8))
                have HO8 := Lib.hid hown8
                have HB8' := Lib.hid hb8
                clear hown8 hb8 hz8
                go_wp2_with fail
                go_meet
                have e1 : (ws1 ++ ws2).length = m + 1 := by rw [HWS.out, List.length_append, HM.out]; rfl
                have e2 : ints (ws1 ++ ws2) = ints ws1 ++ [.int .i64 O2.2.1] := by rw [HWS.out]; simp [ints]
                exact ⟨a8, c8, by rw [e1], by rw [e1, e2]; exact HO8.out, HB8'.out⟩
              · have hv : (O2.2.2 == 0) = false := by simp [he]
                have HWS : Hid (ws2 = []) := by show _ = _; rw [← HWS2.out, if_neg he]
                clear he
                go_wp2_with fail
                go_meet
                exact ⟨aw, cw, by rw [HWS.out, List.append_nil], by rw [HWS.out, List.append_nil]; exact how, hbw⟩
            case rest =>
              obtain ⟨ax, cx, rfl, hox, hbx⟩ := hcut
              generalize wc = w11 at *
              generalize ws1 ++ ws2 = ws at *
              have HOX := Lib.hid hox.out
              have hxx := HXX.out.next hbx.out HXX.out.lt
              have r0 := hxx.at' 0 _ rfl
              have r1 := hxx.at' 1 _ rfl
              have r2 := hxx.at' 2 _ rfl
              have hP := pop_any w11 X aX cX vX (HSX.out.next hbx.out) HEX.out.wf
              rw [HPO.out] at hP
              unfold tagg at hP
              have HP := Lib.hid hP
              have HB11 := Lib.hid (HB9.out.trans (hbx.out.mono HB9.out.size))
              clear hox hbx hxx hP how hbw
              go_wp2_with fail
              with_reducible refine HP.out.mono ?_
              rintro e w12 ⟨a12, c12, v12, ai, ci, rfl, hk12, ho12, hb12⟩
              obtain ⟨W13, hW13⟩ : ∃ U, w12.alloc (.cells #[.int .i64 X.next, .int .i64 t.depth, .slice a12 t.facts.length c12] 24) = U := ⟨_, rfl⟩
              obtain ⟨hb13, y13⟩ := tbox _ _ _ _ _ _ _ hW13
              have h13 : W13.heap[w12.heap.size]? = some (.cells #[.int .i64 X.next, .int .i64 t.depth, .slice a12 t.facts.length c12] 24 (0, 0)) := by rw [← hW13]; show (w12.heap.push _)[w12.heap.size]? = _; simp
              have hbc := hb12.trans (hb13.mono hb12.size)
              have hbA := HB11.out.trans (hbc.mono HB11.out.size)
              have t13 := HX24.out.next hbA HX24.out.lt
              have p13 := HX4.out.next hbA HX4.out.lt
              obtain ⟨w14, hw14⟩ : ∃ U, W13.setCell ⟨w12.heap.size, 0, none⟩ (.int .i64 t.next) = U := ⟨_, rfl⟩
              have hle : W4.heap.size ≤ w12.heap.size := Nat.le_trans HB11.out.size hb12.size
              have hn1 : w12.heap.size ≠ W.heap.size := by have := HX24.out.lt; omega
              have hn2 : w12.heap.size ≠ w3.heap.size := by have := HX4.out.lt; omega
              have t14 := t13.other (a := ⟨w12.heap.size, 0, none⟩) hn1 (.int .i64 t.next)
              rw [hw14] at t14
              have p14 := p13.other (a := ⟨w12.heap.size, 0, none⟩) hn2 (.int .i64 t.next)
              rw [hw14] at p14
              have y14 := y13.set 0 (.int .i64 t.next)
              rw [hw14] at y14
              have k14 := (hk12.next hb13).setT (o := 0) (u := .int .i64 t.next) h13
              rw [hw14] at k14
              have o14 := own_setT (o := 0) (u := .int .i64 t.next) (own_next ho12 hb13) h13 (by decide)
              rw [hw14] at o14
              have b14 : Below w11.heap.size w11 w14 := by rw [← hw14]; exact hbc.setCell (p := ⟨w12.heap.size, 0, none⟩) hb12.size _
              have HB14 := Lib.hid (HB4.out.trans ((HB11.out.trans (b14.mono HB11.out.size)).mono HB4.out.size))
              have HOX14 := Lib.hid (own_next HOX.out b14)
              have HOG14 := Lib.hid o14
              have hS := sameTable_any w14 t a12 c12 v12 k14.slF a c vs (HSF.out.next HB14.out)
              unfold tagg at hS
              have HS := Lib.hid hS
              have HI := Lib.hid (fun (V : World) (hV : Below w14.heap.size w14 V) => Plain.ints_any V ai ax ws.length ws.length ci cx ws ws ((own_slI HOG14.out).next hV) ((own_slI HOX14.out).next hV))
              rw [show decide (ws = ws) = true from decide_eq_true rfl] at HI
              have HW13 := Lib.hid hW13
              have m0 := t13.at' 0 _ rfl
              have n0 := y13.at' 0 _ rfl
              have n1 := y13.fz 0
              have g0 := t14.at' 0 _ rfl
              have g1 := t14.at' 1 _ rfl
              have g2 := t14.at' 2 _ rfl
              have j1 := p14.at' 1 _ rfl
              have k0 := y14.at' 0 _ rfl
              have k1 := y14.at' 1 _ rfl
              have k2 := y14.at' 2 _ rfl
              clear hk12 ho12 hb12 hb13 y13 h13 hbc hbA t13 p13 hle hn1 hn2 t14 p14 y14 k14 o14 b14 hS hW13 r0 r1 r2
              go_upto_region 18 with fail
              rw [HW13.out]
              go_wp2_with fail
              with_reducible refine HS.out.mono ?_
              rintro e w15 ⟨rfl, hb15⟩
              have HI15 := Lib.hid (HI.out w15 hb15)
              have HB15 := Lib.hid (HB14.out.trans (hb15.mono HB14.out.size))
              clear hb15 m0 n0 n1 g0 g1 g2 j1 k0 k1 k2
              go_wp2_with fail
              with_reducible refine HI15.out.mono ?_
              rintro e w16 ⟨rfl, hb16⟩
              have HB16 := Lib.hid (HB15.out.trans (hb16.mono HB15.out.size))
              clear hb16
              go_wp2_with fail
              go_ret
              exact ⟨rfl, HB16.out⟩
  · have HT0 := Lib.hid (fun (U : World) (hU : Below W.heap.size W U) => HTA.out U hU)
    rw [if_neg hok] at HT0
    have hp : pushT t = (zero, 9) := by unfold pushT; rw [if_neg hok]
    rw [hp] at HPU
    clear hp hok HAS HLE
    unfold tagg at *
    simp only [zero, List.length_nil] at HPU
    go_enter Try.func4, Try.ntmps4
    go_wp2_with fail
    with_reducible refine HAL.out.mono ?_
    rintro e w2 ⟨rfl, hb2⟩
    have HB2 := Lib.hid (HB1.out.trans (hb2.mono HB1.out.size))
    have y2 := HX1.out.next hb2 HX1.out.lt
    have HX2 := Lib.hid y2
    have HP2 := Lib.hid (HPU.out w2 HB2.out)
    have q0 := y2.at' 0 _ rfl
    have q1 := y2.at' 1 _ rfl
    have q2 := y2.at' 2 _ rfl
    clear hb2 hWW1 y2
    go_wp2_with fail
    with_reducible refine HP2.out.mono ?_
    rintro e w3 ⟨a3, c3, vs3, rfl, hk3, hb3⟩
    obtain ⟨W4, hW4⟩ : ∃ U, w3.alloc (.cells #[.int .i64 0, .int .i64 0, .slice a3 0 c3] 24) = U := ⟨_, rfl⟩
    obtain ⟨hb4, y4⟩ := tbox _ _ _ _ _ _ _ hW4
    have hb34 := hb3.trans (hb4.mono hb3.size)
    have y24 := HX2.out.next hb34 HX2.out.lt
    have HX24 := Lib.hid y24
    have HB4 := Lib.hid (HB2.out.trans (hb34.mono HB2.out.size))
    have HW4 := Lib.hid hW4
    have p0 := y24.at' 0 _ rfl
    have p1 := y24.at' 1 _ rfl
    have p2 := y24.at' 2 _ rfl
    have r2 := y4.at' 2 _ rfl
    have HT4 := Lib.hid (HT0.out W4 HB4.out)
    clear hb3 hk3 hb4 y4 hb34 y24 q0 q1 q2 hW4
    go_upto_region 4 with fail
    rw [HW4.out]
    go_wp2_with fail
    with_reducible refine HT4.out.mono ?_
    rintro e w5 ⟨rfl, hb5⟩
    have HB5 := Lib.hid (HB4.out.trans (hb5.mono HB4.out.size))
    clear hb5 p0 p1 p2 r2
    go_wp2_with fail
    go_ret
    exact ⟨rfl, HB5.out⟩
end Go.Proofs.Ytgbpoeidpldmkaa.factsBack
