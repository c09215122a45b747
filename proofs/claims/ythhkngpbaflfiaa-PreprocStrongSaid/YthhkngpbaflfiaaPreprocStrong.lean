/-
  interlocklaw38.PreprocStrong: the walk: strengthened, no clause subsumes another one, and none has a literal that another one takes away.
-/
import Derived.Test.YthhkngpbaflfiaaPreAlive
import Derived.Test.YthhkngpbaflfiaaStrong
import Derived.Test.YthhkngpbaflfiaaTakes
import Derived.Test.YthhkngpbaflfiaaPreM
import Derived.Test.YthhkngpbaflfiaaBoxF
import Derived.Deep.QuietTactic
import Derived.BigQuiet
namespace Go.Proofs.Ythhkngpbaflfiaa.preprocStrong
open Go.RowKit Base
set_option linter.unusedVariables false
set_option linter.unusedSimpArgs false
open Pre BoxF

set_option maxRecDepth 4000 in
set_option maxHeartbeats 8000000 in
theorem walk (u0 : Int) (l0 : -9223372036854775808 ≤ u0) (g0 : u0 ≤ 9223372036854775807) (a0 : Option Addr) (c0 : Nat) (x0 : List (List Int)) (y0 : List Value) {w : World} (s0 : Sl2 w a0 x0.length c0 y0 x0) (w0 : Formula.Wf2 x0) (W : World) (hW : W = w) :
    Calls Try.prog 4 #[.agg #[.int .i64 u0, .slice a0 x0.length c0]] W fun e w' => e = .returned (.bool true) ∧ Below W.heap.size W w' := by
  subst hW
  obtain ⟨V, hV⟩ : ∃ V, W.alloc (.cells #[.int .i64 u0, .slice a0 x0.length c0] 24) = V := ⟨_, rfl⟩
  have hWV : Below W.heap.size W V := by rw [← hV]; exact (Below.refl _ _).alloc (Nat.le_refl _) _
  have k0 : V.cell? ⟨W.heap.size, 0, none⟩ = some (.int .i64 u0) := by rw [← hV]; simp [go_sem]
  have k1 : V.cell? ⟨W.heap.size, 1, none⟩ = some (.slice a0 x0.length c0) := by rw [← hV]; simp [go_sem]
  have hzV : V.heap.size = W.heap.size + 1 := by rw [← hV]; simp
  have HA := Lib.hid (alive_any V)
  have HREF := Lib.hid (fun U (hU : Below V.heap.size V U) => Formula.ref_any U u0 a0 _ c0 y0 x0 ((s0.next hWV).next hU) w0)
  have ST := fun U (hU : Below V.heap.size V U) => strengthen_any U u0 a0 _ c0 y0 x0 ((s0.next hWV).next hU) w0
  have HWV := Lib.hid hWV
  have HZV := Lib.hid hzV
  unfold StrengthOut at ST
  have HW0 := Lib.hid w0
  have H9 := Lib.hid (Formula.check_or u0 x0)
  clear s0 w0 hWV hzV
  rcases H9.out with h0 | h9
  · have hin := inR_of h0
    have HNE := Lib.hid (fun L (h : Pre.Steps (subsumed x0) L) => neat_steps (neat_subsumed HW0.out hin) h)
    simp only [if_pos h0] at ST
    have HSTR := Lib.hid ST
    clear ST h0 hin HREF
    go_enter Try.func4, Try.ntmps4
    go_wp2_with fail
    refine HA.out.mono ?_; rintro e w1 ⟨rfl, hb1⟩
    have d0 := (hb1.cell (p := ⟨W.heap.size, 0, none⟩) (by show W.heap.size < _; rw [HZV.out]; omega)).trans k0
    have d1 := (hb1.cell (p := ⟨W.heap.size, 1, none⟩) (by show W.heap.size < _; rw [HZV.out]; omega)).trans k1
    have HB1 := Lib.hid hb1
    clear hb1 k0 k1
    go_wp2_with fail
    refine (HSTR.out w1 HB1.out).mono ?_
    rintro e w4 ⟨⟨L, a4, c4, v4, hst, hno, rfl, hs4⟩, hb4⟩
    obtain ⟨U4, hU4⟩ : ∃ U4, w4.alloc (.cells #[.int .i64 u0, .slice a4 L.length c4] 24) = U4 := ⟨_, rfl⟩
    obtain ⟨hn4, p40, p41, hz4⟩ := box_new w4 u0 a4 _ c4 U4 hU4
    have HB4 := Lib.hid (HWV.out.trans ((HB1.out.trans ((hb4.trans (hn4.mono hb4.size)).mono HB1.out.size)).mono HWV.out.size))
    have hs := hs4.next hn4
    have hcap := hs.sl.cap
    have hbig := hs.sl.big
    have HS := Lib.hid hs
    have HN := Lib.hid (HNE.out L hst)
    have HNO := Lib.hid hno
    clear hb4 hs4 hn4 d0 d1 hst hno hs
    generalize hm : L.length = m at *
    have HM := Lib.hid hm
    clear hm
    go_wp2_with fail
    clear p40 p41 hz4 hU4
    go_loopw [6, 7, 8] (fun i k n wr => ∃ j : Nat, j ≤ m ∧ i = .int .i64 j ∧ Hid (Below U4.heap.size U4 wr)) (fun i _ _ _ => m - (intOf i).toNat)
    case atStart => exact ⟨0, Nat.zero_le _, rfl, Below.refl _ _⟩
    case round =>
      obtain ⟨i, hi, rfl, hbr⟩ := hrel
      by_cases hlt : i < m
      · obtain ⟨g, o, a5, c5, hx, rfl, hgs, hc, hs5, hv5⟩ := HS.out.at hlt
        have HX := Lib.hid hx
        have HCI := Lib.hid hc
        have HS5 := Lib.hid hs5
        have hcap5 := hs5.cap
        have hbig5 := hs5.big
        clear hc hs5 hv5
        go_wp2_with fail
        generalize wr = wq at *
        go_loopw [7, 8] (fun k n wr => ∃ j : Nat, j ≤ m ∧ k = .int .i64 j ∧ Hid (Below U4.heap.size U4 wr)) (fun k _ _ => m - (intOf k).toNat)
        case atStart => exact ⟨0, Nat.zero_le _, rfl, hbr.out⟩
        case round =>
          obtain ⟨k, hk, rfl, hbk⟩ := hrel
          by_cases hkl : k < m
          · by_cases hki : k = i
            · have v0 : ((i : Int) == (k : Int)) = true := by rw [hki]; simp
              have HB := Lib.hid hbk.out
              clear hbk hki
              go_wp2_with fail
              go_roundw
              case rel => exact ⟨k + 1, by omega, by go_num, HB.out⟩
              case measure => simp [intOf]; omega
            · have v0 : ((i : Int) == (k : Int)) = false := beq_eq_false_iff_ne.2 (by omega)
              obtain ⟨g', o', a6, c6, hy, e6, hgs', hc6, hs6, _⟩ := HS.out.at hkl
              simp only [Option.some.injEq, Addr.mk.injEq] at e6
              obtain ⟨rfl, rfl, _⟩ := e6
              have ci := (hbk.out.cell (p := ⟨g, o + i, none⟩) hgs).trans HCI.out
              have ck := (hbk.out.cell (p := ⟨g, o + k, none⟩) hgs).trans hc6
              have HAP := Lib.hid (HN.out.apart i k hx hy hki)
              have HTK : Hid (∀ x ∈ L[i], tak L[k] L[i] x = false) := fun x hxm => by
                rw [Bool.eq_false_iff]
                intro ht
                exact Pre.stuck HN.out HNO.out hx hy hki hxm (tak_iff.1 ht)
              have SUB := Lib.hid (fun U (hU : Below wr.heap.size wr U) => RefC.subs_any U a6 _ c6 L[k] ((hs6.next hbk.out).next hU) a5 _ c5 L[i] ((HS5.out.next hbk.out).next hU))
              have TAK := Lib.hid (fun U (hU : Below wr.heap.size wr U) x => takes_any U a6 _ c6 L[k] ((hs6.next hbk.out).next hU) a5 _ c5 L[i] ((HS5.out.next hbk.out).next hU) x)
              have HS5r := Lib.hid (HS5.out.next hbk.out)
              have HB := Lib.hid hbk.out
              clear hc6 hs6 hbk hki
              generalize L[k] = ys at *
              generalize L[i] = xs at *
              rw [HAP.out] at SUB
              generalize ys.length = yl at *
              generalize hxl : xs.length = xl at *
              go_wp2_with fail
              go_quiet (first | (go_at_call 14; exact Calls.quiet_of_same ((SUB.out _ (by first | exact Below.refl _ _ | exact below_drewN (Below.refl _ _) _)).mono fun e w' h => ⟨h.1, h.2.symm⟩)))
              go_wp2_with fail
              generalize wr = wp at *
              go_loopw [8] (fun n wx => ∃ j : Nat, j ≤ xl ∧ n = .int .i64 j ∧ Hid (Below wp.heap.size wp wx)) (fun n _ => xl - (intOf n).toNat)
              case atStart => exact ⟨0, Nat.zero_le _, rfl, by first | exact Below.refl _ _ | exact below_drewN (Below.refl _ _) _⟩
              case round =>
                obtain ⟨j, hj, rfl, hbj⟩ := hrel
                have ci2 := (hbj.out.cell (p := ⟨g, o + i, none⟩) (Nat.lt_of_lt_of_le hgs HB.out.size)).trans ci
                have ck2 := (hbj.out.cell (p := ⟨g, o + k, none⟩) (Nat.lt_of_lt_of_le hgs HB.out.size)).trans ck
                by_cases hjl : j < xl
                · obtain ⟨g7, o7, hxj, rfl, hgs7, hc7⟩ := HS5r.out.int hjl
                  have cj := (hbj.out.cell (p := ⟨g7, o7 + j, none⟩) hgs7).trans hc7
                  have HTJ := Lib.hid (HTK.out _ (List.getElem_mem hxj))
                  have TJ := Lib.hid (fun U (hU : Below wp.heap.size wp U) => TAK.out U hU xs[j])
                  clear hc7
                  generalize xs[j] = x at *
                  rw [HTJ.out] at TJ
                  have HBJ := Lib.hid hbj.out
                  clear hbj
                  go_wp2_with fail
                  go_quiet (first | (go_at_call 19; exact Calls.quiet_of_same ((TJ.out _ (by first | exact HBJ.out | exact below_drewN HBJ.out _)).mono fun e w' h => ⟨h.1, h.2.symm⟩)))
                  go_wp2_with fail
                  go_roundw
                  case rel => exact ⟨j + 1, by omega, by go_num, below_drewN HBJ.out _⟩
                  case measure => simp [intOf]; omega
                · have HBJ := Lib.hid (HB.out.trans (hbj.out.mono HB.out.size))
                  clear hbj
                  go_wp2_with fail
                  go_roundw
                  case rel => exact ⟨k + 1, by omega, by go_num, HBJ.out⟩
                  case measure => simp [intOf]; omega
          · have HB := Lib.hid hbk.out
            clear hbk
            go_wp2_with fail
            go_roundw
            case rel => exact ⟨i + 1, by omega, by go_num, HB.out⟩
            case measure => simp [intOf]; omega
      · have HB := Lib.hid (HB4.out.trans (hbr.out.mono HB4.out.size))
        clear hbr
        go_wp2_with fail
        go_ret
        exact ⟨rfl, HB.out⟩
  · have hne : ¬ Formula.check u0 x0 = 0 := by rw [h9]; decide
    simp only [if_neg hne] at ST
    rw [h9] at HREF
    have HSTR := Lib.hid ST
    clear ST h9 hne
    go_enter Try.func4, Try.ntmps4
    go_wp2_with fail
    refine HA.out.mono ?_; rintro e w1 ⟨rfl, hb1⟩
    have d0 := (hb1.cell (p := ⟨W.heap.size, 0, none⟩) (by show W.heap.size < _; rw [HZV.out]; omega)).trans k0
    have d1 := (hb1.cell (p := ⟨W.heap.size, 1, none⟩) (by show W.heap.size < _; rw [HZV.out]; omega)).trans k1
    have hlt1 : W.heap.size < w1.heap.size := by have := hb1.size; rw [HZV.out] at this; omega
    have HB1 := Lib.hid hb1
    clear hb1 k0 k1
    go_wp2_with fail
    refine (HSTR.out w1 HB1.out).mono ?_
    rintro e w4 ⟨rfl, hb4⟩
    obtain ⟨U4, hU4⟩ : ∃ U4, w4.alloc (.cells #[.int .i64 0, .slice none 0 0] 24) = U4 := ⟨_, rfl⟩
    obtain ⟨hn4, p40, p41, hz4⟩ := box_new w4 0 none 0 0 U4 hU4
    obtain ⟨y0', y1', y2', y3'⟩ := box_zero w4 U4 hU4
    have hb14 : Below w1.heap.size w1 U4 := hb4.trans (hn4.mono hb4.size)
    have e0 := (hb14.cell (p := ⟨W.heap.size, 0, none⟩) hlt1).trans d0
    have e1 := (hb14.cell (p := ⟨W.heap.size, 1, none⟩) hlt1).trans d1
    have HB4 := Lib.hid (HB1.out.trans (hb14.mono HB1.out.size))
    clear hb4 hn4 hb14 d0 d1 hlt1
    go_wp2_with fail
    refine (HREF.out U4 HB4.out).mono ?_
    rintro e w5 ⟨rfl, hb5⟩
    have q41 := (hb5.cell (p := ⟨w4.heap.size, 1, none⟩) hz4).trans p41
    have HB5 := Lib.hid (HWV.out.trans ((HB4.out.trans (hb5.mono HB4.out.size)).mono HWV.out.size))
    clear hb5 p40 p41 hz4 hU4 y0' y1' y2' y3' e0 e1
    go_wp2_with fail
    go_ret
    exact ⟨ret_bool (by simp), HB5.out⟩
end Go.Proofs.Ythhkngpbaflfiaa.preprocStrong
