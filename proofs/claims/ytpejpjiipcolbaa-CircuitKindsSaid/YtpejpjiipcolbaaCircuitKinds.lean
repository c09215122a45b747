/-
  interlocklaw03.CircuitKinds: the walk: of a circuit that may be each variable that a gate names is something.
-/
import Derived.Test.YtpejpjiipcolbaaCheckP
import Derived.Test.YtpejpjiipcolbaaAlive3
namespace Go.Proofs.Ytpejpjiipcolbaa.circuitKinds
open Go.RowKit Base Circuit
set_option linter.unusedVariables false
set_option linter.unusedSimpArgs false

set_option maxRecDepth 8000 in
set_option maxHeartbeats 16000000 in
theorem walk (x : Circ) (p : At) {w : World} (hin : InCirc w x p) (hw : WfC x) (hz : x.ands.length * 24 ≤ 140737488351232) (W : World) (hW : W = w) :
    Calls Try.prog 3 #[.agg (cells x p)] W fun e W' => e = .returned (.bool true) ∧ Below W.heap.size W W' := by
  subst hW
  obtain ⟨W1, hW1⟩ : ∃ W1, W.alloc (.cells (cells x p) 27) = W1 := ⟨_, rfl⟩
  obtain ⟨hb1, hcb⟩ := cbox_new W x p W1 hW1
  have HB1 := Lib.hid hb1
  have KB := Lib.hid (fun (U : World) (hU : Below W1.heap.size W1 U) => hcb.next hU (Nat.le_refl _))
  have HIN := Lib.hid (fun (U : World) (hU : Below W1.heap.size W1 U) => (hin.next hb1).next hU)
  have HAL := Lib.hid (alive_any W1)
  have HCK := fun (U : World) (hU : Below W1.heap.size W1 U) => check_any U x p (HIN.out U hU) hw.ins hw.outs hw.bads hw.invs hw.lats hw.ands hw.mx
  have HRC := fun (U : World) (hU : Below W1.heap.size W1 U) => refCheck_any U x p (HIN.out U hU) hw (by omega)
  have HKD := fun (U : World) (hU : Below W1.heap.size W1 U) (v : Int) => kind_any U x p (HIN.out U hU) hw.ins hw.lats hw.ands v
  have HW := Lib.hid hw
  obtain ⟨a1, c1, a2, c2, a3, c3, a4, c4, a5, c5, a6, c6, a7, c7⟩ := p
  simp only [cells] at hW1 HCK HRC HKD ⊢
  clear hin hw hz hb1 hcb
  by_cases hok : CheckOk x
  · rw [chk_pos hok] at HCK
    have HC := Lib.hid HCK
    have HK := Lib.hid HKD
    have HOK := Lib.hid hok
    clear HCK HRC HKD hok
    go_enter Try.func3, Try.ntmps3
    go_wp2_with fail
    clear hW1
    with_reducible refine HAL.out.mono ?_
    rintro e w2 ⟨rfl, hb2⟩
    have HB2 := Lib.hid hb2
    have CB := KB.out w2 hb2
    have m0 : w2.cell? ⟨W.heap.size, 0, none⟩ = some (.int .i64 x.max) := CB.k0
    have m1 : w2.cell? ⟨W.heap.size, 1, none⟩ = some (.slice a1 x.ins.length c1) := CB.k1
    have m2 : w2.cell? ⟨W.heap.size, 2, none⟩ = some (.slice a2 x.lats.length c2) := CB.k2
    have m3 : w2.cell? ⟨W.heap.size, 3, none⟩ = some (.slice a3 x.outs.length c3) := CB.k3
    have m4 : w2.cell? ⟨W.heap.size, 4, none⟩ = some (.slice a4 x.bads.length c4) := CB.k4
    have m5 : w2.cell? ⟨W.heap.size, 5, none⟩ = some (.slice a5 x.invs.length c5) := CB.k5
    have m6 : w2.cell? ⟨W.heap.size, 6, none⟩ = some (.slice a6 x.ands.length c6) := CB.k6
    have m7 : w2.cell? ⟨W.heap.size, 7, none⟩ = some (.slice a7 x.names.length c7) := CB.k7
    have HC2 := Lib.hid (HC.out w2 hb2)
    clear hb2 CB
    go_wp2_with fail
    with_reducible refine HC2.out.mono ?_
    rintro e w3 ⟨rfl, hb3⟩
    have HB3 := Lib.hid (HB2.out.trans (hb3.mono HB2.out.size))
    clear hb3 m0 m1 m2 m3 m4 m5 m6 m7
    go_wp2_with fail
    go_loopw [3] (fun s wr => ∃ k : Nat, k ≤ x.ands.length ∧ s = .int .i64 k ∧ Hid (Below W1.heap.size W1 wr)) (fun s _ => x.ands.length - (intOf s).toNat)
    case atStart => exact ⟨0, Nat.zero_le _, rfl, HB3.out⟩
    case round =>
      obtain ⟨k, hk, rfl, hB⟩ := hrel
      have j6 : wr.cell? ⟨W.heap.size, 6, none⟩ = some (.slice a6 x.ands.length c6) := (KB.out wr hB.out).k6
      have hsl := (HIN.out wr hB.out).ands
      have hca := hsl.cap
      have hga := hsl.big
      simp only at hca hga
      by_cases hlt : k < x.ands.length
      · obtain ⟨b, o, hx, hae, hbs, d0, d1, d2⟩ := hsl.tri hlt
        simp only at hae
        subst hae
        obtain ⟨g1, g2, g3, g4, g5⟩ := and_kind HOK.out (List.getElem_mem hx)
        obtain ⟨f1, f2, f3, f4⟩ := HOK.out.2.2.2.1 _ (List.getElem_mem hx)
        have hl64 := HW.out.ands _ (List.getElem_mem hx)
        generalize x.ands[k] = t at *
        obtain ⟨U, hU⟩ : ∃ U, wr.alloc (.cells (triC t) 33) = U := ⟨_, rfl⟩
        obtain ⟨hbU, htb⟩ := tbox_new wr t 33 U hU
        have n1 := f1.1
        have n2 := f2.1
        have q1 : t.1.tdiv 2 = t.1 / 2 := Int.tdiv_eq_ediv_of_nonneg (by omega)
        have q2 : t.2.1.tdiv 2 = t.2.1 / 2 := Int.tdiv_eq_ediv_of_nonneg n1
        have q3 : t.2.2.tdiv 2 = t.2.2 / 2 := Int.tdiv_eq_ediv_of_nonneg n2
        have hp1 : 0 ≤ t.1 := by omega
        obtain ⟨⟨_, ub1⟩, ⟨_, ub2⟩, ⟨_, ub3⟩⟩ := hl64
        have hg4 : decide (t.1 / 2 ≤ t.2.1 / 2) = false := decide_eq_false (by omega)
        have hg5 : decide (t.1 / 2 ≤ t.2.2 / 2) = false := decide_eq_false (by omega)
        have hbx := hB.out.trans (hbU.mono hB.out.size)
        have HBU := Lib.hid hbx
        have K1 := HK.out U hbx (t.1 / 2)
        rw [g1] at K1
        have HK1 := Lib.hid K1
        have HTB := Lib.hid htb
        have t0 := htb.t0
        have CB := KB.out U hbx
        have m0 : U.cell? ⟨W.heap.size, 0, none⟩ = some (.int .i64 x.max) := CB.k0
        have m1 : U.cell? ⟨W.heap.size, 1, none⟩ = some (.slice a1 x.ins.length c1) := CB.k1
        have m2 : U.cell? ⟨W.heap.size, 2, none⟩ = some (.slice a2 x.lats.length c2) := CB.k2
        have m3 : U.cell? ⟨W.heap.size, 3, none⟩ = some (.slice a3 x.outs.length c3) := CB.k3
        have m4 : U.cell? ⟨W.heap.size, 4, none⟩ = some (.slice a4 x.bads.length c4) := CB.k4
        have m5 : U.cell? ⟨W.heap.size, 5, none⟩ = some (.slice a5 x.invs.length c5) := CB.k5
        have m6 : U.cell? ⟨W.heap.size, 6, none⟩ = some (.slice (some ⟨b, o, none⟩) x.ands.length c6) := CB.k6
        have m7 : U.cell? ⟨W.heap.size, 7, none⟩ = some (.slice a7 x.names.length c7) := CB.k7
        have hl97 : ((⟨#[97]⟩ : ByteArray).toList == [97]) = true := by rw [Lib.toList_data]; rfl
        have HG2 : Hid (((kindOf x (t.2.1 / 2)).toList == []) = false) := by
          show _ = _
          cases h : (kindOf x (t.2.1 / 2)).toList with
          | nil => rw [h] at g2; simp at g2
          | cons a b => rfl
        have HG3 : Hid (((kindOf x (t.2.2 / 2)).toList == []) = false) := by
          show _ = _
          cases h : (kindOf x (t.2.2 / 2)).toList with
          | nil => rw [h] at g3; simp at g3
          | cons a b => rfl
        simp only [triC] at hU
        clear K1 g1 g2 g3 g4 g5 f1 f2 f3 f4 hbx htb CB hsl hbs hbU hB
        go_wp2_with fail
        with_reducible refine HK1.out.mono ?_
        rintro e w4 ⟨rfl, hb4⟩
        have hbx := HBU.out.trans (hb4.mono HBU.out.size)
        have HB4 := Lib.hid hbx
        have T4 := HTB.out.next hb4 (Nat.le_refl _)
        have s0 := T4.t0
        have s1 := T4.t1
        have s2 := T4.t2
        have HT4 := Lib.hid T4
        have HK2 := Lib.hid (HK.out w4 hbx (t.2.1 / 2))
        have CB := KB.out w4 hbx
        have hg2 := HG2.out
        clear m0 m1 m2 m3 m4 m5 m6 m7 hb4 T4 t0 j6 hU d0 d1 d2
        have m0 : w4.cell? ⟨W.heap.size, 0, none⟩ = some (.int .i64 x.max) := CB.k0
        have m1 : w4.cell? ⟨W.heap.size, 1, none⟩ = some (.slice a1 x.ins.length c1) := CB.k1
        have m2 : w4.cell? ⟨W.heap.size, 2, none⟩ = some (.slice a2 x.lats.length c2) := CB.k2
        have m3 : w4.cell? ⟨W.heap.size, 3, none⟩ = some (.slice a3 x.outs.length c3) := CB.k3
        have m4 : w4.cell? ⟨W.heap.size, 4, none⟩ = some (.slice a4 x.bads.length c4) := CB.k4
        have m5 : w4.cell? ⟨W.heap.size, 5, none⟩ = some (.slice a5 x.invs.length c5) := CB.k5
        have m6 : w4.cell? ⟨W.heap.size, 6, none⟩ = some (.slice (some ⟨b, o, none⟩) x.ands.length c6) := CB.k6
        have m7 : w4.cell? ⟨W.heap.size, 7, none⟩ = some (.slice a7 x.names.length c7) := CB.k7
        clear CB hbx
        go_wp2_with fail
        with_reducible refine HK2.out.mono ?_
        rintro e w5 ⟨rfl, hb5⟩
        have hbx := HB4.out.trans (hb5.mono HB4.out.size)
        have HB5 := Lib.hid hbx
        have T5 := HT4.out.next hb5 (Nat.le_refl _)
        have r0 := T5.t0
        have r1 := T5.t1
        have r2 := T5.t2
        have HT5 := Lib.hid T5
        have HK3 := Lib.hid (HK.out w5 hbx (t.2.2 / 2))
        have CB := KB.out w5 hbx
        have hg3 := HG3.out
        clear m0 m1 m2 m3 m4 m5 m6 m7 hb5 T5 s0 s1 s2
        have m0 : w5.cell? ⟨W.heap.size, 0, none⟩ = some (.int .i64 x.max) := CB.k0
        have m1 : w5.cell? ⟨W.heap.size, 1, none⟩ = some (.slice a1 x.ins.length c1) := CB.k1
        have m2 : w5.cell? ⟨W.heap.size, 2, none⟩ = some (.slice a2 x.lats.length c2) := CB.k2
        have m3 : w5.cell? ⟨W.heap.size, 3, none⟩ = some (.slice a3 x.outs.length c3) := CB.k3
        have m4 : w5.cell? ⟨W.heap.size, 4, none⟩ = some (.slice a4 x.bads.length c4) := CB.k4
        have m5 : w5.cell? ⟨W.heap.size, 5, none⟩ = some (.slice a5 x.invs.length c5) := CB.k5
        have m6 : w5.cell? ⟨W.heap.size, 6, none⟩ = some (.slice (some ⟨b, o, none⟩) x.ands.length c6) := CB.k6
        have m7 : w5.cell? ⟨W.heap.size, 7, none⟩ = some (.slice a7 x.names.length c7) := CB.k7
        clear CB hbx
        go_wp2_with fail
        with_reducible refine HK3.out.mono ?_
        rintro e w6 ⟨rfl, hb6⟩
        have HB6 := Lib.hid (HB5.out.trans (hb6.mono HB5.out.size))
        have T6 := HT5.out.next hb6 (Nat.le_refl _)
        have z0 := T6.t0
        have z1 := T6.t1
        have z2 := T6.t2
        clear m0 m1 m2 m3 m4 m5 m6 m7 hb6 T6 r0 r1 r2
        go_wp2_with fail
        go_roundw
        case rel => exact ⟨k + 1, by omega, by go_num, HB6.out⟩
        case measure => simp [intOf]; omega
      · have HX := Lib.hid (HB1.out.trans (hB.out.mono HB1.out.size))
        clear hB hsl
        go_wp2_with fail
        go_ret
        exact ⟨rfl, HX.out⟩
  · rw [chk_neg hok] at HCK
    rw [refchk_eq, chk_neg hok] at HRC
    have HC := Lib.hid HCK
    have HR := Lib.hid HRC
    clear HCK HRC HKD hok
    go_enter Try.func3, Try.ntmps3
    go_wp2_with fail
    clear hW1
    with_reducible refine HAL.out.mono ?_
    rintro e w2 ⟨rfl, hb2⟩
    have HB2 := Lib.hid hb2
    have CB := KB.out w2 hb2
    have m0 : w2.cell? ⟨W.heap.size, 0, none⟩ = some (.int .i64 x.max) := CB.k0
    have m1 : w2.cell? ⟨W.heap.size, 1, none⟩ = some (.slice a1 x.ins.length c1) := CB.k1
    have m2 : w2.cell? ⟨W.heap.size, 2, none⟩ = some (.slice a2 x.lats.length c2) := CB.k2
    have m3 : w2.cell? ⟨W.heap.size, 3, none⟩ = some (.slice a3 x.outs.length c3) := CB.k3
    have m4 : w2.cell? ⟨W.heap.size, 4, none⟩ = some (.slice a4 x.bads.length c4) := CB.k4
    have m5 : w2.cell? ⟨W.heap.size, 5, none⟩ = some (.slice a5 x.invs.length c5) := CB.k5
    have m6 : w2.cell? ⟨W.heap.size, 6, none⟩ = some (.slice a6 x.ands.length c6) := CB.k6
    have m7 : w2.cell? ⟨W.heap.size, 7, none⟩ = some (.slice a7 x.names.length c7) := CB.k7
    have HC2 := Lib.hid (HC.out w2 hb2)
    clear hb2 CB
    go_wp2_with fail
    with_reducible refine HC2.out.mono ?_
    rintro e w3 ⟨rfl, hb3⟩
    have hbx := HB2.out.trans (hb3.mono HB2.out.size)
    have HB3 := Lib.hid hbx
    have HR3 := Lib.hid (HR.out w3 hbx)
    have CB := KB.out w3 hbx
    clear hb3 m0 m1 m2 m3 m4 m5 m6 m7 hbx
    have m0 : w3.cell? ⟨W.heap.size, 0, none⟩ = some (.int .i64 x.max) := CB.k0
    have m1 : w3.cell? ⟨W.heap.size, 1, none⟩ = some (.slice a1 x.ins.length c1) := CB.k1
    have m2 : w3.cell? ⟨W.heap.size, 2, none⟩ = some (.slice a2 x.lats.length c2) := CB.k2
    have m3 : w3.cell? ⟨W.heap.size, 3, none⟩ = some (.slice a3 x.outs.length c3) := CB.k3
    have m4 : w3.cell? ⟨W.heap.size, 4, none⟩ = some (.slice a4 x.bads.length c4) := CB.k4
    have m5 : w3.cell? ⟨W.heap.size, 5, none⟩ = some (.slice a5 x.invs.length c5) := CB.k5
    have m6 : w3.cell? ⟨W.heap.size, 6, none⟩ = some (.slice a6 x.ands.length c6) := CB.k6
    have m7 : w3.cell? ⟨W.heap.size, 7, none⟩ = some (.slice a7 x.names.length c7) := CB.k7
    clear CB
    go_wp2_with fail
    with_reducible refine HR3.out.mono ?_
    rintro e w4 ⟨rfl, hb4⟩
    have HB4 := Lib.hid (HB1.out.trans ((HB3.out.trans (hb4.mono HB3.out.size)).mono HB1.out.size))
    clear hb4 m0 m1 m2 m3 m4 m5 m6 m7
    go_wp2_with fail
    go_ret
    exact ⟨rfl, HB4.out⟩
end Go.Proofs.Ytpejpjiipcolbaa.circuitKinds
