/-
  Several texts in one (written by merge2.py): XPath XSmallC
-/
import Derived.Test.YtjmmhbmbafjneaaGreatDoorEnumTM2
import Derived.Test.YtjmmhbmbafjneaaGreatDoorEnumTM6
import Derived.Test.YtjmmhbmbafjneaaGreatDoorEnumTM5
import Derived.Test.YtjmmhbmbafjneaaGreatDoorEnumTM3
import Derived.Test.YtjmmhbmbafjneaaGreatDoorEnumTM1
import Derived.Test.YtjmmhbmbafjneaaGreatDoorCBox
/-
  interlockref07.Path (written by path.py).
-/
namespace Go.Proofs.YtjmmhbmbafjneaaGreatDoor
open Go.RowKit Base
set_option linter.unusedVariables false
set_option linter.unusedSimpArgs false
namespace Spr
open Circuit StrashP Coi BadP

theorem drop_one {α : Type} {l : List α} {k : Nat} (h : k < l.length) : l.drop k = l[k] :: l.drop (k + 1) := List.drop_eq_getElem_cons h
theorem loop_no {x : Circ} {A : List (List Int)} {b : Int} {t q : List Bool} {r : List (List Bool)} (h : allow x A (vals x t q) = false) : loopP x A b t (q :: r) = 51 := by
  show (if (allow x A (vals x t q) && _) = true then _ else (51 : Int)) = 51
  rw [h]; rfl
theorem loop_last {x : Circ} {A : List (List Int)} {b : Int} {t q : List Bool} (h : litV (vals x t q) b = false) : loopP x A b t [q] = 51 := by
  show (if (allow x A (vals x t q) && (false || litV (vals x t q) b)) = true then _ else (51 : Int)) = 51
  rw [h]; simp
theorem loop_yes {x : Circ} {A : List (List Int)} {b : Int} {t q : List Bool} {r : List (List Bool)} (h : allow x A (vals x t q) = true) (h2 : r = [] → litV (vals x t q) b = true) : loopP x A b t (q :: r) = loopP x A b (next x t q) r := by
  show (if (allow x A (vals x t q) && (!r.isEmpty || litV (vals x t q) b)) = true then _ else (51 : Int)) = _
  rw [h]
  cases r with
  | nil => rw [h2 rfl]; rfl
  | cons y s => rfl

set_option maxRecDepth 8000 in
set_option maxHeartbeats 16000000 in
theorem path_any (w : World) (x : Circ) (p : At) (hin : InCirc w x p) (hw : WfC x) (hok : CheckOk x) (hza : x.ands.length * 24 ≤ 140737488355328) (aA : Option Addr) (n cA : Nat) (vs : List Value) (A : List (List Int)) (hA : Sl2 w aA n cA vs A) (hA64 : ∀ y ∈ A.flatten, -9223372036854775808 ≤ y ∧ y ≤ 9223372036854775807)
    (kb : Nat) (hkb : kb < x.bads.length) (s : List Bool) (hs : initL x s) (aI : Option Addr) (cI : Nat) (inp : List (List Bool)) (hI : Sl w aI inp.length cI (inp.map fun q => Value.string (bs q))) (hIl : ∀ q ∈ inp, q.length = x.ins.length) :
    Calls Tryz.prog 18 #[.agg (cells x p), .slice aA n cA, .agg #[.int .i64 (kb : Int), .string (bs s), .slice aI inp.length cI]] w fun e w' => e = .returned (.int .i64 (pathE x A x.bads[kb] s inp)) ∧ Below w.heap.size w w' := by
  obtain ⟨W1, hW1⟩ : ∃ U, w.alloc (.cells (cells x p) 27) = U := ⟨_, rfl⟩
  obtain ⟨hb1, hx1⟩ := cbox_new w x p W1 hW1
  obtain ⟨W2, hW2⟩ : ∃ U, W1.alloc (.cells #[.int .i64 (kb : Int), .string (bs s), .slice aI inp.length cI] 44) = U := ⟨_, rfl⟩
  have hb2 : Below W1.heap.size W1 W2 := by rw [← hW2]; exact (Below.refl _ _).alloc (Nat.le_refl _) _
  have hx2 : BoxN W1.heap.size [.int .i64 (kb : Int), .string (bs s), .slice aI inp.length cI] W2 := by rw [← hW2]; exact BoxN.new W1 _ _
  have hb02 : Below w.heap.size w W2 := hb1.trans (hb2.mono hb1.size)
  have HB2 := Lib.hid hb02
  have HX := Lib.hid (fun (U : World) (hU : Below W2.heap.size W2 U) => (hx1.next hb2 (Nat.le_refl _)).next hU (Nat.le_refl _))
  have HW := Lib.hid (fun (U : World) (hU : Below W2.heap.size W2 U) => hx2.next hU hx2.lt)
  have HT := Lib.hid (fun (U : World) (hU : Below W2.heap.size W2 U) => hU)
  have HIN := Lib.hid (fun (U : World) (hU : Below W2.heap.size W2 U) => hin.next (hb02.trans (hU.mono hb02.size)))
  have HII := Lib.hid (fun (U : World) (hU : Below W2.heap.size W2 U) => hI.next (hb02.trans (hU.mono hb02.size)))
  have HCK := refCheck_any W2 x p (HIN.out W2 (Below.refl _ _)) hw hza
  rw [refchk_pos ((check_iff _).1 hok)] at HCK
  have hsl : s.length = x.lats.length := hs.1
  have hvl : ∀ s i, (vals x s i).length ≤ 9223372036854775807 := fun s i => by rw [vals_len]; have := hok.1.2.1; omega
  have HVA := fun (U : World) (hU : Below W2.heap.size W2 U) (t q : List Bool) (ht : t.length = x.lats.length) (hq : q.length = x.ins.length) => values_any U x p (HIN.out U hU) hw hok hza t q ht hq
  have HNA := fun (U : World) (hU : Below W2.heap.size W2 U) (t q : List Bool) (ht : t.length = x.lats.length) (hq : q.length = x.ins.length) => next_any U x p (HIN.out U hU) hw hok hza t q ht hq
  have HAA := fun (U : World) (hU : Below W2.heap.size W2 U) (t q : List Bool) => allowed_any U x p (HIN.out U hU) (vals x t q) (hvl t q) (lits_in hok hw).2.1 aA n cA vs A (hA.next (hb02.trans (hU.mono hb02.size))) hA64
  have HTA := Lib.hid (fun (U : World) (t q : List Bool) => refTrue_any U (vals x t q) x.bads[kb] (by have := ((lits_in hok hw).1 _ (List.getElem_mem hkb)).1; omega) ((lits_in hok hw).1 _ (List.getElem_mem hkb)).2 (hvl t q))
  have hfl : x.lats.length ≤ 64 := hok.1.2.2.2.1
  have hfi : x.ins.length ≤ 1000000 := by have := hok.1.2.2.1; omega
  have HIA := fun (U : World) (hU : Below W2.heap.size W2 U) => Initial.initial_any U x p (HIN.out U hU) (bs s) (by rw [bs_size]; omega)
  rw [init_eq hsl, tt_pos hs] at HIA
  have HBS := Lib.hid (fun (U : World) => RefBits.bits_any U (bs s) (by rw [bs_size]; omega) (x.lats.length : Int))
  rw [bits_bs s hsl] at HBS
  have HBQ := Lib.hid (fun (U : World) (q : List Bool) (hq : q ∈ inp) => RefBits.bits_any U (bs q) (by rw [bs_size, hIl q hq]; omega) (x.ins.length : Int))
  have HBR := Lib.hid (fun (q : List Bool) (hq : q ∈ inp) => bits_bs q (hIl q hq))
  have HIL := Lib.hid hIl
  have HSL := Lib.hid hsl
  have hcI := hI.cap
  have hgI := hI.big
  have hcb := hin.bads.cap
  have hgb := hin.bads.big
  have hcl := hin.lats.cap
  have hgl := hin.lats.big
  have hci := hin.ins.cap
  have hgi := hin.ins.big
  have HPE : Hid (pathE x A x.bads[kb] s inp = if inp = [] then 8 else loopP x A x.bads[kb] s inp) := rfl
  have HBC := Lib.hid (fun (U : World) (hU : Below W2.heap.size W2 U) => (HIN.out U hU).bads.int hkb)
  have HKB := Lib.hid hkb
  obtain ⟨a1, c1, a2, c2, a3, c3, a4, c4, a5, c5, a6, c6, a7, c7⟩ := p
  simp only [cells] at hW1 HCK HVA HNA HAA HIA hcb hgb hcl hgl hci hgi ⊢
  have HC1 := Lib.hid HCK
  have HVV := Lib.hid HVA
  have HNV := Lib.hid HNA
  have HAV := Lib.hid HAA
  have HIV := Lib.hid HIA
  clear hin hw hok hza hA hA64 hs hI hIl hb1 hx1 hb2 hx2 hb02 HCK hsl HVA HNA HAA HIA hvl
  generalize hsB : bs s = sB at *
  have HSB := Lib.hid hsB
  clear hsB
  generalize pathE x A x.bads[kb] s inp = PE at *
  have HLB : Hid (∃ g o, a4 = some ⟨g, o, none⟩ ∧ g < W2.heap.size ∧ W2.cell? ⟨g, o + kb, none⟩ = some (.int .i64 x.bads[kb])) := by
    obtain ⟨g, o, hx, ha, hg, hc⟩ := HBC.out W2 (Below.refl _ _)
    exact ⟨g, o, ha, hg, hc⟩
  clear HBC
  generalize x.bads[kb] = bl at *
  have hkbI : (kb : Int) < (x.bads.length : Int) := by omega
  have hkb0 : ¬ (kb : Int) < 0 := by omega
  obtain ⟨g4, o4, ha4, hg4, hc4⟩ := HLB.out
  subst ha4
  have HL4 : Hid (∀ U, Below W2.heap.size W2 U → U.cell? ⟨g4, o4 + kb, none⟩ = some (.int .i64 bl)) := fun U hU => (hU.cell (p := ⟨g4, o4 + kb, none⟩) hg4).trans hc4
  clear HLB hg4 hc4
  have c := HX.out W2 (Below.refl _ _)
  have k0 := c.k0
  have k1 := c.k1
  have k2 := c.k2
  have k3 := c.k3
  have k4 := c.k4
  have k5 := c.k5
  have k6 := c.k6
  have k7 := c.k7
  clear c
  try simp only at k0 k1 k2 k3 k4 k5 k6 k7
  have d := HW.out W2 (Below.refl _ _)
  have j0 := d.at' 0 _ rfl
  have j1 := d.at' 1 _ rfl
  have j2 := d.at' 2 _ rfl
  clear d
  by_cases hne : inp = []
  · subst hne
    have HR : Hid (PE = 8) := HPE.out
    simp only [List.length_nil] at *
    go_enter Tryz.func18, Tryz.ntmps18
    go_wp2_with fail
    clear hW1 hW2
    with_reducible refine HC1.out.mono ?_
    rintro e w3 ⟨rfl, hb3⟩
    have HB3 := Lib.hid hb3
    clear k0 k1 k2 k3 k4 k5 k6 k7 j0 j1 j2
    have k4 := (HX.out w3 hb3).k4
    have j0 := (HW.out w3 hb3).at' 0 _ rfl
    have j2 := (HW.out w3 hb3).at' 2 _ rfl
    clear hb3
    try simp only at k4
    go_wp2_with fail
    go_ret
    exact ⟨ret_int HR.out.symm, HB2.out.trans (HB3.out.mono HB2.out.size)⟩
  · have HR : Hid (PE = loopP x A bl s inp) := by show _ = _; rw [HPE.out, if_neg hne]
    have hlp : 0 < inp.length := List.length_pos_iff.2 hne
    have hl0 : ((inp.length : Int) == 0) = false := by simp; omega
    clear hne HPE
    go_enter Tryz.func18, Tryz.ntmps18
    go_wp2_with fail
    clear hW1 hW2
    with_reducible refine HC1.out.mono ?_
    rintro e w3 ⟨rfl, hb3⟩
    have HB3 := Lib.hid hb3
    clear k0 k1 k2 k3 k4 k5 k6 k7 j0 j1 j2
    have k4 := (HX.out w3 hb3).k4
    have k2 := (HX.out w3 hb3).k2
    have j0 := (HW.out w3 hb3).at' 0 _ rfl
    have j1 := (HW.out w3 hb3).at' 1 _ rfl
    have j2 := (HW.out w3 hb3).at' 2 _ rfl
    clear hb3
    try simp only at k4 k2
    go_wp2_with fail
    with_reducible refine (HBS.out _).mono ?_
    rintro e w4 ⟨rfl, rfl⟩
    go_wp2_with fail
    clear k4 k2 j0 j1 j2
    go_loopw [7] (fun i wr => ∃ k : Nat, k ≤ inp.length ∧ i = .int .i64 k ∧ Hid (Below W2.heap.size W2 wr)) (fun i _ => inp.length - (Go.RowKit.intOf i).toNat)
    case atStart => exact ⟨0, Nat.zero_le _, rfl, by first | exact HB3.out | exact below_drewN HB3.out _⟩
    case round =>
      obtain ⟨k, hk, rfl, HB⟩ := hrel
      generalize wr = ws at *
      have k1 := (HX.out ws HB.out).k1
      have j2 := (HW.out ws HB.out).at' 2 _ rfl
      try simp only at k1
      by_cases hlt : k < inp.length
      · obtain ⟨b, o, ha, hbs, hc⟩ := (HII.out ws HB.out).cell k (.string (bs inp[k])) (by rw [List.getElem?_map, List.getElem?_eq_getElem hlt]; rfl)
        subst ha
        have HHU := fun n => HBQ.out (ws.drewN n) inp[k] (List.getElem_mem hlt)
        rw [HBR.out _ (List.getElem_mem hlt)] at HHU
        have HHV := Lib.hid HHU
        clear HHU
        generalize bs inp[k] = qB at *
        go_upto_region 12 with fail
        go_quiet ((go_at_call 43; exact Calls.quiet_of_same ((HHV.out _).mono fun e w' h => ⟨h.1, h.2.symm⟩)))
        go_wp2_with fail
        go_roundw
        case rel => exact ⟨k + 1, by omega, by go_num, below_drewN HB.out _⟩
        case measure => simp [Go.RowKit.intOf]; omega
      · have hend : k = inp.length := by omega
        subst hend
        have j1 := (HW.out ws HB.out).at' 1 _ rfl
        have j0 := (HW.out ws HB.out).at' 0 _ rfl
        have HI1 := Lib.hid (HIV.out ws HB.out)
        clear k1
        have c := HX.out ws (HB.out)
        have k0 := c.k0
        have k1 := c.k1
        have k2 := c.k2
        have k3 := c.k3
        have k4 := c.k4
        have k5 := c.k5
        have k6 := c.k6
        have k7 := c.k7
        clear c
        try simp only at k0 k1 k2 k3 k4 k5 k6 k7
        go_wp2_with fail
        with_reducible refine HI1.out.mono ?_
        rintro e w5 ⟨rfl, hb5⟩
        have HB5 := Lib.hid (HB.out.trans (hb5.mono HB.out.size))
        clear k0 k1 k2 k3 k4 k5 k6 k7 j0 j1 j2 hb5 hk hlt
        have j1 := (HW.out w5 HB5.out).at' 1 _ rfl
        go_wp2_with fail
        clear j1
        go_loopw [8, 9] (fun u i wr => ∃ (k : Nat) (t : List Bool), k ≤ inp.length ∧ i = .int .i64 k ∧ u = .string (bs t) ∧ Hid (t.length = x.lats.length) ∧ Hid (PE = loopP x A bl t (inp.drop k)) ∧ Hid (Below W2.heap.size W2 wr)) (fun u i _ => inp.length - (Go.RowKit.intOf i).toNat)
        case atStart => exact ⟨0, s, Nat.zero_le _, rfl, by rw [HSB.out], HSL.out, HR.out, HB5.out⟩
        case round =>
          obtain ⟨k, t, hk, rfl, rfl, HTL, HP, HB⟩ := hrel
          generalize wr = wt at *
          have j2 := (HW.out wt HB.out).at' 2 _ rfl
          by_cases hlt : k < inp.length
          · obtain ⟨bq, oq, ha, hbs, hc⟩ := (HII.out wt HB.out).cell k (.string (bs inp[k])) (by rw [List.getElem?_map, List.getElem?_eq_getElem hlt]; rfl)
            subst ha
            have HTB := Lib.hid (fun (U : World) (hU : Below wt.heap.size wt U) => HB.out.trans (hU.mono HB.out.size))
            have HQ0 : Hid (∀ U, Below wt.heap.size wt U → U.cell? ⟨bq, oq + k, none⟩ = some (.string (bs inp[k]))) := fun U hU => (hU.cell (p := ⟨bq, oq + k, none⟩) hbs).trans hc
            have HQL := Lib.hid (HIL.out _ (List.getElem_mem hlt))
            have HCV := Lib.hid (HVV.out wt.drew (HB.out.trans ((Below.refl wt.heap.size wt).drew.mono HB.out.size)) t inp[k] HTL.out HQL.out)
            have HNW := Lib.hid (fun (U : World) (hU : Below W2.heap.size W2 U) => HNV.out U hU t inp[k] HTL.out HQL.out)
            have HAW := Lib.hid (fun (U : World) (hU : Below W2.heap.size W2 U) => HAV.out U hU t inp[k])
            have HTW := Lib.hid (fun (U : World) => HTA.out U t inp[k])
            have HP2 : Hid (PE = loopP x A bl t (inp[k] :: inp.drop (k + 1))) := by show _ = _; rw [HP.out, drop_one hlt]
            have HNL : Hid ((next x t inp[k]).length = x.lats.length) := next_len _ _ _
            generalize inp[k] = q at *
            clear hbs hc j2 HP
            have HP3 : Hid (allow x A (vals x t q) = false → PE = 51) := fun h => by rw [HP2.out]; exact loop_no h
            have HP4 : Hid (inp.length = k + 1 → litV (vals x t q) bl = false → PE = 51) := fun h h2 => by rw [HP2.out, List.drop_of_length_le (by omega)]; exact loop_last h2
            have HP5 : Hid (allow x A (vals x t q) = true → (inp.length = k + 1 → litV (vals x t q) bl = true) → PE = loopP x A bl (next x t q) (inp.drop (k + 1))) := fun h h2 => by
              rw [HP2.out]
              exact loop_yes h (fun he => h2 (by have := List.drop_eq_nil_iff.1 he; omega))
            clear HP2
            generalize bs t = tB at *
            generalize bs q = qB at *
            have HNX := Lib.hid (rfl : bs (next x t q) = bs (next x t q))
            generalize vals x t q = V at *
            generalize hnx : next x t q = t2 at *
            clear hnx
            have HQC : Hid (∀ U, Below W2.heap.size W2 U → Below wt.heap.size wt U → U.cell? ⟨bq, oq + k, none⟩ = some (.string qB)) := fun U _ hU => HQ0.out U hU
            have j2 := (HW.out wt HB.out).at' 2 _ rfl
            go_upto_region 20 with fail
            clear j2
            have hSK : ∀ U : World, Below wt.heap.size wt U → U.cell? ⟨w.heap.size, 0, none⟩ = some (.int .i64 x.max) ∧ U.cell? ⟨w.heap.size, 1, none⟩ = some (.slice a1 x.ins.length c1) ∧ U.cell? ⟨w.heap.size, 2, none⟩ = some (.slice a2 x.lats.length c2) ∧ U.cell? ⟨w.heap.size, 3, none⟩ = some (.slice a3 x.outs.length c3) ∧ U.cell? ⟨w.heap.size, 4, none⟩ = some (.slice (some ⟨g4, o4, none⟩) x.bads.length c4) ∧ U.cell? ⟨w.heap.size, 5, none⟩ = some (.slice a5 x.invs.length c5) ∧ U.cell? ⟨w.heap.size, 6, none⟩ = some (.slice a6 x.ands.length c6) ∧ U.cell? ⟨w.heap.size, 7, none⟩ = some (.slice a7 x.names.length c7) ∧ U.cell? ⟨W1.heap.size, 0, none⟩ = some (.int .i64 (kb : Int)) ∧ U.cell? ⟨W1.heap.size, 1, none⟩ = some (.string sB) ∧ U.cell? ⟨W1.heap.size, 2, none⟩ = some (.slice (some ⟨bq, oq, none⟩) inp.length cI) ∧ U.cell? ⟨bq, oq + k, none⟩ = some (.string qB) := fun U hU => by
              have c := HX.out U ((HT.out U (HTB.out U hU)))
              have d := HW.out U ((HTB.out U hU))
              exact ⟨c.k0, c.k1, c.k2, c.k3, c.k4, c.k5, c.k6, c.k7, d.at' 0 _ rfl, d.at' 1 _ rfl, d.at' 2 _ rfl, HQ0.out U hU⟩
            have hS0 := hSK _ (Below.refl wt.heap.size wt).drew
            have hkI : (k : Int) < (inp.length : Int) := by omega
            refine HeldAll.region (fun U : World => U.cell? ⟨w.heap.size, 0, none⟩ = some (.int .i64 x.max) ∧ U.cell? ⟨w.heap.size, 1, none⟩ = some (.slice a1 x.ins.length c1) ∧ U.cell? ⟨w.heap.size, 2, none⟩ = some (.slice a2 x.lats.length c2) ∧ U.cell? ⟨w.heap.size, 3, none⟩ = some (.slice a3 x.outs.length c3) ∧ U.cell? ⟨w.heap.size, 4, none⟩ = some (.slice (some ⟨g4, o4, none⟩) x.bads.length c4) ∧ U.cell? ⟨w.heap.size, 5, none⟩ = some (.slice a5 x.invs.length c5) ∧ U.cell? ⟨w.heap.size, 6, none⟩ = some (.slice a6 x.ands.length c6) ∧ U.cell? ⟨w.heap.size, 7, none⟩ = some (.slice a7 x.names.length c7) ∧ U.cell? ⟨W1.heap.size, 0, none⟩ = some (.int .i64 (kb : Int)) ∧ U.cell? ⟨W1.heap.size, 1, none⟩ = some (.string sB) ∧ U.cell? ⟨W1.heap.size, 2, none⟩ = some (.slice (some ⟨bq, oq, none⟩) inp.length cI) ∧ U.cell? ⟨bq, oq + k, none⟩ = some (.string qB)) (by kernel_rfl) ?_
            (refine HeldAll.take (i := 0) (oi := _) (d := some 73) (v := ?_) rfl rfl (by kernel_rfl) (by kernel_rfl) (by kernel_rfl) (fun _ _ _ h => h) (Or.inl ⟨by rfl, ?_⟩) hS0 ?_; rotate_left; (focus (intro w hSw; (try dsimp only at hSw); go_simp; (try with_reducible rfl); done)); (try simp only [Act.put, List.setIfInBounds_toArray, List.set_cons_zero, List.set_cons_succ]))
            (refine HeldAll.take (i := 1) (oi := _) (d := some 74) (v := ?_) rfl rfl (by kernel_rfl) (by kernel_rfl) (by kernel_rfl) (fun _ _ _ h => h) (Or.inl ⟨by rfl, ?_⟩) hS0 ?_; rotate_left; (focus (intro w hSw; clear hSw; go_simp; (try with_reducible rfl); done)); (try simp only [Act.put, List.setIfInBounds_toArray, List.set_cons_zero, List.set_cons_succ]))
            (refine HeldAll.take (i := 2) (oi := _) (d := some 75) (v := ?_) rfl rfl (by kernel_rfl) (by kernel_rfl) (by kernel_rfl) (fun _ _ _ h => h) (Or.inl ⟨by rfl, ?_⟩) hS0 ?_; rotate_left; (focus (intro w hSw; clear hSw; go_simp; (try with_reducible rfl); done)); (try simp only [Act.put, List.setIfInBounds_toArray, List.set_cons_zero, List.set_cons_succ]))
            (refine HeldAll.take (i := 3) (oi := _) (d := some 76) (v := ?_) rfl rfl (by kernel_rfl) (by kernel_rfl) (by kernel_rfl) (fun _ _ _ h => h) (Or.inl ⟨by rfl, ?_⟩) hS0 ?_; rotate_left; (focus (intro w hSw; (try dsimp only at hSw); go_simp; (try with_reducible rfl); done)); (try simp only [Act.put, List.setIfInBounds_toArray, List.set_cons_zero, List.set_cons_succ]))
            (refine HeldAll.take (i := 4) (oi := _) (d := some 77) (v := ?_) rfl rfl (by kernel_rfl) (by kernel_rfl) (by kernel_rfl) (fun _ _ _ h => h) (Or.inl ⟨by rfl, ?_⟩) hS0 ?_; rotate_left; (focus (intro w hSw; clear hSw; go_simp; (try with_reducible rfl); done)); (try simp only [Act.put, List.setIfInBounds_toArray, List.set_cons_zero, List.set_cons_succ]))
            (refine HeldAll.take (i := 5) (oi := _) (d := some 78) (v := ?_) rfl rfl (by kernel_rfl) (by kernel_rfl) (by kernel_rfl) (fun _ _ _ h => h) (Or.inl ⟨by rfl, ?_⟩) hS0 ?_; rotate_left; (focus (intro w hSw; clear hSw; go_simp; (try with_reducible rfl); done)); (try simp only [Act.put, List.setIfInBounds_toArray, List.set_cons_zero, List.set_cons_succ]))
            (refine HeldAll.take (i := 6) (oi := _) (d := some 79) (v := ?_) rfl rfl (by kernel_rfl) (by kernel_rfl) (by kernel_rfl) (fun _ _ _ h => h) (Or.inl ⟨by rfl, ?_⟩) hS0 ?_; rotate_left; (focus (intro w hSw; (try dsimp only at hSw); go_simp; (try with_reducible rfl); done)); (try simp only [Act.put, List.setIfInBounds_toArray, List.set_cons_zero, List.set_cons_succ]))
            refine HeldAll.one (i := 7) (by kernel_rfl) ?_
            refine HeldAll.opCall (i := 7) (oi := _) (d := some 80) (R := fun v w' => v = .tuple #[.string (bs V), .int .i64 0] ∧ Below wt.drew.heap.size wt.drew w') rfl rfl (by rfl) (by go_simp; done) (HCV.out.mono fun e w' h => ⟨_, h.1, rfl, h.2⟩) ?_
            rintro v w6 ⟨rfl, hb6⟩
            have hb6 : Below wt.heap.size wt w6 := (Below.refl wt.heap.size wt).drew.trans (hb6.mono (Below.refl wt.heap.size wt).drew.size)
            refine ⟨hSK _ hb6, ?_⟩
            (try simp only [Act.put, List.setIfInBounds_toArray, List.set_cons_zero, List.set_cons_succ])
            have hS0 := hSK _ hb6
            (refine HeldAll.take (i := 8) (oi := _) (d := some 72) (v := ?_) rfl rfl (by kernel_rfl) (by kernel_rfl) (by kernel_rfl) (fun _ _ _ h => h) (Or.inl ⟨by rfl, ?_⟩) hS0 ?_; rotate_left; (focus (intro w hSw; clear hSw; go_simp; (try with_reducible rfl); done)); (try simp only [Act.put, List.setIfInBounds_toArray, List.set_cons_zero, List.set_cons_succ]))
            (refine HeldAll.take (i := 9) (oi := _) (d := some 81) (v := ?_) rfl rfl (by kernel_rfl) (by kernel_rfl) (by kernel_rfl) (fun _ _ _ h => h) (Or.inl ⟨by rfl, ?_⟩) hS0 ?_; rotate_left; (focus (intro w hSw; clear hSw; go_simp; (try with_reducible rfl); done)); (try simp only [Act.put, List.setIfInBounds_toArray, List.set_cons_zero, List.set_cons_succ]))
            (refine HeldAll.take (i := 10) (oi := _) (d := some 82) (v := ?_) rfl rfl (by kernel_rfl) (by kernel_rfl) (by kernel_rfl) (fun _ _ _ h => h) (Or.inl ⟨by rfl, ?_⟩) hS0 ?_; rotate_left; (focus (intro w hSw; clear hSw; go_simp; (try with_reducible rfl); done)); (try simp only [Act.put, List.setIfInBounds_toArray, List.set_cons_zero, List.set_cons_succ]))
            (refine HeldAll.take (i := 11) (oi := _) (d := some 10) (v := ?_) rfl rfl (by kernel_rfl) (by kernel_rfl) (by kernel_rfl) (fun _ _ _ h => h) (Or.inl ⟨by rfl, ?_⟩) hS0 ?_; rotate_left; (focus (intro w hSw; clear hSw; go_simp; (try with_reducible rfl); done)); (try simp only [Act.put, List.setIfInBounds_toArray, List.set_cons_zero, List.set_cons_succ]))
            (refine HeldAll.take (i := 12) (oi := _) (d := some 11) (v := ?_) rfl rfl (by kernel_rfl) (by kernel_rfl) (by kernel_rfl) (fun _ _ _ h => h) (Or.inl ⟨by rfl, ?_⟩) hS0 ?_; rotate_left; (focus (intro w hSw; clear hSw; go_simp; (try with_reducible rfl); done)); (try simp only [Act.put, List.setIfInBounds_toArray, List.set_cons_zero, List.set_cons_succ]))
            refine HeldAll.done (by kernel_rfl) ?_ _
            clear hS0 hSK hkI
            have HB6 := Lib.hid (HTB.out w6 hb6)
            have HT6 := Lib.hid hb6
            have HA6 := Lib.hid (HAW.out w6 HB6.out)
            clear hb6
            have c := HX.out w6 (HB6.out)
            have k0 := c.k0
            have k1 := c.k1
            have k2 := c.k2
            have k3 := c.k3
            have k4 := c.k4
            have k5 := c.k5
            have k6 := c.k6
            have k7 := c.k7
            clear c
            try simp only at k0 k1 k2 k3 k4 k5 k6 k7
            generalize hal : allow x A V = al at *
            have HTV := Lib.hid (fun U => HTW.out U)
            generalize hlv : litV V bl = lv at *
            clear hal hlv HTW
            generalize bs V = sV at *
            go_wp2_with fail
            with_reducible refine HA6.out.mono ?_
            rintro e w7 ⟨rfl, hb7⟩
            have HB7 := Lib.hid (HB6.out.trans (hb7.mono HB6.out.size))
            have HT7 := Lib.hid (HT6.out.trans (hb7.mono HT6.out.size))
            clear k0 k1 k2 k3 k4 k5 k6 k7 hb7
            cases al
            · have HR51 := Lib.hid (HP3.out rfl)
              go_wp2_with fail
              go_ret
              exact ⟨ret_int HR51.out.symm, HB2.out.trans (HB7.out.mono HB2.out.size)⟩
            · have j2 := (HW.out w7 HB7.out).at' 2 _ rfl
              have j0 := (HW.out w7 HB7.out).at' 0 _ rfl
              have k4 := (HX.out w7 HB7.out).k4
              try simp only at k4
              have l4 := HL4.out w7 HB7.out
              by_cases hlast : inp.length = k + 1
              · have hle : ((k : Int) == (inp.length : Int) - 1) = true := by simp; omega
                have HLA := Lib.hid hlast
                clear hlast
                cases lv
                · have HR51 := Lib.hid (HP4.out HLA.out rfl)
                  go_wp2_with fail
                  with_reducible refine (HTV.out _).mono ?_
                  rintro e w7 ⟨rfl, rfl⟩
                  go_wp2_with fail
                  go_ret
                  exact ⟨ret_int HR51.out.symm, HB2.out.trans (HB7.out.mono HB2.out.size)⟩
                · have HPN := Lib.hid (HP5.out rfl (fun _ => rfl))
                  have HCV := Lib.hid (HNW.out w7.drew (HB7.out.trans ((Below.refl w7.heap.size w7).drew.mono HB7.out.size)))
                  go_wp2_with fail
                  with_reducible refine (HTV.out _).mono ?_
                  rintro e w7 ⟨rfl, rfl⟩
                  go_upto_region 23 with fail
                  clear j2 j0 k4 l4
                  have hSK : ∀ U : World, Below w7.heap.size w7 U → U.cell? ⟨w.heap.size, 0, none⟩ = some (.int .i64 x.max) ∧ U.cell? ⟨w.heap.size, 1, none⟩ = some (.slice a1 x.ins.length c1) ∧ U.cell? ⟨w.heap.size, 2, none⟩ = some (.slice a2 x.lats.length c2) ∧ U.cell? ⟨w.heap.size, 3, none⟩ = some (.slice a3 x.outs.length c3) ∧ U.cell? ⟨w.heap.size, 4, none⟩ = some (.slice (some ⟨g4, o4, none⟩) x.bads.length c4) ∧ U.cell? ⟨w.heap.size, 5, none⟩ = some (.slice a5 x.invs.length c5) ∧ U.cell? ⟨w.heap.size, 6, none⟩ = some (.slice a6 x.ands.length c6) ∧ U.cell? ⟨w.heap.size, 7, none⟩ = some (.slice a7 x.names.length c7) ∧ U.cell? ⟨W1.heap.size, 0, none⟩ = some (.int .i64 (kb : Int)) ∧ U.cell? ⟨W1.heap.size, 1, none⟩ = some (.string sB) ∧ U.cell? ⟨W1.heap.size, 2, none⟩ = some (.slice (some ⟨bq, oq, none⟩) inp.length cI) ∧ U.cell? ⟨bq, oq + k, none⟩ = some (.string qB) := fun U hU => by
                    have c := HX.out U ((HT.out U (HB7.out.trans (hU.mono HB7.out.size))))
                    have d := HW.out U ((HB7.out.trans (hU.mono HB7.out.size)))
                    exact ⟨c.k0, c.k1, c.k2, c.k3, c.k4, c.k5, c.k6, c.k7, d.at' 0 _ rfl, d.at' 1 _ rfl, d.at' 2 _ rfl, HQ0.out U (HT7.out.trans (hU.mono HT7.out.size))⟩
                  have hS0 := hSK _ (Below.refl w7.heap.size w7).drew
                  have hkI : (k : Int) < (inp.length : Int) := by omega
                  refine HeldAll.region (fun U : World => U.cell? ⟨w.heap.size, 0, none⟩ = some (.int .i64 x.max) ∧ U.cell? ⟨w.heap.size, 1, none⟩ = some (.slice a1 x.ins.length c1) ∧ U.cell? ⟨w.heap.size, 2, none⟩ = some (.slice a2 x.lats.length c2) ∧ U.cell? ⟨w.heap.size, 3, none⟩ = some (.slice a3 x.outs.length c3) ∧ U.cell? ⟨w.heap.size, 4, none⟩ = some (.slice (some ⟨g4, o4, none⟩) x.bads.length c4) ∧ U.cell? ⟨w.heap.size, 5, none⟩ = some (.slice a5 x.invs.length c5) ∧ U.cell? ⟨w.heap.size, 6, none⟩ = some (.slice a6 x.ands.length c6) ∧ U.cell? ⟨w.heap.size, 7, none⟩ = some (.slice a7 x.names.length c7) ∧ U.cell? ⟨W1.heap.size, 0, none⟩ = some (.int .i64 (kb : Int)) ∧ U.cell? ⟨W1.heap.size, 1, none⟩ = some (.string sB) ∧ U.cell? ⟨W1.heap.size, 2, none⟩ = some (.slice (some ⟨bq, oq, none⟩) inp.length cI) ∧ U.cell? ⟨bq, oq + k, none⟩ = some (.string qB)) (by kernel_rfl) ?_
                  (refine HeldAll.take (i := 0) (oi := _) (d := some 108) (v := ?_) rfl rfl (by kernel_rfl) (by kernel_rfl) (by kernel_rfl) (fun _ _ _ h => h) (Or.inl ⟨by rfl, ?_⟩) hS0 ?_; rotate_left; (focus (intro w hSw; (try dsimp only at hSw); go_simp; (try with_reducible rfl); done)); (try simp only [Act.put, List.setIfInBounds_toArray, List.set_cons_zero, List.set_cons_succ]))
                  (refine HeldAll.take (i := 1) (oi := _) (d := some 109) (v := ?_) rfl rfl (by kernel_rfl) (by kernel_rfl) (by kernel_rfl) (fun _ _ _ h => h) (Or.inl ⟨by rfl, ?_⟩) hS0 ?_; rotate_left; (focus (intro w hSw; clear hSw; go_simp; (try with_reducible rfl); done)); (try simp only [Act.put, List.setIfInBounds_toArray, List.set_cons_zero, List.set_cons_succ]))
                  (refine HeldAll.take (i := 2) (oi := _) (d := some 110) (v := ?_) rfl rfl (by kernel_rfl) (by kernel_rfl) (by kernel_rfl) (fun _ _ _ h => h) (Or.inl ⟨by rfl, ?_⟩) hS0 ?_; rotate_left; (focus (intro w hSw; clear hSw; go_simp; (try with_reducible rfl); done)); (try simp only [Act.put, List.setIfInBounds_toArray, List.set_cons_zero, List.set_cons_succ]))
                  (refine HeldAll.take (i := 3) (oi := _) (d := some 111) (v := ?_) rfl rfl (by kernel_rfl) (by kernel_rfl) (by kernel_rfl) (fun _ _ _ h => h) (Or.inl ⟨by rfl, ?_⟩) hS0 ?_; rotate_left; (focus (intro w hSw; (try dsimp only at hSw); go_simp; (try with_reducible rfl); done)); (try simp only [Act.put, List.setIfInBounds_toArray, List.set_cons_zero, List.set_cons_succ]))
                  (refine HeldAll.take (i := 4) (oi := _) (d := some 112) (v := ?_) rfl rfl (by kernel_rfl) (by kernel_rfl) (by kernel_rfl) (fun _ _ _ h => h) (Or.inl ⟨by rfl, ?_⟩) hS0 ?_; rotate_left; (focus (intro w hSw; clear hSw; go_simp; (try with_reducible rfl); done)); (try simp only [Act.put, List.setIfInBounds_toArray, List.set_cons_zero, List.set_cons_succ]))
                  (refine HeldAll.take (i := 5) (oi := _) (d := some 113) (v := ?_) rfl rfl (by kernel_rfl) (by kernel_rfl) (by kernel_rfl) (fun _ _ _ h => h) (Or.inl ⟨by rfl, ?_⟩) hS0 ?_; rotate_left; (focus (intro w hSw; clear hSw; go_simp; (try with_reducible rfl); done)); (try simp only [Act.put, List.setIfInBounds_toArray, List.set_cons_zero, List.set_cons_succ]))
                  (refine HeldAll.take (i := 6) (oi := _) (d := some 114) (v := ?_) rfl rfl (by kernel_rfl) (by kernel_rfl) (by kernel_rfl) (fun _ _ _ h => h) (Or.inl ⟨by rfl, ?_⟩) hS0 ?_; rotate_left; (focus (intro w hSw; (try dsimp only at hSw); go_simp; (try with_reducible rfl); done)); (try simp only [Act.put, List.setIfInBounds_toArray, List.set_cons_zero, List.set_cons_succ]))
                  refine HeldAll.one (i := 7) (by kernel_rfl) ?_
                  refine HeldAll.opCall (i := 7) (oi := _) (d := some 115) (R := fun v w' => v = .tuple #[.string (bs t2), .int .i64 0] ∧ Below w7.drew.heap.size w7.drew w') rfl rfl (by rfl) (by go_simp; done) (HCV.out.mono fun e w' h => ⟨_, h.1, rfl, h.2⟩) ?_
                  rintro v w6 ⟨rfl, hb6⟩
                  have hb6 : Below w7.heap.size w7 w6 := (Below.refl w7.heap.size w7).drew.trans (hb6.mono (Below.refl w7.heap.size w7).drew.size)
                  refine ⟨hSK _ hb6, ?_⟩
                  (try simp only [Act.put, List.setIfInBounds_toArray, List.set_cons_zero, List.set_cons_succ])
                  have hS0 := hSK _ hb6
                  (refine HeldAll.take (i := 8) (oi := _) (d := some 107) (v := ?_) rfl rfl (by kernel_rfl) (by kernel_rfl) (by kernel_rfl) (fun _ _ _ h => h) (Or.inl ⟨by rfl, ?_⟩) hS0 ?_; rotate_left; (focus (intro w hSw; clear hSw; go_simp; (try with_reducible rfl); done)); (try simp only [Act.put, List.setIfInBounds_toArray, List.set_cons_zero, List.set_cons_succ]))
                  (refine HeldAll.take (i := 9) (oi := _) (d := some 116) (v := ?_) rfl rfl (by kernel_rfl) (by kernel_rfl) (by kernel_rfl) (fun _ _ _ h => h) (Or.inl ⟨by rfl, ?_⟩) hS0 ?_; rotate_left; (focus (intro w hSw; clear hSw; go_simp; (try with_reducible rfl); done)); (try simp only [Act.put, List.setIfInBounds_toArray, List.set_cons_zero, List.set_cons_succ]))
                  (refine HeldAll.take (i := 10) (oi := _) (d := some 117) (v := ?_) rfl rfl (by kernel_rfl) (by kernel_rfl) (by kernel_rfl) (fun _ _ _ h => h) (Or.inl ⟨by rfl, ?_⟩) hS0 ?_; rotate_left; (focus (intro w hSw; clear hSw; go_simp; (try with_reducible rfl); done)); (try simp only [Act.put, List.setIfInBounds_toArray, List.set_cons_zero, List.set_cons_succ]))
                  (refine HeldAll.take (i := 11) (oi := _) (d := some 8) (v := ?_) rfl rfl (by kernel_rfl) (by kernel_rfl) (by kernel_rfl) (fun _ _ _ h => h) (Or.inl ⟨by rfl, ?_⟩) hS0 ?_; rotate_left; (focus (intro w hSw; clear hSw; go_simp; (try with_reducible rfl); done)); (try simp only [Act.put, List.setIfInBounds_toArray, List.set_cons_zero, List.set_cons_succ]))
                  refine HeldAll.done (by kernel_rfl) ?_ _
                  clear hS0 hSK hkI
                  have HB9 := Lib.hid (HB7.out.trans (hb6.mono HB7.out.size))
                  clear hb6
                  go_wp2_with fail
                  go_roundw
                  case rel => exact ⟨k + 1, t2, by omega, by go_num, rfl, HNL.out, HPN.out, HB9.out⟩
                  case measure => simp [Go.RowKit.intOf]; omega
              · have hle : ((k : Int) == (inp.length : Int) - 1) = false := by simp; omega
                have HLA := Lib.hid hlast
                clear hlast
                have HPN := Lib.hid (HP5.out rfl (fun h => absurd h HLA.out))
                have HCV := Lib.hid (HNW.out w7.drew (HB7.out.trans ((Below.refl w7.heap.size w7).drew.mono HB7.out.size)))
                go_upto_region 23 with fail
                clear j2 j0 k4 l4
                have hSK : ∀ U : World, Below w7.heap.size w7 U → U.cell? ⟨w.heap.size, 0, none⟩ = some (.int .i64 x.max) ∧ U.cell? ⟨w.heap.size, 1, none⟩ = some (.slice a1 x.ins.length c1) ∧ U.cell? ⟨w.heap.size, 2, none⟩ = some (.slice a2 x.lats.length c2) ∧ U.cell? ⟨w.heap.size, 3, none⟩ = some (.slice a3 x.outs.length c3) ∧ U.cell? ⟨w.heap.size, 4, none⟩ = some (.slice (some ⟨g4, o4, none⟩) x.bads.length c4) ∧ U.cell? ⟨w.heap.size, 5, none⟩ = some (.slice a5 x.invs.length c5) ∧ U.cell? ⟨w.heap.size, 6, none⟩ = some (.slice a6 x.ands.length c6) ∧ U.cell? ⟨w.heap.size, 7, none⟩ = some (.slice a7 x.names.length c7) ∧ U.cell? ⟨W1.heap.size, 0, none⟩ = some (.int .i64 (kb : Int)) ∧ U.cell? ⟨W1.heap.size, 1, none⟩ = some (.string sB) ∧ U.cell? ⟨W1.heap.size, 2, none⟩ = some (.slice (some ⟨bq, oq, none⟩) inp.length cI) ∧ U.cell? ⟨bq, oq + k, none⟩ = some (.string qB) := fun U hU => by
                  have c := HX.out U ((HT.out U (HB7.out.trans (hU.mono HB7.out.size))))
                  have d := HW.out U ((HB7.out.trans (hU.mono HB7.out.size)))
                  exact ⟨c.k0, c.k1, c.k2, c.k3, c.k4, c.k5, c.k6, c.k7, d.at' 0 _ rfl, d.at' 1 _ rfl, d.at' 2 _ rfl, HQ0.out U (HT7.out.trans (hU.mono HT7.out.size))⟩
                have hS0 := hSK _ (Below.refl w7.heap.size w7).drew
                have hkI : (k : Int) < (inp.length : Int) := by omega
                refine HeldAll.region (fun U : World => U.cell? ⟨w.heap.size, 0, none⟩ = some (.int .i64 x.max) ∧ U.cell? ⟨w.heap.size, 1, none⟩ = some (.slice a1 x.ins.length c1) ∧ U.cell? ⟨w.heap.size, 2, none⟩ = some (.slice a2 x.lats.length c2) ∧ U.cell? ⟨w.heap.size, 3, none⟩ = some (.slice a3 x.outs.length c3) ∧ U.cell? ⟨w.heap.size, 4, none⟩ = some (.slice (some ⟨g4, o4, none⟩) x.bads.length c4) ∧ U.cell? ⟨w.heap.size, 5, none⟩ = some (.slice a5 x.invs.length c5) ∧ U.cell? ⟨w.heap.size, 6, none⟩ = some (.slice a6 x.ands.length c6) ∧ U.cell? ⟨w.heap.size, 7, none⟩ = some (.slice a7 x.names.length c7) ∧ U.cell? ⟨W1.heap.size, 0, none⟩ = some (.int .i64 (kb : Int)) ∧ U.cell? ⟨W1.heap.size, 1, none⟩ = some (.string sB) ∧ U.cell? ⟨W1.heap.size, 2, none⟩ = some (.slice (some ⟨bq, oq, none⟩) inp.length cI) ∧ U.cell? ⟨bq, oq + k, none⟩ = some (.string qB)) (by kernel_rfl) ?_
                (refine HeldAll.take (i := 0) (oi := _) (d := some 108) (v := ?_) rfl rfl (by kernel_rfl) (by kernel_rfl) (by kernel_rfl) (fun _ _ _ h => h) (Or.inl ⟨by rfl, ?_⟩) hS0 ?_; rotate_left; (focus (intro w hSw; (try dsimp only at hSw); go_simp; (try with_reducible rfl); done)); (try simp only [Act.put, List.setIfInBounds_toArray, List.set_cons_zero, List.set_cons_succ]))
                (refine HeldAll.take (i := 1) (oi := _) (d := some 109) (v := ?_) rfl rfl (by kernel_rfl) (by kernel_rfl) (by kernel_rfl) (fun _ _ _ h => h) (Or.inl ⟨by rfl, ?_⟩) hS0 ?_; rotate_left; (focus (intro w hSw; clear hSw; go_simp; (try with_reducible rfl); done)); (try simp only [Act.put, List.setIfInBounds_toArray, List.set_cons_zero, List.set_cons_succ]))
                (refine HeldAll.take (i := 2) (oi := _) (d := some 110) (v := ?_) rfl rfl (by kernel_rfl) (by kernel_rfl) (by kernel_rfl) (fun _ _ _ h => h) (Or.inl ⟨by rfl, ?_⟩) hS0 ?_; rotate_left; (focus (intro w hSw; clear hSw; go_simp; (try with_reducible rfl); done)); (try simp only [Act.put, List.setIfInBounds_toArray, List.set_cons_zero, List.set_cons_succ]))
                (refine HeldAll.take (i := 3) (oi := _) (d := some 111) (v := ?_) rfl rfl (by kernel_rfl) (by kernel_rfl) (by kernel_rfl) (fun _ _ _ h => h) (Or.inl ⟨by rfl, ?_⟩) hS0 ?_; rotate_left; (focus (intro w hSw; (try dsimp only at hSw); go_simp; (try with_reducible rfl); done)); (try simp only [Act.put, List.setIfInBounds_toArray, List.set_cons_zero, List.set_cons_succ]))
                (refine HeldAll.take (i := 4) (oi := _) (d := some 112) (v := ?_) rfl rfl (by kernel_rfl) (by kernel_rfl) (by kernel_rfl) (fun _ _ _ h => h) (Or.inl ⟨by rfl, ?_⟩) hS0 ?_; rotate_left; (focus (intro w hSw; clear hSw; go_simp; (try with_reducible rfl); done)); (try simp only [Act.put, List.setIfInBounds_toArray, List.set_cons_zero, List.set_cons_succ]))
                (refine HeldAll.take (i := 5) (oi := _) (d := some 113) (v := ?_) rfl rfl (by kernel_rfl) (by kernel_rfl) (by kernel_rfl) (fun _ _ _ h => h) (Or.inl ⟨by rfl, ?_⟩) hS0 ?_; rotate_left; (focus (intro w hSw; clear hSw; go_simp; (try with_reducible rfl); done)); (try simp only [Act.put, List.setIfInBounds_toArray, List.set_cons_zero, List.set_cons_succ]))
                (refine HeldAll.take (i := 6) (oi := _) (d := some 114) (v := ?_) rfl rfl (by kernel_rfl) (by kernel_rfl) (by kernel_rfl) (fun _ _ _ h => h) (Or.inl ⟨by rfl, ?_⟩) hS0 ?_; rotate_left; (focus (intro w hSw; (try dsimp only at hSw); go_simp; (try with_reducible rfl); done)); (try simp only [Act.put, List.setIfInBounds_toArray, List.set_cons_zero, List.set_cons_succ]))
                refine HeldAll.one (i := 7) (by kernel_rfl) ?_
                refine HeldAll.opCall (i := 7) (oi := _) (d := some 115) (R := fun v w' => v = .tuple #[.string (bs t2), .int .i64 0] ∧ Below w7.drew.heap.size w7.drew w') rfl rfl (by rfl) (by go_simp; done) (HCV.out.mono fun e w' h => ⟨_, h.1, rfl, h.2⟩) ?_
                rintro v w6 ⟨rfl, hb6⟩
                have hb6 : Below w7.heap.size w7 w6 := (Below.refl w7.heap.size w7).drew.trans (hb6.mono (Below.refl w7.heap.size w7).drew.size)
                refine ⟨hSK _ hb6, ?_⟩
                (try simp only [Act.put, List.setIfInBounds_toArray, List.set_cons_zero, List.set_cons_succ])
                have hS0 := hSK _ hb6
                (refine HeldAll.take (i := 8) (oi := _) (d := some 107) (v := ?_) rfl rfl (by kernel_rfl) (by kernel_rfl) (by kernel_rfl) (fun _ _ _ h => h) (Or.inl ⟨by rfl, ?_⟩) hS0 ?_; rotate_left; (focus (intro w hSw; clear hSw; go_simp; (try with_reducible rfl); done)); (try simp only [Act.put, List.setIfInBounds_toArray, List.set_cons_zero, List.set_cons_succ]))
                (refine HeldAll.take (i := 9) (oi := _) (d := some 116) (v := ?_) rfl rfl (by kernel_rfl) (by kernel_rfl) (by kernel_rfl) (fun _ _ _ h => h) (Or.inl ⟨by rfl, ?_⟩) hS0 ?_; rotate_left; (focus (intro w hSw; clear hSw; go_simp; (try with_reducible rfl); done)); (try simp only [Act.put, List.setIfInBounds_toArray, List.set_cons_zero, List.set_cons_succ]))
                (refine HeldAll.take (i := 10) (oi := _) (d := some 117) (v := ?_) rfl rfl (by kernel_rfl) (by kernel_rfl) (by kernel_rfl) (fun _ _ _ h => h) (Or.inl ⟨by rfl, ?_⟩) hS0 ?_; rotate_left; (focus (intro w hSw; clear hSw; go_simp; (try with_reducible rfl); done)); (try simp only [Act.put, List.setIfInBounds_toArray, List.set_cons_zero, List.set_cons_succ]))
                (refine HeldAll.take (i := 11) (oi := _) (d := some 8) (v := ?_) rfl rfl (by kernel_rfl) (by kernel_rfl) (by kernel_rfl) (fun _ _ _ h => h) (Or.inl ⟨by rfl, ?_⟩) hS0 ?_; rotate_left; (focus (intro w hSw; clear hSw; go_simp; (try with_reducible rfl); done)); (try simp only [Act.put, List.setIfInBounds_toArray, List.set_cons_zero, List.set_cons_succ]))
                refine HeldAll.done (by kernel_rfl) ?_ _
                clear hS0 hSK hkI
                have HB9 := Lib.hid (HB7.out.trans (hb6.mono HB7.out.size))
                clear hb6
                go_wp2_with fail
                go_roundw
                case rel => exact ⟨k + 1, t2, by omega, by go_num, rfl, HNL.out, HPN.out, HB9.out⟩
                case measure => simp [Go.RowKit.intOf]; omega
          · have hend : k = inp.length := by omega
            subst hend
            have HRE : Hid (PE = 0) := by show _ = _; rw [HP.out, List.drop_length]; rfl
            clear hk hlt
            go_wp2_with fail
            go_ret
            exact ⟨ret_int HRE.out.symm, HB2.out.trans (HB.out.mono HB2.out.size)⟩
end Spr
end Go.Proofs.YtjmmhbmbafjneaaGreatDoor

/-
  interlockplain.Small.
-/
namespace Go.Proofs.YtjmmhbmbafjneaaGreatDoor
open Go.RowKit Base
set_option linter.unusedVariables false
set_option linter.unusedSimpArgs false
namespace BadP
open Circuit

set_option maxHeartbeats 2000000 in
theorem small_any (w : World) (x : Circ) (p : At) (hin : InCirc w x p) :
    Calls Tryz.prog 13 #[.agg (cells x p)] w fun e w' => e = .returned (.bool (decide (x.lats.length ≤ 4) && decide (x.ins.length ≤ 3) && decide (x.max ≤ 60))) ∧ Below w.heap.size w w' := by
  obtain ⟨W1, hW1⟩ : ∃ U, w.alloc (.cells (cells x p) 27) = U := ⟨_, rfl⟩
  obtain ⟨hb1, hx1⟩ := cbox_new w x p W1 hW1
  have HB1 := Lib.hid hb1
  have hc2 := hin.lats.cap
  have hg2 := hin.lats.big
  have hc1 := hin.ins.cap
  have hg1 := hin.ins.big
  have k0 := hx1.k0
  have k1 := hx1.k1
  have k2 := hx1.k2
  obtain ⟨a1, c1, a2, c2, a3, c3, a4, c4, a5, c5, a6, c6, a7, c7⟩ := p
  simp only [cells] at *
  clear hin hb1 hx1
  have h1 : ((x.lats.length : Int) ≤ 4) ↔ x.lats.length ≤ 4 := by omega
  have h2 : ((x.ins.length : Int) ≤ 3) ↔ x.ins.length ≤ 3 := by omega
  have HE : Hid ((decide (x.lats.length ≤ 4) && decide (x.ins.length ≤ 3) && decide (x.max ≤ 60)) = (decide ((x.lats.length : Int) ≤ 4) && decide ((x.ins.length : Int) ≤ 3) && decide (x.max ≤ 60))) := by
    show _ = _
    rw [decide_eq_decide.2 h1, decide_eq_decide.2 h2]
  clear h1 h2
  generalize hd1 : decide ((x.lats.length : Int) ≤ 4) = d1 at *
  generalize hd2 : decide ((x.ins.length : Int) ≤ 3) = d2 at *
  generalize hd3 : decide (x.max ≤ 60) = d3 at *
  cases d1 <;> cases d2
  all_goals
    go_enter Tryz.func13, Tryz.ntmps13
    go_wp2_with fail
    go_ret
    exact ⟨ret_bool (by rw [HE.out]; simp_all), HB1.out⟩
end BadP
end Go.Proofs.YtjmmhbmbafjneaaGreatDoor
