/-
  Several texts in one (written by merge2.py): XBadV XSprQ XBadN XInitEq XPath XSprS XSprZ
-/
import Derived.Test.YtninglnchengeaaGreatDoorCoiSpreadsM3
import Derived.StillTailTactics
import Derived.Test.YtninglnchengeaaGreatDoorCoiSpreadsM1
import Derived.Test.YtninglnchengeaaGreatDoorCoiSpreadsM2
import Derived.Laws.Bits64b
import Derived.Laws.IdiomStrings
import Derived.Test.YtninglnchengeaaGreatDoorOpenCirc
import Derived.Test.YtninglnchengeaaGreatDoorOpenU
/-
  interlockref07's Values (written by values.py).
-/
namespace Go.Proofs.YtninglnchengeaaGreatDoor
open Go.RowKit Base
set_option linter.unusedVariables false
set_option linter.unusedSimpArgs false
namespace BadP
open Circuit Coi

theorem putAll_snoc (ps : List (Int × Bool)) (p : Int × Bool) (L : List Bool) : putAll (ps ++ [p]) L = setB (putAll ps L) (var p.1) p.2 := by unfold putAll; rw [List.foldl_append]; rfl
theorem bits_bs (L : List Bool) {n : Nat} (h : L.length = n) : RefBits.bits (bs L).data.toList (n : Int) = true := by
  unfold RefBits.bits
  rw [bs_list, Bool.and_eq_true]
  refine ⟨List.all_eq_true.2 fun c hc => ?_, decide_eq_true (by rw [List.length_map]; omega)⟩
  obtain ⟨b, _, rfl⟩ := List.mem_map.1 hc
  cases b <;> rfl
theorem own_pos {x : Circ} (hok : CheckOk x) : ∀ y ∈ ownL x, 0 ≤ y ∧ y ≤ 9223372036854775807 := fun y hy => by
  have h1 := (StrashP.ownOk_iff.1 hok.2.1.1).1 y hy
  have h2 := hok.1.2.1
  have h3 := h1.2.2
  have h4 := h1.1
  unfold var at h3
  omega
theorem and_lits {x : Circ} (hok : CheckOk x) : ∀ t ∈ x.ands, (0 ≤ t.2.1 ∧ t.2.1 ≤ 9223372036854775807) ∧ (0 ≤ t.2.2 ∧ t.2.2 ≤ 9223372036854775807) := fun t ht => by
  obtain ⟨k1, k2, k3, k4⟩ := hok.2.2.2.1 t ht
  have h1 := own_pos hok t.1 (and_own ht)
  have h3 := k1.1
  have h4 := k2.1
  omega

set_option maxRecDepth 8000 in
set_option maxHeartbeats 16000000 in
theorem values_any (w : World) (x : Circ) (p : At) (hin : InCirc w x p) (hw : WfC x) (hok : CheckOk x) (hza : x.ands.length * 24 ≤ 140737488355328) (st inp : List Bool) (hst : st.length = x.lats.length) (hinp : inp.length = x.ins.length) :
    Calls Tryz.prog 37 #[.agg (cells x p), .string (bs st), .string (bs inp)] w fun e w' => e = .returned (.tuple #[.string (bs (vals x st inp)), .int .i64 0]) ∧ Below w.heap.size w w' := by
  obtain ⟨W1, hW1⟩ : ∃ U, w.alloc (.cells (cells x p) 27) = U := ⟨_, rfl⟩
  obtain ⟨hb1, hx1⟩ := cbox_new w x p W1 hW1
  have HB1 := Lib.hid hb1
  have HX := Lib.hid (fun (U : World) (hU : Below W1.heap.size W1 U) => hx1.next hU (Nat.le_refl _))
  have HIN := Lib.hid (fun (U : World) (hU : Below W1.heap.size W1 U) => (hin.next hb1).next hU)
  have hrc := refCheck_any W1 x p (hin.next hb1) hw hza
  rw [refchk_pos ((check_iff _).1 hok)] at hrc
  have HOWN := Lib.hid (own_at hok)
  have HOW2 := Lib.hid (own_pos hok)
  have HAN := Lib.hid (and_lits hok)
  have HMX : Hid (0 ≤ x.max ∧ x.max ≤ 2048) := ⟨hok.1.1, hok.1.2.1⟩
  obtain ⟨mx, hmx⟩ : ∃ m : Nat, x.max = (m : Int) := ⟨x.max.toNat, by have := HMX.out.1; omega⟩
  have HMM := Lib.hid hmx
  have hmx2 : mx ≤ 2048 := by have := HMX.out; omega
  have HstL := Lib.hid hst
  have HinpL := Lib.hid hinp
  obtain ⟨tst, htst⟩ : ∃ t, bs st = t := ⟨_, rfl⟩
  obtain ⟨tinp, htinp⟩ : ∃ t, bs inp = t := ⟨_, rfl⟩
  have HstZ : Hid (tst.size = st.length) := by show _ = _; rw [← htst, bs_size]
  have HinpZ : Hid (tinp.size = inp.length) := by show _ = _; rw [← htinp, bs_size]
  have HstB : Hid (∀ (j : Nat) (h : j < tst.size) (h2 : j < st.length), tst[j]'h = byteB st[j]) := fun j h h2 => by subst htst; rw [bs_at st h, List.getD_eq_getElem?_getD, List.getElem?_eq_getElem h2]; rfl
  have HinpB : Hid (∀ (j : Nat) (h : j < tinp.size) (h2 : j < inp.length), tinp[j]'h = byteB inp[j]) := fun j h h2 => by subst htinp; rw [bs_at inp h, List.getD_eq_getElem?_getD, List.getElem?_eq_getElem h2]; rfl
  have HBT1 := fun (U : World) => RefBits.bits_any U tst (by rw [HstZ.out, hst]; have := hok.1.2.2.2.1; omega) (x.lats.length : Int)
  rw [← htst, bits_bs st hst, htst] at HBT1
  have HBT2 := fun (U : World) => RefBits.bits_any U tinp (by rw [HinpZ.out, hinp]; have := hok.1.2.2.1; omega) (x.ins.length : Int)
  rw [← htinp, bits_bs inp hinp, htinp] at HBT2
  have HT1 := Lib.hid HBT1
  have HT2 := Lib.hid HBT2
  rw [htst, htinp]
  obtain ⟨a1, c1, a2, c2, a3, c3, a4, c4, a5, c5, a6, c6, a7, c7⟩ := p
  simp only [cells] at hW1 hrc ⊢
  have HRC := Lib.hid hrc
  have hf0 := hx1.k0
  have hf1 := hx1.k1
  have hf2 := hx1.k2
  clear hmx hin hw hok hza hst hinp hb1 hrc htst htinp HBT1 HBT2 hx1
  try simp only at hf0 hf1 hf2
  go_enter Tryz.func37, Tryz.ntmps37
  clear hf0 hf1 hf2
  have c := HX.out W1 (Below.refl _ _)
  have k0 := c.k0
  have k1 := c.k1
  have k2 := c.k2
  have k3 := c.k3
  have k4 := c.k4
  have k5 := c.k5
  have k6 := c.k6
  have k7 := c.k7
  clear c
  go_wp2_with fail
  clear hW1
  with_reducible refine HRC.out.mono ?_
  rintro e w2 ⟨rfl, hb2⟩
  have HB2 := Lib.hid hb2
  clear k0 k1 k2 k3 k4 k5 k6 k7
  have c := HX.out w2 hb2
  have k1 := c.k1
  have k2 := c.k2
  have k0 := c.k0
  rw [HMM.out] at k0
  try simp only at k1 k2
  clear c hb2
  go_wp2_with fail
  with_reducible refine (HT1.out w2).mono ?_
  rintro e w3 ⟨rfl, rfl⟩
  go_wp2_with fail
  with_reducible refine (HT2.out w2).mono ?_
  rintro e w3 ⟨rfl, rfl⟩
  clear k1 k2
  go_wp2_with fail
  go_loopw [8, 9] (fun s u wr => ∃ j : Nat, j ≤ mx + 1 ∧ u = .int .i64 j ∧ s = .string (bs (List.replicate j false)) ∧ wr = w2) (fun _ u _ => mx + 1 - (intOf u).toNat)
  case atStart => exact ⟨0, Nat.zero_le _, rfl, rfl, rfl⟩
  case round =>
    obtain ⟨j, hj, rfl, rfl, rfl⟩ := hrel
    by_cases hlt : j ≤ mx
    · have HS2 : Hid (bs (List.replicate j false) ++ ⟨#[48]⟩ = bs (List.replicate (j + 1) false)) := by
        show _ = _
        rw [List.replicate_succ', bs_app]; rfl
      have hz : (bs (List.replicate j false)).size = j := by rw [bs_size, List.length_replicate]
      have hlim : ¬ 9223372036854775807 < j + 1 := by omega
      generalize bs (List.replicate j false) = s1 at *
      go_wp2_with fail
      go_roundw
      case rel => exact ⟨j + 1, by omega, by go_num, by rw [HS2.out], by first | rfl | trivial⟩
      case measure => simp [intOf]; omega
    · have hjm : j = mx + 1 := by omega
      have hzero : List.replicate j false = zero x := by
        unfold zero
        have : (x.max + 1).toNat = j := by have := HMM.out; omega
        rw [this]
      rw [hzero]
      have HZL : Hid ((zero x).length = (x.max + 1).toNat) := by show _ = _; simp [zero]
      clear hzero hjm
      go_wp2_with fail
      clear k0
      have HBW := HB2
      go_loopw [8, 10] (fun s u wr => ∃ j : Nat, j ≤ x.ins.length ∧ u = .int .i64 j ∧ s = .string (bs (putAll ((x.ins.zip inp).take j) (zero x))) ∧ Hid (Below W1.heap.size W1 wr)) (fun _ u _ => x.ins.length - (intOf u).toNat)
      case atStart => exact ⟨0, Nat.zero_le _, rfl, rfl, HBW.out⟩
      case round =>
        clear HBW
        obtain ⟨j, hj, rfl, rfl, hB⟩ := hrel
        have m1 := (HX.out wr hB.out).k1
        have hla := (HIN.out wr hB.out).ins
        have hca := hla.cap
        have hga := hla.big
        try simp only at m1 hca hga
        by_cases hlt : j < x.ins.length
        · skip
          obtain ⟨b, o, hx, hae, hbs, d0⟩ := hla.int hlt
          try simp only at hae
          subst hae
          have hown := HOWN.out x.ins[j] (ins_own (List.getElem_mem hx))
          have hown2 := HOW2.out x.ins[j] (ins_own (List.getElem_mem hx))
          obtain ⟨vq, hvq, hvq2⟩ : ∃ v : Int, Int.tdiv x.ins[j] 2 = v ∧ v = var x.ins[j] := ⟨_, rfl, by unfold var; rw [Int.max_eq_left hown2.1]; exact Int.tdiv_eq_ediv_of_nonneg hown2.1⟩
          have hwq : IntKind.i64.wrap vq = vq := IntWalk.i64_in _ (by rw [hvq2]; unfold var; omega)
          have hjn : j < inp.length := by have := HinpL.out; omega
          have hjs : j < tinp.size := by rw [HinpZ.out]; exact hjn
          have hjs2 : (j : Int) < (tinp.size : Int) := by omega
          have hby : tinp[j] = byteB inp[j] := HinpB.out j hjs hjn
          have HZ : Hid (putAll ((x.ins.zip inp).take (j + 1)) (zero x) = setB (putAll ((x.ins.zip inp).take j) (zero x)) vq inp[j]) := by
            show _ = _
            have hz : j < (x.ins.zip inp).length := by simp; omega
            rw [List.take_succ_eq_append_getElem hz, putAll_snoc, hvq2]
            simp
          have hpl : (putAll ((x.ins.zip inp).take j) (zero x)).length = (x.max + 1).toNat := by rw [putAll_len, HZL.out]
          have HST := Lib.hid (set_bs wr.drew (putAll ((x.ins.zip inp).take j) (zero x)) vq inp[j] (by rw [hvq2]; exact var_nn _) (by rw [hvq2, hpl]; exact hown.2) (by rw [hpl]; have := HMX.out; omega) _ rfl)
          rw [← HZ.out] at HST
          have HBD := Lib.hid (hB.out.trans (Below.refl _ _).drew)
          generalize inp[j] = bb at *
          generalize x.ins[j] = t at *
          obtain ⟨q2, hq2⟩ : ∃ q, putAll ((x.ins.zip inp).take j) (zero x) = q := ⟨_, rfl⟩
          obtain ⟨q3, hq3⟩ : ∃ q, putAll ((x.ins.zip inp).take (j + 1)) (zero x) = q := ⟨_, rfl⟩
          rw [hq2] at HST ⊢
          rw [hq3] at HST
          have HQ3 := Lib.hid hq3
          clear hown hown2 hvq2 hpl HZ hB hla hq2 hq3
          go_upto_region 13 with fail
          refine wp_region_still_tail 10 (by kernel_rfl) (by kernel_rfl) ?_
          simp only [List.take_succ_cons, List.take_zero, List.drop_succ_cons, List.drop_zero]
          repeat still_step
          refine wpStill_nil ?_
          go_wp2_with fail
          with_reducible refine HST.out.mono ?_
          rintro e wx ⟨rfl, hbx⟩
          have HBX := Lib.hid (HBD.out.trans (hbx.mono HBD.out.size))
          clear hbx
          go_wp2_with fail
          go_roundw
          case rel => exact ⟨j + 1, by omega, by go_num, by rw [HQ3.out], HBX.out⟩
          case measure => simp [intOf]; omega
        · skip
          have hall : (x.ins.zip inp).take j = (x.ins.zip inp) := List.take_of_length_le (by simp; omega)
          rw [hall]
          clear hall
          go_wp2_with fail
          have HBW3 := hB
          clear hla hca hga m1 hB
          go_loopw [8, 11] (fun s u wr => ∃ j : Nat, j ≤ x.lats.length ∧ u = .int .i64 j ∧ s = .string (bs (putAll (((x.lats.zip st).map fun p => (p.1.1, p.2)).take j) (putAll (x.ins.zip inp) (zero x)))) ∧ Hid (Below W1.heap.size W1 wr)) (fun _ u _ => x.lats.length - (intOf u).toNat)
          case atStart => exact ⟨0, Nat.zero_le _, rfl, rfl, HBW3.out⟩
          case round =>
            clear HBW3
            obtain ⟨j, hj, rfl, rfl, hB⟩ := hrel
            have m2 := (HX.out wr hB.out).k2
            have hla := (HIN.out wr hB.out).lats
            have hca := hla.cap
            have hga := hla.big
            try simp only at m2 hca hga
            by_cases hlt : j < x.lats.length
            · skip
              obtain ⟨b, o, hx, hae, hbs, d0, d1, d2⟩ := hla.tri hlt
              try simp only at hae
              subst hae
              have hown := HOWN.out x.lats[j].1 (lat_own (List.getElem_mem hx))
              have hown2 := HOW2.out x.lats[j].1 (lat_own (List.getElem_mem hx))
              obtain ⟨vq, hvq, hvq2⟩ : ∃ v : Int, Int.tdiv x.lats[j].1 2 = v ∧ v = var x.lats[j].1 := ⟨_, rfl, by unfold var; rw [Int.max_eq_left hown2.1]; exact Int.tdiv_eq_ediv_of_nonneg hown2.1⟩
              have hwq : IntKind.i64.wrap vq = vq := IntWalk.i64_in _ (by rw [hvq2]; unfold var; omega)
              have hjn : j < st.length := by have := HstL.out; omega
              have hjs : j < tst.size := by rw [HstZ.out]; exact hjn
              have hjs2 : (j : Int) < (tst.size : Int) := by omega
              have hby : tst[j] = byteB st[j] := HstB.out j hjs hjn
              have HZ : Hid (putAll (((x.lats.zip st).map fun p => (p.1.1, p.2)).take (j + 1)) (putAll (x.ins.zip inp) (zero x)) = setB (putAll (((x.lats.zip st).map fun p => (p.1.1, p.2)).take j) (putAll (x.ins.zip inp) (zero x))) vq st[j]) := by
                show _ = _
                have hz : j < ((x.lats.zip st).map fun p => (p.1.1, p.2)).length := by simp; omega
                rw [List.take_succ_eq_append_getElem hz, putAll_snoc, hvq2]
                simp
              have hpl : (putAll (((x.lats.zip st).map fun p => (p.1.1, p.2)).take j) (putAll (x.ins.zip inp) (zero x))).length = (x.max + 1).toNat := by rw [putAll_len, putAll_len, HZL.out]
              have HST := Lib.hid (set_bs wr.drew (putAll (((x.lats.zip st).map fun p => (p.1.1, p.2)).take j) (putAll (x.ins.zip inp) (zero x))) vq st[j] (by rw [hvq2]; exact var_nn _) (by rw [hvq2, hpl]; exact hown.2) (by rw [hpl]; have := HMX.out; omega) _ rfl)
              rw [← HZ.out] at HST
              have HBD := Lib.hid (hB.out.trans (Below.refl _ _).drew)
              generalize st[j] = bb at *
              generalize x.lats[j] = t at *
              obtain ⟨q2, hq2⟩ : ∃ q, putAll (((x.lats.zip st).map fun p => (p.1.1, p.2)).take j) (putAll (x.ins.zip inp) (zero x)) = q := ⟨_, rfl⟩
              obtain ⟨q3, hq3⟩ : ∃ q, putAll (((x.lats.zip st).map fun p => (p.1.1, p.2)).take (j + 1)) (putAll (x.ins.zip inp) (zero x)) = q := ⟨_, rfl⟩
              rw [hq2] at HST ⊢
              rw [hq3] at HST
              have HQ3 := Lib.hid hq3
              clear hown hown2 hvq2 hpl HZ hB hla hq2 hq3
              go_upto_region 17 with fail
              refine wp_region_still_tail 11 (by kernel_rfl) (by kernel_rfl) ?_
              simp only [List.take_succ_cons, List.take_zero, List.drop_succ_cons, List.drop_zero]
              repeat still_step
              refine wpStill_nil ?_
              go_wp2_with fail
              with_reducible refine HST.out.mono ?_
              rintro e wx ⟨rfl, hbx⟩
              have HBX := Lib.hid (HBD.out.trans (hbx.mono HBD.out.size))
              clear hbx
              go_wp2_with fail
              go_roundw
              case rel => exact ⟨j + 1, by omega, by go_num, by rw [HQ3.out], HBX.out⟩
              case measure => simp [intOf]; omega
            · skip
              have hall : ((x.lats.zip st).map fun p => (p.1.1, p.2)).take j = ((x.lats.zip st).map fun p => (p.1.1, p.2)) := List.take_of_length_le (by simp; omega)
              rw [hall]
              clear hall
              go_wp2_with fail
              have HBW4 := hB
              have hbase : putAll ((x.lats.zip st).map fun p => (p.1.1, p.2)) (putAll (x.ins.zip inp) (zero x)) = base x st inp := rfl
              rw [hbase]
              clear hbase hla hca hga m2 hB
              go_loopw [8, 12] (fun s u wr => ∃ j : Nat, j ≤ x.ands.length ∧ u = .int .i64 j ∧ s = .string (bs ((x.ands.take j).foldl stepA (base x st inp))) ∧ Hid (Below W1.heap.size W1 wr)) (fun _ u _ => x.ands.length - (intOf u).toNat)
              case atStart => exact ⟨0, Nat.zero_le _, rfl, rfl, HBW4.out⟩
              case round =>
                clear HBW4
                obtain ⟨j, hj, rfl, rfl, hB⟩ := hrel
                have m6 := (HX.out wr hB.out).k6
                have hla := (HIN.out wr hB.out).ands
                have hca := hla.cap
                have hga := hla.big
                try simp only at m6 hca hga
                by_cases hlt : j < x.ands.length
                · obtain ⟨b, o, hx, hae, hbs, d0, d1, d2⟩ := hla.tri hlt
                  try simp only at hae
                  subst hae
                  have hown := HOWN.out x.ands[j].1 (and_own (List.getElem_mem hx))
                  have hown2 := HOW2.out x.ands[j].1 (and_own (List.getElem_mem hx))
                  have hal := HAN.out x.ands[j] (List.getElem_mem hx)
                  obtain ⟨vq, hvq, hvq2⟩ : ∃ v : Int, Int.tdiv x.ands[j].1 2 = v ∧ v = var x.ands[j].1 := ⟨_, rfl, by unfold var; rw [Int.max_eq_left hown2.1]; exact Int.tdiv_eq_ediv_of_nonneg hown2.1⟩
                  have hwq : IntKind.i64.wrap vq = vq := IntWalk.i64_in _ (by rw [hvq2]; unfold var; omega)
                  have HSP : Hid ((x.ands.take (j + 1)).foldl stepA (base x st inp) = stepA ((x.ands.take j).foldl stepA (base x st inp)) x.ands[j]) := by
                    show _ = _
                    rw [List.take_succ_eq_append_getElem hx, List.foldl_append]; rfl
                  have hpl : ((x.ands.take j).foldl stepA (base x st inp)).length = (x.max + 1).toNat := by rw [fold_len, base_len]
                  generalize (x.ands.take j).foldl stepA (base x st inp) = P at *
                  have hpl2 : P.length ≤ 9223372036854775807 := by rw [hpl]; have := HMX.out; omega
                  have HTL := Lib.hid (refTrue_any wr P x.ands[j].2.1 hal.1.1 hal.1.2 hpl2)
                  have HTR := Lib.hid (refTrue_any wr P x.ands[j].2.2 hal.2.1 hal.2.2 hpl2)
                  have HST := Lib.hid (set_bs wr P vq true (by rw [hvq2]; exact var_nn _) (by rw [hvq2, hpl]; exact hown.2) (by rw [hpl]; have := HMX.out; omega) 49 rfl)
                  have HSV : Hid (stepA P x.ands[j] = if litV P x.ands[j].2.1 && litV P x.ands[j].2.2 then setB P vq true else P) := by show _ = _; rw [hvq2]; rfl
                  generalize litV P x.ands[j].2.1 = b1 at *
                  generalize litV P x.ands[j].2.2 = b2 at *
                  generalize stepA P x.ands[j] = P2 at *
                  generalize setB P vq true = P3 at *
                  generalize x.ands[j] = t at *
                  generalize hsp : bs P = sp at *
                  have HEP := Lib.hid hsp
                  clear hown hown2 hvq2 hpl hpl2 hla hal hsp
                  cases b1
                  · have HE : Hid (P2 = P) := HSV.out
                    clear HSV
                    go_wp2_with fail
                    with_reducible refine HTL.out.mono ?_
                    rintro e wx ⟨rfl, rfl⟩
                    go_wp2_with fail
                    go_roundw
                    case rel => exact ⟨j + 1, by omega, by go_num, by rw [HSP.out, HE.out, HEP.out], hB.out⟩
                    case measure => simp [intOf]; omega
                  · cases b2
                    · have HE : Hid (P2 = P) := HSV.out
                      clear HSV
                      go_wp2_with fail
                      with_reducible refine HTL.out.mono ?_
                      rintro e wx ⟨rfl, rfl⟩
                      go_wp2_with fail
                      with_reducible refine HTR.out.mono ?_
                      rintro e wx ⟨rfl, rfl⟩
                      go_wp2_with fail
                      go_roundw
                      case rel => exact ⟨j + 1, by omega, by go_num, by rw [HSP.out, HE.out, HEP.out], hB.out⟩
                      case measure => simp [intOf]; omega
                    · have HE : Hid (P2 = P3) := HSV.out
                      clear HSV
                      go_wp2_with fail
                      with_reducible refine HTL.out.mono ?_
                      rintro e wx ⟨rfl, rfl⟩
                      go_wp2_with fail
                      with_reducible refine HTR.out.mono ?_
                      rintro e wx ⟨rfl, rfl⟩
                      go_wp2_with fail
                      with_reducible refine HST.out.mono ?_
                      rintro e wx ⟨rfl, hbx⟩
                      have HBX := Lib.hid (hB.out.trans (hbx.mono hB.out.size))
                      clear hbx
                      go_wp2_with fail
                      go_roundw
                      case rel => exact ⟨j + 1, by omega, by go_num, by rw [HSP.out, HE.out], HBX.out⟩
                      case measure => simp [intOf]; omega
                · have hall : x.ands.take j = x.ands := List.take_of_length_le (by omega)
                  rw [hall]
                  go_wp2_with fail
                  refine bodyPost_ret (v := .tuple #[.string (bs (vals x st inp)), .int .i64 0]) (by simp [results, Tryz.results37, go_sem, vals]) rfl ?_
                  exact ⟨rfl, HB1.out.trans (hB.out.mono HB1.out.size)⟩
end BadP
end Go.Proofs.YtninglnchengeaaGreatDoor

/-
  A witness of what is left of a circuit, spread: plain.
-/
namespace Go.Proofs.YtninglnchengeaaGreatDoor
open Go.RowKit Base
set_option linter.unusedVariables false
set_option linter.unusedSimpArgs false
namespace Spr
open Circuit StrashP Coi BadP

theorem right_red {x : Circ} {l : List Int} {bl : Int} (h : CheckOk x) (hyok : CheckOk (reduced x l bl)) (st : List Bool) (hst : st.length = (reduced x l bl).lats.length) (qs : List (List Bool)) (hq : ∀ q ∈ qs, q.length = (reduced x l bl).ins.length) :
    rightE x (reduced x l bl) (bs st) (qs.map bs) = 0 := by
  have hp : partB x (reduced x l bl) = true := by
    unfold partB beyondB
    rw [Bool.not_eq_true', Bool.or_eq_false_iff]
    refine ⟨List.any_eq_false.2 fun m hm => ?_, List.any_eq_false.2 fun m hm => ?_⟩
    · have : m ∈ x.ins := (List.mem_filter.1 hm).1
      simp [this]
    · obtain ⟨t, ht, rfl⟩ := List.mem_map.1 hm
      have : t.1 ∈ x.lats.map (·.1) := List.mem_map.2 ⟨t, (List.mem_filter.1 ht).1, rfl⟩
      simp only [this, decide_true, Bool.not_true, Bool.false_eq_true, not_false_eq_true]
  have hb : bitsB (reduced x l bl) (bs st) (qs.map bs) = true := by
    unfold bitsB
    rw [bits_bs st hst, Bool.true_and, List.all_map, List.all_eq_true]
    exact fun q hqm => bits_bs q (hq q hqm)
  unfold rightE
  rw [tt_pos h, tt_pos hyok, hp, hb]
  rfl

theorem outs_spread {x : Circ} {l : List Int} {bl : Int} (h : CheckOk x) : ∀ (qs : List (List Bool)) (outs : List ByteArray), (∀ q ∈ qs, q.length = (reduced x l bl).ins.length) → outs.length = qs.length → OutsI x (reduced x l bl) (qs.map bs) outs →
    ∃ inps : List (List Bool), outs = inps.map bs ∧ (∀ q ∈ inps, q.length = x.ins.length) ∧ inps.map (proj (cnt x l) x.ins) = qs
  | [], [], _, _, _ => ⟨[], rfl, fun q hq => (by cases hq), rfl⟩
  | [], o :: r, _, hl, _ => by simp at hl
  | q :: qs, [], _, hl, _ => by simp at hl
  | q :: qs, o :: outs, hq, hl, hO => by
    obtain ⟨inps, h1, h2, h3⟩ := outs_spread h qs outs (fun t ht => hq t (List.mem_cons_of_mem _ ht)) (by simpa using hl) (fun i s t hs ht => hO (i + 1) s t (by simpa using hs) (by simpa using ht))
    obtain ⟨R, hR, hA⟩ := hO 0 (bs q) o rfl rfl
    obtain ⟨i, g1, g2, g3⟩ := input_spread h q (hq q List.mem_cons_self) R hA
    refine ⟨i :: inps, by rw [hR, g1, h1]; rfl, fun t ht => ?_, by rw [List.map_cons, g3, h3]⟩
    rcases List.mem_cons.1 ht with rfl | ht
    · exact g2
    · exact h2 t ht

theorem spread_path {x : Circ} {l : List Int} {bl : Int} {A : List (List Int)} (h : CheckOk x) (hA : ∀ m ∈ A.flatten, m ∈ l) (hv : ∀ m ∈ x.invs, m ∈ l) (hb : bl ∈ l) (st : List Bool) (qs : List (List Bool)) (hst : initL (reduced x l bl) st) (hq : ∀ q ∈ qs, q.length = (reduced x l bl).ins.length)
    (R : List UInt8) (outs : List ByteArray) (hR : Among (x.lats.map (·.1)) ((reduced x l bl).lats.map (·.1)) (bs st).data.toList (firstL x) R x.lats.length) (hl : outs.length = qs.length) (hO : OutsI x (reduced x l bl) (qs.map bs) outs) :
    ∃ (S : List Bool) (inps : List (List Bool)), (⟨R.toArray⟩ : ByteArray) = bs S ∧ initL x S ∧ outs = inps.map bs ∧ (∀ q ∈ inps, q.length = x.ins.length) ∧ inps.length = qs.length ∧ pathE x A bl S inps = pathE (reduced x l bl) A bl st qs := by
  obtain ⟨S, g1, g2, g3⟩ := state_spread h st hst R hR
  obtain ⟨inps, h1, h2, h3⟩ := outs_spread h qs outs hq hl hO
  refine ⟨S, inps, by rw [g1]; rfl, g2, h1, h2, by rw [← h3, List.length_map], ?_⟩
  rw [← path_red h hA hv hb inps S g2.1 h2, g3, h3]

/-- A state under way: each of its bits may begin so. -/
structure StI (y : Circ) (k : Nat) (L : List Bool) : Prop where
  len : L.length = k
  ok : ∀ p ∈ (y.lats.take k).zip L, okB p.1 p.2 = true
theorem st_start (y : Circ) : StI y 0 [] := ⟨rfl, fun p hp => by simp at hp⟩
theorem st_more {y : Circ} {k : Nat} {L : List Bool} (h : StI y k L) (hk : k < y.lats.length) {b : Bool} (hb : okB y.lats[k] b = true) : StI y (k + 1) (L ++ [b]) :=
  ⟨by rw [List.length_append, h.len]; rfl, fun p hp => by
    rw [List.take_succ_eq_append_getElem hk, List.zip_append (by rw [List.length_take, h.len]; omega)] at hp
    rcases List.mem_append.1 hp with g | g
    · exact h.ok p g
    · simp at g
      rw [g]
      exact hb⟩
theorem st_end {y : Circ} {L : List Bool} (h : StI y y.lats.length L) : initL y L := ⟨h.len, fun p hp => h.ok p (by rw [List.take_length]; exact hp)⟩
theorem okB_own {t : Tri} (h : t.2.2 = t.1) (b : Bool) : okB t b = true := by unfold okB; simp [h]
theorem okB_one {t : Tri} (h : t.2.2 = 1) : okB t true = true := by unfold okB; simp [h]
theorem okB_zero {t : Tri} (h : t.2.2 ≠ 1) : okB t false = true := by unfold okB; simp [h]
end Spr
end Go.Proofs.YtninglnchengeaaGreatDoor

/-
  interlockref07's Next.
-/
namespace Go.Proofs.YtninglnchengeaaGreatDoor
open Go.RowKit Base
set_option linter.unusedVariables false
set_option linter.unusedSimpArgs false
namespace BadP
open Circuit Coi

set_option maxRecDepth 8000 in
set_option maxHeartbeats 8000000 in
theorem next_any (w : World) (x : Circ) (p : At) (hin : InCirc w x p) (hw : WfC x) (hok : CheckOk x) (hza : x.ands.length * 24 ≤ 140737488355328) (st inp : List Bool) (hst : st.length = x.lats.length) (hinp : inp.length = x.ins.length) :
    Calls Tryz.prog 40 #[.agg (cells x p), .string (bs st), .string (bs inp)] w fun e w' => e = .returned (.tuple #[.string (bs (next x st inp)), .int .i64 0]) ∧ Below w.heap.size w w' := by
  obtain ⟨W1, hW1⟩ : ∃ U, w.alloc (.cells (cells x p) 27) = U := ⟨_, rfl⟩
  obtain ⟨hb1, hx1⟩ := cbox_new w x p W1 hW1
  have HB1 := Lib.hid hb1
  have HX := Lib.hid (fun (U : World) (hU : Below W1.heap.size W1 U) => hx1.next hU (Nat.le_refl _))
  have HIN := Lib.hid (fun (U : World) (hU : Below W1.heap.size W1 U) => (hin.next hb1).next hU)
  have HLI := Lib.hid (lits_in hok hw).2.2
  have hva := values_any W1 x p (hin.next hb1) hw hok hza st inp hst hinp
  have HNX : Hid (next x st inp = x.lats.map fun t => litV (vals x st inp) t.2.1) := rfl
  have HFW : Hid (x.lats.length ≤ 64) := hok.1.2.2.2.1
  have hvl : (vals x st inp).length ≤ 9223372036854775807 := by rw [vals_len]; have := hok.1.2.1; omega
  generalize vals x st inp = V at *
  have HTR := Lib.hid (fun (U : World) (l : Int) (h : 0 ≤ l ∧ l ≤ 9223372036854775807) => refTrue_any U V l h.1 h.2 hvl)
  obtain ⟨a1, c1, a2, c2, a3, c3, a4, c4, a5, c5, a6, c6, a7, c7⟩ := p
  simp only [cells] at hW1 hva ⊢
  have HVA := Lib.hid hva
  clear hin hw hok hza hst hinp hb1 hx1 hva hvl
  generalize bs st = s1 at *
  generalize bs inp = s2 at *
  have c := HX.out W1 (Below.refl _ _)
  have k0 := c.k0
  have k1 := c.k1
  have k2 := c.k2
  have k3 := c.k3
  have k4 := c.k4
  have k5 := c.k5
  have k6 := c.k6
  have k7 := c.k7
  clear c
  go_enter Tryz.func40, Tryz.ntmps40
  go_wp2_with fail
  clear hW1
  with_reducible refine HVA.out.mono ?_
  rintro e w2 ⟨rfl, hb2⟩
  have HB2 := Lib.hid hb2
  clear hb2 k0 k1 k2 k3 k4 k5 k6 k7
  generalize hsv : bs V = sv at *
  have HSV := Lib.hid hsv
  clear hsv
  go_wp2_with fail
  go_loopw [10, 11] (fun s u wr => ∃ j : Nat, j ≤ x.lats.length ∧ u = .int .i64 j ∧ s = .string (bs ((x.lats.take j).map fun t => litV V t.2.1)) ∧ Hid (Below W1.heap.size W1 wr)) (fun _ u _ => x.lats.length - (intOf u).toNat)
  case atStart => exact ⟨0, Nat.zero_le _, rfl, rfl, HB2.out⟩
  case round =>
    clear HB2
    obtain ⟨j, hj, rfl, rfl, hB⟩ := hrel
    have m2 := (HX.out wr hB.out).k2
    have hla := (HIN.out wr hB.out).lats
    have hca := hla.cap
    have hga := hla.big
    try simp only at m2 hca hga
    by_cases hlt : j < x.lats.length
    · obtain ⟨b, o, hx, hae, hbs, d0, d1, d2⟩ := hla.tri hlt
      try simp only at hae
      subst hae
      have HTK := HTR.out wr x.lats[j].2.1 (HLI.out _ (List.getElem_mem hx))
      have HST : Hid (bs ((x.lats.take (j + 1)).map fun t => litV V t.2.1) = bs ((x.lats.take j).map fun t => litV V t.2.1) ++ bs [litV V x.lats[j].2.1]) := by
        show _ = _
        rw [List.take_succ_eq_append_getElem hx, List.map_append, bs_app]; rfl
      have hz : (bs ((x.lats.take j).map fun t => litV V t.2.1)).size = j := by rw [bs_size, List.length_map, List.length_take]; omega
      have HFWO := HFW.out
      have hz2 : ∀ b : Bool, (bs [b]).size = 1 := fun b => bs_size _
      have hlim : ¬ 9223372036854775807 < j + 1 := by omega
      generalize bs ((x.lats.take j).map fun t => litV V t.2.1) = s8 at *
      generalize litV V x.lats[j].2.1 = q at *
      generalize x.lats[j] = t at *
      have HTK2 := Lib.hid HTK
      clear HTK hla
      have HBI := Lib.hid (fun U => bit_any U q)
      have hzq := hz2 q
      generalize bs [q] = s9 at *
      clear hz2 HFWO
      go_wp2_with fail
      with_reducible refine HTK2.out.mono ?_
      rintro e wx ⟨rfl, rfl⟩
      go_wp2_with fail
      with_reducible refine (HBI.out _).mono ?_
      rintro e wy ⟨rfl, rfl⟩
      go_wp2_with fail
      go_roundw
      case rel => exact ⟨j + 1, by omega, by go_num, by rw [HST.out], hB.out⟩
      case measure => simp [intOf]; omega
    · have hall : x.lats.take j = x.lats := List.take_of_length_le (by omega)
      rw [hall, ← HNX.out]
      go_wp2_with fail
      refine bodyPost_ret (v := .tuple #[.string (bs (next x st inp)), .int .i64 0]) (by simp [results, Tryz.results40, go_sem]) rfl ?_
      exact ⟨rfl, HB1.out.trans (hB.out.mono HB1.out.size)⟩

end BadP
end Go.Proofs.YtninglnchengeaaGreatDoor

/-
  A first state, as bits and as its text.
-/
namespace Go.Proofs.YtninglnchengeaaGreatDoor
open Go.RowKit Base
set_option linter.unusedVariables false
set_option linter.unusedSimpArgs false
namespace BadP
open Circuit Coi

theorem init_eq {x : Circ} {s : List Bool} (hs : s.length = x.lats.length) : Initial.initialB x.lats (bs s) = tt (initL x s) := by
  have h1 : RefBits.bits (bs s).data.toList (x.lats.length : Int) = true := bits_bs s hs
  have key : ∀ (lats : List Tri) (s : List Bool), s.length = lats.length → ((List.zipWith Initial.okLat lats (s.map byteB)).all id = true ↔ ∀ p ∈ lats.zip s, okB p.1 p.2 = true) := by
    intro lats
    induction lats with
    | nil => intro s h; simp
    | cons t r ih =>
      intro s h
      cases s with
      | nil => simp at h
      | cons b s =>
        have e : Initial.okLat t (byteB b) = okB t b := by unfold Initial.okLat okB; rw [byte_one]
        rw [List.map_cons, List.zipWith_cons_cons, List.all_cons, List.zip_cons_cons, Bool.and_eq_true, ih s (by simpa using h), e]
        simp
  unfold Initial.initialB
  rw [h1, Bool.true_and, bs_list]
  by_cases hq : ∀ p ∈ x.lats.zip s, okB p.1 p.2 = true
  · rw [(key x.lats s hs).2 hq, tt_pos ⟨hs, hq⟩]
  · rw [tt_neg (fun h => hq h.2), Bool.eq_false_iff]
    exact fun h => hq ((key x.lats s hs).1 h)
end BadP
end Go.Proofs.YtninglnchengeaaGreatDoor

/-
  interlockref07.Path (written by path.py).
-/
namespace Go.Proofs.YtninglnchengeaaGreatDoor
open Go.RowKit Base
set_option linter.unusedVariables false
set_option linter.unusedSimpArgs false
namespace Spr
open Circuit StrashP Coi BadP

theorem drop_one {α : Type} {l : List α} {k : Nat} (h : k < l.length) : l.drop k = l[k] :: l.drop (k + 1) := List.drop_eq_getElem_cons h
theorem loop_no {x : Circ} {A : List (List Int)} {b : Int} {t q : List Bool} {r : List (List Bool)} (h : allow x A (vals x t q) = false) : loopP x A b t (q :: r) = 51 := by
  show (if (allow x A (vals x t q) && _) = true then _ else (51 : Int)) = 51
  rw [h]; rfl
theorem loop_last {x : Circ} {A : List (List Int)} {b : Int} {t q : List Bool} (h : litV (vals x t q) b = false) : loopP x A b t [q] = 51 := by
  show (if (allow x A (vals x t q) && (false || litV (vals x t q) b)) = true then _ else (51 : Int)) = 51
  rw [h]; simp
theorem loop_yes {x : Circ} {A : List (List Int)} {b : Int} {t q : List Bool} {r : List (List Bool)} (h : allow x A (vals x t q) = true) (h2 : r = [] → litV (vals x t q) b = true) : loopP x A b t (q :: r) = loopP x A b (next x t q) r := by
  show (if (allow x A (vals x t q) && (!r.isEmpty || litV (vals x t q) b)) = true then _ else (51 : Int)) = _
  rw [h]
  cases r with
  | nil => rw [h2 rfl]; rfl
  | cons y s => rfl

set_option maxRecDepth 8000 in
set_option maxHeartbeats 16000000 in
theorem path_any (w : World) (x : Circ) (p : At) (hin : InCirc w x p) (hw : WfC x) (hok : CheckOk x) (hza : x.ands.length * 24 ≤ 140737488355328) (aA : Option Addr) (n cA : Nat) (vs : List Value) (A : List (List Int)) (hA : Sl2 w aA n cA vs A) (hA64 : ∀ y ∈ A.flatten, 0 ≤ y ∧ y ≤ 9223372036854775807)
    (kb : Nat) (hkb : kb < x.bads.length) (s : List Bool) (hs : initL x s) (aI : Option Addr) (cI : Nat) (inp : List (List Bool)) (hI : Sl w aI inp.length cI (inp.map fun q => Value.string (bs q))) (hIl : ∀ q ∈ inp, q.length = x.ins.length) :
    Calls Tryz.prog 13 #[.agg (cells x p), .slice aA n cA, .agg #[.int .i64 (kb : Int), .string (bs s), .slice aI inp.length cI]] w fun e w' => e = .returned (.int .i64 (pathE x A x.bads[kb] s inp)) ∧ Below w.heap.size w w' := by
  obtain ⟨W1, hW1⟩ : ∃ U, w.alloc (.cells (cells x p) 27) = U := ⟨_, rfl⟩
  obtain ⟨hb1, hx1⟩ := cbox_new w x p W1 hW1
  obtain ⟨W2, hW2⟩ : ∃ U, W1.alloc (.cells #[.int .i64 (kb : Int), .string (bs s), .slice aI inp.length cI] 30) = U := ⟨_, rfl⟩
  have hb2 : Below W1.heap.size W1 W2 := by rw [← hW2]; exact (Below.refl _ _).alloc (Nat.le_refl _) _
  have hx2 : BoxN W1.heap.size [.int .i64 (kb : Int), .string (bs s), .slice aI inp.length cI] W2 := by rw [← hW2]; exact BoxN.new W1 _ _
  have hb02 : Below w.heap.size w W2 := hb1.trans (hb2.mono hb1.size)
  have HB2 := Lib.hid hb02
  have HX := Lib.hid (fun (U : World) (hU : Below W2.heap.size W2 U) => (hx1.next hb2 (Nat.le_refl _)).next hU (Nat.le_refl _))
  have HW := Lib.hid (fun (U : World) (hU : Below W2.heap.size W2 U) => hx2.next hU hx2.lt)
  have HT := Lib.hid (fun (U : World) (hU : Below W2.heap.size W2 U) => hU)
  have HIN := Lib.hid (fun (U : World) (hU : Below W2.heap.size W2 U) => hin.next (hb02.trans (hU.mono hb02.size)))
  have HII := Lib.hid (fun (U : World) (hU : Below W2.heap.size W2 U) => hI.next (hb02.trans (hU.mono hb02.size)))
  have HCK := refCheck_any W2 x p (HIN.out W2 (Below.refl _ _)) hw hza
  rw [refchk_pos ((check_iff _).1 hok)] at HCK
  have hsl : s.length = x.lats.length := hs.1
  have hvl : ∀ s i, (vals x s i).length ≤ 9223372036854775807 := fun s i => by rw [vals_len]; have := hok.1.2.1; omega
  have HVA := fun (U : World) (hU : Below W2.heap.size W2 U) (t q : List Bool) (ht : t.length = x.lats.length) (hq : q.length = x.ins.length) => values_any U x p (HIN.out U hU) hw hok hza t q ht hq
  have HNA := fun (U : World) (hU : Below W2.heap.size W2 U) (t q : List Bool) (ht : t.length = x.lats.length) (hq : q.length = x.ins.length) => next_any U x p (HIN.out U hU) hw hok hza t q ht hq
  have HAA := fun (U : World) (hU : Below W2.heap.size W2 U) (t q : List Bool) => allowed_any U x p (HIN.out U hU) (vals x t q) (hvl t q) (lits_in hok hw).2.1 aA n cA vs A (hA.next (hb02.trans (hU.mono hb02.size))) hA64
  have HTA := Lib.hid (fun (U : World) (t q : List Bool) => refTrue_any U (vals x t q) x.bads[kb] ((lits_in hok hw).1 _ (List.getElem_mem hkb)).1 ((lits_in hok hw).1 _ (List.getElem_mem hkb)).2 (hvl t q))
  have hfl : x.lats.length ≤ 64 := hok.1.2.2.2.1
  have hfi : x.ins.length ≤ 1000000 := by have := hok.1.2.2.1; omega
  have HIA := fun (U : World) (hU : Below W2.heap.size W2 U) => Initial.initial_any U x p (HIN.out U hU) (bs s) (by rw [bs_size]; omega)
  rw [init_eq hsl, tt_pos hs] at HIA
  have HBS := Lib.hid (fun (U : World) => RefBits.bits_any U (bs s) (by rw [bs_size]; omega) (x.lats.length : Int))
  rw [bits_bs s hsl] at HBS
  have HBQ := Lib.hid (fun (U : World) (q : List Bool) (hq : q ∈ inp) => RefBits.bits_any U (bs q) (by rw [bs_size, hIl q hq]; omega) (x.ins.length : Int))
  have HBR := Lib.hid (fun (q : List Bool) (hq : q ∈ inp) => bits_bs q (hIl q hq))
  have HIL := Lib.hid hIl
  have HSL := Lib.hid hsl
  have hcI := hI.cap
  have hgI := hI.big
  have hcb := hin.bads.cap
  have hgb := hin.bads.big
  have hcl := hin.lats.cap
  have hgl := hin.lats.big
  have hci := hin.ins.cap
  have hgi := hin.ins.big
  have HPE : Hid (pathE x A x.bads[kb] s inp = if inp = [] then 8 else loopP x A x.bads[kb] s inp) := rfl
  have HBC := Lib.hid (fun (U : World) (hU : Below W2.heap.size W2 U) => (HIN.out U hU).bads.int hkb)
  have HKB := Lib.hid hkb
  obtain ⟨a1, c1, a2, c2, a3, c3, a4, c4, a5, c5, a6, c6, a7, c7⟩ := p
  simp only [cells] at hW1 HCK HVA HNA HAA HIA hcb hgb hcl hgl hci hgi ⊢
  have HC1 := Lib.hid HCK
  have HVV := Lib.hid HVA
  have HNV := Lib.hid HNA
  have HAV := Lib.hid HAA
  have HIV := Lib.hid HIA
  clear hin hw hok hza hA hA64 hs hI hIl hb1 hx1 hb2 hx2 hb02 HCK hsl HVA HNA HAA HIA hvl
  generalize hsB : bs s = sB at *
  have HSB := Lib.hid hsB
  clear hsB
  generalize pathE x A x.bads[kb] s inp = PE at *
  have HLB : Hid (∃ g o, a4 = some ⟨g, o, none⟩ ∧ g < W2.heap.size ∧ W2.cell? ⟨g, o + kb, none⟩ = some (.int .i64 x.bads[kb])) := by
    obtain ⟨g, o, hx, ha, hg, hc⟩ := HBC.out W2 (Below.refl _ _)
    exact ⟨g, o, ha, hg, hc⟩
  clear HBC
  generalize x.bads[kb] = bl at *
  have hkbI : (kb : Int) < (x.bads.length : Int) := by omega
  have hkb0 : ¬ (kb : Int) < 0 := by omega
  obtain ⟨g4, o4, ha4, hg4, hc4⟩ := HLB.out
  subst ha4
  have HL4 : Hid (∀ U, Below W2.heap.size W2 U → U.cell? ⟨g4, o4 + kb, none⟩ = some (.int .i64 bl)) := fun U hU => (hU.cell (p := ⟨g4, o4 + kb, none⟩) hg4).trans hc4
  clear HLB hg4 hc4
  have c := HX.out W2 (Below.refl _ _)
  have k0 := c.k0
  have k1 := c.k1
  have k2 := c.k2
  have k3 := c.k3
  have k4 := c.k4
  have k5 := c.k5
  have k6 := c.k6
  have k7 := c.k7
  clear c
  try simp only at k0 k1 k2 k3 k4 k5 k6 k7
  have d := HW.out W2 (Below.refl _ _)
  have j0 := d.at' 0 _ rfl
  have j1 := d.at' 1 _ rfl
  have j2 := d.at' 2 _ rfl
  clear d
  by_cases hne : inp = []
  · subst hne
    have HR : Hid (PE = 8) := HPE.out
    simp only [List.length_nil] at *
    go_enter Tryz.func13, Tryz.ntmps13
    go_wp2_with fail
    clear hW1 hW2
    with_reducible refine HC1.out.mono ?_
    rintro e w3 ⟨rfl, hb3⟩
    have HB3 := Lib.hid hb3
    clear k0 k1 k2 k3 k4 k5 k6 k7 j0 j1 j2
    have k4 := (HX.out w3 hb3).k4
    have j0 := (HW.out w3 hb3).at' 0 _ rfl
    have j2 := (HW.out w3 hb3).at' 2 _ rfl
    clear hb3
    try simp only at k4
    go_wp2_with fail
    go_ret
    exact ⟨ret_int HR.out.symm, HB2.out.trans (HB3.out.mono HB2.out.size)⟩
  · have HR : Hid (PE = loopP x A bl s inp) := by show _ = _; rw [HPE.out, if_neg hne]
    have hlp : 0 < inp.length := List.length_pos_iff.2 hne
    have hl0 : ((inp.length : Int) == 0) = false := by simp; omega
    clear hne HPE
    go_enter Tryz.func13, Tryz.ntmps13
    go_wp2_with fail
    clear hW1 hW2
    with_reducible refine HC1.out.mono ?_
    rintro e w3 ⟨rfl, hb3⟩
    have HB3 := Lib.hid hb3
    clear k0 k1 k2 k3 k4 k5 k6 k7 j0 j1 j2
    have k4 := (HX.out w3 hb3).k4
    have k2 := (HX.out w3 hb3).k2
    have j0 := (HW.out w3 hb3).at' 0 _ rfl
    have j1 := (HW.out w3 hb3).at' 1 _ rfl
    have j2 := (HW.out w3 hb3).at' 2 _ rfl
    clear hb3
    try simp only at k4 k2
    go_wp2_with fail
    with_reducible refine (HBS.out _).mono ?_
    rintro e w4 ⟨rfl, rfl⟩
    go_wp2_with fail
    clear k4 k2 j0 j1 j2
    go_loopw [7] (fun i wr => ∃ k : Nat, k ≤ inp.length ∧ i = .int .i64 k ∧ Hid (Below W2.heap.size W2 wr)) (fun i _ => inp.length - (Go.RowKit.intOf i).toNat)
    case atStart => exact ⟨0, Nat.zero_le _, rfl, by first | exact HB3.out | exact below_drewN HB3.out _⟩
    case round =>
      obtain ⟨k, hk, rfl, HB⟩ := hrel
      generalize wr = ws at *
      have k1 := (HX.out ws HB.out).k1
      have j2 := (HW.out ws HB.out).at' 2 _ rfl
      try simp only at k1
      by_cases hlt : k < inp.length
      · obtain ⟨b, o, ha, hbs, hc⟩ := (HII.out ws HB.out).cell k (.string (bs inp[k])) (by rw [List.getElem?_map, List.getElem?_eq_getElem hlt]; rfl)
        subst ha
        have HHU := fun n => HBQ.out (ws.drewN n) inp[k] (List.getElem_mem hlt)
        rw [HBR.out _ (List.getElem_mem hlt)] at HHU
        have HHV := Lib.hid HHU
        clear HHU
        generalize bs inp[k] = qB at *
        go_upto_region 12 with fail
        go_quiet ((go_at_call 8; exact Calls.quiet_of_same ((HHV.out _).mono fun e w' h => ⟨h.1, h.2.symm⟩)))
        go_wp2_with fail
        go_roundw
        case rel => exact ⟨k + 1, by omega, by go_num, below_drewN HB.out _⟩
        case measure => simp [Go.RowKit.intOf]; omega
      · have hend : k = inp.length := by omega
        subst hend
        have j1 := (HW.out ws HB.out).at' 1 _ rfl
        have j0 := (HW.out ws HB.out).at' 0 _ rfl
        have HI1 := Lib.hid (HIV.out ws HB.out)
        clear k1
        have c := HX.out ws (HB.out)
        have k0 := c.k0
        have k1 := c.k1
        have k2 := c.k2
        have k3 := c.k3
        have k4 := c.k4
        have k5 := c.k5
        have k6 := c.k6
        have k7 := c.k7
        clear c
        try simp only at k0 k1 k2 k3 k4 k5 k6 k7
        go_wp2_with fail
        with_reducible refine HI1.out.mono ?_
        rintro e w5 ⟨rfl, hb5⟩
        have HB5 := Lib.hid (HB.out.trans (hb5.mono HB.out.size))
        clear k0 k1 k2 k3 k4 k5 k6 k7 j0 j1 j2 hb5 hk hlt
        have j1 := (HW.out w5 HB5.out).at' 1 _ rfl
        go_wp2_with fail
        clear j1
        go_loopw [8, 9] (fun u i wr => ∃ (k : Nat) (t : List Bool), k ≤ inp.length ∧ i = .int .i64 k ∧ u = .string (bs t) ∧ Hid (t.length = x.lats.length) ∧ Hid (PE = loopP x A bl t (inp.drop k)) ∧ Hid (Below W2.heap.size W2 wr)) (fun u i _ => inp.length - (Go.RowKit.intOf i).toNat)
        case atStart => exact ⟨0, s, Nat.zero_le _, rfl, by rw [HSB.out], HSL.out, HR.out, HB5.out⟩
        case round =>
          obtain ⟨k, t, hk, rfl, rfl, HTL, HP, HB⟩ := hrel
          generalize wr = wt at *
          have j2 := (HW.out wt HB.out).at' 2 _ rfl
          by_cases hlt : k < inp.length
          · obtain ⟨bq, oq, ha, hbs, hc⟩ := (HII.out wt HB.out).cell k (.string (bs inp[k])) (by rw [List.getElem?_map, List.getElem?_eq_getElem hlt]; rfl)
            subst ha
            have HTB := Lib.hid (fun (U : World) (hU : Below wt.heap.size wt U) => HB.out.trans (hU.mono HB.out.size))
            have HQ0 : Hid (∀ U, Below wt.heap.size wt U → U.cell? ⟨bq, oq + k, none⟩ = some (.string (bs inp[k]))) := fun U hU => (hU.cell (p := ⟨bq, oq + k, none⟩) hbs).trans hc
            have HQL := Lib.hid (HIL.out _ (List.getElem_mem hlt))
            have HCV := Lib.hid (HVV.out wt.drew (HB.out.trans ((Below.refl wt.heap.size wt).drew.mono HB.out.size)) t inp[k] HTL.out HQL.out)
            have HNW := Lib.hid (fun (U : World) (hU : Below W2.heap.size W2 U) => HNV.out U hU t inp[k] HTL.out HQL.out)
            have HAW := Lib.hid (fun (U : World) (hU : Below W2.heap.size W2 U) => HAV.out U hU t inp[k])
            have HTW := Lib.hid (fun (U : World) => HTA.out U t inp[k])
            have HP2 : Hid (PE = loopP x A bl t (inp[k] :: inp.drop (k + 1))) := by show _ = _; rw [HP.out, drop_one hlt]
            have HNL : Hid ((next x t inp[k]).length = x.lats.length) := next_len _ _ _
            generalize inp[k] = q at *
            clear hbs hc j2 HP
            have HP3 : Hid (allow x A (vals x t q) = false → PE = 51) := fun h => by rw [HP2.out]; exact loop_no h
            have HP4 : Hid (inp.length = k + 1 → litV (vals x t q) bl = false → PE = 51) := fun h h2 => by rw [HP2.out, List.drop_of_length_le (by omega)]; exact loop_last h2
            have HP5 : Hid (allow x A (vals x t q) = true → (inp.length = k + 1 → litV (vals x t q) bl = true) → PE = loopP x A bl (next x t q) (inp.drop (k + 1))) := fun h h2 => by
              rw [HP2.out]
              exact loop_yes h (fun he => h2 (by have := List.drop_eq_nil_iff.1 he; omega))
            clear HP2
            generalize bs t = tB at *
            generalize bs q = qB at *
            have HNX := Lib.hid (rfl : bs (next x t q) = bs (next x t q))
            generalize vals x t q = V at *
            generalize hnx : next x t q = t2 at *
            clear hnx
            have HQC : Hid (∀ U, Below W2.heap.size W2 U → Below wt.heap.size wt U → U.cell? ⟨bq, oq + k, none⟩ = some (.string qB)) := fun U _ hU => HQ0.out U hU
            have j2 := (HW.out wt HB.out).at' 2 _ rfl
            go_upto_region 20 with fail
            clear j2
            have hSK : ∀ U : World, Below wt.heap.size wt U → U.cell? ⟨w.heap.size, 0, none⟩ = some (.int .i64 x.max) ∧ U.cell? ⟨w.heap.size, 1, none⟩ = some (.slice a1 x.ins.length c1) ∧ U.cell? ⟨w.heap.size, 2, none⟩ = some (.slice a2 x.lats.length c2) ∧ U.cell? ⟨w.heap.size, 3, none⟩ = some (.slice a3 x.outs.length c3) ∧ U.cell? ⟨w.heap.size, 4, none⟩ = some (.slice (some ⟨g4, o4, none⟩) x.bads.length c4) ∧ U.cell? ⟨w.heap.size, 5, none⟩ = some (.slice a5 x.invs.length c5) ∧ U.cell? ⟨w.heap.size, 6, none⟩ = some (.slice a6 x.ands.length c6) ∧ U.cell? ⟨w.heap.size, 7, none⟩ = some (.slice a7 x.names.length c7) ∧ U.cell? ⟨W1.heap.size, 0, none⟩ = some (.int .i64 (kb : Int)) ∧ U.cell? ⟨W1.heap.size, 1, none⟩ = some (.string sB) ∧ U.cell? ⟨W1.heap.size, 2, none⟩ = some (.slice (some ⟨bq, oq, none⟩) inp.length cI) ∧ U.cell? ⟨bq, oq + k, none⟩ = some (.string qB) := fun U hU => by
              have c := HX.out U ((HT.out U (HTB.out U hU)))
              have d := HW.out U ((HTB.out U hU))
              exact ⟨c.k0, c.k1, c.k2, c.k3, c.k4, c.k5, c.k6, c.k7, d.at' 0 _ rfl, d.at' 1 _ rfl, d.at' 2 _ rfl, HQ0.out U hU⟩
            have hS0 := hSK _ (Below.refl wt.heap.size wt).drew
            have hkI : (k : Int) < (inp.length : Int) := by omega
            refine HeldAll.region (fun U : World => U.cell? ⟨w.heap.size, 0, none⟩ = some (.int .i64 x.max) ∧ U.cell? ⟨w.heap.size, 1, none⟩ = some (.slice a1 x.ins.length c1) ∧ U.cell? ⟨w.heap.size, 2, none⟩ = some (.slice a2 x.lats.length c2) ∧ U.cell? ⟨w.heap.size, 3, none⟩ = some (.slice a3 x.outs.length c3) ∧ U.cell? ⟨w.heap.size, 4, none⟩ = some (.slice (some ⟨g4, o4, none⟩) x.bads.length c4) ∧ U.cell? ⟨w.heap.size, 5, none⟩ = some (.slice a5 x.invs.length c5) ∧ U.cell? ⟨w.heap.size, 6, none⟩ = some (.slice a6 x.ands.length c6) ∧ U.cell? ⟨w.heap.size, 7, none⟩ = some (.slice a7 x.names.length c7) ∧ U.cell? ⟨W1.heap.size, 0, none⟩ = some (.int .i64 (kb : Int)) ∧ U.cell? ⟨W1.heap.size, 1, none⟩ = some (.string sB) ∧ U.cell? ⟨W1.heap.size, 2, none⟩ = some (.slice (some ⟨bq, oq, none⟩) inp.length cI) ∧ U.cell? ⟨bq, oq + k, none⟩ = some (.string qB)) (by kernel_rfl) ?_
            (refine HeldAll.take (i := 0) (oi := _) (d := some 73) (v := ?_) rfl rfl (by kernel_rfl) (by kernel_rfl) (by kernel_rfl) (fun _ _ _ h => h) (Or.inl ⟨by rfl, ?_⟩) hS0 ?_; rotate_left; (focus (intro w hSw; (try dsimp only at hSw); go_simp; (try with_reducible rfl); done)); (try simp only [Act.put, List.setIfInBounds_toArray, List.set_cons_zero, List.set_cons_succ]))
            (refine HeldAll.take (i := 1) (oi := _) (d := some 74) (v := ?_) rfl rfl (by kernel_rfl) (by kernel_rfl) (by kernel_rfl) (fun _ _ _ h => h) (Or.inl ⟨by rfl, ?_⟩) hS0 ?_; rotate_left; (focus (intro w hSw; clear hSw; go_simp; (try with_reducible rfl); done)); (try simp only [Act.put, List.setIfInBounds_toArray, List.set_cons_zero, List.set_cons_succ]))
            (refine HeldAll.take (i := 2) (oi := _) (d := some 75) (v := ?_) rfl rfl (by kernel_rfl) (by kernel_rfl) (by kernel_rfl) (fun _ _ _ h => h) (Or.inl ⟨by rfl, ?_⟩) hS0 ?_; rotate_left; (focus (intro w hSw; clear hSw; go_simp; (try with_reducible rfl); done)); (try simp only [Act.put, List.setIfInBounds_toArray, List.set_cons_zero, List.set_cons_succ]))
            (refine HeldAll.take (i := 3) (oi := _) (d := some 76) (v := ?_) rfl rfl (by kernel_rfl) (by kernel_rfl) (by kernel_rfl) (fun _ _ _ h => h) (Or.inl ⟨by rfl, ?_⟩) hS0 ?_; rotate_left; (focus (intro w hSw; (try dsimp only at hSw); go_simp; (try with_reducible rfl); done)); (try simp only [Act.put, List.setIfInBounds_toArray, List.set_cons_zero, List.set_cons_succ]))
            (refine HeldAll.take (i := 4) (oi := _) (d := some 77) (v := ?_) rfl rfl (by kernel_rfl) (by kernel_rfl) (by kernel_rfl) (fun _ _ _ h => h) (Or.inl ⟨by rfl, ?_⟩) hS0 ?_; rotate_left; (focus (intro w hSw; clear hSw; go_simp; (try with_reducible rfl); done)); (try simp only [Act.put, List.setIfInBounds_toArray, List.set_cons_zero, List.set_cons_succ]))
            (refine HeldAll.take (i := 5) (oi := _) (d := some 78) (v := ?_) rfl rfl (by kernel_rfl) (by kernel_rfl) (by kernel_rfl) (fun _ _ _ h => h) (Or.inl ⟨by rfl, ?_⟩) hS0 ?_; rotate_left; (focus (intro w hSw; clear hSw; go_simp; (try with_reducible rfl); done)); (try simp only [Act.put, List.setIfInBounds_toArray, List.set_cons_zero, List.set_cons_succ]))
            (refine HeldAll.take (i := 6) (oi := _) (d := some 79) (v := ?_) rfl rfl (by kernel_rfl) (by kernel_rfl) (by kernel_rfl) (fun _ _ _ h => h) (Or.inl ⟨by rfl, ?_⟩) hS0 ?_; rotate_left; (focus (intro w hSw; (try dsimp only at hSw); go_simp; (try with_reducible rfl); done)); (try simp only [Act.put, List.setIfInBounds_toArray, List.set_cons_zero, List.set_cons_succ]))
            refine HeldAll.one (i := 7) (by kernel_rfl) ?_
            refine HeldAll.opCall (i := 7) (oi := _) (d := some 80) (R := fun v w' => v = .tuple #[.string (bs V), .int .i64 0] ∧ Below wt.drew.heap.size wt.drew w') rfl rfl (by rfl) (by go_simp; done) (HCV.out.mono fun e w' h => ⟨_, h.1, rfl, h.2⟩) ?_
            rintro v w6 ⟨rfl, hb6⟩
            have hb6 : Below wt.heap.size wt w6 := (Below.refl wt.heap.size wt).drew.trans (hb6.mono (Below.refl wt.heap.size wt).drew.size)
            refine ⟨hSK _ hb6, ?_⟩
            (try simp only [Act.put, List.setIfInBounds_toArray, List.set_cons_zero, List.set_cons_succ])
            have hS0 := hSK _ hb6
            (refine HeldAll.take (i := 8) (oi := _) (d := some 72) (v := ?_) rfl rfl (by kernel_rfl) (by kernel_rfl) (by kernel_rfl) (fun _ _ _ h => h) (Or.inl ⟨by rfl, ?_⟩) hS0 ?_; rotate_left; (focus (intro w hSw; clear hSw; go_simp; (try with_reducible rfl); done)); (try simp only [Act.put, List.setIfInBounds_toArray, List.set_cons_zero, List.set_cons_succ]))
            (refine HeldAll.take (i := 9) (oi := _) (d := some 81) (v := ?_) rfl rfl (by kernel_rfl) (by kernel_rfl) (by kernel_rfl) (fun _ _ _ h => h) (Or.inl ⟨by rfl, ?_⟩) hS0 ?_; rotate_left; (focus (intro w hSw; clear hSw; go_simp; (try with_reducible rfl); done)); (try simp only [Act.put, List.setIfInBounds_toArray, List.set_cons_zero, List.set_cons_succ]))
            (refine HeldAll.take (i := 10) (oi := _) (d := some 82) (v := ?_) rfl rfl (by kernel_rfl) (by kernel_rfl) (by kernel_rfl) (fun _ _ _ h => h) (Or.inl ⟨by rfl, ?_⟩) hS0 ?_; rotate_left; (focus (intro w hSw; clear hSw; go_simp; (try with_reducible rfl); done)); (try simp only [Act.put, List.setIfInBounds_toArray, List.set_cons_zero, List.set_cons_succ]))
            (refine HeldAll.take (i := 11) (oi := _) (d := some 10) (v := ?_) rfl rfl (by kernel_rfl) (by kernel_rfl) (by kernel_rfl) (fun _ _ _ h => h) (Or.inl ⟨by rfl, ?_⟩) hS0 ?_; rotate_left; (focus (intro w hSw; clear hSw; go_simp; (try with_reducible rfl); done)); (try simp only [Act.put, List.setIfInBounds_toArray, List.set_cons_zero, List.set_cons_succ]))
            (refine HeldAll.take (i := 12) (oi := _) (d := some 11) (v := ?_) rfl rfl (by kernel_rfl) (by kernel_rfl) (by kernel_rfl) (fun _ _ _ h => h) (Or.inl ⟨by rfl, ?_⟩) hS0 ?_; rotate_left; (focus (intro w hSw; clear hSw; go_simp; (try with_reducible rfl); done)); (try simp only [Act.put, List.setIfInBounds_toArray, List.set_cons_zero, List.set_cons_succ]))
            refine HeldAll.done (by kernel_rfl) ?_ _
            clear hS0 hSK hkI
            have HB6 := Lib.hid (HTB.out w6 hb6)
            have HT6 := Lib.hid hb6
            have HA6 := Lib.hid (HAW.out w6 HB6.out)
            clear hb6
            have c := HX.out w6 (HB6.out)
            have k0 := c.k0
            have k1 := c.k1
            have k2 := c.k2
            have k3 := c.k3
            have k4 := c.k4
            have k5 := c.k5
            have k6 := c.k6
            have k7 := c.k7
            clear c
            try simp only at k0 k1 k2 k3 k4 k5 k6 k7
            generalize hal : allow x A V = al at *
            have HTV := Lib.hid (fun U => HTW.out U)
            generalize hlv : litV V bl = lv at *
            clear hal hlv HTW
            generalize bs V = sV at *
            go_wp2_with fail
            with_reducible refine HA6.out.mono ?_
            rintro e w7 ⟨rfl, hb7⟩
            have HB7 := Lib.hid (HB6.out.trans (hb7.mono HB6.out.size))
            have HT7 := Lib.hid (HT6.out.trans (hb7.mono HT6.out.size))
            clear k0 k1 k2 k3 k4 k5 k6 k7 hb7
            cases al
            · have HR51 := Lib.hid (HP3.out rfl)
              go_wp2_with fail
              go_ret
              exact ⟨ret_int HR51.out.symm, HB2.out.trans (HB7.out.mono HB2.out.size)⟩
            · have j2 := (HW.out w7 HB7.out).at' 2 _ rfl
              have j0 := (HW.out w7 HB7.out).at' 0 _ rfl
              have k4 := (HX.out w7 HB7.out).k4
              try simp only at k4
              have l4 := HL4.out w7 HB7.out
              by_cases hlast : inp.length = k + 1
              · have hle : ((k : Int) == (inp.length : Int) - 1) = true := by simp; omega
                have HLA := Lib.hid hlast
                clear hlast
                cases lv
                · have HR51 := Lib.hid (HP4.out HLA.out rfl)
                  go_wp2_with fail
                  with_reducible refine (HTV.out _).mono ?_
                  rintro e w7 ⟨rfl, rfl⟩
                  go_wp2_with fail
                  go_ret
                  exact ⟨ret_int HR51.out.symm, HB2.out.trans (HB7.out.mono HB2.out.size)⟩
                · have HPN := Lib.hid (HP5.out rfl (fun _ => rfl))
                  have HCV := Lib.hid (HNW.out w7.drew (HB7.out.trans ((Below.refl w7.heap.size w7).drew.mono HB7.out.size)))
                  go_wp2_with fail
                  with_reducible refine (HTV.out _).mono ?_
                  rintro e w7 ⟨rfl, rfl⟩
                  go_upto_region 23 with fail
                  clear j2 j0 k4 l4
                  have hSK : ∀ U : World, Below w7.heap.size w7 U → U.cell? ⟨w.heap.size, 0, none⟩ = some (.int .i64 x.max) ∧ U.cell? ⟨w.heap.size, 1, none⟩ = some (.slice a1 x.ins.length c1) ∧ U.cell? ⟨w.heap.size, 2, none⟩ = some (.slice a2 x.lats.length c2) ∧ U.cell? ⟨w.heap.size, 3, none⟩ = some (.slice a3 x.outs.length c3) ∧ U.cell? ⟨w.heap.size, 4, none⟩ = some (.slice (some ⟨g4, o4, none⟩) x.bads.length c4) ∧ U.cell? ⟨w.heap.size, 5, none⟩ = some (.slice a5 x.invs.length c5) ∧ U.cell? ⟨w.heap.size, 6, none⟩ = some (.slice a6 x.ands.length c6) ∧ U.cell? ⟨w.heap.size, 7, none⟩ = some (.slice a7 x.names.length c7) ∧ U.cell? ⟨W1.heap.size, 0, none⟩ = some (.int .i64 (kb : Int)) ∧ U.cell? ⟨W1.heap.size, 1, none⟩ = some (.string sB) ∧ U.cell? ⟨W1.heap.size, 2, none⟩ = some (.slice (some ⟨bq, oq, none⟩) inp.length cI) ∧ U.cell? ⟨bq, oq + k, none⟩ = some (.string qB) := fun U hU => by
                    have c := HX.out U ((HT.out U (HB7.out.trans (hU.mono HB7.out.size))))
                    have d := HW.out U ((HB7.out.trans (hU.mono HB7.out.size)))
                    exact ⟨c.k0, c.k1, c.k2, c.k3, c.k4, c.k5, c.k6, c.k7, d.at' 0 _ rfl, d.at' 1 _ rfl, d.at' 2 _ rfl, HQ0.out U (HT7.out.trans (hU.mono HT7.out.size))⟩
                  have hS0 := hSK _ (Below.refl w7.heap.size w7).drew
                  have hkI : (k : Int) < (inp.length : Int) := by omega
                  refine HeldAll.region (fun U : World => U.cell? ⟨w.heap.size, 0, none⟩ = some (.int .i64 x.max) ∧ U.cell? ⟨w.heap.size, 1, none⟩ = some (.slice a1 x.ins.length c1) ∧ U.cell? ⟨w.heap.size, 2, none⟩ = some (.slice a2 x.lats.length c2) ∧ U.cell? ⟨w.heap.size, 3, none⟩ = some (.slice a3 x.outs.length c3) ∧ U.cell? ⟨w.heap.size, 4, none⟩ = some (.slice (some ⟨g4, o4, none⟩) x.bads.length c4) ∧ U.cell? ⟨w.heap.size, 5, none⟩ = some (.slice a5 x.invs.length c5) ∧ U.cell? ⟨w.heap.size, 6, none⟩ = some (.slice a6 x.ands.length c6) ∧ U.cell? ⟨w.heap.size, 7, none⟩ = some (.slice a7 x.names.length c7) ∧ U.cell? ⟨W1.heap.size, 0, none⟩ = some (.int .i64 (kb : Int)) ∧ U.cell? ⟨W1.heap.size, 1, none⟩ = some (.string sB) ∧ U.cell? ⟨W1.heap.size, 2, none⟩ = some (.slice (some ⟨bq, oq, none⟩) inp.length cI) ∧ U.cell? ⟨bq, oq + k, none⟩ = some (.string qB)) (by kernel_rfl) ?_
                  (refine HeldAll.take (i := 0) (oi := _) (d := some 108) (v := ?_) rfl rfl (by kernel_rfl) (by kernel_rfl) (by kernel_rfl) (fun _ _ _ h => h) (Or.inl ⟨by rfl, ?_⟩) hS0 ?_; rotate_left; (focus (intro w hSw; (try dsimp only at hSw); go_simp; (try with_reducible rfl); done)); (try simp only [Act.put, List.setIfInBounds_toArray, List.set_cons_zero, List.set_cons_succ]))
                  (refine HeldAll.take (i := 1) (oi := _) (d := some 109) (v := ?_) rfl rfl (by kernel_rfl) (by kernel_rfl) (by kernel_rfl) (fun _ _ _ h => h) (Or.inl ⟨by rfl, ?_⟩) hS0 ?_; rotate_left; (focus (intro w hSw; clear hSw; go_simp; (try with_reducible rfl); done)); (try simp only [Act.put, List.setIfInBounds_toArray, List.set_cons_zero, List.set_cons_succ]))
                  (refine HeldAll.take (i := 2) (oi := _) (d := some 110) (v := ?_) rfl rfl (by kernel_rfl) (by kernel_rfl) (by kernel_rfl) (fun _ _ _ h => h) (Or.inl ⟨by rfl, ?_⟩) hS0 ?_; rotate_left; (focus (intro w hSw; clear hSw; go_simp; (try with_reducible rfl); done)); (try simp only [Act.put, List.setIfInBounds_toArray, List.set_cons_zero, List.set_cons_succ]))
                  (refine HeldAll.take (i := 3) (oi := _) (d := some 111) (v := ?_) rfl rfl (by kernel_rfl) (by kernel_rfl) (by kernel_rfl) (fun _ _ _ h => h) (Or.inl ⟨by rfl, ?_⟩) hS0 ?_; rotate_left; (focus (intro w hSw; (try dsimp only at hSw); go_simp; (try with_reducible rfl); done)); (try simp only [Act.put, List.setIfInBounds_toArray, List.set_cons_zero, List.set_cons_succ]))
                  (refine HeldAll.take (i := 4) (oi := _) (d := some 112) (v := ?_) rfl rfl (by kernel_rfl) (by kernel_rfl) (by kernel_rfl) (fun _ _ _ h => h) (Or.inl ⟨by rfl, ?_⟩) hS0 ?_; rotate_left; (focus (intro w hSw; clear hSw; go_simp; (try with_reducible rfl); done)); (try simp only [Act.put, List.setIfInBounds_toArray, List.set_cons_zero, List.set_cons_succ]))
                  (refine HeldAll.take (i := 5) (oi := _) (d := some 113) (v := ?_) rfl rfl (by kernel_rfl) (by kernel_rfl) (by kernel_rfl) (fun _ _ _ h => h) (Or.inl ⟨by rfl, ?_⟩) hS0 ?_; rotate_left; (focus (intro w hSw; clear hSw; go_simp; (try with_reducible rfl); done)); (try simp only [Act.put, List.setIfInBounds_toArray, List.set_cons_zero, List.set_cons_succ]))
                  (refine HeldAll.take (i := 6) (oi := _) (d := some 114) (v := ?_) rfl rfl (by kernel_rfl) (by kernel_rfl) (by kernel_rfl) (fun _ _ _ h => h) (Or.inl ⟨by rfl, ?_⟩) hS0 ?_; rotate_left; (focus (intro w hSw; (try dsimp only at hSw); go_simp; (try with_reducible rfl); done)); (try simp only [Act.put, List.setIfInBounds_toArray, List.set_cons_zero, List.set_cons_succ]))
                  refine HeldAll.one (i := 7) (by kernel_rfl) ?_
                  refine HeldAll.opCall (i := 7) (oi := _) (d := some 115) (R := fun v w' => v = .tuple #[.string (bs t2), .int .i64 0] ∧ Below w7.drew.heap.size w7.drew w') rfl rfl (by rfl) (by go_simp; done) (HCV.out.mono fun e w' h => ⟨_, h.1, rfl, h.2⟩) ?_
                  rintro v w6 ⟨rfl, hb6⟩
                  have hb6 : Below w7.heap.size w7 w6 := (Below.refl w7.heap.size w7).drew.trans (hb6.mono (Below.refl w7.heap.size w7).drew.size)
                  refine ⟨hSK _ hb6, ?_⟩
                  (try simp only [Act.put, List.setIfInBounds_toArray, List.set_cons_zero, List.set_cons_succ])
                  have hS0 := hSK _ hb6
                  (refine HeldAll.take (i := 8) (oi := _) (d := some 107) (v := ?_) rfl rfl (by kernel_rfl) (by kernel_rfl) (by kernel_rfl) (fun _ _ _ h => h) (Or.inl ⟨by rfl, ?_⟩) hS0 ?_; rotate_left; (focus (intro w hSw; clear hSw; go_simp; (try with_reducible rfl); done)); (try simp only [Act.put, List.setIfInBounds_toArray, List.set_cons_zero, List.set_cons_succ]))
                  (refine HeldAll.take (i := 9) (oi := _) (d := some 116) (v := ?_) rfl rfl (by kernel_rfl) (by kernel_rfl) (by kernel_rfl) (fun _ _ _ h => h) (Or.inl ⟨by rfl, ?_⟩) hS0 ?_; rotate_left; (focus (intro w hSw; clear hSw; go_simp; (try with_reducible rfl); done)); (try simp only [Act.put, List.setIfInBounds_toArray, List.set_cons_zero, List.set_cons_succ]))
                  (refine HeldAll.take (i := 10) (oi := _) (d := some 117) (v := ?_) rfl rfl (by kernel_rfl) (by kernel_rfl) (by kernel_rfl) (fun _ _ _ h => h) (Or.inl ⟨by rfl, ?_⟩) hS0 ?_; rotate_left; (focus (intro w hSw; clear hSw; go_simp; (try with_reducible rfl); done)); (try simp only [Act.put, List.setIfInBounds_toArray, List.set_cons_zero, List.set_cons_succ]))
                  (refine HeldAll.take (i := 11) (oi := _) (d := some 8) (v := ?_) rfl rfl (by kernel_rfl) (by kernel_rfl) (by kernel_rfl) (fun _ _ _ h => h) (Or.inl ⟨by rfl, ?_⟩) hS0 ?_; rotate_left; (focus (intro w hSw; clear hSw; go_simp; (try with_reducible rfl); done)); (try simp only [Act.put, List.setIfInBounds_toArray, List.set_cons_zero, List.set_cons_succ]))
                  refine HeldAll.done (by kernel_rfl) ?_ _
                  clear hS0 hSK hkI
                  have HB9 := Lib.hid (HB7.out.trans (hb6.mono HB7.out.size))
                  clear hb6
                  go_wp2_with fail
                  go_roundw
                  case rel => exact ⟨k + 1, t2, by omega, by go_num, rfl, HNL.out, HPN.out, HB9.out⟩
                  case measure => simp [Go.RowKit.intOf]; omega
              · have hle : ((k : Int) == (inp.length : Int) - 1) = false := by simp; omega
                have HLA := Lib.hid hlast
                clear hlast
                have HPN := Lib.hid (HP5.out rfl (fun h => absurd h HLA.out))
                have HCV := Lib.hid (HNW.out w7.drew (HB7.out.trans ((Below.refl w7.heap.size w7).drew.mono HB7.out.size)))
                go_upto_region 23 with fail
                clear j2 j0 k4 l4
                have hSK : ∀ U : World, Below w7.heap.size w7 U → U.cell? ⟨w.heap.size, 0, none⟩ = some (.int .i64 x.max) ∧ U.cell? ⟨w.heap.size, 1, none⟩ = some (.slice a1 x.ins.length c1) ∧ U.cell? ⟨w.heap.size, 2, none⟩ = some (.slice a2 x.lats.length c2) ∧ U.cell? ⟨w.heap.size, 3, none⟩ = some (.slice a3 x.outs.length c3) ∧ U.cell? ⟨w.heap.size, 4, none⟩ = some (.slice (some ⟨g4, o4, none⟩) x.bads.length c4) ∧ U.cell? ⟨w.heap.size, 5, none⟩ = some (.slice a5 x.invs.length c5) ∧ U.cell? ⟨w.heap.size, 6, none⟩ = some (.slice a6 x.ands.length c6) ∧ U.cell? ⟨w.heap.size, 7, none⟩ = some (.slice a7 x.names.length c7) ∧ U.cell? ⟨W1.heap.size, 0, none⟩ = some (.int .i64 (kb : Int)) ∧ U.cell? ⟨W1.heap.size, 1, none⟩ = some (.string sB) ∧ U.cell? ⟨W1.heap.size, 2, none⟩ = some (.slice (some ⟨bq, oq, none⟩) inp.length cI) ∧ U.cell? ⟨bq, oq + k, none⟩ = some (.string qB) := fun U hU => by
                  have c := HX.out U ((HT.out U (HB7.out.trans (hU.mono HB7.out.size))))
                  have d := HW.out U ((HB7.out.trans (hU.mono HB7.out.size)))
                  exact ⟨c.k0, c.k1, c.k2, c.k3, c.k4, c.k5, c.k6, c.k7, d.at' 0 _ rfl, d.at' 1 _ rfl, d.at' 2 _ rfl, HQ0.out U (HT7.out.trans (hU.mono HT7.out.size))⟩
                have hS0 := hSK _ (Below.refl w7.heap.size w7).drew
                have hkI : (k : Int) < (inp.length : Int) := by omega
                refine HeldAll.region (fun U : World => U.cell? ⟨w.heap.size, 0, none⟩ = some (.int .i64 x.max) ∧ U.cell? ⟨w.heap.size, 1, none⟩ = some (.slice a1 x.ins.length c1) ∧ U.cell? ⟨w.heap.size, 2, none⟩ = some (.slice a2 x.lats.length c2) ∧ U.cell? ⟨w.heap.size, 3, none⟩ = some (.slice a3 x.outs.length c3) ∧ U.cell? ⟨w.heap.size, 4, none⟩ = some (.slice (some ⟨g4, o4, none⟩) x.bads.length c4) ∧ U.cell? ⟨w.heap.size, 5, none⟩ = some (.slice a5 x.invs.length c5) ∧ U.cell? ⟨w.heap.size, 6, none⟩ = some (.slice a6 x.ands.length c6) ∧ U.cell? ⟨w.heap.size, 7, none⟩ = some (.slice a7 x.names.length c7) ∧ U.cell? ⟨W1.heap.size, 0, none⟩ = some (.int .i64 (kb : Int)) ∧ U.cell? ⟨W1.heap.size, 1, none⟩ = some (.string sB) ∧ U.cell? ⟨W1.heap.size, 2, none⟩ = some (.slice (some ⟨bq, oq, none⟩) inp.length cI) ∧ U.cell? ⟨bq, oq + k, none⟩ = some (.string qB)) (by kernel_rfl) ?_
                (refine HeldAll.take (i := 0) (oi := _) (d := some 108) (v := ?_) rfl rfl (by kernel_rfl) (by kernel_rfl) (by kernel_rfl) (fun _ _ _ h => h) (Or.inl ⟨by rfl, ?_⟩) hS0 ?_; rotate_left; (focus (intro w hSw; (try dsimp only at hSw); go_simp; (try with_reducible rfl); done)); (try simp only [Act.put, List.setIfInBounds_toArray, List.set_cons_zero, List.set_cons_succ]))
                (refine HeldAll.take (i := 1) (oi := _) (d := some 109) (v := ?_) rfl rfl (by kernel_rfl) (by kernel_rfl) (by kernel_rfl) (fun _ _ _ h => h) (Or.inl ⟨by rfl, ?_⟩) hS0 ?_; rotate_left; (focus (intro w hSw; clear hSw; go_simp; (try with_reducible rfl); done)); (try simp only [Act.put, List.setIfInBounds_toArray, List.set_cons_zero, List.set_cons_succ]))
                (refine HeldAll.take (i := 2) (oi := _) (d := some 110) (v := ?_) rfl rfl (by kernel_rfl) (by kernel_rfl) (by kernel_rfl) (fun _ _ _ h => h) (Or.inl ⟨by rfl, ?_⟩) hS0 ?_; rotate_left; (focus (intro w hSw; clear hSw; go_simp; (try with_reducible rfl); done)); (try simp only [Act.put, List.setIfInBounds_toArray, List.set_cons_zero, List.set_cons_succ]))
                (refine HeldAll.take (i := 3) (oi := _) (d := some 111) (v := ?_) rfl rfl (by kernel_rfl) (by kernel_rfl) (by kernel_rfl) (fun _ _ _ h => h) (Or.inl ⟨by rfl, ?_⟩) hS0 ?_; rotate_left; (focus (intro w hSw; (try dsimp only at hSw); go_simp; (try with_reducible rfl); done)); (try simp only [Act.put, List.setIfInBounds_toArray, List.set_cons_zero, List.set_cons_succ]))
                (refine HeldAll.take (i := 4) (oi := _) (d := some 112) (v := ?_) rfl rfl (by kernel_rfl) (by kernel_rfl) (by kernel_rfl) (fun _ _ _ h => h) (Or.inl ⟨by rfl, ?_⟩) hS0 ?_; rotate_left; (focus (intro w hSw; clear hSw; go_simp; (try with_reducible rfl); done)); (try simp only [Act.put, List.setIfInBounds_toArray, List.set_cons_zero, List.set_cons_succ]))
                (refine HeldAll.take (i := 5) (oi := _) (d := some 113) (v := ?_) rfl rfl (by kernel_rfl) (by kernel_rfl) (by kernel_rfl) (fun _ _ _ h => h) (Or.inl ⟨by rfl, ?_⟩) hS0 ?_; rotate_left; (focus (intro w hSw; clear hSw; go_simp; (try with_reducible rfl); done)); (try simp only [Act.put, List.setIfInBounds_toArray, List.set_cons_zero, List.set_cons_succ]))
                (refine HeldAll.take (i := 6) (oi := _) (d := some 114) (v := ?_) rfl rfl (by kernel_rfl) (by kernel_rfl) (by kernel_rfl) (fun _ _ _ h => h) (Or.inl ⟨by rfl, ?_⟩) hS0 ?_; rotate_left; (focus (intro w hSw; (try dsimp only at hSw); go_simp; (try with_reducible rfl); done)); (try simp only [Act.put, List.setIfInBounds_toArray, List.set_cons_zero, List.set_cons_succ]))
                refine HeldAll.one (i := 7) (by kernel_rfl) ?_
                refine HeldAll.opCall (i := 7) (oi := _) (d := some 115) (R := fun v w' => v = .tuple #[.string (bs t2), .int .i64 0] ∧ Below w7.drew.heap.size w7.drew w') rfl rfl (by rfl) (by go_simp; done) (HCV.out.mono fun e w' h => ⟨_, h.1, rfl, h.2⟩) ?_
                rintro v w6 ⟨rfl, hb6⟩
                have hb6 : Below w7.heap.size w7 w6 := (Below.refl w7.heap.size w7).drew.trans (hb6.mono (Below.refl w7.heap.size w7).drew.size)
                refine ⟨hSK _ hb6, ?_⟩
                (try simp only [Act.put, List.setIfInBounds_toArray, List.set_cons_zero, List.set_cons_succ])
                have hS0 := hSK _ hb6
                (refine HeldAll.take (i := 8) (oi := _) (d := some 107) (v := ?_) rfl rfl (by kernel_rfl) (by kernel_rfl) (by kernel_rfl) (fun _ _ _ h => h) (Or.inl ⟨by rfl, ?_⟩) hS0 ?_; rotate_left; (focus (intro w hSw; clear hSw; go_simp; (try with_reducible rfl); done)); (try simp only [Act.put, List.setIfInBounds_toArray, List.set_cons_zero, List.set_cons_succ]))
                (refine HeldAll.take (i := 9) (oi := _) (d := some 116) (v := ?_) rfl rfl (by kernel_rfl) (by kernel_rfl) (by kernel_rfl) (fun _ _ _ h => h) (Or.inl ⟨by rfl, ?_⟩) hS0 ?_; rotate_left; (focus (intro w hSw; clear hSw; go_simp; (try with_reducible rfl); done)); (try simp only [Act.put, List.setIfInBounds_toArray, List.set_cons_zero, List.set_cons_succ]))
                (refine HeldAll.take (i := 10) (oi := _) (d := some 117) (v := ?_) rfl rfl (by kernel_rfl) (by kernel_rfl) (by kernel_rfl) (fun _ _ _ h => h) (Or.inl ⟨by rfl, ?_⟩) hS0 ?_; rotate_left; (focus (intro w hSw; clear hSw; go_simp; (try with_reducible rfl); done)); (try simp only [Act.put, List.setIfInBounds_toArray, List.set_cons_zero, List.set_cons_succ]))
                (refine HeldAll.take (i := 11) (oi := _) (d := some 8) (v := ?_) rfl rfl (by kernel_rfl) (by kernel_rfl) (by kernel_rfl) (fun _ _ _ h => h) (Or.inl ⟨by rfl, ?_⟩) hS0 ?_; rotate_left; (focus (intro w hSw; clear hSw; go_simp; (try with_reducible rfl); done)); (try simp only [Act.put, List.setIfInBounds_toArray, List.set_cons_zero, List.set_cons_succ]))
                refine HeldAll.done (by kernel_rfl) ?_ _
                clear hS0 hSK hkI
                have HB9 := Lib.hid (HB7.out.trans (hb6.mono HB7.out.size))
                clear hb6
                go_wp2_with fail
                go_roundw
                case rel => exact ⟨k + 1, t2, by omega, by go_num, rfl, HNL.out, HPN.out, HB9.out⟩
                case measure => simp [Go.RowKit.intOf]; omega
          · have hend : k = inp.length := by omega
            subst hend
            have HRE : Hid (PE = 0) := by show _ = _; rw [HP.out, List.drop_length]; rfl
            clear hk hlt
            go_wp2_with fail
            go_ret
            exact ⟨ret_int HRE.out.symm, HB2.out.trans (HB.out.mono HB2.out.size)⟩
end Spr
end Go.Proofs.YtninglnchengeaaGreatDoor

/-
  interlocklaw35.CoiSpreads walked, where it may be asked what counts (written by spreads3.py).
-/
namespace Go.Proofs.YtninglnchengeaaGreatDoor.coiSpreads
open Go.RowKit Base Circuit Coi StrashP BadP Spr
set_option linter.unusedVariables false
set_option linter.unusedSimpArgs false

theorem not_strange {mx : Int} {A : List (List Int)} (h : A.any (strangeL mx) = false) : ∀ y ∈ A.flatten, 0 ≤ y := fun y hy => by
  obtain ⟨l, hl, hyl⟩ := List.mem_flatten.1 hy
  have h1 := List.any_eq_false.1 h l hl
  have h2 : LitsC.oddM mx y = false := by
    cases hq : LitsC.oddM mx y with
    | false => rfl
    | true => exact absurd (List.any_eq_true.2 ⟨y, hyl, hq⟩) h1
  unfold LitsC.oddM at h2
  simp at h2
  omega

/-- A number's bit, as an octet. -/
theorem octet (f : Int) (h0 : 0 ≤ f) (h1 : f < 18446744073709551616) (j : Nat) : ∃ b : Bool, (48 + bits .and .u64 (f / 2 ^ j) 1) % 256 = ((byteB b).toNat : Int) := by
  obtain ⟨m, rfl⟩ : ∃ m : Nat, f = (m : Int) := ⟨f.toNat, by omega⟩
  have e : ((m : Int) / 2 ^ j) = ((m / 2 ^ j : Nat) : Int) := by rw [Int.natCast_ediv, Int.natCast_pow]; rfl
  have hm : m < 18446744073709551616 := by omega
  have hl : m / 2 ^ j < 18446744073709551616 := Nat.lt_of_le_of_lt (Nat.div_le_self _ _) hm
  generalize m / 2 ^ j = d at *
  have e2 : bits .and .u64 (d : Int) ((1 : Nat) : Int) = ((d &&& 1 : Nat) : Int) := bits_and_u64_nat d 1 hl (by omega)
  rw [e]
  rw [show (1 : Int) = ((1 : Nat) : Int) from rfl, e2, Nat.and_one_is_mod]
  rcases Nat.mod_two_eq_zero_or_one d with h | h
  · exact ⟨false, by rw [h]; rfl⟩
  · exact ⟨true, by rw [h]; rfl⟩
theorem to_text {W : World} (N : Nat) (b : Bool) (h : W.cell? ⟨N, 0, none⟩ = some (.int .u8 ((byteB b).toNat : Int))) : (convert 49 9 (.slice (some ⟨N, 0, none⟩) 1 1)).run Tryz.prog W = .ok (.string (bs [b])) W := by
  have h := run_convert_bytes_back (P := Tryz.prog) W 49 9 5 ⟨N, 0, none⟩ 1 [byteB b] Tryz.underlying49 Tryz.underlying5 Tryz.underlying9 (fun j hj => by
    have hj0 : j = 0 := by simp at hj; exact hj
    subst hj0
    rw [Addr.add_lit]
    simpa using h)
  exact h

set_option maxRecDepth 8000 in
set_option maxHeartbeats 16000000 in
theorem walk_ok (w : World) (x : Circ) (p : At) (hin : InCirc w x p) (hw : WfC x) (aA : Option Addr) (n cA : Nat) (vals : List Value) (A : List (List Int)) (hA : Sl2 w aA n cA vals A) (hA64 : ∀ y ∈ A.flatten, Circuit.I64 y) (k : Nat) (hk : k < x.bads.length) (hok : askE x A k = 0)
    (hz1 : n ≤ 4000000) (hz2 : A.flatten.length ≤ 4000000) (hz3 : x.ands.length ≤ 4000000) (free : Int) (hf0 : 0 ≤ free) (hf1 : free < 18446744073709551616) (aU : Option Addr) (cU : Nat) (us : List Int) (hU : Sl w aU us.length cU (us.map fun v => Value.int .u64 v)) (hu : ∀ v ∈ us, 0 ≤ v ∧ v < 18446744073709551616) :
    Calls Tryz.prog 4 #[.agg (cells x p), .slice aA n cA, .int .i64 k, .int .u64 free, .slice aU us.length cU] w fun e w' => e = .returned (.bool true) ∧ Below w.heap.size w w' := by
  obtain ⟨W1, hW1⟩ : ∃ W1, w.alloc (.cells (cells x p) 27) = W1 := ⟨_, rfl⟩
  obtain ⟨hb1, hc1⟩ := cbox_new w x p W1 hW1
  have HB1 := Lib.hid hb1
  have HAL := Lib.hid (Coi.alive_any W1)
  have HCB := Lib.hid (fun (U : World) (hU : Below W1.heap.size W1 U) => hc1.next hU (Nat.le_refl _))
  have HIN := fun (U : World) (hU : Below W1.heap.size W1 U) => (hin.next hb1).next hU
  have HUU := Lib.hid (fun (V : World) (hV : Below W1.heap.size W1 V) => (hU.next hb1).next hV)
  have HUR := Lib.hid hu
  obtain ⟨hck, _, _, hst⟩ := askE_zero hok
  have hA0 := not_strange hst
  have hA00 : ∀ y ∈ A.flatten, 0 ≤ y ∧ y ≤ 9223372036854775807 := fun y hy => ⟨hA0 y hy, (hA64 y hy).2⟩
  have HRD := fun (U : World) (hU : Below W1.heap.size W1 U) => reduce_ok U x p (HIN U hU) hw aA n cA vals A ((hA.next hb1).next hU) hA64 k hk hok hz1 hz2 hz3
  have hbm : x.bads[k] ∈ x.bads := List.getElem_mem _
  have HPX := fun (U : World) (hU : Below W1.heap.size W1 U) (S : List Bool) (hS : initL x S) (aI : Option Addr) (cI : Nat) (inp : List (List Bool)) (hI : Sl U aI inp.length cI (inp.map fun q => Value.string (bs q))) (hIl : ∀ q ∈ inp, q.length = x.ins.length) =>
    path_any U x p (HIN U hU) hw hck (by omega) aA n cA vals A ((hA.next hb1).next hU) hA00 k hk S hS aI cI inp hI hIl
  generalize hbl : x.bads[k] = bl at *
  obtain ⟨l, hl⟩ : ∃ l, A.flatten ++ x.invs ++ [bl] = l := ⟨_, rfl⟩
  simp only [hl] at HRD
  have hyok : CheckOk (reduced x l bl) := red_ok hck hbm (by rw [← hl]; simp) (fun m hm => by rw [← hl]; simp [hm])
  have hywf : WfC (reduced x l bl) := ⟨hw.mx, fun m hm => hw.ins m (List.mem_filter.1 hm).1, fun t ht => hw.lats t (List.mem_filter.1 ht).1, fun m hm => (by cases hm), fun m hm => by rw [List.mem_singleton.1 hm]; exact hw.bads bl hbm, hw.invs, fun t ht => hw.ands t (List.mem_filter.1 ht).1, fun t ht => (by cases ht)⟩
  have hya : (reduced x l bl).ands.length ≤ x.ands.length := List.length_filter_le _ _
  have HRZ := Lib.hid (fun st hst qs hq => right_red (x := x) (l := l) (bl := bl) hck hyok st hst qs hq)
  have HPT := Lib.hid (fun st qs hst hq R outs hR hl0 hO => spread_path (A := A) (x := x) (l := l) (bl := bl) hck (fun y hy => by rw [← hl]; simp [hy]) (fun y hy => by rw [← hl]; simp [hy]) (by rw [← hl]; simp) st qs hst hq R outs hR hl0 hO)
  have hyb : (reduced x l bl).bads = [bl] := rfl
  generalize reduced x l bl = y at *
  have hyb0 : 0 < y.bads.length := by rw [hyb]; exact Nat.one_pos
  have hyb1 : y.bads[0] = bl := by simp [hyb]
  have HPY := fun (U : World) (hU : Below W1.heap.size W1 U) (q : At) (hq : InCirc U y q) (S : List Bool) (hS : initL y S) (aI : Option Addr) (cI : Nat) (inp : List (List Bool)) (hI : Sl U aI inp.length cI (inp.map fun q => Value.string (bs q))) (hIl : ∀ q ∈ inp, q.length = y.ins.length) =>
    path_any U y q hq hywf hyok (by omega) aA n cA vals A ((hA.next hb1).next hU) hA00 0 hyb0 S hS aI cI inp hI hIl
  rw [hyb1] at HPY
  have HSPR := fun (U : World) (hU : Below W1.heap.size W1 U) (q : At) (hq : InCirc U y q) (st : List Bool) (hst : st.length = y.lats.length) (aI : Option Addr) (cI : Nat) (qs : List (List Bool)) (hI : Sl U aI (qs.map bs).length cI ((qs.map bs).map Value.string)) (hql : ∀ q ∈ qs, q.length = y.ins.length) (h8 : qs.length ≤ 8) =>
    spread_ok U x p (HIN U hU) hw y q hq hywf 0 (bs st) (by rw [bs_size, hst]; have := hyok.1.2.2.2.1; omega) aI cI (qs.map bs) hI (fun s hs => by obtain ⟨q, hq, rfl⟩ := List.mem_map.1 hs; rw [bs_size, hql q hq]; have := hyok.1.2.2.1; omega) (by rw [List.length_map]; omega) (HRZ.out st hst qs hql)
  have HYL : Hid (y.lats.length ≤ 64) := hyok.1.2.2.2.1
  have HYI : Hid (y.ins.length ≤ 1000000) := by show _ ≤ _; have := hyok.1.2.2.1; omega
  have HXL : Hid (x.lats.length ≤ 64) := hck.1.2.2.2.1
  have HYB := Lib.hid hyb
  have hcu := hU.cap
  have hgu := hU.big
  obtain ⟨a1, c1, a2, c2, a3, c3, a4, c4, a5, c5, a6, c6, a7, c7⟩ := p
  simp only [cells] at hW1 HRD HPX HSPR ⊢
  have HR := Lib.hid HRD
  have HPXX := Lib.hid HPX
  have HPYY := Lib.hid HPY
  have HSPP := Lib.hid HSPR
  have HIX := Lib.hid HIN
  have HFR : Hid (0 ≤ free ∧ free < 18446744073709551616) := ⟨hf0, hf1⟩
  clear hin hw hA hA64 hb1 hc1 hok hck hst hA0 hA00 HRD HPX HPY HSPR HIN hz1 hz2 hz3 hbm hbl hl hyok hywf hya hk hU hu hyb hyb0 hyb1 hf0 hf1
  go_enter Tryz.func4, Tryz.ntmps4
  go_wp2_with fail
  clear hW1
  with_reducible refine HAL.out.mono ?_
  rintro e w2 ⟨rfl, hb2⟩
  have HB2 := Lib.hid hb2
  have HR2 := Lib.hid (HR.out w2 hb2)
  have c := HCB.out w2 (hb2)
  have k0 := c.k0
  have k1 := c.k1
  have k2 := c.k2
  have k3 := c.k3
  have k4 := c.k4
  have k5 := c.k5
  have k6 := c.k6
  have k7 := c.k7
  clear c
  try simp only at k0 k1 k2 k3 k4 k5 k6 k7
  clear hb2
  go_wp2_with fail
  with_reducible refine HR2.out.mono ?_
  rintro e w4 ⟨p', rfl, hin4, hb4⟩
  obtain ⟨W5, hW5⟩ : ∃ U, w4.alloc (.cells (cells y p') 27) = U := ⟨_, rfl⟩
  obtain ⟨hb5, hc5⟩ := cbox_new w4 y p' W5 hW5
  have hb15 : Below W1.heap.size W1 W5 := HB2.out.trans ((hb4.trans (hb5.mono hb4.size)).mono HB2.out.size)
  have HB5 := Lib.hid hb15
  have HT := Lib.hid (fun (U : World) (hU : Below W5.heap.size W5 U) => hb15.trans (hU.mono hb15.size))
  have HIY := Lib.hid (fun (U : World) (hU : Below W5.heap.size W5 U) => (hin4.next hb5).next hU)
  have HY := Lib.hid (fun (U : World) (hU : Below W5.heap.size W5 U) => hc5.next hU (Nat.le_refl _))
  have hcl := hin4.lats.cap
  have hgl := hin4.lats.big
  have hci := hin4.ins.cap
  have hgi := hin4.ins.big
  obtain ⟨b1, d1, b2, d2, b3, d3, b4, d4, b5, d5, b6, d6, b7, d7⟩ := p'
  simp only [cells] at hW5 hcl hgl hci hgi ⊢
  clear k0 k1 k2 k3 k4 k5 k6 k7 hc5 hin4 hb4 hb5 HR2 hb15
  have l2 := (HY.out W5 (Below.refl _ _)).k2
  try simp only at l2
  go_wp2_with fail
  clear hW5 l2
  go_loopw [13, 14] (fun u i wr => ∃ (j : Nat) (L : List Bool), j ≤ y.lats.length ∧ i = .int .i64 j ∧ u = .string (bs L) ∧ Hid (StI y j L) ∧ Hid (Below W5.heap.size W5 wr)) (fun _ i _ => y.lats.length - (Go.RowKit.intOf i).toNat)
  case atStart => exact ⟨0, [], Nat.zero_le _, rfl, rfl, st_start y, Below.refl _ _⟩
  case round =>
    obtain ⟨j, L, hj, rfl, rfl, hL, HB⟩ := hrel
    generalize wr = ws at *
    have l2 := (HY.out ws HB.out).k2
    try simp only at l2
    by_cases hlt : j < y.lats.length
    · obtain ⟨b, o, hx, ha, hbs, d0, d1', d2'⟩ := (HIY.out ws HB.out).lats.tri hlt
      simp only at ha
      subst ha
      have HM := Lib.hid (fun (b : Bool) (h : okB y.lats[j] b = true) => st_more hL.out hlt h)
      have hz : (bs L).size = j := by rw [bs_size]; exact hL.out.len
      have HBA := Lib.hid (fun b : Bool => bs_app L [b])
      have hj64 : j < 64 := by have := HYL.out; omega
      generalize y.lats[j] = t at *
      obtain ⟨W6, hW6⟩ : ∃ U, ws.alloc (.cells #[.int .i64 t.1, .int .i64 t.2.1, .int .i64 t.2.2] 37) = U := ⟨_, rfl⟩
      have hb6 : Below ws.heap.size ws W6 := by rw [← hW6]; exact (Below.refl _ _).alloc (Nat.le_refl _) _
      have hx6 : BoxN ws.heap.size [.int .i64 t.1, .int .i64 t.2.1, .int .i64 t.2.2] W6 := by rw [← hW6]; exact BoxN.new ws _ _
      have HB6 := Lib.hid (HB.out.trans (hb6.mono HB.out.size))
      have m0 := hx6.at' 0 _ rfl
      have m2 := hx6.at' 2 _ rfl
      clear hb6 hx6 hbs
      generalize bs L = sL at *
      by_cases h1 : t.2.2 = t.1
      · have hd : (t.2.2 == t.1) = true := by simpa using h1
        have HO := Lib.hid (fun b : Bool => HM.out b (okB_own h1 b))
        clear h1 HM
        obtain ⟨bb, hbb⟩ := octet free HFR.out.1 HFR.out.2 (j % 64)
        obtain ⟨W7, hW7⟩ : ∃ U, W6.alloc (.cells #[.int .u8 ((byteB bb).toNat : Int)] 5) = U := ⟨_, rfl⟩
        have hb7 : Below W6.heap.size W6 W7 := by rw [← hW7]; exact (Below.refl _ _).alloc (Nat.le_refl _) _
        have hx7 : BoxN W6.heap.size [.int .u8 ((byteB bb).toNat : Int)] W7 := by rw [← hW7]; exact BoxN.new W6 _ _
        have HB7 := Lib.hid (HB6.out.trans (hb7.mono HB6.out.size))
        have hcv := to_text W6.heap.size bb (hx7.at' 0 _ rfl)
        clear hb7 hx7
        generalize ((byteB bb).toNat : Int) = cb at *
        have HBB := Lib.hid (HBA.out bb)
        have hzb : (bs [bb]).size = 1 := bs_size _
        have hlim : ¬ 9223372036854775807 < j + 1 := by omega
        generalize bs [bb] = sb at *
        go_wp2_with fail
        go_roundw
        case rel => exact ⟨j + 1, _, by omega, by go_num, (by rw [HBB.out]), HO.out bb, HB7.out⟩
        case measure => simp [Go.RowKit.intOf]; omega
      · have hd : (t.2.2 == t.1) = false := by simpa using h1
        clear h1
        by_cases h2 : t.2.2 = 1
        · have hd2 : (t.2.2 == 1) = true := by simpa using h2
          have HO := Lib.hid (HM.out true (okB_one h2))
          clear h2 HM
          go_wp2_with fail
          go_roundw
          case rel => exact ⟨j + 1, _, by omega, by go_num, (by rw [show (⟨#[49]⟩ : ByteArray) = bs [true] from rfl, HBA.out]), HO.out, HB6.out⟩
          case measure => simp [Go.RowKit.intOf]; omega
        · have hd2 : (t.2.2 == 1) = false := by simpa using h2
          have HO := Lib.hid (HM.out false (okB_zero h2))
          clear h2 HM
          go_wp2_with fail
          go_roundw
          case rel => exact ⟨j + 1, _, by omega, by go_num, (by rw [show (⟨#[48]⟩ : ByteArray) = bs [false] from rfl, HBA.out]), HO.out, HB6.out⟩
          case measure => simp [Go.RowKit.intOf]; omega
    · have hend : j = y.lats.length := by omega
      subst hend
      have HST : Hid (initL y L) := st_end hL.out
      have hst1 := HST.out.1
      have hsz : (bs L).size ≤ 9223372036854775807 := by rw [bs_size, hst1]; have := HYL.out; omega
      clear hj hlt hL
      obtain ⟨sL, hsL⟩ : ∃ s, bs L = s := ⟨_, rfl⟩
      rw [hsL]
      have HSL := Lib.hid hsL
      obtain ⟨W8, hW8⟩ : ∃ U, ws.alloc (.cells #[.int .i64 0, .string sL, .slice none 0 0] 30) = U := ⟨_, rfl⟩
      have hb8 : Below ws.heap.size ws W8 := by rw [← hW8]; exact (Below.refl _ _).alloc (Nat.le_refl _) _
      have HX8 : Hid (BoxN ws.heap.size [.int .i64 0, .string sL, .slice none 0 0] W8) := by rw [← hW8]; exact BoxN.new ws _ _
      have HB8 := Lib.hid (HB.out.trans (hb8.mono HB.out.size))
      have HN8 : Hid (ws.heap.size < W8.heap.size) := HX8.out.lt
      have HNW : Hid (W5.heap.size ≤ ws.heap.size) := HB.out.size
      have HW8 := Lib.hid hW8
      clear hb8 hst1 hsz hsL hW8
      go_wp2_with fail
      rw [HW8.out]
      clear HW8 l2
      generalize hN : ws.heap.size = N at *
      clear hN
      go_loopw [17] (fun i wr => ∃ (qs : List (List Bool)) (aO : Option Addr) (cO : Nat), qs.length ≤ us.length ∧ qs.length ≤ 8 ∧ i = .int .i64 qs.length ∧ Hid (∀ q ∈ qs, q.length = y.ins.length) ∧ Hid (BoxN N [.int .i64 0, .string sL, .slice aO qs.length cO] wr) ∧ Hid (wr.ownsRow W8.heap.size 9 1 (.slice aO qs.length cO) qs.length ((qs.map bs).map Value.string)) ∧ Hid (Below W5.heap.size W5 wr) ∧ Hid (W8.heap.size ≤ wr.heap.size)) (fun i _ => 8 - (Go.RowKit.intOf i).toNat)
      case atStart => exact ⟨[], none, 0, Nat.zero_le _, Nat.zero_le _, rfl, (fun q h => by cases h), HX8.out, World.ownsRow_nil _ _ _ _, HB8.out, Nat.le_refl _⟩
      case round =>
        clear HX8 HB8
        obtain ⟨qs, aO, cO, hju, hj8, rfl, hql, hX, hO, hB, hS⟩ := hrel
        generalize hj : qs.length = j at *
        generalize wr = wt at *
        by_cases hlt : j < us.length ∧ j < 8
        · obtain ⟨hltu, hlt8⟩ := hlt
          have hltI : (j : Int) < (us.length : Int) := by omega
          have hltJ : (j : Int) < 8 := by omega
          have l1 := (HY.out wt hB.out).k1
          try simp only at l1
          obtain ⟨bu, ou, ha, hbu, hcu0⟩ := (HUU.out wt (HT.out wt hB.out)).cell j (.int .u64 us[j]) (by rw [List.getElem?_map, List.getElem?_eq_getElem hltu]; rfl)
          subst ha
          have HUV := Lib.hid (HUR.out _ (List.getElem_mem hltu))
          have HUC : Hid (∀ U, Below wt.heap.size wt U → U.cell? ⟨bu, ou + j, none⟩ = some (.int .u64 us[j])) := fun U hU => (hU.cell (p := ⟨bu, ou + j, none⟩) hbu).trans hcu0
          generalize us[j] = uv at *
          clear hbu hcu0
          go_wp2_with fail
          clear l1
          go_loopw [18, 19] (fun u i wr => ∃ (m : Nat) (q : List Bool), m ≤ y.ins.length ∧ i = .int .i64 m ∧ u = .string (bs q) ∧ Hid (q.length = m) ∧ Hid (Below wt.heap.size wt wr)) (fun _ i _ => y.ins.length - (Go.RowKit.intOf i).toNat)
          case atStart => exact ⟨0, [], Nat.zero_le _, rfl, rfl, rfl, Below.refl _ _⟩
          case round =>
            obtain ⟨m, q, hm, rfl, rfl, hqm, HBm⟩ := hrel
            generalize wr = wu at *
            have hBu := hB.out.trans (HBm.out.mono hB.out.size)
            have l1 := (HY.out wu hBu).k1
            try simp only at l1
            have hfi := HYI.out
            by_cases hlm : m < y.ins.length
            · obtain ⟨bb, hbb⟩ := octet uv HUV.out.1 HUV.out.2 (m % 64)
              have du := HUC.out wu HBm.out
              have hz : (bs q).size = m := by rw [bs_size]; exact hqm.out
              have HBB := Lib.hid (bs_app q [bb])
              have HQ1 : Hid ((q ++ [bb]).length = m + 1) := by show _ = _; rw [List.length_append, hqm.out]; rfl
              obtain ⟨W7, hW7⟩ : ∃ U, wu.alloc (.cells #[.int .u8 ((byteB bb).toNat : Int)] 5) = U := ⟨_, rfl⟩
              have hb7 : Below wu.heap.size wu W7 := by rw [← hW7]; exact (Below.refl _ _).alloc (Nat.le_refl _) _
              have hx7 : BoxN wu.heap.size [.int .u8 ((byteB bb).toNat : Int)] W7 := by rw [← hW7]; exact BoxN.new wu _ _
              have HB7 := Lib.hid (HBm.out.trans (hb7.mono HBm.out.size))
              have hcv := to_text wu.heap.size bb (hx7.at' 0 _ rfl)
              have hzb : (bs [bb]).size = 1 := bs_size _
              have hlim : ¬ 9223372036854775807 < m + 1 := by omega
              clear hb7 hx7 hBu
              generalize ((byteB bb).toNat : Int) = cb at *
              generalize bs [bb] = sb at *
              generalize bs q = sq at *
              go_wp2_with fail
              go_roundw
              case rel => exact ⟨m + 1, _, by omega, by go_num, (by rw [HBB.out]), HQ1.out, HB7.out⟩
              case measure => simp [Go.RowKit.intOf]; omega
            · have hmn : m = y.ins.length := by omega
              subst hmn
              have HQL : Hid (q.length = y.ins.length) := hqm
              clear hm hlm hqm hfi
              generalize hsq : bs q = sq at *
              have hXu := hX.out.next HBm.out hX.out.lt
              have hown := own_next hO.out HBm.out
              have hu8 : W8.heap.size ≤ wu.heap.size := Nat.le_trans hS.out HBm.out.size
              have y2 := hXu.at' 2 _ rfl
              have HXU := Lib.hid hXu
              have HBU := Lib.hid hBu
              have hneN : Hid (some N ≠ (Value.slice aO j cO).ownBlock) := fun e => by have := (hown.lt N e.symm).1; have := HN8.out; omega
              have HLT := Lib.hid (fun q hq => (hown.lt q hq).1)
              clear hXu hBu
              have HJ8 := Lib.hid hlt8
              go_wp2_with ((with_reducible refine wpL_pushC (B := W8.heap.size) wu (.string sq) _ j ((qs.map bs).map Value.string) info_strS Tryz.underlying28 ?_ ?_ ?_ ?_ ?_ hown ?_ ?_ ?_ ?_); rfl; rfl; rfl; rfl; rfl; (exact hu8); omega; omega; (intro aP cP w7 hown7 hg7; have hX7 := box_grown HXU.out hg7 hneN.out; have y27 := hX7.at' 2 _ rfl; have z27 := hX7.fz 2))
              have HQQ : Hid (∀ p ∈ qs ++ [q], p.length = y.ins.length) := fun p hp => by
                rcases List.mem_append.1 hp with h | h
                · exact hql.out p h
                · rw [List.mem_singleton.1 h]; exact HQL.out
              have HJJ : Hid ((qs ++ [q]).length = j + 1) := by show _ = _; rw [List.length_append, hj]; rfl
              have hB7 := HBU.out.grown hg7 HBU.out.size (fun p hp => by have := HLT.out p hp; have := HNW.out; have := HN8.out; omega)
              have HB9 := Lib.hid (hB7.setCell (p := ⟨N, 2, none⟩) HNW.out (.slice aP (j + 1) cP))
              have HX9 : Hid (BoxN N [.int .i64 0, .string sL, .slice aP (qs ++ [q]).length cP] (w7.setCell ⟨N, 2, none⟩ (.slice aP (j + 1) cP))) := by rw [HJJ.out]; exact hX7.set 2 _
              have HO9 : Hid ((w7.setCell ⟨N, 2, none⟩ (.slice aP (j + 1) cP)).ownsRow W8.heap.size 9 1 (.slice aP (qs ++ [q]).length cP) (qs ++ [q]).length (((qs ++ [q]).map bs).map Value.string)) := by
                have h := ((OffB.refl N w7).set 2 (.slice aP (j + 1) cP)).own hown7 (own_not' hown7 HN8.out)
                have e : (qs.map bs).map Value.string ++ [Value.string sq] = ((qs ++ [q]).map bs).map Value.string := by rw [List.map_append, List.map_append, ← hsq]; rfl
                rw [HJJ.out, ← e]
                exact h
              have HS9 : Hid (W8.heap.size ≤ (w7.setCell ⟨N, 2, none⟩ (.slice aP (j + 1) cP)).heap.size) := by show _ ≤ _; have := Nat.le_trans hu8 hg7.size; simpa [World.setCell] using this
              clear hB7 hX7 y27 z27 hown7 hg7 hown hu8 y2
              go_roundw
              case rel => exact ⟨qs ++ [q], aP, cP, by rw [HJJ.out]; omega, by rw [HJJ.out]; omega, by rw [HJJ.out]; go_num, HQQ.out, HX9.out, HO9.out, HB9.out, HS9.out⟩
              case measure => have := HJ8.out; simp [Go.RowKit.intOf]; omega
        · have HQN : Hid (qs.length = j) := hj
          go_upto_region 18 with fail
          go_cut [87] from 80 to 87 (fun u wx => u = .bool false ∧ wx = wt)
          case first =>
            by_cases h1 : j < us.length
            · have h1I : (j : Int) < (us.length : Int) := by omega
              have h2 : ¬ j < 8 := fun h => hlt ⟨h1, h⟩
              have h2I : ¬ (j : Int) < 8 := by omega
              clear hlt
              go_wp2_with fail
              go_meet
              exact ⟨rfl, rfl⟩
            · have h1I : ¬ (j : Int) < (us.length : Int) := by omega
              clear hlt
              go_wp2_with fail
              go_meet
              exact ⟨rfl, rfl⟩
          case rest =>
            obtain ⟨rfl, rfl⟩ := hcut
            generalize wc = w9 at *
            have HXO := Lib.hid hX.out
            have HBO := Lib.hid hB.out
            have HSO := Lib.hid hS.out
            have HIS : Hid (Sl w9 aO (qs.map bs).length cO ((qs.map bs).map Value.string)) := by rw [List.length_map, hj]; exact own_sl' hO.out
            have HLM : Hid ((qs.map bs).length = j) := by show _ = _; rw [List.length_map]; exact hj
            have hsp := HSPP.out w9 (HT.out w9 HBO.out) ⟨b1, d1, b2, d2, b3, d3, b4, d4, b5, d5, b6, d6, b7, d7⟩ (HIY.out w9 HBO.out) L HST.out.1 aO cO qs HIS.out hql.out (by omega)
            simp only [cells, HLM.out, HSL.out] at hsp
            have HS1 := Lib.hid hsp
            clear hsp hX hB hS hO hlt hju hj8 hj
            have c := HCB.out w9 (HT.out w9 HBO.out)
            have k0 := c.k0
            have k1 := c.k1
            have k2 := c.k2
            have k3 := c.k3
            have k4 := c.k4
            have k5 := c.k5
            have k6 := c.k6
            have k7 := c.k7
            clear c
            try simp only at k0 k1 k2 k3 k4 k5 k6 k7
            have c := HY.out w9 (HBO.out)
            have l0 := c.k0
            have l1 := c.k1
            have l2 := c.k2
            have l3 := c.k3
            have l4 := c.k4
            have l5 := c.k5
            have l6 := c.k6
            have l7 := c.k7
            clear c
            try simp only at l0 l1 l2 l3 l4 l5 l6 l7
            have c := HXO.out
            have j0 := c.at' 0 _ rfl
            have j1 := c.at' 1 _ rfl
            have j2 := c.at' 2 _ rfl
            clear c
            go_wp2_with fail
            with_reducible refine HS1.out.mono ?_
            rintro e w10 ⟨R, aP, cP, outs, rfl, hAm, hol, hOI, hIP, hb10⟩
            clear k0 k1 k2 k3 k4 k5 k6 k7 l0 l1 l2 l3 l4 l5 l6 l7 j0 j1 j2
            obtain ⟨S, inps, hSe, hSi, hoe, hil, hin, hpe⟩ := HPT.out L qs HST.out hql.out R outs (by rw [HSL.out]; exact hAm) (by rw [hol]; exact HQN.out.symm) hOI
            rw [hSe]
            subst hoe
            have HB10 := Lib.hid (HBO.out.trans (hb10.mono HBO.out.size))
            have HIP : Hid (Sl w10 aP inps.length cP (inps.map fun q => Value.string (bs q))) := by
              have e : inps.length = j := by rw [hin, HQN.out]
              have e2 : (inps.map fun q => Value.string (bs q)) = (inps.map bs).map Value.string := by rw [List.map_map]; rfl
              show Sl _ _ _ _ _
              rw [e, e2]
              exact hIP
            have HIQ : Hid (Sl w10 aO qs.length cO (qs.map fun q => Value.string (bs q))) := by
              have e2 : (qs.map fun q => Value.string (bs q)) = (qs.map bs).map Value.string := by rw [List.map_map]; rfl
              have h := HIS.out
              rw [List.length_map] at h
              show Sl _ _ _ _ _
              rw [e2]
              exact h.next hb10
            have HXO2 := Lib.hid (HXO.out.next hb10 HXO.out.lt)
            have hzS : (bs S).size = x.lats.length := by rw [bs_size]; exact hSi.1
            have HIL := Lib.hid hil
            have HSI := Lib.hid hSi
            have HPE := Lib.hid hpe
            have HIN2 : Hid (inps.length = j) := by show _ = _; rw [hin, HQN.out]
            obtain ⟨sS, hsS⟩ : ∃ t, bs S = t := ⟨_, rfl⟩
            rw [hsS] at hzS ⊢
            have HSS := Lib.hid hsS
            clear hAm hol hOI hIP hb10 hil hSi hpe hin hsS hSe
            obtain ⟨W11, hW11⟩ : ∃ U, w10.alloc (.cells #[.int .i64 0, .string sS, .slice aP j cP] 30) = U := ⟨_, rfl⟩
            have hb11 : Below w10.heap.size w10 W11 := by rw [← hW11]; exact (Below.refl _ _).alloc (Nat.le_refl _) _
            have hx11 : BoxN w10.heap.size [.int .i64 0, .string sS, .slice aP j cP] W11 := by rw [← hW11]; exact BoxN.new w10 _ _
            have HB11 := Lib.hid (HB10.out.trans (hb11.mono HB10.out.size))
            have HX11 := Lib.hid hx11
            have HIP1 := Lib.hid (HIP.out.next hb11)
            have HIQ1 := Lib.hid (HIQ.out.next hb11)
            have HXO3 := Lib.hid (HXO2.out.next hb11 HXO2.out.lt)
            have HN11 : Hid (N < w10.heap.size) := HXO2.out.lt
            have HG11 : Hid (W5.heap.size ≤ w10.heap.size) := HB10.out.size
            have HLT11 : Hid (w10.heap.size < W11.heap.size) := hx11.lt
            have HW11 := Lib.hid hW11
            have HBA := Lib.hid hb11
            clear hb11 hx11 hW11
            go_upto_region 27 with fail
            rw [HW11.out]
            have k2 := (HCB.out W11 (HT.out W11 HB11.out)).k2
            try simp only at k2
            have y0 := HX11.out.at' 0 _ rfl
            have y1 := HX11.out.at' 1 _ rfl
            have y2 := HX11.out.at' 2 _ rfl
            have z0 := HX11.out.fz 0
            have m2 := HXO3.out.at' 2 _ rfl
            go_upto_region 30 with fail
            obtain ⟨W12, hW12⟩ : ∃ U, W11.setCell ⟨w10.heap.size, 0, none⟩ (.int .i64 (k : Int)) = U := ⟨_, rfl⟩
            rw [hW12]
            have OB : OffB w10.heap.size W11 W12 := by rw [← hW12]; exact (OffB.refl w10.heap.size W11).set 0 _
            have HX12 : Hid (BoxN w10.heap.size [.int .i64 (k : Int), .string sS, .slice aP j cP] W12) := by show BoxN _ _ _; rw [← hW12]; exact HX11.out.set 0 _
            have HXO4 := Lib.hid (OB.box HXO3.out (by have := HN11.out; omega))
            have HB12 : Hid (Below W5.heap.size W5 W12) := by show Below _ _ _; rw [← hW12]; exact HB11.out.setCell (p := ⟨w10.heap.size, 0, none⟩) HG11.out _
            have hb12 : Below w10.heap.size w10 W12 := by rw [← hW12]; exact HBA.out.setCell (p := ⟨w10.heap.size, 0, none⟩) (Nat.le_refl _) _
            have HB12' := Lib.hid hb12
            have HIPU := Lib.hid (fun (U : World) (h : Below W12.heap.size W12 U) => (HIP.out.next hb12).next h)
            have HIQU := Lib.hid (fun (U : World) (h : Below W12.heap.size W12 U) => (HIQ.out.next hb12).next h)
            clear k2 y0 y1 y2 z0 m2 HX11 HXO3 HIP1 HIQ1 OB hW12 hb12 HB10 HIS HS1 HW11 HUU HUR HRZ HPT HSPP
            have hSK : ∀ U : World, Below W12.heap.size W12 U → U.cell? ⟨w.heap.size, 0, none⟩ = some (.int .i64 x.max) ∧ U.cell? ⟨w.heap.size, 1, none⟩ = some (.slice a1 x.ins.length c1) ∧ U.cell? ⟨w.heap.size, 2, none⟩ = some (.slice a2 x.lats.length c2) ∧ U.cell? ⟨w.heap.size, 3, none⟩ = some (.slice a3 x.outs.length c3) ∧ U.cell? ⟨w.heap.size, 4, none⟩ = some (.slice a4 x.bads.length c4) ∧ U.cell? ⟨w.heap.size, 5, none⟩ = some (.slice a5 x.invs.length c5) ∧ U.cell? ⟨w.heap.size, 6, none⟩ = some (.slice a6 x.ands.length c6) ∧ U.cell? ⟨w.heap.size, 7, none⟩ = some (.slice a7 x.names.length c7) ∧ U.cell? ⟨w4.heap.size, 0, none⟩ = some (.int .i64 y.max) ∧ U.cell? ⟨w4.heap.size, 1, none⟩ = some (.slice b1 y.ins.length d1) ∧ U.cell? ⟨w4.heap.size, 2, none⟩ = some (.slice b2 y.lats.length d2) ∧ U.cell? ⟨w4.heap.size, 3, none⟩ = some (.slice b3 y.outs.length d3) ∧ U.cell? ⟨w4.heap.size, 4, none⟩ = some (.slice b4 y.bads.length d4) ∧ U.cell? ⟨w4.heap.size, 5, none⟩ = some (.slice b5 y.invs.length d5) ∧ U.cell? ⟨w4.heap.size, 6, none⟩ = some (.slice b6 y.ands.length d6) ∧ U.cell? ⟨w4.heap.size, 7, none⟩ = some (.slice b7 y.names.length d7) ∧ U.cell? ⟨N, 0, none⟩ = some (.int .i64 0) ∧ U.cell? ⟨N, 1, none⟩ = some (.string sL) ∧ U.cell? ⟨N, 2, none⟩ = some (.slice aO j cO) ∧ U.cell? ⟨w10.heap.size, 0, none⟩ = some (.int .i64 (k : Int)) ∧ U.cell? ⟨w10.heap.size, 1, none⟩ = some (.string sS) ∧ U.cell? ⟨w10.heap.size, 2, none⟩ = some (.slice aP j cP) := fun U h => by
              have c := HCB.out U (HT.out U (HB12.out.trans (h.mono HB12.out.size)))
              have d := HY.out U (HB12.out.trans (h.mono HB12.out.size))
              have f := HXO4.out.next h HXO4.out.lt
              have g := HX12.out.next h HX12.out.lt
              exact ⟨c.k0, c.k1, c.k2, c.k3, c.k4, c.k5, c.k6, c.k7, d.k0, d.k1, d.k2, d.k3, d.k4, d.k5, d.k6, d.k7, f.at' 0 _ rfl, f.at' 1 _ rfl, f.at' 2 _ rfl, g.at' 0 _ rfl, g.at' 1 _ rfl, g.at' 2 _ rfl⟩
            have b00 : Below W12.heap.size W12 W12.drew := (Below.refl _ _).drew
            have hS0 := hSK _ b00
            refine HeldAll.region (fun U : World => U.cell? ⟨w.heap.size, 0, none⟩ = some (.int .i64 x.max) ∧ U.cell? ⟨w.heap.size, 1, none⟩ = some (.slice a1 x.ins.length c1) ∧ U.cell? ⟨w.heap.size, 2, none⟩ = some (.slice a2 x.lats.length c2) ∧ U.cell? ⟨w.heap.size, 3, none⟩ = some (.slice a3 x.outs.length c3) ∧ U.cell? ⟨w.heap.size, 4, none⟩ = some (.slice a4 x.bads.length c4) ∧ U.cell? ⟨w.heap.size, 5, none⟩ = some (.slice a5 x.invs.length c5) ∧ U.cell? ⟨w.heap.size, 6, none⟩ = some (.slice a6 x.ands.length c6) ∧ U.cell? ⟨w.heap.size, 7, none⟩ = some (.slice a7 x.names.length c7) ∧ U.cell? ⟨w4.heap.size, 0, none⟩ = some (.int .i64 y.max) ∧ U.cell? ⟨w4.heap.size, 1, none⟩ = some (.slice b1 y.ins.length d1) ∧ U.cell? ⟨w4.heap.size, 2, none⟩ = some (.slice b2 y.lats.length d2) ∧ U.cell? ⟨w4.heap.size, 3, none⟩ = some (.slice b3 y.outs.length d3) ∧ U.cell? ⟨w4.heap.size, 4, none⟩ = some (.slice b4 y.bads.length d4) ∧ U.cell? ⟨w4.heap.size, 5, none⟩ = some (.slice b5 y.invs.length d5) ∧ U.cell? ⟨w4.heap.size, 6, none⟩ = some (.slice b6 y.ands.length d6) ∧ U.cell? ⟨w4.heap.size, 7, none⟩ = some (.slice b7 y.names.length d7) ∧ U.cell? ⟨N, 0, none⟩ = some (.int .i64 0) ∧ U.cell? ⟨N, 1, none⟩ = some (.string sL) ∧ U.cell? ⟨N, 2, none⟩ = some (.slice aO j cO) ∧ U.cell? ⟨w10.heap.size, 0, none⟩ = some (.int .i64 (k : Int)) ∧ U.cell? ⟨w10.heap.size, 1, none⟩ = some (.string sS) ∧ U.cell? ⟨w10.heap.size, 2, none⟩ = some (.slice aP j cP)) (by kernel_rfl) ?_
            (refine HeldAll.take (i := 0) (oi := _) (d := some 147) (v := ?_) rfl rfl (by kernel_rfl) (by kernel_rfl) (by kernel_rfl) (fun _ _ _ h => h) (Or.inl ⟨by rfl, ?_⟩) hS0 ?_; rotate_left; (focus (intro w hSw; (try dsimp only at hSw); go_simp; (try with_reducible rfl); done)); (try simp only [Act.put, List.setIfInBounds_toArray, List.set_cons_zero, List.set_cons_succ]))
            (refine HeldAll.take (i := 1) (oi := _) (d := some 148) (v := ?_) rfl rfl (by kernel_rfl) (by kernel_rfl) (by kernel_rfl) (fun _ _ _ h => h) (Or.inl ⟨by rfl, ?_⟩) hS0 ?_; rotate_left; (focus (intro w hSw; clear hSw; go_simp; (try with_reducible rfl); done)); (try simp only [Act.put, List.setIfInBounds_toArray, List.set_cons_zero, List.set_cons_succ]))
            (refine HeldAll.take (i := 2) (oi := _) (d := some 149) (v := ?_) rfl rfl (by kernel_rfl) (by kernel_rfl) (by kernel_rfl) (fun _ _ _ h => h) (Or.inl ⟨by rfl, ?_⟩) hS0 ?_; rotate_left; (focus (intro w hSw; (try dsimp only at hSw); go_simp; (try with_reducible rfl); done)); (try simp only [Act.put, List.setIfInBounds_toArray, List.set_cons_zero, List.set_cons_succ]))
            (refine HeldAll.take (i := 4) (oi := _) (d := some 151) (v := ?_) rfl rfl (by kernel_rfl) (by kernel_rfl) (by kernel_rfl) (fun _ _ _ h => h) (Or.inl ⟨by rfl, ?_⟩) hS0 ?_; rotate_left; (focus (intro w hSw; (try dsimp only at hSw); go_simp; (try with_reducible rfl); done)); (try simp only [Act.put, List.setIfInBounds_toArray, List.set_cons_zero, List.set_cons_succ]))
            (refine HeldAll.take (i := 5) (oi := _) (d := some 152) (v := ?_) rfl rfl (by kernel_rfl) (by kernel_rfl) (by kernel_rfl) (fun _ _ _ h => h) (Or.inl ⟨by rfl, ?_⟩) hS0 ?_; rotate_left; (focus (intro w hSw; clear hSw; go_simp; (try with_reducible rfl); done)); (try simp only [Act.put, List.setIfInBounds_toArray, List.set_cons_zero, List.set_cons_succ]))
            (refine HeldAll.take (i := 6) (oi := _) (d := some 153) (v := ?_) rfl rfl (by kernel_rfl) (by kernel_rfl) (by kernel_rfl) (fun _ _ _ h => h) (Or.inl ⟨by rfl, ?_⟩) hS0 ?_; rotate_left; (focus (intro w hSw; (try dsimp only at hSw); go_simp; (try with_reducible rfl); done)); (try simp only [Act.put, List.setIfInBounds_toArray, List.set_cons_zero, List.set_cons_succ]))
            have hp1 := HPXX.out W12.drew (HT.out _ (HB12.out.trans (b00.mono HB12.out.size))) S HSI.out aP cP inps (HIPU.out _ b00) HIL.out
            simp only [cells, HIN2.out, HSS.out] at hp1
            rw [HPE.out] at hp1
            refine HeldAll.one (i := 3) (by kernel_rfl) ?_
            refine HeldAll.opCall (i := 3) (oi := _) (d := some 150) (R := fun v w' => v = .int .i64 (pathE y A bl L qs) ∧ Below W12.drew.heap.size W12.drew w') rfl rfl (by rfl) (by go_simp; done) (hp1.mono fun e w' h => ⟨_, h.1, rfl, h.2⟩) ?_
            rintro v u1 ⟨rfl, su1⟩
            have bu1 : Below W12.heap.size W12 u1 := b00.trans (su1.mono b00.size)
            refine ⟨hSK _ bu1, ?_⟩
            (try simp only [Act.put, List.setIfInBounds_toArray, List.set_cons_zero, List.set_cons_succ])
            have hp2 := HPYY.out u1 (HT.out _ (HB12.out.trans (bu1.mono HB12.out.size))) ⟨b1, d1, b2, d2, b3, d3, b4, d4, b5, d5, b6, d6, b7, d7⟩ (HIY.out _ (HB12.out.trans (bu1.mono HB12.out.size))) L HST.out aO cO qs (HIQU.out _ bu1) hql.out
            simp only [cells, HQN.out, HSL.out] at hp2
            refine HeldAll.one (i := 7) (by kernel_rfl) ?_
            refine HeldAll.opCall (i := 7) (oi := _) (d := some 154) (R := fun v w' => v = .int .i64 (pathE y A bl L qs) ∧ Below u1.heap.size u1 w') rfl rfl (by rfl) (by go_simp; done) (hp2.mono fun e w' h => ⟨_, h.1, rfl, h.2⟩) ?_
            rintro v u2 ⟨rfl, su2⟩
            have bu2 : Below W12.heap.size W12 u2 := bu1.trans (su2.mono bu1.size)
            refine ⟨hSK _ bu2, ?_⟩
            (try simp only [Act.put, List.setIfInBounds_toArray, List.set_cons_zero, List.set_cons_succ])
            have hS0 := hSK _ bu2
            generalize pathE y A bl L qs = r1 at *
            (refine HeldAll.take (i := 8) (oi := _) (d := some 155) (v := ?_) rfl rfl (by kernel_rfl) (by kernel_rfl) (by kernel_rfl) (fun _ _ _ h => h) (Or.inl ⟨by rfl, ?_⟩) hS0 ?_; rotate_left; (focus (intro w hSw; clear hSw; go_simp; (try with_reducible rfl); done)); (try simp only [Act.put, List.setIfInBounds_toArray, List.set_cons_zero, List.set_cons_succ]))
            (refine HeldAll.take (i := 9) (oi := _) (d := some 10) (v := ?_) rfl rfl (by kernel_rfl) (by kernel_rfl) (by kernel_rfl) (fun _ _ _ h => h) (Or.inl ⟨by rfl, ?_⟩) hS0 ?_; rotate_left; (focus (intro w hSw; clear hSw; go_simp; (try with_reducible rfl); done)); (try simp only [Act.put, List.setIfInBounds_toArray, List.set_cons_zero, List.set_cons_succ]))
            refine HeldAll.done (by kernel_rfl) ?_ _
            clear hS0 hSK
            go_wp2_with fail
            go_ret
            have hfin := HT.out W12 HB12.out
            exact ⟨by simp, HB1.out.trans ((hfin.trans (bu2.mono hfin.size)).mono HB1.out.size)⟩
end Go.Proofs.YtninglnchengeaaGreatDoor.coiSpreads

/-
  interlocklaw35.CoiSpreads: the walk, joined.
-/
namespace Go.Proofs.YtninglnchengeaaGreatDoor.coiSpreads
open Go.RowKit Base Circuit Coi StrashP BadP Spr
set_option linter.unusedVariables false
theorem flat_le (A : List (List Int)) : A.flatten.length ≤ Open.bulkRows A ∧ A.length ≤ Open.bulkRows A := by
  unfold Open.bulkRows
  induction A with
  | nil => simp
  | cons y r ih =>
    have h := Open.bulkInts_eq y
    simp only [List.flatten_cons, List.length_append, List.map_cons, List.sum_cons, List.length_cons]
    omega

theorem walk (x : Circ) (p : At) {w : World} (hin : InCirc w x p) (hw : WfC x) (hz : Open.bulkCirc x ≤ 1048576) (aA : Option Addr) (cA : Nat) (A : List (List Int)) (vals : List Value) (hA : Sl2 w aA A.length cA vals A) (hwA : ∀ l ∈ A, Clause.Wf l) (hzA : Open.bulkRows A ≤ 1048576)
    (bad : Int) (hb : -9223372036854775808 ≤ bad ∧ bad ≤ 9223372036854775807) (free : Int) (hf : 0 ≤ free ∧ free < 18446744073709551616) (aU : Option Addr) (cU : Nat) (us : List Int) (hU : Sl w aU us.length cU (us.map fun v => Value.int .u64 v)) (hu : ∀ v ∈ us, 0 ≤ v ∧ v < 18446744073709551616) (hzU : Open.bulkInts us ≤ 1048576) (W : World) (hW : W = w) :
    Calls Tryz.prog 4 #[.agg (cells x p), .slice aA A.length cA, .int .i64 bad, .int .u64 free, .slice aU us.length cU] W fun e W' => e = .returned (.bool true) ∧ Below W.heap.size W W' := by
  subst hW
  have h64 : ∀ y ∈ A.flatten, Circuit.I64 y := fun y hy => by
    obtain ⟨l, hl, hyl⟩ := List.mem_flatten.1 hy
    exact hwA l hl y hyl
  obtain ⟨h1, h2⟩ := flat_le A
  have h3 : x.ands.length ≤ 4000000 := by unfold Open.bulkCirc at hz; omega
  by_cases hok : askE x A bad = 0
  · obtain ⟨_, g0, g1, _⟩ := askE_zero hok
    obtain ⟨k, rfl⟩ : ∃ k : Nat, bad = (k : Int) := ⟨bad.toNat, by omega⟩
    exact walk_ok W x p hin hw aA A.length cA vals A hA h64 k (by omega) hok (by omega) (by omega) h3 free hf.1 hf.2 aU cU us hU hu
  · exact walk_no W x p hin hw aA A.length cA vals A hA h64 bad hb.1 hb.2 hok (by omega) free _
end Go.Proofs.YtninglnchengeaaGreatDoor.coiSpreads
