/-
  interlockref03.of, Find: a name's literal, the page's way.
-/
import Derived.Test.YtpejpjiipcolbaaFind
namespace Go.Proofs.Ytpejpjiipcolbaa
open Go.RowKit Base
set_option linter.unusedVariables false
set_option linter.unusedSimpArgs false
namespace Circuit

theorem of_count (x : Circ) (k : ByteArray) : (countOf x k : Int) = if countR x k < 0 then (x.invs.length : Int) else countR x k := by
  unfold countR countOf
  split
  · rw [if_neg (by omega)]
  · split
    · rw [if_neg (by omega)]
    · split
      · rw [if_neg (by omega)]
      · split
        · rw [if_neg (by omega)]
        · split
          · rw [if_neg (by omega)]
          · rw [if_pos (by omega)]

set_option maxRecDepth 8000 in
set_option maxHeartbeats 4000000 in
theorem refOf_any (w : World) (x : Circ) (p : At) (k : ByteArray) :
    Calls Try.prog 40 #[.agg (cells x p), .string k] w fun e w' => e = .returned (.int .i64 (countOf x k)) ∧ Below w.heap.size w w' := by
  have HOC := Lib.hid (of_count x k)
  obtain ⟨W1, hW1⟩ : ∃ W1, w.alloc (.cells (cells x p) 27) = W1 := ⟨_, rfl⟩
  obtain ⟨hb1, hcb⟩ := cbox_new w x p W1 hW1
  have HB1 := Lib.hid hb1
  have KB := Lib.hid (fun (U : World) (hU : Below W1.heap.size W1 U) => hcb.next hU (Nat.le_refl _))
  have HC0 := refCount_any W1 x p k
  obtain ⟨a1, c1, a2, c2, a3, c3, a4, c4, a5, c5, a6, c6, a7, c7⟩ := p
  have k0 : W1.cell? ⟨w.heap.size, 0, none⟩ = some (.int .i64 x.max) := hcb.k0
  have k1 : W1.cell? ⟨w.heap.size, 1, none⟩ = some (.slice a1 x.ins.length c1) := hcb.k1
  have k2 : W1.cell? ⟨w.heap.size, 2, none⟩ = some (.slice a2 x.lats.length c2) := hcb.k2
  have k3 : W1.cell? ⟨w.heap.size, 3, none⟩ = some (.slice a3 x.outs.length c3) := hcb.k3
  have k4 : W1.cell? ⟨w.heap.size, 4, none⟩ = some (.slice a4 x.bads.length c4) := hcb.k4
  have k5 : W1.cell? ⟨w.heap.size, 5, none⟩ = some (.slice a5 x.invs.length c5) := hcb.k5
  have k6 : W1.cell? ⟨w.heap.size, 6, none⟩ = some (.slice a6 x.ands.length c6) := hcb.k6
  have k7 : W1.cell? ⟨w.heap.size, 7, none⟩ = some (.slice a7 x.names.length c7) := hcb.k7
  simp only [cells] at hW1 HC0 ⊢
  have HC := Lib.hid HC0
  clear hb1 hcb HC0
  generalize countR x k = q at *
  by_cases hq : q < 0
  · have HR : Hid ((countOf x k : Int) = x.invs.length) := by show _ = _; rw [HOC.out, if_pos hq]
    clear HOC
    generalize (countOf x k : Int) = rr at *
    go_enter Try.func40, Try.ntmps40
    go_wp2_with fail
    with_reducible refine HC.out.mono ?_
    rintro e w3 ⟨rfl, hb3⟩
    have HB3 := Lib.hid (HB1.out.trans (hb3.mono HB1.out.size))
    have j5 : w3.cell? ⟨w.heap.size, 5, none⟩ = some (.slice a5 x.invs.length c5) := (KB.out w3 hb3).k5
    clear hb3
    go_wp2_with fail
    go_ret
    exact ⟨ret_int HR.out.symm, HB3.out⟩
  · have HR : Hid ((countOf x k : Int) = q) := by show _ = _; rw [HOC.out, if_neg hq]
    clear HOC
    generalize (countOf x k : Int) = rr at *
    go_enter Try.func40, Try.ntmps40
    go_wp2_with fail
    with_reducible refine HC.out.mono ?_
    rintro e w3 ⟨rfl, hb3⟩
    have HB3 := Lib.hid (HB1.out.trans (hb3.mono HB1.out.size))
    clear hb3
    go_wp2_with fail
    go_ret
    exact ⟨ret_int HR.out.symm, HB3.out⟩

set_option maxRecDepth 8000 in
set_option maxHeartbeats 16000000 in
theorem refFind_any (w : World) (x : Circ) (p : At) (hin : InCirc w x p) (s : ByteArray) :
    Calls Try.prog 12 #[.agg (cells x p), .string s] w (FindOut w (findOf x s)) := by
  obtain ⟨W1, hW1⟩ : ∃ W1, w.alloc (.cells (cells x p) 27) = W1 := ⟨_, rfl⟩
  obtain ⟨hb1, hcb⟩ := cbox_new w x p W1 hW1
  have hsl := hin.names.next hb1
  have HS := Lib.hid hsl
  have HB1 := Lib.hid hb1
  have HCB := Lib.hid hcb
  have HIN := Lib.hid (fun (U : World) (hU : Below W1.heap.size W1 U) => (hin.next hb1).next hU)
  have hcap := hsl.cap
  have hbig := hsl.big
  clear hin hb1 hcb hsl
  obtain ⟨a1, c1, a2, c2, a3, c3, a4, c4, a5, c5, a6, c6, a7, c7⟩ := p
  simp only at hcap hbig
  have k7 : W1.cell? ⟨w.heap.size, 7, none⟩ = some (.slice a7 x.names.length c7) := HCB.out.k7
  simp only [cells] at hW1 ⊢
  go_enter Try.func12, Try.ntmps12
  go_wp2_with fail
  clear hW1
  go_loopw [6] (fun q wr => ∃ k : Nat, k ≤ x.names.length ∧ q = .int .i64 k ∧ Hid (NoneTo (hit x s) x.names k) ∧ Hid (Below W1.heap.size W1 wr)) (fun q _ => x.names.length - (intOf q).toNat)
  case atStart => exact ⟨0, Nat.zero_le _, rfl, (fun j _ hj => by omega), Below.refl _ _⟩
  case round =>
    obtain ⟨k, hk, rfl, hI, hbr⟩ := hrel
    have k7r : wr.cell? ⟨w.heap.size, 7, none⟩ = some (.slice a7 x.names.length c7) := (HCB.out.next hbr.out (Nat.le_refl _)).k7
    by_cases hlt : k < x.names.length
    · obtain ⟨b, o, hx, rfl, hbs, hc0, hc1, hc2⟩ := Circuit.SlT.name HS.out hlt
      have d0 := (hbr.out.cell (p := ⟨b, o + k * 3, none⟩) hbs).trans hc0
      have d1 := (hbr.out.cell (p := ⟨b, o + k * 3 + 1, none⟩) hbs).trans hc1
      have d2 := (hbr.out.cell (p := ⟨b, o + k * 3 + 2, none⟩) hbs).trans hc2
      clear hc0 hc1 hc2
      have HM := Lib.hid (noneTo_more hI.out hlt)
      have HF := Lib.hid (find_hit hlt hI.out)
      generalize x.names[k] = t at *
      have HT : Hid (hit x s t = ((t.2.2.toList == s.toList) && (decide (0 ≤ t.2.1) && decide (t.2.1 < countOf x t.1)))) := rfl
      obtain ⟨U, hU⟩ : ∃ U, wr.alloc (.cells (nameC t) 39) = U := ⟨_, rfl⟩
      obtain ⟨hbU, hnb⟩ := nbox_new wr t U hU
      have HBU := Lib.hid (hbr.out.trans (hbU.mono hbr.out.size))
      have HNB := Lib.hid hnb
      have HCU := Lib.hid (HCB.out.next HBU.out (Nat.le_refl _))
      clear hbU hnb hI hbr
      simp only [nameC] at hU
      go_upto_region 5 with fail
      have HNE : Hid True := trivial
      cases q1 : (t.2.2.toList == s.toList)
      · have HR := Lib.hid (HM.out (by rw [HT.out, q1]; rfl))
        have n2 := HNB.out.n2
        clear HM HF HT d0 d1 d2 hU
        go_quiet (fail)
        go_wp2_with fail
        go_roundw
        case rel => exact ⟨k + 1, by omega, by go_num, HR.out, below_drewN HBU.out _⟩
        case measure => simp [intOf]; omega
      · by_cases q2 : 0 ≤ t.2.1
        · have hd2 : decide (0 ≤ t.2.1) = true := decide_eq_true q2
          have hn2 : decide (t.2.1 < 0) = false := decide_eq_false (by omega)
          have FI := Lib.hid (nh_first HCU HNB)
          have LC2 := Lib.hid (fun V (hV : NAll w.heap.size wr.heap.size x (⟨a1, c1, a2, c2, a3, c3, a4, c4, a5, c5, a6, c6, some ⟨b, o, none⟩, c7⟩ : At) t U V) => (refOf_any V x (⟨a1, c1, a2, c2, a3, c3, a4, c4, a5, c5, a6, c6, some ⟨b, o, none⟩, c7⟩ : At) t.1).mono fun e w' h => (⟨h.1, nh_all ((nh_in hV).more h.2)⟩ : e = .returned (.int .i64 (countOf x t.1)) ∧ NAll w.heap.size wr.heap.size x (⟨a1, c1, a2, c2, a3, c3, a4, c4, a5, c5, a6, c6, some ⟨b, o, none⟩, c7⟩ : At) t U w'))
          simp only [cells] at LC2
          by_cases q3 : t.2.1 < countOf x t.1
          · have hd3 : decide (t.2.1 < (countOf x t.1 : Int)) = true := decide_eq_true q3
            have hn3 : decide ((countOf x t.1 : Int) ≤ t.2.1) = false := decide_eq_false (by omega)
            have HR := Lib.hid (HF.out (by rw [HT.out, q1, hd2, hd3]; rfl))
            obtain ⟨n, hn⟩ : ∃ n : Nat, t.2.1 = n := ⟨t.2.1.toNat, by omega⟩
            have HLT : Hid (n < countOf x t.1) := by show _ < _; omega
            have HN := Lib.hid hn
            have HC3 := Lib.hid hd3
            clear HM HF HT d0 d1 d2 hU q2 q3 hn
            refine Lex.region (fun w' => NAll w.heap.size wr.heap.size x (⟨a1, c1, a2, c2, a3, c3, a4, c4, a5, c5, a6, c6, some ⟨b, o, none⟩, c7⟩ : At) t U w') (by kernel_rfl) (by kernel_rfl) FI.out ?_
            (refine Lex.step_val (v := ?_) ?_ (fun w' hSw => ?_) ?_; rotate_left; (focus rfl); (focus (clear hSw; go_simp; (try with_reducible rfl); done)); (try simp only [Act.put, List.setIfInBounds_toArray, List.set_cons_zero, List.set_cons_succ]))
            (refine Lex.step_val (v := ?_) ?_ (fun w' hSw => ?_) ?_; rotate_left; (focus rfl); (focus ((try dsimp only at hSw); go_simp; (try with_reducible rfl); done)); (try simp only [Act.put, List.setIfInBounds_toArray, List.set_cons_zero, List.set_cons_succ]))
            (refine Lex.step_val (v := ?_) ?_ (fun w' hSw => ?_) ?_; rotate_left; (focus rfl); (focus (clear hSw; go_simp; (try with_reducible rfl); done)); (try simp only [Act.put, List.setIfInBounds_toArray, List.set_cons_zero, List.set_cons_succ]))
            (refine Lex.step_val (v := ?_) ?_ (fun w' hSw => ?_) ?_; rotate_left; (focus rfl); (focus (clear hSw; go_simp; (try with_reducible rfl); done)); (try simp only [Act.put, List.setIfInBounds_toArray, List.set_cons_zero, List.set_cons_succ]))
            (refine Lex.step_val (v := ?_) ?_ (fun w' hSw => ?_) ?_; rotate_left; (focus rfl); (focus (clear hSw; go_simp; (try with_reducible rfl); done)); (try simp only [Act.put, List.setIfInBounds_toArray, List.set_cons_zero, List.set_cons_succ]))
            (refine Lex.step_val (v := ?_) ?_ (fun w' hSw => ?_) ?_; rotate_left; (focus (go_simp; done)); (focus (clear hSw; go_simp; (try with_reducible rfl); done)); (try simp only [Act.put, List.setIfInBounds_toArray, List.set_cons_zero, List.set_cons_succ]))
            (refine Lex.step_val (v := ?_) ?_ (fun w' hSw => ?_) ?_; rotate_left; (focus (go_simp; done)); (focus ((try dsimp only at hSw); go_simp; (try with_reducible rfl); done)); (try simp only [Act.put, List.setIfInBounds_toArray, List.set_cons_zero, List.set_cons_succ]))
            (refine Lex.step_val (v := ?_) ?_ (fun w' hSw => ?_) ?_; rotate_left; (focus (go_simp; done)); (focus (clear hSw; go_simp; (try with_reducible rfl); done)); (try simp only [Act.put, List.setIfInBounds_toArray, List.set_cons_zero, List.set_cons_succ]))
            (refine Lex.step_val (v := ?_) ?_ (fun w' hSw => ?_) ?_; rotate_left; (focus rfl); (focus (clear hSw; go_simp; (try with_reducible rfl); done)); (try simp only [Act.put, List.setIfInBounds_toArray, List.set_cons_zero, List.set_cons_succ]))
            (refine Lex.step_val (v := ?_) ?_ (fun w' hSw => ?_) ?_; rotate_left; (focus rfl); (focus (clear hSw; go_simp; (try with_reducible rfl); done)); (try simp only [Act.put, List.setIfInBounds_toArray, List.set_cons_zero, List.set_cons_succ]))
            (refine Lex.step_val (v := ?_) ?_ (fun w' hSw => ?_) ?_; rotate_left; (focus (go_simp; done)); (focus (clear hSw; go_simp; (try with_reducible rfl); done)); (try simp only [Act.put, List.setIfInBounds_toArray, List.set_cons_zero, List.set_cons_succ]))
            (refine Lex.step_val (v := ?_) ?_ (fun w' hSw => ?_) ?_; rotate_left; (focus (go_simp; done)); (focus ((try dsimp only at hSw); go_simp; (try with_reducible rfl); done)); (try simp only [Act.put, List.setIfInBounds_toArray, List.set_cons_zero, List.set_cons_succ]))
            (refine Lex.step_val (v := ?_) ?_ (fun w' hSw => ?_) ?_; rotate_left; (focus (go_simp; done)); (focus ((try dsimp only at hSw); go_simp; (try with_reducible rfl); done)); (try simp only [Act.put, List.setIfInBounds_toArray, List.set_cons_zero, List.set_cons_succ]))
            (refine Lex.step_val (v := ?_) ?_ (fun w' hSw => ?_) ?_; rotate_left; (focus (go_simp; done)); (focus (clear hSw; go_simp; (try with_reducible rfl); done)); (try simp only [Act.put, List.setIfInBounds_toArray, List.set_cons_zero, List.set_cons_succ]))
            (refine Lex.step_val (v := ?_) ?_ (fun w' hSw => ?_) ?_; rotate_left; (focus (go_simp; done)); (focus ((try dsimp only at hSw); go_simp; (try with_reducible rfl); done)); (try simp only [Act.put, List.setIfInBounds_toArray, List.set_cons_zero, List.set_cons_succ]))
            (refine Lex.step_call (v := ?_) (f := ?_) (args := ?_) ?_ (fun w' hSw => ?_) ?_ ?_; rotate_left 3; (focus (go_simp; done)); (focus (clear hSw; go_simp; (refine And.intro ?_ ?_ <;> with_reducible rfl); done)); (focus (first | with_reducible exact LC2.out)); (try simp only [Act.put, List.setIfInBounds_toArray, List.set_cons_zero, List.set_cons_succ]))
            (refine Lex.step_val (v := ?_) ?_ (fun w' hSw => ?_) ?_; rotate_left; (focus (go_simp; done)); (focus (clear hSw; go_simp; (try with_reducible rfl); done)); (try simp only [Act.put, List.setIfInBounds_toArray, List.set_cons_zero, List.set_cons_succ]))
            (refine Lex.step_val (v := ?_) ?_ (fun w' hSw => ?_) ?_; rotate_left; (focus rfl); (focus (clear hSw; go_simp; (try with_reducible rfl); done)); (try simp only [Act.put, List.setIfInBounds_toArray, List.set_cons_zero, List.set_cons_succ]))
            refine Lex.step_nil ?_
            intro wz hz
            have HBZ := Lib.hid (HBU.out.trans ((nh_in hz).below.mono HBU.out.size))
            have n0 := (nh_in hz).nb.n0
            have n1 := (nh_in hz).nb.n1
            have n2 := (nh_in hz).nb.n2
            have CB := Lib.hid (nh_in hz).cb
            have HB9 := Lib.hid (HB1.out.trans (HBZ.out.mono HB1.out.size))
            have HCO : Hid (countOf x t.1 = if (t.1.toList == [105]) = true then x.ins.length else if (t.1.toList == [108]) = true then x.lats.length else if (t.1.toList == [111]) = true then x.outs.length else if (t.1.toList == [98]) = true then x.bads.length else x.invs.length) := rfl
            have HLI : Hid (litOf x t.1 n = if (t.1.toList == [105]) = true then x.ins.getD n 0 else if (t.1.toList == [108]) = true then (x.lats.getD n (0, 0, 0)).1 else if (t.1.toList == [111]) = true then x.outs.getD n 0 else if (t.1.toList == [98]) = true then x.bads.getD n 0 else x.invs.getD n 0) := rfl
            rw [HN.out] at n1
            clear hz
            cases h1 : (t.1.toList == [105])
            · skip
              cases h2 : (t.1.toList == [108])
              · skip
                cases h3 : (t.1.toList == [111])
                · skip
                  cases h4 : (t.1.toList == [98])
                  · skip
                    have hlen : n < x.invs.length := by have h := HLT.out; rw [HCO.out] at h; simpa [*] using h
                    have hsl2 := (HIN.out wz HBZ.out).invs
                    have hcap2 := hsl2.cap
                    have hbig2 := hsl2.big
                    obtain ⟨b2, o2, hx2, hae, hbs2, e0⟩ := hsl2.int hlen
                    simp only at hae hcap2 hbig2
                    have HRR : Hid (findOf x s = some x.invs[n]) := by show _ = _; rw [HR.out, HN.out, Int.toNat_natCast, HLI.out]; simp [*, List.getD, List.getElem?_eq_getElem hx2]
                    generalize x.invs[n] = y at *
                    subst hae
                    have k5 : wz.cell? ⟨w.heap.size, 5, none⟩ = some (.slice (some ⟨b2, o2, none⟩) x.invs.length c5) := CB.out.k5
                    clear hsl2 HR
                    go_wp2_with fail
                    refine bodyPost_ret (v := .tuple #[.int .i64 y, .bool true]) (by simp [results, Try.results12, go_sem]) rfl ?_
                    refine ⟨?_, HB9.out⟩
                    rw [HRR.out]
                  · skip
                    have hlen : n < x.bads.length := by have h := HLT.out; rw [HCO.out] at h; simpa [*] using h
                    have hsl2 := (HIN.out wz HBZ.out).bads
                    have hcap2 := hsl2.cap
                    have hbig2 := hsl2.big
                    obtain ⟨b2, o2, hx2, hae, hbs2, e0⟩ := hsl2.int hlen
                    simp only at hae hcap2 hbig2
                    have HRR : Hid (findOf x s = some x.bads[n]) := by show _ = _; rw [HR.out, HN.out, Int.toNat_natCast, HLI.out]; simp [*, List.getD, List.getElem?_eq_getElem hx2]
                    generalize x.bads[n] = y at *
                    subst hae
                    have k4 : wz.cell? ⟨w.heap.size, 4, none⟩ = some (.slice (some ⟨b2, o2, none⟩) x.bads.length c4) := CB.out.k4
                    clear hsl2 HR
                    go_wp2_with fail
                    refine bodyPost_ret (v := .tuple #[.int .i64 y, .bool true]) (by simp [results, Try.results12, go_sem]) rfl ?_
                    refine ⟨?_, HB9.out⟩
                    rw [HRR.out]
                · skip
                  have hlen : n < x.outs.length := by have h := HLT.out; rw [HCO.out] at h; simpa [*] using h
                  have hsl2 := (HIN.out wz HBZ.out).outs
                  have hcap2 := hsl2.cap
                  have hbig2 := hsl2.big
                  obtain ⟨b2, o2, hx2, hae, hbs2, e0⟩ := hsl2.int hlen
                  simp only at hae hcap2 hbig2
                  have HRR : Hid (findOf x s = some x.outs[n]) := by show _ = _; rw [HR.out, HN.out, Int.toNat_natCast, HLI.out]; simp [*, List.getD, List.getElem?_eq_getElem hx2]
                  generalize x.outs[n] = y at *
                  subst hae
                  have k3 : wz.cell? ⟨w.heap.size, 3, none⟩ = some (.slice (some ⟨b2, o2, none⟩) x.outs.length c3) := CB.out.k3
                  clear hsl2 HR
                  go_wp2_with fail
                  refine bodyPost_ret (v := .tuple #[.int .i64 y, .bool true]) (by simp [results, Try.results12, go_sem]) rfl ?_
                  refine ⟨?_, HB9.out⟩
                  rw [HRR.out]
              · skip
                have hlen : n < x.lats.length := by have h := HLT.out; rw [HCO.out] at h; simpa [*] using h
                have hsl2 := (HIN.out wz HBZ.out).lats
                have hcap2 := hsl2.cap
                have hbig2 := hsl2.big
                obtain ⟨b2, o2, hx2, hae, hbs2, e0, e1, e2⟩ := hsl2.tri hlen
                simp only at hae hcap2 hbig2
                have HRR : Hid (findOf x s = some x.lats[n].1) := by show _ = _; rw [HR.out, HN.out, Int.toNat_natCast, HLI.out]; simp [*, List.getD, List.getElem?_eq_getElem hx2]
                generalize x.lats[n].1 = y at *
                subst hae
                have k2 : wz.cell? ⟨w.heap.size, 2, none⟩ = some (.slice (some ⟨b2, o2, none⟩) x.lats.length c2) := CB.out.k2
                clear hsl2 HR
                go_wp2_with fail
                refine bodyPost_ret (v := .tuple #[.int .i64 y, .bool true]) (by simp [results, Try.results12, go_sem]) rfl ?_
                refine ⟨?_, HB9.out⟩
                rw [HRR.out]
            · skip
              have hlen : n < x.ins.length := by have h := HLT.out; rw [HCO.out] at h; simpa [*] using h
              have hsl2 := (HIN.out wz HBZ.out).ins
              have hcap2 := hsl2.cap
              have hbig2 := hsl2.big
              obtain ⟨b2, o2, hx2, hae, hbs2, e0⟩ := hsl2.int hlen
              simp only at hae hcap2 hbig2
              have HRR : Hid (findOf x s = some x.ins[n]) := by show _ = _; rw [HR.out, HN.out, Int.toNat_natCast, HLI.out]; simp [*, List.getD, List.getElem?_eq_getElem hx2]
              generalize x.ins[n] = y at *
              subst hae
              have k1 : wz.cell? ⟨w.heap.size, 1, none⟩ = some (.slice (some ⟨b2, o2, none⟩) x.ins.length c1) := CB.out.k1
              clear hsl2 HR
              go_wp2_with fail
              refine bodyPost_ret (v := .tuple #[.int .i64 y, .bool true]) (by simp [results, Try.results12, go_sem]) rfl ?_
              refine ⟨?_, HB9.out⟩
              rw [HRR.out]
          · have hd3 : decide (t.2.1 < (countOf x t.1 : Int)) = false := decide_eq_false q3
            have hn3 : decide ((countOf x t.1 : Int) ≤ t.2.1) = true := decide_eq_true (by omega)
            have HR := Lib.hid (HM.out (by rw [HT.out, q1, hd2, hd3]; rfl))
            clear HM HF HT d0 d1 d2 hU q2 q3
            refine Lex.region (fun w' => NAll w.heap.size wr.heap.size x (⟨a1, c1, a2, c2, a3, c3, a4, c4, a5, c5, a6, c6, some ⟨b, o, none⟩, c7⟩ : At) t U w') (by kernel_rfl) (by kernel_rfl) FI.out ?_
            (refine Lex.step_val (v := ?_) ?_ (fun w' hSw => ?_) ?_; rotate_left; (focus rfl); (focus (clear hSw; go_simp; (try with_reducible rfl); done)); (try simp only [Act.put, List.setIfInBounds_toArray, List.set_cons_zero, List.set_cons_succ]))
            (refine Lex.step_val (v := ?_) ?_ (fun w' hSw => ?_) ?_; rotate_left; (focus rfl); (focus ((try dsimp only at hSw); go_simp; (try with_reducible rfl); done)); (try simp only [Act.put, List.setIfInBounds_toArray, List.set_cons_zero, List.set_cons_succ]))
            (refine Lex.step_val (v := ?_) ?_ (fun w' hSw => ?_) ?_; rotate_left; (focus rfl); (focus (clear hSw; go_simp; (try with_reducible rfl); done)); (try simp only [Act.put, List.setIfInBounds_toArray, List.set_cons_zero, List.set_cons_succ]))
            (refine Lex.step_val (v := ?_) ?_ (fun w' hSw => ?_) ?_; rotate_left; (focus rfl); (focus (clear hSw; go_simp; (try with_reducible rfl); done)); (try simp only [Act.put, List.setIfInBounds_toArray, List.set_cons_zero, List.set_cons_succ]))
            (refine Lex.step_val (v := ?_) ?_ (fun w' hSw => ?_) ?_; rotate_left; (focus rfl); (focus (clear hSw; go_simp; (try with_reducible rfl); done)); (try simp only [Act.put, List.setIfInBounds_toArray, List.set_cons_zero, List.set_cons_succ]))
            (refine Lex.step_val (v := ?_) ?_ (fun w' hSw => ?_) ?_; rotate_left; (focus (go_simp; done)); (focus (clear hSw; go_simp; (try with_reducible rfl); done)); (try simp only [Act.put, List.setIfInBounds_toArray, List.set_cons_zero, List.set_cons_succ]))
            (refine Lex.step_val (v := ?_) ?_ (fun w' hSw => ?_) ?_; rotate_left; (focus (go_simp; done)); (focus ((try dsimp only at hSw); go_simp; (try with_reducible rfl); done)); (try simp only [Act.put, List.setIfInBounds_toArray, List.set_cons_zero, List.set_cons_succ]))
            (refine Lex.step_val (v := ?_) ?_ (fun w' hSw => ?_) ?_; rotate_left; (focus (go_simp; done)); (focus (clear hSw; go_simp; (try with_reducible rfl); done)); (try simp only [Act.put, List.setIfInBounds_toArray, List.set_cons_zero, List.set_cons_succ]))
            (refine Lex.step_val (v := ?_) ?_ (fun w' hSw => ?_) ?_; rotate_left; (focus rfl); (focus (clear hSw; go_simp; (try with_reducible rfl); done)); (try simp only [Act.put, List.setIfInBounds_toArray, List.set_cons_zero, List.set_cons_succ]))
            (refine Lex.step_val (v := ?_) ?_ (fun w' hSw => ?_) ?_; rotate_left; (focus rfl); (focus (clear hSw; go_simp; (try with_reducible rfl); done)); (try simp only [Act.put, List.setIfInBounds_toArray, List.set_cons_zero, List.set_cons_succ]))
            (refine Lex.step_val (v := ?_) ?_ (fun w' hSw => ?_) ?_; rotate_left; (focus (go_simp; done)); (focus (clear hSw; go_simp; (try with_reducible rfl); done)); (try simp only [Act.put, List.setIfInBounds_toArray, List.set_cons_zero, List.set_cons_succ]))
            (refine Lex.step_val (v := ?_) ?_ (fun w' hSw => ?_) ?_; rotate_left; (focus (go_simp; done)); (focus ((try dsimp only at hSw); go_simp; (try with_reducible rfl); done)); (try simp only [Act.put, List.setIfInBounds_toArray, List.set_cons_zero, List.set_cons_succ]))
            (refine Lex.step_val (v := ?_) ?_ (fun w' hSw => ?_) ?_; rotate_left; (focus (go_simp; done)); (focus ((try dsimp only at hSw); go_simp; (try with_reducible rfl); done)); (try simp only [Act.put, List.setIfInBounds_toArray, List.set_cons_zero, List.set_cons_succ]))
            (refine Lex.step_val (v := ?_) ?_ (fun w' hSw => ?_) ?_; rotate_left; (focus (go_simp; done)); (focus (clear hSw; go_simp; (try with_reducible rfl); done)); (try simp only [Act.put, List.setIfInBounds_toArray, List.set_cons_zero, List.set_cons_succ]))
            (refine Lex.step_val (v := ?_) ?_ (fun w' hSw => ?_) ?_; rotate_left; (focus (go_simp; done)); (focus ((try dsimp only at hSw); go_simp; (try with_reducible rfl); done)); (try simp only [Act.put, List.setIfInBounds_toArray, List.set_cons_zero, List.set_cons_succ]))
            (refine Lex.step_call (v := ?_) (f := ?_) (args := ?_) ?_ (fun w' hSw => ?_) ?_ ?_; rotate_left 3; (focus (go_simp; done)); (focus (clear hSw; go_simp; (refine And.intro ?_ ?_ <;> with_reducible rfl); done)); (focus (first | with_reducible exact LC2.out)); (try simp only [Act.put, List.setIfInBounds_toArray, List.set_cons_zero, List.set_cons_succ]))
            (refine Lex.step_val (v := ?_) ?_ (fun w' hSw => ?_) ?_; rotate_left; (focus (go_simp; done)); (focus (clear hSw; go_simp; (try with_reducible rfl); done)); (try simp only [Act.put, List.setIfInBounds_toArray, List.set_cons_zero, List.set_cons_succ]))
            (refine Lex.step_val (v := ?_) ?_ (fun w' hSw => ?_) ?_; rotate_left; (focus rfl); (focus (clear hSw; go_simp; (try with_reducible rfl); done)); (try simp only [Act.put, List.setIfInBounds_toArray, List.set_cons_zero, List.set_cons_succ]))
            refine Lex.step_nil ?_
            intro wz hz
            have HBZ := Lib.hid (HBU.out.trans ((nh_in hz).below.mono HBU.out.size))
            clear hz
            go_wp2_with fail
            go_roundw
            case rel => exact ⟨k + 1, by omega, by go_num, HR.out, HBZ.out⟩
            case measure => simp [intOf]; omega
        · have hd2 : decide (0 ≤ t.2.1) = false := decide_eq_false q2
          have HR := Lib.hid (HM.out (by rw [HT.out, q1, hd2]; rfl))
          have n2 := HNB.out.n2
          have n1 := HNB.out.n1
          have hq2 : t.2.1 < 0 := by omega
          clear HM HF HT d0 d1 d2 hU q2
          go_quiet (fail)
          go_wp2_with fail
          go_roundw
          case rel => exact ⟨k + 1, by omega, by go_num, HR.out, below_drewN HBU.out _⟩
          case measure => simp [intOf]; omega
    · have HR := Lib.hid (find_none (s := s) (by have h := hI.out; rw [show k = x.names.length by omega] at h; exact h))
      have HB9 := Lib.hid (HB1.out.trans (hbr.out.mono HB1.out.size))
      clear hI hbr
      go_wp2_with fail
      refine bodyPost_ret (v := .tuple #[.int .i64 0, .bool false]) (by simp [results, Try.results12, go_sem]) rfl ?_
      refine ⟨?_, HB9.out⟩
      rw [HR.out]
end Circuit
end Go.Proofs.Ytpejpjiipcolbaa
